/- What the functions that the law BranchSights reaches come to, and why it holds: part 9. -/
import Derived.Test.YtpjnpibgnkgnaaaGreatBranchSights8
import Derived.Deep.Slices
import Derived.ChangeArms
namespace Go.Proofs.Wb
open Go Go.Fw Go.Gx Go.Sb
set_option linter.unusedVariables false
set_option maxRecDepth 100000
def inA (n : Nat) (l : List Int) : Bool := l.all fun x => inb x 0 ((n : Int) - 1)
def dupB (l : List Int) : Bool := (List.range l.length).any fun s => decide (l.getD s 0 ∈ l.take s)
theorem ja5 {a b : Int} {f : List Int} {sa : List Sand} {sg : List Sight} (hsg : sg.length ≤ 1000) {l : List Int} (hl : l.length ≤ 1000) : zf l a b f sa sg = some (inA sg.length l) := by
  unfold zf ym zl
  rw [contains_loop (f := qh l a b f sa sg) l 0 (fun x => !inb x 0 ((sg.length : Int) - 1)) (by omega) (fun k hk => ?_) ?_]
  · rw [Option.bind_some]
    unfold inA
    congr 1
    rw [List.not_any_eq_all_not]
    simp
  · unfold qh
    rw [if_neg (by omega)]
  · unfold qh zG KI
    rw [if_pos (by omega), ix_nat 0 hk, Option.bind_some, subc_eq (by omega), Option.bind_some, Yi, Option.bind_some, Option.bind_some, Option.bind_some]
    cases inb (l.getD k 0) 0 ((sg.length : Int) - 1) with
    | true => rw [if_neg (by decide), if_neg (by decide), addc_eq (by omega), Option.bind_some]
    | false => rfl
theorem jbt {c : Channel} (h : Few c) {l : List Int} (hl : l.length ≤ 1000) : Kt c l = some (if chk c = 0 then (if inA c.sights.length l = true then (if dupB l = true then ⟨false, 5⟩ else ⟨decide (0 < cntS (cIn l) c), 0⟩) else ⟨false, 1⟩) else ⟨false, chk c⟩) := by
  unfold Kt
  rw [Zl h, Option.bind_some]
  by_cases h0 : chk c = 0
  · have r := rightOf h0
    have hs := r.sights
    rw [if_pos h0, if_pos h0, oc_inr, ja5 (by omega) hl, Option.bind_some, not_true_if]
    by_cases h1 : inA c.sights.length l = true
    · rw [if_pos h1, if_pos h1]
      have key := iterM_any0 (f := JA l) l.length (fun s => decide (l.getD s 0 ∈ l.take s)) (⟨false, 5⟩ : yj) (fun k hk => ?_) ?_ (N := FU) (FU_lt (by omega))
      · rw [key, Option.bind_some]
        show oc (if dupB l = true then _ else _) _ _ = _
        by_cases h2 : dupB l = true
        · rw [if_pos h2, if_pos h2, oc_inr]
        · rw [if_neg h2, if_neg h2, oc_inl]
          unfold z6
          rw [Option.bind_some, Y2 r (by omega), Option.bind_some]
      · unfold JA
        rw [if_pos (by omega), ix_nat 0 hk, Option.bind_some, if_pos (by omega), Int.toNat_natCast, Kf (by rw [List.length_take]; omega), Option.bind_some]
        by_cases h2 : l.getD k 0 ∈ l.take k
        · rw [if_pos (decide_eq_true h2), if_pos (decide_eq_true h2)]
        · rw [if_neg (by simpa using h2), if_neg (by simpa using h2), addc_eq (by omega), Option.bind_some]
      · unfold JA
        rw [if_neg (by omega)]
    · rw [if_neg h1, if_neg h1]
  · rw [if_neg h0, if_neg h0, oc_inl]
def setN (l : List Int) : Nat := (l.map fun x => 2 ^ x.toNat).sum
theorem jb2 {l : List Int} (hl : l.length ≤ 12) (hx : ∀ x ∈ l, 0 ≤ x ∧ x < 5) : Ju l = some (setN l : Int) := by
  unfold Ju
  have hb : ∀ m : List Int, (∀ x ∈ m, 0 ≤ x ∧ x < 5) → setN m ≤ m.length * 32 := by
    intro m hm
    refine sum_le (fun x : Int => 2 ^ x.toNat) 32 m (fun x hx => ?_)
    have h1 := hm x hx
    have : 2 ^ x.toNat ≤ 2 ^ 5 := Nat.pow_le_pow_right (by omega) (by omega)
    exact this
  have inner : ∀ (j : Nat) (hj : j < l.length) (n : Int), iterM FU (yf l ⟨n, (j : Int)⟩) ⟨1, 0⟩ = some ((2 ^ (l.getD j 0).toNat : Nat) : Int) := by
    intro j hj n
    have h1 := hx _ (getD_mem (d := 0) hj)
    have key := iterM_run (f := yf l ⟨n, (j : Int)⟩) (fun k => ⟨((2 ^ k : Nat) : Int), (k : Int)⟩) (l.getD j 0).toNat (b := ((2 ^ (l.getD j 0).toNat : Nat) : Int)) (fun k hk => ?_) ?_ FU (FU_lt (by omega))
    · exact key
    · have h2 : 2 ^ k ≤ 2 ^ 5 := Nat.pow_le_pow_right (by omega) (by omega)
      have e5 : (2 : Nat) ^ 5 = 32 := by decide
      have e : 2 ^ (k + 1) = 2 * 2 ^ k := by rw [Nat.pow_succ]; omega
      unfold yf
      simp only
      rw [ix_nat 0 hj, Option.bind_some, if_pos (by omega), mulc_eq (by omega), Option.bind_some, addc_eq (by omega), Option.bind_some, e]
      congr 3
    · unfold yf
      simp only
      rw [ix_nat 0 hj, Option.bind_some, if_neg (by omega)]
  have key := iterM_run (f := yg l) (fun j => ⟨(setN (l.take j) : Int), (j : Int)⟩) l.length (b := (setN l : Int)) (fun j hj => ?_) ?_ FU (FU_lt (by omega))
  · have key' : iterM FU (yg l) ⟨0, 0⟩ = _ := key
    rw [key']; rfl
  · have e : l.take (j + 1) = l.take j ++ [l.getD j 0] := by
      rw [← List.take_append_getElem hj]
      congr 2
      simp [List.getD_eq_getElem?_getD, hj]
    have e2 : setN (l.take (j + 1)) = setN (l.take j) + 2 ^ (l.getD j 0).toNat := by
      unfold setN
      rw [e, List.map_append, List.sum_append]
      simp
    have h1 := hb (l.take j) (fun x hx' => hx x (List.mem_of_mem_take hx'))
    rw [List.length_take] at h1
    have h3 := hx _ (getD_mem (d := 0) hj)
    have h2 : 2 ^ (l.getD j 0).toNat ≤ 2 ^ 5 := Nat.pow_le_pow_right (by omega) (by omega)
    have e5 : (2 : Nat) ^ 5 = 32 := by decide
    unfold yg
    simp only
    rw [if_pos (by omega), inner j hj, Option.bind_some, e2]
    generalize 2 ^ (l.getD j 0).toNat = w at h2
    rw [addc_eq (by omega), Option.bind_some, addc_eq (by omega), Option.bind_some]
    congr 3
  · unfold yg
    simp only
    rw [if_neg (by omega), List.take_length]
theorem nodup_of {l : List Int} (h : dupB l = false) : l.Nodup := by
  unfold dupB at h
  rw [List.any_eq_false] at h
  rw [List.Nodup, List.pairwise_iff_getElem]
  intro i j hi hj hij e
  have h1 := h j (by simpa using hj)
  rw [decide_eq_true_eq] at h1
  apply h1
  have e2 : l.getD j 0 = l[j] := by simp [List.getD_eq_getElem?_getD, hj]
  rw [e2, ← e]
  rw [List.mem_take_iff_getElem]
  exact ⟨i, by omega, rfl⟩
theorem set_bits : ∀ {l : List Int}, l.Nodup → (∀ x ∈ l, 0 ≤ x ∧ x < 5) → setN l < 32 ∧ ∀ i, i < 5 → bitN (setN l) i = decide ((i : Int) ∈ l)
  | [], _, _ => ⟨by decide, fun i hi => by
      have : bitN (setN []) i = false := by
        have : i = 0 ∨ i = 1 ∨ i = 2 ∨ i = 3 ∨ i = 4 := by omega
        rcases this with rfl | rfl | rfl | rfl | rfl <;> rfl
      rw [this]; simp⟩
  | x :: l, hn, hx => by
    obtain ⟨h1, h2⟩ := set_bits (List.nodup_cons.1 hn).2 (fun y hy => hx y (List.mem_cons_of_mem _ hy))
    have hx0 := hx x (by simp)
    have ex : ((x.toNat : Nat) : Int) = x := by omega
    have hb : bitN (setN l) x.toNat = false := by
      rw [h2 x.toNat (by omega), ex]
      exact decide_eq_false (List.nodup_cons.1 hn).1
    obtain ⟨h3, h4⟩ := bit_add h1 (show x.toNat < 5 by omega) hb
    have e : setN (x :: l) = setN l + 2 ^ x.toNat := by
      unfold setN
      rw [List.map_cons, List.sum_cons, Nat.add_comm]
    rw [e]
    refine ⟨h3, fun i hi => ?_⟩
    rw [h4 i hi, h2 i hi, Bool.eq_iff_iff, Bool.or_eq_true, decide_eq_true_eq, decide_eq_true_eq, decide_eq_true_eq, List.mem_cons]
    constructor
    · rintro (h | h)
      · exact .inr h
      · exact .inl (by omega)
    · rintro (h | h)
      · exact .inr (by omega)
      · exact .inl h
theorem dup_row {l : List Int} {i : Nat} (hi : i < l.length) : ((List.range i).any fun j => decide (l.getD i 0 = l.getD j 0)) = decide (l.getD i 0 ∈ l.take i) := by
  rw [Bool.eq_iff_iff, List.any_eq_true, decide_eq_true_eq, List.mem_take_iff_getElem]
  constructor
  · rintro ⟨j, hj, h⟩
    have hj' : j < i := by simpa using hj
    rw [decide_eq_true_eq] at h
    refine ⟨j, by omega, ?_⟩
    rw [h]
    simp [List.getD_eq_getElem?_getD, (show j < l.length by omega)]
  · rintro ⟨j, hj, h⟩
    refine ⟨j, by simp; omega, ?_⟩
    rw [decide_eq_true_eq, ← h]
    simp [List.getD_eq_getElem?_getD, (show j < l.length by omega)]
theorem inA_iff {n : Nat} {l : List Int} : inA n l = true ↔ ∀ x ∈ l, 0 ≤ x ∧ x < (n : Int) := by
  unfold inA
  rw [List.all_eq_true]
  constructor
  · intro h x hx
    have := inb_iff.1 (h x hx)
    omega
  · intro h x hx
    have := h x hx
    exact inb_iff.2 (by omega)
theorem jaz {c : Channel} (h : Few c) {l : List Int} (hl : l.length ≤ 12) (hn : chk c = 0 → c.sights.length < 6) : zq c l = some (if chk c = 0 then (if inA c.sights.length l = true then (if dupB l = true then ⟨false, 5⟩ else ⟨decide (0 < cntS (cIn l) c), 0⟩) else ⟨false, 1⟩) else ⟨false, chk c⟩) := by
  unfold zq
  rw [refCheck_eq h, Option.bind_some]
  by_cases h0 : chk c = 0
  · have r := rightOf h0
    have hs := r.sights
    have hn' := hn h0
    rw [if_pos h0, if_pos h0]
    have key := iterM_any0 (f := yv l c) l.length (fun s => !inb (l.getD s 0) 0 ((c.sights.length : Int) - 1)) (⟨false, 1⟩ : jU) (fun k hk => ?_) ?_ (N := FU) (FU_lt (by omega))
    · rw [key, Option.bind_some, any_range (p := fun x => !inb x 0 ((c.sights.length : Int) - 1))]
      have e : (l.any fun x => !inb x 0 ((c.sights.length : Int) - 1)) = !inA c.sights.length l := by
        unfold inA
        rw [List.not_all_eq_any_not]
      rw [e, not_true_if]
      by_cases h1 : inA c.sights.length l = true
      · rw [if_pos h1, if_pos h1, oc_inl]
        have hx := inA_iff.1 h1
        have key2 := iterM_any0 (f := yu l) l.length (fun s => decide (l.getD s 0 ∈ l.take s)) (⟨false, 5⟩ : jU) (fun k hk => ?_) ?_ (N := FU) (FU_lt (by omega))
        · rw [key2, Option.bind_some]
          show oc (if dupB l = true then _ else _) _ _ = _
          by_cases h2 : dupB l = true
          · rw [if_pos h2, if_pos h2, oc_inr]
          · rw [if_neg h2, if_neg h2, oc_inl]
            have hd : dupB l = false := by simpa using h2
            obtain ⟨b1, b2⟩ := set_bits (nodup_of hd) (fun x hx' => by have := hx x hx'; omega)
            rw [jb2 hl (fun x hx' => by have := hx x hx'; omega), Option.bind_some, Yw r (by omega), Option.bind_some]
            have ec : cntS (bitN (setN l)) c = cntS (cIn l) c := cnt_congr fun i hi => by
              unfold cIn
              rw [b2 i (by omega)]
            rw [ec]
            congr 2
            rw [Bool.eq_iff_iff, decide_eq_true_eq, decide_eq_true_eq]
            omega
        · unfold yu
          rw [if_pos (by omega)]
          have key3 := iterM_any0 (f := yt (k : Int) l) k (fun j => decide (l.getD k 0 = l.getD j 0)) (⟨false, 5⟩ : jU) (fun j hj => ?_) ?_ (N := FU) (FU_lt (by omega))
          · rw [key3, Option.bind_some, dup_row hk]
            by_cases h2 : l.getD k 0 ∈ l.take k
            · rw [if_pos (decide_eq_true h2), if_pos (decide_eq_true h2), oc_inr]
            · rw [if_neg (by simpa using h2), if_neg (by simpa using h2), oc_inl, addc_eq (by omega), Option.bind_some]
          · unfold yt
            rw [if_pos (by omega), ix_nat 0 hk, Option.bind_some, ix_nat 0 (by omega), Option.bind_some]
            by_cases h2 : l.getD k 0 = l.getD j 0
            · rw [if_pos h2, if_pos (decide_eq_true h2)]
            · rw [if_neg h2, if_neg (by simpa using h2), addc_eq (by omega), Option.bind_some]
          · unfold yt
            rw [if_neg (by omega)]
        · unfold yu
          rw [if_neg (by omega)]
      · rw [if_neg h1, if_neg h1, oc_inr]
    · unfold yv
      rw [if_pos (by omega), ix_nat 0 hk, Option.bind_some, subc_eq (by omega), Option.bind_some, KE, Option.bind_some]
      cases inb (l.getD k 0) 0 ((c.sights.length : Int) - 1) with
      | true => rw [if_neg (by decide), if_neg (by decide), addc_eq (by omega), Option.bind_some]
      | false => rfl
    · unfold yv
      rw [if_neg (by omega)]
  · rw [if_neg h0, if_neg h0]
theorem memN_len (m : Nat) : (memN m).length ≤ 5 := by
  unfold memN
  rw [List.length_map]
  exact filt_le _ 5
theorem memO_len (o : Option Nat) : (memO o).length < 1000000 := by
  cases o with
  | none => exact (by decide : ([] : List Int).length < 1000000)
  | some b =>
    have := memN_len b
    show (memN b).length < 1000000
    omega
theorem chk_few {c : Channel} (h : chk c = 0) : c.sights.length ≤ 8 := by
  have h1 : okMany c = true := by
    cases hq : okMany c with
    | true => rfl
    | false => unfold chk at h; rw [hq, if_neg (by decide)] at h; exact absurd h (by decide)
  exact (okMany_iff.1 h1).2.2.2.2
theorem clash_none {c : Channel} (h : 0 < cntS tt c) (k : Nat) : stB (qC c) k = none := by
  rcases stB_spec (qC c) k with ⟨i1, _⟩ | ⟨b, _, _, b3, _⟩
  · exact i1
  · exfalso
    unfold qC pC at b3
    have hp : 0 < cntS (cIn (memN b)) c := cnt_mono (fun _ _ _ => rfl) h
    rw [decide_eq_true hp] at b3
    simp at b3
theorem clash_some {c : Channel} (r : Right c) (hn : c.sights.length < 6) (h : ¬ 0 < cntS tt c) : (stB (qC c) (2 ^ c.sights.length)).isSome = true := by
  have h0 : c.sights.length ≠ 0 := fun q => h (stay_pos r q)
  have hm := allR tabA hn
  rw [decide_eq_true_eq] at hm
  obtain ⟨a, ha, e⟩ := E0_mask hn hm
  have hcnt : cntS (cIn (memN a)) c = cntS tt c := cnt_congr fun i hi => by
    unfold cIn
    rw [e, decide_eq_true]
    exact List.mem_map.2 ⟨i, by simpa using hi, rfl⟩
  have hq : qC c a = true := by
    unfold qC pC
    rw [hcnt, decide_eq_false h, Bool.not_false, Bool.and_true, decide_eq_true_eq]
    rintro rfl
    have : memN 0 = [] := by decide
    rw [this] at e
    have h2 := congrArg List.length e
    simp at h2
    omega
  rcases stB_spec (qC c) (2 ^ c.sights.length) with ⟨_, i2⟩ | ⟨b, _, b2, _⟩
  · rw [i2 a ha] at hq
    exact absurd hq (by decide)
  · rw [b2]; rfl
theorem BranchSights_true (c : Channel) (l : List Int) : yo c l = some true := by
  unfold yo
  rw [jbC, Option.bind_some, awake_true]
  by_cases hw : WideP c
  · simp only [decide_eq_true hw, if_true, Option.bind_some]
  by_cases h12 : 12 < (l.length : Int)
  · simp only [decide_eq_false hw, h12, if_true, Option.bind_some]
    simp
  by_cases h5 : 5 < (c.sights.length : Int) ∧ (c.sights.length : Int) ≤ 8
  · simp [hw, h12, h5.1, h5.2]
  have hF := few_wide hw
  have hskip : (if 5 < (c.sights.length : Int) then (some (decide ((c.sights.length : Int) ≤ 8))) else (some false) : Option Bool) = some false := by
    by_cases h6 : 5 < (c.sights.length : Int)
    · rw [if_pos h6, decide_eq_false (fun q => h5 ⟨h6, q⟩)]
    · rw [if_neg h6]
  have hn : chk c = 0 → c.sights.length < 6 := fun h => by
    have := chk_few h
    omega
  rw [decide_eq_false hw, if_neg (by decide), if_neg h12, hskip, Option.bind_some, if_neg (by decide), Own_eq hF, theirs_eq hF, jaG (by omega)]
  simp only [Option.bind_some]
  rw [jbt hF (by omega), jaz hF (by omega) hn, refCheck_eq hF, jby hF, jbw hF, jbB hF]
  simp only [Option.bind_some]
  have hself : yE l l = some true := by rw [Ys (by omega)]; simp
  have hnil : yE [] [] = some true := by rw [Ys (by simp)]; simp
  by_cases h0 : chk c = 0
  · have r := rightOf h0
    have hn' := hn h0
    have hw1 : yE (memO (stB (qW c) (2 ^ c.sights.length))) (memO (stB (qW c) (2 ^ c.sights.length))) = some true := by rw [Ys (memO_len _)]; simp
    rw [jaH r hn', jaC r hn', wrong_same hn', clash_find hn']
    by_cases h1 : 0 < cntS tt c
    · have hcn := clash_none h1 (2 ^ c.sights.length)
      rw [hcn]
      have eN : memO none = [] := rfl
      cases hA : inA c.sights.length l <;> cases hD : dupB l <;> simp [h0, h1, hw1, hself, hnil, eN]
    · have hcs := clash_some r hn' h1
      obtain ⟨b, hb⟩ := Option.isSome_iff_exists.1 hcs
      have hw2 : yE (memN b) (memN b) = some true := by rw [Ys (by have := memN_len b; omega)]; simp
      rw [hb]
      have eS : memO (some b) = memN b := rfl
      have eM : (Option.map memN (some b)).getD (outsC c c.sights.length) = memN b := rfl
      rw [eM]
      cases hA : inA c.sights.length l <;> cases hD : dupB l <;> simp [h0, h1, hw1, hw2, hself, eS]
  · simp [h0, hself, hnil]
end Go.Proofs.Wb

namespace Go.Gx
open Go Go.Fw Go.RowKit
section
variable {H : Type} {enc : TypeId × Value → H} {P : Program} {w : World} {base : Nat} {sp : Nat → Bool} {held : Bool}
def Opens (enc : TypeId × Value → H) (P : Program) (w : World) (base : Nat) (sp : Nat → Bool) (held : Bool) {α : Type} (R : Row α) (wf : α → Prop) (t : TypeId) : Prop :=
  ∀ fuel cs x, DataW.trod enc P w base sp held fuel t cs = some x → ∃ a, cs = R.cells a ∧ wf a
def i64P (n : Int) : Prop := -9223372036854775808 ≤ n ∧ n ≤ 9223372036854775807
theorem wf_i64P {n : Int} (h : (Lit.int .i64 n).wf = true) : i64P n := by
  simp [Lit.wf, IntKind.min, IntKind.max, IntKind.signed, IntKind.bits] at h
  unfold i64P; omega
theorem opens_i64 {t : TypeId} (ht : P.underlying t = some (.int .i64)) : Opens enc P w base sp held RI i64P t := fun fuel cs x h => by
  obtain ⟨n, rfl, _, hw⟩ := DataW.trod_int ht h
  exact ⟨n, rfl, wf_i64P hw⟩
theorem opens_bool {t : TypeId} (ht : P.underlying t = some .bool) : Opens enc P w base sp held RB (fun _ => True) t := fun fuel cs x h => by
  obtain ⟨b, rfl, _⟩ := DataW.trod_bool ht h
  exact ⟨b, rfl, trivial⟩
theorem fieldAt {fs : Array Field} {t : TypeId} {fuel : Nat} {cs : List Value} {x : DataW H × List MemPlace} (ht : P.underlying t = some (.struct fs)) (h : DataW.trod enc P w base sp held fuel t cs = some x) {α : Type} {R : Row α} {wf : α → Prop} (i : Nat) {T o k : Nat}
    (hf : (fs[i]?).map (fun fd => (fd.type, fd.offset)) = some (T, o)) (hk : P.cellsOf T = k) (hR : Opens enc P w base sp held R wf T) : ∃ a, (cs.drop o).take k = R.cells a ∧ wf a := by
  obtain ⟨xs, n, rfl, _, hlen, hxl, hx⟩ := DataW.trod_struct ht h
  obtain ⟨fd, hfd, he⟩ : ∃ fd, fs[i]? = some fd ∧ (fd.type, fd.offset) = (T, o) := by
    cases hh : fs[i]? with
    | none => simp [hh] at hf
    | some fd => exact ⟨fd, rfl, by simpa [hh] using hf⟩
  simp only [Prod.mk.injEq] at he
  obtain ⟨rfl, rfl⟩ := he
  have h1 := hx i fd hfd
  rw [hk] at h1
  have hi : i < xs.length := by rw [hxl]; exact (Array.getElem?_eq_some_iff.1 hfd).1
  rw [List.getElem?_eq_getElem hi] at h1
  exact hR _ _ _ h1
theorem structLen {fs : Array Field} {t : TypeId} {fuel : Nat} {cs : List Value} {x : DataW H × List MemPlace} (ht : P.underlying t = some (.struct fs)) (h : DataW.trod enc P w base sp held fuel t cs = some x) : cs.length = P.cellsOf t := by
  obtain ⟨xs, n, _, _, hlen, _⟩ := DataW.trod_struct ht h
  exact hlen
structure SlIn {α : Type} (R : Row α) (wf : α → Prop) (w : World) (v : Value) (A : Option Addr) (n c : Nat) (l : List α) : Prop where
  val : v = .slice A n c
  len : l.length = n
  ok : AOK n A
  le : n ≤ c
  max : c ≤ maxLen
  seg : segOK w (aB A, aO A, R.enc l)
  wf : ∀ x, x ∈ l → wf x
theorem choose_list {α : Type} {p : Nat → α → Prop} : ∀ (n : Nat), (∀ i, i < n → ∃ a, p i a) → ∃ l : List α, l.length = n ∧ ∀ i (h : i < l.length), p i l[i]
  | 0, _ => ⟨[], rfl, fun i h => by simp at h⟩
  | n + 1, h => by
    obtain ⟨l, hl, hp⟩ := choose_list n (fun i hi => h i (by omega))
    obtain ⟨a, ha⟩ := h n (by omega)
    refine ⟨l ++ [a], by simp [hl], fun i hi => ?_⟩
    by_cases hil : i < l.length
    · rw [List.getElem_append_left hil]; exact hp i hil
    · have : i = l.length := by simp at hi; omega
      subst this
      rw [List.getElem_append_right (by omega)]
      simp only [Nat.sub_self, List.getElem_cons_zero]
      rw [hl]; exact ha
theorem openSl {α : Type} {R : Row α} {wf : α → Prop} {t e : TypeId} (ht : P.underlying t = some (.slice e)) (hc : P.cellsOf e = R.sz) (hR : Opens enc P w base sp held R wf e) (h0 : Nat.blt 0 R.sz = true)
    {fuel : Nat} {cs : List Value} {x : DataW H × List MemPlace} (h : DataW.trod enc P w base sp held fuel t cs = some x) : ∃ (v : Value) (A : Option Addr) (n c : Nat) (l : List α), cs = [v] ∧ SlIn R wf w v A n c l := by
  have hsz : 0 < R.sz := by simpa using h0
  rcases Go.Deep.open_slice ht h with ⟨rfl, _⟩ | ⟨a, len, cap, m, n, D, Pl, rfl, hb, hl, hm, hmm, _, hi⟩
  · exact ⟨_, none, 0, 0, [], rfl, rfl, rfl, AOK.nil, Nat.le_refl _, Nat.zero_le _, segOK.nil, by simp⟩
  · have hlm : len ≤ m := by rw [hmm]; split <;> omega
    have hcell : ∀ i, i < len → ∃ x : α, (∀ f (hf : f < (R.cells x).length), w.cell? (a.add (i * R.sz + f)) = some (R.cells x)[f]) ∧ wf x := fun i hil => by
      obtain ⟨cs', h1, h2⟩ := hi i (by omega)
      obtain ⟨x, rfl, hw⟩ := hR _ _ _ h2
      obtain ⟨_, _, hat⟩ := World.cells?_some h1
      refine ⟨x, fun f hf => ?_, hw⟩
      have := hat f (by rw [hc, ← R.len x]; exact hf)
      rw [hc] at this
      rw [List.getElem?_eq_getElem hf] at this
      have e : (a.add (i * R.sz)).add f = a.add (i * R.sz + f) := by
        unfold Addr.add
        by_cases h1 : i * R.sz = 0
        · simp [h1]
        · by_cases h2 : f = 0
          · simp [h2]
          · simp [h1, h2, Nat.add_assoc]
      rw [e] at this
      exact this
    obtain ⟨l, hll, hlp⟩ := choose_list len hcell
    have hspot : 0 < len → a.spot = none := fun h0 => by
      obtain ⟨x, hx, _⟩ := hcell 0 h0
      have := World.cell?_spot (hx 0 (by rw [R.len]; exact hsz))
      simpa [Addr.add] using this
    refine ⟨_, some a, len, cap, l, rfl, rfl, hll, fun h0 => ?_, hl, hm, fun j hj => ?_, fun x hx => ?_⟩
    · obtain ⟨b, o, s⟩ := a
      have := hspot h0
      simp only at this
      subst this
      exact ⟨b, o, rfl⟩
    · have hj' : j < l.length * R.sz := by rw [← R.enc_len]; exact hj
      have hpos : 0 < len := by
        rcases Nat.eq_zero_or_pos len with h | h
        · rw [hll, h, Nat.zero_mul] at hj'; omega
        · exact h
      obtain ⟨b, o, s⟩ := a
      have hs := hspot hpos
      simp only at hs
      subst hs
      have hq : j / R.sz < l.length := Nat.div_lt_of_lt_mul (by rw [Nat.mul_comm]; exact hj')
      have hr : j % R.sz < R.sz := Nat.mod_lt _ hsz
      have hd : j / R.sz * R.sz + j % R.sz = j := by rw [Nat.mul_comm]; exact Nat.div_add_mod j R.sz
      have h1 := (hlp (j / R.sz) hq).1 (j % R.sz) (by rw [R.len]; exact hr)
      rw [hd] at h1
      have h2 := R.enc_get l (j / R.sz) (j % R.sz) l[j / R.sz] (List.getElem?_eq_getElem hq) hr
      rw [hd] at h2
      have h3 : (⟨b, o, none⟩ : Addr).add j = ⟨b, o + j, none⟩ := addr_add b o j
      rw [h3] at h1
      simp only [aB, aO, Option.map_some, Option.getD_some]
      rw [h1, ← List.getElem?_eq_getElem, ← h2, List.getElem?_eq_getElem hj]
    · obtain ⟨i, hi', rfl⟩ := List.getElem_of_mem hx
      exact (hlp i hi').2
theorem fieldSl {fs : Array Field} {t : TypeId} {fuel : Nat} {cs : List Value} {x : DataW H × List MemPlace} (ht : P.underlying t = some (.struct fs)) (h : DataW.trod enc P w base sp held fuel t cs = some x) {α : Type} {R : Row α} {wf : α → Prop} (i : Nat) {T o e : Nat}
    (hf : (fs[i]?).map (fun fd => (fd.type, fd.offset)) = some (T, o)) (hk : P.cellsOf T = 1) (hT : P.underlying T = some (.slice e)) (hc : P.cellsOf e = R.sz) (hR : Opens enc P w base sp held R wf e) (h0 : Nat.blt 0 R.sz = true) :
    ∃ (v : Value) (A : Option Addr) (n c : Nat) (l : List α), (cs.drop o).take 1 = [v] ∧ SlIn R wf w v A n c l := by
  obtain ⟨xs, m, rfl, _, hlen, hxl, hx⟩ := DataW.trod_struct ht h
  obtain ⟨fd, hfd, he⟩ : ∃ fd, fs[i]? = some fd ∧ (fd.type, fd.offset) = (T, o) := by
    cases hh : fs[i]? with
    | none => simp [hh] at hf
    | some fd => exact ⟨fd, rfl, by simpa [hh] using hf⟩
  simp only [Prod.mk.injEq] at he
  obtain ⟨rfl, rfl⟩ := he
  have h1 := hx i fd hfd
  rw [hk] at h1
  have hi : i < xs.length := by rw [hxl]; exact (Array.getElem?_eq_some_iff.1 hfd).1
  rw [List.getElem?_eq_getElem hi] at h1
  exact openSl hT hc hR h0 h1
theorem HV.begin {ro : List Sg} (h : ∀ s, s ∈ ro → segOK w s) : HV w (keys [] []) [] [] ro w :=
  ⟨rfl, rfl, rfl, Nat.le_refl _, fun _ _ _ => rfl, by simp [vbl], by simp [vbl], by simp [vbl], h, by simp [vbl]⟩
theorem segCons {s : Sg} {ro : List Sg} (h : segOK w s) (hr : ∀ t, t ∈ ro → segOK w t) : ∀ t, t ∈ s :: ro → segOK w t := fun t ht => by
  rcases List.mem_cons.1 ht with rfl | ht
  · exact h
  · exact hr t ht
theorem segNil : ∀ t, t ∈ ([] : List Sg) → segOK w t := fun t ht => by cases ht
theorem HV.below {w' : World} (h : HV w (keys [] []) [] [] [] w') : Below w.heap.size w w' := by
  have : Ext [] w w' := HS.toExt h
  exact this.below
end
end Go.Gx

