/- What the functions that the law BranchCalmed reaches come to, and why it holds: part 9. -/
import Derived.Test.YtpjnpibgnkgnaaaGreatBranchCalmed8
import Derived.Deep.Slices
import Derived.ChangeArms
namespace Go.Proofs.Wb
open Go Go.Fw Go.Gx Go.Sb
set_option linter.unusedVariables false
set_option maxRecDepth 100000
def HOK (l : List Int) (p : Int) : Prop := 0 ≤ p ∧ (p < (l.length : Int) ∨ p = 0)
theorem pick_ok {l : List Int} {p r : Int} (hl : l.length ≤ 9223372036854775807) (hp : HOK l p) : ∃ x, Jk l p r = some x ∧ (0 ≤ x.r0 ∧ x.r0 ≤ 32767) ∧ HOK l x.h0_1 := by
  obtain ⟨h0, h1⟩ := hp
  unfold Jk
  have e1 : addc p 1 = some (p + 1) := addc_eq (by omega)
  by_cases hlt : p < (l.length : Int)
  · rw [if_pos hlt, ix_eq 0 h0 hlt, e1]
    simp only [Option.bind_some]
    by_cases hge : (l.length : Int) ≤ p + 1
    · rw [if_pos hge]
      exact ⟨_, rfl, Go.Fw.and_bound _ _ rfl, Int.le_refl _, .inr rfl⟩
    · rw [if_neg hge]
      exact ⟨_, rfl, Go.Fw.and_bound _ _ rfl, by simp only; omega, .inl (by simp only; omega)⟩
  · rw [if_neg hlt, e1]
    simp only [Option.bind_some]
    by_cases hge : (l.length : Int) ≤ p + 1
    · rw [if_pos hge]
      exact ⟨_, rfl, Go.Fw.and_bound _ _ rfl, Int.le_refl _, .inr rfl⟩
    · rw [if_neg hge]
      exact ⟨_, rfl, Go.Fw.and_bound _ _ rfl, by simp only; omega, .inl (by simp only; omega)⟩
theorem upto_ok {l : List Int} {p r n : Int} (hl : l.length ≤ 9223372036854775807) (hp : HOK l p) (hn : -1000000 ≤ n ∧ n ≤ 1000000) : ∃ x, j4 l p r n = some x ∧ (0 ≤ x.r0 ∧ x.r0 ≤ max 0 n) ∧ HOK l x.h0_1 := by
  obtain ⟨x, hx, hb, hk⟩ := pick_ok (r := r) hl hp
  unfold j4
  rw [hx, Option.bind_some, addc_eq (by omega), Option.bind_some, remc_eq (by omega), Option.bind_some]
  refine ⟨_, rfl, ?_, hk⟩
  have h1 := Int.tmod_nonneg (max 1 (n + 1)) hb.1
  have h2 := Int.tmod_lt_of_pos x.r0 (show 0 < max 1 (n + 1) by omega)
  simp only
  omega
theorem from_ok {l : List Int} {p r lo hi : Int} (hl : l.length ≤ 9223372036854775807) (hp : HOK l p) (hn : (-400000 ≤ lo ∧ lo ≤ 400000) ∧ -400000 ≤ hi ∧ hi ≤ 400000) : ∃ x, yZ l p r lo hi = some x ∧ (lo ≤ x.r0 ∧ x.r0 ≤ max lo hi) ∧ HOK l x.h0_1 := by
  unfold yZ
  rw [subc_eq (by omega), Option.bind_some]
  obtain ⟨x, hx, hb, hk⟩ := upto_ok (r := r) (n := hi - lo) hl hp (by omega)
  rw [hx, Option.bind_some, addc_eq (by omega), Option.bind_some]
  exact ⟨_, rfl, by simp only; omega, hk⟩
theorem once_ok {l : List Int} {p r n : Int} (hl : l.length ≤ 9223372036854775807) (hp : HOK l p) (hn : -400000 ≤ n ∧ n ≤ 400000) : ∃ x, zH l p r n = some x ∧ HOK l x.h0_1 := by
  unfold zH
  rw [subc_eq (by omega), Option.bind_some]
  obtain ⟨x, hx, hb, hk⟩ := upto_ok (r := r) (n := n - 1) hl hp (by omega)
  rw [hx, Option.bind_some]
  exact ⟨_, rfl, hk⟩
def IsOrd (n : Nat) (l : List Int) : Prop := l.Perm ((List.range n).map fun k : Nat => (k : Int))
theorem ins_ok {l : List Int} {i v : Int} (h0 : 0 ≤ i) (h1 : i ≤ (l.length : Int)) (hl : l.length ≤ 1000) : Js l i [v] = some (l.take i.toNat ++ [v] ++ l.drop i.toNat) := by
  unfold Js
  rw [if_pos ⟨h0, h1, by simp, by simp; omega⟩]
theorem IsOrd.len {n : Nat} {l : List Int} (h : IsOrd n l) : l.length = n := by
  have := List.Perm.length_eq h
  simpa using this
theorem IsOrd.ins {n : Nat} {l : List Int} (h : IsOrd n l) (i : Nat) : IsOrd (n + 1) (l.take i ++ [(n : Int)] ++ l.drop i) := by
  unfold IsOrd
  rw [List.range_succ, List.map_append]
  have e : l.take i ++ [(n : Int)] ++ l.drop i = l.take i ++ (n : Int) :: l.drop i := by simp
  rw [e]
  refine List.perm_middle.trans ?_
  rw [List.take_append_drop]
  refine (List.Perm.cons _ h).trans ?_
  exact (List.perm_append_singleton _ _).symm
theorem order_ok {l : List Int} (hl : l.length ≤ 9223372036854775807) {p r : Int} {n : Nat} (hp : HOK l p) (hn : n ≤ 900) : ∃ x, zV l p r (n : Int) = some x ∧ HOK l x.h0_1 ∧ IsOrd n x.r0 := by
  unfold zV
  have key : ∃ o, iterM FU (y6 (n : Int) l) ⟨0, p, r, []⟩ = some o ∧ HOK l o.h0_1 ∧ IsOrd n o.out5 := by
    refine iterM_inv (f := y6 (n : Int) l) (fun s => ∃ j : Nat, s.t9 = (j : Int) ∧ j ≤ n ∧ HOK l s.h0_1 ∧ IsOrd j s.out5) (fun s => ((n : Int) - s.t9).toNat) _ (fun s hs => ?_) FU _ (FU_lt (by simp only; omega)) ⟨0, rfl, by omega, hp, List.Perm.refl _⟩
    obtain ⟨j, hj, hjn, hk, ho⟩ := hs
    unfold y6
    rw [hj]
    by_cases hlt : j < n
    · left
      obtain ⟨x, hx, hb, hk2⟩ := upto_ok (r := s.h0_2) (n := (j : Int)) hl hk (by omega)
      have hlen := ho.len
      rw [if_pos (by omega), hx, Option.bind_some, ins_ok hb.1 (by omega) (by omega), Option.bind_some, addc_eq (by omega), Option.bind_some]
      exact ⟨_, rfl, ⟨j + 1, by push_cast; rfl, hlt, hk2, ho.ins _⟩, by simp only; omega⟩
    · right
      rw [if_neg (by omega)]
      have : j = n := by omega
      subst this
      exact ⟨_, rfl, hk, ho⟩
  obtain ⟨o, h1, h2, h3⟩ := key
  rw [h1, Option.bind_some]
  exact ⟨_, rfl, h2, h3⟩
theorem chk_right {c : Channel} (r : Right c) (h8 : c.sights.length ≤ 8) : chk c = 0 := by
  unfold chk
  have h1 : okMany c = true := okMany_iff.2 ⟨r.cells, r.tides, r.fords, r.sands, h8⟩
  have h2 : okLimit c = true := by
    simp only [okLimit, Bool.and_eq_true, List.all_eq_true, inb_iff]
    exact ⟨r.reach, r.after⟩
  have h3 : okMiss c = true := by
    simp only [okMiss, Bool.and_eq_true, List.all_eq_true, inb_iff]
    refine ⟨⟨fun x hx => ?_, fun s hs => ?_⟩, fun s hs => ?_⟩
    · have := r.fcell x hx; omega
    · have := r.span s hs; omega
    · have := r.scell s hs; omega
  have h4 : okOrder c = true := by
    simp only [okOrder, Bool.and_eq_true, List.all_eq_true, decide_eq_true_eq]
    exact ⟨r.up, fun s hs => (r.span s hs).2.2⟩
  rw [if_pos h1, if_pos h2, if_pos h3, if_pos h4]
theorem lawReach_eq {c : Channel} (h : c.sands.length ≤ 100) (x : Int) : j5 c x = some (rchC c.sands x) := by
  unfold j5
  have key := iterM_run (f := yd c x) (fun j => ⟨rchC (c.sands.take j) x, (j : Int)⟩) c.sands.length (b := rchC c.sands x) (fun j hj => ?_) ?_ FU (FU_lt (by omega))
  · simp only [List.take_zero] at key
    rw [show (⟨0, 0⟩ : yg) = ⟨rchC [] x, ((0 : Nat) : Int)⟩ from rfl, key]
    rfl
  · have e : c.sands.take (j + 1) = c.sands.take j ++ [c.sands[j]] := by rw [List.take_append_getElem]
    have hx : c.sands.getD j default = c.sands[j] := by simp [List.getD_eq_getElem?_getD, hj]
    unfold yd
    simp only
    rw [if_pos (by omega), ix_nat default hj, Option.bind_some, hx, e, rchC_snoc, addc_eq (by omega)]
    unfold stepR
    by_cases h1 : c.sands[j].span.lo ≤ x
    · rw [if_pos h1, Option.bind_some]
      by_cases h2 : x ≤ c.sands[j].span.hi
      · rw [if_pos (decide_eq_true h2), if_pos ⟨h1, h2⟩]; rfl
      · rw [if_neg (by simpa using h2), if_neg (fun q => h2 q.2)]; rfl
    · rw [if_neg h1, Option.bind_some, if_neg (by decide), if_neg (fun q => h1 q.1)]; rfl
  · unfold yd
    simp only
    rw [if_neg (by omega), List.take_length]
def freeB (cells : Int) (r0 : List Int) (i : Nat) (v : Int) : Bool := decide (0 ≤ v) && (decide (v < cells) && ((decide (i = 0) || decide (r0.getD (i - 1) (-1) < v)) && (decide (i + 1 = r0.length) || decide (v < r0.getD (i + 1) (-1)))))
theorem cond_eq {v cells : Int} {i : Nat} {r0 : List Int} (hi : i < r0.length) (hn : r0.length ≤ 1000) : (if 0 ≤ v then
 (if v < cells then
 (if (i : Int) = 0 then
 ((subc (r0.length : Int) 1).bind fun t82 =>
 if (i : Int) = t82 then
 (some true) else
 ((addc (i : Int) 1).bind fun t88 =>
 (ix r0 t88).bind fun t89 =>
 some (decide (v < t89)))) else
 ((subc (i : Int) 1).bind fun t72 =>
 (ix r0 t72).bind fun t73 =>
 if t73 < v then
 ((subc (r0.length : Int) 1).bind fun t82_1 =>
 if (i : Int) = t82_1 then
 (some true) else
 ((addc (i : Int) 1).bind fun t88_1 =>
 (ix r0 t88_1).bind fun t89_1 =>
 some (decide (v < t89_1)))) else
 (some false))) else
 (some false)) else
 (some false) : Option Bool) = some (freeB cells r0 i v) := by
  have tail : ((subc (r0.length : Int) 1).bind fun t82 => if (i : Int) = t82 then (some true) else ((addc (i : Int) 1).bind fun t88 => (ix r0 t88).bind fun t89 => some (decide (v < t89)))) = some (decide (i + 1 = r0.length) || decide (v < r0.getD (i + 1) (-1))) := by
    rw [subc_eq (by omega), Option.bind_some]
    by_cases h : i + 1 = r0.length
    · rw [if_pos (by omega), decide_eq_true h, Bool.true_or]
    · rw [if_neg (by omega), addc_eq (by omega), Option.bind_some, show (i : Int) + 1 = ((i + 1 : Nat) : Int) by omega, ix_nat (-1) (by omega), Option.bind_some, decide_eq_false h, Bool.false_or]
  unfold freeB
  by_cases h1 : 0 ≤ v
  · rw [if_pos h1, decide_eq_true h1, Bool.true_and]
    by_cases h2 : v < cells
    · rw [if_pos h2, decide_eq_true h2, Bool.true_and, tail]
      by_cases h3 : i = 0
      · rw [if_pos (by omega), decide_eq_true h3, Bool.true_or, Bool.true_and]
      · rw [if_neg (by omega), subc_eq (by omega), Option.bind_some, show (i : Int) - 1 = ((i - 1 : Nat) : Int) by omega, ix_nat (-1) (by omega), Option.bind_some, decide_eq_false h3, Bool.false_or]
        by_cases h4 : r0.getD (i - 1) (-1) < v
        · rw [if_pos h4, decide_eq_true h4, Bool.true_and]
        · rw [if_neg h4, decide_eq_false h4, Bool.false_and]
    · rw [if_neg h2, decide_eq_false h2, Bool.false_and]
  · rw [if_neg h1, decide_eq_false h1, Bool.false_and]
theorem getD_set {l : List Int} {i j : Nat} {v d : Int} (hi : i < l.length) : (l.set i v).getD j d = if j = i then v else l.getD j d := by
  rw [List.getD_eq_getElem?_getD, List.getElem?_set, List.getD_eq_getElem?_getD]
  by_cases h : i = j
  · subst h; simp [hi]
  · rw [if_neg h, if_neg (fun e => h e.symm)]
theorem row_set {c : Channel} {a b : List Int} (hb : rowB c b = true) (hab : a.length = b.length) (hc : canB c.sands a b = true) {i : Nat} (hi : i < b.length) {v : Int} (hf : freeB c.cells b i v = true) (hv : a.getD i (-1) - rchC c.sands (a.getD i (-1)) ≤ v ∧ v ≤ a.getD i (-1) + rchC c.sands (a.getD i (-1))) : rowB c (b.set i v) = true ∧ canB c.sands a (b.set i v) = true := by
  unfold freeB at hf
  simp only [Bool.and_eq_true, Bool.or_eq_true, decide_eq_true_eq] at hf
  obtain ⟨f1, f2, f3, f4⟩ := hf
  obtain ⟨b1, b2, b3⟩ := rowB_iff.1 hb
  constructor
  · refine rowB_iff.2 ⟨by rw [List.length_set]; exact b1, upB_ix.2 fun j hj => ?_, fun x hx => ?_⟩
    · rw [List.length_set] at hj
      rw [getD_set hi, getD_set hi]
      have hb' := upB_ix.1 b2 j hj
      by_cases h1 : j = i
      · subst h1
        rw [if_pos rfl, if_neg (by omega)]
        rcases f4 with f4 | f4
        · omega
        · exact f4
      · rw [if_neg h1]
        by_cases h2 : j + 1 = i
        · rw [if_pos h2]
          rcases f3 with f3 | f3
          · omega
          · rw [← h2, Nat.add_sub_cancel] at f3; exact f3
        · rw [if_neg h2]; exact hb'
    · rcases List.mem_or_eq_of_mem_set hx with h | h
      · exact b3 x h
      · omega
  · unfold canB at hc ⊢
    rw [List.all_eq_true] at hc ⊢
    intro j hj
    have h0 := hc j hj
    rw [getD_set hi]
    by_cases h1 : j = i
    · subst h1
      rw [if_pos rfl, inb_iff]
      omega
    · rw [if_neg h1]; exact h0
theorem walk_L1 {l : List Int} (hl : l.length ≤ 9223372036854775807) {c : Channel} (r : Right c) {a : List Int} (ha : rowB c a = true) {t : zq} (ho : IsOrd a.length t.r0) {p q : Int} (hp : HOK l p) :
    ∃ o, iterM FU (qF t a c l) ⟨0, p, q, a⟩ = some o ∧ HOK l o.b0_1 ∧ rowB c o.r0 = true ∧ canB c.sands a o.r0 = true := by
  have hc := r.cells
  have hf := r.fords
  have hs := r.sands
  have hlen := ho.len
  obtain ⟨a1, a2, a3⟩ := rowB_iff.1 ha
  refine iterM_inv (f := qF t a c l) (fun s => (0 ≤ s.t33 ∧ s.t33 ≤ (t.r0.length : Int)) ∧ HOK l s.b0_1 ∧ rowB c s.r0 = true ∧ canB c.sands a s.r0 = true) (fun s => ((t.r0.length : Int) - s.t33).toNat) _ (fun s hs => ?_) FU _ (FU_lt (by simp only; omega)) ⟨by simp only; omega, hp, ha, canB_self r a⟩
  obtain ⟨h0, hk, hr, hcn⟩ := hs
  obtain ⟨b1, b2, b3⟩ := rowB_iff.1 hr
  unfold qF
  by_cases hlt : s.t33 < (t.r0.length : Int)
  · left
    have hm : t.r0.getD s.t33.toNat 0 ∈ t.r0 := getD_mem (by omega)
    obtain ⟨i, hi, he⟩ := List.mem_map.1 ((List.Perm.mem_iff ho).1 hm)
    have hi' : i < a.length := by simpa using hi
    have h1 := a3 _ (getD_mem (d := -1) hi')
    have h2 := rchC_bounds (x := a.getD i (-1)) r.reach
    obtain ⟨x, hx, hb, hk2⟩ := from_ok (r := s.b0_2) (lo := -rchC c.sands (a.getD i (-1))) (hi := rchC c.sands (a.getD i (-1))) hl hk (by omega)
    have hneg : negc (rchC c.sands (a.getD i (-1))) = some (-rchC c.sands (a.getD i (-1))) := negc_eq (by omega)
    rw [if_pos hlt, ix_eq 0 h0.1 hlt, Option.bind_some, ← he, ix_nat (-1) hi']
    simp only [Option.bind_some]
    rw [lawReach_eq (by omega)]
    simp only [Option.bind_some]
    rw [hneg]
    simp only [Option.bind_some]
    rw [hx]
    simp only [Option.bind_some]
    rw [addc_eq (by omega)]
    simp only [Option.bind_some]
    rw [cond_eq (by omega) (by omega), addc_eq (by omega)]
    simp only [Option.bind_some]
    by_cases hfr : freeB c.cells s.r0 i (a.getD i (-1) + x.r0) = true
    · rw [if_pos hfr, ix_nat (-1) (by omega)]
      simp only [Option.bind_some, Int.toNat_natCast]
      obtain ⟨g1, g2⟩ := row_set hr (by omega) hcn (by omega) hfr (by omega)
      exact ⟨_, rfl, ⟨by simp only; omega, hk2, g1, g2⟩, by simp only; omega⟩
    · rw [if_neg hfr]
      simp only [Option.bind_some]
      exact ⟨_, rfl, ⟨by simp only; omega, hk2, hr, hcn⟩, by simp only; omega⟩
  · right
    rw [if_neg hlt]
    exact ⟨_, rfl, hk, hr, hcn⟩
structure WalkC (c : Channel) (n : Nat) (crs : List (List Int)) : Prop where
  len : crs.length = n + 1
  fst : crs.getD 0 [] = c.fords
  row : ∀ k, k ≤ n → rowB c (crs.getD k []) = true
  can : ∀ k, k < n → canB c.sands (crs.getD k []) (crs.getD (k + 1) []) = true
theorem getD_snoc {α : Type} {l : List α} {x d : α} {k : Nat} : (l ++ [x]).getD k d = if k < l.length then l.getD k d else if k = l.length then x else d := by
  rw [List.getD_eq_getElem?_getD, List.getD_eq_getElem?_getD]
  by_cases h : k < l.length
  · rw [if_pos h, List.getElem?_append_left h]
  · rw [if_neg h]
    by_cases h2 : k = l.length
    · rw [if_pos h2]; subst h2; simp
    · rw [if_neg h2, List.getElem?_eq_none (by simp; omega)]; rfl
theorem WalkC.snoc {c : Channel} {n : Nat} {crs : List (List Int)} (h : WalkC c n crs) {b : List Int} (hb : rowB c b = true) (hc : canB c.sands (crs.getD n []) b = true) : WalkC c (n + 1) (crs ++ [b]) := by
  have hl := h.len
  refine ⟨by simp; omega, ?_, fun k hk => ?_, fun k hk => ?_⟩
  · rw [getD_snoc, if_pos (by omega)]; exact h.fst
  · rw [getD_snoc]
    by_cases h1 : k < crs.length
    · rw [if_pos h1]; exact h.row k (by omega)
    · rw [if_neg h1, if_pos (by omega)]; exact hb
  · rw [getD_snoc, getD_snoc, if_pos (by omega)]
    by_cases h1 : k + 1 < crs.length
    · rw [if_pos h1]; exact h.can k (by omega)
    · rw [if_neg h1, if_pos (by omega)]
      obtain rfl : k = n := by omega
      exact hc
theorem walked_ok {l : List Int} (hl : l.length ≤ 9223372036854775807) {c : Channel} (r : Right c) {p q : Int} (hp : HOK l p) : ∃ x, kV l p q c = some x ∧ HOK l x.b0_1 ∧ WalkC c c.tides.toNat x.r0 := by
  have ht := r.tides
  have hf := r.fords
  have hrow : rowB c c.fords = true := rowB_iff.2 ⟨rfl, r.up, r.fcell⟩
  unfold kV
  rw [ZW (by omega), Option.bind_some]
  have key : ∃ o, iterM FU (qC c l) ⟨0, p, q, [c.fords]⟩ = some o ∧ HOK l o.b0_1 ∧ WalkC c c.tides.toNat o.out5 := by
    refine iterM_inv (f := qC c l) (fun s => (0 ≤ s.t17 ∧ s.t17 ≤ c.tides) ∧ HOK l s.b0_1 ∧ WalkC c s.t17.toNat s.out5) (fun s => (c.tides - s.t17).toNat) _ (fun s hs => ?_) FU _ (FU_lt (by simp only; omega)) ⟨by simp only; omega, hp, ⟨rfl, rfl, fun k hk => ?_, fun k hk => ?_⟩⟩
    · obtain ⟨h0, hk, hw⟩ := hs
      unfold qC
      by_cases hlt : s.t17 < c.tides
      · left
        have hlen := hw.len
        have ha := hw.row s.t17.toNat (Nat.le_refl _)
        have ha' := (rowB_iff.1 ha).1
        rw [if_pos hlt, subc_eq (by omega), Option.bind_some, ix_eq [] (by omega) (by omega), Option.bind_some, show ((s.out5.length : Int) - 1).toNat = s.t17.toNat by omega, ZW (by omega), Option.bind_some, ZW (by omega), Option.bind_some]
        obtain ⟨t, h1, h2, h3⟩ := order_ok (r := s.b0_2) (n := (s.out5.getD s.t17.toNat []).length) hl hk (by omega)
        rw [h1, Option.bind_some]
        obtain ⟨o, g1, g2, g3, g4⟩ := walk_L1 (q := t.h0_2) hl r ha h3 h2
        rw [g1, Option.bind_some, appc_eq (by simp; omega), Option.bind_some, addc_eq (by omega), Option.bind_some]
        refine ⟨_, rfl, ⟨by simp only; omega, g2, ?_⟩, by simp only; omega⟩
        have := hw.snoc g3 g4
        simp only
        rw [show (s.t17 + 1).toNat = s.t17.toNat + 1 by omega]
        exact this
      · right
        rw [if_neg hlt]
        refine ⟨_, rfl, hk, ?_⟩
        rw [show c.tides.toNat = s.t17.toNat by omega]
        exact hw
    · have hk0 : k = 0 := by simpa using hk
      subst hk0
      exact hrow
    · simp at hk
  obtain ⟨o, h1, h2, h3⟩ := key
  rw [h1, Option.bind_some]
  exact ⟨_, rfl, h2, h3⟩
end Go.Proofs.Wb

namespace Go.Proofs.Wb
open Go Go.Fw Go.Gx Go.Sb
set_option linter.unusedVariables false
set_option maxRecDepth 100000
structure MadeC (c : Channel) (cells fords tides : Int) : Prop where
  right : Right c
  none : c.sights = []
  cells : 3 ≤ c.cells ∧ c.cells ≤ cells
  fords : (c.fords.length : Int) ≤ fords
  tides : c.tides ≤ tides
theorem upB_snoc {f : List Int} {v : Int} (h : upB f = true) (hv : ∀ x ∈ f, x < v) : upB (f ++ [v]) = true := by
  rw [upB_ix] at *
  intro i hi
  rw [List.length_append, List.length_singleton] at hi
  rw [getD_snoc, getD_snoc, if_pos (by omega)]
  by_cases h1 : i + 1 < f.length
  · rw [if_pos h1]; exact h i h1
  · rw [if_neg h1, if_pos (by omega)]
    exact hv _ (getD_mem (by omega))
theorem made_L0 {l : List Int} (hl : l.length ≤ 9223372036854775807) {t : yj} (ht : 3 ≤ t.r0 ∧ t.r0 ≤ 9) {f : Int} (hf : 1 ≤ f ∧ f ≤ 3) {p q : Int} (hp : HOK l p) :
    ∃ o, iterM FU (qV t f l) ⟨0, p, q, []⟩ = some o ∧ HOK l o.b0_1 ∧ upB o.c10_fords = true ∧ (∀ x ∈ o.c10_fords, 0 ≤ x ∧ x < t.r0) ∧ 1 ≤ o.c10_fords.length ∧ (o.c10_fords.length : Int) ≤ f := by
  refine iterM_inv (f := qV t f l) (fun s => (0 ≤ s.t22 ∧ s.t22 ≤ t.r0) ∧ HOK l s.b0_1 ∧ upB s.c10_fords = true ∧ (∀ x ∈ s.c10_fords, 0 ≤ x ∧ x < s.t22) ∧ (s.c10_fords.length : Int) ≤ f ∧ (s.t22 = t.r0 → 1 ≤ s.c10_fords.length)) (fun s => (t.r0 - s.t22).toNat) _ (fun s hs => ?_) FU _ (FU_lt (by simp only; omega)) ⟨by simp only; omega, hp, rfl, by simp, by simp only; simp; omega, fun h => by simp only at h; omega⟩
  obtain ⟨h0, hk, hu, hx, hlen, hne⟩ := hs
  unfold qV
  by_cases hlt : s.t22 < t.r0
  · left
    rw [if_pos hlt, addc_eq (by omega)]
    -- with this cell
    have yes : ∀ (b1 b2 : Int), HOK l b1 → (s.c10_fords.length : Int) < f → ∃ s', ((appc 8 s.c10_fords [s.t22]).bind fun t51 => some (⟨b1, b2, t51⟩ : yP)).bind (fun o_1 => (some (s.t22 + 1)).bind fun t53 => some (Sum.inl (⟨t53, o_1.b0_1, o_1.b0_2, o_1.c10_fords⟩ : kj) : kj ⊕ yS)) = some (.inl s') ∧ ((0 ≤ s'.t22 ∧ s'.t22 ≤ t.r0) ∧ HOK l s'.b0_1 ∧ upB s'.c10_fords = true ∧ (∀ x ∈ s'.c10_fords, 0 ≤ x ∧ x < s'.t22) ∧ (s'.c10_fords.length : Int) ≤ f ∧ (s'.t22 = t.r0 → 1 ≤ s'.c10_fords.length)) ∧ (t.r0 - s'.t22).toNat < (t.r0 - s.t22).toNat := by
      intro b1 b2 hb hff
      rw [appc_eq (by simp; omega)]
      simp only [Option.bind_some]
      refine ⟨_, rfl, ⟨by simp only; omega, hb, upB_snoc hu (fun x hx' => (hx x hx').2), fun x hx' => ?_, by simp; omega, fun _ => by simp⟩, by simp only; omega⟩
      simp only
      rcases List.mem_append.1 hx' with h | h
      · have := hx x h; omega
      · rw [List.mem_singleton] at h; omega
    have no : ∀ (b1 b2 : Int), HOK l b1 → (s.t22 + 1 = t.r0 → 1 ≤ s.c10_fords.length) → ∃ s', (some (⟨b1, b2, s.c10_fords⟩ : yP)).bind (fun o_1 => (some (s.t22 + 1)).bind fun t53 => some (Sum.inl (⟨t53, o_1.b0_1, o_1.b0_2, o_1.c10_fords⟩ : kj) : kj ⊕ yS)) = some (.inl s') ∧ ((0 ≤ s'.t22 ∧ s'.t22 ≤ t.r0) ∧ HOK l s'.b0_1 ∧ upB s'.c10_fords = true ∧ (∀ x ∈ s'.c10_fords, 0 ≤ x ∧ x < s'.t22) ∧ (s'.c10_fords.length : Int) ≤ f ∧ (s'.t22 = t.r0 → 1 ≤ s'.c10_fords.length)) ∧ (t.r0 - s'.t22).toNat < (t.r0 - s.t22).toNat := by
      intro b1 b2 hb hff
      simp only [Option.bind_some]
      exact ⟨_, rfl, ⟨by simp only; omega, hb, hu, fun x hx' => by have := hx x hx'; simp only; omega, hlen, hff⟩, by simp only; omega⟩
    by_cases h1 : (s.c10_fords.length : Int) < f
    · obtain ⟨x, hx', hk2⟩ := once_ok (r := s.b0_2) (n := 3) hl hk (by omega)
      rw [if_pos h1, hx', Option.bind_some]
      by_cases h2 : x.r0 = true
      · rw [if_pos h2, Option.bind_some, if_pos rfl]
        exact yes _ _ hk2 h1
      · rw [if_neg h2, subc_eq (by omega), Option.bind_some]
        by_cases h3 : s.t22 = t.r0 - 1
        · rw [if_pos h3, Option.bind_some]
          by_cases h4 : (s.c10_fords.length : Int) = 0
          · rw [if_pos (decide_eq_true h4)]
            exact yes _ _ hk2 h1
          · rw [if_neg (by simpa using h4)]
            exact no _ _ hk2 (fun _ => by omega)
        · rw [if_neg h3, Option.bind_some, if_neg Bool.false_ne_true]
          exact no _ _ hk2 (fun q => by omega)
    · rw [if_neg h1, Option.bind_some, if_neg Bool.false_ne_true]
      exact no _ _ hk (fun _ => by omega)
  · right
    rw [if_neg hlt]
    have : s.t22 = t.r0 := by omega
    exact ⟨_, rfl, hk, hu, fun x hx' => by have := hx x hx'; omega, hne this, hlen⟩
theorem made_L1 {l : List Int} (hl : l.length ≤ 9223372036854775807) {t : yj} (ht : 3 ≤ t.r0 ∧ t.r0 ≤ 9) {u : yX} (hu : 0 ≤ u.r0 ∧ u.r0 ≤ 4) {p q : Int} (hp : HOK l p) :
    ∃ o, iterM FU (qW u t l) ⟨0, p, q, []⟩ = some o ∧ HOK l o.b0_1 ∧ o.c10_sands.length ≤ 4 ∧ ∀ s ∈ o.c10_sands, (1 ≤ s.reach ∧ s.reach ≤ 2) ∧ 0 ≤ s.span.lo ∧ s.span.hi < t.r0 ∧ s.span.lo ≤ s.span.hi := by
  refine iterM_inv (f := qW u t l) (fun s => (0 ≤ s.t56 ∧ s.t56 ≤ u.r0) ∧ HOK l s.b0_1 ∧ (s.c10_sands.length : Int) = s.t56 ∧ ∀ w ∈ s.c10_sands, (1 ≤ w.reach ∧ w.reach ≤ 2) ∧ 0 ≤ w.span.lo ∧ w.span.hi < t.r0 ∧ w.span.lo ≤ w.span.hi) (fun s => (u.r0 - s.t56).toNat) _ (fun s hs => ?_) FU _ (FU_lt (by simp only; omega)) ⟨by simp only; omega, hp, rfl, by simp⟩
  obtain ⟨h0, hk, hlen, hx⟩ := hs
  unfold qW
  by_cases hlt : s.t56 < u.r0
  · left
    rw [if_pos hlt, subc_eq (by omega), Option.bind_some]
    obtain ⟨x, hx1, hb1, hk1⟩ := upto_ok (r := s.b0_2) (n := t.r0 - 1) hl hk (by omega)
    rw [hx1, Option.bind_some, Option.bind_some]
    obtain ⟨y, hy1, hb2, hk2⟩ := upto_ok (r := x.h0_2) (n := 4) hl hk1 (by omega)
    rw [hy1, Option.bind_some, addc_eq (by omega), Option.bind_some]
    obtain ⟨z, hz1, hb3, hk3⟩ := from_ok (r := y.h0_2) (lo := 1) (hi := 2) hl hk2 (by omega)
    rw [hz1, Option.bind_some, appc_eq (by simp; omega), Option.bind_some, Option.bind_some, addc_eq (by omega), Option.bind_some]
    refine ⟨_, rfl, ⟨by simp only; omega, hk3, by simp; omega, fun w hw => ?_⟩, by simp only; omega⟩
    rcases List.mem_append.1 hw with h | h
    · exact hx w h
    · rw [List.mem_singleton] at h
      subst h
      simp only
      omega
  · right
    rw [if_neg hlt]
    exact ⟨_, rfl, hk, by simp only; omega, hx⟩
theorem made_ok {l : List Int} (hl : l.length ≤ 9223372036854775807) {p q cells fords tides : Int} (hp : HOK l p) (hc : 3 ≤ cells ∧ cells ≤ 9) (hf : 1 ≤ fords ∧ fords ≤ 3) (ht : 0 ≤ tides ∧ tides ≤ 4) : ∃ x, qZ l p q cells fords tides = some x ∧ HOK l x.b0_1 ∧ MadeC x.r0 cells fords tides ∧ WalkC x.r0 x.r0.tides.toNat x.r1 := by
  unfold qZ
  obtain ⟨x, hx, hb, hk⟩ := from_ok (r := q) (lo := 3) (hi := cells) hl hp (by omega)
  rw [hx, Option.bind_some]
  obtain ⟨y, hy, hb2, hk2⟩ := upto_ok (r := x.h0_2) (n := tides) hl hk (by omega)
  rw [hy, Option.bind_some]
  obtain ⟨o, ho, hk3, o1, o2, o3, o4⟩ := made_L0 (q := y.h0_2) (t := x) hl (by omega) hf hk2
  rw [ho, Option.bind_some]
  obtain ⟨u, hu, hb4, hk4⟩ := upto_ok (r := o.b0_2) (n := 4) hl hk3 (by omega)
  rw [hu, Option.bind_some]
  obtain ⟨v, hv, hk5, v1, v2⟩ := made_L1 (q := u.h0_2) (t := x) (u := u) hl (by omega) (by omega) hk4
  rw [hv, Option.bind_some]
  have r : Right ⟨x.r0, y.r0, o.c10_fords, v.c10_sands, []⟩ := ⟨by simp only; omega, by simp only; omega, by simp only; omega, v1, by simp, fun s hs => (v2 s hs).1, by simp, o2, fun s hs => (v2 s hs).2, by simp, o1⟩
  obtain ⟨w, hw, hk6, w1⟩ := walked_ok (q := v.b0_2) hl r hk5
  rw [hw, Option.bind_some]
  exact ⟨_, rfl, hk6, ⟨r, rfl, by simp only; omega, by simp only; omega, by simp only; omega⟩, w1⟩
structure SeenC (c : Channel) (crs : List (List Int)) (s : Sight) : Prop where
  after : 0 ≤ s.after ∧ s.after ≤ c.tides
  cell : 0 ≤ s.cell ∧ s.cell < c.cells
  up : s.upright = decide (s.cell ∈ crs.getD s.after.toNat [])
theorem seen_ok {l : List Int} (hl : l.length ≤ 9223372036854775807) {c : Channel} (r : Right c) {crs : List (List Int)} (hw : WalkC c c.tides.toNat crs) {p q most : Int} (hp : HOK l p) (hm : 0 ≤ most ∧ most ≤ 8) : ∃ x, q4 l p q c crs most = some x ∧ HOK l x.b0_1 ∧ (x.r0.length : Int) ≤ most ∧ ∀ s ∈ x.r0, SeenC c crs s := by
  have hc := r.cells
  have hf := r.fords
  have ht := r.tides
  have hcl := hw.len
  unfold q4
  obtain ⟨u, hu, hb, hk⟩ := upto_ok (r := q) (n := most) hl hp (by omega)
  rw [hu, Option.bind_some]
  have key : ∃ o, iterM FU (qR u c l crs) ⟨0, u.h0_1, u.h0_2, []⟩ = some o ∧ HOK l o.b0_1 ∧ (o.out9.length : Int) = u.r0 ∧ ∀ s ∈ o.out9, SeenC c crs s := by
    refine iterM_inv (f := qR u c l crs) (fun s => (0 ≤ s.t14 ∧ s.t14 ≤ u.r0) ∧ HOK l s.b0_1 ∧ (s.out9.length : Int) = s.t14 ∧ ∀ w ∈ s.out9, SeenC c crs w) (fun s => (u.r0 - s.t14).toNat) _ (fun s hs => ?_) FU _ (FU_lt (by simp only; omega)) ⟨by simp only; omega, hk, rfl, by simp⟩
    obtain ⟨h0, hk0, hlen, hx⟩ := hs
    unfold qR
    by_cases hlt : s.t14 < u.r0
    · left
      rw [if_pos hlt, subc_eq (by omega), Option.bind_some]
      obtain ⟨x, hx1, hb1, hk1⟩ := upto_ok (r := s.b0_2) (n := c.tides) hl hk0 (by omega)
      rw [hx1, Option.bind_some]
      obtain ⟨y, hy1, hb2, hk2⟩ := upto_ok (r := x.h0_2) (n := c.cells - 1) hl hk1 (by omega)
      rw [hy1, Option.bind_some, Option.bind_some]
      obtain ⟨z, hz1, hk3⟩ := once_ok (r := y.h0_2) (n := 2) hl hk2 (by omega)
      have hrow := hw.row x.r0.toNat (by omega)
      obtain ⟨r1, r2, r3⟩ := rowB_iff.1 hrow
      have hixr : ix crs x.r0 = some (crs.getD x.r0.toNat []) := ix_eq [] (by omega) (by omega)
      have fin : ∀ (b1 b2 ce : Int), HOK l b1 → (0 ≤ ce ∧ ce < c.cells) → ∃ s', (ix crs x.r0).bind (fun t45 => (j6 t45 ce).bind fun t49 => (appc 24 s.out9 [(⟨x.r0, ce, t49⟩ : Sight)]).bind fun t54 => (addc s.t14 1).bind fun t55 => some (Sum.inl (⟨t55, b1, b2, t54⟩ : qp) : qp ⊕ zN)) = some (.inl s') ∧ ((0 ≤ s'.t14 ∧ s'.t14 ≤ u.r0) ∧ HOK l s'.b0_1 ∧ (s'.out9.length : Int) = s'.t14 ∧ ∀ s ∈ s'.out9, SeenC c crs s) ∧ (u.r0 - s'.t14).toNat < (u.r0 - s.t14).toNat := by
        intro b1 b2 ce hb hce
        rw [hixr, Option.bind_some, Q1 (by omega), Option.bind_some, appc_eq (by simp; omega), Option.bind_some, addc_eq (by omega), Option.bind_some]
        refine ⟨_, rfl, ⟨by simp only; omega, hb, by simp; omega, fun w hw' => ?_⟩, by simp only; omega⟩
        rcases List.mem_append.1 hw' with h | h
        · exact hx w h
        · rw [List.mem_singleton] at h
          subst h
          exact ⟨by simp only; omega, hce, rfl⟩
      rw [hz1, Option.bind_some]
      by_cases h2 : z.r0 = true
      · rw [if_pos h2]
        obtain ⟨v, hv1, hb4, hk4⟩ := upto_ok (r := z.h0_2) (n := (c.fords.length : Int) - 1) hl hk3 (by omega)
        have hce : ix (crs.getD x.r0.toNat []) v.r0 = some ((crs.getD x.r0.toNat []).getD v.r0.toNat 0) := ix_eq 0 (by omega) (by omega)
        have hm2 := r3 _ (getD_mem (d := 0) (l := crs.getD x.r0.toNat []) (i := v.r0.toNat) (by omega))
        simp only
        rw [hixr, Option.bind_some, subc_eq (by omega), Option.bind_some, hv1, Option.bind_some, hce, Option.bind_some, Option.bind_some, ← hixr]
        exact fin _ _ _ hk4 hm2
      · rw [if_neg h2, Option.bind_some]
        exact fin _ _ _ hk3 (by simp only; omega)
    · right
      rw [if_neg hlt]
      exact ⟨_, rfl, hk0, by simp only; omega, hx⟩
  obtain ⟨o, h1, h2, h3, h4⟩ := key
  rw [h1, Option.bind_some]
  exact ⟨_, rfl, h2, by simp only; omega, h4⟩
theorem right_sights {c : Channel} (r : Right c) {sg : List Sight} (hn : sg.length ≤ 8) (h : ∀ s ∈ sg, (0 ≤ s.after ∧ s.after ≤ c.tides) ∧ 0 ≤ s.cell ∧ s.cell < c.cells) : Right ⟨c.cells, c.tides, c.fords, c.sands, sg⟩ := ⟨r.cells, r.tides, r.fords, r.sands, by simp only; omega, r.reach, fun s hs => (h s hs).1, r.fcell, r.span, fun s hs => (h s hs).2, r.up⟩
theorem real_on {c : Channel} (r : Right c) {crs : List (List Int)} (hw : WalkC c c.tides.toNat crs) (hag : ∀ k : Nat, k ≤ c.tides.toNat → agP tt c.sights (k : Int) (crs.getD k []) = true) : ∀ k : Nat, k ≤ c.tides.toNat → onB c k (crs.getD k []) = true := by
  have hc := r.cells
  have hmem : ∀ k, k ≤ c.tides.toNat → crs.getD k [] ∈ LL c := fun k hk => (mem_LL (by omega)).2 (hw.row k hk)
  have fwd : ∀ k : Nat, k ≤ c.tides.toNat → 0 < FcL tt c k (crs.getD k []) := by
    intro k
    induction k with
    | zero => intro hk; rw [FcL, if_pos ⟨hag 0 hk, hw.fst⟩]; omega
    | succ k ih => intro hk; exact FcL_succ_pos.2 ⟨hag (k + 1) hk, _, hmem k (by omega), hw.can k (by omega), ih (by omega)⟩
  have bwd : ∀ j k : Nat, k + j = c.tides.toNat → 0 < R (nxS c) (agS tt c) j (stL k (crs.getD k [])) := by
    intro j
    induction j with
    | zero =>
      intro k hk
      rw [R, agS_stL r (hw.row k (by omega)), if_pos (hag k (by omega))]
      omega
    | succ j ih =>
      intro k hk
      refine R_succ_pos.2 ⟨?_, stL (k + 1) (crs.getD (k + 1) []), ?_, ih (k + 1) (by omega)⟩
      · rw [agS_stL r (hw.row k (by omega))]; exact hag k (by omega)
      · exact (mem_nx_stL r (hw.row k (by omega)) (hw.row (k + 1) (by omega))).2 (hw.can k (by omega))
  intro k hk
  unfold onB
  rw [decide_eq_true (fwd k hk), decide_eq_true (bwd _ k (by omega))]
  rfl
theorem on_cnt {c : Channel} (r : Right c) {l : List Int} (hl : l ∈ LL c) (h : onB c c.tides.toNat l = true) : 0 < cntS tt c := by
  unfold onB at h
  rw [Bool.and_eq_true, decide_eq_true_eq] at h
  rw [cntS_sum r]
  exact sumN_pos.2 ⟨l, hl, h.1⟩
theorem seen_ag {c : Channel} {crs : List (List Int)} {sg : List Sight} (h : ∀ s ∈ sg, SeenC c crs s) (k : Nat) : agP tt sg (k : Int) (crs.getD k []) = true := by
  rw [agP_iff]
  intro i hi _ ha
  have hm : sg.getD i default ∈ sg := by
    rw [List.getD_eq_getElem?_getD, List.getElem?_eq_getElem hi]
    exact List.getElem_mem hi
  have := (h _ hm).up
  rw [ha, Int.toNat_natCast] at this
  exact this.symm
theorem pile_eq (l : List Int) : Y1 l = some ⟨0, 0⟩ := rfl
theorem HOK_zero (l : List Int) : HOK l 0 := ⟨Int.le_refl _, .inr rfl⟩
end Go.Proofs.Wb

namespace Go.Proofs.Wb
open Go Go.Fw Go.Gx Go.Sb
set_option linter.unusedVariables false
set_option maxRecDepth 100000
theorem made_seen {l : List Int} (hl : l.length ≤ 9223372036854775807) {cells fords tides most : Int} (hc : 3 ≤ cells ∧ cells ≤ 9) (hf : 1 ≤ fords ∧ fords ≤ 3) (ht : 0 ≤ tides ∧ tides ≤ 4) (hm : 0 ≤ most ∧ most ≤ 8) : ∃ x y, qZ l 0 0 cells fords tides = some x ∧ q4 l x.b0_1 x.b0_2 x.r0 x.r1 most = some y ∧ MadeC x.r0 cells fords tides ∧ WalkC x.r0 x.r0.tides.toNat x.r1 ∧ HOK l y.b0_1 ∧ (y.r0.length : Int) ≤ most ∧ ∀ s ∈ y.r0, SeenC x.r0 x.r1 s := by
  obtain ⟨x, h1, h2, h3, h4⟩ := made_ok hl (q := 0) (HOK_zero l) hc hf ht
  obtain ⟨y, g1, g2, g3, g4⟩ := seen_ok (q := x.b0_2) hl h3.right h4 h2 hm
  exact ⟨x, y, h1, g1, h3, h4, g2, g3, g4⟩
def cS (c : Channel) (sg : List Sight) : Channel := ⟨c.cells, c.tides, c.fords, c.sands, sg⟩
theorem cS_right {c : Channel} (r : Right c) {crs : List (List Int)} {sg : List Sight} (hn : sg.length ≤ 8) (h : ∀ s ∈ sg, SeenC c crs s) : Right (cS c sg) := right_sights r hn (fun s hs => ⟨(h s hs).after, (h s hs).cell⟩)
theorem few_right {c : Channel} (r : Right c) (h : c.sights.length ≤ 8) : Few c := by
  have hf := r.fords
  have hs := r.sands
  exact ⟨by omega, by omega, by omega⟩
theorem WalkC.sights {c : Channel} {n : Nat} {crs : List (List Int)} (h : WalkC c n crs) (sg : List Sight) : WalkC (cS c sg) n crs := ⟨h.len, h.fst, h.row, h.can⟩
theorem cS_on {c : Channel} (r : Right c) {crs : List (List Int)} (hw : WalkC c c.tides.toNat crs) {sg : List Sight} (hn : sg.length ≤ 8) (h : ∀ s ∈ sg, SeenC c crs s) (k : Nat) (hk : k ≤ c.tides.toNat) : onB (cS c sg) k (crs.getD k []) = true := real_on (cS_right r hn h) (hw.sights sg) (fun k _ => seen_ag h k) k hk
theorem cS_pos {c : Channel} (r : Right c) {crs : List (List Int)} (hw : WalkC c c.tides.toNat crs) {sg : List Sight} (hn : sg.length ≤ 8) (h : ∀ s ∈ sg, SeenC c crs s) : 0 < cntS tt (cS c sg) := by
  have hc := r.cells
  refine on_cnt (cS_right r hn h) ?_ (cS_on r hw hn h c.tides.toNat (Nat.le_refl _))
  exact (mem_LL (show 0 ≤ (cS c sg).cells from by show 0 ≤ c.cells; omega)).2 (hw.row c.tides.toNat (Nat.le_refl _))
end Go.Proofs.Wb

namespace Go.Proofs.Wb
open Go Go.Fw Go.Gx Go.Sb
set_option linter.unusedVariables false
set_option maxRecDepth 100000
theorem best_spec {c : Channel} (r : Right c) (h : cntS tt c ≠ 0) : (∃ l ∈ LL c, onB c c.tides.toNat l = true ∧ bestC c = gC c c.tides.toNat l) ∧ ∀ l ∈ LL c, onB c c.tides.toNat l = true → bestC c ≤ gC c c.tides.toNat l := by
  have ht := r.tides
  obtain ⟨w, hw, hwo⟩ := last_on r h
  have hwg := gC_on r c.tides.toNat (by omega) w hw hwo
  obtain ⟨i, hi, e⟩ := li_of hw
  unfold bestC
  rcases minF_spec (ok := fun a => decide (0 ≤ gC c c.tides.toNat (li c a))) (val := fun a => gC c c.tides.toNat (li c a)) (fun a h => by simpa using h) (LL c).length with ⟨_, q⟩ | ⟨_, ⟨j, j1, j2, j3⟩, q⟩
  · have := q i hi
    rw [e, decide_eq_true hwg] at this
    exact absurd this (by decide)
  · constructor
    · refine ⟨li c j, li_mem j1, ?_, j3⟩
      rw [decide_eq_true_eq] at j2
      cases hq : onB c c.tides.toNat (li c j) with
      | true => rfl
      | false =>
        have := gC_off (c := c) (k := c.tides.toNat) (l := li c j) (by rw [hq]; decide)
        omega
    · intro l hl ho
      obtain ⟨j', hj', e'⟩ := li_of hl
      have h1 := gC_on r c.tides.toNat (by omega) l hl ho
      have := q j' hj' (by rw [e', decide_eq_true h1])
      rw [e'] at this
      exact this
end Go.Proofs.Wb

namespace Go.Gx
open Go Go.Fw
def tailA (q : Option Addr) (sz m cap : Nat) : Option Addr := q.map fun a => if cap = m then a else a.add (m * sz)
section
variable {P : Program} {e : EnvL} {w : World} {dst : Option Nat} {ty : TypeId} {pos : String} {after : Array Edge} {g : Option (Nat × Bool)}
theorem jac {t E : TypeId} {x lo : Operand} {q : Option Addr} {len cap sz : Nat} {k : IntKind} {i : Int} (hu : (underlying t).run P w = .ok (.slice E) w) (hz : (sizeOf E).run P w = .ok sz w)
    (hx : ev e x = some (.slice q len cap)) (hlo : ev e lo = some (.int k i)) (h0 : 0 ≤ i) (h1 : i ≤ len) (hc : len ≤ cap) : Val P e w ⟨dst, .slice t x (some lo) none none, ty, pos, after, g⟩ (.slice (tailA q sz i.toNat cap) (len - i.toNat) (cap - i.toNat)) := fun n ds a he => by
  have key : (Instr.sliceBounds true len cap (some (.int k i)) none none).run P w = .ok (i.toNat, len, cap) w := by
    simp [Instr.sliceBounds, Instr.sliceBound, asIntOf, h0, h1]
  have hres : (Instr.slice t (.slice q len cap) (some (.int k i)) none none).run P w = .ok (.slice (tailA q sz i.toNat cap) (len - i.toNat) (cap - i.toNat)) w := by
    simp only [Instr.slice, Sem.run_bind, hu, Result.andThen_ok, key, hz, Sem.run_pure]
    congr 1
    cases q with
    | none => simp [tailA]
    | some p =>
      by_cases h : cap = i.toNat
      · simp [tailA, h]
      · simp [tailA, h]
  simp [execOp, he.eval hx, he.eval hlo, Instr.sliceAt, hu, hres]
end
end Go.Gx

namespace Go.Proofs.Wb
set_option maxHeartbeats 4000000
set_option maxRecDepth 100000
open Go Go.Fw Go.Gx Go.Sb
open Tryz
set_option linter.unusedVariables false

def zA (course0 : (List (List Int))) (s1 : Sight) : Option Bool :=
 (ix course0 s1.after).bind fun t8 =>
 (j6 t8 s1.cell).bind fun t12 =>
 some (t12 == s1.upright)
theorem YF (course0 : (List (List Int))) (s1 : Sight) (qa0 : Option Addr) (na0 ca0 : Nat) (ar0 : List AL) (w : World) (hw : HV w (keys [] []) [] [] [(aB qa0, aO qa0, RwA.enc ar0)] w) (hna0 : course0.length = na0) (hqa0 : AOK na0 qa0) (hla0 : na0 ≤ ca0) (hda0 : DRO course0 ar0) (hTa0 : ∀ t, t ∈ rsg RI course0 ar0 → segOK w t ∧ (t.2.2 ≠ [] → t.1 ∉ keys [] [])) {res : Bool} (hm : zA course0 s1 = some res) :
    Calls Tryz.prog 152 #[.slice qa0 na0 ca0, .agg #[.int .i64 s1.after, .int .i64 s1.cell, .bool s1.upright]] w (fun en w' => ∃ l : Unit, en = .returned (.bool res) ∧ (True) ∧ HV w (keys [] []) [] [] [] w') := by
  unfold zA at hm
  refine yt func152 Y ntmps152 Y (e := [(0, _), (1, _)]) Y hw (jw ?_)
  refine jS Y Y (fun b h1 => ?_)
  refine jr Y Y (ju (jl ?_))
  refine qi none (.free 0 (.free 1 (.hoist 2 (.free 3 (.hoist 4 (.free 5 (.hoist 6 (.free 8 (.hoist 9 (.one 7 (.free 10 (.free 11 .done)))))))))))) _ Y (by decide +kernel) (fun w k hh => hh.draw k) (fun w hh => hh) ?_
  refine yJ Y Y Y (K8 0 runUnderlying55 sizeOf3 Y Y Y Y (QR 0 isAgg3 Y Y Y Y Y ?_))
  obtain ⟨t8, h2, hm⟩ := bindO hm
  obtain ⟨A, h3, h4, h5, h6⟩ := (hda0).row h2
  refine jn Y Y Y Y (fun w _ => yU h3 (runUnderlying41 w) (sizeOf22 w) Y Y (Eq.trans (hda0).len.symm hna0) hqa0) (jD Y Y Y Y (fun w hh => kK RwA 0 h3 (isAgg22 w) Y (hh.seg 0 Y) Y (Nat.add_zero _).symm) (K8 1 runUnderlying55 sizeOf3 Y Y Y Y (QR 0 isAgg3 Y Y Y Y Y (K8 2 runUnderlying55 sizeOf4 Y Y Y Y (QR 0 isAgg4 Y Y Y Y Y (jF Y ?_))))))
  obtain ⟨t12, h7, hm⟩ := bindO hm
  refine jd [] [] Y Y Y Y Y Y Y call64 (fun w hh => yN t8 s1.cell A.a A.n A.cap w (HV.callee (S0 := []) (vs0 := []) hh (roC (hh.oldsep (S0 := []) (vs0 := []) (hTa0 _ (rsg_ix h2 h3))) roN)) h4 h5 h6 h7) (fun l h8 => ?_)
  refine jo (fun w hh => hh) (jn Y Y Y Y (fun w _ => jaU (runUnderlying4 w) Y Y) (jn Y Y Y Y (fun _ _ => jE Y) (jL (ja (jB ?_)))))
  obtain rfl := sj hm
  refine jq Y (fun w hh => (.tmp Y .nil)) (fun w hh => ⟨(), rfl, trivial, hh.se [] [] 1 Y Y Y rfl⟩)
def yH (s0 : Sight) (a11 : (List (List Int))) : Option Bool :=
 (zA a11 s0).bind fun t6 =>
 some (!t6)
theorem YA (s0 : Sight) (a11 : (List (List Int))) (rb : Nat) (qa1 : Option Addr) (na1 ca1 : Nat) (ar1 : List AL) (w : World) (hw : HV w (keys [] []) [] [] [(rb, 0, [.slice qa1 na1 ca1]), (aB qa1, aO qa1, RwA.enc ar1)] w)  (hna1 : a11.length = na1) (hqa1 : AOK na1 qa1) (hla1 : na1 ≤ ca1) (hda1 : DRO a11 ar1) (hTa1 : ∀ t, t ∈ rsg RI a11 ar1 → segOK w t ∧ (t.2.2 ≠ [] → t.1 ∉ keys [] [])) {res : Bool} (hm : yH s0 a11 = some res) :
    Calls Tryz.prog 151 #[.agg #[.int .i64 s0.after, .int .i64 s0.cell, .bool s0.upright], ptr rb 0] w (fun en w' => ∃ l : Unit, en = .returned (.bool res) ∧ (True) ∧ HV w (keys [] []) [] [] [] w') := by
  unfold yH at hm
  refine yt func151 Y ntmps151 Y (e := [(0, _), (1, _)]) Y hw (jw ?_)
  refine jS Y Y (fun b h1 => ?_)
  refine jr Y Y (ql (jc Y Y Y (fun w hh => jH (isAgg41 w) Y (segCell (hh.seg 0 Y) 0 Y)) (Jh [_, _, _] 0 isAgg55 sizeOf55 Y Y Y Y ?_)))
  obtain ⟨t6, h2, hm⟩ := bindO hm
  refine jd [] [] Y Y Y Y Y Y Y call152 (fun w hh => YF a11 s0 qa1 na1 ca1 ar1 w (HV.callee (S0 := []) (vs0 := []) hh (roR hh 1 Y roN)) hna1 hqa1 hla1 hda1 (hh.oldT (S0 := []) (vs0 := []) hTa1) h2) (fun l h3 => ?_)
  refine jc Y Y Y (fun _ _ => zr Y) (jr Y Y (ju (jB ?_)))
  obtain rfl := sj hm
  refine jq Y (fun w hh => (.tmp Y .nil)) (fun w hh => ⟨(), rfl, trivial, hh.se [] [] 2 Y Y Y rfl⟩)
def kO (s0 : (List Sight)) (f1_c0 : (List (List Int))) (s : Int) : Option (Int ⊕ (Unit ⊕ Int)) :=
 if s < (s0.length : Int) then
 ((ix s0 s).bind fun t14 =>
 (yH (⟨t14.after, t14.cell, t14.upright⟩ : Sight) f1_c0).bind fun t16 =>
 if t16 = true then
 (some (.inr (.inr s))) else
 ((addc s 1).bind fun t18 =>
 some (.inl t18))) else
 (some (.inr (.inl ())))
def kk (s0 : (List Sight)) (f1_c0 : (List (List Int))) : Option Int :=
 (iterM FU (kO s0 f1_c0) 0).bind fun o =>
 oc o (fun j => some (-1)) (fun r_1 => some r_1)
theorem Jo (s0 : (List Sight)) (f1_c0 : (List (List Int))) (qa0 : Option Addr) (na0 ca0 : Nat) (rb : Nat) (qa2 : Option Addr) (na2 ca2 : Nat) (ar2 : List AL) (w : World) (hw : HV w (keys [] []) [] [] [(aB qa0, aO qa0, RSi.enc s0), (rb, 0, [.slice qa2 na2 ca2]), (aB qa2, aO qa2, RwA.enc ar2)] w) (hna0 : s0.length = na0) (hqa0 : AOK na0 qa0) (hla0 : na0 ≤ ca0)  (hna2 : f1_c0.length = na2) (hqa2 : AOK na2 qa2) (hla2 : na2 ≤ ca2) (hda2 : DRO f1_c0 ar2) (hTa2 : ∀ t, t ∈ rsg RI f1_c0 ar2 → segOK w t ∧ (t.2.2 ≠ [] → t.1 ∉ keys [] [])) {res : Int} (hm : kk s0 f1_c0 = some res) :
    Calls Tryz.prog 183 #[.slice qa0 na0 ca0, .func (.func 151) #[] #[ptr rb 0]] w (fun en w' => ∃ l : Unit, en = .returned (.int .i64 res) ∧ (True) ∧ HV w (keys [] []) [] [] [] w') := by
  unfold kk at hm
  refine yt func183 Y ntmps183 Y (e := [(0, _), (1, _)]) Y hw (jw (jr Y Y (ju (jl (jw (jk Y Y (jc Y Y Y (fun w _ => kC hna0 (runUnderlying24 w) Y) ?_)))))))
  refine jk Y Y (ju ?_)
  obtain ⟨o, h1, h2⟩ := bindO hm
  refine jW (ι := Unit) (fun j => o = .inl j) (fun j => []) (fun j => []) (fun j => []) ?_ ?_
  ·replace hm := h1
   refine js ?_
   refine kb (ι := Unit) hm (fun s l => True) (fun s l => [(0, .slice qa0 na0 ca0), (1, .func (.func 151) #[] #[ptr rb 0]), (7, .int .i64 (s0.length : Int)), (8, .int .i64 s)]) (fun s l => []) (fun s l => []) () (trivial) (sE Y) (fun w hh => hh) (fun s l r hpl hm h3 => ?_)
   unfold kO at hm
   refine jw (KD Y Y Y (ju (jl ?_)))
   refine jz Y (fun h4 => ?_) (fun h4 => ?_)
   ·replace hm := ifD h4 hm
    refine jx (ja (jl (js (jw (jk Y Y (jr Y Y (ql ?_)))))))
    refine jk Y Y (jk Y Y (jk Y Y ?_))
    obtain ⟨t14, h5, hm⟩ := bindO hm
    refine jc Y Y Y (fun w _ => yU h5 (runUnderlying24 w) (sizeOf55 w) Y Y hna0 hqa0) ?_
    refine jc Y Y Y (fun w hh => JW RSi 0 [.int .i64 t14.after, .int .i64 t14.cell, .bool t14.upright] h5 (isAgg55 w) (sizeOf55 w) Y (hh.seg 0 Y) Y (Nat.add_zero _).symm) ?_
    obtain ⟨t16, h6, hm⟩ := bindO hm
    refine jd [] [] Y Y Y Y Y Y Y call151 (fun w hh => YA (⟨t14.after, t14.cell, t14.upright⟩ : Sight) f1_c0 rb qa2 na2 ca2 ar2 w (HV.callee (S0 := []) (vs0 := []) hh (roR hh 1 Y (roR hh 2 Y roN))) hna2 hqa2 hla2 hda2 (hh.oldT (S0 := []) (vs0 := []) hTa2) h6) (fun l_1 h7 => ?_)
    refine ju ?_
    refine jz Y (fun h8 => ?_) (fun h8 => ?_)
    ·replace hm := ifT (h8) hm
     refine jw (jk Y Y (jr Y Y (ju (jB (jG (ji (ji ?_)))))))
     refine jG ?_
     obtain rfl := sj hm
     have hbo := h3 _ Y
     subst hbo
     refine ji ?_
     replace hm := ocR h2
     refine ji ?_
     obtain rfl := sj hm
     refine jq Y (fun w hh => (.tmp Y .nil)) (fun w hh => ⟨(), rfl, trivial, hh.se [] [] 3 Y Y Y rfl⟩)
    replace hm := ifN h8 hm
    refine jx (jA (ja (jg ?_)))
    obtain ⟨t18, h9, hm⟩ := bindO hm
    refine Kl h9 Y Y Y (jk Y Y (jv ?_))
    obtain rfl := sj hm
    refine ja ?_
    exact jM _ () Y (trivial) (sE Y) (fun w hh => hh)
   replace hm := ifE h4 hm
   refine kz (jp (jp (jP ?_)))
   obtain rfl := sj hm
   have hbo := h3 _ Y
   subst hbo
   exact jm () (Y) (.nil) (fun w hh => hh)
  intro j hj
  have h10 := hj
  subst h10
  replace hm := ocL h2
  refine ja (jw (jr Y Y (ju (jB ?_))))
  obtain rfl := sj hm
  refine jq Y (fun w hh => (.tmp Y .nil)) (fun w hh => ⟨(), rfl, trivial, hh.se [] [] 3 Y Y Y rfl⟩)
def jZ (s0 : (List Sight)) (f1_c0 : (List (List Int))) : Option Bool :=
 (kk s0 f1_c0).bind fun t7 =>
 some (decide (0 ≤ t7))
theorem zQ (s0 : (List Sight)) (f1_c0 : (List (List Int))) (qa0 : Option Addr) (na0 ca0 : Nat) (rb : Nat) (qa2 : Option Addr) (na2 ca2 : Nat) (ar2 : List AL) (w : World) (hw : HV w (keys [] []) [] [] [(aB qa0, aO qa0, RSi.enc s0), (rb, 0, [.slice qa2 na2 ca2]), (aB qa2, aO qa2, RwA.enc ar2)] w) (hna0 : s0.length = na0) (hqa0 : AOK na0 qa0) (hla0 : na0 ≤ ca0)  (hna2 : f1_c0.length = na2) (hqa2 : AOK na2 qa2) (hla2 : na2 ≤ ca2) (hda2 : DRO f1_c0 ar2) (hTa2 : ∀ t, t ∈ rsg RI f1_c0 ar2 → segOK w t ∧ (t.2.2 ≠ [] → t.1 ∉ keys [] [])) {res : Bool} (hm : jZ s0 f1_c0 = some res) :
    Calls Tryz.prog 150 #[.slice qa0 na0 ca0, .func (.func 151) #[] #[ptr rb 0]] w (fun en w' => ∃ l : Unit, en = .returned (.bool res) ∧ (True) ∧ HV w (keys [] []) [] [] [] w') := by
  unfold jZ at hm
  refine yt func150 Y ntmps150 Y (e := [(0, _), (1, _)]) Y hw (jw (jr Y Y (ql (jk Y Y (jk Y Y ?_)))))
  obtain ⟨t7, h1, hm⟩ := bindO hm
  refine jd [] [] Y Y Y Y Y Y Y call183 (fun w hh => Jo s0 f1_c0 qa0 na0 ca0 rb qa2 na2 ca2 ar2 w (HV.callee (S0 := []) (vs0 := []) hh (roR hh 0 Y (roR hh 1 Y (roR hh 2 Y roN)))) hna0 hqa0 hla0 hna2 hqa2 hla2 hda2 (hh.oldT (S0 := []) (vs0 := []) hTa2) h1) (fun l h2 => ?_)
  refine jc Y Y Y (fun _ _ => Ya Y Y) (jr Y Y (ju (jB ?_)))
  obtain rfl := sj hm
  refine jq Y (fun w hh => (.tmp Y .nil)) (fun w hh => ⟨(), rfl, trivial, hh.se [] [] 3 Y Y Y rfl⟩)
def kX (c0 : Channel) (course1 : (List (List Int))) : Option Bool :=
 (jZ c0.sights course1).bind fun t8 =>
 some (!t8)
theorem Jc (c0 : Channel) (course1 : (List (List Int))) (qa0 : Option Addr) (na0 ca0 : Nat) (qa1 : Option Addr) (na1 ca1 : Nat) (qa2 : Option Addr) (na2 ca2 : Nat) (qa3 : Option Addr) (na3 ca3 : Nat) (ar3 : List AL) (w : World) (hw : HV w (keys [] []) [] [] [(aB qa0, aO qa0, RI.enc c0.fords), (aB qa1, aO qa1, RSa.enc c0.sands), (aB qa2, aO qa2, RSi.enc c0.sights), (aB qa3, aO qa3, RwA.enc ar3)] w) (hna0 : c0.fords.length = na0) (hqa0 : AOK na0 qa0) (hla0 : na0 ≤ ca0) (hna1 : c0.sands.length = na1) (hqa1 : AOK na1 qa1) (hla1 : na1 ≤ ca1) (hna2 : c0.sights.length = na2) (hqa2 : AOK na2 qa2) (hla2 : na2 ≤ ca2) (hna3 : course1.length = na3) (hqa3 : AOK na3 qa3) (hla3 : na3 ≤ ca3) (hda3 : DRO course1 ar3) (hTa3 : ∀ t, t ∈ rsg RI course1 ar3 → segOK w t ∧ (t.2.2 ≠ [] → t.1 ∉ keys [] [])) {res : Bool} (hm : kX c0 course1 = some res) :
    Calls Tryz.prog 79 #[.agg #[.int .i64 c0.cells, .int .i64 c0.tides, .slice qa0 na0 ca0, .slice qa1 na1 ca1, .slice qa2 na2 ca2], .slice qa3 na3 ca3] w (fun en w' => ∃ l : Unit, en = .returned (.bool res) ∧ (True) ∧ HV w (keys [] []) [] [] [] w') := by
  unfold kX at hm
  refine yt func79 Y ntmps79 Y (e := [(0, _), (1, _)]) Y hw (jw ?_)
  refine jS Y Y (fun b h1 => ?_)
  refine jS Y Y (fun b_1 h2 => ?_)
  refine jr Y Y (ql (yy 4 runUnderlying26 Y sizeOf24 Y Y (qN 1 isAgg24 Y Y Y Y (jc Y Y Y (fun _ _ => kp (u := #[]) (u' := #[_]) Y Y) ?_))))
  obtain ⟨t8, h3, hm⟩ := bindO hm
  refine jd [] [] Y Y Y Y Y Y Y call150 (fun w hh => zQ c0.sights course1 qa2 na2 ca2 b_1 qa3 na3 ca3 ar3 w (HV.callee (S0 := []) (vs0 := []) hh (roR hh 2 Y (roC (bsep (hh.bseg 0 Y)) (roR hh 3 Y roN)))) hna2 hqa2 hla2 hna3 hqa3 hla3 hda3 (hh.oldT (S0 := []) (vs0 := []) hTa3) h3) (fun l h4 => ?_)
  refine jc Y Y Y (fun _ _ => zr Y) (jr Y Y (ju (jB ?_)))
  obtain rfl := sj hm
  refine jq Y (fun w hh => (.tmp Y .nil)) (fun w hh => ⟨(), rfl, trivial, hh.se [] [] 4 Y Y Y rfl⟩)
structure Jq where
  r0 : Int
  r1 : Int
structure qx where
  n4 : Int
  t14 : Int
structure za where
  n4 : Int
  t22 : Int
def qy (t19 : (List Int)) (s : qx) (course0 : (List (List Int))) (s_1 : za) : Option (za ⊕ Int) :=
 if s_1.t22 < (t19.length : Int) then
 ((ix t19 s_1.t22).bind fun t25 =>
 (addc s.t14 1).bind fun t31 =>
 (ix course0 t31).bind fun t32 =>
 (ix t32 s_1.t22).bind fun t35 =>
 (subc t25 t35).bind fun t37 =>
 (addc s.t14 1).bind fun t40 =>
 (ix course0 t40).bind fun t41 =>
 (ix t41 s_1.t22).bind fun t44 =>
 (subc t44 t25).bind fun t47 =>
 (addc s_1.n4 (max t37 t47)).bind fun t49 =>
 (addc s_1.t22 1).bind fun t50 =>
 some (.inl (⟨t49, t50⟩ : za))) else
 (some (.inr s_1.n4))
def yf (course0 : (List (List Int))) (s : qx) : Option (qx ⊕ Int) :=
 if s.t14 < ((course0.drop (Int.toNat 1)).length : Int) then
 ((ix course0 s.t14).bind fun t19 =>
 (iterM FU (qy t19 s course0) (⟨s.n4, 0⟩ : za)).bind fun o_1 =>
 (addc s.t14 1).bind fun t51 =>
 some (.inl (⟨o_1, t51⟩ : qx))) else
 (some (.inr s.n4))
structure y7 where
  out5 : Int
  t56 : Int
def kW (t53 : (List Int)) (course0 : (List (List Int))) (s_2 : y7) : Option (y7 ⊕ Int) :=
 if s_2.t56 < (t53.length : Int) then
 (((ix t53 s_2.t56).bind fun t59 =>
 (subc (course0.length : Int) 1).bind fun t64 =>
 (ix course0 t64).bind fun t65 =>
 (ix t65 s_2.t56).bind fun t68 =>
 if t68 = t59 then
 (some s_2.out5) else
 ((addc s_2.out5 1).bind fun t73 =>
 some t73)).bind fun o_3 =>
 (addc s_2.t56 1).bind fun t74 =>
 some (.inl (⟨o_3, t74⟩ : y7))) else
 (some (.inr s_2.out5))
def qh (course0 : (List (List Int))) : Option Jq :=
 if (0 : Int) ≤ 1 ∧ 1 ≤ (course0.length : Int) then ((iterM FU (yf course0) (⟨0, 0⟩ : qx)).bind fun o =>
 (ix course0 0).bind fun t53 =>
 (iterM FU (kW t53 course0) (⟨0, 0⟩ : y7)).bind fun o_2 =>
 some (⟨o, o_2⟩ : Jq)) else none
theorem Kd (course0 : (List (List Int))) (qa0 : Option Addr) (na0 ca0 : Nat) (ar0 : List AL) (w : World) (hw : HV w (keys [] []) [] [] [(aB qa0, aO qa0, RwA.enc ar0)] w) (hna0 : course0.length = na0) (hqa0 : AOK na0 qa0) (hla0 : na0 ≤ ca0) (hda0 : DRO course0 ar0) (hTa0 : ∀ t, t ∈ rsg RI course0 ar0 → segOK w t ∧ (t.2.2 ≠ [] → t.1 ∉ keys [] [])) {res : Jq} (hm : qh course0 = some res) :
    Calls Tryz.prog 80 #[.slice qa0 na0 ca0] w (fun en w' => ∃ l : Unit, en = .returned (.tuple #[.int .i64 res.r0, .int .i64 res.r1]) ∧ (True) ∧ HV w (keys [] []) [] [] [] w') := by
  unfold qh at hm
  refine yt func80 Y ntmps80 Y (e := [(0, _)]) Y hw (jw (jr Y Y (jr Y Y (ql (jr Y Y (jr Y Y (ju ?_)))))))
  refine jl (jw (jk Y Y ?_))
  obtain ⟨h1, hm⟩ := ifO hm
  refine jc Y Y Y (fun w _ => jac (runUnderlying41 w) (sizeOf22 w) Y Y h1.1 (tail_in hna0 h1) hla0) (jc Y Y Y (fun w _ => kC (tail_hn hna0) (runUnderlying41 w) Y) (jk Y Y (ju ?_)))
  obtain ⟨o, h2, h3⟩ := bindO hm
  refine jW (ι := Unit) (fun l => True) (fun l => [(0, .slice qa0 na0 ca0), (4, .int .i64 o), (5, .int .i64 0)]) (fun l => []) (fun l => []) ?_ ?_
  ·replace hm := h2
   refine js ?_
   refine kb (ι := Unit) hm (fun s l_1 => True) (fun s l_1 => [(0, .slice qa0 na0 ca0), (4, .int .i64 s.n4), (5, .int .i64 0), (13, .int .i64 ((course0.drop (Int.toNat 1)).length : Int)), (14, .int .i64 s.t14)]) (fun s l_1 => []) (fun s l_1 => []) () (trivial) (sE Y) (fun w hh => hh) (fun s l_1 r hpl hm h4 => ?_)
   unfold yf at hm
   refine jw (KD Y Y Y (ju (jl ?_)))
   refine jz Y (fun h5 => ?_) (fun h5 => ?_)
   ·replace hm := ifD h5 hm
    refine jx (ja (jl (js (jw (jk Y Y (jr Y Y (ql ?_)))))))
    refine jk Y Y (jk Y Y ?_)
    obtain ⟨t19, h6, hm⟩ := bindO hm
    obtain ⟨A, h7, h8, h9, h10⟩ := (hda0).row h6
    refine jc Y Y Y (fun w _ => yU h7 (runUnderlying41 w) (sizeOf22 w) Y Y (Eq.trans (hda0).len.symm hna0) hqa0) (jc Y Y Y (fun w hh => kK RwA 0 h7 (isAgg22 w) Y (hh.seg 0 Y) Y (Nat.add_zero _).symm) (jc Y Y Y (fun w _ => kC h8 (runUnderlying22 w) Y) (jk Y Y (ju ?_))))
    obtain ⟨o_1, h11, h12⟩ := bindO hm
    refine jW (ι := Unit) (fun l_2 => True) (fun l_2 => [(0, .slice qa0 na0 ca0), (4, .int .i64 o_1), (5, .int .i64 0), (13, .int .i64 ((course0.drop (Int.toNat 1)).length : Int)), (14, .int .i64 s.t14)]) (fun l_2 => []) (fun l_2 => []) ?_ ?_
    ·replace hm := h11
     refine js ?_
     refine kb (ι := Unit) hm (fun s_1 l_3 => True) (fun s_1 l_3 => [(0, .slice qa0 na0 ca0), (4, .int .i64 s_1.n4), (5, .int .i64 0), (6, .int .i64 s.t14), (13, .int .i64 ((course0.drop (Int.toNat 1)).length : Int)), (14, .int .i64 s.t14), (20, .slice A.a A.n A.cap), (21, .int .i64 (t19.length : Int)), (22, .int .i64 s_1.t22)]) (fun s_1 l_3 => []) (fun s_1 l_3 => []) () (trivial) (sE Y) (fun w hh => hh) (fun s_1 l_3 r_1 hpl hm h13 => ?_)
     unfold qy at hm
     refine jw (KD Y Y Y (ju (jl ?_)))
     refine jz Y (fun h14 => ?_) (fun h14 => ?_)
     ·replace hm := ifD h14 hm
      refine jx (ja (jl (js (jw (jk Y Y ?_)))))
      obtain ⟨t25, h15, hm⟩ := bindO hm
      refine jc Y Y Y (fun w _ => yU h15 (runUnderlying22 w) (sizeOf3 w) Y Y h8 h9) (jc Y Y Y (fun w hh => kK RI 0 h15 (isAgg3 w) Y (hh.oldseg (hTa0 _ (rsg_ix h6 h7))) Y (Nat.add_zero _).symm) (jr Y Y (jr Y Y (ju ?_))))
      refine qi none (.free 0 (.free 1 (.free 2 (.free 3 (.free 4 (.free 5 (.hoist 6 (.free 7 (.free 8 (.hoist 9 (.free 10 (.free 11 (.free 12 (.free 13 (.free 14 (.hoist 15 (.free 16 (.free 17 (.hoist 18 (.free 19 (.free 20 (.free 21 (.free 22 (.free 23 .done)))))))))))))))))))))))) _ Y (by decide +kernel) (fun w k hh => hh.draw k) (fun w hh => hh) ?_
      refine yJ Y Y Y (yJ Y Y Y (yJ Y Y Y (yJ Y Y Y ?_)))
      obtain ⟨t31, h16, hm⟩ := bindO hm
      refine jn Y Y Y Y (fun _ _ => Kw h16 Y Y) ?_
      obtain ⟨t32, h17, hm⟩ := bindO hm
      obtain ⟨A_1, h18, h19, h20, h21⟩ := (hda0).row h17
      refine jn Y Y Y Y (fun w _ => yU h18 (runUnderlying41 w) (sizeOf22 w) Y Y (Eq.trans (hda0).len.symm hna0) hqa0) (jD Y Y Y Y (fun w hh => kK RwA 0 h18 (isAgg22 w) Y (hh.seg 0 Y) Y (Nat.add_zero _).symm) (yJ Y Y Y ?_))
      obtain ⟨t35, h22, hm⟩ := bindO hm
      refine jn Y Y Y Y (fun w _ => yU h22 (runUnderlying22 w) (sizeOf3 w) Y Y h19 h20) (jD Y Y Y Y (fun w hh => kK RI 0 h22 (isAgg3 w) Y (hh.oldseg (hTa0 _ (rsg_ix h17 h18))) Y (Nat.add_zero _).symm) ?_)
      obtain ⟨t37, h23, hm⟩ := bindO hm
      refine jn Y Y Y Y (fun _ _ => k3 h23 Y Y) (yJ Y Y Y (yJ Y Y Y ?_))
      obtain ⟨t40, h24, hm⟩ := bindO hm
      refine jn Y Y Y Y (fun _ _ => Kw h24 Y Y) ?_
      obtain ⟨t41, h25, hm⟩ := bindO hm
      obtain ⟨A_2, h26, h27, h28, h29⟩ := (hda0).row h25
      refine jn Y Y Y Y (fun w _ => yU h26 (runUnderlying41 w) (sizeOf22 w) Y Y (Eq.trans (hda0).len.symm hna0) hqa0) (jD Y Y Y Y (fun w hh => kK RwA 0 h26 (isAgg22 w) Y (hh.seg 0 Y) Y (Nat.add_zero _).symm) (yJ Y Y Y ?_))
      obtain ⟨t44, h30, hm⟩ := bindO hm
      refine jn Y Y Y Y (fun w _ => yU h30 (runUnderlying22 w) (sizeOf3 w) Y Y h27 h28) (jD Y Y Y Y (fun w hh => kK RI 0 h30 (isAgg3 w) Y (hh.oldseg (hTa0 _ (rsg_ix h25 h26))) Y (Nat.add_zero _).symm) (yJ Y Y Y ?_))
      obtain ⟨t47, h31, hm⟩ := bindO hm
      refine jn Y Y Y Y (fun _ _ => k3 h31 Y Y) (jn Y Y Y Y (fun _ _ => YL Y Y) ?_)
      obtain ⟨t49, h32, hm⟩ := bindO hm
      refine jn Y Y Y Y (fun _ _ => Kw h32 Y Y) (jn Y Y Y Y (fun _ _ => jE Y) (jL (jA (ja (jg ?_)))))
      obtain ⟨t50, h33, hm⟩ := bindO hm
      refine Kl h33 Y Y Y (jk Y Y (jv ?_))
      obtain rfl := sj hm
      refine ja ?_
      exact jM _ () Y (trivial) (sE Y) (fun w hh => hh)
     replace hm := ifE h14 hm
     refine kz (jp (jp (jP ?_)))
     obtain rfl := sj hm
     have hbo := h13 _ Y
     subst hbo
     exact jm () (trivial) (sE Y) (fun w hh => hh)
    intro l_2 hj
    replace hm := h12
    refine jA (ja (jg ?_))
    obtain ⟨t51, h34, hm⟩ := bindO hm
    refine Kl h34 Y Y Y (jk Y Y (jv ?_))
    obtain rfl := sj hm
    refine ja ?_
    exact jM _ () Y (trivial) (sE Y) (fun w hh => hh)
   replace hm := ifE h5 hm
   refine kz (jp (jp (jP ?_)))
   obtain rfl := sj hm
   have hbo := h4 _ Y
   subst hbo
   exact jm () (trivial) (sE Y) (fun w hh => hh)
  intro l hj
  replace hm := h3
  refine ja (jl (jw (jk Y Y ?_)))
  obtain ⟨t53, h35, hm⟩ := bindO hm
  obtain ⟨A_3, h36, h37, h38, h39⟩ := (hda0).row h35
  refine jc Y Y Y (fun w _ => yU h36 (runUnderlying41 w) (sizeOf22 w) Y Y (Eq.trans (hda0).len.symm hna0) hqa0) (jc Y Y Y (fun w hh => kK RwA 0 h36 (isAgg22 w) Y (hh.seg 0 Y) Y (Nat.add_zero _).symm) (jc Y Y Y (fun w _ => kC h37 (runUnderlying22 w) Y) (jk Y Y (ju ?_))))
  obtain ⟨o_2, h40, h41⟩ := bindO hm
  refine jW (ι := Unit) (fun l_4 => True) (fun l_4 => [(4, .int .i64 o), (5, .int .i64 o_2)]) (fun l_4 => []) (fun l_4 => []) ?_ ?_
  ·replace hm := h40
   refine js ?_
   refine kb (ι := Unit) hm (fun s_2 l_5 => True) (fun s_2 l_5 => [(0, .slice qa0 na0 ca0), (4, .int .i64 o), (5, .int .i64 s_2.out5), (54, .slice A_3.a A_3.n A_3.cap), (55, .int .i64 (t53.length : Int)), (56, .int .i64 s_2.t56)]) (fun s_2 l_5 => []) (fun s_2 l_5 => []) () (trivial) (sE Y) (fun w hh => hh) (fun s_2 l_5 r_2 hpl hm h42 => ?_)
   unfold kW at hm
   refine jw (KD Y Y Y (ju (jl ?_)))
   refine jz Y (fun h43 => ?_) (fun h43 => ?_)
   ·replace hm := ifD h43 hm
    refine jx (ja (jl ?_))
    obtain ⟨o_3, h44, h45⟩ := bindO hm
    refine jW (ι := Unit) (fun l_6 => True) (fun l_6 => [(0, .slice qa0 na0 ca0), (4, .int .i64 o), (5, .int .i64 o_3), (54, .slice A_3.a A_3.n A_3.cap), (55, .int .i64 (t53.length : Int)), (56, .int .i64 s_2.t56)]) (fun l_6 => []) (fun l_6 => []) ?_ ?_
    ·replace hm := h44
     refine js (jw (jk Y Y ?_))
     obtain ⟨t59, h46, hm⟩ := bindO hm
     refine jc Y Y Y (fun w _ => yU h46 (runUnderlying22 w) (sizeOf3 w) Y Y h37 h38) (jc Y Y Y (fun w hh => kK RI 0 h46 (isAgg3 w) Y (hh.oldseg (hTa0 _ (rsg_ix h35 h36))) Y (Nat.add_zero _).symm) (jr Y Y (jr Y Y (ql (jk Y Y (jk Y Y (jc Y Y Y (fun w _ => kC hna0 (runUnderlying41 w) Y) ?_)))))))
     obtain ⟨t64, h47, hm⟩ := bindO hm
     refine jc Y Y Y (fun _ _ => k3 h47 Y Y) ?_
     obtain ⟨t65, h48, hm⟩ := bindO hm
     obtain ⟨A_4, h49, h50, h51, h52⟩ := (hda0).row h48
     refine jc Y Y Y (fun w _ => yU h49 (runUnderlying41 w) (sizeOf22 w) Y Y (Eq.trans (hda0).len.symm hna0) hqa0) (jc Y Y Y (fun w hh => kK RwA 0 h49 (isAgg22 w) Y (hh.seg 0 Y) Y (Nat.add_zero _).symm) (jk Y Y ?_))
     obtain ⟨t68, h53, hm⟩ := bindO hm
     refine jc Y Y Y (fun w _ => yU h53 (runUnderlying22 w) (sizeOf3 w) Y Y h50 h51) (jc Y Y Y (fun w hh => kK RI 0 h53 (isAgg3 w) Y (hh.oldseg (hTa0 _ (rsg_ix h48 h49))) Y (Nat.add_zero _).symm) (jk Y Y (jc Y Y Y (fun _ _ => JL Y Y) (ju ?_))))
     refine jz Y (fun h54 => ?_) (fun h54 => ?_)
     ·replace hm := ifF (of_ndec_true h54) hm
      refine jg (jk Y Y ?_)
      obtain ⟨t73, h55, hm⟩ := bindO hm
      refine Kl h55 Y Y Y (jr Y Y (jv (jA ?_)))
      obtain rfl := sj hm
      exact jm () (trivial) (sE Y) (fun w hh => hh)
     replace hm := ifT (of_ndec_false h54) hm
     refine jx (jA ?_)
     obtain rfl := sj hm
     exact jm () (trivial) (sE Y) (fun w hh => hh)
    intro l_6 hj
    replace hm := h45
    refine ja (jg ?_)
    obtain ⟨t74, h56, hm⟩ := bindO hm
    refine Kl h56 Y Y Y (jk Y Y (jv ?_))
    obtain rfl := sj hm
    refine ja ?_
    exact jM _ () Y (trivial) (sE Y) (fun w hh => hh)
   replace hm := ifE h43 hm
   refine kz (jp (jp (jP ?_)))
   obtain rfl := sj hm
   have hbo := h42 _ Y
   subst hbo
   exact jm () (trivial) (sE Y) (fun w hh => hh)
  intro l_4 hj
  replace hm := h41
  refine ja (jw (jk Y Y (jk Y Y (jr Y Y (jr Y Y (ju (jB ?_)))))))
  obtain rfl := sj hm
  refine jq Y (fun w hh => (.tmp Y (.tmp Y .nil))) (fun w hh => ⟨(), rfl, trivial, hh.se [] [] 1 Y Y Y rfl⟩)
end Go.Proofs.Wb

namespace Go.Proofs.Wb
open Go Go.Fw Go.Gx Go.Sb
set_option linter.unusedVariables false
def agC (sg : List Sight) (crs : List (List Int)) : Bool := sg.all fun s => decide (s.cell ∈ crs.getD s.after.toNat []) == s.upright
theorem getDm {α : Type} {l : List α} {i : Nat} (d : α) (h : i < l.length) : l.getD i d ∈ l := by
  rw [List.getD_eq_getElem?_getD, List.getElem?_eq_getElem h]
  exact List.getElem_mem _
theorem agC_iff {c : Channel} (r : Right c) {crs : List (List Int)} : agC c.sights crs = true ↔ ∀ k : Nat, k ≤ c.tides.toNat → agP tt c.sights (k : Int) (crs.getD k []) = true := by
  unfold agC
  rw [List.all_eq_true]
  constructor
  · intro h k hk
    rw [agP_iff]
    intro i hi _ ha
    have := h _ (getDm default hi)
    rw [ha] at this
    simpa using this
  · intro h s hs
    have ha := r.after s hs
    obtain ⟨i, hi, e⟩ := List.getElem_of_mem hs
    have e2 : c.sights.getD i default = s := by rw [List.getD_eq_getElem?_getD, List.getElem?_eq_getElem hi, ← e]; rfl
    have := agP_iff.1 (h s.after.toNat (by omega)) i hi rfl (by rw [e2]; omega)
    rw [e2] at this
    simpa using this
theorem fitB_walk {c : Channel} (r : Right c) {crs : List (List Int)} (hw : WalkC c c.tides.toNat crs) : fitB tt c crs = agC c.sights crs := by
  have ht := r.tides
  have hl := hw.len
  rw [Bool.eq_iff_iff, agC_iff r]
  unfold fitB okAt
  simp only [Bool.and_eq_true, decide_eq_true_eq, List.all_eq_true, List.mem_range, Bool.or_eq_true]
  constructor
  · rintro ⟨_, _, h⟩ k hk
    exact (h k (by omega)).2.2
  · intro h
    refine ⟨by omega, hw.fst, fun k hk => ⟨hw.row k (by omega), ?_, h k (by omega)⟩⟩
    cases k with
    | zero => exact .inl rfl
    | succ k => exact .inr (hw.can k (by omega))
theorem walk_on {c : Channel} (r : Right c) {crs : List (List Int)} (hw : WalkC c c.tides.toNat crs) (h : agC c.sights crs = true) : ∀ k : Nat, k ≤ c.tides.toNat → onB c k (crs.getD k []) = true := real_on r hw ((agC_iff r).1 h)
def mvsC (crs : List (List Int)) (k : Nat) : Int := sumI (fun i => movL (crs.getD i []) (crs.getD (i + 1) [])) k
theorem gC_walk {c : Channel} (r : Right c) {crs : List (List Int)} (hw : WalkC c c.tides.toNat crs) (ho : ∀ k : Nat, k ≤ c.tides.toNat → onB c k (crs.getD k []) = true) : ∀ k : Nat, k ≤ c.tides.toNat → gC c k (crs.getD k []) ≤ mvsC crs k := by
  have hc := r.cells
  have ht := r.tides
  have hm : ∀ k, k ≤ c.tides.toNat → crs.getD k [] ∈ LL c := fun k hk => (mem_LL (by omega)).2 (hw.row k hk)
  intro k
  induction k with
  | zero => intro hk; rw [gC]; split <;> simp [mvsC, sumI]
  | succ k ih =>
    intro hk
    have h1 := (gC_step r (k := k) (by omega) (hm (k + 1) hk) (ho (k + 1) hk)).2 _ (hm k (by omega)) (ho k (by omega)) (hw.can k (by omega))
    have h2 := ih (by omega)
    show _ ≤ mvsC crs k + movL (crs.getD k []) (crs.getD (k + 1) [])
    omega
theorem best_walk {c : Channel} (r : Right c) {crs : List (List Int)} (hw : WalkC c c.tides.toNat crs) (h : agC c.sights crs = true) : bestC c ≤ mvsC crs c.tides.toNat := by
  have hc := r.cells
  have ho := walk_on r hw h
  have hm : crs.getD c.tides.toNat [] ∈ LL c := (mem_LL (by omega)).2 (hw.row _ (Nat.le_refl _))
  have h0 := on_cnt r hm (ho _ (Nat.le_refl _))
  have h1 := (best_spec r (by omega)).2 _ hm (ho _ (Nat.le_refl _))
  have h2 := gC_walk r hw ho _ (Nat.le_refl _)
  omega
theorem Zq {c : Channel} (r : Right c) (h8 : c.sights.length ≤ 20) {crs : List (List Int)} (hl : crs.length = c.tides.toNat + 1) (hr : ∀ l ∈ crs, l.length ≤ 100) : kX c crs = some (agC c.sights crs) := by
  unfold kX jZ kk
  have := any_loop c.sights default (fun x => yH ⟨x.after, x.cell, x.upright⟩ crs) (fun x => !(decide (x.cell ∈ crs.getD x.after.toNat []) == x.upright)) (by omega) (fun x hx => by
    have ha := r.after x hx
    have ht := r.tides
    unfold yH zA
    rw [ix_eq [] (by simp only; omega) (by simp only; omega), Option.bind_some, Q1 (by have := hr _ (getDm [] (show x.after.toNat < crs.length by omega)); simp only; omega)]
    rfl) (f := kO c.sights crs) (fun s => rfl)
  rw [this, Option.bind_some, not_any_not]
  rfl
theorem rows_small {c : Channel} (r : Right c) {crs : List (List Int)} (hw : WalkC c c.tides.toNat crs) : ∀ l ∈ crs, l.length ≤ 100 := by
  intro l hl
  obtain ⟨i, hi, e⟩ := List.getElem_of_mem hl
  have hf := r.fords
  have hlen := hw.len
  have := (rowB_iff.1 (hw.row i (by omega))).1
  rw [List.getD_eq_getElem?_getD, List.getElem?_eq_getElem hi] at this
  simp only [Option.getD_some, e] at this
  omega
theorem moved_L1 {a b : List Int} (h : a.length = b.length) (h3 : a.length ≤ 3) (ha : ∀ x ∈ a, 0 ≤ x ∧ x < 10) (hb : ∀ x ∈ b, 0 ≤ x ∧ x < 10) {crs : List (List Int)} {k : Nat} (hk : k + 1 < crs.length) (hkl : crs.length ≤ 1000) (hB : crs.getD (k + 1) [] = b) {n : Int} (hn : 0 ≤ n ∧ n ≤ 1000000) :
    iterM FU (qy a ⟨n, (k : Int)⟩ crs) ⟨n, 0⟩ = some (n + movL a b) := by
  have hM : ∀ i, i < a.length → 0 ≤ mvI (a.getD i (-1)) (b.getD i (-1)) ∧ mvI (a.getD i (-1)) (b.getD i (-1)) ≤ 11 := by
    intro i hi
    have h1 := ha _ (getD_mem (d := -1) hi)
    have h2 := hb _ (getD_mem (d := -1) (show i < b.length by omega))
    unfold mvI
    omega
  have key := iterM_run (f := qy a ⟨n, (k : Int)⟩ crs) (fun i => ⟨n + sumI (fun i => mvI (a.getD i (-1)) (b.getD i (-1))) i, (i : Int)⟩) a.length (b := n + movL a b) (fun i hi => ?_) ?_ FU (FU_lt (by omega))
  · have e0 : sumI (fun i => mvI (a.getD i (-1)) (b.getD i (-1))) 0 = 0 := rfl
    rw [e0, Int.add_zero] at key
    exact key
  · have h1 := ha _ (getD_mem (d := -1) hi)
    have h2 := hb _ (getD_mem (d := -1) (show i < b.length by omega))
    have h4 := sumI_bnd (f := fun i => mvI (a.getD i (-1)) (b.getD i (-1))) (B := 11) i (fun j hj => hM j (by omega))
    have e1 : sumI (fun i => mvI (a.getD i (-1)) (b.getD i (-1))) (i + 1) = sumI (fun i => mvI (a.getD i (-1)) (b.getD i (-1))) i + max (a.getD i (-1) - b.getD i (-1)) (b.getD i (-1) - a.getD i (-1)) := rfl
    rw [e1]
    have e2 : ((k : Int) + 1) = ((k + 1 : Nat) : Int) := by omega
    generalize sumI (fun i => mvI (a.getD i (-1)) (b.getD i (-1))) i = z at h4 ⊢
    unfold qy
    simp only
    rw [if_pos (by omega), ix_nat (-1) hi, Option.bind_some, addc_eq (by omega), Option.bind_some, e2, ix_nat [] hk, Option.bind_some, hB, ix_nat (-1) (by omega), Option.bind_some, subc_eq (by omega), Option.bind_some, Option.bind_some, ix_nat [] hk, Option.bind_some, hB, ix_nat (-1) (by omega), Option.bind_some, subc_eq (by omega), Option.bind_some, addc_eq (by omega), Option.bind_some, addc_eq (by omega), Option.bind_some, Int.add_assoc]
    rfl
  · unfold qy
    simp only
    rw [if_neg (by omega)]
    rfl
theorem mvsC_bnd {c : Channel} (r : Right c) {crs : List (List Int)} (hw : WalkC c c.tides.toNat crs) : ∀ k : Nat, k ≤ c.tides.toNat → 0 ≤ mvsC crs k ∧ mvsC crs k ≤ 33 * k := by
  intro k hk
  have := sumI_bnd (f := fun i => movL (crs.getD i []) (crs.getD (i + 1) [])) (B := 33) k (fun j hj => movL_bnd r (hw.row j (by omega)) (hw.row (j + 1) (by omega)))
  unfold mvsC
  omega
theorem moved_L2 {c : Channel} (hf : c.fords.length ≤ 3) {crs : List (List Int)} {T : Nat} (hl : crs.length = T + 1) (hT : T ≤ 100) (hr : (crs.getD T []).length = c.fords.length) : iterM FU (kW c.fords crs) ⟨0, 0⟩ = some (anL c (crs.getD T []) : Int) := by
  have key := iterM_run (f := kW c.fords crs) (fun i => ⟨((((List.range i).filter fun i => decide ((crs.getD T []).getD i (-1) ≠ c.fords.getD i 0)).length : Nat) : Int), (i : Int)⟩) c.fords.length (b := (anL c (crs.getD T []) : Int)) (fun i hi => ?_) ?_ FU (FU_lt (by omega))
  · exact key
  · have hb := filt_le (fun i => decide ((crs.getD T []).getD i (-1) ≠ c.fords.getD i 0)) i
    have e2 : (crs.length : Int) - 1 = (T : Int) := by omega
    unfold kW
    simp only
    rw [if_pos (by omega), ix_nat 0 hi, Option.bind_some, subc_eq (by omega), Option.bind_some, e2, ix_nat [] (by omega), Option.bind_some, ix_nat (-1) (by omega), Option.bind_some, filt_succ]
    by_cases hq : (crs.getD T []).getD i (-1) = c.fords.getD i 0
    · rw [if_pos hq, if_neg (by simp only [decide_eq_true_eq]; exact fun q => q hq), Option.bind_some, addc_eq (by omega), Option.bind_some]; rfl
    · rw [if_neg hq, if_pos (by simp only [decide_eq_true_eq]; exact hq), addc_eq (by omega), Option.bind_some, Option.bind_some, addc_eq (by omega), Option.bind_some]; rfl
  · unfold kW
    simp only
    rw [if_neg (by omega)]
    rfl
theorem row_small {c : Channel} (r : Right c) {l : List Int} (h : rowB c l = true) : ∀ x ∈ l, 0 ≤ x ∧ x < 10 := fun x hx => by
  have := (rowB_iff.1 h).2.2 x hx
  have := r.cells
  omega
theorem ZN {c : Channel} (r : Right c) {crs : List (List Int)} (hw : WalkC c c.tides.toNat crs) : qh crs = some ⟨mvsC crs c.tides.toNat, (anL c (crs.getD c.tides.toNat []) : Int)⟩ := by
  have hl := hw.len
  have ht := r.tides
  have hf := r.fords
  unfold qh
  rw [if_pos (by omega)]
  have key := iterM_run (f := yf crs) (fun k => ⟨mvsC crs k, (k : Int)⟩) c.tides.toNat (b := mvsC crs c.tides.toNat) (fun k hk => ?_) ?_ FU (FU_lt (by omega))
  · have e0 : mvsC crs 0 = 0 := rfl
    rw [e0] at key
    rw [show (⟨0, 0⟩ : qx) = ⟨0, ((0 : Nat) : Int)⟩ from rfl, key, Option.bind_some, show (0 : Int) = ((0 : Nat) : Int) from rfl, ix_nat [] (by omega), Option.bind_some, hw.fst]
    show (iterM FU (kW c.fords crs) ⟨0, 0⟩).bind _ = _
    rw [moved_L2 hf.2 hl (by omega) (rowB_iff.1 (hw.row _ (Nat.le_refl _))).1, Option.bind_some]
  · have hb := mvsC_bnd r hw k (by omega)
    have h1 := hw.row k (by omega)
    have h2 := hw.row (k + 1) (by omega)
    have e1 := (rowB_iff.1 h1).1
    have e2 := (rowB_iff.1 h2).1
    have hm := movL_bnd r h1 h2
    unfold yf
    simp only
    rw [if_pos (by rw [List.length_drop]; simp; omega), ix_nat [] (by omega), Option.bind_some, moved_L1 (b := crs.getD (k + 1) []) (by omega) (by omega) (row_small r h1) (row_small r h2) (by omega) (by omega) rfl ⟨hb.1, by omega⟩, Option.bind_some, addc_eq (by omega), Option.bind_some]
    rfl
  · unfold yf
    simp only
    rw [if_neg (by rw [List.length_drop]; simp; omega)]
end Go.Proofs.Wb

namespace Go.Proofs.Wb
open Go Go.Fw Go.Gx Go.Sb
set_option linter.unusedVariables false
theorem anew_in {c : Channel} {l : List Int} (hl : l ∈ LL c) (ho : onB c c.tides.toNat l = true) : (anewC c).lo ≤ (anL c l : Int) ∧ (anL c l : Int) ≤ (anewC c).hi := by
  have hm : (anL c l : Int) ∈ anewQ c := List.mem_map.2 ⟨l, List.mem_filter.2 ⟨hl, ho⟩, rfl⟩
  unfold anewC
  exact ⟨(foMin_spec 9 _).2.1 _ hm, (foMax_spec (-1) _).2.1 _ hm⟩
section
variable {x : kr} {y : ks}
end
end Go.Proofs.Wb

namespace Go.Gx
open Go Go.Fw
section
variable {w0 w : World} {M : List Nat} {S : List (Nat × Obj)} {vs : List VR} {ro : List Sg}
theorem HV.freeze {α : Type} (R : Row α) {E : TypeId} {sz ln cap : Nat} {l : List α} {sp : List Value} {q : Option (Nat × Nat)} (hv : VOK sz ln cap (R.enc l) sp q) (hh : HV w0 M S (⟨E, R.enc l, sp, q, []⟩ :: vs) ro w) : HV w0 M S vs ((bk q, off q, R.enc l) :: ro) w := by
  have h1 : HV w0 M S vs ro w := hh.dropF 0 1 rfl rfl
  have h2 := HV.vsep (S0 := S) (vs0 := vs) (S := []) (vs := [⟨E, R.enc l, sp, q, []⟩]) (M := M) (w0 := w0) (ro := ro) (w := w) (by
    refine HV.re (rest := []) hh ?_
    simp only [List.append_nil]
    rw [vbl_append]
    simp only [vbl, List.append_nil]
    exact List.Perm.append_left _ List.perm_append_comm) 0 rfl hv
  unfold HV at h1 ⊢
  exact ⟨h1.os, h1.tape, h1.output, h1.size, h1.old, h1.ownOK, h1.new, h1.nodup, fun s hs => by
    rcases List.mem_cons.1 hs with rfl | hs
    · exact h2.1
    · exact h1.roOK s hs, fun s hs hne => by
    rcases List.mem_cons.1 hs with rfl | hs
    · exact h2.2 hne
    · exact h1.sep s hs hne⟩
theorem jar {α : Type} (R : Row α) {n : Nat} {ds : List Deferred} {e : EnvL} {X : Act → World → Prop} {E : TypeId} {sz ln cap : Nat} {l : List α} {sp : List Value} {q : Option (Nat × Nat)} (hv : VOK sz ln cap (R.enc l) sp q)
    (h : G n ds e (HV w0 M S vs ((bk q, off q, R.enc l) :: ro)) X) : G n ds e (HV w0 M S (⟨E, R.enc l, sp, q, []⟩ :: vs) ro) X := h.pre fun _ hh => HV.freeze R hv hh
theorem jaP {α : Type} (R : Row α) {n : Nat} {ds : List Deferred} {e : EnvL} {X : Act → World → Prop} {E : TypeId} {sz ln cap : Nat} {l : List α} {sp : List Value} {q : Option (Nat × Nat)} (hv : VOK sz ln cap (R.enc l) sp q)
    (h : G n ds e (HV w0 M S vs ((aB (qA q), aO (qA q), R.enc l) :: ro)) X) : G n ds e (HV w0 M S (⟨E, R.enc l, sp, q, []⟩ :: vs) ro) X := h.pre fun w hh => by
  have h1 := HV.freeze R hv hh
  have h2 : HV w0 M S vs ro w := hh.dropF 0 1 rfl rfl
  have h3 := HV.rsep (S0 := S) (vs0 := vs) (S := []) (vs := []) (M := M) (w0 := w0) (w := w) (ro := (bk q, off q, R.enc l) :: ro) (by simpa using h1) 0 rfl
  have h4 := sepA h3
  unfold HV at h2 ⊢
  exact ⟨h2.os, h2.tape, h2.output, h2.size, h2.old, h2.ownOK, h2.new, h2.nodup, fun s hs => by
    rcases List.mem_cons.1 hs with rfl | hs
    · exact h4.1
    · exact h2.roOK s hs, fun s hs hne => by
    rcases List.mem_cons.1 hs with rfl | hs
    · exact h4.2 hne
    · exact h2.sep s hs hne⟩
theorem DRO.rep {α : Type} (k : Nat) {x : List α} {A : AL} (hn : x.length = A.n) (hq : AOK A.n A.a) (hc : A.n ≤ A.cap) : DRO (List.replicate k x) (List.replicate k A) := ⟨by simp, fun j y B hy hB => by
  have h1 := List.eq_of_mem_replicate (List.mem_of_getElem? hy)
  have h2 := List.eq_of_mem_replicate (List.mem_of_getElem? hB)
  subst h1 h2
  exact ⟨hn, hq, hc⟩⟩
theorem rsg_rep {α : Type} {R : Row α} {k : Nat} {x : List α} {A : AL} {s : Sg} {ro : List Sg} (i : Nat) (hi : ro[i]? = some (aB A.a, aO A.a, R.enc x)) (hs : s ∈ rsg R (List.replicate k x) (List.replicate k A)) : s ∈ ro := by
  obtain ⟨j, y, B, hy, hB, rfl⟩ := rsg_of _ _ s hs
  have h1 := List.eq_of_mem_replicate (List.mem_of_getElem? hy)
  have h2 := List.eq_of_mem_replicate (List.mem_of_getElem? hB)
  subst h1 h2
  exact List.mem_of_getElem? hi
theorem rsg_repQ {α : Type} {R : Row α} {k : Nat} {x : List α} {q : Option (Nat × Nat)} {nn cc : Nat} {s : Sg} {ro : List Sg} (i : Nat) (hi : ro[i]? = some (bk q, off q, R.enc x)) (hs : s ∈ rsg R (List.replicate k x) (List.replicate k ⟨qA q, nn, cc⟩)) : s ∈ ro := rsg_rep i (by rw [hi]; cases q <;> rfl) hs
end
section
variable {n : Nat} {ds : List Deferred} {e : EnvL} {P : Program} {r : Option Nat} {Q : Exit → Act → World → Prop} {ops : Array Oper} {w0 : World} {M : List Nat} {S : List (Nat × Obj)} {vs : List VR} {ro : List Sg} {rest : List Oper}
theorem run_copy_at (w : World) (dT sT ty elem : TypeId) (g o dLen dCap : Nat) (a : Addr) (sLen sCap k n : Nat) (cur : Array Value) (t : TypeId) (cs : List Value)
    (hu : P.underlying dT = some (.slice elem)) (hs : (P.info? elem).map (·.size) = some k) (hg : w.heap[g]? = some (.cells cur t (0, 0))) (hn : n = Nat.min sLen dLen) (hc : cs.length = n * k)
    (hsrc : ∀ j v, cs[j]? = some v → w.cell? (a.add j) = some v) (hfit : o + cs.length ≤ cur.size) (h1 : ∀ v ∈ cs, v.oneCell' = true) :
    (Builtin.copy_ #[dT, sT] ty #[.slice (some ⟨g, o, none⟩) dLen dCap, .slice (some a) sLen sCap]).run P w = .ok (goInt n) (w.setRow g (cur.toList.take o ++ cs ++ cur.toList.drop (o + cs.length)).toArray) := by
  have hl := run_loadCells_list (P := P) w a cs hsrc
  have hst := run_storeCells_at P g o t cs 0 cur w hg (by simpa using hfit) h1
  simp only [Nat.add_zero] at hst
  cases hq : P.info? elem with
  | none => simp [hq] at hs
  | some i =>
    have hi : i.size = k := by simpa [hq] using hs
    simp [Builtin.copy_, run_underlying hu, Builtin.lenOf, Builtin.firstCells, sizeOf, typeInfo, hq, hi, ← hn, ← hc, hl, hst]
theorem ja7 {α : Type} (R : Row α) (iv : Nat) {d : Nat} {t ty E : TypeId} {x y : Operand} {sz ln cap : Nat} {l lm : List α} {sp : List Value} {q : Option (Nat × Nat)} {i j : Int} {mo : List (Nat × Obj)} {pos : String} {after : Array Edge}
    (hu : P.underlying t = some (.slice E)) (hs : (P.info? E).map (·.size) = some sz) (hsz : sz = R.sz) (hs0 : Nat.blt 0 R.sz = true) (hx : ev e x = some (slv (tailQ q sz i.toNat cap) (ln - i.toNat) (cap - i.toNat))) (hy : ev e y = some (slv q j.toNat cap)) (hvi : vs[iv]? = some ⟨E, R.enc l, sp, q, mo⟩) (hv : VOK sz ln cap (R.enc l) sp q)
    (hi : 0 ≤ i ∧ i < (l.length : Int)) (hj : 0 < j ∧ j ≤ (l.length : Int)) (hlm : l.take i.toNat ++ (l.take (min j.toNat (l.length - i.toNat)) ++ l.drop (i.toNat + min j.toNat (l.length - i.toNat))) = lm) (hn : Nat.blt d n = true)
    (h : VOK sz ln cap (R.enc lm) sp q → G n ds ((d, .int .i64 ((min j.toNat (l.length - i.toNat) : Nat) : Int)) :: e) (HV w0 M S (vs.set iv ⟨E, R.enc lm, sp, q, mo⟩) ro) (wpListIn (fw r) 0 P ops Q rest)) :
    G n ds e (HV w0 M S vs ro) (wpListIn (fw r) 0 P ops Q (⟨some d, .call ⟨.builtin .copy, #[x, y], #[t, t]⟩, ty, pos, after, none⟩ :: rest)) := fun a w he hh => by
  subst hsz
  have hln := vlen R hv hs0
  obtain ⟨m, hm⟩ : ∃ m, m = min j.toNat (l.length - i.toNat) := ⟨_, rfl⟩
  rw [← hm] at hlm h
  have hm1 : i.toNat + m ≤ l.length := by omega
  have hm2 : m ≤ l.length := by omega
  have hlen2 : lm.length = l.length := by rw [← hlm]; simp; omega
  have hv' : VOK R.sz ln cap (R.enc lm) sp q := by
    have e1 : (R.enc lm).length = (R.enc l).length := by rw [R.enc_len, R.enc_len, hlen2]
    exact ⟨by rw [e1]; exact hv.hlen, by rw [List.length_append, e1, ← List.length_append]; exact hv.hcap, hv.hle, hv.hmax, hv.hnone, hv.hoff⟩
  cases q with
  | none => have := (hv.hnone rfl).1; omega
  | some p =>
    have hoff := hv.hoff p rfl
    have hle := hv.hle
    have hbk : w.heap[p.1]? = some (.cells (R.enc l ++ sp).toArray E (0, 0)) := hh.hs.ownOK (p.1, _) (HV.vmem iv hvi _ (by simp [VR.bl, vown]))
    have hcne : cap ≠ i.toNat := by omega
    have hx' : a.eval x = .slice (some ⟨p.1, i.toNat * R.sz, none⟩) (ln - i.toNat) (cap - i.toNat) := by rw [he.eval hx]; simp [slv, tailQ, hoff, hcne]
    have hy' : a.eval y = .slice (some ⟨p.1, 0, none⟩) j.toNat cap := by rw [he.eval hy]; simp [slv, hoff]
    have hseg : segOK w (p.1, 0, R.enc l ++ sp) := .of_block hbk
    have hsr : ∀ k v, (R.enc (l.take m))[k]? = some v → w.cell? ((⟨p.1, 0, none⟩ : Addr).add k) = some v := fun k v hk => by
      rw [addr_add]
      refine segOK.at hseg ?_
      rw [enc_take, List.getElem?_take] at hk
      split at hk
      · rw [List.getElem?_append_left (List.getElem?_eq_some_iff.1 hk).1]; exact hk
      · cases hk
    have hl1 : (R.enc (l.take m)).length = m * R.sz := by rw [R.enc_len, List.length_take, Nat.min_eq_left hm2]
    have hl2 : (R.enc l).length = l.length * R.sz := R.enc_len l
    have hmul : i.toNat * R.sz + m * R.sz ≤ l.length * R.sz := by rw [← Nat.add_mul]; exact Nat.mul_le_mul_right _ hm1
    have hrun := run_copy_at (P := P) w t t ty E p.1 (i.toNat * R.sz) (ln - i.toNat) (cap - i.toNat) ⟨p.1, 0, none⟩ j.toNat cap R.sz m (R.enc l ++ sp).toArray E (R.enc (l.take m)) hu hs hbk (by rw [hm, ← hln]) hl1 hsr (by rw [hl1]; simp only [List.size_toArray, List.length_append, hl2]; omega) (R.enc_one _)
    have hcs : ((R.enc l ++ sp).toArray.toList.take (i.toNat * R.sz) ++ R.enc (l.take m) ++ (R.enc l ++ sp).toArray.toList.drop (i.toNat * R.sz + (R.enc (l.take m)).length)).toArray = (R.enc lm ++ sp).toArray := by
      congr 1
      show (R.enc l ++ sp).take (i.toNat * R.sz) ++ R.enc (l.take m) ++ (R.enc l ++ sp).drop (i.toNat * R.sz + (R.enc (l.take m)).length) = _
      rw [hl1, ← Nat.add_mul, List.take_append_of_le_length (by rw [hl2]; omega), List.drop_append_of_le_length (by rw [hl2, Nat.add_mul]; omega), ← enc_take, ← enc_drop, ← hlm, R.enc_append, R.enc_append]
      simp only [List.append_assoc]
    rw [hcs] at hrun
    refine wpListIn_value (wanted_none rfl _) (v := .int .i64 m) (w' := w.setRow p.1 (R.enc lm ++ sp).toArray) (by simp only [execOp, resolve]; simp [invoke, builtin, hx', hy', hrun, goInt]) ?_
    refine h hv' _ _ (he.put hn _) (hh.vupd iv hvi Ext.setRow (setRow_heap w p.1 _ _ E (0, 0) hbk))
end
end Go.Gx

namespace Go.Proofs.Wb
open Go Go.Fw Go.Gx Go.Sb
set_option linter.unusedVariables false
set_option maxHeartbeats 4000000
set_option maxRecDepth 100000
theorem ja4 : (Tryz.prog.info? 22).map (fun i => (i.zero, i.size, i.bytes)) = some (some (.slice none 0 0), 1, 24) := by kernel_rfl
theorem jaQ : (Tryz.prog.info? 22).map (fun i => i.size) = some 1 := by kernel_rfl
structure Kb where
  r0 : Int
  r1 : Int
def KM (x0 : Int) (y1 : Int) : Option Kb :=
 some (⟨(IntKind.u64.wrap ((IntKind.u64.wrap ((IntKind.u64.wrap ((Int.fdiv x0 (2 ^ min (Int.toNat 32) IntKind.u64.bits)) * (Int.fdiv y1 (2 ^ min (Int.toNat 32) IntKind.u64.bits)))) + (Int.fdiv (IntKind.u64.wrap ((IntKind.u64.wrap ((Int.fdiv x0 (2 ^ min (Int.toNat 32) IntKind.u64.bits)) * (IntKind.u64.wrap (BitVec.ofInt IntKind.u64.bits y1 &&& BitVec.ofInt IntKind.u64.bits 4294967295).toNat))) + (Int.fdiv (IntKind.u64.wrap ((IntKind.u64.wrap (BitVec.ofInt IntKind.u64.bits x0 &&& BitVec.ofInt IntKind.u64.bits 4294967295).toNat) * (IntKind.u64.wrap (BitVec.ofInt IntKind.u64.bits y1 &&& BitVec.ofInt IntKind.u64.bits 4294967295).toNat))) (2 ^ min (Int.toNat 32) IntKind.u64.bits)))) (2 ^ min (Int.toNat 32) IntKind.u64.bits)))) + (Int.fdiv (IntKind.u64.wrap ((IntKind.u64.wrap (BitVec.ofInt IntKind.u64.bits (IntKind.u64.wrap ((IntKind.u64.wrap ((Int.fdiv x0 (2 ^ min (Int.toNat 32) IntKind.u64.bits)) * (IntKind.u64.wrap (BitVec.ofInt IntKind.u64.bits y1 &&& BitVec.ofInt IntKind.u64.bits 4294967295).toNat))) + (Int.fdiv (IntKind.u64.wrap ((IntKind.u64.wrap (BitVec.ofInt IntKind.u64.bits x0 &&& BitVec.ofInt IntKind.u64.bits 4294967295).toNat) * (IntKind.u64.wrap (BitVec.ofInt IntKind.u64.bits y1 &&& BitVec.ofInt IntKind.u64.bits 4294967295).toNat))) (2 ^ min (Int.toNat 32) IntKind.u64.bits)))) &&& BitVec.ofInt IntKind.u64.bits 4294967295).toNat) + (IntKind.u64.wrap ((IntKind.u64.wrap (BitVec.ofInt IntKind.u64.bits x0 &&& BitVec.ofInt IntKind.u64.bits 4294967295).toNat) * (Int.fdiv y1 (2 ^ min (Int.toNat 32) IntKind.u64.bits)))))) (2 ^ min (Int.toNat 32) IntKind.u64.bits)))), (IntKind.u64.wrap (x0 * y1))⟩ : Kb)
set_option maxRecDepth 100000 in
set_option maxHeartbeats 4000000 in
theorem Za (x0 : Int) (y1 : Int)  (w : World) (hw : HV w (keys [] []) [] [] [] w)  {res : Kb} (hm : KM x0 y1 = some res) :
    Calls Tryz.prog 185 #[.int .u64 x0, .int .u64 y1] w (fun en w' => ∃ l : Unit, en = .returned (.tuple #[.int .u64 res.r0, .int .u64 res.r1]) ∧ (True) ∧ HV w (keys [] []) [] [] [] w') := by
  unfold KM at hm
  refine QW (args := [.int .u64 x0, .int .u64 y1]) Tryz.func185 rfl Tryz.ntmps185 rfl (e := [(0, _), (1, _)]) rfl (H := HV w (keys [] []) [] [] []) hw ?_
  refine jl ?_
  refine jg ?_
  refine jc rfl rfl rfl (fun _ _ => jE rfl) ?_
  refine jc rfl rfl rfl (fun _ _ => jE rfl) ?_
  refine jv ?_
  refine ja ?_
  refine jl ?_
  refine jg ?_
  refine jc rfl rfl rfl (fun _ _ => jt rfl) ?_
  refine jc rfl rfl rfl (fun _ _ => Z9 rfl rfl rfl) ?_
  refine jc rfl rfl rfl (fun _ _ => jE rfl) ?_
  refine jv ?_
  refine ja ?_
  refine jl ?_
  refine jg ?_
  refine jc rfl rfl rfl (fun _ _ => jt rfl) ?_
  refine jc rfl rfl rfl (fun _ _ => jaH rfl rfl (by decide)) ?_
  refine jc rfl rfl rfl (fun _ _ => jE rfl) ?_
  refine jv ?_
  refine ja ?_
  refine jl ?_
  refine jg ?_
  refine jc rfl rfl rfl (fun _ _ => jt rfl) ?_
  refine jc rfl rfl rfl (fun _ _ => Z9 rfl rfl rfl) ?_
  refine jc rfl rfl rfl (fun _ _ => jE rfl) ?_
  refine jv ?_
  refine ja ?_
  refine jl ?_
  refine jg ?_
  refine jc rfl rfl rfl (fun _ _ => jt rfl) ?_
  refine jc rfl rfl rfl (fun _ _ => jaH rfl rfl (by decide)) ?_
  refine jc rfl rfl rfl (fun _ _ => jE rfl) ?_
  refine jv ?_
  refine ja ?_
  refine jl ?_
  refine jg ?_
  refine jc rfl rfl rfl (fun _ _ => jt rfl) ?_
  refine jc rfl rfl rfl (fun _ _ => jt rfl) ?_
  refine jc rfl rfl rfl (fun _ _ => Zz rfl rfl) ?_
  refine jc rfl rfl rfl (fun _ _ => jE rfl) ?_
  refine jv ?_
  refine ja ?_
  refine jl ?_
  refine jg ?_
  refine jc rfl rfl rfl (fun _ _ => jt rfl) ?_
  refine jc rfl rfl rfl (fun _ _ => jt rfl) ?_
  refine jc rfl rfl rfl (fun _ _ => Zz rfl rfl) ?_
  refine jc rfl rfl rfl (fun _ _ => jt rfl) ?_
  refine jc rfl rfl rfl (fun _ _ => jaH rfl rfl (by decide)) ?_
  refine jc rfl rfl rfl (fun _ _ => ZB rfl rfl) ?_
  refine jc rfl rfl rfl (fun _ _ => jE rfl) ?_
  refine jv ?_
  refine ja ?_
  refine jl ?_
  refine jg ?_
  refine jc rfl rfl rfl (fun _ _ => jt rfl) ?_
  refine jc rfl rfl rfl (fun _ _ => Z9 rfl rfl rfl) ?_
  refine jc rfl rfl rfl (fun _ _ => jE rfl) ?_
  refine jv ?_
  refine ja ?_
  refine jl ?_
  refine jg ?_
  refine jc rfl rfl rfl (fun _ _ => jt rfl) ?_
  refine jc rfl rfl rfl (fun _ _ => jaH rfl rfl (by decide)) ?_
  refine jc rfl rfl rfl (fun _ _ => jE rfl) ?_
  refine jv ?_
  refine ja ?_
  refine jl ?_
  refine jg ?_
  refine jc rfl rfl rfl (fun _ _ => jt rfl) ?_
  refine jc rfl rfl rfl (fun _ _ => jt rfl) ?_
  refine jc rfl rfl rfl (fun _ _ => jt rfl) ?_
  refine jc rfl rfl rfl (fun _ _ => Zz rfl rfl) ?_
  refine jc rfl rfl rfl (fun _ _ => ZB rfl rfl) ?_
  refine jc rfl rfl rfl (fun _ _ => jE rfl) ?_
  refine jv ?_
  refine ja ?_
  refine jl ?_
  refine jg ?_
  refine jc rfl rfl rfl (fun _ _ => jt rfl) ?_
  refine jc rfl rfl rfl (fun _ _ => jt rfl) ?_
  refine jc rfl rfl rfl (fun _ _ => Zz rfl rfl) ?_
  refine jc rfl rfl rfl (fun _ _ => jt rfl) ?_
  refine jc rfl rfl rfl (fun _ _ => ZB rfl rfl) ?_
  refine jc rfl rfl rfl (fun _ _ => jt rfl) ?_
  refine jc rfl rfl rfl (fun _ _ => jaH rfl rfl (by decide)) ?_
  refine jc rfl rfl rfl (fun _ _ => ZB rfl rfl) ?_
  refine jc rfl rfl rfl (fun _ _ => jE rfl) ?_
  refine jv ?_
  refine ja ?_
  refine jl ?_
  refine jg ?_
  refine jc rfl rfl rfl (fun _ _ => jt rfl) ?_
  refine jc rfl rfl rfl (fun _ _ => jt rfl) ?_
  refine jc rfl rfl rfl (fun _ _ => Zz rfl rfl) ?_
  refine jc rfl rfl rfl (fun _ _ => jE rfl) ?_
  refine jv ?_
  refine ja ?_
  refine jB ?_
  obtain rfl := Option.some.inj hm
  refine jq rfl (fun w hh => (.tmp rfl (.tmp rfl .nil))) (fun w hh => ⟨(), rfl, trivial, hh⟩)
structure KN where
  r0 : Int
  r1 : Int
def y4 (x0 : Int) (y1 : Int) : Option KN :=
 (KM x0 y1).bind fun t25 =>
 some (⟨t25.r0, t25.r1⟩ : KN)
set_option maxRecDepth 100000 in
set_option maxHeartbeats 4000000 in
theorem Zr (x0 : Int) (y1 : Int)  (w : World) (hw : HV w (keys [] []) [] [] [] w)  {res : KN} (hm : y4 x0 y1 = some res) :
    Calls Tryz.prog 153 #[.int .u64 x0, .int .u64 y1] w (fun en w' => ∃ l : Unit, en = .returned (.tuple #[.int .u64 res.r0, .int .u64 res.r1]) ∧ (True) ∧ HV w (keys [] []) [] [] [] w') := by
  unfold y4 at hm
  refine QW (args := [.int .u64 x0, .int .u64 y1]) Tryz.func153 rfl Tryz.ntmps153 rfl (e := [(0, _), (1, _)]) rfl (H := HV w (keys [] []) [] [] []) hw ?_
  refine jl ?_
  refine jg ?_
  refine jc rfl rfl rfl (fun _ _ => jE rfl) ?_
  refine jc rfl rfl rfl (fun _ _ => jE rfl) ?_
  refine jv ?_
  refine ja ?_
  refine jl ?_
  refine JQ rfl rfl ?_
  refine jx ?_
  refine ja ?_
  refine jl ?_
  refine jg ?_
  refine jc rfl rfl rfl (fun _ _ => jt rfl) ?_
  refine jc rfl rfl rfl (fun _ _ => jt rfl) ?_
  obtain ⟨t25, h1, hm⟩ := bindO hm
  refine jd [] [] rfl rfl rfl rfl rfl rfl rfl (fun a w => Tryz.call185 a w) (fun w hh => Za x0 y1 w (HV.callee (S0 := []) (vs0 := []) hh roN)  h1) (fun l h2 => ?_)
  refine jc rfl rfl rfl (fun _ _ => jt rfl) ?_
  refine jc rfl rfl rfl (fun _ _ => Yg rfl rfl) ?_
  refine jc rfl rfl rfl (fun _ _ => Yg rfl rfl) ?_
  refine jc rfl rfl rfl (fun _ _ => jE rfl) ?_
  refine jc rfl rfl rfl (fun _ _ => jE rfl) ?_
  refine jv ?_
  refine ja ?_
  refine jl ?_
  refine jg ?_
  refine jc rfl rfl rfl (fun _ _ => jt rfl) ?_
  refine jc rfl rfl rfl (fun _ _ => jt rfl) ?_
  refine jc rfl rfl rfl (fun _ _ => jE rfl) ?_
  refine jc rfl rfl rfl (fun _ _ => jE rfl) ?_
  refine jv ?_
  refine ja ?_
  refine jB ?_
  obtain rfl := Option.some.inj hm
  refine jq rfl (fun w hh => (.tmp rfl (.tmp rfl .nil))) (fun w hh => ⟨(), rfl, trivial, hh⟩)
structure zn where
  n8 : Int
  t30 : (List AL)
def qK  (s : zn) : Option (zn ⊕ (List AL)) :=
 if s.n8 < (s.t30.length : Int) then
 (if 0 ≤ s.n8 ∧ s.n8 ≤ (s.t30.length : Int) then (if 0 ≤ s.n8 ∧ s.n8 ≤ (s.t30.length : Int) then (if 0 ≤ s.n8 ∧ s.n8 < (s.t30.length : Int) then (if 0 < s.n8 ∧ s.n8 ≤ (s.t30.length : Int) then ((some (s.t30.take (Int.toNat s.n8) ++ (s.t30.take (min (Int.toNat s.n8) (s.t30.length - (Int.toNat s.n8))) ++ s.t30.drop ((Int.toNat s.n8) + (min (Int.toNat s.n8) (s.t30.length - (Int.toNat s.n8))))))).bind fun t30_2 =>
 (addc s.n8 (((min (Int.toNat s.n8) (s.t30.length - (Int.toNat s.n8))) : Nat) : Int)).bind fun t46 =>
 some (.inl (⟨t46, t30_2⟩ : zn))) else none) else none) else none) else none) else
 (some (.inr s.t30))
def Ja (x0 : (List AL)) (count1 : Int) : Option (List AL) :=
 if count1 < 0 then
 (none) else
 ((y4 (IntKind.u64.wrap (x0.length : Int)) (IntKind.u64.wrap count1)).bind fun t18 =>
 (if 0 < t18.r0 then
 (some true) else
 (some (decide (9223372036854775807 < t18.r1)))).bind fun o =>
 if o = true then
 (none) else
 ((makec 24 (⟨none, 0, 0⟩ : AL) (IntKind.i64.wrap t18.r1) (IntKind.i64.wrap t18.r1)).bind fun t30 =>
 if (x0.length : Int) ≤ (t30.length : Int) then ((some (x0 ++ t30.drop x0.length)).bind fun t30_1 =>
 (iterM FU (qK) (⟨(x0.length : Int), t30_1⟩ : zn)).bind fun o_1 =>
 some o_1) else none))
set_option maxRecDepth 100000 in
set_option maxHeartbeats 4000000 in
theorem YS (x0 : (List AL)) (count1 : Int) (qa0 : Option Addr) (na0 ca0 : Nat) (w : World) (hw : HV w (keys [] []) [] [] [(aB qa0, aO qa0, RwA.enc x0)] w) (hna0 : x0.length = na0) (hqa0 : AOK na0 qa0) (hla0 : na0 ≤ ca0) {res : (List AL)} (hm : Ja x0 count1 = some res) :
    Calls Tryz.prog 81 #[.slice qa0 na0 ca0, .int .i64 count1] w (fun en w' => ∃ l : VL, en = .returned (slv l.q l.n l.cap) ∧ (VOK 1 l.n l.cap (RwA.enc res) l.sp l.q) ∧ HV w (keys [] []) [] [⟨22, RwA.enc res, l.sp, l.q, []⟩] [] w') := by
  unfold Ja at hm
  refine QW (args := [.slice qa0 na0 ca0, .int .i64 count1]) Tryz.func81 rfl Tryz.ntmps81 rfl (e := [(0, _), (1, _)]) rfl (H := HV w (keys [] []) [] [] [(aB qa0, aO qa0, RwA.enc x0)]) hw ?_
  refine jl ?_
  refine jg ?_
  refine jc rfl rfl rfl (fun _ _ => yO rfl) ?_
  refine jv ?_
  refine ja ?_
  refine jl ?_
  refine jl ?_
  refine jg ?_
  refine jc rfl rfl rfl (fun _ _ => jt rfl) ?_
  refine jc rfl rfl rfl (fun _ _ => jab rfl rfl) ?_
  refine jv ?_
  refine ja ?_
  refine jz rfl (fun h2 => ?_) (fun h2 => ?_)
  ·replace hm := ifT (of_decide_eq_true h2) hm
   refine jg ?_
   exact absurd hm (by simp)
  ·replace hm := ifF (of_decide_eq_false h2) hm
   refine jx ?_
   refine ja ?_
   refine jl ?_
   refine jg ?_
   refine jc rfl rfl rfl (fun _ _ => jt rfl) ?_
   refine jc rfl rfl rfl (fun w _ => kC hna0 (Tryz.runUnderlying41 w) rfl) ?_
   refine jc rfl rfl rfl (fun w _ => Z6 (Tryz.runUnderlying3 w) (Tryz.runUnderlying204 w) rfl) ?_
   refine jc rfl rfl rfl (fun _ _ => jt rfl) ?_
   refine jc rfl rfl rfl (fun w _ => Z6 (Tryz.runUnderlying3 w) (Tryz.runUnderlying204 w) rfl) ?_
   obtain ⟨t18, h3, hm⟩ := bindO hm
   refine jd [] [] rfl rfl rfl rfl rfl rfl rfl (fun a w => Tryz.call153 a w) (fun w hh => Zr (IntKind.u64.wrap (x0.length : Int)) (IntKind.u64.wrap count1) w (HV.callee (S0 := []) (vs0 := []) hh roN)  h3) (fun l h4 => ?_)
   refine jc rfl rfl rfl (fun _ _ => jt rfl) ?_
   refine jc rfl rfl rfl (fun _ _ => Yg rfl rfl) ?_
   refine jc rfl rfl rfl (fun _ _ => Yg rfl rfl) ?_
   refine jc rfl rfl rfl (fun _ _ => jE rfl) ?_
   refine jc rfl rfl rfl (fun _ _ => jE rfl) ?_
   refine jv ?_
   refine ja ?_
   refine jl ?_
   refine jl ?_
   obtain ⟨o, h5, h6⟩ := bindO hm
   refine jW (ι := Unit) (fun l_1 => True) (fun l_1 => [(0, .slice qa0 na0 ca0), (6, .int .u64 t18.r1), (26, .bool o)]) (fun l_1 => []) (fun l_1 => []) ?_ ?_
   ·replace hm := h5
    refine jg ?_
    refine jc rfl rfl rfl (fun _ _ => jt rfl) ?_
    refine jc rfl rfl rfl (fun _ _ => QE rfl rfl) ?_
    refine jc rfl rfl rfl (fun _ _ => jt rfl) ?_
    refine jK 23 rfl (fun h7 => ?_) (fun h7 => ?_)
    ·replace hm := ifT (of_decide_eq_true h7) hm
     refine Zb rfl rfl rfl rfl rfl rfl ?_
     refine Zb rfl rfl rfl rfl rfl rfl ?_
     refine jc rfl rfl rfl (fun _ _ => q7 rfl rfl) ?_
     refine jv ?_
     obtain rfl := Option.some.inj hm
     exact jm () (trivial) ((.cons rfl (.cons rfl (.cons rfl .nil)))) (fun w hh => hh)
    ·replace hm := ifF (of_decide_eq_false h7) hm
     refine jb rfl rfl ?_
     refine jc rfl rfl rfl (fun _ _ => jt rfl) ?_
     refine jb rfl rfl ?_
     refine jc rfl rfl rfl (fun _ _ => QE rfl rfl) ?_
     refine jc rfl rfl rfl (fun _ _ => qf rfl rfl) ?_
     refine jv ?_
     obtain rfl := Option.some.inj hm
     exact jm () (trivial) ((.cons rfl (.cons rfl (.cons rfl .nil)))) (fun w hh => hh)
   ·intro l_1 hj
    replace hm := h6
    refine ja ?_
    refine jz rfl (fun h8 => ?_) (fun h8 => ?_)
    ·replace hm := ifT (h8) hm
     refine jg ?_
     exact absurd hm (by simp)
    ·replace hm := ifF ((fun hh => Bool.noConfusion ((h8).symm.trans hh))) hm
     refine jx ?_
     refine ja ?_
     refine jl ?_
     refine jg ?_
     refine jc rfl rfl rfl (fun _ _ => jt rfl) ?_
     refine jc rfl rfl rfl (fun w _ => Z6 (Tryz.runUnderlying204 w) (Tryz.runUnderlying3 w) rfl) ?_
     obtain ⟨t30, h9, hm⟩ := bindO hm
     refine ZU RwA (⟨none, 0, 0⟩ : AL) h9 Tryz.underlying41 ja4 rfl rfl rfl rfl rfl (fun L h10 => ?_)
     refine jc rfl rfl rfl (fun _ _ => jE rfl) ?_
     refine jv ?_
     refine ja ?_
     refine jl ?_
     refine jg ?_
     refine jc rfl rfl rfl (fun _ _ => jt rfl) ?_
     refine jc rfl rfl rfl (fun _ _ => jt rfl) ?_
     obtain ⟨h11, hm⟩ := ifO hm
     obtain ⟨t30_1, ht30_1, hm⟩ := bindO hm
     refine jaR RwA 0 Tryz.underlying41 jaQ rfl rfl rfl rfl rfl h10 hna0 hqa0 (fun w hh => (hh.seg 0 rfl)) (Int.ofNat_le.1 h11) (Option.some.inj ht30_1) rfl (fun h12 => ?_)
     refine jaf (S' := []) (vs' := [_]) [] [0] 0 (by decide) (by decide) rfl rfl rfl ?_
     refine jc rfl rfl rfl (fun _ _ => jE rfl) ?_
     refine jv ?_
     refine ja ?_
     refine jl ?_
     obtain ⟨o_1, h13, h14⟩ := bindO hm
     refine jW (ι := Unit) (fun l_2 => VOK 1 L.n L.cap (RwA.enc o_1) L.sp L.q) (fun l_2 => [(7, slv L.q L.n L.cap)]) (fun l_2 => []) (fun l_2 => [⟨22, RwA.enc o_1, L.sp, L.q, []⟩]) ?_ ?_
     ·replace hm := h13
      refine js ?_
      refine kb (ι := Unit) hm (fun s l_3 => VOK 1 L.n L.cap (RwA.enc s.t30) L.sp L.q) (fun s l_3 => [(7, slv L.q L.n L.cap), (8, .int .i64 s.n8)]) (fun s l_3 => []) (fun s l_3 => [⟨22, RwA.enc s.t30, L.sp, L.q, []⟩]) () (h12) ((.cons rfl (.cons rfl .nil))) (fun w hh => hh) (fun s l_3 r hpl hm h17 => ?_)
      have h16 := hpl
      unfold qK at hm
      refine jl ?_
      refine jl ?_
      refine jg ?_
      refine jc rfl rfl rfl (fun _ _ => jt rfl) ?_
      refine jc rfl rfl rfl (fun _ _ => jt rfl) ?_
      refine jc rfl rfl rfl (fun w _ => JZ (vlen RwA h16 rfl) (Tryz.runUnderlying41 w) rfl) ?_
      refine jc rfl rfl rfl (fun _ _ => jab rfl rfl) ?_
      refine jv ?_
      refine ja ?_
      refine jz rfl (fun h18 => ?_) (fun h18 => ?_)
      ·replace hm := ifT (of_decide_eq_true h18) hm
       refine jx ?_
       refine ja ?_
       refine js ?_
       refine qi none (.free 0 (.free 1 (.free 2 (.free 3 (.free 4 (.free 5 (.free 6 (.one 7 (.free 8 (.free 9 .done)))))))))) (HV _ _ [] [] _) rfl (by decide +kernel) (fun w k hh => hh.draw k) (fun w hh => hh.sel [] [] 0 (by decide) (by decide) rfl rfl rfl) ?_
       refine jn rfl rfl rfl rfl (fun _ _ => jt rfl) ?_
       refine jn rfl rfl rfl rfl (fun _ _ => jt rfl) ?_
       refine jn rfl rfl rfl rfl (fun _ _ => jt rfl) ?_
       obtain ⟨h19, hm⟩ := ifO hm
       refine jn rfl rfl rfl rfl (fun w _ => jam (Tryz.runUnderlying41 w) (Tryz.sizeOf22 w) rfl rfl h19.1 (tail_in (vlen RwA h16 rfl) h19) (h16).hle) ?_
       refine jn rfl rfl rfl rfl (fun _ _ => jt rfl) ?_
       refine jn rfl rfl rfl rfl (fun _ _ => jt rfl) ?_
       obtain ⟨h20, hm⟩ := ifO hm
       refine jn rfl rfl rfl rfl (fun w _ => jaz (Tryz.runUnderlying41 w) (Tryz.sizeOf22 w) rfl rfl h20.1 (pre_hle (vlen RwA h16 rfl) h20 (h16).hle)) ?_
       refine jF rfl ?_
       obtain ⟨h21, hm⟩ := ifO hm
       obtain ⟨h22, hm⟩ := ifO hm
       obtain ⟨t30_2, ht30_2, hm⟩ := bindO hm
       refine ja7 RwA 0 Tryz.underlying41 jaQ rfl rfl rfl rfl rfl h16 h21 h22 (Option.some.inj ht30_2) rfl (fun h23 => ?_)
       refine jaf (S' := []) (vs' := [_]) [] [0] 0 (by decide) (by decide) rfl rfl rfl ?_
       refine jo (fun w hh => hh.sel [] [] 0 (by decide) (by decide) rfl rfl rfl) ?_
       obtain ⟨t46, h24, hm⟩ := bindO hm
       refine jn rfl rfl rfl rfl (fun _ _ => Kw h24 rfl rfl) ?_
       refine jn rfl rfl rfl rfl (fun _ _ => jE rfl) ?_
       refine jL ?_
       refine jA ?_
       obtain rfl := Option.some.inj hm
       refine ja ?_
       exact jM _ () rfl (h23) ((.cons rfl (.cons rfl .nil))) (fun w hh => hh)
      ·replace hm := ifF (of_decide_eq_false h18) hm
       refine kz ?_
       refine jp ?_
       refine jp ?_
       refine jP ?_
       obtain rfl := Option.some.inj hm
       have hbo := h17 _ rfl
       subst hbo
       exact jm () (h16) ((.cons rfl .nil)) (fun w hh => hh)
     ·intro l_2 hj
      have h15 := hj
      replace hm := h14
      refine ja ?_
      refine jl ?_
      refine jg ?_
      refine jc rfl rfl rfl (fun _ _ => jt rfl) ?_
      refine jc rfl rfl rfl (fun _ _ => jE rfl) ?_
      refine jv ?_
      refine ja ?_
      refine jB ?_
      obtain rfl := Option.some.inj hm
      refine jq rfl (fun w hh => (.tmp rfl .nil)) (fun w hh => ⟨L, rfl, h15, hh.sel [] [0] 1 (by decide) (by decide) rfl rfl rfl⟩)
end Go.Proofs.Wb

namespace Go.Gx
theorem rep_len {α β : Type} (k : Nat) (x : α) (A : β) : (List.replicate k x).length = (List.replicate k A).length := by simp
end Go.Gx
namespace Go.Proofs.Wb
open Go Go.Fw Go.Gx Go.Sb
set_option linter.unusedVariables false
theorem rep_loop (A z : AL) {k : Nat} (hk : 1 ≤ k ∧ k ≤ 1000) : iterM FU qK ⟨1, A :: List.replicate (k - 1) z⟩ = some (List.replicate k A) := by
  obtain ⟨b, h1, h2⟩ := iterM_inv (f := qK) (fun s => ∃ n : Nat, 1 ≤ n ∧ n ≤ k ∧ s = ⟨(n : Int), List.replicate n A ++ List.replicate (k - n) z⟩) (fun s => k - s.n8.toNat) (fun b => b = List.replicate k A) (by
    rintro s ⟨n, h1, h2, rfl⟩
    have hlen : (List.replicate n A ++ List.replicate (k - n) z).length = k := by simp; omega
    unfold qK
    dsimp only
    rw [hlen]
    by_cases h : n < k
    · rw [if_pos (by omega), if_pos (by omega), if_pos (by omega), if_pos (by omega), if_pos (by omega), Option.bind_some]
      have e1 : Int.toNat (n : Int) = n := by omega
      rw [e1, addc_eq (by omega), Option.bind_some]
      left
      refine ⟨_, rfl, ⟨n + min n (k - n), by omega, by omega, ?_⟩, by simp only; omega⟩
      have e2 : (List.replicate n A ++ List.replicate (k - n) z).take n = List.replicate n A := by rw [List.take_left' (by simp)]
      have e3 : (List.replicate n A ++ List.replicate (k - n) z).take (min n (k - n)) = List.replicate (min n (k - n)) A := by rw [List.take_append_of_le_length (by simp; omega), List.take_replicate]; congr 1; omega
      have e4 : (List.replicate n A ++ List.replicate (k - n) z).drop (n + min n (k - n)) = List.replicate (k - (n + min n (k - n))) z := by
        rw [List.drop_append, List.drop_of_length_le (by simp), List.nil_append, List.drop_replicate]; congr 1; simp; omega
      rw [e2, e3, e4, ← List.append_assoc, List.replicate_append_replicate]
      congr 1
    · right
      have e : n = k := by omega
      subst e
      rw [if_neg (by omega)]
      exact ⟨_, rfl, by simp⟩) FU ⟨1, A :: List.replicate (k - 1) z⟩ (by
      have : k - (1 : Int).toNat < 1000000000000 := by omega
      exact FU_lt (by simpa using this)) ⟨1, by omega, by omega, rfl⟩
  rw [h1, h2]
theorem mul_one {k : Int} (hk : 0 ≤ k ∧ k ≤ 1000) : y4 (IntKind.u64.wrap 1) (IntKind.u64.wrap k) = some ⟨0, k⟩ := by
  obtain ⟨n, rfl⟩ : ∃ n : Nat, k = (n : Int) := ⟨k.toNat, by omega⟩
  have key : ((List.range 1001).all fun n => decide ((y4 (IntKind.u64.wrap 1) (IntKind.u64.wrap (n : Int))).map (fun r => (r.r0, r.r1)) = some (0, (n : Int)))) = true := by decide +kernel
  have h := (List.all_eq_true.1 key) n (by simp; omega)
  have h := of_decide_eq_true h
  cases hm : y4 (IntKind.u64.wrap 1) (IntKind.u64.wrap (n : Int)) with
  | none => rw [hm] at h; cases h
  | some r =>
    rw [hm] at h
    cases r
    simp only [Option.map_some, Option.some.injEq, Prod.mk.injEq] at h
    obtain ⟨rfl, rfl⟩ := h
    rfl
theorem rep_eq (A : AL) {k : Int} (hk : 1 ≤ k ∧ k ≤ 1000) : Ja [A] k = some (List.replicate k.toNat A) := by
  unfold Ja
  rw [if_neg (by omega)]
  show (y4 (IntKind.u64.wrap 1) (IntKind.u64.wrap k)).bind _ = _
  rw [mul_one (by omega), Option.bind_some]
  dsimp only
  rw [if_neg (by omega), Option.bind_some, if_neg (by simp; omega)]
  have hw : IntKind.i64.wrap k = k := by
    obtain ⟨n, rfl⟩ : ∃ n : Nat, k = (n : Int) := ⟨k.toNat, by omega⟩
    have key : ((List.range 1001).all fun n => decide (IntKind.i64.wrap (n : Int) = (n : Int))) = true := by decide +kernel
    exact of_decide_eq_true ((List.all_eq_true.1 key) n (by simp; omega))
  rw [hw, makec_eq (by omega), Option.bind_some]
  obtain ⟨n, rfl⟩ : ∃ n : Nat, k = (n : Int) + 1 := ⟨(k - 1).toNat, by omega⟩
  have e : ((n : Int) + 1).toNat = n + 1 := by omega
  rw [e, if_pos (by simp; omega), Option.bind_some]
  have := rep_loop A ⟨none, 0, 0⟩ (k := n + 1) (by omega)
  simp only [Nat.add_sub_cancel] at this
  show ((iterM FU qK ⟨1, [A] ++ (List.replicate (n + 1) (⟨none, 0, 0⟩ : AL)).drop 1⟩).bind fun o => some o) = _
  rw [List.replicate_succ, List.drop_succ_cons, List.drop_zero, List.singleton_append, this]
  rfl
theorem jaO (A : AL) (qa : Option Addr) (na ca : Nat) (w : World) (hw : HV w (keys [] []) [] [] [(aB qa, aO qa, RwA.enc [A])] w) (hn : [A].length = na) (hq : AOK na qa) (hl : na ≤ ca) {k : Int} (hk : 1 ≤ k ∧ k ≤ 1000) :
    Calls Tryz.prog 81 #[.slice qa na ca, .int .i64 k] w (fun en w' => ∃ l : VL, en = .returned (slv l.q l.n l.cap) ∧ VOK 1 l.n l.cap (RwA.enc (List.replicate k.toNat A)) l.sp l.q ∧ HV w (keys [] []) [] [⟨22, RwA.enc (List.replicate k.toNat A), l.sp, l.q, []⟩] [] w') :=
  YS [A] k qa na ca w hw hn hq hl (rep_eq A hk)
end Go.Proofs.Wb

namespace Go.Proofs.Wb
set_option maxHeartbeats 4000000
set_option maxRecDepth 100000
open Go Go.Fw Go.Gx Go.Sb
open Tryz
set_option linter.unusedVariables false

def kg (t61 : (List Int)) (t30 : kr) (s : Int) (t42 : qj) (t36 : ks) (s_1 : Int) : Option (Int ⊕ (Unit ⊕ Bool)) :=
 if s_1 < (t61.length : Int) then
 ((ix t61 s_1).bind fun t74 =>
 (if t74 < 0 then
 (some true) else
 (if t30.r0.cells ≤ t74 then
 (some true) else
 (if 0 < s_1 then
 ((subc s_1 1).bind fun t91 =>
 (ix t61 t91).bind fun t92 =>
 if t74 ≤ t92 then
 (some true) else
 (if s = 0 then
 ((ix t30.r0.fords s_1).bind fun t105 =>
 if t74 = t105 then
 (if 0 < s then
 ((subc s 1).bind fun t117 =>
 (ix t42.r0 t117).bind fun t118 =>
 (ix t118 s_1).bind fun t121 =>
 (subc t74 t121).bind fun t123 =>
 (subc s 1).bind fun t126 =>
 (ix t42.r0 t126).bind fun t127 =>
 (ix t127 s_1).bind fun t130 =>
 (subc t130 t74).bind fun t133 =>
 (subc s 1).bind fun t138 =>
 (ix t42.r0 t138).bind fun t139 =>
 (ix t139 s_1).bind fun t142 =>
 (j5 (⟨t30.r0.cells, t30.r0.tides, t30.r0.fords, t30.r0.sands, t36.r0⟩ : Channel) t142).bind fun t144 =>
 some (decide (t144 < (max t123 t133)))) else
 (some false)) else
 (some true)) else
 (if 0 < s then
 ((subc s 1).bind fun t117_1 =>
 (ix t42.r0 t117_1).bind fun t118_1 =>
 (ix t118_1 s_1).bind fun t121_1 =>
 (subc t74 t121_1).bind fun t123_1 =>
 (subc s 1).bind fun t126_1 =>
 (ix t42.r0 t126_1).bind fun t127_1 =>
 (ix t127_1 s_1).bind fun t130_1 =>
 (subc t130_1 t74).bind fun t133_1 =>
 (subc s 1).bind fun t138_1 =>
 (ix t42.r0 t138_1).bind fun t139_1 =>
 (ix t139_1 s_1).bind fun t142_1 =>
 (j5 (⟨t30.r0.cells, t30.r0.tides, t30.r0.fords, t30.r0.sands, t36.r0⟩ : Channel) t142_1).bind fun t144_1 =>
 some (decide (t144_1 < (max t123_1 t133_1)))) else
 (some false)))) else
 (if s = 0 then
 ((ix t30.r0.fords s_1).bind fun t105_1 =>
 if t74 = t105_1 then
 (if 0 < s then
 ((subc s 1).bind fun t117_2 =>
 (ix t42.r0 t117_2).bind fun t118_2 =>
 (ix t118_2 s_1).bind fun t121_2 =>
 (subc t74 t121_2).bind fun t123_2 =>
 (subc s 1).bind fun t126_2 =>
 (ix t42.r0 t126_2).bind fun t127_2 =>
 (ix t127_2 s_1).bind fun t130_2 =>
 (subc t130_2 t74).bind fun t133_2 =>
 (subc s 1).bind fun t138_2 =>
 (ix t42.r0 t138_2).bind fun t139_2 =>
 (ix t139_2 s_1).bind fun t142_2 =>
 (j5 (⟨t30.r0.cells, t30.r0.tides, t30.r0.fords, t30.r0.sands, t36.r0⟩ : Channel) t142_2).bind fun t144_2 =>
 some (decide (t144_2 < (max t123_2 t133_2)))) else
 (some false)) else
 (some true)) else
 (if 0 < s then
 ((subc s 1).bind fun t117_3 =>
 (ix t42.r0 t117_3).bind fun t118_3 =>
 (ix t118_3 s_1).bind fun t121_3 =>
 (subc t74 t121_3).bind fun t123_3 =>
 (subc s 1).bind fun t126_3 =>
 (ix t42.r0 t126_3).bind fun t127_3 =>
 (ix t127_3 s_1).bind fun t130_3 =>
 (subc t130_3 t74).bind fun t133_3 =>
 (subc s 1).bind fun t138_3 =>
 (ix t42.r0 t138_3).bind fun t139_3 =>
 (ix t139_3 s_1).bind fun t142_3 =>
 (j5 (⟨t30.r0.cells, t30.r0.tides, t30.r0.fords, t30.r0.sands, t36.r0⟩ : Channel) t142_3).bind fun t144_3 =>
 some (decide (t144_3 < (max t123_3 t133_3)))) else
 (some false)))))).bind fun o_3 =>
 if o_3 = true then
 (some (.inr (.inr false))) else
 ((addc s_1 1).bind fun t148 =>
 some (.inl t148))) else
 (some (.inr (.inl ())))
def kh (t42 : qj) (t30 : kr) (t36 : ks) (s : Int) : Option (Int ⊕ (Unit ⊕ Bool)) :=
 if s < (t42.r0.length : Int) then
 ((ix t42.r0 s).bind fun t61 =>
 if (t61.length : Int) = (t30.r0.fords.length : Int) then
 ((iterM FU (kg t61 t30 s t42 t36) 0).bind fun o_2 =>
 oc o_2 (fun j_1 => (addc s 1).bind fun t149 =>
 some (.inl t149)) (fun r_2 => some (.inr (.inr r_2)))) else
 (some (.inr (.inr false)))) else
 (some (.inr (.inl ())))
structure qG where
  t5_1 : Int
  t5_2 : Int
structure qH where
  t179 : Int
  t5_1 : Int
  t5_2 : Int
structure jU where
  t5_1 : Int
  t5_2 : Int
def kP (tries1 : (List Int)) (t30 : kr) (t36 : ks) (t42 : qj) (s_2 : qH) : Option (qH ⊕ (qG ⊕ Bool)) :=
 if s_2.t179 < 8 then
 ((if 0 < s_2.t179 then
 ((kV tries1 s_2.t5_1 s_2.t5_2 (⟨t30.r0.cells, t30.r0.tides, t30.r0.fords, t30.r0.sands, t36.r0⟩ : Channel)).bind fun t187 =>
 (qh t187.r0).bind fun t190 =>
 ((kX (⟨t30.r0.cells, t30.r0.tides, t30.r0.fords, t30.r0.sands, t36.r0⟩ : Channel) t187.r0).bind fun t195 =>
 if t195 = true then
 (some (decide (t190.r0 < t42.r1))) else
 (some false)).bind fun o_7 =>
 if o_7 = true then
 (some (.inr false)) else
 (some (.inl (⟨t187.b0_1, t187.b0_2⟩ : jU)))) else
 ((qh t30.r1).bind fun t190_1 =>
 ((kX (⟨t30.r0.cells, t30.r0.tides, t30.r0.fords, t30.r0.sands, t36.r0⟩ : Channel) t30.r1).bind fun t195_1 =>
 if t195_1 = true then
 (some (decide (t190_1.r0 < t42.r1))) else
 (some false)).bind fun o_8 =>
 if o_8 = true then
 (some (.inr false)) else
 (some (.inl (⟨s_2.t5_1, s_2.t5_2⟩ : jU))))).bind fun o_6 =>
 oc o_6 (fun j_3 => (addc s_2.t179 1).bind fun t201 =>
 some (.inl (⟨t201, j_3.t5_1, j_3.t5_2⟩ : qH))) (fun r_4 => some (.inr (.inr r_4)))) else
 (some (.inr (.inl (⟨s_2.t5_1, s_2.t5_2⟩ : qG))))
def q9 (numbers0 : (List Int)) (tries1 : (List Int)) : Option Bool :=
 (Y1 numbers0).bind fun t27 =>
 (qZ numbers0 t27.t5_1 t27.t5_2 9 3 4).bind fun t30 =>
 (q4 numbers0 t30.b0_1 t30.b0_2 t30.r0 t30.r1 6).bind fun t36 =>
 (Y1 tries1).bind fun t39 =>
 (Jx (⟨t30.r0.cells, t30.r0.tides, t30.r0.fords, t30.r0.sands, t36.r0⟩ : Channel)).bind fun t42 =>
 (if t42.r2 = 0 then
 ((addc t30.r0.tides 1).bind fun t53 =>
 some (!decide ((t42.r0.length : Int) = t53))) else
 (some true)).bind fun o =>
 if o = true then
 (some false) else
 ((iterM FU (kh t42 t30 t36) 0).bind fun o_1 =>
 oc o_1 (fun j => (qh t42.r0).bind fun t152 =>
 (addc t30.r0.tides 1).bind fun t160 =>
 if 1 ≤ t160 ∧ t160 ≤ 1000 then (((kX (⟨t30.r0.cells, t30.r0.tides, t30.r0.fords, t30.r0.sands, t36.r0⟩ : Channel) t42.r0).bind fun t164 =>
 if (!t164) = true then
 (some true) else
 (if t152.r0 = t42.r1 then
 ((kX (⟨t30.r0.cells, t30.r0.tides, t30.r0.fords, t30.r0.sands, t36.r0⟩ : Channel) (List.replicate (Int.toNat t160) t30.r0.fords)).bind fun t176 =>
 some (!((decide (t42.r1 = 0)) == t176))) else
 (some true))).bind fun o_4 =>
 if o_4 = true then
 (some false) else
 ((iterM FU (kP tries1 t30 t36 t42) (⟨0, t39.t5_1, t39.t5_2⟩ : qH)).bind fun o_5 =>
 oc o_5 (fun j_2 => (Kt (⟨t30.r0.cells, t30.r0.tides, t30.r0.fords, t30.r0.sands, t36.r0⟩ : Channel)).bind fun t204 =>
 (Kq (⟨t30.r0.cells, t30.r0.tides, t30.r0.fords, t30.r0.sands, t36.r0⟩ : Channel) t42.r0).bind fun t210 =>
 (if t204.r1 = 0 then
 (if t210.r1 = 0 then
 (if t210.r0 = true then
 (if 0 ≤ t204.r0.lo then
 (if t204.r0.hi ≤ (t30.r0.fords.length : Int) then
 (if 0 < t42.r1 then
 ((y5).bind fun t245 =>
 some t245) else
 (if t204.r0.lo = 0 then
 ((y5).bind fun t245_1 =>
 some t245_1) else
 (some false))) else
 (some false)) else
 (some false)) else
 (some false)) else
 (some false)) else
 (some false)).bind fun o_9 =>
 some o_9) (fun r_5 => some r_5))) else none) (fun r_6 => some r_6))
theorem Qk (numbers0 : (List Int)) (tries1 : (List Int)) (qa0 : Option Addr) (na0 ca0 : Nat) (qa1 : Option Addr) (na1 ca1 : Nat) (w : World) (hw : HV w (keys [] []) [] [] [(aB qa0, aO qa0, RU8.enc numbers0), (aB qa1, aO qa1, RU8.enc tries1)] w) (hna0 : numbers0.length = na0) (hqa0 : AOK na0 qa0) (hla0 : na0 ≤ ca0) (hna1 : tries1.length = na1) (hqa1 : AOK na1 qa1) (hla1 : na1 ≤ ca1) {res : Bool} (hm : q9 numbers0 tries1 = some res) :
    Calls Tryz.prog 16 #[.slice qa0 na0 ca0, .slice qa1 na1 ca1] w (fun en w' => ∃ l : Unit, en = .returned (.bool res) ∧ (True) ∧ HV w (keys [] []) [] [] [] w') := by
  unfold q9 at hm
  refine yt func16 Y ntmps16 Y (e := [(0, _), (1, _)]) Y hw (jw (jr Y Y (ql (jk Y Y ?_))))
  obtain ⟨t27, h1, hm⟩ := bindO hm
  refine jd [] [] Y Y Y Y Y Y Y call62 (fun w hh => jat numbers0 qa0 na0 ca0 w (HV.callee (S0 := []) (vs0 := []) hh (roR hh 0 Y roN)) hna0 hqa0 hla0 h1) (fun l h2 => ?_)
  refine qc (S' := [_]) (vs' := []) [0] [] 0 Y Y Y Y (jr Y Y (ql (jk Y Y ?_)))
  obtain ⟨t30, h3, hm⟩ := bindO hm
  refine jd [_] [] Y Y Y Y Y Y Y call61 (fun w hh => YD numbers0 t27.t5_1 t27.t5_2 9 3 4 l qa0 na0 ca0 w (HV.callee (S0 := [_]) (vs0 := []) hh (roR hh 0 Y roN)) hna0 hqa0 hla0 h3) (fun l_1 h4 => ?_)
  obtain ⟨h5, h6, h7, h8, h9⟩ := h4
  refine qc (S' := [_]) (vs' := [_, _, _, _]) [0] [0, 1, 2, 3] 0 Y Y Y Y (jk Y Y (zx Y Y Y (zx Y Y Y ?_)))
  refine jy (fun w => zeroValue26 w) Y (fun b h10 => ?_)
  refine kd (us := #[_, _, _, _, _]) (cs' := [_, _, _, _, _]) (S' := [_, _]) 0 (fun w => sizeOf26 w) Y Y Y Y Y Y Y (jr Y Y (ql (jk Y Y (Jh [_, _, _, _, _] 0 isAgg26 sizeOf26 Y Y Y Y (jk Y Y ?_)))))
  obtain ⟨t36, h11, hm⟩ := bindO hm
  refine qc (S' := [_, _]) (vs' := [_, _, _, _]) [1, 0] [0, 1, 2, 3] 0 Y Y Y Y ?_
  refine jd [_] [] Y Y Y Y Y Y Y call67 (fun w hh => Yx numbers0 t30.b0_1 t30.b0_2 t30.r0 t30.r1 6 l qa0 na0 ca0 (qA l_1.1.q) l_1.1.n l_1.1.cap (qA l_1.2.1.q) l_1.2.1.n l_1.2.1.cap (qA l_1.2.2.1.q) l_1.2.2.1.n l_1.2.2.1.cap (qA l_1.2.2.2.v.q) l_1.2.2.2.v.n l_1.2.2.2.v.cap (toAL l_1.2.2.2.rs) w (HV.callee (S0 := [_]) (vs0 := []) hh (roR hh 0 Y (roC (hh.vsepA 0 Y h5) (roC (hh.vsepA 1 Y h6) (roC (hh.vsepA 2 Y h7) (roC (hh.vsepD 3 Y h8) roN)))))) hna0 hqa0 hla0 (vlen RI h5 Y) (AOK.q (vne h5)) (h5).hle (vlen RSa h6 Y) (AOK.q (vne h6)) (h6).hle (vlen RSi h7 Y) (AOK.q (vne h7)) (h7).hle (Eq.trans (h9).len (vlen RwH h8 Y)) (AOK.q (vne h8)) (h8).hle ((h9).toDRO Y) (hh.dsepT 3 Y h9) h11) (fun l_2 h12 => ?_)
  have h13 := h12
  refine qc (S' := [_, _]) (vs' := [_, _, _, _, _]) [0, 1] [0, 1, 2, 3, 4] 0 Y Y Y Y (yy 4 runUnderlying26 Y sizeOf24 Y Y (yv (cs' := #[_, _, _, _, _]) (S' := [_, _]) 1 (fun w => sizeOf24 w) Y Y Y Y Y Y Y (ql (jk Y Y ?_))))
  obtain ⟨t39, h14, hm⟩ := bindO hm
  refine jd [] [] Y Y Y Y Y Y Y call62 (fun w hh => jat tries1 qa1 na1 ca1 w (HV.callee (S0 := []) (vs0 := []) hh (roR hh 1 Y roN)) hna1 hqa1 hla1 h14) (fun l_3 h15 => ?_)
  refine qc (S' := [_, _, _]) (vs' := [_, _, _, _, _]) [0, 1, 2] [0, 1, 2, 3, 4] 0 Y Y Y Y (jr Y Y (ql (Jh [_, _, _, _, _] 2 isAgg26 sizeOf26 Y Y Y Y ?_)))
  obtain ⟨t42, h16, hm⟩ := bindO hm
  refine jd [] [] Y Y Y Y Y Y Y call28 (fun w hh => YZ (⟨t30.r0.cells, t30.r0.tides, t30.r0.fords, t30.r0.sands, t36.r0⟩ : Channel) (qA l_1.1.q) l_1.1.n l_1.1.cap (qA l_1.2.1.q) l_1.2.1.n l_1.2.1.cap (qA l_2.q) l_2.n l_2.cap w (HV.callee (S0 := []) (vs0 := []) hh (roC (hh.vsepA 1 Y h5) (roC (hh.vsepA 2 Y h6) (roC (hh.vsepA 0 Y h13) roN)))) (vlen RI h5 Y) (AOK.q (vne h5)) (h5).hle (vlen RSa h6 Y) (AOK.q (vne h6)) (h6).hle (vlen RSi h13 Y) (AOK.q (vne h13)) (h13).hle h16) (fun l_4 h17 => ?_)
  obtain ⟨h18, h19⟩ := h17
  refine qc (S' := [_, _, _]) (vs' := [_, _, _, _, _, _]) [0, 1, 2] [0, 1, 2, 3, 4, 5] 0 Y Y Y Y (jk Y Y (zx Y Y Y (zx Y Y Y (zx Y Y Y (jr Y Y (jr Y Y (jr Y Y ?_)))))))
  refine ju (jl (jl ?_))
  obtain ⟨o, h20, h21⟩ := bindO hm
  refine jW (ι := Unit) (fun l_5 => True) (fun l_5 => [(6, ptr b 0), (7, sL l_1.2.2.2.v), (8, ptr l_3 0), (9, sL l_4.v), (10, .int .i64 t42.r1), (55, .bool o)]) (fun l_5 => [kc l_3 #[.slice qa1 na1 ca1, .int .i64 t39.t5_1, .int .u32 t39.t5_2] 199, kc l #[.slice qa0 na0 ca0, .int .i64 t36.b0_1, .int .u32 t36.b0_2] 199, kc b #[.int .i64 t30.r0.cells, .int .i64 t30.r0.tides, sL l_1.1, sL l_1.2.1, sL l_2] 26]) (fun l_5 => [⟨22, RwH.enc l_1.2.2.2.rs, l_1.2.2.2.v.sp, l_1.2.2.2.v.q, dbl 3 RI t30.r1 l_1.2.2.2.rs⟩, ⟨22, RwH.enc l_4.rs, l_4.v.sp, l_4.v.q, dbl 3 RI t42.r0 l_4.rs⟩, vL 3 l_1.1 (RI.enc t30.r0.fords), vL 98 l_1.2.1 (RSa.enc t30.r0.sands), vL 55 l_2 (RSi.enc t36.r0)]) ?_ ?_
  ·replace hm := h20
   refine jg (jk Y Y (jc Y Y Y (fun _ _ => JL Y Y) (jk Y Y ?_)))
   refine jK 48 Y (fun h22 => ?_) (fun h22 => ?_)
   ·replace hm := ifF (of_ndec_true h22) hm
    refine g_k Y Y Y Y (g_k Y Y Y Y (g_k Y Y Y Y (g_k Y Y Y Y (g_k Y Y Y Y (g_k Y Y Y Y (y8 Y Y Y (jv ?_)))))))
    obtain rfl := sj hm
    exact jm () (trivial) (sE Y) (hsE [0, 1, 2] [5, 0, 2, 3, 1] 0 Y Y Y Y)
   replace hm := ifT (of_ndec_false h22) hm
   refine jb Y Y (jk Y Y (jb Y Y (jc Y Y Y (fun w _ => JZ (Eq.trans (h19).len (vlen RwH h18 Y)) (runUnderlying41 w) Y) (jb Y Y (yy 1 runUnderlying26 Y sizeOf3 Y Y (jb Y Y (qN 2 isAgg3 Y Y Y Y ?_)))))))
   refine jb Y Y ?_
   obtain ⟨t53, h23, hm⟩ := bindO hm
   refine Kl h23 Y Y Y (jb Y Y (jc Y Y Y (fun _ _ => JL Y Y) (yx Y Y Y (jv ?_))))
   obtain rfl := sj hm
   exact jm () (trivial) (sE Y) (hsE [0, 1, 2] [5, 0, 2, 3, 1] 0 Y Y Y Y)
  intro l_5 hj
  replace hm := h21
  refine ja ?_
  refine jz Y (fun h24 => ?_) (fun h24 => ?_)
  ·replace hm := ifT (h24) hm
   refine jw (jr Y Y (ju (jB (ji ?_))))
   obtain rfl := sj hm
   refine jq Y (fun w hh => (.tmp Y .nil)) (fun w hh => ⟨(), rfl, trivial, hh.se [] [] 2 Y Y Y rfl⟩)
  replace hm := ifN h24 hm
  refine jx (ja (jl (jw (jk Y Y (jc Y Y Y (fun w _ => JZ (Eq.trans (h19).len (vlen RwH h18 Y)) (runUnderlying41 w) Y) (jk Y Y (ju ?_)))))))
  obtain ⟨o_1, h25, h26⟩ := bindO hm
  refine jW (ι := Unit) (fun j => o_1 = .inl j) (fun j => [(6, ptr b 0), (7, sL l_1.2.2.2.v), (8, ptr l_3 0), (9, sL l_4.v), (10, .int .i64 t42.r1)]) (fun j => [kc l_3 #[.slice qa1 na1 ca1, .int .i64 t39.t5_1, .int .u32 t39.t5_2] 199, kc l #[.slice qa0 na0 ca0, .int .i64 t36.b0_1, .int .u32 t36.b0_2] 199, kc b #[.int .i64 t30.r0.cells, .int .i64 t30.r0.tides, sL l_1.1, sL l_1.2.1, sL l_2] 26]) (fun j => [⟨22, RwH.enc l_1.2.2.2.rs, l_1.2.2.2.v.sp, l_1.2.2.2.v.q, dbl 3 RI t30.r1 l_1.2.2.2.rs⟩, ⟨22, RwH.enc l_4.rs, l_4.v.sp, l_4.v.q, dbl 3 RI t42.r0 l_4.rs⟩, vL 3 l_1.1 (RI.enc t30.r0.fords), vL 98 l_1.2.1 (RSa.enc t30.r0.sands), vL 55 l_2 (RSi.enc t36.r0)]) ?_ ?_
  ·replace hm := h25
   refine js ?_
   refine kb (ι := Unit) hm (fun s l_6 => True) (fun s l_6 => [(6, ptr b 0), (7, sL l_1.2.2.2.v), (8, ptr l_3 0), (9, sL l_4.v), (10, .int .i64 t42.r1), (56, sL l_4.v), (57, .int .i64 (t42.r0.length : Int)), (58, .int .i64 s)]) (fun s l_6 => [kc l_3 #[.slice qa1 na1 ca1, .int .i64 t39.t5_1, .int .u32 t39.t5_2] 199, kc l #[.slice qa0 na0 ca0, .int .i64 t36.b0_1, .int .u32 t36.b0_2] 199, kc b #[.int .i64 t30.r0.cells, .int .i64 t30.r0.tides, sL l_1.1, sL l_1.2.1, sL l_2] 26]) (fun s l_6 => [⟨22, RwH.enc l_1.2.2.2.rs, l_1.2.2.2.v.sp, l_1.2.2.2.v.q, dbl 3 RI t30.r1 l_1.2.2.2.rs⟩, ⟨22, RwH.enc l_4.rs, l_4.v.sp, l_4.v.q, dbl 3 RI t42.r0 l_4.rs⟩, vL 3 l_1.1 (RI.enc t30.r0.fords), vL 98 l_1.2.1 (RSa.enc t30.r0.sands), vL 55 l_2 (RSi.enc t36.r0)]) () (trivial) (sE Y) (fun w hh => hh) (fun s l_6 r hpl hm h27 => ?_)
   unfold kh at hm
   refine jw (KD Y Y Y (ju (jl ?_)))
   refine jz Y (fun h28 => ?_) (fun h28 => ?_)
   ·replace hm := ifD h28 hm
    refine jx (ja (jl (js (jw (jk Y Y ?_)))))
    obtain ⟨t61, h29, hm⟩ := bindO hm
    obtain ⟨L, h30, h31⟩ := (h19).row h29
    refine jc Y Y Y (fun w _ => yz h30 (runUnderlying41 w) (sizeOf22 w) Y Y (vlen RwH h18 Y) (vne h18)) (jc Y Y Y (fun w hh => kK RwH 0 h30 (isAgg22 w) Y (hh.vseg 1 Y h18) Y (Nat.add_zero _).symm) (jr Y Y (jr Y Y (ju (jl (jw (jk Y Y ?_)))))))
    refine jc Y Y Y (fun w _ => JZ (vlen RI h31 Y) (runUnderlying22 w) Y) (yy 2 runUnderlying26 Y sizeOf22 Y Y (qN 2 isAgg22 Y Y Y Y (jc Y Y Y (fun w _ => JZ (vlen RI h5 Y) (runUnderlying22 w) Y) (jc Y Y Y (fun _ _ => JL Y Y) (ju ?_)))))
    refine jz Y (fun h32 => ?_) (fun h32 => ?_)
    ·replace hm := ifF (of_ndec_true h32) hm
     refine jw (jr Y Y (ju (jB (ji (jG (ji (ji ?_)))))))
     refine jG ?_
     obtain rfl := sj hm
     have hbo := h27 _ Y
     subst hbo
     refine ji ?_
     replace hm := ocR h26
     refine ji ?_
     obtain rfl := sj hm
     refine jq Y (fun w hh => (.tmp Y .nil)) (fun w hh => ⟨(), rfl, trivial, hh.se [] [] 2 Y Y Y rfl⟩)
    replace hm := ifT (of_ndec_false h32) hm
    refine jx (ja (jw (jk Y Y (jc Y Y Y (fun w _ => JZ (vlen RI h31 Y) (runUnderlying22 w) Y) (jk Y Y (ju ?_))))))
    obtain ⟨o_2, h33, h34⟩ := bindO hm
    refine jW (ι := Unit) (fun j_1 => o_2 = .inl j_1) (fun j_1 => [(6, ptr b 0), (7, sL l_1.2.2.2.v), (8, ptr l_3 0), (9, sL l_4.v), (10, .int .i64 t42.r1), (56, sL l_4.v), (57, .int .i64 (t42.r0.length : Int)), (58, .int .i64 s)]) (fun j_1 => [kc l_3 #[.slice qa1 na1 ca1, .int .i64 t39.t5_1, .int .u32 t39.t5_2] 199, kc l #[.slice qa0 na0 ca0, .int .i64 t36.b0_1, .int .u32 t36.b0_2] 199, kc b #[.int .i64 t30.r0.cells, .int .i64 t30.r0.tides, sL l_1.1, sL l_1.2.1, sL l_2] 26]) (fun j_1 => [⟨22, RwH.enc l_1.2.2.2.rs, l_1.2.2.2.v.sp, l_1.2.2.2.v.q, dbl 3 RI t30.r1 l_1.2.2.2.rs⟩, ⟨22, RwH.enc l_4.rs, l_4.v.sp, l_4.v.q, dbl 3 RI t42.r0 l_4.rs⟩, vL 3 l_1.1 (RI.enc t30.r0.fords), vL 98 l_1.2.1 (RSa.enc t30.r0.sands), vL 55 l_2 (RSi.enc t36.r0)]) ?_ ?_
    ·replace hm := h33
     refine js ?_
     refine kb (ι := Unit) hm (fun s_1 l_7 => True) (fun s_1 l_7 => [(6, ptr b 0), (7, sL l_1.2.2.2.v), (8, ptr l_3 0), (9, sL l_4.v), (10, .int .i64 t42.r1), (12, .int .i64 s), (13, sL L), (56, sL l_4.v), (57, .int .i64 (t42.r0.length : Int)), (58, .int .i64 s), (69, sL L), (70, .int .i64 (t61.length : Int)), (71, .int .i64 s_1)]) (fun s_1 l_7 => [kc l_3 #[.slice qa1 na1 ca1, .int .i64 t39.t5_1, .int .u32 t39.t5_2] 199, kc l #[.slice qa0 na0 ca0, .int .i64 t36.b0_1, .int .u32 t36.b0_2] 199, kc b #[.int .i64 t30.r0.cells, .int .i64 t30.r0.tides, sL l_1.1, sL l_1.2.1, sL l_2] 26]) (fun s_1 l_7 => [⟨22, RwH.enc l_1.2.2.2.rs, l_1.2.2.2.v.sp, l_1.2.2.2.v.q, dbl 3 RI t30.r1 l_1.2.2.2.rs⟩, ⟨22, RwH.enc l_4.rs, l_4.v.sp, l_4.v.q, dbl 3 RI t42.r0 l_4.rs⟩, vL 3 l_1.1 (RI.enc t30.r0.fords), vL 98 l_1.2.1 (RSa.enc t30.r0.sands), vL 55 l_2 (RSi.enc t36.r0)]) () (trivial) (sE Y) (fun w hh => hh) (fun s_1 l_7 r_1 hpl hm h35 => ?_)
     unfold kg at hm
     refine jw (KD Y Y Y (ju (jl ?_)))
     refine jz Y (fun h36 => ?_) (fun h36 => ?_)
     ·replace hm := ifD h36 hm
      refine jx (ja (jl (js (jw (jk Y Y ?_)))))
      obtain ⟨t74, h37, hm⟩ := bindO hm
      refine jc Y Y Y (fun w _ => yz h37 (runUnderlying22 w) (sizeOf3 w) Y Y (vlen RI h31 Y) (vne h31)) (jc Y Y Y (fun w hh => kK RI 0 h37 (isAgg3 w) Y (hh.dseg 1 Y h29 h30 h31) Y (Nat.add_zero _).symm) (jr Y Y (jr Y Y (ju (jl ?_)))))
      obtain ⟨o_3, h38, h39⟩ := bindO hm
      refine jW (ι := Unit) (fun l_8 => True) (fun l_8 => [(6, ptr b 0), (7, sL l_1.2.2.2.v), (8, ptr l_3 0), (9, sL l_4.v), (10, .int .i64 t42.r1), (12, .int .i64 s), (13, sL L), (56, sL l_4.v), (57, .int .i64 (t42.r0.length : Int)), (58, .int .i64 s), (69, sL L), (70, .int .i64 (t61.length : Int)), (71, .int .i64 s_1), (147, .bool o_3)]) (fun l_8 => [kc l_3 #[.slice qa1 na1 ca1, .int .i64 t39.t5_1, .int .u32 t39.t5_2] 199, kc l #[.slice qa0 na0 ca0, .int .i64 t36.b0_1, .int .u32 t36.b0_2] 199, kc b #[.int .i64 t30.r0.cells, .int .i64 t30.r0.tides, sL l_1.1, sL l_1.2.1, sL l_2] 26]) (fun l_8 => [⟨22, RwH.enc l_1.2.2.2.rs, l_1.2.2.2.v.sp, l_1.2.2.2.v.q, dbl 3 RI t30.r1 l_1.2.2.2.rs⟩, ⟨22, RwH.enc l_4.rs, l_4.v.sp, l_4.v.q, dbl 3 RI t42.r0 l_4.rs⟩, vL 3 l_1.1 (RI.enc t30.r0.fords), vL 98 l_1.2.1 (RSa.enc t30.r0.sands), vL 55 l_2 (RSi.enc t36.r0)]) ?_ ?_
      ·replace hm := h38
       refine qi none (.free 0 (.free 1 (.free 2 (.free 3 (.free 4 (.hoist 5 (.free 6 (.free 7 (.free 8 (.free 9 (.free 10 (.free 11 (.free 12 (.free 13 (.free 14 (.free 15 (.free 16 (.hoist 17 (.free 18 (.free 19 (.free 20 (.free 21 (.free 22 (.free 23 (.free 24 (.free 25 (.free 26 (.hoist 27 (.free 28 (.free 29 (.hoist 30 (.free 31 (.free 32 (.free 33 (.free 34 (.free 35 (.free 36 (.free 37 (.free 38 (.free 39 (.free 40 (.free 41 (.free 42 (.hoist 43 (.free 44 (.free 45 (.hoist 46 (.free 47 (.free 48 (.free 49 (.free 50 (.free 51 (.hoist 52 (.free 53 (.free 54 (.hoist 55 (.free 56 (.free 57 (.free 58 (.hoist 59 (.free 60 (.free 61 (.free 62 (.free 63 (.hoist 64 (.free 65 (.free 66 (.hoist 67 (.one 68 (.free 69 (.free 70 (.free 71 .done)))))))))))))))))))))))))))))))))))))))))))))))))))))))))))))))))))))))) _ Y (by decide +kernel) (fun w k hh => hh.draw k) (fun w hh => hh) ?_
       refine yJ Y Y Y (jn Y Y Y Y (fun _ _ => jab Y Y) (yJ Y Y Y ?_))
       refine jK 78 Y (fun h40 => ?_) (fun h40 => ?_)
       ·replace hm := ifD h40 hm
        refine jh Y Y Y Y Y Y Y (jh Y Y Y Y Y Y Y (kU Y Y Y Y Y Y Y (jh Y Y Y Y Y Y Y (jn Y Y Y Y (fun _ _ => q7 Y Y) (yJ Y Y Y (jh Y Y Y Y Y Y Y (jh Y Y Y Y Y Y Y ?_)))))))
        refine jh Y Y Y Y Y Y Y (je Y Y Y Y Y Y (je Y Y Y Y Y Y (je Y Y Y Y Y Y (je Y Y Y Y Y Y (je Y Y Y Y Y Y (jN Y Y Y Y Y Y (je Y Y Y Y Y Y ?_)))))))
        refine jh Y Y Y Y Y Y Y (jn Y Y Y Y (fun _ _ => q7 Y Y) (yJ Y Y Y (jh Y Y Y Y Y Y Y (jh Y Y Y Y Y Y Y (jh Y Y Y Y Y Y Y (je Y Y Y Y Y Y (je Y Y Y Y Y Y ?_)))))))
        refine jN Y Y Y Y Y Y (je Y Y Y Y Y Y (je Y Y Y Y Y Y (jN Y Y Y Y Y Y (je Y Y Y Y Y Y (jh Y Y Y Y Y Y Y (jn Y Y Y Y (fun _ _ => q7 Y Y) (yJ Y Y Y ?_)))))))
        refine jh Y Y Y Y Y Y Y (jh Y Y Y Y Y Y Y (jh Y Y Y Y Y Y Y (je Y Y Y Y Y Y (je Y Y Y Y Y Y (je Y Y Y Y Y Y (je Y Y Y Y Y Y (je Y Y Y Y Y Y ?_)))))))
        refine jN Y Y Y Y Y Y (je Y Y Y Y Y Y (je Y Y Y Y Y Y (jN Y Y Y Y Y Y (je Y Y Y Y Y Y (je Y Y Y Y Y Y (je Y Y Y Y Y Y (je Y Y Y Y Y Y ?_)))))))
        refine je Y Y Y Y Y Y (jN Y Y Y Y Y Y (je Y Y Y Y Y Y (je Y Y Y Y Y Y (jN Y Y Y Y Y Y (je Y Y Y Y Y Y (je Y Y Y Y Y Y (je Y Y Y Y Y Y ?_)))))))
        refine jN Y Y Y Y Y Y (je Y Y Y Y Y Y (je Y Y Y Y Y Y (je Y Y Y Y Y Y (je Y Y Y Y Y Y (jN Y Y Y Y Y Y (je Y Y Y Y Y Y (je Y Y Y Y Y Y ?_)))))))
        refine jN Y Y Y Y Y Y (jF Y ?_)
        refine jC Y Y Y Y Y ?_
        refine jo (fun w hh => hh) (je Y Y Y Y Y Y (jh Y Y Y Y Y Y Y (jn Y Y Y Y (fun _ _ => q7 Y Y) (jL ?_))))
        obtain rfl := sj hm
        exact jm () (trivial) (sE Y) (fun w hh => hh)
       replace hm := ifE h40 hm
       refine jj Y Y Y Y Y Y (fun _ _ => jt Y) (jj Y Y Y Y Y Y (fun w _ => jT 0 (runUnderlying26 w) Y (sizeOf3 w) Y) (jO Y Y Y Y Y Y (fun w hh => jH (isAgg3 w) Y (hh.cell 2 Y Y)) (jj Y Y Y Y Y Y (fun _ _ => Ya Y Y) (jn Y Y Y Y (fun _ _ => qf Y Y) (yJ Y Y Y ?_)))))
       refine jK 84 Y (fun h41 => ?_) (fun h41 => ?_)
       ·replace hm := ifD h41 hm
        refine jh Y Y Y Y Y Y Y (jh Y Y Y Y Y Y Y (jh Y Y Y Y Y Y Y (je Y Y Y Y Y Y (je Y Y Y Y Y Y (je Y Y Y Y Y Y (je Y Y Y Y Y Y (je Y Y Y Y Y Y ?_)))))))
        refine jN Y Y Y Y Y Y (je Y Y Y Y Y Y (jh Y Y Y Y Y Y Y (jn Y Y Y Y (fun _ _ => q7 Y Y) (yJ Y Y Y (jh Y Y Y Y Y Y Y (jh Y Y Y Y Y Y Y (jh Y Y Y Y Y Y Y ?_)))))))
        refine je Y Y Y Y Y Y (je Y Y Y Y Y Y (jN Y Y Y Y Y Y (je Y Y Y Y Y Y (je Y Y Y Y Y Y (jN Y Y Y Y Y Y (je Y Y Y Y Y Y (jh Y Y Y Y Y Y Y ?_)))))))
        refine jn Y Y Y Y (fun _ _ => q7 Y Y) (yJ Y Y Y (jh Y Y Y Y Y Y Y (jh Y Y Y Y Y Y Y (jh Y Y Y Y Y Y Y (je Y Y Y Y Y Y (je Y Y Y Y Y Y (je Y Y Y Y Y Y ?_)))))))
        refine je Y Y Y Y Y Y (je Y Y Y Y Y Y (jN Y Y Y Y Y Y (je Y Y Y Y Y Y (je Y Y Y Y Y Y (jN Y Y Y Y Y Y (je Y Y Y Y Y Y (je Y Y Y Y Y Y ?_)))))))
        refine je Y Y Y Y Y Y (je Y Y Y Y Y Y (je Y Y Y Y Y Y (jN Y Y Y Y Y Y (je Y Y Y Y Y Y (je Y Y Y Y Y Y (jN Y Y Y Y Y Y (je Y Y Y Y Y Y ?_)))))))
        refine je Y Y Y Y Y Y (je Y Y Y Y Y Y (jN Y Y Y Y Y Y (je Y Y Y Y Y Y (je Y Y Y Y Y Y (je Y Y Y Y Y Y (je Y Y Y Y Y Y (jN Y Y Y Y Y Y ?_)))))))
        refine je Y Y Y Y Y Y (je Y Y Y Y Y Y (jN Y Y Y Y Y Y (jF Y ?_)))
        refine jC Y Y Y Y Y ?_
        refine jo (fun w hh => hh) (je Y Y Y Y Y Y (jh Y Y Y Y Y Y Y (jn Y Y Y Y (fun _ _ => q7 Y Y) (jL ?_))))
        obtain rfl := sj hm
        exact jm () (trivial) (sE Y) (fun w hh => hh)
       replace hm := ifE h41 hm
       refine jj Y Y Y Y Y Y (fun _ _ => jt Y) (jj Y Y Y Y Y Y (fun _ _ => QE Y Y) (jj Y Y Y Y Y Y (fun _ _ => jt Y) ?_))
       refine jK 87 Y (fun h42 => ?_) (fun h42 => ?_)
       ·replace hm := ifD h42 hm
        refine jj Y Y Y Y Y Y (fun _ _ => jt Y) (jj Y Y Y Y Y Y (fun _ _ => jt Y) (jj Y Y Y Y Y Y (fun _ _ => jt Y) ?_))
        obtain ⟨t91, h43, hm⟩ := bindO hm
        refine jj Y Y Y Y Y Y (fun _ _ => k3 h43 Y Y) ?_
        obtain ⟨t92, h44, hm⟩ := bindO hm
        refine jj Y Y Y Y Y Y (fun w _ => yz h44 (runUnderlying22 w) (sizeOf3 w) Y Y (vlen RI h31 Y) (vne h31)) (jO Y Y Y Y Y Y (fun w hh => kK RI 0 h44 (isAgg3 w) Y (hh.dseg 1 Y h29 h30 h31) Y (Nat.add_zero _).symm) (jj Y Y Y Y Y Y (fun _ _ => ZV Y Y) (jj Y Y Y Y Y Y (fun _ _ => q7 Y Y) (jn Y Y Y Y (fun _ _ => qf Y Y) (yJ Y Y Y ?_)))))
        refine jK 97 Y (fun h45 => ?_) (fun h45 => ?_)
        ·replace hm := ifD h45 hm
         refine jh Y Y Y Y Y Y Y (jh Y Y Y Y Y Y Y (jh Y Y Y Y Y Y Y (je Y Y Y Y Y Y (je Y Y Y Y Y Y (jN Y Y Y Y Y Y (je Y Y Y Y Y Y (je Y Y Y Y Y Y ?_)))))))
         refine jN Y Y Y Y Y Y (je Y Y Y Y Y Y (jh Y Y Y Y Y Y Y (jn Y Y Y Y (fun _ _ => q7 Y Y) (yJ Y Y Y (jh Y Y Y Y Y Y Y (jh Y Y Y Y Y Y Y (jh Y Y Y Y Y Y Y ?_)))))))
         refine je Y Y Y Y Y Y (je Y Y Y Y Y Y (je Y Y Y Y Y Y (je Y Y Y Y Y Y (je Y Y Y Y Y Y (jN Y Y Y Y Y Y (je Y Y Y Y Y Y (je Y Y Y Y Y Y ?_)))))))
         refine jN Y Y Y Y Y Y (je Y Y Y Y Y Y (je Y Y Y Y Y Y (je Y Y Y Y Y Y (je Y Y Y Y Y Y (je Y Y Y Y Y Y (jN Y Y Y Y Y Y (je Y Y Y Y Y Y ?_)))))))
         refine je Y Y Y Y Y Y (jN Y Y Y Y Y Y (je Y Y Y Y Y Y (je Y Y Y Y Y Y (je Y Y Y Y Y Y (jN Y Y Y Y Y Y (je Y Y Y Y Y Y (je Y Y Y Y Y Y ?_)))))))
         refine je Y Y Y Y Y Y (je Y Y Y Y Y Y (jN Y Y Y Y Y Y (je Y Y Y Y Y Y (je Y Y Y Y Y Y (jN Y Y Y Y Y Y (jF Y ?_))))))
         refine jC Y Y Y Y Y ?_
         refine jo (fun w hh => hh) (je Y Y Y Y Y Y (jh Y Y Y Y Y Y Y (jn Y Y Y Y (fun _ _ => q7 Y Y) (jL ?_))))
         obtain rfl := sj hm
         exact jm () (trivial) (sE Y) (fun w hh => hh)
        replace hm := ifE h45 hm
        refine jj Y Y Y Y Y Y (fun _ _ => jt Y) (jj Y Y Y Y Y Y (fun _ _ => Je Y Y) (jj Y Y Y Y Y Y (fun _ _ => jt Y) ?_))
        refine jK 100 Y (fun h46 => ?_) (fun h46 => ?_)
        ·replace hm := ifD h46 hm
         refine jj Y Y Y Y Y Y (fun _ _ => jt Y) (jj Y Y Y Y Y Y (fun w _ => jT 2 (runUnderlying26 w) Y (sizeOf22 w) Y) (jO Y Y Y Y Y Y (fun w hh => jH (isAgg22 w) Y (hh.cell 2 Y Y)) (jj Y Y Y Y Y Y (fun _ _ => jt Y) ?_)))
         obtain ⟨t105, h47, hm⟩ := bindO hm
         refine jj Y Y Y Y Y Y (fun w _ => yz h47 (runUnderlying22 w) (sizeOf3 w) Y Y (vlen RI h5 Y) (vne h5)) (jO Y Y Y Y Y Y (fun w hh => kK RI 0 h47 (isAgg3 w) Y (hh.vseg 2 Y h5) Y (Nat.add_zero _).symm) (jj Y Y Y Y Y Y (fun _ _ => JL Y Y) (jj Y Y Y Y Y Y (fun _ _ => q7 Y Y) (jn Y Y Y Y (fun _ _ => qf Y Y) (yJ Y Y Y ?_)))))
         refine jK 110 Y (fun h48 => ?_) (fun h48 => ?_)
         ·replace hm := ifF (of_ndec_true h48) hm
          refine jh Y Y Y Y Y Y Y (jh Y Y Y Y Y Y Y (jh Y Y Y Y Y Y Y (je Y Y Y Y Y Y (je Y Y Y Y Y Y (je Y Y Y Y Y Y (je Y Y Y Y Y Y (je Y Y Y Y Y Y ?_)))))))
          refine jN Y Y Y Y Y Y (je Y Y Y Y Y Y (je Y Y Y Y Y Y (jN Y Y Y Y Y Y (je Y Y Y Y Y Y (je Y Y Y Y Y Y (je Y Y Y Y Y Y (je Y Y Y Y Y Y ?_)))))))
          refine je Y Y Y Y Y Y (jN Y Y Y Y Y Y (je Y Y Y Y Y Y (je Y Y Y Y Y Y (jN Y Y Y Y Y Y (je Y Y Y Y Y Y (je Y Y Y Y Y Y (je Y Y Y Y Y Y ?_)))))))
          refine jN Y Y Y Y Y Y (je Y Y Y Y Y Y (je Y Y Y Y Y Y (je Y Y Y Y Y Y (je Y Y Y Y Y Y (jN Y Y Y Y Y Y (je Y Y Y Y Y Y (je Y Y Y Y Y Y ?_)))))))
          refine jN Y Y Y Y Y Y (jF Y ?_)
          refine jC Y Y Y Y Y ?_
          refine jo (fun w hh => hh) (je Y Y Y Y Y Y (jh Y Y Y Y Y Y Y (jn Y Y Y Y (fun _ _ => q7 Y Y) (jL ?_))))
          obtain rfl := sj hm
          exact jm () (trivial) (sE Y) (fun w hh => hh)
         replace hm := ifT (of_ndec_false h48) hm
         refine jj Y Y Y Y Y Y (fun _ _ => jt Y) (jj Y Y Y Y Y Y (fun _ _ => QE Y Y) (jj Y Y Y Y Y Y (fun _ _ => jt Y) ?_))
         refine jK 113 Y (fun h49 => ?_) (fun h49 => ?_)
         ·replace hm := ifD h49 hm
          refine jj Y Y Y Y Y Y (fun _ _ => jt Y) (jj Y Y Y Y Y Y (fun _ _ => jt Y) (jj Y Y Y Y Y Y (fun _ _ => jt Y) ?_))
          obtain ⟨t117, h50, hm⟩ := bindO hm
          refine jj Y Y Y Y Y Y (fun _ _ => k3 h50 Y Y) ?_
          obtain ⟨t118, h51, hm⟩ := bindO hm
          obtain ⟨L_1, h52, h53⟩ := (h19).row h51
          refine jj Y Y Y Y Y Y (fun w _ => yz h52 (runUnderlying41 w) (sizeOf22 w) Y Y (vlen RwH h18 Y) (vne h18)) (jO Y Y Y Y Y Y (fun w hh => kK RwH 0 h52 (isAgg22 w) Y (hh.vseg 1 Y h18) Y (Nat.add_zero _).symm) (jj Y Y Y Y Y Y (fun _ _ => jt Y) ?_))
          obtain ⟨t121, h54, hm⟩ := bindO hm
          refine jj Y Y Y Y Y Y (fun w _ => yz h54 (runUnderlying22 w) (sizeOf3 w) Y Y (vlen RI h53 Y) (vne h53)) (jO Y Y Y Y Y Y (fun w hh => kK RI 0 h54 (isAgg3 w) Y (hh.dseg 1 Y h51 h52 h53) Y (Nat.add_zero _).symm) ?_)
          obtain ⟨t123, h55, hm⟩ := bindO hm
          refine jj Y Y Y Y Y Y (fun _ _ => k3 h55 Y Y) (jj Y Y Y Y Y Y (fun _ _ => jt Y) (jj Y Y Y Y Y Y (fun _ _ => jt Y) ?_))
          obtain ⟨t126, h56, hm⟩ := bindO hm
          refine jj Y Y Y Y Y Y (fun _ _ => k3 h56 Y Y) ?_
          obtain ⟨t127, h57, hm⟩ := bindO hm
          obtain ⟨L_2, h58, h59⟩ := (h19).row h57
          refine jj Y Y Y Y Y Y (fun w _ => yz h58 (runUnderlying41 w) (sizeOf22 w) Y Y (vlen RwH h18 Y) (vne h18)) (jO Y Y Y Y Y Y (fun w hh => kK RwH 0 h58 (isAgg22 w) Y (hh.vseg 1 Y h18) Y (Nat.add_zero _).symm) (jj Y Y Y Y Y Y (fun _ _ => jt Y) ?_))
          obtain ⟨t130, h60, hm⟩ := bindO hm
          refine jj Y Y Y Y Y Y (fun w _ => yz h60 (runUnderlying22 w) (sizeOf3 w) Y Y (vlen RI h59 Y) (vne h59)) (jO Y Y Y Y Y Y (fun w hh => kK RI 0 h60 (isAgg3 w) Y (hh.dseg 1 Y h57 h58 h59) Y (Nat.add_zero _).symm) (jj Y Y Y Y Y Y (fun _ _ => jt Y) ?_))
          obtain ⟨t133, h61, hm⟩ := bindO hm
          refine jj Y Y Y Y Y Y (fun _ _ => k3 h61 Y Y) (jj Y Y Y Y Y Y (fun _ _ => YL Y Y) (jO Y Y Y Y Y Y (fun w hh => jJ (vs := [_, _, _, _, _]) (isAgg26 w) (sizeOf26 w) Y (hh.cells 2 Y Y)) (jj Y Y Y Y Y Y (fun _ _ => jt Y) (jj Y Y Y Y Y Y (fun _ _ => jt Y) ?_))))
          obtain ⟨t138, h62, hm⟩ := bindO hm
          refine jj Y Y Y Y Y Y (fun _ _ => k3 h62 Y Y) ?_
          obtain ⟨t139, h63, hm⟩ := bindO hm
          obtain ⟨L_3, h64, h65⟩ := (h19).row h63
          refine jj Y Y Y Y Y Y (fun w _ => yz h64 (runUnderlying41 w) (sizeOf22 w) Y Y (vlen RwH h18 Y) (vne h18)) (jO Y Y Y Y Y Y (fun w hh => kK RwH 0 h64 (isAgg22 w) Y (hh.vseg 1 Y h18) Y (Nat.add_zero _).symm) (jj Y Y Y Y Y Y (fun _ _ => jt Y) ?_))
          obtain ⟨t142, h66, hm⟩ := bindO hm
          refine jj Y Y Y Y Y Y (fun w _ => yz h66 (runUnderlying22 w) (sizeOf3 w) Y Y (vlen RI h65 Y) (vne h65)) (jO Y Y Y Y Y Y (fun w hh => kK RI 0 h66 (isAgg3 w) Y (hh.dseg 1 Y h63 h64 h65) Y (Nat.add_zero _).symm) (jF Y (jb Y Y ?_)))
          obtain ⟨t144, h67, hm⟩ := bindO hm
          refine jd [] [] Y Y Y Y Y Y Y call63 (fun w hh => yl (⟨t30.r0.cells, t30.r0.tides, t30.r0.fords, t30.r0.sands, t36.r0⟩ : Channel) t142 (qA l_1.1.q) l_1.1.n l_1.1.cap (qA l_1.2.1.q) l_1.2.1.n l_1.2.1.cap (qA l_2.q) l_2.n l_2.cap w (HV.callee (S0 := []) (vs0 := []) hh (roC (hh.vsepA 2 Y h5) (roC (hh.vsepA 3 Y h6) (roC (hh.vsepA 4 Y h13) roN)))) (vlen RI h5 Y) (AOK.q (vne h5)) (h5).hle (vlen RSa h6 Y) (AOK.q (vne h6)) (h6).hle (vlen RSi h13 Y) (AOK.q (vne h13)) (h13).hle h67) (fun l_9 h68 => ?_)
          refine jo (fun w hh => hh) (jj Y Y Y Y Y Y (fun _ _ => QE Y Y) (jj Y Y Y Y Y Y (fun _ _ => q7 Y Y) (jn Y Y Y Y (fun _ _ => qf Y Y) (jL ?_))))
          obtain rfl := sj hm
          exact jm () (trivial) (sE Y) (fun w hh => hh)
         replace hm := ifE h49 hm
         refine jh Y Y Y Y Y Y Y (jh Y Y Y Y Y Y Y (jh Y Y Y Y Y Y Y (jh Y Y Y Y Y Y Y (jh Y Y Y Y Y Y Y (kU Y Y Y Y Y Y Y (jh Y Y Y Y Y Y Y (jh Y Y Y Y Y Y Y ?_)))))))
         refine kU Y Y Y Y Y Y Y (jh Y Y Y Y Y Y Y (jh Y Y Y Y Y Y Y (jh Y Y Y Y Y Y Y (jh Y Y Y Y Y Y Y (jh Y Y Y Y Y Y Y (kU Y Y Y Y Y Y Y (jh Y Y Y Y Y Y Y ?_)))))))
         refine jh Y Y Y Y Y Y Y (kU Y Y Y Y Y Y Y (jh Y Y Y Y Y Y Y (jh Y Y Y Y Y Y Y (jh Y Y Y Y Y Y Y (kU Y Y Y Y Y Y Y (jh Y Y Y Y Y Y Y (jh Y Y Y Y Y Y Y ?_)))))))
         refine jh Y Y Y Y Y Y Y (jh Y Y Y Y Y Y Y (kU Y Y Y Y Y Y Y (jh Y Y Y Y Y Y Y (jh Y Y Y Y Y Y Y (kU Y Y Y Y Y Y Y (jF Y (g_k Y Y Y Y ?_)))))))
         refine jo (fun w hh => hh) (jh Y Y Y Y Y Y Y (jj Y Y Y Y Y Y (fun _ _ => qf Y Y) (jn Y Y Y Y (fun _ _ => qf Y Y) (jL ?_))))
         obtain rfl := sj hm
         exact jm () (trivial) (sE Y) (fun w hh => hh)
        replace hm := ifE h46 hm
        refine jh Y Y Y Y Y Y Y (jh Y Y Y Y Y Y Y (kU Y Y Y Y Y Y Y (jh Y Y Y Y Y Y Y (jh Y Y Y Y Y Y Y (kU Y Y Y Y Y Y Y (jh Y Y Y Y Y Y Y (jj Y Y Y Y Y Y (fun _ _ => qf Y Y) ?_)))))))
        refine jn Y Y Y Y (fun _ _ => qf Y Y) (yJ Y Y Y (jj Y Y Y Y Y Y (fun _ _ => jt Y) (jj Y Y Y Y Y Y (fun _ _ => QE Y Y) (jj Y Y Y Y Y Y (fun _ _ => jt Y) ?_))))
        refine jK 113 Y (fun h69 => ?_) (fun h69 => ?_)
        ·replace hm := ifD h69 hm
         refine jj Y Y Y Y Y Y (fun _ _ => jt Y) (jj Y Y Y Y Y Y (fun _ _ => jt Y) (jj Y Y Y Y Y Y (fun _ _ => jt Y) ?_))
         obtain ⟨t117_1, h70, hm⟩ := bindO hm
         refine jj Y Y Y Y Y Y (fun _ _ => k3 h70 Y Y) ?_
         obtain ⟨t118_1, h71, hm⟩ := bindO hm
         obtain ⟨L_4, h72, h73⟩ := (h19).row h71
         refine jj Y Y Y Y Y Y (fun w _ => yz h72 (runUnderlying41 w) (sizeOf22 w) Y Y (vlen RwH h18 Y) (vne h18)) (jO Y Y Y Y Y Y (fun w hh => kK RwH 0 h72 (isAgg22 w) Y (hh.vseg 1 Y h18) Y (Nat.add_zero _).symm) (jj Y Y Y Y Y Y (fun _ _ => jt Y) ?_))
         obtain ⟨t121_1, h74, hm⟩ := bindO hm
         refine jj Y Y Y Y Y Y (fun w _ => yz h74 (runUnderlying22 w) (sizeOf3 w) Y Y (vlen RI h73 Y) (vne h73)) (jO Y Y Y Y Y Y (fun w hh => kK RI 0 h74 (isAgg3 w) Y (hh.dseg 1 Y h71 h72 h73) Y (Nat.add_zero _).symm) ?_)
         obtain ⟨t123_1, h75, hm⟩ := bindO hm
         refine jj Y Y Y Y Y Y (fun _ _ => k3 h75 Y Y) (jj Y Y Y Y Y Y (fun _ _ => jt Y) (jj Y Y Y Y Y Y (fun _ _ => jt Y) ?_))
         obtain ⟨t126_1, h76, hm⟩ := bindO hm
         refine jj Y Y Y Y Y Y (fun _ _ => k3 h76 Y Y) ?_
         obtain ⟨t127_1, h77, hm⟩ := bindO hm
         obtain ⟨L_5, h78, h79⟩ := (h19).row h77
         refine jj Y Y Y Y Y Y (fun w _ => yz h78 (runUnderlying41 w) (sizeOf22 w) Y Y (vlen RwH h18 Y) (vne h18)) (jO Y Y Y Y Y Y (fun w hh => kK RwH 0 h78 (isAgg22 w) Y (hh.vseg 1 Y h18) Y (Nat.add_zero _).symm) (jj Y Y Y Y Y Y (fun _ _ => jt Y) ?_))
         obtain ⟨t130_1, h80, hm⟩ := bindO hm
         refine jj Y Y Y Y Y Y (fun w _ => yz h80 (runUnderlying22 w) (sizeOf3 w) Y Y (vlen RI h79 Y) (vne h79)) (jO Y Y Y Y Y Y (fun w hh => kK RI 0 h80 (isAgg3 w) Y (hh.dseg 1 Y h77 h78 h79) Y (Nat.add_zero _).symm) (jj Y Y Y Y Y Y (fun _ _ => jt Y) ?_))
         obtain ⟨t133_1, h81, hm⟩ := bindO hm
         refine jj Y Y Y Y Y Y (fun _ _ => k3 h81 Y Y) (jj Y Y Y Y Y Y (fun _ _ => YL Y Y) (jO Y Y Y Y Y Y (fun w hh => jJ (vs := [_, _, _, _, _]) (isAgg26 w) (sizeOf26 w) Y (hh.cells 2 Y Y)) (jj Y Y Y Y Y Y (fun _ _ => jt Y) (jj Y Y Y Y Y Y (fun _ _ => jt Y) ?_))))
         obtain ⟨t138_1, h82, hm⟩ := bindO hm
         refine jj Y Y Y Y Y Y (fun _ _ => k3 h82 Y Y) ?_
         obtain ⟨t139_1, h83, hm⟩ := bindO hm
         obtain ⟨L_6, h84, h85⟩ := (h19).row h83
         refine jj Y Y Y Y Y Y (fun w _ => yz h84 (runUnderlying41 w) (sizeOf22 w) Y Y (vlen RwH h18 Y) (vne h18)) (jO Y Y Y Y Y Y (fun w hh => kK RwH 0 h84 (isAgg22 w) Y (hh.vseg 1 Y h18) Y (Nat.add_zero _).symm) (jj Y Y Y Y Y Y (fun _ _ => jt Y) ?_))
         obtain ⟨t142_1, h86, hm⟩ := bindO hm
         refine jj Y Y Y Y Y Y (fun w _ => yz h86 (runUnderlying22 w) (sizeOf3 w) Y Y (vlen RI h85 Y) (vne h85)) (jO Y Y Y Y Y Y (fun w hh => kK RI 0 h86 (isAgg3 w) Y (hh.dseg 1 Y h83 h84 h85) Y (Nat.add_zero _).symm) (jF Y (jb Y Y ?_)))
         obtain ⟨t144_1, h87, hm⟩ := bindO hm
         refine jd [] [] Y Y Y Y Y Y Y call63 (fun w hh => yl (⟨t30.r0.cells, t30.r0.tides, t30.r0.fords, t30.r0.sands, t36.r0⟩ : Channel) t142_1 (qA l_1.1.q) l_1.1.n l_1.1.cap (qA l_1.2.1.q) l_1.2.1.n l_1.2.1.cap (qA l_2.q) l_2.n l_2.cap w (HV.callee (S0 := []) (vs0 := []) hh (roC (hh.vsepA 2 Y h5) (roC (hh.vsepA 3 Y h6) (roC (hh.vsepA 4 Y h13) roN)))) (vlen RI h5 Y) (AOK.q (vne h5)) (h5).hle (vlen RSa h6 Y) (AOK.q (vne h6)) (h6).hle (vlen RSi h13 Y) (AOK.q (vne h13)) (h13).hle h87) (fun l_10 h88 => ?_)
         refine jo (fun w hh => hh) (jj Y Y Y Y Y Y (fun _ _ => QE Y Y) (jj Y Y Y Y Y Y (fun _ _ => q7 Y Y) (jn Y Y Y Y (fun _ _ => qf Y Y) (jL ?_))))
         obtain rfl := sj hm
         exact jm () (trivial) (sE Y) (fun w hh => hh)
        replace hm := ifE h69 hm
        refine jh Y Y Y Y Y Y Y (jh Y Y Y Y Y Y Y (jh Y Y Y Y Y Y Y (jh Y Y Y Y Y Y Y (jh Y Y Y Y Y Y Y (kU Y Y Y Y Y Y Y (jh Y Y Y Y Y Y Y (jh Y Y Y Y Y Y Y ?_)))))))
        refine kU Y Y Y Y Y Y Y (jh Y Y Y Y Y Y Y (jh Y Y Y Y Y Y Y (jh Y Y Y Y Y Y Y (jh Y Y Y Y Y Y Y (jh Y Y Y Y Y Y Y (kU Y Y Y Y Y Y Y (jh Y Y Y Y Y Y Y ?_)))))))
        refine jh Y Y Y Y Y Y Y (kU Y Y Y Y Y Y Y (jh Y Y Y Y Y Y Y (jh Y Y Y Y Y Y Y (jh Y Y Y Y Y Y Y (kU Y Y Y Y Y Y Y (jh Y Y Y Y Y Y Y (jh Y Y Y Y Y Y Y ?_)))))))
        refine jh Y Y Y Y Y Y Y (jh Y Y Y Y Y Y Y (kU Y Y Y Y Y Y Y (jh Y Y Y Y Y Y Y (jh Y Y Y Y Y Y Y (kU Y Y Y Y Y Y Y (jF Y (g_k Y Y Y Y ?_)))))))
        refine jo (fun w hh => hh) (jh Y Y Y Y Y Y Y (jj Y Y Y Y Y Y (fun _ _ => qf Y Y) (jn Y Y Y Y (fun _ _ => qf Y Y) (jL ?_))))
        obtain rfl := sj hm
        exact jm () (trivial) (sE Y) (fun w hh => hh)
       replace hm := ifE h42 hm
       refine jh Y Y Y Y Y Y Y (jh Y Y Y Y Y Y Y (jh Y Y Y Y Y Y Y (jh Y Y Y Y Y Y Y (jh Y Y Y Y Y Y Y (kU Y Y Y Y Y Y Y (jh Y Y Y Y Y Y Y (jj Y Y Y Y Y Y (fun _ _ => qf Y Y) ?_)))))))
       refine jn Y Y Y Y (fun _ _ => qf Y Y) (yJ Y Y Y (jj Y Y Y Y Y Y (fun _ _ => jt Y) (jj Y Y Y Y Y Y (fun _ _ => Je Y Y) (jj Y Y Y Y Y Y (fun _ _ => jt Y) ?_))))
       refine jK 100 Y (fun h89 => ?_) (fun h89 => ?_)
       ·replace hm := ifD h89 hm
        refine jj Y Y Y Y Y Y (fun _ _ => jt Y) (jj Y Y Y Y Y Y (fun w _ => jT 2 (runUnderlying26 w) Y (sizeOf22 w) Y) (jO Y Y Y Y Y Y (fun w hh => jH (isAgg22 w) Y (hh.cell 2 Y Y)) (jj Y Y Y Y Y Y (fun _ _ => jt Y) ?_)))
        obtain ⟨t105_1, h90, hm⟩ := bindO hm
        refine jj Y Y Y Y Y Y (fun w _ => yz h90 (runUnderlying22 w) (sizeOf3 w) Y Y (vlen RI h5 Y) (vne h5)) (jO Y Y Y Y Y Y (fun w hh => kK RI 0 h90 (isAgg3 w) Y (hh.vseg 2 Y h5) Y (Nat.add_zero _).symm) (jj Y Y Y Y Y Y (fun _ _ => JL Y Y) (jj Y Y Y Y Y Y (fun _ _ => q7 Y Y) (jn Y Y Y Y (fun _ _ => qf Y Y) (yJ Y Y Y ?_)))))
        refine jK 110 Y (fun h91 => ?_) (fun h91 => ?_)
        ·replace hm := ifF (of_ndec_true h91) hm
         refine jh Y Y Y Y Y Y Y (jh Y Y Y Y Y Y Y (jh Y Y Y Y Y Y Y (je Y Y Y Y Y Y (je Y Y Y Y Y Y (je Y Y Y Y Y Y (je Y Y Y Y Y Y (je Y Y Y Y Y Y ?_)))))))
         refine jN Y Y Y Y Y Y (je Y Y Y Y Y Y (je Y Y Y Y Y Y (jN Y Y Y Y Y Y (je Y Y Y Y Y Y (je Y Y Y Y Y Y (je Y Y Y Y Y Y (je Y Y Y Y Y Y ?_)))))))
         refine je Y Y Y Y Y Y (jN Y Y Y Y Y Y (je Y Y Y Y Y Y (je Y Y Y Y Y Y (jN Y Y Y Y Y Y (je Y Y Y Y Y Y (je Y Y Y Y Y Y (je Y Y Y Y Y Y ?_)))))))
         refine jN Y Y Y Y Y Y (je Y Y Y Y Y Y (je Y Y Y Y Y Y (je Y Y Y Y Y Y (je Y Y Y Y Y Y (jN Y Y Y Y Y Y (je Y Y Y Y Y Y (je Y Y Y Y Y Y ?_)))))))
         refine jN Y Y Y Y Y Y (jF Y ?_)
         refine jC Y Y Y Y Y ?_
         refine jo (fun w hh => hh) (je Y Y Y Y Y Y (jh Y Y Y Y Y Y Y (jn Y Y Y Y (fun _ _ => q7 Y Y) (jL ?_))))
         obtain rfl := sj hm
         exact jm () (trivial) (sE Y) (fun w hh => hh)
        replace hm := ifT (of_ndec_false h91) hm
        refine jj Y Y Y Y Y Y (fun _ _ => jt Y) (jj Y Y Y Y Y Y (fun _ _ => QE Y Y) (jj Y Y Y Y Y Y (fun _ _ => jt Y) ?_))
        refine jK 113 Y (fun h92 => ?_) (fun h92 => ?_)
        ·replace hm := ifD h92 hm
         refine jj Y Y Y Y Y Y (fun _ _ => jt Y) (jj Y Y Y Y Y Y (fun _ _ => jt Y) (jj Y Y Y Y Y Y (fun _ _ => jt Y) ?_))
         obtain ⟨t117_2, h93, hm⟩ := bindO hm
         refine jj Y Y Y Y Y Y (fun _ _ => k3 h93 Y Y) ?_
         obtain ⟨t118_2, h94, hm⟩ := bindO hm
         obtain ⟨L_7, h95, h96⟩ := (h19).row h94
         refine jj Y Y Y Y Y Y (fun w _ => yz h95 (runUnderlying41 w) (sizeOf22 w) Y Y (vlen RwH h18 Y) (vne h18)) (jO Y Y Y Y Y Y (fun w hh => kK RwH 0 h95 (isAgg22 w) Y (hh.vseg 1 Y h18) Y (Nat.add_zero _).symm) (jj Y Y Y Y Y Y (fun _ _ => jt Y) ?_))
         obtain ⟨t121_2, h97, hm⟩ := bindO hm
         refine jj Y Y Y Y Y Y (fun w _ => yz h97 (runUnderlying22 w) (sizeOf3 w) Y Y (vlen RI h96 Y) (vne h96)) (jO Y Y Y Y Y Y (fun w hh => kK RI 0 h97 (isAgg3 w) Y (hh.dseg 1 Y h94 h95 h96) Y (Nat.add_zero _).symm) ?_)
         obtain ⟨t123_2, h98, hm⟩ := bindO hm
         refine jj Y Y Y Y Y Y (fun _ _ => k3 h98 Y Y) (jj Y Y Y Y Y Y (fun _ _ => jt Y) (jj Y Y Y Y Y Y (fun _ _ => jt Y) ?_))
         obtain ⟨t126_2, h99, hm⟩ := bindO hm
         refine jj Y Y Y Y Y Y (fun _ _ => k3 h99 Y Y) ?_
         obtain ⟨t127_2, h100, hm⟩ := bindO hm
         obtain ⟨L_8, h101, h102⟩ := (h19).row h100
         refine jj Y Y Y Y Y Y (fun w _ => yz h101 (runUnderlying41 w) (sizeOf22 w) Y Y (vlen RwH h18 Y) (vne h18)) (jO Y Y Y Y Y Y (fun w hh => kK RwH 0 h101 (isAgg22 w) Y (hh.vseg 1 Y h18) Y (Nat.add_zero _).symm) (jj Y Y Y Y Y Y (fun _ _ => jt Y) ?_))
         obtain ⟨t130_2, h103, hm⟩ := bindO hm
         refine jj Y Y Y Y Y Y (fun w _ => yz h103 (runUnderlying22 w) (sizeOf3 w) Y Y (vlen RI h102 Y) (vne h102)) (jO Y Y Y Y Y Y (fun w hh => kK RI 0 h103 (isAgg3 w) Y (hh.dseg 1 Y h100 h101 h102) Y (Nat.add_zero _).symm) (jj Y Y Y Y Y Y (fun _ _ => jt Y) ?_))
         obtain ⟨t133_2, h104, hm⟩ := bindO hm
         refine jj Y Y Y Y Y Y (fun _ _ => k3 h104 Y Y) (jj Y Y Y Y Y Y (fun _ _ => YL Y Y) (jO Y Y Y Y Y Y (fun w hh => jJ (vs := [_, _, _, _, _]) (isAgg26 w) (sizeOf26 w) Y (hh.cells 2 Y Y)) (jj Y Y Y Y Y Y (fun _ _ => jt Y) (jj Y Y Y Y Y Y (fun _ _ => jt Y) ?_))))
         obtain ⟨t138_2, h105, hm⟩ := bindO hm
         refine jj Y Y Y Y Y Y (fun _ _ => k3 h105 Y Y) ?_
         obtain ⟨t139_2, h106, hm⟩ := bindO hm
         obtain ⟨L_9, h107, h108⟩ := (h19).row h106
         refine jj Y Y Y Y Y Y (fun w _ => yz h107 (runUnderlying41 w) (sizeOf22 w) Y Y (vlen RwH h18 Y) (vne h18)) (jO Y Y Y Y Y Y (fun w hh => kK RwH 0 h107 (isAgg22 w) Y (hh.vseg 1 Y h18) Y (Nat.add_zero _).symm) (jj Y Y Y Y Y Y (fun _ _ => jt Y) ?_))
         obtain ⟨t142_2, h109, hm⟩ := bindO hm
         refine jj Y Y Y Y Y Y (fun w _ => yz h109 (runUnderlying22 w) (sizeOf3 w) Y Y (vlen RI h108 Y) (vne h108)) (jO Y Y Y Y Y Y (fun w hh => kK RI 0 h109 (isAgg3 w) Y (hh.dseg 1 Y h106 h107 h108) Y (Nat.add_zero _).symm) (jF Y (jb Y Y ?_)))
         obtain ⟨t144_2, h110, hm⟩ := bindO hm
         refine jd [] [] Y Y Y Y Y Y Y call63 (fun w hh => yl (⟨t30.r0.cells, t30.r0.tides, t30.r0.fords, t30.r0.sands, t36.r0⟩ : Channel) t142_2 (qA l_1.1.q) l_1.1.n l_1.1.cap (qA l_1.2.1.q) l_1.2.1.n l_1.2.1.cap (qA l_2.q) l_2.n l_2.cap w (HV.callee (S0 := []) (vs0 := []) hh (roC (hh.vsepA 2 Y h5) (roC (hh.vsepA 3 Y h6) (roC (hh.vsepA 4 Y h13) roN)))) (vlen RI h5 Y) (AOK.q (vne h5)) (h5).hle (vlen RSa h6 Y) (AOK.q (vne h6)) (h6).hle (vlen RSi h13 Y) (AOK.q (vne h13)) (h13).hle h110) (fun l_11 h111 => ?_)
         refine jo (fun w hh => hh) (jj Y Y Y Y Y Y (fun _ _ => QE Y Y) (jj Y Y Y Y Y Y (fun _ _ => q7 Y Y) (jn Y Y Y Y (fun _ _ => qf Y Y) (jL ?_))))
         obtain rfl := sj hm
         exact jm () (trivial) (sE Y) (fun w hh => hh)
        replace hm := ifE h92 hm
        refine jh Y Y Y Y Y Y Y (jh Y Y Y Y Y Y Y (jh Y Y Y Y Y Y Y (jh Y Y Y Y Y Y Y (jh Y Y Y Y Y Y Y (kU Y Y Y Y Y Y Y (jh Y Y Y Y Y Y Y (jh Y Y Y Y Y Y Y ?_)))))))
        refine kU Y Y Y Y Y Y Y (jh Y Y Y Y Y Y Y (jh Y Y Y Y Y Y Y (jh Y Y Y Y Y Y Y (jh Y Y Y Y Y Y Y (jh Y Y Y Y Y Y Y (kU Y Y Y Y Y Y Y (jh Y Y Y Y Y Y Y ?_)))))))
        refine jh Y Y Y Y Y Y Y (kU Y Y Y Y Y Y Y (jh Y Y Y Y Y Y Y (jh Y Y Y Y Y Y Y (jh Y Y Y Y Y Y Y (kU Y Y Y Y Y Y Y (jh Y Y Y Y Y Y Y (jh Y Y Y Y Y Y Y ?_)))))))
        refine jh Y Y Y Y Y Y Y (jh Y Y Y Y Y Y Y (kU Y Y Y Y Y Y Y (jh Y Y Y Y Y Y Y (jh Y Y Y Y Y Y Y (kU Y Y Y Y Y Y Y (jF Y (g_k Y Y Y Y ?_)))))))
        refine jo (fun w hh => hh) (jh Y Y Y Y Y Y Y (jj Y Y Y Y Y Y (fun _ _ => qf Y Y) (jn Y Y Y Y (fun _ _ => qf Y Y) (jL ?_))))
        obtain rfl := sj hm
        exact jm () (trivial) (sE Y) (fun w hh => hh)
       replace hm := ifE h89 hm
       refine jh Y Y Y Y Y Y Y (jh Y Y Y Y Y Y Y (kU Y Y Y Y Y Y Y (jh Y Y Y Y Y Y Y (jh Y Y Y Y Y Y Y (kU Y Y Y Y Y Y Y (jh Y Y Y Y Y Y Y (jj Y Y Y Y Y Y (fun _ _ => qf Y Y) ?_)))))))
       refine jn Y Y Y Y (fun _ _ => qf Y Y) (yJ Y Y Y (jj Y Y Y Y Y Y (fun _ _ => jt Y) (jj Y Y Y Y Y Y (fun _ _ => QE Y Y) (jj Y Y Y Y Y Y (fun _ _ => jt Y) ?_))))
       refine jK 113 Y (fun h112 => ?_) (fun h112 => ?_)
       ·replace hm := ifD h112 hm
        refine jj Y Y Y Y Y Y (fun _ _ => jt Y) (jj Y Y Y Y Y Y (fun _ _ => jt Y) (jj Y Y Y Y Y Y (fun _ _ => jt Y) ?_))
        obtain ⟨t117_3, h113, hm⟩ := bindO hm
        refine jj Y Y Y Y Y Y (fun _ _ => k3 h113 Y Y) ?_
        obtain ⟨t118_3, h114, hm⟩ := bindO hm
        obtain ⟨L_10, h115, h116⟩ := (h19).row h114
        refine jj Y Y Y Y Y Y (fun w _ => yz h115 (runUnderlying41 w) (sizeOf22 w) Y Y (vlen RwH h18 Y) (vne h18)) (jO Y Y Y Y Y Y (fun w hh => kK RwH 0 h115 (isAgg22 w) Y (hh.vseg 1 Y h18) Y (Nat.add_zero _).symm) (jj Y Y Y Y Y Y (fun _ _ => jt Y) ?_))
        obtain ⟨t121_3, h117, hm⟩ := bindO hm
        refine jj Y Y Y Y Y Y (fun w _ => yz h117 (runUnderlying22 w) (sizeOf3 w) Y Y (vlen RI h116 Y) (vne h116)) (jO Y Y Y Y Y Y (fun w hh => kK RI 0 h117 (isAgg3 w) Y (hh.dseg 1 Y h114 h115 h116) Y (Nat.add_zero _).symm) ?_)
        obtain ⟨t123_3, h118, hm⟩ := bindO hm
        refine jj Y Y Y Y Y Y (fun _ _ => k3 h118 Y Y) (jj Y Y Y Y Y Y (fun _ _ => jt Y) (jj Y Y Y Y Y Y (fun _ _ => jt Y) ?_))
        obtain ⟨t126_3, h119, hm⟩ := bindO hm
        refine jj Y Y Y Y Y Y (fun _ _ => k3 h119 Y Y) ?_
        obtain ⟨t127_3, h120, hm⟩ := bindO hm
        obtain ⟨L_11, h121, h122⟩ := (h19).row h120
        refine jj Y Y Y Y Y Y (fun w _ => yz h121 (runUnderlying41 w) (sizeOf22 w) Y Y (vlen RwH h18 Y) (vne h18)) (jO Y Y Y Y Y Y (fun w hh => kK RwH 0 h121 (isAgg22 w) Y (hh.vseg 1 Y h18) Y (Nat.add_zero _).symm) (jj Y Y Y Y Y Y (fun _ _ => jt Y) ?_))
        obtain ⟨t130_3, h123, hm⟩ := bindO hm
        refine jj Y Y Y Y Y Y (fun w _ => yz h123 (runUnderlying22 w) (sizeOf3 w) Y Y (vlen RI h122 Y) (vne h122)) (jO Y Y Y Y Y Y (fun w hh => kK RI 0 h123 (isAgg3 w) Y (hh.dseg 1 Y h120 h121 h122) Y (Nat.add_zero _).symm) (jj Y Y Y Y Y Y (fun _ _ => jt Y) ?_))
        obtain ⟨t133_3, h124, hm⟩ := bindO hm
        refine jj Y Y Y Y Y Y (fun _ _ => k3 h124 Y Y) (jj Y Y Y Y Y Y (fun _ _ => YL Y Y) (jO Y Y Y Y Y Y (fun w hh => jJ (vs := [_, _, _, _, _]) (isAgg26 w) (sizeOf26 w) Y (hh.cells 2 Y Y)) (jj Y Y Y Y Y Y (fun _ _ => jt Y) (jj Y Y Y Y Y Y (fun _ _ => jt Y) ?_))))
        obtain ⟨t138_3, h125, hm⟩ := bindO hm
        refine jj Y Y Y Y Y Y (fun _ _ => k3 h125 Y Y) ?_
        obtain ⟨t139_3, h126, hm⟩ := bindO hm
        obtain ⟨L_12, h127, h128⟩ := (h19).row h126
        refine jj Y Y Y Y Y Y (fun w _ => yz h127 (runUnderlying41 w) (sizeOf22 w) Y Y (vlen RwH h18 Y) (vne h18)) (jO Y Y Y Y Y Y (fun w hh => kK RwH 0 h127 (isAgg22 w) Y (hh.vseg 1 Y h18) Y (Nat.add_zero _).symm) (jj Y Y Y Y Y Y (fun _ _ => jt Y) ?_))
        obtain ⟨t142_3, h129, hm⟩ := bindO hm
        refine jj Y Y Y Y Y Y (fun w _ => yz h129 (runUnderlying22 w) (sizeOf3 w) Y Y (vlen RI h128 Y) (vne h128)) (jO Y Y Y Y Y Y (fun w hh => kK RI 0 h129 (isAgg3 w) Y (hh.dseg 1 Y h126 h127 h128) Y (Nat.add_zero _).symm) (jF Y (jb Y Y ?_)))
        obtain ⟨t144_3, h130, hm⟩ := bindO hm
        refine jd [] [] Y Y Y Y Y Y Y call63 (fun w hh => yl (⟨t30.r0.cells, t30.r0.tides, t30.r0.fords, t30.r0.sands, t36.r0⟩ : Channel) t142_3 (qA l_1.1.q) l_1.1.n l_1.1.cap (qA l_1.2.1.q) l_1.2.1.n l_1.2.1.cap (qA l_2.q) l_2.n l_2.cap w (HV.callee (S0 := []) (vs0 := []) hh (roC (hh.vsepA 2 Y h5) (roC (hh.vsepA 3 Y h6) (roC (hh.vsepA 4 Y h13) roN)))) (vlen RI h5 Y) (AOK.q (vne h5)) (h5).hle (vlen RSa h6 Y) (AOK.q (vne h6)) (h6).hle (vlen RSi h13 Y) (AOK.q (vne h13)) (h13).hle h130) (fun l_12 h131 => ?_)
        refine jo (fun w hh => hh) (jj Y Y Y Y Y Y (fun _ _ => QE Y Y) (jj Y Y Y Y Y Y (fun _ _ => q7 Y Y) (jn Y Y Y Y (fun _ _ => qf Y Y) (jL ?_))))
        obtain rfl := sj hm
        exact jm () (trivial) (sE Y) (fun w hh => hh)
       replace hm := ifE h112 hm
       refine jh Y Y Y Y Y Y Y (jh Y Y Y Y Y Y Y (jh Y Y Y Y Y Y Y (jh Y Y Y Y Y Y Y (jh Y Y Y Y Y Y Y (kU Y Y Y Y Y Y Y (jh Y Y Y Y Y Y Y (jh Y Y Y Y Y Y Y ?_)))))))
       refine kU Y Y Y Y Y Y Y (jh Y Y Y Y Y Y Y (jh Y Y Y Y Y Y Y (jh Y Y Y Y Y Y Y (jh Y Y Y Y Y Y Y (jh Y Y Y Y Y Y Y (kU Y Y Y Y Y Y Y (jh Y Y Y Y Y Y Y ?_)))))))
       refine jh Y Y Y Y Y Y Y (kU Y Y Y Y Y Y Y (jh Y Y Y Y Y Y Y (jh Y Y Y Y Y Y Y (jh Y Y Y Y Y Y Y (kU Y Y Y Y Y Y Y (jh Y Y Y Y Y Y Y (jh Y Y Y Y Y Y Y ?_)))))))
       refine jh Y Y Y Y Y Y Y (jh Y Y Y Y Y Y Y (kU Y Y Y Y Y Y Y (jh Y Y Y Y Y Y Y (jh Y Y Y Y Y Y Y (kU Y Y Y Y Y Y Y (jF Y (g_k Y Y Y Y ?_)))))))
       refine jo (fun w hh => hh) (jh Y Y Y Y Y Y Y (jj Y Y Y Y Y Y (fun _ _ => qf Y Y) (jn Y Y Y Y (fun _ _ => qf Y Y) (jL ?_))))
       obtain rfl := sj hm
       exact jm () (trivial) (sE Y) (fun w hh => hh)
      intro l_8 hj
      replace hm := h39
      refine ja ?_
      refine jz Y (fun h132 => ?_) (fun h132 => ?_)
      ·replace hm := ifT (h132) hm
       refine jw (jr Y Y (ju (jB (jG (ji (ji (jG ?_)))))))
       obtain rfl := sj hm
       have hbo := h35 _ Y
       subst hbo
       refine ji ?_
       replace hm := ocR h34
       refine jG (ji (ji (jG ?_)))
       obtain rfl := sj hm
       have hbo := h27 _ Y
       subst hbo
       refine ji ?_
       replace hm := ocR h26
       refine ji ?_
       obtain rfl := sj hm
       refine jq Y (fun w hh => (.tmp Y .nil)) (fun w hh => ⟨(), rfl, trivial, hh.se [] [] 2 Y Y Y rfl⟩)
      replace hm := ifN h132 hm
      refine jx (jA (ja (jg ?_)))
      obtain ⟨t148, h133, hm⟩ := bindO hm
      refine Kl h133 Y Y Y (jk Y Y (jv ?_))
      obtain rfl := sj hm
      refine ja ?_
      exact jM _ () Y (trivial) (sE Y) (fun w hh => hh)
     replace hm := ifE h36 hm
     refine kz (jp (jp (jP ?_)))
     obtain rfl := sj hm
     have hbo := h35 _ Y
     subst hbo
     exact jm () (Y) (sE Y) (fun w hh => hh)
    intro j_1 hj
    have h134 := hj
    subst h134
    replace hm := ocL h34
    refine jA (ja (jg ?_))
    obtain ⟨t149, h135, hm⟩ := bindO hm
    refine Kl h135 Y Y Y (jk Y Y (jv ?_))
    obtain rfl := sj hm
    refine ja ?_
    exact jM _ () Y (trivial) (sE Y) (fun w hh => hh)
   replace hm := ifE h28 hm
   refine kz (jp (jp (jP ?_)))
   obtain rfl := sj hm
   have hbo := h27 _ Y
   subst hbo
   exact jm () (Y) (sE Y) (fun w hh => hh)
  intro j hj
  have h136 := hj
  subst h136
  replace hm := ocL h26
  refine ja (jw (jk Y Y ?_))
  obtain ⟨t152, h137, hm⟩ := bindO hm
  refine jd [] [] Y Y Y Y Y Y Y call80 (fun w hh => Kd t42.r0 (qA l_4.v.q) l_4.v.n l_4.v.cap (toAL l_4.rs) w (HV.callee (S0 := []) (vs0 := []) hh (roC (hh.vsepD 1 Y h18) roN)) (Eq.trans (h19).len (vlen RwH h18 Y)) (AOK.q (vne h18)) (h18).hle ((h19).toDRO Y) (hh.dsepT 1 Y h19) h137) (fun l_13 h138 => ?_)
  refine jk Y Y (zx Y Y Y (zx Y Y Y (jr Y Y (jr Y Y (ql (yy 2 runUnderlying26 Y sizeOf22 Y Y (qN 2 isAgg22 Y Y Y Y ?_)))))))
  refine qc (S' := [_, _, _]) (vs' := [_, _, _, _, _]) [0, 1, 2] [2, 0, 1, 3, 4] 0 Y Y Y Y (jar RI h5 ?_)
  refine qD RwA [(⟨qA l_1.1.q, l_1.1.n, l_1.1.cap⟩ : AL)] (ps := [(0, _)]) (cells := [_]) (fun w => runUnderlying41 w) (fun w => sizeOf22 w) (fun w => zeroValue22 w) Y Y Y Y Y Y Y Y (fun L_13 h139 => ?_)
  refine yy 1 runUnderlying26 Y sizeOf3 Y Y (qN 2 isAgg3 Y Y Y Y ?_)
  obtain ⟨t160, h140, hm⟩ := bindO hm
  refine Kl h140 Y Y Y ?_
  obtain ⟨h141, hm⟩ := ifO hm
  refine jd [] [] Y Y Y Y Y Y Y call81 (fun w hh => jaO (⟨qA l_1.1.q, l_1.1.n, l_1.1.cap⟩ : AL) (qA L_13.q) L_13.n L_13.cap w (HV.callee (S0 := []) (vs0 := []) hh (roC (hh.vsepA 0 Y h139) roN)) (vlen RwA h139 Y) (AOK.q (vne h139)) (h139).hle h141) (fun L_14 h142 => ?_)
  refine qc (S' := [_, _, _]) (vs' := [_, _, _, _, _, _]) [0, 1, 2] [0, 1, 2, 3, 4, 5] 0 Y Y Y Y (jaP RwA h142 (jr Y Y (ju (jl (jl ?_)))))
  obtain ⟨o_4, h143, h144⟩ := bindO hm
  refine jW (ι := Unit) (fun l_14 => True) (fun l_14 => [(6, ptr b 0), (7, sL l_1.2.2.2.v), (8, ptr l_3 0), (9, sL l_4.v), (10, .int .i64 t42.r1), (178, .bool o_4)]) (fun l_14 => [kc l_3 #[.slice qa1 na1 ca1, .int .i64 t39.t5_1, .int .u32 t39.t5_2] 199, kc l #[.slice qa0 na0 ca0, .int .i64 t36.b0_1, .int .u32 t36.b0_2] 199, kc b #[.int .i64 t30.r0.cells, .int .i64 t30.r0.tides, sL l_1.1, sL l_1.2.1, sL l_2] 26]) (fun l_14 => [⟨22, RwH.enc l_1.2.2.2.rs, l_1.2.2.2.v.sp, l_1.2.2.2.v.q, dbl 3 RI t30.r1 l_1.2.2.2.rs⟩, ⟨22, RwH.enc l_4.rs, l_4.v.sp, l_4.v.q, dbl 3 RI t42.r0 l_4.rs⟩, vL 98 l_1.2.1 (RSa.enc t30.r0.sands), vL 55 l_2 (RSi.enc t36.r0)]) ?_ ?_
  ·replace hm := h143
   refine jg (Jh [_, _, _, _, _] 2 isAgg26 sizeOf26 Y Y Y Y (jk Y Y ?_))
   obtain ⟨t164, h145, hm⟩ := bindO hm
   refine jd [] [] Y Y Y Y Y Y Y call79 (fun w hh => Jc (⟨t30.r0.cells, t30.r0.tides, t30.r0.fords, t30.r0.sands, t36.r0⟩ : Channel) t42.r0 (qA l_1.1.q) l_1.1.n l_1.1.cap (qA l_1.2.1.q) l_1.2.1.n l_1.2.1.cap (qA l_2.q) l_2.n l_2.cap (qA l_4.v.q) l_4.v.n l_4.v.cap (toAL l_4.rs) w (HV.callee (S0 := []) (vs0 := []) hh (roC (sepA (hh.rsep 1 Y)) (roC (hh.vsepA 3 Y h6) (roC (hh.vsepA 4 Y h13) (roC (hh.vsepD 2 Y h18) roN))))) (vlen RI h5 Y) (AOK.q (vne h5)) (h5).hle (vlen RSa h6 Y) (AOK.q (vne h6)) (h6).hle (vlen RSi h13 Y) (AOK.q (vne h13)) (h13).hle (Eq.trans (h19).len (vlen RwH h18 Y)) (AOK.q (vne h18)) (h18).hle ((h19).toDRO Y) (hh.dsepT 2 Y h19) h145) (fun l_15 h146 => ?_)
   refine jc Y Y Y (fun _ _ => zr Y) (jk Y Y ?_)
   refine jK 166 Y (fun h147 => ?_) (fun h147 => ?_)
   ·replace hm := ifT (h147) hm
    refine g_k Y Y Y Y (g_k Y Y Y Y (g_k Y Y Y Y (y8 Y Y Y (jk Y Y (g_k Y Y Y Y (g_k Y Y Y Y (g_k Y Y Y Y ?_)))))))
    refine g_k Y Y Y Y (g_k Y Y Y Y (g_k Y Y Y Y (y8 Y Y Y (jv ?_))))
    obtain rfl := sj hm
    exact jm () (trivial) (sE Y) (hsE [0, 1, 2] [1, 2, 3, 4] 0 Y Y Y Y)
   replace hm := ifN h147 hm
   refine jb Y Y (jk Y Y (jb Y Y (jk Y Y (jb Y Y (jc Y Y Y (fun _ _ => JL Y Y) (yx Y Y Y (jk Y Y ?_)))))))
   refine jK 171 Y (fun h148 => ?_) (fun h148 => ?_)
   ·replace hm := ifF (of_ndec_true h148) hm
    refine g_k Y Y Y Y (g_k Y Y Y Y (g_k Y Y Y Y (g_k Y Y Y Y (g_k Y Y Y Y (g_k Y Y Y Y (y8 Y Y Y (jv ?_)))))))
    obtain rfl := sj hm
    exact jm () (trivial) (sE Y) (hsE [0, 1, 2] [1, 2, 3, 4] 0 Y Y Y Y)
   replace hm := ifT (of_ndec_false h148) hm
   refine jb Y Y (jk Y Y (jb Y Y (jc Y Y Y (fun _ _ => Je Y Y) (jb Y Y (Jh [_, _, _, _, _] 2 isAgg26 sizeOf26 Y Y Y Y (jb Y Y (jk Y Y ?_)))))))
   refine jb Y Y ?_
   obtain ⟨t176, h149, hm⟩ := bindO hm
   refine jd [] [] Y Y Y Y Y Y Y call79 (fun w hh => Jc (⟨t30.r0.cells, t30.r0.tides, t30.r0.fords, t30.r0.sands, t36.r0⟩ : Channel) (List.replicate (Int.toNat t160) t30.r0.fords) (qA l_1.1.q) l_1.1.n l_1.1.cap (qA l_1.2.1.q) l_1.2.1.n l_1.2.1.cap (qA l_2.q) l_2.n l_2.cap (qA L_14.q) L_14.n L_14.cap (List.replicate (Int.toNat t160) (⟨qA l_1.1.q, l_1.1.n, l_1.1.cap⟩ : AL)) w (HV.callee (S0 := []) (vs0 := []) hh (roC (sepA (hh.rsep 1 Y)) (roC (hh.vsepA 3 Y h6) (roC (hh.vsepA 4 Y h13) (roR hh 0 Y roN))))) (vlen RI h5 Y) (AOK.q (vne h5)) (h5).hle (vlen RSa h6 Y) (AOK.q (vne h6)) (h6).hle (vlen RSi h13 Y) (AOK.q (vne h13)) (h13).hle (Eq.trans (rep_len _ _ _) (vlen RwA h142 Y)) (AOK.q (vne h142)) (h142).hle (DRO.rep (Int.toNat t160) (A := (⟨qA l_1.1.q, l_1.1.n, l_1.1.cap⟩ : AL)) (vlen RI h5 Y) (AOK.q (vne h5)) (h5).hle) (hh.rsepT (fun t ht => rsg_repQ 1 Y ht)) h149) (fun l_16 h150 => ?_)
   refine jb Y Y (jc Y Y Y (fun w _ => Zo (runUnderlying4 w) Y Y) (yx Y Y Y (jv ?_)))
   obtain rfl := sj hm
   exact jm () (trivial) (sE Y) (hsE [0, 1, 2] [1, 2, 3, 4] 0 Y Y Y Y)
  intro l_14 hj
  replace hm := h144
  refine ja ?_
  refine jz Y (fun h151 => ?_) (fun h151 => ?_)
  ·replace hm := ifT (h151) hm
   refine jw (jr Y Y (ju (jB (ji ?_))))
   obtain rfl := sj hm
   refine jq Y (fun w hh => (.tmp Y .nil)) (fun w hh => ⟨(), rfl, trivial, hh.se [] [] 4 Y Y Y rfl⟩)
  replace hm := ifN h151 hm
  refine jx (ja (jl (jw (jk Y Y (ju ?_)))))
  obtain ⟨o_5, h152, h153⟩ := bindO hm
  refine jW (ι := qG) (fun j_2 => o_5 = .inl j_2) (fun j_2 => [(6, ptr b 0), (9, sL l_4.v), (10, .int .i64 t42.r1)]) (fun j_2 => [kc l_3 #[.slice qa1 na1 ca1, .int .i64 j_2.t5_1, .int .u32 j_2.t5_2] 199, kc l #[.slice qa0 na0 ca0, .int .i64 t36.b0_1, .int .u32 t36.b0_2] 199, kc b #[.int .i64 t30.r0.cells, .int .i64 t30.r0.tides, sL l_1.1, sL l_1.2.1, sL l_2] 26]) (fun j_2 => [⟨22, RwH.enc l_4.rs, l_4.v.sp, l_4.v.q, dbl 3 RI t42.r0 l_4.rs⟩, vL 98 l_1.2.1 (RSa.enc t30.r0.sands), vL 55 l_2 (RSi.enc t36.r0)]) ?_ ?_
  ·replace hm := h152
   refine js ?_
   refine kb (ι := Unit) hm (fun s_2 l_17 => True) (fun s_2 l_17 => [(6, ptr b 0), (7, sL l_1.2.2.2.v), (8, ptr l_3 0), (9, sL l_4.v), (10, .int .i64 t42.r1), (179, .int .i64 s_2.t179)]) (fun s_2 l_17 => [kc l_3 #[.slice qa1 na1 ca1, .int .i64 s_2.t5_1, .int .u32 s_2.t5_2] 199, kc l #[.slice qa0 na0 ca0, .int .i64 t36.b0_1, .int .u32 t36.b0_2] 199, kc b #[.int .i64 t30.r0.cells, .int .i64 t30.r0.tides, sL l_1.1, sL l_1.2.1, sL l_2] 26]) (fun s_2 l_17 => [⟨22, RwH.enc l_1.2.2.2.rs, l_1.2.2.2.v.sp, l_1.2.2.2.v.q, dbl 3 RI t30.r1 l_1.2.2.2.rs⟩, ⟨22, RwH.enc l_4.rs, l_4.v.sp, l_4.v.q, dbl 3 RI t42.r0 l_4.rs⟩, vL 98 l_1.2.1 (RSa.enc t30.r0.sands), vL 55 l_2 (RSi.enc t36.r0)]) () (trivial) (sE Y) (fun w hh => hh) (fun s_2 l_17 r_3 hpl hm h154 => ?_)
   unfold kP at hm
   refine jw (KD Y Y Y (ju (jl ?_)))
   refine jz Y (fun h155 => ?_) (fun h155 => ?_)
   ·replace hm := ifD h155 hm
    refine jx (ja (jl ?_))
    obtain ⟨o_6, h156, h157⟩ := bindO hm
    refine jW (ι := jU) (fun j_3 => o_6 = .inl j_3) (fun j_3 => [(6, ptr b 0), (7, sL l_1.2.2.2.v), (8, ptr l_3 0), (9, sL l_4.v), (10, .int .i64 t42.r1), (179, .int .i64 s_2.t179)]) (fun j_3 => [kc l_3 #[.slice qa1 na1 ca1, .int .i64 j_3.t5_1, .int .u32 j_3.t5_2] 199, kc l #[.slice qa0 na0 ca0, .int .i64 t36.b0_1, .int .u32 t36.b0_2] 199, kc b #[.int .i64 t30.r0.cells, .int .i64 t30.r0.tides, sL l_1.1, sL l_1.2.1, sL l_2] 26]) (fun j_3 => [⟨22, RwH.enc l_1.2.2.2.rs, l_1.2.2.2.v.sp, l_1.2.2.2.v.q, dbl 3 RI t30.r1 l_1.2.2.2.rs⟩, ⟨22, RwH.enc l_4.rs, l_4.v.sp, l_4.v.q, dbl 3 RI t42.r0 l_4.rs⟩, vL 98 l_1.2.1 (RSa.enc t30.r0.sands), vL 55 l_2 (RSi.enc t36.r0)]) ?_ ?_
    ·replace hm := h156
     refine js (jw (jk Y Y (jr Y Y (ql (jk Y Y (jr Y Y (ju ?_)))))))
     refine jl (jw (jk Y Y (jc Y Y Y (fun _ _ => QE Y Y) (ju ?_))))
     refine jz Y (fun h158 => ?_) (fun h158 => ?_)
     ·replace hm := ifD h158 hm
      refine jg (jk Y Y (Jh [_, _, _, _, _] 2 isAgg26 sizeOf26 Y Y Y Y ?_))
      obtain ⟨t187, h159, hm⟩ := bindO hm
      refine jd [_] [] Y Y Y Y Y Y Y call78 (fun w hh => KF tries1 s_2.t5_1 s_2.t5_2 (⟨t30.r0.cells, t30.r0.tides, t30.r0.fords, t30.r0.sands, t36.r0⟩ : Channel) l_3 qa1 na1 ca1 (qA l_1.1.q) l_1.1.n l_1.1.cap (qA l_1.2.1.q) l_1.2.1.n l_1.2.1.cap (qA l_2.q) l_2.n l_2.cap w (HV.callee (S0 := [_]) (vs0 := []) hh (roR hh 3 Y (roC (sepA (hh.rsep 1 Y)) (roC (hh.vsepA 2 Y h6) (roC (hh.vsepA 3 Y h13) roN))))) hna1 hqa1 hla1 (vlen RI h5 Y) (AOK.q (vne h5)) (h5).hle (vlen RSa h6 Y) (AOK.q (vne h6)) (h6).hle (vlen RSi h13 Y) (AOK.q (vne h13)) (h13).hle h159) (fun l_18 h160 => ?_)
      obtain ⟨h161, h162⟩ := h160
      refine qc (S' := [_, _, _]) (vs' := [_, _, _, _, _]) [0, 1, 2] [0, 1, 2, 3, 4] 0 Y Y Y Y (jr Y Y (ql (jk Y Y ?_)))
      obtain ⟨t190, h163, hm⟩ := bindO hm
      refine jd [] [] Y Y Y Y Y Y Y call80 (fun w hh => Kd t187.r0 (qA l_18.v.q) l_18.v.n l_18.v.cap (toAL l_18.rs) w (HV.callee (S0 := []) (vs0 := []) hh (roC (hh.vsepD 0 Y h161) roN)) (Eq.trans (h162).len (vlen RwH h161 Y)) (AOK.q (vne h161)) (h161).hle ((h162).toDRO Y) (hh.dsepT 0 Y h162) h163) (fun l_19 h164 => ?_)
      refine jk Y Y (zx Y Y Y (zx Y Y Y (jr Y Y (jr Y Y (ju (jl ?_))))))
      obtain ⟨o_7, h165, h166⟩ := bindO hm
      refine jW (ι := Unit) (fun l_20 => True) (fun l_20 => [(6, ptr b 0), (7, sL l_1.2.2.2.v), (8, ptr l_3 0), (9, sL l_4.v), (10, .int .i64 t42.r1), (179, .int .i64 s_2.t179), (200, .bool o_7)]) (fun l_20 => [kc l_3 #[.slice qa1 na1 ca1, .int .i64 t187.b0_1, .int .u32 t187.b0_2] 199, kc l #[.slice qa0 na0 ca0, .int .i64 t36.b0_1, .int .u32 t36.b0_2] 199, kc b #[.int .i64 t30.r0.cells, .int .i64 t30.r0.tides, sL l_1.1, sL l_1.2.1, sL l_2] 26]) (fun l_20 => [⟨22, RwH.enc l_1.2.2.2.rs, l_1.2.2.2.v.sp, l_1.2.2.2.v.q, dbl 3 RI t30.r1 l_1.2.2.2.rs⟩, ⟨22, RwH.enc l_4.rs, l_4.v.sp, l_4.v.q, dbl 3 RI t42.r0 l_4.rs⟩, vL 98 l_1.2.1 (RSa.enc t30.r0.sands), vL 55 l_2 (RSi.enc t36.r0)]) ?_ ?_
      ·replace hm := h165
       refine jg (Jh [_, _, _, _, _] 2 isAgg26 sizeOf26 Y Y Y Y (jk Y Y ?_))
       obtain ⟨t195, h167, hm⟩ := bindO hm
       refine jd [] [] Y Y Y Y Y Y Y call79 (fun w hh => Jc (⟨t30.r0.cells, t30.r0.tides, t30.r0.fords, t30.r0.sands, t36.r0⟩ : Channel) t187.r0 (qA l_1.1.q) l_1.1.n l_1.1.cap (qA l_1.2.1.q) l_1.2.1.n l_1.2.1.cap (qA l_2.q) l_2.n l_2.cap (qA l_18.v.q) l_18.v.n l_18.v.cap (toAL l_18.rs) w (HV.callee (S0 := []) (vs0 := []) hh (roC (sepA (hh.rsep 1 Y)) (roC (hh.vsepA 3 Y h6) (roC (hh.vsepA 4 Y h13) (roC (hh.vsepD 0 Y h161) roN))))) (vlen RI h5 Y) (AOK.q (vne h5)) (h5).hle (vlen RSa h6 Y) (AOK.q (vne h6)) (h6).hle (vlen RSi h13 Y) (AOK.q (vne h13)) (h13).hle (Eq.trans (h162).len (vlen RwH h161 Y)) (AOK.q (vne h161)) (h161).hle ((h162).toDRO Y) (hh.dsepT 0 Y h162) h167) (fun l_21 h168 => ?_)
       refine jk Y Y ?_
       refine jK 196 Y (fun h169 => ?_) (fun h169 => ?_)
       ·replace hm := ifT (h169) hm
        refine jb Y Y (jk Y Y (jb Y Y (jk Y Y (jb Y Y (KD Y Y Y (y8 Y Y Y (jv ?_)))))))
        obtain rfl := sj hm
        exact jm () (trivial) (sE Y) (hsE [0, 1, 2] [1, 2, 3, 4] 0 Y Y Y Y)
       replace hm := ifN h169 hm
       refine g_k Y Y Y Y (g_k Y Y Y Y (g_k Y Y Y Y (yx Y Y Y (jv ?_))))
       obtain rfl := sj hm
       exact jm () (trivial) (sE Y) (hsE [0, 1, 2] [1, 2, 3, 4] 0 Y Y Y Y)
      intro l_20 hj
      replace hm := h166
      refine ja ?_
      refine jz Y (fun h170 => ?_) (fun h170 => ?_)
      ·replace hm := ifT (h170) hm
       refine jw (jr Y Y (ju (jB (jG ?_))))
       obtain rfl := sj hm
       refine ji ?_
       replace hm := ocR h157
       refine ji (ji (jG ?_))
       obtain rfl := sj hm
       have hbo := h154 _ Y
       subst hbo
       refine ji ?_
       replace hm := ocR h153
       refine ji ?_
       obtain rfl := sj hm
       refine jq Y (fun w hh => (.tmp Y .nil)) (fun w hh => ⟨(), rfl, trivial, hh.se [] [] 4 Y Y Y rfl⟩)
      replace hm := ifN h170 hm
      refine jx (jA ?_)
      obtain rfl := sj hm
      exact jm (⟨t187.b0_1, t187.b0_2⟩ : jU) (Y) (sE Y) (fun w hh => hh)
     replace hm := ifE h158 hm
     refine jx (ja (jw (jk Y Y ?_)))
     obtain ⟨t190_1, h171, hm⟩ := bindO hm
     refine jd [] [] Y Y Y Y Y Y Y call80 (fun w hh => Kd t30.r1 (qA l_1.2.2.2.v.q) l_1.2.2.2.v.n l_1.2.2.2.v.cap (toAL l_1.2.2.2.rs) w (HV.callee (S0 := []) (vs0 := []) hh (roC (hh.vsepD 0 Y h8) roN)) (Eq.trans (h9).len (vlen RwH h8 Y)) (AOK.q (vne h8)) (h8).hle ((h9).toDRO Y) (hh.dsepT 0 Y h9) h171) (fun l_22 h172 => ?_)
     refine jk Y Y (zx Y Y Y (zx Y Y Y (jr Y Y (jr Y Y (ju (jl ?_))))))
     obtain ⟨o_8, h173, h174⟩ := bindO hm
     refine jW (ι := Unit) (fun l_23 => True) (fun l_23 => [(6, ptr b 0), (7, sL l_1.2.2.2.v), (8, ptr l_3 0), (9, sL l_4.v), (10, .int .i64 t42.r1), (179, .int .i64 s_2.t179), (200, .bool o_8)]) (fun l_23 => [kc l_3 #[.slice qa1 na1 ca1, .int .i64 s_2.t5_1, .int .u32 s_2.t5_2] 199, kc l #[.slice qa0 na0 ca0, .int .i64 t36.b0_1, .int .u32 t36.b0_2] 199, kc b #[.int .i64 t30.r0.cells, .int .i64 t30.r0.tides, sL l_1.1, sL l_1.2.1, sL l_2] 26]) (fun l_23 => [⟨22, RwH.enc l_1.2.2.2.rs, l_1.2.2.2.v.sp, l_1.2.2.2.v.q, dbl 3 RI t30.r1 l_1.2.2.2.rs⟩, ⟨22, RwH.enc l_4.rs, l_4.v.sp, l_4.v.q, dbl 3 RI t42.r0 l_4.rs⟩, vL 98 l_1.2.1 (RSa.enc t30.r0.sands), vL 55 l_2 (RSi.enc t36.r0)]) ?_ ?_
     ·replace hm := h173
      refine jg (Jh [_, _, _, _, _] 2 isAgg26 sizeOf26 Y Y Y Y (jk Y Y ?_))
      obtain ⟨t195_1, h175, hm⟩ := bindO hm
      refine jd [] [] Y Y Y Y Y Y Y call79 (fun w hh => Jc (⟨t30.r0.cells, t30.r0.tides, t30.r0.fords, t30.r0.sands, t36.r0⟩ : Channel) t30.r1 (qA l_1.1.q) l_1.1.n l_1.1.cap (qA l_1.2.1.q) l_1.2.1.n l_1.2.1.cap (qA l_2.q) l_2.n l_2.cap (qA l_1.2.2.2.v.q) l_1.2.2.2.v.n l_1.2.2.2.v.cap (toAL l_1.2.2.2.rs) w (HV.callee (S0 := []) (vs0 := []) hh (roC (sepA (hh.rsep 1 Y)) (roC (hh.vsepA 2 Y h6) (roC (hh.vsepA 3 Y h13) (roC (hh.vsepD 0 Y h8) roN))))) (vlen RI h5 Y) (AOK.q (vne h5)) (h5).hle (vlen RSa h6 Y) (AOK.q (vne h6)) (h6).hle (vlen RSi h13 Y) (AOK.q (vne h13)) (h13).hle (Eq.trans (h9).len (vlen RwH h8 Y)) (AOK.q (vne h8)) (h8).hle ((h9).toDRO Y) (hh.dsepT 0 Y h9) h175) (fun l_24 h176 => ?_)
      refine jk Y Y ?_
      refine jK 196 Y (fun h177 => ?_) (fun h177 => ?_)
      ·replace hm := ifT (h177) hm
       refine jb Y Y (jk Y Y (jb Y Y (jk Y Y (jb Y Y (KD Y Y Y (y8 Y Y Y (jv ?_)))))))
       obtain rfl := sj hm
       exact jm () (trivial) (sE Y) (fun w hh => hh)
      replace hm := ifN h177 hm
      refine g_k Y Y Y Y (g_k Y Y Y Y (g_k Y Y Y Y (yx Y Y Y (jv ?_))))
      obtain rfl := sj hm
      exact jm () (trivial) (sE Y) (fun w hh => hh)
     intro l_23 hj
     replace hm := h174
     refine ja ?_
     refine jz Y (fun h178 => ?_) (fun h178 => ?_)
     ·replace hm := ifT (h178) hm
      refine jw (jr Y Y (ju (jB (jG ?_))))
      obtain rfl := sj hm
      refine ji ?_
      replace hm := ocR h157
      refine ji (ji (jG ?_))
      obtain rfl := sj hm
      have hbo := h154 _ Y
      subst hbo
      refine ji ?_
      replace hm := ocR h153
      refine ji ?_
      obtain rfl := sj hm
      refine jq Y (fun w hh => (.tmp Y .nil)) (fun w hh => ⟨(), rfl, trivial, hh.se [] [] 4 Y Y Y rfl⟩)
     replace hm := ifN h178 hm
     refine jx (jA ?_)
     obtain rfl := sj hm
     exact jm (⟨s_2.t5_1, s_2.t5_2⟩ : jU) (Y) (sE Y) (fun w hh => hh)
    intro j_3 hj
    have h179 := hj
    subst h179
    replace hm := ocL h157
    refine ja (jg ?_)
    obtain ⟨t201, h180, hm⟩ := bindO hm
    refine Kl h180 Y Y Y (jk Y Y (jv ?_))
    obtain rfl := sj hm
    refine ja ?_
    exact jM _ () Y (trivial) (sE Y) (fun w hh => hh)
   replace hm := ifE h155 hm
   refine kz (jp (jp (jP ?_)))
   obtain rfl := sj hm
   have hbo := h154 _ Y
   subst hbo
   exact jm (⟨s_2.t5_1, s_2.t5_2⟩ : qG) (Y) (sE Y) (hsE [0, 1, 2] [1, 2, 3] 0 Y Y Y Y)
  intro j_2 hj
  have h181 := hj
  subst h181
  replace hm := ocL h153
  refine ja (jw (Jh [_, _, _, _, _] 2 isAgg26 sizeOf26 Y Y Y Y ?_))
  obtain ⟨t204, h182, hm⟩ := bindO hm
  refine jd [] [] Y Y Y Y Y Y Y call38 (fun w hh => Z1 (⟨t30.r0.cells, t30.r0.tides, t30.r0.fords, t30.r0.sands, t36.r0⟩ : Channel) (qA l_1.1.q) l_1.1.n l_1.1.cap (qA l_1.2.1.q) l_1.2.1.n l_1.2.1.cap (qA l_2.q) l_2.n l_2.cap w (HV.callee (S0 := []) (vs0 := []) hh (roC (sepA (hh.rsep 1 Y)) (roC (hh.vsepA 1 Y h6) (roC (hh.vsepA 2 Y h13) roN)))) (vlen RI h5 Y) (AOK.q (vne h5)) (h5).hle (vlen RSa h6 Y) (AOK.q (vne h6)) (h6).hle (vlen RSi h13 Y) (AOK.q (vne h13)) (h13).hle h182) (fun l_25 h183 => ?_)
  refine jk Y Y (zx Y Y Y (zx Y Y Y ?_))
  refine jy (fun w => zeroValue50 w) Y (fun b_1 h184 => ?_)
  refine kd (us := #[_, _]) (cs' := [_, _]) (S' := [_, _, _, _]) 0 (fun w => sizeOf50 w) Y Y Y Y Y Y Y (jr Y Y (ql (Jh [_, _, _, _, _] 3 isAgg26 sizeOf26 Y Y Y Y (jk Y Y ?_))))
  obtain ⟨t210, h185, hm⟩ := bindO hm
  refine jd [] [] Y Y Y Y Y Y Y call56 (fun w hh => ZZ (⟨t30.r0.cells, t30.r0.tides, t30.r0.fords, t30.r0.sands, t36.r0⟩ : Channel) t42.r0 (qA l_1.1.q) l_1.1.n l_1.1.cap (qA l_1.2.1.q) l_1.2.1.n l_1.2.1.cap (qA l_2.q) l_2.n l_2.cap (qA l_4.v.q) l_4.v.n l_4.v.cap (toAL l_4.rs) w (HV.callee (S0 := []) (vs0 := []) hh (roC (sepA (hh.rsep 1 Y)) (roC (hh.vsepA 1 Y h6) (roC (hh.vsepA 2 Y h13) (roC (hh.vsepD 0 Y h18) roN))))) (vlen RI h5 Y) (AOK.q (vne h5)) (h5).hle (vlen RSa h6 Y) (AOK.q (vne h6)) (h6).hle (vlen RSi h13 Y) (AOK.q (vne h13)) (h13).hle (Eq.trans (h19).len (vlen RwH h18 Y)) (AOK.q (vne h18)) (h18).hle ((h19).toDRO Y) (hh.dsepT 0 Y h19) h185) (fun l_26 h186 => ?_)
  refine jk Y Y (zx Y Y Y (zx Y Y Y (jr Y Y (jr Y Y (ju (jl ?_))))))
  obtain ⟨o_9, h187, h188⟩ := bindO hm
  refine jW (ι := Unit) (fun l_27 => True) (fun l_27 => [(4, .bool o_9)]) (fun l_27 => [kc b_1 #[.int .i64 t204.r0.lo, .int .i64 t204.r0.hi] 50, kc l_3 #[.slice qa1 na1 ca1, .int .i64 j_2.t5_1, .int .u32 j_2.t5_2] 199, kc l #[.slice qa0 na0 ca0, .int .i64 t36.b0_1, .int .u32 t36.b0_2] 199, kc b #[.int .i64 t30.r0.cells, .int .i64 t30.r0.tides, sL l_1.1, sL l_1.2.1, sL l_2] 26]) (fun l_27 => [vL 98 l_1.2.1 (RSa.enc t30.r0.sands), vL 55 l_2 (RSi.enc t36.r0)]) ?_ ?_
  ·replace hm := h187
   refine jg (jk Y Y (jc Y Y Y (fun _ _ => Je Y Y) (jk Y Y ?_)))
   refine jK 215 Y (fun h189 => ?_) (fun h189 => ?_)
   ·replace hm := ifD h189 hm
    refine jb Y Y (jk Y Y (jb Y Y (jc Y Y Y (fun _ _ => Je Y Y) (y8 Y Y Y (jk Y Y ?_)))))
    refine jK 219 Y (fun h190 => ?_) (fun h190 => ?_)
    ·replace hm := ifD h190 hm
     refine jb Y Y (jk Y Y (y8 Y Y Y (jk Y Y ?_)))
     refine jK 222 Y (fun h191 => ?_) (fun h191 => ?_)
     ·replace hm := ifT (h191) hm
      refine jb Y Y (yy 0 runUnderlying50 Y sizeOf3 Y Y (jb Y Y (qN 0 isAgg3 Y Y Y Y (jb Y Y (jc Y Y Y (fun _ _ => Ya Y Y) (y8 Y Y Y (jk Y Y ?_)))))))
      refine jK 227 Y (fun h192 => ?_) (fun h192 => ?_)
      ·replace hm := ifD h192 hm
       refine jb Y Y (yy 1 runUnderlying50 Y sizeOf3 Y Y (jb Y Y (qN 0 isAgg3 Y Y Y Y (jb Y Y (yy 2 runUnderlying26 Y sizeOf22 Y Y (jb Y Y (qN 3 isAgg22 Y Y Y Y ?_)))))))
       refine jb Y Y (jc Y Y Y (fun w _ => JZ (vlen RI h5 Y) (runUnderlying22 w) Y) (jb Y Y (jc Y Y Y (fun _ _ => ZV Y Y) (y8 Y Y Y (jk Y Y ?_)))))
       refine jK 235 Y (fun h193 => ?_) (fun h193 => ?_)
       ·replace hm := ifD h193 hm
        refine jb Y Y (jk Y Y (jb Y Y (jc Y Y Y (fun _ _ => QE Y Y) (jb Y Y (jk Y Y ?_)))))
        refine jK 238 Y (fun h194 => ?_) (fun h194 => ?_)
        ·replace hm := ifD h194 hm
         refine g_k Y Y Y Y (g_k Y Y Y Y (g_k Y Y Y Y (jb Y Y (y8 Y Y Y (y8 Y Y Y (jk Y Y (jb Y Y ?_)))))))
         obtain ⟨t245, h195, hm⟩ := bindO hm
         refine jd [] [] Y Y Y Y Y Y Y call19 (fun w hh => Qi  w (HV.callee (S0 := []) (vs0 := []) hh roN)  h195) (fun l_28 h196 => ?_)
         refine y8 Y Y Y (jr Y Y (jv ?_))
         obtain rfl := sj hm
         exact jm () (trivial) (sE Y) (hsE [0, 1, 2, 3] [1, 2] 0 Y Y Y Y)
        replace hm := ifE h194 hm
        refine jb Y Y (yy 0 runUnderlying50 Y sizeOf3 Y Y (jb Y Y (qN 0 isAgg3 Y Y Y Y (jb Y Y (jc Y Y Y (fun _ _ => Je Y Y) (jb Y Y (yx Y Y Y ?_)))))))
        refine y8 Y Y Y (jk Y Y ?_)
        refine jK 244 Y (fun h197 => ?_) (fun h197 => ?_)
        ·replace hm := ifD h197 hm
         refine jb Y Y ?_
         obtain ⟨t245_1, h198, hm⟩ := bindO hm
         refine jd [] [] Y Y Y Y Y Y Y call19 (fun w hh => Qi  w (HV.callee (S0 := []) (vs0 := []) hh roN)  h198) (fun l_29 h199 => ?_)
         refine y8 Y Y Y (jr Y Y (jv ?_))
         obtain rfl := sj hm
         exact jm () (trivial) (sE Y) (hsE [0, 1, 2, 3] [1, 2] 0 Y Y Y Y)
        replace hm := ifE h197 hm
        refine g_k Y Y Y Y (yx Y Y Y (jr Y Y (jv ?_)))
        obtain rfl := sj hm
        exact jm () (trivial) (sE Y) (hsE [0, 1, 2, 3] [1, 2] 0 Y Y Y Y)
       replace hm := ifE h193 hm
       refine g_k Y Y Y Y (g_k Y Y Y Y (g_k Y Y Y Y ?_))
       refine jC Y Y Y Y Y ?_
       refine jC Y Y Y Y Y ?_
       refine jC Y Y Y Y Y ?_
       refine g_k Y Y Y Y (yx Y Y Y (jk Y Y (g_k Y Y Y Y (yx Y Y Y (jr Y Y (jv ?_))))))
       obtain rfl := sj hm
       exact jm () (trivial) (sE Y) (hsE [0, 1, 2, 3] [1, 2] 0 Y Y Y Y)
      replace hm := ifE h192 hm
      refine g_k Y Y Y Y (g_k Y Y Y Y (g_k Y Y Y Y (g_k Y Y Y Y (g_k Y Y Y Y (g_k Y Y Y Y (yx Y Y Y (jk Y Y ?_)))))))
      refine g_k Y Y Y Y (g_k Y Y Y Y (g_k Y Y Y Y ?_))
      refine jC Y Y Y Y Y ?_
      refine jC Y Y Y Y Y ?_
      refine jC Y Y Y Y Y ?_
      refine g_k Y Y Y Y (yx Y Y Y (jk Y Y (g_k Y Y Y Y (yx Y Y Y (jr Y Y (jv ?_))))))
      obtain rfl := sj hm
      exact jm () (trivial) (sE Y) (hsE [0, 1, 2, 3] [1, 2] 0 Y Y Y Y)
     replace hm := ifN h191 hm
     refine g_k Y Y Y Y (g_k Y Y Y Y (g_k Y Y Y Y (yx Y Y Y (jk Y Y (g_k Y Y Y Y (g_k Y Y Y Y (g_k Y Y Y Y ?_)))))))
     refine g_k Y Y Y Y (g_k Y Y Y Y (g_k Y Y Y Y (yx Y Y Y (jk Y Y (g_k Y Y Y Y (g_k Y Y Y Y (g_k Y Y Y Y ?_)))))))
     refine jC Y Y Y Y Y ?_
     refine jC Y Y Y Y Y ?_
     refine jC Y Y Y Y Y ?_
     refine g_k Y Y Y Y (yx Y Y Y (jk Y Y (g_k Y Y Y Y (yx Y Y Y (jr Y Y (jv ?_))))))
     obtain rfl := sj hm
     exact jm () (trivial) (sE Y) (hsE [0, 1, 2, 3] [1, 2] 0 Y Y Y Y)
    replace hm := ifE h190 hm
    refine g_k Y Y Y Y (yx Y Y Y (jk Y Y (g_k Y Y Y Y (g_k Y Y Y Y (g_k Y Y Y Y (yx Y Y Y (jk Y Y ?_)))))))
    refine g_k Y Y Y Y (g_k Y Y Y Y (g_k Y Y Y Y (g_k Y Y Y Y (g_k Y Y Y Y (g_k Y Y Y Y (yx Y Y Y (jk Y Y ?_)))))))
    refine g_k Y Y Y Y (g_k Y Y Y Y (g_k Y Y Y Y ?_))
    refine jC Y Y Y Y Y ?_
    refine jC Y Y Y Y Y ?_
    refine jC Y Y Y Y Y ?_
    refine g_k Y Y Y Y (yx Y Y Y (jk Y Y (g_k Y Y Y Y (yx Y Y Y (jr Y Y (jv ?_))))))
    obtain rfl := sj hm
    exact jm () (trivial) (sE Y) (hsE [0, 1, 2, 3] [1, 2] 0 Y Y Y Y)
   replace hm := ifE h189 hm
   refine g_k Y Y Y Y (g_k Y Y Y Y (yx Y Y Y (jk Y Y (g_k Y Y Y Y (yx Y Y Y (jk Y Y (g_k Y Y Y Y ?_)))))))
   refine g_k Y Y Y Y (g_k Y Y Y Y (yx Y Y Y (jk Y Y (g_k Y Y Y Y (g_k Y Y Y Y (g_k Y Y Y Y (g_k Y Y Y Y ?_)))))))
   refine g_k Y Y Y Y (g_k Y Y Y Y (yx Y Y Y (jk Y Y (g_k Y Y Y Y (g_k Y Y Y Y (g_k Y Y Y Y ?_))))))
   refine jC Y Y Y Y Y ?_
   refine jC Y Y Y Y Y ?_
   refine jC Y Y Y Y Y ?_
   refine g_k Y Y Y Y (yx Y Y Y (jk Y Y (g_k Y Y Y Y (yx Y Y Y (jr Y Y (jv ?_))))))
   obtain rfl := sj hm
   exact jm () (trivial) (sE Y) (hsE [0, 1, 2, 3] [1, 2] 0 Y Y Y Y)
  intro l_27 hj
  replace hm := h188
  refine ja (jB ?_)
  obtain rfl := sj hm
  refine jq Y (fun w hh => (.tmp Y .nil)) (fun w hh => ⟨(), rfl, trivial, hh.se [] [] 4 Y Y Y rfl⟩)
end Go.Proofs.Wb

namespace Go.Proofs.Wb
open Go Go.Fw Go.Gx Go.Sb
set_option linter.unusedVariables false
theorem fitB_WalkC {c : Channel} (r : Right c) {crs : List (List Int)} (h : fitB tt c crs = true) : WalkC c c.tides.toNat crs ∧ agC c.sights crs = true := by
  have ht := r.tides
  have h2 := h
  unfold fitB okAt at h
  simp only [Bool.and_eq_true, decide_eq_true_eq, List.all_eq_true, List.mem_range, Bool.or_eq_true] at h
  obtain ⟨h0, h1, hk⟩ := h
  have hw : WalkC c c.tides.toNat crs := ⟨by omega, h1, fun k hk' => (hk k (by omega)).1, fun k hk' => by
    rcases (hk (k + 1) (by omega)).2.1 with q | q
    · omega
    · exact q⟩
  refine ⟨hw, ?_⟩
  rw [← fitB_walk r hw]
  exact h2
theorem sumI_zero {f : Nat → Int} : ∀ n, (∀ i, i < n → 0 ≤ f i) → sumI f n = 0 → ∀ i, i < n → f i = 0
  | 0, _, _, i, hi => absurd hi (by omega)
  | n + 1, h, hs, i, hi => by
    have h1 := h n (by omega)
    have h2 : 0 ≤ sumI f n := by
      have key : ∀ m, m ≤ n → 0 ≤ sumI f m := by
        intro m
        induction m with
        | zero => intro _; exact Int.le_refl _
        | succ m ih => intro hm; have := ih (by omega); have := h m (by omega); show 0 ≤ sumI f m + f m; omega
      exact key n (Nat.le_refl _)
    have h3 : sumI f n + f n = 0 := hs
    by_cases he : i = n
    · subst he; omega
    · exact sumI_zero n (fun j hj => h j (by omega)) (by omega) i (by omega)
theorem movL_self (a : List Int) : movL a a = 0 := by
  unfold movL
  have : ∀ n, sumI (fun i => mvI (a.getD i (-1)) (a.getD i (-1))) n = 0 := by
    intro n
    induction n with
    | zero => rfl
    | succ n ih => show sumI _ n + mvI _ _ = 0; rw [ih]; unfold mvI; omega
  exact this _
theorem movL_zero {a b : List Int} (h : a.length = b.length) (h0 : movL a b = 0) : a = b := by
  have key := sumI_zero (f := fun i => mvI (a.getD i (-1)) (b.getD i (-1))) a.length (fun i _ => by unfold mvI; omega) h0
  apply List.ext_getElem h
  intro i hi hj
  have := key i hi
  simp only [List.getD_eq_getElem?_getD, List.getElem?_eq_getElem hi, List.getElem?_eq_getElem hj, Option.getD_some] at this
  unfold mvI at this
  omega
def stillC (c : Channel) : List (List Int) := List.replicate (c.tides.toNat + 1) c.fords
theorem still_get {c : Channel} {k : Nat} (h : k ≤ c.tides.toNat) : (stillC c).getD k [] = c.fords := by
  unfold stillC
  rw [List.getD_eq_getElem?_getD, List.getElem?_replicate, if_pos (by omega)]
  rfl
theorem still_walk {c : Channel} (r : Right c) : WalkC c c.tides.toNat (stillC c) := ⟨by unfold stillC; simp, still_get (Nat.zero_le _), fun k hk => by rw [still_get hk]; exact rowB_iff.2 ⟨rfl, r.up, r.fcell⟩, fun k hk => by rw [still_get (by omega), still_get (by omega)]; exact canB_self r _⟩
theorem still_mvs {c : Channel} : ∀ k, k ≤ c.tides.toNat → mvsC (stillC c) k = 0 := by
  intro k
  induction k with
  | zero => intro _; rfl
  | succ k ih =>
    intro hk
    show mvsC (stillC c) k + movL _ _ = 0
    rw [ih (by omega), still_get (by omega), still_get hk, movL_self]
    rfl
theorem mvs_zero {c : Channel} (r : Right c) {crs : List (List Int)} (hw : WalkC c c.tides.toNat crs) (h : mvsC crs c.tides.toNat = 0) : ∀ k, k ≤ c.tides.toNat → crs.getD k [] = c.fords := by
  have key := sumI_zero (f := fun i => movL (crs.getD i []) (crs.getD (i + 1) [])) c.tides.toNat (fun i _ => movL_nonneg _ _) h
  intro k
  induction k with
  | zero => intro _; exact hw.fst
  | succ k ih =>
    intro hk
    have h1 := (rowB_iff.1 (hw.row k (by omega))).1
    have h2 := (rowB_iff.1 (hw.row (k + 1) hk)).1
    rw [← movL_zero (by omega) (key k (by omega))]
    exact ih (by omega)
theorem agC_congr {sg : List Sight} {a b : List (List Int)} (h : ∀ s ∈ sg, a.getD s.after.toNat [] = b.getD s.after.toNat []) : agC sg a = agC sg b := by
  unfold agC
  rw [Bool.eq_iff_iff, List.all_eq_true, List.all_eq_true]
  constructor
  · intro q s hs; rw [← h s hs]; exact q s hs
  · intro q s hs; rw [h s hs]; exact q s hs
theorem crs_mvs {c : Channel} (r : Right c) {L : List (List State)} (hL : Levs c L) (h : cntS tt c ≠ 0) : mvsC (crsC c L) c.tides.toNat = fewC c L (first c) := by
  have ht := r.tides
  have hw := (fitB_WalkC r (crs_fit r hL h)).1
  have h1 := pth_sum r hL h c.tides.toNat (Nat.le_refl _)
  have h2 := (pth_V r hL h (j := c.tides.toNat) (Nat.le_refl _)).2
  rw [few_last r hL (s := pth c L c.tides.toNat) (by omega), Int.add_zero] at h1
  rw [h1]
  exact sumI_congr _ (fun i hi => Option.some.inj ((row_moves r (hw.row i (by omega)) (hw.row (i + 1) (by omega))).symm.trans (crs_moves r hL h hi)))
theorem few_still {c : Channel} (r : Right c) {L : List (List State)} (hL : Levs c L) (h : cntS tt c ≠ 0) : decide (fewC c L (first c) = 0) = agC c.sights (stillC c) := by
  have ht := r.tides
  obtain ⟨hw, ha⟩ := fitB_WalkC r (crs_fit r hL h)
  have h1 := crs_mvs r hL h
  have h0 := (few_bnd r hL (first_V r)).1
  rw [Bool.eq_iff_iff, decide_eq_true_eq]
  constructor
  · intro hz
    rw [hz] at h1
    have h2 := mvs_zero r hw h1
    rw [← agC_congr (a := crsC c L) (b := stillC c) (fun s hs => by
      have := r.after s hs
      rw [h2 _ (by omega), still_get (by omega)])]
    exact ha
  · intro hq
    have h2 := best_walk r (still_walk r) hq
    rw [still_mvs _ (Nat.le_refl _), best_few r hL h] at h2
    omega
theorem anL_fords {c : Channel} : anL c c.fords = 0 := by
  unfold anL
  rw [List.length_eq_zero_iff, List.filter_eq_nil_iff]
  intro i hi
  have := List.mem_range.1 hi
  simp [List.getD_eq_getElem?_getD, List.getElem?_eq_getElem this]
theorem anL_le (c : Channel) (l : List Int) : anL c l ≤ c.fords.length := by
  unfold anL
  have := List.length_filter_le (fun i => decide (l.getD i (-1) ≠ c.fords.getD i 0)) (List.range c.fords.length)
  rw [List.length_range] at this
  exact this
theorem anew_bnd {c : Channel} (r : Right c) (h : cntS tt c ≠ 0) : 0 ≤ (anewC c).lo ∧ (anewC c).hi ≤ (c.fords.length : Int) := by
  obtain ⟨l, hl, ho⟩ := last_on r h
  have hf := r.fords
  have h1 := (foMin_spec 9 (anewQ c)).2.2
  have h2 := (foMax_spec (-1) (anewQ c)).2.2
  have hb : ∀ z ∈ anewQ c, 0 ≤ z ∧ z ≤ (c.fords.length : Int) := fun z hz => by
    obtain ⟨m, _, rfl⟩ := List.mem_map.1 hz
    have := anL_le c m
    omega
  unfold anewC
  constructor
  · rcases h1 with q | q
    · simp only; omega
    · exact (hb _ q).1
  · rcases h2 with q | q
    · simp only; omega
    · exact (hb _ q).2
theorem anew_still {c : Channel} (r : Right c) {L : List (List State)} (hL : Levs c L) (h : cntS tt c ≠ 0) (hz : fewC c L (first c) = 0) : (anewC c).lo = 0 := by
  have hc := r.cells
  have ha : agC c.sights (stillC c) = true := by rw [← few_still r hL h, decide_eq_true hz]
  have ho := walk_on r (still_walk r) ha c.tides.toNat (Nat.le_refl _)
  rw [still_get (Nat.le_refl _)] at ho
  have h1 := (anew_in ((mem_LL (by omega)).2 (rowB_iff.2 ⟨rfl, r.up, r.fcell⟩)) ho).1
  rw [anL_fords] at h1
  have h2 := (anew_bnd r h).1
  omega
section
variable {x : kr} {y : ks}
theorem calm_near {c : Channel} (r : Right c) {a b : List Int} (ha : rowB c a = true) (hb : rowB c b = true) (hc : canB c.sands a b = true) {i : Nat} (hi : i < a.length) : max (b.getD i (-1) - a.getD i (-1)) (a.getD i (-1) - b.getD i (-1)) ≤ rchC c.sands (a.getD i (-1)) := by
  unfold canB at hc
  have := inb_iff.1 ((List.all_eq_true.1 hc) i (List.mem_range.2 hi))
  omega
theorem ca_L1 (r : Right (cS x.r0 y.r0)) {C : qj} (hw : WalkC (cS x.r0 y.r0) x.r0.tides.toNat C.r0) {k : Nat} (hk : k ≤ x.r0.tides.toNat) : iterM FU (kg (C.r0.getD k []) x (k : Int) C y) 0 = some (.inl ()) := by
  have ht : 0 ≤ x.r0.tides ∧ x.r0.tides ≤ 4 := r.tides
  have hc : 2 ≤ x.r0.cells ∧ x.r0.cells ≤ 10 := r.cells
  have hf : 1 ≤ x.r0.fords.length ∧ x.r0.fords.length ≤ 3 := r.fords
  have hs : x.r0.sands.length ≤ 4 := r.sands
  have hl := hw.len
  have hrow := hw.row k hk
  have hrl : (C.r0.getD k []).length = x.r0.fords.length := (rowB_iff.1 hrow).1
  have hup := upB_ix.1 (rowB_iff.1 hrow).2.1
  have hcS : (⟨x.r0.cells, x.r0.tides, x.r0.fords, x.r0.sands, y.r0⟩ : Channel) = cS x.r0 y.r0 := rfl
  have key := iterM_any0 (f := kg (C.r0.getD k []) x (k : Int) C y) (C.r0.getD k []).length (fun _ => false) false (fun i hi => ?_) ?_ (N := FU) (FU_lt (by omega))
  · rw [show (List.range (C.r0.getD k []).length).any (fun _ => false) = false from by simp, if_neg Bool.false_ne_true] at key
    exact key
  · have hxb : 0 ≤ (C.r0.getD k []).getD i (-1) ∧ (C.r0.getD k []).getD i (-1) < x.r0.cells := (rowB_iff.1 hrow).2.2 _ (getDm (-1) hi)
    -- how far it is from where it was
    have hQ : (if 0 < (k : Int) then
 ((subc (k : Int) 1).bind fun t117 =>
 (ix C.r0 t117).bind fun t118 =>
 (ix t118 (i : Int)).bind fun t121 =>
 (subc ((C.r0.getD k []).getD i (-1)) t121).bind fun t123 =>
 (subc (k : Int) 1).bind fun t126 =>
 (ix C.r0 t126).bind fun t127 =>
 (ix t127 (i : Int)).bind fun t130 =>
 (subc t130 ((C.r0.getD k []).getD i (-1))).bind fun t133 =>
 (subc (k : Int) 1).bind fun t138 =>
 (ix C.r0 t138).bind fun t139 =>
 (ix t139 (i : Int)).bind fun t142 =>
 (j5 (⟨x.r0.cells, x.r0.tides, x.r0.fords, x.r0.sands, y.r0⟩ : Channel) t142).bind fun t144 =>
 some (decide (t144 < (max t123 t133)))) else
 (some false)) = some false := by
      by_cases h0 : 0 < (k : Int)
      · obtain ⟨j, rfl⟩ : ∃ j, k = j + 1 := ⟨k - 1, by omega⟩
        have hrj := hw.row j (by omega)
        have hjl : (C.r0.getD j []).length = x.r0.fords.length := (rowB_iff.1 hrj).1
        have hab : 0 ≤ (C.r0.getD j []).getD i (-1) ∧ (C.r0.getD j []).getD i (-1) < x.r0.cells := (rowB_iff.1 hrj).2.2 _ (getDm (-1) (by omega))
        have hn := calm_near r hrj hrow (hw.can j (by omega)) (i := i) (by omega)
        have e : ((j + 1 : Nat) : Int) - 1 = (j : Int) := by omega
        rw [if_pos h0, subc_eq (by omega), Option.bind_some, e, ix_nat [] (by omega), Option.bind_some, ix_nat (-1) (by omega), Option.bind_some, subc_eq (by omega), Option.bind_some, Option.bind_some, ix_nat [] (by omega), Option.bind_some, ix_nat (-1) (by omega), Option.bind_some, subc_eq (by omega), Option.bind_some, Option.bind_some, ix_nat [] (by omega), Option.bind_some, ix_nat (-1) (by omega), Option.bind_some, hcS, lawReach_eq (by show x.r0.sands.length ≤ 100; omega), Option.bind_some, decide_eq_false (by omega)]
      · rw [if_neg h0]
    unfold kg
    rw [if_pos (by omega), ix_nat (-1) hi, Option.bind_some, if_neg (by omega), if_neg (by omega), hQ]
    have a1 : addc (i : Int) 1 = some ((i : Int) + 1) := addc_eq (by omega)
    have hF0 : k = 0 → (C.r0.getD k []).getD i (-1) = x.r0.fords.getD i 0 := fun e => by
      subst e
      have hf0 : C.r0.getD 0 [] = x.r0.fords := hw.fst
      rw [hf0]
      have : i < x.r0.fords.length := by omega
      simp [List.getD_eq_getElem?_getD, List.getElem?_eq_getElem this]
    have hrest : (if (k : Int) = 0 then
 ((ix x.r0.fords (i : Int)).bind fun t105 =>
 if (C.r0.getD k []).getD i (-1) = t105 then
 (some false) else
 (some true)) else
 (some false) : Option Bool) = some false := by
      by_cases h0 : (k : Int) = 0
      · rw [if_pos h0, ix_nat 0 (by omega), Option.bind_some, if_pos (hF0 (by omega))]
      · rw [if_neg h0]
    rw [hrest]
    by_cases hi0 : 0 < (i : Int)
    · obtain ⟨j, rfl⟩ : ∃ j, i = j + 1 := ⟨i - 1, by omega⟩
      have e : ((j + 1 : Nat) : Int) - 1 = (j : Int) := by omega
      have := hup j (by omega)
      rw [if_pos hi0, subc_eq (by omega), Option.bind_some, e, ix_nat (-1) (by omega), Option.bind_some, if_neg (by omega), Option.bind_some, if_neg Bool.false_ne_true, a1]
      rfl
    · rw [if_neg hi0, Option.bind_some, if_neg Bool.false_ne_true, a1]
      rfl
  · unfold kg
    rw [if_neg (by omega)]
theorem ca_L0 (r : Right (cS x.r0 y.r0)) {C : qj} (hw : WalkC (cS x.r0 y.r0) x.r0.tides.toNat C.r0) : iterM FU (kh C x y) 0 = some (.inl ()) := by
  have ht : 0 ≤ x.r0.tides ∧ x.r0.tides ≤ 4 := r.tides
  have hl := hw.len
  have key := iterM_any0 (f := kh C x y) C.r0.length (fun _ => false) false (fun k hk => ?_) ?_ (N := FU) (FU_lt (by omega))
  · rw [show (List.range C.r0.length).any (fun _ => false) = false from by simp, if_neg Bool.false_ne_true] at key
    exact key
  · have hrl : (C.r0.getD k []).length = x.r0.fords.length := (rowB_iff.1 (hw.row k (by omega))).1
    unfold kh
    rw [if_pos (by omega), ix_nat [] hk, Option.bind_some, if_pos (by omega), ca_L1 r hw (by omega), Option.bind_some, oc_inl, addc_eq (by omega)]
    rfl
  · unfold kh
    rw [if_neg (by omega)]
theorem ca_try (r : Right (cS x.r0 y.r0)) {C : qj} (hC : C.r1 = bestC (cS x.r0 y.r0)) {crs : List (List Int)} (hw : WalkC (cS x.r0 y.r0) x.r0.tides.toNat crs) (Z : jU) :
    ((qh crs).bind fun t190 =>
 ((kX (⟨x.r0.cells, x.r0.tides, x.r0.fords, x.r0.sands, y.r0⟩ : Channel) crs).bind fun t195 =>
 if t195 = true then
 (some (decide (t190.r0 < C.r1))) else
 (some false)).bind fun o_7 =>
 if o_7 = true then
 (some (.inr false)) else
 (some (.inl Z))) = (some (.inl Z) : Option (jU ⊕ Bool)) := by
  have hg : y.r0.length ≤ 20 := r.sights
  have hcS : (⟨x.r0.cells, x.r0.tides, x.r0.fords, x.r0.sands, y.r0⟩ : Channel) = cS x.r0 y.r0 := rfl
  rw [ZN r hw, Option.bind_some, hcS, Zq r hg hw.len (rows_small r hw), Option.bind_some]
  cases ha : agC (cS x.r0 y.r0).sights crs with
  | false => rfl
  | true =>
    have := best_walk r hw ha
    rw [if_pos rfl, hC, Option.bind_some, decide_eq_false (by show ¬ mvsC crs (cS x.r0 y.r0).tides.toNat < _; omega), if_neg Bool.false_ne_true]
theorem ca_L2 {q : List Int} (hq : q.length ≤ 9223372036854775807) (r : Right (cS x.r0 y.r0)) {C : qj} (hC : C.r1 = bestC (cS x.r0 y.r0)) (hw : WalkC (cS x.r0 y.r0) x.r0.tides.toNat x.r1) :
    ∃ Z, iterM FU (kP q x y C) ⟨0, 0, 0⟩ = some (.inl Z) := by
  obtain ⟨b, h1, h2⟩ := iterM_inv (f := kP q x y C) (fun s => (0 ≤ s.t179 ∧ s.t179 ≤ 8) ∧ HOK q s.t5_1) (fun s => (8 - s.t179).toNat) (fun b => ∃ Z, b = .inl Z) (fun s hs => by
    obtain ⟨h0, h1⟩ := hs
    unfold kP
    by_cases hlt : s.t179 < 8
    · left
      rw [if_pos hlt]
      by_cases hz : 0 < s.t179
      · obtain ⟨w, w1, w2, w3⟩ := walked_ok hq r (p := s.t5_1) (q := s.t5_2) h1
        have w1' : kV q s.t5_1 s.t5_2 (⟨x.r0.cells, x.r0.tides, x.r0.fords, x.r0.sands, y.r0⟩ : Channel) = some w := w1
        rw [if_pos hz, w1', Option.bind_some, ca_try r hC w3 ⟨w.b0_1, w.b0_2⟩, Option.bind_some, oc_inl, addc_eq (by omega), Option.bind_some]
        exact ⟨_, rfl, ⟨by simp only; omega, w2⟩, by simp only; omega⟩
      · rw [if_neg hz, ca_try r hC hw ⟨s.t5_1, s.t5_2⟩, Option.bind_some, oc_inl, addc_eq (by omega), Option.bind_some]
        exact ⟨_, rfl, ⟨by simp only; omega, h1⟩, by simp only; omega⟩
    · right
      rw [if_neg hlt]
      exact ⟨_, rfl, _, rfl⟩) FU ⟨0, 0, 0⟩ (FU_lt (by simp only; omega)) ⟨by simp only; omega, HOK_zero q⟩
  obtain ⟨Z, rfl⟩ := h2
  exact ⟨Z, h1⟩
end
theorem BranchCalmed_true {l q : List Int} (hl : l.length ≤ 9223372036854775807) (hq : q.length ≤ 9223372036854775807) : q9 l q = some true := by
  unfold q9
  rw [pile_eq, Option.bind_some, awake_true]
  obtain ⟨x, y, h1, h2, hM, hW, _, hn, hS⟩ := made_seen hl (cells := 9) (fords := 3) (tides := 4) (most := 6) (by omega) (by omega) (by omega) (by omega)
  simp only
  rw [h1, Option.bind_some, h2, Option.bind_some, pile_eq, Option.bind_some]
  have r0 := hM.right
  have r : Right (cS x.r0 y.r0) := cS_right r0 (by omega) hS
  have hlen : (cS x.r0 y.r0).sights.length = y.r0.length := rfl
  have hF : Few (cS x.r0 y.r0) := few_right r (by omega)
  have hk0 : chk (cS x.r0 y.r0) = 0 := chk_right r (by omega)
  have hp := cS_pos r0 hW (by omega) hS
  have hp' : cntS tt (cS x.r0 y.r0) ≠ 0 := by omega
  have hw : WalkC (cS x.r0 y.r0) x.r0.tides.toNat x.r1 := hW.sights y.r0
  have hcS : (⟨x.r0.cells, x.r0.tides, x.r0.fords, x.r0.sands, y.r0⟩ : Channel) = cS x.r0 y.r0 := rfl
  have ht : 0 ≤ x.r0.tides ∧ x.r0.tides ≤ 4 := r.tides
  have hg : y.r0.length ≤ 20 := r.sights
  obtain ⟨L, hC, hL⟩ := jaJ hF
  have hL := hL hk0 hp'
  obtain ⟨hwL, haL⟩ := fitB_WalkC r (crs_fit r hL hp')
  have hb := best_few r hL hp'
  obtain ⟨Z, hZ⟩ := ca_L2 hq r (C := ⟨fewC (cS x.r0 y.r0) L (first (cS x.r0 y.r0)), 0, crsC (cS x.r0 y.r0) L⟩) hb.symm hw
  have hL0 := ca_L0 r (C := ⟨fewC (cS x.r0 y.r0) L (first (cS x.r0 y.r0)), 0, crsC (cS x.r0 y.r0) L⟩) hwL
  have hcl : (crsC (cS x.r0 y.r0) L).length = x.r0.tides.toNat + 1 := crs_len
  have hfs := few_still r hL hp'
  have hab := anew_bnd r hp'
  have has := anew_still r hL hp'
  have hfb := few_bnd r hL (first_V r)
  have hmv := crs_mvs r hL hp'
  have e1 : (Int.toNat (x.r0.tides + 1)) = x.r0.tides.toNat + 1 := by omega
  have hst : List.replicate (Int.toNat (x.r0.tides + 1)) x.r0.fords = stillC (cS x.r0 y.r0) := by rw [e1]; rfl
  have eF : (cS x.r0 y.r0).fords = x.r0.fords := rfl
  rw [eF] at hab
  rw [hcS, hC, if_pos hk0, if_neg hp', Option.bind_some]
  dsimp only
  rw [if_pos rfl, addc_eq (by omega), Option.bind_some, decide_eq_true (by omega), Option.bind_some, if_neg (by decide), hL0, Option.bind_some, oc_inl, ZN r hwL, Option.bind_some, Option.bind_some, if_pos (by omega), Zq r hg hwL.len (rows_small r hwL), Option.bind_some, haL, hst, Zq r hg (still_walk r).len (rows_small r (still_walk r)), Option.bind_some]
  dsimp only
  rw [if_neg (by decide), if_pos hmv, hfs, beq_self_eq_true, Option.bind_some, if_neg (by decide), hZ, Option.bind_some, oc_inl, jaI hF, if_pos hk0, if_neg hp', Option.bind_some, jaN hF (by omega) (rows_small r hwL), if_pos hk0, Option.bind_some]
  dsimp only
  rw [if_pos rfl, if_pos rfl, show fitB (fun _ => true) (cS x.r0 y.r0) (crsC (cS x.r0 y.r0) L) = true from crs_fit r hL hp', if_pos rfl, if_pos hab.1, if_pos hab.2]
  by_cases hz : 0 < fewC (cS x.r0 y.r0) L (first (cS x.r0 y.r0))
  · rw [if_pos hz]
    rfl
  · rw [if_neg hz, if_pos (has (by omega))]
    rfl
end Go.Proofs.Wb

namespace Go.Gx
open Go Go.Fw Go.RowKit
section
variable {H : Type} {enc : TypeId × Value → H} {P : Program} {w : World} {base : Nat} {sp : Nat → Bool} {held : Bool}
def Opens (enc : TypeId × Value → H) (P : Program) (w : World) (base : Nat) (sp : Nat → Bool) (held : Bool) {α : Type} (R : Row α) (wf : α → Prop) (t : TypeId) : Prop :=
  ∀ fuel cs x, DataW.trod enc P w base sp held fuel t cs = some x → ∃ a, cs = R.cells a ∧ wf a
def u8P (n : Int) : Prop := 0 ≤ n ∧ n ≤ 255
theorem wf_u8P {n : Int} (h : (Lit.int .u8 n).wf = true) : u8P n := by
  simp [Lit.wf, IntKind.min, IntKind.max, IntKind.signed, IntKind.bits] at h
  unfold u8P; omega
theorem opens_u8 {t : TypeId} (ht : P.underlying t = some (.int .u8)) : Opens enc P w base sp held RU8 u8P t := fun fuel cs x h => by
  obtain ⟨n, rfl, _, hw⟩ := DataW.trod_int ht h
  exact ⟨n, rfl, wf_u8P hw⟩
theorem fieldAt {fs : Array Field} {t : TypeId} {fuel : Nat} {cs : List Value} {x : DataW H × List MemPlace} (ht : P.underlying t = some (.struct fs)) (h : DataW.trod enc P w base sp held fuel t cs = some x) {α : Type} {R : Row α} {wf : α → Prop} (i : Nat) {T o k : Nat}
    (hf : (fs[i]?).map (fun fd => (fd.type, fd.offset)) = some (T, o)) (hk : P.cellsOf T = k) (hR : Opens enc P w base sp held R wf T) : ∃ a, (cs.drop o).take k = R.cells a ∧ wf a := by
  obtain ⟨xs, n, rfl, _, hlen, hxl, hx⟩ := DataW.trod_struct ht h
  obtain ⟨fd, hfd, he⟩ : ∃ fd, fs[i]? = some fd ∧ (fd.type, fd.offset) = (T, o) := by
    cases hh : fs[i]? with
    | none => simp [hh] at hf
    | some fd => exact ⟨fd, rfl, by simpa [hh] using hf⟩
  simp only [Prod.mk.injEq] at he
  obtain ⟨rfl, rfl⟩ := he
  have h1 := hx i fd hfd
  rw [hk] at h1
  have hi : i < xs.length := by rw [hxl]; exact (Array.getElem?_eq_some_iff.1 hfd).1
  rw [List.getElem?_eq_getElem hi] at h1
  exact hR _ _ _ h1
structure SlIn {α : Type} (R : Row α) (wf : α → Prop) (w : World) (v : Value) (A : Option Addr) (n c : Nat) (l : List α) : Prop where
  val : v = .slice A n c
  len : l.length = n
  ok : AOK n A
  le : n ≤ c
  max : c ≤ maxLen
  seg : segOK w (aB A, aO A, R.enc l)
  wf : ∀ x, x ∈ l → wf x
theorem choose_list {α : Type} {p : Nat → α → Prop} : ∀ (n : Nat), (∀ i, i < n → ∃ a, p i a) → ∃ l : List α, l.length = n ∧ ∀ i (h : i < l.length), p i l[i]
  | 0, _ => ⟨[], rfl, fun i h => by simp at h⟩
  | n + 1, h => by
    obtain ⟨l, hl, hp⟩ := choose_list n (fun i hi => h i (by omega))
    obtain ⟨a, ha⟩ := h n (by omega)
    refine ⟨l ++ [a], by simp [hl], fun i hi => ?_⟩
    by_cases hil : i < l.length
    · rw [List.getElem_append_left hil]; exact hp i hil
    · have : i = l.length := by simp at hi; omega
      subst this
      rw [List.getElem_append_right (by omega)]
      simp only [Nat.sub_self, List.getElem_cons_zero]
      rw [hl]; exact ha
theorem openSl {α : Type} {R : Row α} {wf : α → Prop} {t e : TypeId} (ht : P.underlying t = some (.slice e)) (hc : P.cellsOf e = R.sz) (hR : Opens enc P w base sp held R wf e) (h0 : Nat.blt 0 R.sz = true)
    {fuel : Nat} {cs : List Value} {x : DataW H × List MemPlace} (h : DataW.trod enc P w base sp held fuel t cs = some x) : ∃ (v : Value) (A : Option Addr) (n c : Nat) (l : List α), cs = [v] ∧ SlIn R wf w v A n c l := by
  have hsz : 0 < R.sz := by simpa using h0
  rcases Go.Deep.open_slice ht h with ⟨rfl, _⟩ | ⟨a, len, cap, m, n, D, Pl, rfl, hb, hl, hm, hmm, _, hi⟩
  · exact ⟨_, none, 0, 0, [], rfl, rfl, rfl, AOK.nil, Nat.le_refl _, Nat.zero_le _, segOK.nil, by simp⟩
  · have hlm : len ≤ m := by rw [hmm]; split <;> omega
    have hcell : ∀ i, i < len → ∃ x : α, (∀ f (hf : f < (R.cells x).length), w.cell? (a.add (i * R.sz + f)) = some (R.cells x)[f]) ∧ wf x := fun i hil => by
      obtain ⟨cs', h1, h2⟩ := hi i (by omega)
      obtain ⟨x, rfl, hw⟩ := hR _ _ _ h2
      obtain ⟨_, _, hat⟩ := World.cells?_some h1
      refine ⟨x, fun f hf => ?_, hw⟩
      have := hat f (by rw [hc, ← R.len x]; exact hf)
      rw [hc] at this
      rw [List.getElem?_eq_getElem hf] at this
      have e : (a.add (i * R.sz)).add f = a.add (i * R.sz + f) := by
        unfold Addr.add
        by_cases h1 : i * R.sz = 0
        · simp [h1]
        · by_cases h2 : f = 0
          · simp [h2]
          · simp [h1, h2, Nat.add_assoc]
      rw [e] at this
      exact this
    obtain ⟨l, hll, hlp⟩ := choose_list len hcell
    have hspot : 0 < len → a.spot = none := fun h0 => by
      obtain ⟨x, hx, _⟩ := hcell 0 h0
      have := World.cell?_spot (hx 0 (by rw [R.len]; exact hsz))
      simpa [Addr.add] using this
    refine ⟨_, some a, len, cap, l, rfl, rfl, hll, fun h0 => ?_, hl, hm, fun j hj => ?_, fun x hx => ?_⟩
    · obtain ⟨b, o, s⟩ := a
      have := hspot h0
      simp only at this
      subst this
      exact ⟨b, o, rfl⟩
    · have hj' : j < l.length * R.sz := by rw [← R.enc_len]; exact hj
      have hpos : 0 < len := by
        rcases Nat.eq_zero_or_pos len with h | h
        · rw [hll, h, Nat.zero_mul] at hj'; omega
        · exact h
      obtain ⟨b, o, s⟩ := a
      have hs := hspot hpos
      simp only at hs
      subst hs
      have hq : j / R.sz < l.length := Nat.div_lt_of_lt_mul (by rw [Nat.mul_comm]; exact hj')
      have hr : j % R.sz < R.sz := Nat.mod_lt _ hsz
      have hd : j / R.sz * R.sz + j % R.sz = j := by rw [Nat.mul_comm]; exact Nat.div_add_mod j R.sz
      have h1 := (hlp (j / R.sz) hq).1 (j % R.sz) (by rw [R.len]; exact hr)
      rw [hd] at h1
      have h2 := R.enc_get l (j / R.sz) (j % R.sz) l[j / R.sz] (List.getElem?_eq_getElem hq) hr
      rw [hd] at h2
      have h3 : (⟨b, o, none⟩ : Addr).add j = ⟨b, o + j, none⟩ := addr_add b o j
      rw [h3] at h1
      simp only [aB, aO, Option.map_some, Option.getD_some]
      rw [h1, ← List.getElem?_eq_getElem, ← h2, List.getElem?_eq_getElem hj]
    · obtain ⟨i, hi', rfl⟩ := List.getElem_of_mem hx
      exact (hlp i hi').2
theorem HV.begin {ro : List Sg} (h : ∀ s, s ∈ ro → segOK w s) : HV w (keys [] []) [] [] ro w :=
  ⟨rfl, rfl, rfl, Nat.le_refl _, fun _ _ _ => rfl, by simp [vbl], by simp [vbl], by simp [vbl], h, by simp [vbl]⟩
theorem segCons {s : Sg} {ro : List Sg} (h : segOK w s) (hr : ∀ t, t ∈ ro → segOK w t) : ∀ t, t ∈ s :: ro → segOK w t := fun t ht => by
  rcases List.mem_cons.1 ht with rfl | ht
  · exact h
  · exact hr t ht
theorem segNil : ∀ t, t ∈ ([] : List Sg) → segOK w t := fun t ht => by cases ht
theorem HV.below {w' : World} (h : HV w (keys [] []) [] [] [] w') : Below w.heap.size w w' := by
  have : Ext [] w w' := HS.toExt h
  exact this.below
end
end Go.Gx

