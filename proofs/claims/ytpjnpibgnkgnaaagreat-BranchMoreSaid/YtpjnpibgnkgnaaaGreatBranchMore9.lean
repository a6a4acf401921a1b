/- What the functions that the law BranchMore reaches come to, and why it holds: part 9. -/
import Derived.Test.YtpjnpibgnkgnaaaGreatBranchMore8
import Derived.Deep.Slices
import Derived.ChangeArms
namespace Go.Proofs.Wb
open Go Go.Fw Go.Gx Go.Sb
set_option linter.unusedVariables false
set_option maxRecDepth 100000
def HOK (l : List Int) (p : Int) : Prop := 0 ≤ p ∧ (p < (l.length : Int) ∨ p = 0)
theorem pick_ok {l : List Int} {p r : Int} (hl : l.length ≤ 9223372036854775807) (hp : HOK l p) : ∃ x, zR l p r = some x ∧ (0 ≤ x.r0 ∧ x.r0 ≤ 32767) ∧ HOK l x.h0_1 := by
  obtain ⟨h0, h1⟩ := hp
  unfold zR
  have e1 : addc p 1 = some (p + 1) := addc_eq (by omega)
  by_cases hlt : p < (l.length : Int)
  · rw [if_pos hlt, ix_eq 0 h0 hlt, e1]
    simp only [Option.bind_some]
    by_cases hge : (l.length : Int) ≤ p + 1
    · rw [if_pos hge]
      exact ⟨_, rfl, Go.Fw.and_bound _ _ rfl, Int.le_refl _, .inr rfl⟩
    · rw [if_neg hge]
      exact ⟨_, rfl, Go.Fw.and_bound _ _ rfl, by simp only; omega, .inl (by simp only; omega)⟩
  · rw [if_neg hlt, e1]
    simp only [Option.bind_some]
    by_cases hge : (l.length : Int) ≤ p + 1
    · rw [if_pos hge]
      exact ⟨_, rfl, Go.Fw.and_bound _ _ rfl, Int.le_refl _, .inr rfl⟩
    · rw [if_neg hge]
      exact ⟨_, rfl, Go.Fw.and_bound _ _ rfl, by simp only; omega, .inl (by simp only; omega)⟩
theorem upto_ok {l : List Int} {p r n : Int} (hl : l.length ≤ 9223372036854775807) (hp : HOK l p) (hn : -1000000 ≤ n ∧ n ≤ 1000000) : ∃ x, jO l p r n = some x ∧ (0 ≤ x.r0 ∧ x.r0 ≤ max 0 n) ∧ HOK l x.h0_1 := by
  obtain ⟨x, hx, hb, hk⟩ := pick_ok (r := r) hl hp
  unfold jO
  rw [hx, Option.bind_some, addc_eq (by omega), Option.bind_some, remc_eq (by omega), Option.bind_some]
  refine ⟨_, rfl, ?_, hk⟩
  have h1 := Int.tmod_nonneg (max 1 (n + 1)) hb.1
  have h2 := Int.tmod_lt_of_pos x.r0 (show 0 < max 1 (n + 1) by omega)
  simp only
  omega
theorem from_ok {l : List Int} {p r lo hi : Int} (hl : l.length ≤ 9223372036854775807) (hp : HOK l p) (hn : (-400000 ≤ lo ∧ lo ≤ 400000) ∧ -400000 ≤ hi ∧ hi ≤ 400000) : ∃ x, yO l p r lo hi = some x ∧ (lo ≤ x.r0 ∧ x.r0 ≤ max lo hi) ∧ HOK l x.h0_1 := by
  unfold yO
  rw [subc_eq (by omega), Option.bind_some]
  obtain ⟨x, hx, hb, hk⟩ := upto_ok (r := r) (n := hi - lo) hl hp (by omega)
  rw [hx, Option.bind_some, addc_eq (by omega), Option.bind_some]
  exact ⟨_, rfl, by simp only; omega, hk⟩
theorem once_ok {l : List Int} {p r n : Int} (hl : l.length ≤ 9223372036854775807) (hp : HOK l p) (hn : -400000 ≤ n ∧ n ≤ 400000) : ∃ x, zk l p r n = some x ∧ HOK l x.h0_1 := by
  unfold zk
  rw [subc_eq (by omega), Option.bind_some]
  obtain ⟨x, hx, hb, hk⟩ := upto_ok (r := r) (n := n - 1) hl hp (by omega)
  rw [hx, Option.bind_some]
  exact ⟨_, rfl, hk⟩
def IsOrd (n : Nat) (l : List Int) : Prop := l.Perm ((List.range n).map fun k : Nat => (k : Int))
theorem ins_ok {l : List Int} {i v : Int} (h0 : 0 ≤ i) (h1 : i ≤ (l.length : Int)) (hl : l.length ≤ 1000) : zV l i [v] = some (l.take i.toNat ++ [v] ++ l.drop i.toNat) := by
  unfold zV
  rw [if_pos ⟨h0, h1, by simp, by simp; omega⟩]
theorem IsOrd.len {n : Nat} {l : List Int} (h : IsOrd n l) : l.length = n := by
  have := List.Perm.length_eq h
  simpa using this
theorem IsOrd.ins {n : Nat} {l : List Int} (h : IsOrd n l) (i : Nat) : IsOrd (n + 1) (l.take i ++ [(n : Int)] ++ l.drop i) := by
  unfold IsOrd
  rw [List.range_succ, List.map_append]
  have e : l.take i ++ [(n : Int)] ++ l.drop i = l.take i ++ (n : Int) :: l.drop i := by simp
  rw [e]
  refine List.perm_middle.trans ?_
  rw [List.take_append_drop]
  refine (List.Perm.cons _ h).trans ?_
  exact (List.perm_append_singleton _ _).symm
theorem order_ok {l : List Int} (hl : l.length ≤ 9223372036854775807) {p r : Int} {n : Nat} (hp : HOK l p) (hn : n ≤ 900) : ∃ x, zz l p r (n : Int) = some x ∧ HOK l x.h0_1 ∧ IsOrd n x.r0 := by
  unfold zz
  have key : ∃ o, iterM FU (yN (n : Int) l) ⟨0, p, r, []⟩ = some o ∧ HOK l o.h0_1 ∧ IsOrd n o.out5 := by
    refine iterM_inv (f := yN (n : Int) l) (fun s => ∃ j : Nat, s.t9 = (j : Int) ∧ j ≤ n ∧ HOK l s.h0_1 ∧ IsOrd j s.out5) (fun s => ((n : Int) - s.t9).toNat) _ (fun s hs => ?_) FU _ (FU_lt (by simp only; omega)) ⟨0, rfl, by omega, hp, List.Perm.refl _⟩
    obtain ⟨j, hj, hjn, hk, ho⟩ := hs
    unfold yN
    rw [hj]
    by_cases hlt : j < n
    · left
      obtain ⟨x, hx, hb, hk2⟩ := upto_ok (r := s.h0_2) (n := (j : Int)) hl hk (by omega)
      have hlen := ho.len
      rw [if_pos (by omega), hx, Option.bind_some, ins_ok hb.1 (by omega) (by omega), Option.bind_some, addc_eq (by omega), Option.bind_some]
      exact ⟨_, rfl, ⟨j + 1, by push_cast; rfl, hlt, hk2, ho.ins _⟩, by simp only; omega⟩
    · right
      rw [if_neg (by omega)]
      have : j = n := by omega
      subst this
      exact ⟨_, rfl, hk, ho⟩
  obtain ⟨o, h1, h2, h3⟩ := key
  rw [h1, Option.bind_some]
  exact ⟨_, rfl, h2, h3⟩
theorem chk_right {c : Channel} (r : Right c) (h8 : c.sights.length ≤ 8) : chk c = 0 := by
  unfold chk
  have h1 : okMany c = true := okMany_iff.2 ⟨r.cells, r.tides, r.fords, r.sands, h8⟩
  have h2 : okLimit c = true := by
    simp only [okLimit, Bool.and_eq_true, List.all_eq_true, inb_iff]
    exact ⟨r.reach, r.after⟩
  have h3 : okMiss c = true := by
    simp only [okMiss, Bool.and_eq_true, List.all_eq_true, inb_iff]
    refine ⟨⟨fun x hx => ?_, fun s hs => ?_⟩, fun s hs => ?_⟩
    · have := r.fcell x hx; omega
    · have := r.span s hs; omega
    · have := r.scell s hs; omega
  have h4 : okOrder c = true := by
    simp only [okOrder, Bool.and_eq_true, List.all_eq_true, decide_eq_true_eq]
    exact ⟨r.up, fun s hs => (r.span s hs).2.2⟩
  rw [if_pos h1, if_pos h2, if_pos h3, if_pos h4]
theorem lawReach_eq {c : Channel} (h : c.sands.length ≤ 100) (x : Int) : q6 c x = some (rchC c.sands x) := by
  unfold q6
  have key := iterM_run (f := qW c x) (fun j => ⟨rchC (c.sands.take j) x, (j : Int)⟩) c.sands.length (b := rchC c.sands x) (fun j hj => ?_) ?_ FU (FU_lt (by omega))
  · simp only [List.take_zero] at key
    rw [show (⟨0, 0⟩ : qV) = ⟨rchC [] x, ((0 : Nat) : Int)⟩ from rfl, key]
    rfl
  · have e : c.sands.take (j + 1) = c.sands.take j ++ [c.sands[j]] := by rw [List.take_append_getElem]
    have hx : c.sands.getD j default = c.sands[j] := by simp [List.getD_eq_getElem?_getD, hj]
    unfold qW
    simp only
    rw [if_pos (by omega), ix_nat default hj, Option.bind_some, hx, e, rchC_snoc, addc_eq (by omega)]
    unfold stepR
    by_cases h1 : c.sands[j].span.lo ≤ x
    · rw [if_pos h1, Option.bind_some]
      by_cases h2 : x ≤ c.sands[j].span.hi
      · rw [if_pos (decide_eq_true h2), if_pos ⟨h1, h2⟩]; rfl
      · rw [if_neg (by simpa using h2), if_neg (fun q => h2 q.2)]; rfl
    · rw [if_neg h1, Option.bind_some, if_neg (by decide), if_neg (fun q => h1 q.1)]; rfl
  · unfold qW
    simp only
    rw [if_neg (by omega), List.take_length]
def freeB (cells : Int) (r0 : List Int) (i : Nat) (v : Int) : Bool := decide (0 ≤ v) && (decide (v < cells) && ((decide (i = 0) || decide (r0.getD (i - 1) (-1) < v)) && (decide (i + 1 = r0.length) || decide (v < r0.getD (i + 1) (-1)))))
theorem cond_eq {v cells : Int} {i : Nat} {r0 : List Int} (hi : i < r0.length) (hn : r0.length ≤ 1000) : (if 0 ≤ v then
 (if v < cells then
 (if (i : Int) = 0 then
 ((subc (r0.length : Int) 1).bind fun t82 =>
 if (i : Int) = t82 then
 (some true) else
 ((addc (i : Int) 1).bind fun t88 =>
 (ix r0 t88).bind fun t89 =>
 some (decide (v < t89)))) else
 ((subc (i : Int) 1).bind fun t72 =>
 (ix r0 t72).bind fun t73 =>
 if t73 < v then
 ((subc (r0.length : Int) 1).bind fun t82_1 =>
 if (i : Int) = t82_1 then
 (some true) else
 ((addc (i : Int) 1).bind fun t88_1 =>
 (ix r0 t88_1).bind fun t89_1 =>
 some (decide (v < t89_1)))) else
 (some false))) else
 (some false)) else
 (some false) : Option Bool) = some (freeB cells r0 i v) := by
  have tail : ((subc (r0.length : Int) 1).bind fun t82 => if (i : Int) = t82 then (some true) else ((addc (i : Int) 1).bind fun t88 => (ix r0 t88).bind fun t89 => some (decide (v < t89)))) = some (decide (i + 1 = r0.length) || decide (v < r0.getD (i + 1) (-1))) := by
    rw [subc_eq (by omega), Option.bind_some]
    by_cases h : i + 1 = r0.length
    · rw [if_pos (by omega), decide_eq_true h, Bool.true_or]
    · rw [if_neg (by omega), addc_eq (by omega), Option.bind_some, show (i : Int) + 1 = ((i + 1 : Nat) : Int) by omega, ix_nat (-1) (by omega), Option.bind_some, decide_eq_false h, Bool.false_or]
  unfold freeB
  by_cases h1 : 0 ≤ v
  · rw [if_pos h1, decide_eq_true h1, Bool.true_and]
    by_cases h2 : v < cells
    · rw [if_pos h2, decide_eq_true h2, Bool.true_and, tail]
      by_cases h3 : i = 0
      · rw [if_pos (by omega), decide_eq_true h3, Bool.true_or, Bool.true_and]
      · rw [if_neg (by omega), subc_eq (by omega), Option.bind_some, show (i : Int) - 1 = ((i - 1 : Nat) : Int) by omega, ix_nat (-1) (by omega), Option.bind_some, decide_eq_false h3, Bool.false_or]
        by_cases h4 : r0.getD (i - 1) (-1) < v
        · rw [if_pos h4, decide_eq_true h4, Bool.true_and]
        · rw [if_neg h4, decide_eq_false h4, Bool.false_and]
    · rw [if_neg h2, decide_eq_false h2, Bool.false_and]
  · rw [if_neg h1, decide_eq_false h1, Bool.false_and]
theorem getD_set {l : List Int} {i j : Nat} {v d : Int} (hi : i < l.length) : (l.set i v).getD j d = if j = i then v else l.getD j d := by
  rw [List.getD_eq_getElem?_getD, List.getElem?_set, List.getD_eq_getElem?_getD]
  by_cases h : i = j
  · subst h; simp [hi]
  · rw [if_neg h, if_neg (fun e => h e.symm)]
theorem row_set {c : Channel} {a b : List Int} (hb : rowB c b = true) (hab : a.length = b.length) (hc : canB c.sands a b = true) {i : Nat} (hi : i < b.length) {v : Int} (hf : freeB c.cells b i v = true) (hv : a.getD i (-1) - rchC c.sands (a.getD i (-1)) ≤ v ∧ v ≤ a.getD i (-1) + rchC c.sands (a.getD i (-1))) : rowB c (b.set i v) = true ∧ canB c.sands a (b.set i v) = true := by
  unfold freeB at hf
  simp only [Bool.and_eq_true, Bool.or_eq_true, decide_eq_true_eq] at hf
  obtain ⟨f1, f2, f3, f4⟩ := hf
  obtain ⟨b1, b2, b3⟩ := rowB_iff.1 hb
  constructor
  · refine rowB_iff.2 ⟨by rw [List.length_set]; exact b1, upB_ix.2 fun j hj => ?_, fun x hx => ?_⟩
    · rw [List.length_set] at hj
      rw [getD_set hi, getD_set hi]
      have hb' := upB_ix.1 b2 j hj
      by_cases h1 : j = i
      · subst h1
        rw [if_pos rfl, if_neg (by omega)]
        rcases f4 with f4 | f4
        · omega
        · exact f4
      · rw [if_neg h1]
        by_cases h2 : j + 1 = i
        · rw [if_pos h2]
          rcases f3 with f3 | f3
          · omega
          · rw [← h2, Nat.add_sub_cancel] at f3; exact f3
        · rw [if_neg h2]; exact hb'
    · rcases List.mem_or_eq_of_mem_set hx with h | h
      · exact b3 x h
      · omega
  · unfold canB at hc ⊢
    rw [List.all_eq_true] at hc ⊢
    intro j hj
    have h0 := hc j hj
    rw [getD_set hi]
    by_cases h1 : j = i
    · subst h1
      rw [if_pos rfl, inb_iff]
      omega
    · rw [if_neg h1]; exact h0
theorem walk_L1 {l : List Int} (hl : l.length ≤ 9223372036854775807) {c : Channel} (r : Right c) {a : List Int} (ha : rowB c a = true) {t : y8} (ho : IsOrd a.length t.r0) {p q : Int} (hp : HOK l p) :
    ∃ o, iterM FU (qo t a c l) ⟨0, p, q, a⟩ = some o ∧ HOK l o.b0_1 ∧ rowB c o.r0 = true ∧ canB c.sands a o.r0 = true := by
  have hc := r.cells
  have hf := r.fords
  have hs := r.sands
  have hlen := ho.len
  obtain ⟨a1, a2, a3⟩ := rowB_iff.1 ha
  refine iterM_inv (f := qo t a c l) (fun s => (0 ≤ s.t33 ∧ s.t33 ≤ (t.r0.length : Int)) ∧ HOK l s.b0_1 ∧ rowB c s.r0 = true ∧ canB c.sands a s.r0 = true) (fun s => ((t.r0.length : Int) - s.t33).toNat) _ (fun s hs => ?_) FU _ (FU_lt (by simp only; omega)) ⟨by simp only; omega, hp, ha, canB_self r a⟩
  obtain ⟨h0, hk, hr, hcn⟩ := hs
  obtain ⟨b1, b2, b3⟩ := rowB_iff.1 hr
  unfold qo
  by_cases hlt : s.t33 < (t.r0.length : Int)
  · left
    have hm : t.r0.getD s.t33.toNat 0 ∈ t.r0 := getD_mem (by omega)
    obtain ⟨i, hi, he⟩ := List.mem_map.1 ((List.Perm.mem_iff ho).1 hm)
    have hi' : i < a.length := by simpa using hi
    have h1 := a3 _ (getD_mem (d := -1) hi')
    have h2 := rchC_bounds (x := a.getD i (-1)) r.reach
    obtain ⟨x, hx, hb, hk2⟩ := from_ok (r := s.b0_2) (lo := -rchC c.sands (a.getD i (-1))) (hi := rchC c.sands (a.getD i (-1))) hl hk (by omega)
    have hneg : negc (rchC c.sands (a.getD i (-1))) = some (-rchC c.sands (a.getD i (-1))) := negc_eq (by omega)
    rw [if_pos hlt, ix_eq 0 h0.1 hlt, Option.bind_some, ← he, ix_nat (-1) hi']
    simp only [Option.bind_some]
    rw [lawReach_eq (by omega)]
    simp only [Option.bind_some]
    rw [hneg]
    simp only [Option.bind_some]
    rw [hx]
    simp only [Option.bind_some]
    rw [addc_eq (by omega)]
    simp only [Option.bind_some]
    rw [cond_eq (by omega) (by omega), addc_eq (by omega)]
    simp only [Option.bind_some]
    by_cases hfr : freeB c.cells s.r0 i (a.getD i (-1) + x.r0) = true
    · rw [if_pos hfr, ix_nat (-1) (by omega)]
      simp only [Option.bind_some, Int.toNat_natCast]
      obtain ⟨g1, g2⟩ := row_set hr (by omega) hcn (by omega) hfr (by omega)
      exact ⟨_, rfl, ⟨by simp only; omega, hk2, g1, g2⟩, by simp only; omega⟩
    · rw [if_neg hfr]
      simp only [Option.bind_some]
      exact ⟨_, rfl, ⟨by simp only; omega, hk2, hr, hcn⟩, by simp only; omega⟩
  · right
    rw [if_neg hlt]
    exact ⟨_, rfl, hk, hr, hcn⟩
structure WalkC (c : Channel) (n : Nat) (crs : List (List Int)) : Prop where
  len : crs.length = n + 1
  fst : crs.getD 0 [] = c.fords
  row : ∀ k, k ≤ n → rowB c (crs.getD k []) = true
  can : ∀ k, k < n → canB c.sands (crs.getD k []) (crs.getD (k + 1) []) = true
theorem getD_snoc {α : Type} {l : List α} {x d : α} {k : Nat} : (l ++ [x]).getD k d = if k < l.length then l.getD k d else if k = l.length then x else d := by
  rw [List.getD_eq_getElem?_getD, List.getD_eq_getElem?_getD]
  by_cases h : k < l.length
  · rw [if_pos h, List.getElem?_append_left h]
  · rw [if_neg h]
    by_cases h2 : k = l.length
    · rw [if_pos h2]; subst h2; simp
    · rw [if_neg h2, List.getElem?_eq_none (by simp; omega)]; rfl
theorem WalkC.snoc {c : Channel} {n : Nat} {crs : List (List Int)} (h : WalkC c n crs) {b : List Int} (hb : rowB c b = true) (hc : canB c.sands (crs.getD n []) b = true) : WalkC c (n + 1) (crs ++ [b]) := by
  have hl := h.len
  refine ⟨by simp; omega, ?_, fun k hk => ?_, fun k hk => ?_⟩
  · rw [getD_snoc, if_pos (by omega)]; exact h.fst
  · rw [getD_snoc]
    by_cases h1 : k < crs.length
    · rw [if_pos h1]; exact h.row k (by omega)
    · rw [if_neg h1, if_pos (by omega)]; exact hb
  · rw [getD_snoc, getD_snoc, if_pos (by omega)]
    by_cases h1 : k + 1 < crs.length
    · rw [if_pos h1]; exact h.can k (by omega)
    · rw [if_neg h1, if_pos (by omega)]
      obtain rfl : k = n := by omega
      exact hc
theorem walked_ok {l : List Int} (hl : l.length ≤ 9223372036854775807) {c : Channel} (r : Right c) {p q : Int} (hp : HOK l p) : ∃ x, qX l p q c = some x ∧ HOK l x.b0_1 ∧ WalkC c c.tides.toNat x.r0 := by
  have ht := r.tides
  have hf := r.fords
  have hrow : rowB c c.fords = true := rowB_iff.2 ⟨rfl, r.up, r.fcell⟩
  unfold qX
  rw [Y9 (by omega), Option.bind_some]
  have key : ∃ o, iterM FU (qm c l) ⟨0, p, q, [c.fords]⟩ = some o ∧ HOK l o.b0_1 ∧ WalkC c c.tides.toNat o.out5 := by
    refine iterM_inv (f := qm c l) (fun s => (0 ≤ s.t17 ∧ s.t17 ≤ c.tides) ∧ HOK l s.b0_1 ∧ WalkC c s.t17.toNat s.out5) (fun s => (c.tides - s.t17).toNat) _ (fun s hs => ?_) FU _ (FU_lt (by simp only; omega)) ⟨by simp only; omega, hp, ⟨rfl, rfl, fun k hk => ?_, fun k hk => ?_⟩⟩
    · obtain ⟨h0, hk, hw⟩ := hs
      unfold qm
      by_cases hlt : s.t17 < c.tides
      · left
        have hlen := hw.len
        have ha := hw.row s.t17.toNat (Nat.le_refl _)
        have ha' := (rowB_iff.1 ha).1
        rw [if_pos hlt, subc_eq (by omega), Option.bind_some, ix_eq [] (by omega) (by omega), Option.bind_some, show ((s.out5.length : Int) - 1).toNat = s.t17.toNat by omega, Y9 (by omega), Option.bind_some, Y9 (by omega), Option.bind_some]
        obtain ⟨t, h1, h2, h3⟩ := order_ok (r := s.b0_2) (n := (s.out5.getD s.t17.toNat []).length) hl hk (by omega)
        rw [h1, Option.bind_some]
        obtain ⟨o, g1, g2, g3, g4⟩ := walk_L1 (q := t.h0_2) hl r ha h3 h2
        rw [g1, Option.bind_some, appc_eq (by simp; omega), Option.bind_some, addc_eq (by omega), Option.bind_some]
        refine ⟨_, rfl, ⟨by simp only; omega, g2, ?_⟩, by simp only; omega⟩
        have := hw.snoc g3 g4
        simp only
        rw [show (s.t17 + 1).toNat = s.t17.toNat + 1 by omega]
        exact this
      · right
        rw [if_neg hlt]
        refine ⟨_, rfl, hk, ?_⟩
        rw [show c.tides.toNat = s.t17.toNat by omega]
        exact hw
    · have hk0 : k = 0 := by simpa using hk
      subst hk0
      exact hrow
    · simp at hk
  obtain ⟨o, h1, h2, h3⟩ := key
  rw [h1, Option.bind_some]
  exact ⟨_, rfl, h2, h3⟩
end Go.Proofs.Wb

namespace Go.Proofs.Wb
open Go Go.Fw Go.Gx Go.Sb
set_option linter.unusedVariables false
set_option maxRecDepth 100000
structure MadeC (c : Channel) (cells fords tides : Int) : Prop where
  right : Right c
  none : c.sights = []
  cells : 3 ≤ c.cells ∧ c.cells ≤ cells
  fords : (c.fords.length : Int) ≤ fords
  tides : c.tides ≤ tides
theorem upB_snoc {f : List Int} {v : Int} (h : upB f = true) (hv : ∀ x ∈ f, x < v) : upB (f ++ [v]) = true := by
  rw [upB_ix] at *
  intro i hi
  rw [List.length_append, List.length_singleton] at hi
  rw [getD_snoc, getD_snoc, if_pos (by omega)]
  by_cases h1 : i + 1 < f.length
  · rw [if_pos h1]; exact h i h1
  · rw [if_neg h1, if_pos (by omega)]
    exact hv _ (getD_mem (by omega))
theorem made_L0 {l : List Int} (hl : l.length ≤ 9223372036854775807) {t : q7} (ht : 3 ≤ t.r0 ∧ t.r0 ≤ 9) {f : Int} (hf : 1 ≤ f ∧ f ≤ 3) {p q : Int} (hp : HOK l p) :
    ∃ o, iterM FU (qH t f l) ⟨0, p, q, []⟩ = some o ∧ HOK l o.b0_1 ∧ upB o.c10_fords = true ∧ (∀ x ∈ o.c10_fords, 0 ≤ x ∧ x < t.r0) ∧ 1 ≤ o.c10_fords.length ∧ (o.c10_fords.length : Int) ≤ f := by
  refine iterM_inv (f := qH t f l) (fun s => (0 ≤ s.t22 ∧ s.t22 ≤ t.r0) ∧ HOK l s.b0_1 ∧ upB s.c10_fords = true ∧ (∀ x ∈ s.c10_fords, 0 ≤ x ∧ x < s.t22) ∧ (s.c10_fords.length : Int) ≤ f ∧ (s.t22 = t.r0 → 1 ≤ s.c10_fords.length)) (fun s => (t.r0 - s.t22).toNat) _ (fun s hs => ?_) FU _ (FU_lt (by simp only; omega)) ⟨by simp only; omega, hp, rfl, by simp, by simp only; simp; omega, fun h => by simp only at h; omega⟩
  obtain ⟨h0, hk, hu, hx, hlen, hne⟩ := hs
  unfold qH
  by_cases hlt : s.t22 < t.r0
  · left
    rw [if_pos hlt, addc_eq (by omega)]
    -- with this cell
    have yes : ∀ (b1 b2 : Int), HOK l b1 → (s.c10_fords.length : Int) < f → ∃ s', ((appc 8 s.c10_fords [s.t22]).bind fun t51 => some (⟨b1, b2, t51⟩ : yA)).bind (fun o_1 => (some (s.t22 + 1)).bind fun t53 => some (Sum.inl (⟨t53, o_1.b0_1, o_1.b0_2, o_1.c10_fords⟩ : j4) : j4 ⊕ yF)) = some (.inl s') ∧ ((0 ≤ s'.t22 ∧ s'.t22 ≤ t.r0) ∧ HOK l s'.b0_1 ∧ upB s'.c10_fords = true ∧ (∀ x ∈ s'.c10_fords, 0 ≤ x ∧ x < s'.t22) ∧ (s'.c10_fords.length : Int) ≤ f ∧ (s'.t22 = t.r0 → 1 ≤ s'.c10_fords.length)) ∧ (t.r0 - s'.t22).toNat < (t.r0 - s.t22).toNat := by
      intro b1 b2 hb hff
      rw [appc_eq (by simp; omega)]
      simp only [Option.bind_some]
      refine ⟨_, rfl, ⟨by simp only; omega, hb, upB_snoc hu (fun x hx' => (hx x hx').2), fun x hx' => ?_, by simp; omega, fun _ => by simp⟩, by simp only; omega⟩
      simp only
      rcases List.mem_append.1 hx' with h | h
      · have := hx x h; omega
      · rw [List.mem_singleton] at h; omega
    have no : ∀ (b1 b2 : Int), HOK l b1 → (s.t22 + 1 = t.r0 → 1 ≤ s.c10_fords.length) → ∃ s', (some (⟨b1, b2, s.c10_fords⟩ : yA)).bind (fun o_1 => (some (s.t22 + 1)).bind fun t53 => some (Sum.inl (⟨t53, o_1.b0_1, o_1.b0_2, o_1.c10_fords⟩ : j4) : j4 ⊕ yF)) = some (.inl s') ∧ ((0 ≤ s'.t22 ∧ s'.t22 ≤ t.r0) ∧ HOK l s'.b0_1 ∧ upB s'.c10_fords = true ∧ (∀ x ∈ s'.c10_fords, 0 ≤ x ∧ x < s'.t22) ∧ (s'.c10_fords.length : Int) ≤ f ∧ (s'.t22 = t.r0 → 1 ≤ s'.c10_fords.length)) ∧ (t.r0 - s'.t22).toNat < (t.r0 - s.t22).toNat := by
      intro b1 b2 hb hff
      simp only [Option.bind_some]
      exact ⟨_, rfl, ⟨by simp only; omega, hb, hu, fun x hx' => by have := hx x hx'; simp only; omega, hlen, hff⟩, by simp only; omega⟩
    by_cases h1 : (s.c10_fords.length : Int) < f
    · obtain ⟨x, hx', hk2⟩ := once_ok (r := s.b0_2) (n := 3) hl hk (by omega)
      rw [if_pos h1, hx', Option.bind_some]
      by_cases h2 : x.r0 = true
      · rw [if_pos h2, Option.bind_some, if_pos rfl]
        exact yes _ _ hk2 h1
      · rw [if_neg h2, subc_eq (by omega), Option.bind_some]
        by_cases h3 : s.t22 = t.r0 - 1
        · rw [if_pos h3, Option.bind_some]
          by_cases h4 : (s.c10_fords.length : Int) = 0
          · rw [if_pos (decide_eq_true h4)]
            exact yes _ _ hk2 h1
          · rw [if_neg (by simpa using h4)]
            exact no _ _ hk2 (fun _ => by omega)
        · rw [if_neg h3, Option.bind_some, if_neg Bool.false_ne_true]
          exact no _ _ hk2 (fun q => by omega)
    · rw [if_neg h1, Option.bind_some, if_neg Bool.false_ne_true]
      exact no _ _ hk (fun _ => by omega)
  · right
    rw [if_neg hlt]
    have : s.t22 = t.r0 := by omega
    exact ⟨_, rfl, hk, hu, fun x hx' => by have := hx x hx'; omega, hne this, hlen⟩
theorem made_L1 {l : List Int} (hl : l.length ≤ 9223372036854775807) {t : q7} (ht : 3 ≤ t.r0 ∧ t.r0 ≤ 9) {u : yH} (hu : 0 ≤ u.r0 ∧ u.r0 ≤ 4) {p q : Int} (hp : HOK l p) :
    ∃ o, iterM FU (qK u t l) ⟨0, p, q, []⟩ = some o ∧ HOK l o.b0_1 ∧ o.c10_sands.length ≤ 4 ∧ ∀ s ∈ o.c10_sands, (1 ≤ s.reach ∧ s.reach ≤ 2) ∧ 0 ≤ s.span.lo ∧ s.span.hi < t.r0 ∧ s.span.lo ≤ s.span.hi := by
  refine iterM_inv (f := qK u t l) (fun s => (0 ≤ s.t56 ∧ s.t56 ≤ u.r0) ∧ HOK l s.b0_1 ∧ (s.c10_sands.length : Int) = s.t56 ∧ ∀ w ∈ s.c10_sands, (1 ≤ w.reach ∧ w.reach ≤ 2) ∧ 0 ≤ w.span.lo ∧ w.span.hi < t.r0 ∧ w.span.lo ≤ w.span.hi) (fun s => (u.r0 - s.t56).toNat) _ (fun s hs => ?_) FU _ (FU_lt (by simp only; omega)) ⟨by simp only; omega, hp, rfl, by simp⟩
  obtain ⟨h0, hk, hlen, hx⟩ := hs
  unfold qK
  by_cases hlt : s.t56 < u.r0
  · left
    rw [if_pos hlt, subc_eq (by omega), Option.bind_some]
    obtain ⟨x, hx1, hb1, hk1⟩ := upto_ok (r := s.b0_2) (n := t.r0 - 1) hl hk (by omega)
    rw [hx1, Option.bind_some, Option.bind_some]
    obtain ⟨y, hy1, hb2, hk2⟩ := upto_ok (r := x.h0_2) (n := 4) hl hk1 (by omega)
    rw [hy1, Option.bind_some, addc_eq (by omega), Option.bind_some]
    obtain ⟨z, hz1, hb3, hk3⟩ := from_ok (r := y.h0_2) (lo := 1) (hi := 2) hl hk2 (by omega)
    rw [hz1, Option.bind_some, appc_eq (by simp; omega), Option.bind_some, Option.bind_some, addc_eq (by omega), Option.bind_some]
    refine ⟨_, rfl, ⟨by simp only; omega, hk3, by simp; omega, fun w hw => ?_⟩, by simp only; omega⟩
    rcases List.mem_append.1 hw with h | h
    · exact hx w h
    · rw [List.mem_singleton] at h
      subst h
      simp only
      omega
  · right
    rw [if_neg hlt]
    exact ⟨_, rfl, hk, by simp only; omega, hx⟩
theorem made_ok {l : List Int} (hl : l.length ≤ 9223372036854775807) {p q cells fords tides : Int} (hp : HOK l p) (hc : 3 ≤ cells ∧ cells ≤ 9) (hf : 1 ≤ fords ∧ fords ≤ 3) (ht : 0 ≤ tides ∧ tides ≤ 4) : ∃ x, qM l p q cells fords tides = some x ∧ HOK l x.b0_1 ∧ MadeC x.r0 cells fords tides ∧ WalkC x.r0 x.r0.tides.toNat x.r1 := by
  unfold qM
  obtain ⟨x, hx, hb, hk⟩ := from_ok (r := q) (lo := 3) (hi := cells) hl hp (by omega)
  rw [hx, Option.bind_some]
  obtain ⟨y, hy, hb2, hk2⟩ := upto_ok (r := x.h0_2) (n := tides) hl hk (by omega)
  rw [hy, Option.bind_some]
  obtain ⟨o, ho, hk3, o1, o2, o3, o4⟩ := made_L0 (q := y.h0_2) (t := x) hl (by omega) hf hk2
  rw [ho, Option.bind_some]
  obtain ⟨u, hu, hb4, hk4⟩ := upto_ok (r := o.b0_2) (n := 4) hl hk3 (by omega)
  rw [hu, Option.bind_some]
  obtain ⟨v, hv, hk5, v1, v2⟩ := made_L1 (q := u.h0_2) (t := x) (u := u) hl (by omega) (by omega) hk4
  rw [hv, Option.bind_some]
  have r : Right ⟨x.r0, y.r0, o.c10_fords, v.c10_sands, []⟩ := ⟨by simp only; omega, by simp only; omega, by simp only; omega, v1, by simp, fun s hs => (v2 s hs).1, by simp, o2, fun s hs => (v2 s hs).2, by simp, o1⟩
  obtain ⟨w, hw, hk6, w1⟩ := walked_ok (q := v.b0_2) hl r hk5
  rw [hw, Option.bind_some]
  exact ⟨_, rfl, hk6, ⟨r, rfl, by simp only; omega, by simp only; omega, by simp only; omega⟩, w1⟩
structure SeenC (c : Channel) (crs : List (List Int)) (s : Sight) : Prop where
  after : 0 ≤ s.after ∧ s.after ≤ c.tides
  cell : 0 ≤ s.cell ∧ s.cell < c.cells
  up : s.upright = decide (s.cell ∈ crs.getD s.after.toNat [])
theorem seen_ok {l : List Int} (hl : l.length ≤ 9223372036854775807) {c : Channel} (r : Right c) {crs : List (List Int)} (hw : WalkC c c.tides.toNat crs) {p q most : Int} (hp : HOK l p) (hm : 0 ≤ most ∧ most ≤ 8) : ∃ x, qO l p q c crs most = some x ∧ HOK l x.b0_1 ∧ (x.r0.length : Int) ≤ most ∧ ∀ s ∈ x.r0, SeenC c crs s := by
  have hc := r.cells
  have hf := r.fords
  have ht := r.tides
  have hcl := hw.len
  unfold qO
  obtain ⟨u, hu, hb, hk⟩ := upto_ok (r := q) (n := most) hl hp (by omega)
  rw [hu, Option.bind_some]
  have key : ∃ o, iterM FU (qB u c l crs) ⟨0, u.h0_1, u.h0_2, []⟩ = some o ∧ HOK l o.b0_1 ∧ (o.out9.length : Int) = u.r0 ∧ ∀ s ∈ o.out9, SeenC c crs s := by
    refine iterM_inv (f := qB u c l crs) (fun s => (0 ≤ s.t14 ∧ s.t14 ≤ u.r0) ∧ HOK l s.b0_1 ∧ (s.out9.length : Int) = s.t14 ∧ ∀ w ∈ s.out9, SeenC c crs w) (fun s => (u.r0 - s.t14).toNat) _ (fun s hs => ?_) FU _ (FU_lt (by simp only; omega)) ⟨by simp only; omega, hk, rfl, by simp⟩
    obtain ⟨h0, hk0, hlen, hx⟩ := hs
    unfold qB
    by_cases hlt : s.t14 < u.r0
    · left
      rw [if_pos hlt, subc_eq (by omega), Option.bind_some]
      obtain ⟨x, hx1, hb1, hk1⟩ := upto_ok (r := s.b0_2) (n := c.tides) hl hk0 (by omega)
      rw [hx1, Option.bind_some]
      obtain ⟨y, hy1, hb2, hk2⟩ := upto_ok (r := x.h0_2) (n := c.cells - 1) hl hk1 (by omega)
      rw [hy1, Option.bind_some, Option.bind_some]
      obtain ⟨z, hz1, hk3⟩ := once_ok (r := y.h0_2) (n := 2) hl hk2 (by omega)
      have hrow := hw.row x.r0.toNat (by omega)
      obtain ⟨r1, r2, r3⟩ := rowB_iff.1 hrow
      have hixr : ix crs x.r0 = some (crs.getD x.r0.toNat []) := ix_eq [] (by omega) (by omega)
      have fin : ∀ (b1 b2 ce : Int), HOK l b1 → (0 ≤ ce ∧ ce < c.cells) → ∃ s', (ix crs x.r0).bind (fun t45 => (jy t45 ce).bind fun t49 => (appc 24 s.out9 [(⟨x.r0, ce, t49⟩ : Sight)]).bind fun t54 => (addc s.t14 1).bind fun t55 => some (Sum.inl (⟨t55, b1, b2, t54⟩ : kX) : kX ⊕ zn)) = some (.inl s') ∧ ((0 ≤ s'.t14 ∧ s'.t14 ≤ u.r0) ∧ HOK l s'.b0_1 ∧ (s'.out9.length : Int) = s'.t14 ∧ ∀ s ∈ s'.out9, SeenC c crs s) ∧ (u.r0 - s'.t14).toNat < (u.r0 - s.t14).toNat := by
        intro b1 b2 ce hb hce
        rw [hixr, Option.bind_some, yy (by omega), Option.bind_some, appc_eq (by simp; omega), Option.bind_some, addc_eq (by omega), Option.bind_some]
        refine ⟨_, rfl, ⟨by simp only; omega, hb, by simp; omega, fun w hw' => ?_⟩, by simp only; omega⟩
        rcases List.mem_append.1 hw' with h | h
        · exact hx w h
        · rw [List.mem_singleton] at h
          subst h
          exact ⟨by simp only; omega, hce, rfl⟩
      rw [hz1, Option.bind_some]
      by_cases h2 : z.r0 = true
      · rw [if_pos h2]
        obtain ⟨v, hv1, hb4, hk4⟩ := upto_ok (r := z.h0_2) (n := (c.fords.length : Int) - 1) hl hk3 (by omega)
        have hce : ix (crs.getD x.r0.toNat []) v.r0 = some ((crs.getD x.r0.toNat []).getD v.r0.toNat 0) := ix_eq 0 (by omega) (by omega)
        have hm2 := r3 _ (getD_mem (d := 0) (l := crs.getD x.r0.toNat []) (i := v.r0.toNat) (by omega))
        simp only
        rw [hixr, Option.bind_some, subc_eq (by omega), Option.bind_some, hv1, Option.bind_some, hce, Option.bind_some, Option.bind_some, ← hixr]
        exact fin _ _ _ hk4 hm2
      · rw [if_neg h2, Option.bind_some]
        exact fin _ _ _ hk3 (by simp only; omega)
    · right
      rw [if_neg hlt]
      exact ⟨_, rfl, hk0, by simp only; omega, hx⟩
  obtain ⟨o, h1, h2, h3, h4⟩ := key
  rw [h1, Option.bind_some]
  exact ⟨_, rfl, h2, by simp only; omega, h4⟩
theorem right_sights {c : Channel} (r : Right c) {sg : List Sight} (hn : sg.length ≤ 8) (h : ∀ s ∈ sg, (0 ≤ s.after ∧ s.after ≤ c.tides) ∧ 0 ≤ s.cell ∧ s.cell < c.cells) : Right ⟨c.cells, c.tides, c.fords, c.sands, sg⟩ := ⟨r.cells, r.tides, r.fords, r.sands, by simp only; omega, r.reach, fun s hs => (h s hs).1, r.fcell, r.span, fun s hs => (h s hs).2, r.up⟩
theorem real_on {c : Channel} (r : Right c) {crs : List (List Int)} (hw : WalkC c c.tides.toNat crs) (hag : ∀ k : Nat, k ≤ c.tides.toNat → agP tt c.sights (k : Int) (crs.getD k []) = true) : ∀ k : Nat, k ≤ c.tides.toNat → onB c k (crs.getD k []) = true := by
  have hc := r.cells
  have hmem : ∀ k, k ≤ c.tides.toNat → crs.getD k [] ∈ LL c := fun k hk => (mem_LL (by omega)).2 (hw.row k hk)
  have fwd : ∀ k : Nat, k ≤ c.tides.toNat → 0 < FcL tt c k (crs.getD k []) := by
    intro k
    induction k with
    | zero => intro hk; rw [FcL, if_pos ⟨hag 0 hk, hw.fst⟩]; omega
    | succ k ih => intro hk; exact FcL_succ_pos.2 ⟨hag (k + 1) hk, _, hmem k (by omega), hw.can k (by omega), ih (by omega)⟩
  have bwd : ∀ j k : Nat, k + j = c.tides.toNat → 0 < R (nxS c) (agS tt c) j (stL k (crs.getD k [])) := by
    intro j
    induction j with
    | zero =>
      intro k hk
      rw [R, agS_stL r (hw.row k (by omega)), if_pos (hag k (by omega))]
      omega
    | succ j ih =>
      intro k hk
      refine R_succ_pos.2 ⟨?_, stL (k + 1) (crs.getD (k + 1) []), ?_, ih (k + 1) (by omega)⟩
      · rw [agS_stL r (hw.row k (by omega))]; exact hag k (by omega)
      · exact (mem_nx_stL r (hw.row k (by omega)) (hw.row (k + 1) (by omega))).2 (hw.can k (by omega))
  intro k hk
  unfold onB
  rw [decide_eq_true (fwd k hk), decide_eq_true (bwd _ k (by omega))]
  rfl
theorem on_cnt {c : Channel} (r : Right c) {l : List Int} (hl : l ∈ LL c) (h : onB c c.tides.toNat l = true) : 0 < cntS tt c := by
  unfold onB at h
  rw [Bool.and_eq_true, decide_eq_true_eq] at h
  rw [cntS_sum r]
  exact sumN_pos.2 ⟨l, hl, h.1⟩
theorem seen_ag {c : Channel} {crs : List (List Int)} {sg : List Sight} (h : ∀ s ∈ sg, SeenC c crs s) (k : Nat) : agP tt sg (k : Int) (crs.getD k []) = true := by
  rw [agP_iff]
  intro i hi _ ha
  have hm : sg.getD i default ∈ sg := by
    rw [List.getD_eq_getElem?_getD, List.getElem?_eq_getElem hi]
    exact List.getElem_mem hi
  have := (h _ hm).up
  rw [ha, Int.toNat_natCast] at this
  exact this.symm
theorem pile_eq (l : List Int) : YG l = some ⟨0, 0⟩ := rfl
theorem HOK_zero (l : List Int) : HOK l 0 := ⟨Int.le_refl _, .inr rfl⟩
end Go.Proofs.Wb

namespace Go.Proofs.Wb
open Go Go.Fw Go.Gx Go.Sb
set_option linter.unusedVariables false
set_option maxRecDepth 100000
theorem made_seen {l : List Int} (hl : l.length ≤ 9223372036854775807) {cells fords tides most : Int} (hc : 3 ≤ cells ∧ cells ≤ 9) (hf : 1 ≤ fords ∧ fords ≤ 3) (ht : 0 ≤ tides ∧ tides ≤ 4) (hm : 0 ≤ most ∧ most ≤ 8) : ∃ x y, qM l 0 0 cells fords tides = some x ∧ qO l x.b0_1 x.b0_2 x.r0 x.r1 most = some y ∧ MadeC x.r0 cells fords tides ∧ WalkC x.r0 x.r0.tides.toNat x.r1 ∧ HOK l y.b0_1 ∧ (y.r0.length : Int) ≤ most ∧ ∀ s ∈ y.r0, SeenC x.r0 x.r1 s := by
  obtain ⟨x, h1, h2, h3, h4⟩ := made_ok hl (q := 0) (HOK_zero l) hc hf ht
  obtain ⟨y, g1, g2, g3, g4⟩ := seen_ok (q := x.b0_2) hl h3.right h4 h2 hm
  exact ⟨x, y, h1, g1, h3, h4, g2, g3, g4⟩
def cS (c : Channel) (sg : List Sight) : Channel := ⟨c.cells, c.tides, c.fords, c.sands, sg⟩
theorem cS_right {c : Channel} (r : Right c) {crs : List (List Int)} {sg : List Sight} (hn : sg.length ≤ 8) (h : ∀ s ∈ sg, SeenC c crs s) : Right (cS c sg) := right_sights r hn (fun s hs => ⟨(h s hs).after, (h s hs).cell⟩)
theorem few_right {c : Channel} (r : Right c) (h : c.sights.length ≤ 8) : Few c := by
  have hf := r.fords
  have hs := r.sands
  exact ⟨by omega, by omega, by omega⟩
theorem WalkC.sights {c : Channel} {n : Nat} {crs : List (List Int)} (h : WalkC c n crs) (sg : List Sight) : WalkC (cS c sg) n crs := ⟨h.len, h.fst, h.row, h.can⟩
theorem cS_on {c : Channel} (r : Right c) {crs : List (List Int)} (hw : WalkC c c.tides.toNat crs) {sg : List Sight} (hn : sg.length ≤ 8) (h : ∀ s ∈ sg, SeenC c crs s) (k : Nat) (hk : k ≤ c.tides.toNat) : onB (cS c sg) k (crs.getD k []) = true := real_on (cS_right r hn h) (hw.sights sg) (fun k _ => seen_ag h k) k hk
theorem cS_pos {c : Channel} (r : Right c) {crs : List (List Int)} (hw : WalkC c c.tides.toNat crs) {sg : List Sight} (hn : sg.length ≤ 8) (h : ∀ s ∈ sg, SeenC c crs s) : 0 < cntS tt (cS c sg) := by
  have hc := r.cells
  refine on_cnt (cS_right r hn h) ?_ (cS_on r hw hn h c.tides.toNat (Nat.le_refl _))
  exact (mem_LL (show 0 ≤ (cS c sg).cells from by show 0 ≤ c.cells; omega)).2 (hw.row c.tides.toNat (Nat.le_refl _))
end Go.Proofs.Wb

namespace Go.Proofs.Wb
open Go Go.Fw Go.Gx Go.Sb
set_option linter.unusedVariables false
set_option maxRecDepth 100000
theorem R_ext {nx : State → List State} {ag ag' : State → Bool} (hn : ∀ s t, t ∈ nx s → t.after = s.after + 1) : ∀ (j : Nat) (s : State), ag s = ag' s → (∀ t : State, s.after < t.after → ag t = ag' t) → R nx ag j s = R nx ag' j s
  | 0, s, h, _ => by rw [R, R, h]
  | j + 1, s, h, h2 => by
    rw [R, R, h]
    congr 1
    congr 1
    refine List.map_congr_left fun t ht => ?_
    have := hn s t ht
    exact R_ext hn j t (h2 t (by omega)) (fun u hu => h2 u (by omega))
theorem nxS_after {c : Channel} {s t : State} (h : t ∈ nxS c s) : t.after = s.after + 1 := by
  unfold nxS nextL at h
  obtain ⟨l, _, rfl⟩ := List.mem_map.1 h
  rfl
theorem agS_known {c : Channel} {s : Sight} (t : State) : agS tt (knownC c s) t = (agS tt c t && !offS t.after (clS c.fords.length t) s) := by
  unfold agS
  have := agP_snoc (sg := c.sights) (s := s) (k := t.after) (l := clS c.fords.length t)
  exact this
theorem off_later {c : Channel} {s : Sight} {t : State} (h : s.after < t.after) : agS tt (knownC c s) t = agS tt c t := by
  rw [agS_known]
  have : offS t.after (clS c.fords.length t) s = false := by
    unfold offS
    rw [decide_eq_false (by omega)]
    rfl
  rw [this, Bool.not_false, Bool.and_true]
theorem R_known {c : Channel} (r : Right c) {k : Nat} {s : Sight} (hs : s.after = (k : Int)) {l : List Int} (hl : rowB c l = true) (ho : offS (k : Int) l s = false) (j : Nat) : R (nxS (knownC c s)) (agS tt (knownC c s)) j (stL k l) = R (nxS c) (agS tt c) j (stL k l) := by
  have hf := r.fords
  refine R_ext (nx := nxS c) (fun a b h => nxS_after h) j (stL k l) ?_ (fun t ht => ?_)
  · rw [agS_known]
    have e : clS c.fords.length (stL k l) = l := by
      have h1 := (rowB_iff.1 hl).1
      unfold stL
      rw [← h1, clS_mk (by omega)]
    rw [e, show (stL k l).after = (k : Int) from rfl, ho, Bool.not_false, Bool.and_true]
  · refine off_later ?_
    have : (stL k l).after = (k : Int) := rfl
    omega
theorem cnt_known {c : Channel} (r : Right c) (h8 : c.sights.length ≤ 8) {k : Nat} (hk : (k : Int) ≤ c.tides) {s : Sight} (hs : s.after = (k : Int)) (hc : 0 ≤ s.cell ∧ s.cell < c.cells) : cntS tt (knownC c s) = sumN (LL c) fun l => if offS (k : Int) l s = true then 0 else FcL tt c k l * R (nxS c) (agS tt c) (c.tides.toNat - k) (stL k l) := by
  have ht := r.tides
  have hcc := r.cells
  have rk := right_known r h8 (s := s) (by omega) hc
  have h := FcL_sum (cnt := tt) rk k (c.tides.toNat - k)
  rw [show k + (c.tides.toNat - k) = c.tides.toNat by omega] at h
  unfold cntS
  show R (nxS (knownC c s)) (agS tt (knownC c s)) c.tides.toNat (first (knownC c s)) = _
  rw [← h]
  show sumN (LL c) _ = _
  refine sumN_congr fun l hl => ?_
  have hr := (mem_LL (by omega)).1 hl
  rw [FcL_knownT hs]
  cases ho : offS (k : Int) l s with
  | true => rw [if_pos rfl, if_pos rfl, Nat.zero_mul]
  | false => rw [if_neg Bool.false_ne_true, if_neg Bool.false_ne_true, R_known r hs hr ho]
theorem cnt_split {c : Channel} (r : Right c) (h8 : c.sights.length ≤ 8) {k : Nat} (hk : (k : Int) ≤ c.tides) {x : Int} (hx : 0 ≤ x ∧ x < c.cells) (u : Bool) : cntS tt (knownC c ⟨(k : Int), x, u⟩) + cntS tt (knownC c ⟨(k : Int), x, !u⟩) = cntS tt c := by
  have ht := r.tides
  rw [cnt_known r h8 hk rfl hx, cnt_known r h8 hk rfl hx, ← sumN_add]
  have h := FcL_sum (cnt := tt) r k (c.tides.toNat - k)
  rw [show k + (c.tides.toNat - k) = c.tides.toNat by omega] at h
  unfold cntS
  rw [← h]
  refine sumN_congr fun l _ => ?_
  have e : offS (k : Int) l ⟨(k : Int), x, !u⟩ = !offS (k : Int) l ⟨(k : Int), x, u⟩ := by
    unfold offS
    simp only [decide_true, Bool.true_and]
    cases decide (x ∈ l) <;> cases u <;> rfl
  rw [e]
  cases offS (k : Int) l ⟨(k : Int), x, u⟩ <;> simp
theorem FcL_known_pos {c : Channel} {s : Sight} : ∀ (k : Nat) (l : List Int), 0 < FcL tt (knownC c s) k l → 0 < FcL tt c k l
  | 0, l, h => by
    rw [FcL] at h
    split at h
    · rename_i q
      have q1 : agP tt (c.sights ++ [s]) 0 l = true := q.1
      have := agP_snoc (sg := c.sights) (s := s) (k := 0) (l := l)
      rw [this, Bool.and_eq_true] at q1
      rw [FcL, if_pos ⟨q1.1, q.2⟩]
      omega
    · omega
  | k + 1, l, h => by
    obtain ⟨q1, a, ha, hc, h2⟩ := FcL_succ_pos.1 h
    have q2 : agP tt (c.sights ++ [s]) ((k + 1 : Nat) : Int) l = true := q1
    rw [agP_snoc, Bool.and_eq_true] at q2
    exact FcL_succ_pos.2 ⟨q2.1, a, ha, hc, FcL_known_pos k a h2⟩
theorem onB_known {c : Channel} {s : Sight} {k : Nat} {l : List Int} (h : onB (knownC c s) k l = true) : onB c k l = true := by
  unfold onB at h ⊢
  rw [Bool.and_eq_true, decide_eq_true_eq, decide_eq_true_eq] at h ⊢
  refine ⟨FcL_known_pos k l h.1, ?_⟩
  refine R_mono (ag := agS tt (knownC c s)) (ag' := agS tt c) (fun t ht => ?_) _ _ h.2
  rw [agS_known, Bool.and_eq_true] at ht
  exact ht.1
theorem where_known {c : Channel} {s : Sight} {k i : Nat} {x : Int} (h : x ∈ whereL (knownC c s) k i) : x ∈ whereL c k i := by
  unfold whereL at h ⊢
  rw [mem_filtL] at h ⊢
  refine ⟨h.1, h.2.1, ?_⟩
  obtain ⟨l, hl, h2⟩ := List.any_eq_true.1 h.2.2
  rw [Bool.and_eq_true] at h2
  exact List.any_eq_true.2 ⟨l, hl, by rw [onB_known h2.1, Bool.true_and]; exact h2.2⟩
theorem sure_known {c : Channel} {s : Sight} {k : Nat} {x : Int} (h : x ∈ sureL c k) : x ∈ sureL (knownC c s) k := by
  unfold sureL at h ⊢
  rw [mem_filtL] at h ⊢
  refine ⟨h.1, h.2.1, ?_⟩
  rw [List.all_eq_true]
  have h3 := List.all_eq_true.1 h.2.2
  intro l hl
  have := h3 l hl
  cases ho : onB (knownC c s) k l with
  | false => rfl
  | true => rw [onB_known ho] at this; exact this
theorem bare_known {c : Channel} {s : Sight} {k : Nat} {x : Int} (h : x ∈ bareL c k) : x ∈ bareL (knownC c s) k := by
  unfold bareL at h ⊢
  rw [mem_filtL] at h ⊢
  refine ⟨h.1, h.2.1, ?_⟩
  rw [List.all_eq_true]
  have h3 := List.all_eq_true.1 h.2.2
  intro l hl
  have := h3 l hl
  cases ho : onB (knownC c s) k l with
  | false => rfl
  | true => rw [onB_known ho] at this; exact this
theorem bare_off {c : Channel} {k : Nat} {x : Int} (h : x ∈ bareL c k) {l : List Int} (hl : l ∈ LL c) (ho : onB c k l = true) : x ∉ l := by
  unfold bareL at h
  rw [mem_filtL] at h
  have := (List.all_eq_true.1 h.2.2) l hl
  rw [ho] at this
  have e : ((x.toNat : Nat) : Int) = x := by omega
  rw [e] at this
  simpa using this
theorem fate_known {c : Channel} (r : Right c) {s : Sight} {i : Nat} (hi : i < c.fords.length) {l : List Int} (hl : l ∈ LL c) (ho : onB (knownC c s) c.tides.toNat l = true) (h : fateI c i ≠ 0) : fateI (knownC c s) i = fateI c i := by
  have hne : l.getD i (-1) ∈ whereL (knownC c s) c.tides.toNat i := by
    have hc := r.cells
    obtain ⟨h1, h2, h3⟩ := rowB_iff.1 ((mem_LL (by omega)).1 hl)
    have hm := h3 _ (getD_mem (l := l) (i := i) (d := -1) (by omega))
    unfold whereL
    rw [mem_filtL]
    refine ⟨hm.1, by show _ < ((c.cells.toNat : Nat) : Int); omega, List.any_eq_true.2 ⟨l, hl, ?_⟩⟩
    rw [ho, Bool.true_and, decide_eq_true_eq]
    omega
  have hw := where_known hne
  have a1 : (whereL c c.tides.toNat i).Pairwise (· < ·) := filtL_asc
  have a2 : (whereL (knownC c s) c.tides.toNat i).Pairwise (· < ·) := filtL_asc
  have e : fateI (knownC c s) i = if c.fords.getD i 0 ∈ whereL (knownC c s) c.tides.toNat i then (if (whereL (knownC c s) c.tides.toNat i).length = 1 then 1 else 0) else 2 := rfl
  rw [e]
  unfold fateI at h ⊢
  by_cases h1 : c.fords.getD i 0 ∈ whereL c c.tides.toNat i
  · rw [if_pos h1] at h ⊢
    by_cases h2 : (whereL c c.tides.toNat i).length = 1
    · rw [if_pos h2]
      have all := (asc_one a1 h1).1 h2
      have e1 := all _ hw
      rw [e1] at hne
      rw [if_pos hne, if_pos ((asc_one a2 hne).2 (fun y hy => all y (where_known hy)))]
    · rw [if_neg h2] at h
      exact absurd rfl h
  · rw [if_neg h1, if_neg (fun q => h1 (where_known q))]
theorem any2_eq {l w : List Int} (hl : l.length ≤ 1000) (hw : w.length ≤ 1000) (h : ∀ x ∈ l, x ∈ w) : k6 l w = some false := by
  unfold k6 yB
  rw [contains_loop (f := qa l w) l 0 (fun x => !decide (x ∈ w)) (by omega) (fun k hk => ?_) ?_]
  · congr 1
    rw [List.any_eq_false]
    intro x hx
    simpa using h x hx
  · unfold qa
    rw [if_neg (by omega)]
  · unfold qa qU
    rw [if_pos (by omega), ix_nat 0 hk, Option.bind_some, yy (by omega), Option.bind_some, Option.bind_some, not_true_if, not_true_if]
    by_cases h : l.getD k 0 ∈ w
    · rw [if_pos (decide_eq_true h), if_pos (decide_eq_true h), addc_eq (by omega), Option.bind_some]
    · rw [if_neg (by simpa using h), if_neg (by simpa using h)]
theorem any3_eq {l w : List Int} (hl : l.length ≤ 1000) (hw : w.length ≤ 1000) (h : ∀ x ∈ l, x ∈ w) : k8 l w = some false := by
  unfold k8 yE
  rw [contains_loop (f := k9 l w) l 0 (fun x => !decide (x ∈ w)) (by omega) (fun k hk => ?_) ?_]
  · congr 1
    rw [List.any_eq_false]
    intro x hx
    simpa using h x hx
  · unfold k9
    rw [if_neg (by omega)]
  · unfold k9 qT
    rw [if_pos (by omega), ix_nat 0 hk, Option.bind_some, yy (by omega), Option.bind_some, Option.bind_some, not_true_if, not_true_if]
    by_cases h : l.getD k 0 ∈ w
    · rw [if_pos (decide_eq_true h), if_pos (decide_eq_true h), addc_eq (by omega), Option.bind_some]
    · rw [if_neg (by simpa using h), if_neg (by simpa using h)]
theorem any4_eq {l w : List Int} {crs : List (List Int)} {q : Nat} (hq : q < crs.length) (hl : l.length ≤ 1000) (hw : w.length ≤ 1000) (hr : (crs.getD q []).length ≤ 1000) (h : ∀ x ∈ l, x ∈ w ∧ x ∉ crs.getD q []) : k7 l w crs (q : Int) = some false := by
  unfold k7 yC
  rw [contains_loop (f := k3 l w crs (q : Int)) l 0 (fun x => !decide (x ∈ w) || decide (x ∈ crs.getD q [])) (by omega) (fun k hk => ?_) ?_]
  · congr 1
    rw [List.any_eq_false]
    intro x hx
    have := h x hx
    rw [decide_eq_true this.1, decide_eq_false this.2]
    decide
  · unfold k3
    rw [if_neg (by omega)]
  · unfold k3 qR
    rw [if_pos (by omega), ix_nat 0 hk, Option.bind_some, yy (by omega), Option.bind_some, not_true_if]
    by_cases h : l.getD k 0 ∈ w
    · rw [if_pos (decide_eq_true h), ix_nat [] hq, Option.bind_some, yy (by omega), Option.bind_some, Option.bind_some, Option.bind_some, decide_eq_true h, Bool.not_true, Bool.false_or]
      by_cases h2 : l.getD k 0 ∈ crs.getD q []
      · rw [if_pos (decide_eq_true h2), if_pos (decide_eq_true h2)]
      · rw [if_neg (by simpa using h2), if_neg (by simpa using h2), addc_eq (by omega), Option.bind_some]
    · rw [if_neg (by simpa using h), Option.bind_some, Option.bind_some, if_pos rfl, if_pos (by rw [decide_eq_false h]; rfl)]
theorem cells_at {c : Channel} (hF : Few c) (h0 : chk c = 0) (hp : 0 < cntS tt c) {k i : Nat} (hk : (k : Int) ≤ c.tides) (hi : i < c.fords.length) : q9 c (k : Int) (i : Int) = some ⟨0, whereL c k i⟩ := by
  rw [ZO hF, if_pos h0, if_pos (inb_iff.2 (by omega)), if_pos (inb_iff.2 (by omega)), if_neg (by omega), Int.toNat_natCast, Int.toNat_natCast]
theorem sure_at {c : Channel} (hF : Few c) (h0 : chk c = 0) (hp : 0 < cntS tt c) {k : Nat} (hk : (k : Int) ≤ c.tides) : zq c (k : Int) = some ⟨0, sureL c k⟩ := by
  rw [ZX hF, if_pos h0, if_pos (inb_iff.2 (by omega)), if_neg (by omega), Int.toNat_natCast]
theorem bare_at {c : Channel} (hF : Few c) (h0 : chk c = 0) (hp : 0 < cntS tt c) {k : Nat} (hk : (k : Int) ≤ c.tides) : zs c (k : Int) = some ⟨0, bareL c k⟩ := by
  rw [Z3 hF, if_pos h0, if_pos (inb_iff.2 (by omega)), if_neg (by omega), Int.toNat_natCast]
theorem with_at {c : Channel} (hF : Few c) (h0 : chk c = 0) (h8 : c.sights.length < 8) {s : Sight} (ha : 0 ≤ s.after ∧ s.after ≤ c.tides) (hc : 0 ≤ s.cell ∧ s.cell < c.cells) : zr c s = some ⟨knownC c s, 0⟩ := by
  rw [Z0 hF, if_pos h0, if_neg (by omega), if_pos (inb_iff.2 (by omega)), if_pos (inb_iff.2 (by omega))]
  rfl
theorem fates_ix {c : Channel} {i : Nat} (hi : i < c.fords.length) : ix (fatesL c) (i : Int) = some (fateI c i) := by unfold fatesL; rw [range_ix hi]
theorem BranchMore_true {l : List Int} (hl : l.length ≤ 9223372036854775807) {a b : Int} (ha : 0 ≤ a ∧ a ≤ 255) (hb : 0 ≤ b ∧ b ≤ 255) : yn l a b = some true := by
  unfold yn
  rw [pile_eq, Option.bind_some, awake_true, Go.Fw.wrap_i64 (z := a) (by omega), Go.Fw.wrap_i64 (z := b) (by omega)]
  obtain ⟨x, y, h1, h2, hM, hW, _, hn, hS⟩ := made_seen hl (cells := 9) (fords := 2) (tides := 3) (most := 5) (by omega) (by omega) (by omega) (by omega)
  simp only
  rw [h1, Option.bind_some, h2, Option.bind_some]
  have r0 := hM.right
  have ht0 := r0.tides
  have hc0 := r0.cells
  have hf0 := r0.fords
  have r : Right (cS x.r0 y.r0) := cS_right r0 (by omega) hS
  have hlen : (cS x.r0 y.r0).sights.length = y.r0.length := rfl
  have hF : Few (cS x.r0 y.r0) := few_right r (by omega)
  have hk0 : chk (cS x.r0 y.r0) = 0 := chk_right r (by omega)
  have hp := cS_pos r0 hW (by omega) hS
  rw [addc_eq (by omega), Option.bind_some, remc_eq (by omega), Option.bind_some, remc_eq (by omega), Option.bind_some]
  have k1 := Int.tmod_nonneg (x.r0.tides + 1) ha.1
  have k2 := Int.tmod_lt_of_pos a (show 0 < x.r0.tides + 1 by omega)
  have c1 := Int.tmod_nonneg x.r0.cells hb.1
  have c2 := Int.tmod_lt_of_pos b (show 0 < x.r0.cells by omega)
  generalize a.tmod (x.r0.tides + 1) = kk at k1 k2 ⊢
  generalize b.tmod x.r0.cells = ce at c1 c2 ⊢
  obtain ⟨k, rfl⟩ : ∃ k : Nat, kk = (k : Int) := ⟨kk.toNat, by omega⟩
  have hcl := hW.len
  have hrow := hW.row k (by omega)
  have hrl := (rowB_iff.1 hrow).1
  rw [ix_nat [] (by omega), Option.bind_some, yy (by omega), Option.bind_some]
  have hcS : (⟨x.r0.cells, x.r0.tides, x.r0.fords, x.r0.sands, y.r0⟩ : Channel) = cS x.r0 y.r0 := rfl
  rw [hcS, with_at hF hk0 (by omega) (s := ⟨(k : Int), ce, decide (ce ∈ x.r1.getD k [])⟩) ⟨k1, by show (k : Int) ≤ x.r0.tides; omega⟩ ⟨c1, c2⟩, Option.bind_some, with_at hF hk0 (by omega) (s := ⟨(k : Int), ce, !decide (ce ∈ x.r1.getD k [])⟩) ⟨k1, by show (k : Int) ≤ x.r0.tides; omega⟩ ⟨c1, c2⟩, Option.bind_some]
  -- the channel with the sight
  have hSk : SeenC x.r0 x.r1 ⟨(k : Int), ce, decide (ce ∈ x.r1.getD k [])⟩ := ⟨⟨k1, by simp only; omega⟩, ⟨c1, c2⟩, by simp only [Int.toNat_natCast]⟩
  have hS2 : ∀ s ∈ y.r0 ++ [⟨(k : Int), ce, decide (ce ∈ x.r1.getD k [])⟩], SeenC x.r0 x.r1 s := by
    intro s hs
    rcases List.mem_append.1 hs with h | h
    · exact hS s h
    · rw [List.mem_singleton] at h; rw [h]; exact hSk
  have hl2 : (y.r0 ++ [(⟨(k : Int), ce, decide (ce ∈ x.r1.getD k [])⟩ : Sight)]).length = y.r0.length + 1 := by simp
  have eK : knownC (cS x.r0 y.r0) ⟨(k : Int), ce, decide (ce ∈ x.r1.getD k [])⟩ = cS x.r0 (y.r0 ++ [⟨(k : Int), ce, decide (ce ∈ x.r1.getD k [])⟩]) := rfl
  have rK : Right (knownC (cS x.r0 y.r0) ⟨(k : Int), ce, decide (ce ∈ x.r1.getD k [])⟩) := by rw [eK]; exact cS_right r0 (by omega) hS2
  have hlK : (knownC (cS x.r0 y.r0) ⟨(k : Int), ce, decide (ce ∈ x.r1.getD k [])⟩).sights.length = y.r0.length + 1 := hl2
  have hFK := few_right rK (by omega)
  have hkK := chk_right rK (by omega)
  have hpK : 0 < cntS tt (knownC (cS x.r0 y.r0) ⟨(k : Int), ce, decide (ce ∈ x.r1.getD k [])⟩) := by rw [eK]; exact cS_pos r0 hW (by omega) hS2
  have rN := right_known r (by omega) (s := ⟨(k : Int), ce, !decide (ce ∈ x.r1.getD k [])⟩) ⟨k1, by show (k : Int) ≤ x.r0.tides; omega⟩ ⟨c1, c2⟩
  have hlN : (knownC (cS x.r0 y.r0) ⟨(k : Int), ce, !decide (ce ∈ x.r1.getD k [])⟩).sights.length = y.r0.length + 1 := by
    show (y.r0 ++ [_]).length = _
    simp
  have hFN := few_right rN (by omega)
  have hkN := chk_right rN (by omega)
  have hsum := cnt_split r (by omega) (k := k) (by show (k : Int) ≤ x.r0.tides; omega) (x := ce) ⟨c1, c2⟩ (decide (ce ∈ x.r1.getD k []))
  have hbnd := cntS_bnd r
  have hon : ∀ j : Nat, j ≤ x.r0.tides.toNat → onB (knownC (cS x.r0 y.r0) ⟨(k : Int), ce, decide (ce ∈ x.r1.getD k [])⟩) j (x.r1.getD j []) = true := by rw [eK]; exact cS_on r0 hW (by omega) hS2
  have hmemL : ∀ j : Nat, j ≤ x.r0.tides.toNat → x.r1.getD j [] ∈ LL (cS x.r0 y.r0) := fun j hj => (mem_LL (show 0 ≤ (cS x.r0 y.r0).cells from by show 0 ≤ x.r0.cells; omega)).2 (hW.row j hj)
  generalize hN : knownC (cS x.r0 y.r0) ⟨(k : Int), ce, !decide (ce ∈ x.r1.getD k [])⟩ = cN at *
  generalize hK : knownC (cS x.r0 y.r0) ⟨(k : Int), ce, decide (ce ∈ x.r1.getD k [])⟩ = cK at *
  have eTK : cK.tides = x.r0.tides := by rw [← hK]; rfl
  have eFK : cK.fords = x.r0.fords := by rw [← hK]; rfl
  have eT : (cS x.r0 y.r0).tides = x.r0.tides := rfl
  have eF : (cS x.r0 y.r0).fords = x.r0.fords := rfl
  rw [Q2 hF, if_pos hk0, Q2 hFK, if_pos hkK, Q2 hFN, if_pos hkN, Y4 hF, if_pos hk0, if_neg (by omega), Y4 hFK, if_pos hkK, if_neg (by omega)]
  simp only [Option.bind_some]
  have hwl : ∀ (c : Channel) (hc : c.cells ≤ 10) (k i : Nat), (whereL c k i).length ≤ 1000 := fun c hc k i => by
    have := filtL_len (p := fun x => (LL c).any fun l => onB c k l && decide (l.getD i (-1) = (x : Int))) (k := c.cells.toNat)
    unfold whereL
    omega
  have hsl : ∀ (c : Channel) (hc : c.cells ≤ 10) (k : Nat), (sureL c k).length ≤ 1000 := fun c hc k => by
    have := filtL_len (p := fun x => (LL c).all fun l => !onB c k l || decide ((x : Int) ∈ l)) (k := c.cells.toNat)
    unfold sureL
    omega
  have hbl : ∀ (c : Channel) (hc : c.cells ≤ 10) (k : Nat), (bareL c k).length ≤ 1000 := fun c hc k => by
    have := filtL_len (p := fun x => (LL c).all fun l => !onB c k l || !decide ((x : Int) ∈ l)) (k := c.cells.toNat)
    unfold bareL
    omega
  have hcK := rK.cells
  have hcC := r.cells
  have L0 := iterM_any0 (f := kU ⟨0, fatesL (cS x.r0 y.r0)⟩ ⟨0, fatesL cK⟩ x y ⟨cK, 0⟩) x.r0.fords.length (fun _ => false) false (fun i hi => ?_) ?_ (N := FU) (FU_lt (by omega))
  · have L2 := iterM_any0 (f := kQ (x.r0.tides + 1) x y ⟨cK, 0⟩) (x.r0.tides.toNat + 1) (fun _ => false) false (fun j hj => ?_) ?_ (N := FU) (FU_lt (by omega))
    · rw [show (List.range x.r0.fords.length).any (fun _ => false) = false from by simp, if_neg Bool.false_ne_true] at L0
      rw [show (List.range (x.r0.tides.toNat + 1)).any (fun _ => false) = false from by simp, if_neg Bool.false_ne_true] at L2
      have f1 : ¬ ((cntS tt cK : Int) < 1) := by omega
      have f2 : addc (cntS tt cK : Int) (cntS tt cN : Int) = some (cntS tt (cS x.r0 y.r0) : Int) := by rw [addc_eq (by omega)]; congr 1; omega
      have f3 : addc (y.r0.length : Int) 1 = some ((y.r0.length : Int) + 1) := addc_eq (by omega)
      have f4 : addc x.r0.tides 1 = some (x.r0.tides + 1) := addc_eq (by omega)
      have f5 : (cK.sights.length : Int) = (y.r0.length : Int) + 1 := by omega
      have f6 := fatesL_len (cS x.r0 y.r0)
      have f7 := fatesL_len cK
      rw [eF] at f6
      rw [eFK] at f7
      simp [f1, f2, f3, f4, f5, f6, f7, L0, L2]
    · have hjt : j ≤ x.r0.tides.toNat := by omega
      have hrj := (rowB_iff.1 (hW.row j hjt)).1
      unfold kQ
      rw [if_pos (by omega), hcS, sure_at hF hk0 hp (by omega), Option.bind_some, sure_at hFK hkK hpK (by omega), Option.bind_some, bare_at hF hk0 hp (by omega), Option.bind_some, bare_at hFK hkK hpK (by omega), Option.bind_some]
      have a3 := any3_eq (l := sureL (cS x.r0 y.r0) j) (w := sureL cK j) (hsl _ hcC.2 _) (hsl _ hcK.2 _) (fun z hz => by rw [← hK]; exact sure_known hz)
      have a4 := any4_eq (l := bareL (cS x.r0 y.r0) j) (w := bareL cK j) (crs := x.r1) (q := j) (by omega) (hbl _ hcC.2 _) (hbl _ hcK.2 _) (by omega) (fun z hz => ⟨by rw [← hK]; exact bare_known hz, bare_off hz (hmemL j hjt) (by have := hon j hjt; rw [← hK] at this; exact onB_known this)⟩)
      simp [a3, a4, addc_eq (show -9223372036854775808 ≤ (j : Int) + 1 ∧ (j : Int) + 1 ≤ 9223372036854775807 by omega)]
    · unfold kQ
      rw [if_neg (by omega)]
  · have hfl := fatesL_len (cS x.r0 y.r0)
    rw [eF] at hfl
    unfold kU
    simp only
    rw [if_pos (by omega), fates_ix (c := cS x.r0 y.r0) (by rw [eF]; exact hi), Option.bind_some, fates_ix (c := cK) (by rw [eFK]; exact hi), addc_eq (by omega)]
    simp only [Option.bind_some]
    have L1 := iterM_any0 (f := kO (x.r0.tides + 1) x y (i : Int) ⟨cK, 0⟩) (x.r0.tides.toNat + 1) (fun _ => false) false (fun j hj => ?_) ?_ (N := FU) (FU_lt (by omega))
    · rw [show (List.range (x.r0.tides.toNat + 1)).any (fun _ => false) = false from by simp, if_neg Bool.false_ne_true] at L1
      by_cases hz : fateI (cS x.r0 y.r0) i = 0
      · rw [if_pos hz]
        simp [L1, addc_eq (show -9223372036854775808 ≤ (i : Int) + 1 ∧ (i : Int) + 1 ≤ 9223372036854775807 by omega)]
      · have hfk := fate_known r (s := ⟨(k : Int), ce, decide (ce ∈ x.r1.getD k [])⟩) (by rw [eF]; exact hi) (hmemL x.r0.tides.toNat (Nat.le_refl _)) (by rw [hK]; exact hon x.r0.tides.toNat (Nat.le_refl _)) hz
        rw [hK] at hfk
        rw [if_neg hz, hfk]
        simp [L1, addc_eq (show -9223372036854775808 ≤ (i : Int) + 1 ∧ (i : Int) + 1 ≤ 9223372036854775807 by omega)]
    · unfold kO
      rw [if_pos (by omega), hcS, cells_at hF hk0 hp (by omega) (by rw [eF]; exact hi), Option.bind_some, cells_at hFK hkK hpK (by omega) (by rw [eFK]; exact hi), Option.bind_some]
      have a2 := any2_eq (l := whereL cK j i) (w := whereL (cS x.r0 y.r0) j i) (hwl _ hcK.2 _ _) (hwl _ hcC.2 _ _) (fun z hz => by rw [← hK] at hz; exact where_known hz)
      simp [a2, addc_eq (show -9223372036854775808 ≤ (j : Int) + 1 ∧ (j : Int) + 1 ≤ 9223372036854775807 by omega)]
    · unfold kO
      rw [if_neg (by omega)]
  · have hfl := fatesL_len (cS x.r0 y.r0)
    rw [eF] at hfl
    unfold kU
    simp only
    rw [if_neg (by omega)]
end Go.Proofs.Wb

namespace Go.Gx
open Go Go.Fw Go.RowKit
section
variable {H : Type} {enc : TypeId × Value → H} {P : Program} {w : World} {base : Nat} {sp : Nat → Bool} {held : Bool}
def Opens (enc : TypeId × Value → H) (P : Program) (w : World) (base : Nat) (sp : Nat → Bool) (held : Bool) {α : Type} (R : Row α) (wf : α → Prop) (t : TypeId) : Prop :=
  ∀ fuel cs x, DataW.trod enc P w base sp held fuel t cs = some x → ∃ a, cs = R.cells a ∧ wf a
def u8P (n : Int) : Prop := 0 ≤ n ∧ n ≤ 255
theorem wf_u8P {n : Int} (h : (Lit.int .u8 n).wf = true) : u8P n := by
  simp [Lit.wf, IntKind.min, IntKind.max, IntKind.signed, IntKind.bits] at h
  unfold u8P; omega
theorem opens_u8 {t : TypeId} (ht : P.underlying t = some (.int .u8)) : Opens enc P w base sp held RU8 u8P t := fun fuel cs x h => by
  obtain ⟨n, rfl, _, hw⟩ := DataW.trod_int ht h
  exact ⟨n, rfl, wf_u8P hw⟩
theorem fieldAt {fs : Array Field} {t : TypeId} {fuel : Nat} {cs : List Value} {x : DataW H × List MemPlace} (ht : P.underlying t = some (.struct fs)) (h : DataW.trod enc P w base sp held fuel t cs = some x) {α : Type} {R : Row α} {wf : α → Prop} (i : Nat) {T o k : Nat}
    (hf : (fs[i]?).map (fun fd => (fd.type, fd.offset)) = some (T, o)) (hk : P.cellsOf T = k) (hR : Opens enc P w base sp held R wf T) : ∃ a, (cs.drop o).take k = R.cells a ∧ wf a := by
  obtain ⟨xs, n, rfl, _, hlen, hxl, hx⟩ := DataW.trod_struct ht h
  obtain ⟨fd, hfd, he⟩ : ∃ fd, fs[i]? = some fd ∧ (fd.type, fd.offset) = (T, o) := by
    cases hh : fs[i]? with
    | none => simp [hh] at hf
    | some fd => exact ⟨fd, rfl, by simpa [hh] using hf⟩
  simp only [Prod.mk.injEq] at he
  obtain ⟨rfl, rfl⟩ := he
  have h1 := hx i fd hfd
  rw [hk] at h1
  have hi : i < xs.length := by rw [hxl]; exact (Array.getElem?_eq_some_iff.1 hfd).1
  rw [List.getElem?_eq_getElem hi] at h1
  exact hR _ _ _ h1
structure SlIn {α : Type} (R : Row α) (wf : α → Prop) (w : World) (v : Value) (A : Option Addr) (n c : Nat) (l : List α) : Prop where
  val : v = .slice A n c
  len : l.length = n
  ok : AOK n A
  le : n ≤ c
  max : c ≤ maxLen
  seg : segOK w (aB A, aO A, R.enc l)
  wf : ∀ x, x ∈ l → wf x
theorem choose_list {α : Type} {p : Nat → α → Prop} : ∀ (n : Nat), (∀ i, i < n → ∃ a, p i a) → ∃ l : List α, l.length = n ∧ ∀ i (h : i < l.length), p i l[i]
  | 0, _ => ⟨[], rfl, fun i h => by simp at h⟩
  | n + 1, h => by
    obtain ⟨l, hl, hp⟩ := choose_list n (fun i hi => h i (by omega))
    obtain ⟨a, ha⟩ := h n (by omega)
    refine ⟨l ++ [a], by simp [hl], fun i hi => ?_⟩
    by_cases hil : i < l.length
    · rw [List.getElem_append_left hil]; exact hp i hil
    · have : i = l.length := by simp at hi; omega
      subst this
      rw [List.getElem_append_right (by omega)]
      simp only [Nat.sub_self, List.getElem_cons_zero]
      rw [hl]; exact ha
theorem openSl {α : Type} {R : Row α} {wf : α → Prop} {t e : TypeId} (ht : P.underlying t = some (.slice e)) (hc : P.cellsOf e = R.sz) (hR : Opens enc P w base sp held R wf e) (h0 : Nat.blt 0 R.sz = true)
    {fuel : Nat} {cs : List Value} {x : DataW H × List MemPlace} (h : DataW.trod enc P w base sp held fuel t cs = some x) : ∃ (v : Value) (A : Option Addr) (n c : Nat) (l : List α), cs = [v] ∧ SlIn R wf w v A n c l := by
  have hsz : 0 < R.sz := by simpa using h0
  rcases Go.Deep.open_slice ht h with ⟨rfl, _⟩ | ⟨a, len, cap, m, n, D, Pl, rfl, hb, hl, hm, hmm, _, hi⟩
  · exact ⟨_, none, 0, 0, [], rfl, rfl, rfl, AOK.nil, Nat.le_refl _, Nat.zero_le _, segOK.nil, by simp⟩
  · have hlm : len ≤ m := by rw [hmm]; split <;> omega
    have hcell : ∀ i, i < len → ∃ x : α, (∀ f (hf : f < (R.cells x).length), w.cell? (a.add (i * R.sz + f)) = some (R.cells x)[f]) ∧ wf x := fun i hil => by
      obtain ⟨cs', h1, h2⟩ := hi i (by omega)
      obtain ⟨x, rfl, hw⟩ := hR _ _ _ h2
      obtain ⟨_, _, hat⟩ := World.cells?_some h1
      refine ⟨x, fun f hf => ?_, hw⟩
      have := hat f (by rw [hc, ← R.len x]; exact hf)
      rw [hc] at this
      rw [List.getElem?_eq_getElem hf] at this
      have e : (a.add (i * R.sz)).add f = a.add (i * R.sz + f) := by
        unfold Addr.add
        by_cases h1 : i * R.sz = 0
        · simp [h1]
        · by_cases h2 : f = 0
          · simp [h2]
          · simp [h1, h2, Nat.add_assoc]
      rw [e] at this
      exact this
    obtain ⟨l, hll, hlp⟩ := choose_list len hcell
    have hspot : 0 < len → a.spot = none := fun h0 => by
      obtain ⟨x, hx, _⟩ := hcell 0 h0
      have := World.cell?_spot (hx 0 (by rw [R.len]; exact hsz))
      simpa [Addr.add] using this
    refine ⟨_, some a, len, cap, l, rfl, rfl, hll, fun h0 => ?_, hl, hm, fun j hj => ?_, fun x hx => ?_⟩
    · obtain ⟨b, o, s⟩ := a
      have := hspot h0
      simp only at this
      subst this
      exact ⟨b, o, rfl⟩
    · have hj' : j < l.length * R.sz := by rw [← R.enc_len]; exact hj
      have hpos : 0 < len := by
        rcases Nat.eq_zero_or_pos len with h | h
        · rw [hll, h, Nat.zero_mul] at hj'; omega
        · exact h
      obtain ⟨b, o, s⟩ := a
      have hs := hspot hpos
      simp only at hs
      subst hs
      have hq : j / R.sz < l.length := Nat.div_lt_of_lt_mul (by rw [Nat.mul_comm]; exact hj')
      have hr : j % R.sz < R.sz := Nat.mod_lt _ hsz
      have hd : j / R.sz * R.sz + j % R.sz = j := by rw [Nat.mul_comm]; exact Nat.div_add_mod j R.sz
      have h1 := (hlp (j / R.sz) hq).1 (j % R.sz) (by rw [R.len]; exact hr)
      rw [hd] at h1
      have h2 := R.enc_get l (j / R.sz) (j % R.sz) l[j / R.sz] (List.getElem?_eq_getElem hq) hr
      rw [hd] at h2
      have h3 : (⟨b, o, none⟩ : Addr).add j = ⟨b, o + j, none⟩ := addr_add b o j
      rw [h3] at h1
      simp only [aB, aO, Option.map_some, Option.getD_some]
      rw [h1, ← List.getElem?_eq_getElem, ← h2, List.getElem?_eq_getElem hj]
    · obtain ⟨i, hi', rfl⟩ := List.getElem_of_mem hx
      exact (hlp i hi').2
theorem HV.begin {ro : List Sg} (h : ∀ s, s ∈ ro → segOK w s) : HV w (keys [] []) [] [] ro w :=
  ⟨rfl, rfl, rfl, Nat.le_refl _, fun _ _ _ => rfl, by simp [vbl], by simp [vbl], by simp [vbl], h, by simp [vbl]⟩
theorem segCons {s : Sg} {ro : List Sg} (h : segOK w s) (hr : ∀ t, t ∈ ro → segOK w t) : ∀ t, t ∈ s :: ro → segOK w t := fun t ht => by
  rcases List.mem_cons.1 ht with rfl | ht
  · exact h
  · exact hr t ht
theorem segNil : ∀ t, t ∈ ([] : List Sg) → segOK w t := fun t ht => by cases ht
theorem HV.below {w' : World} (h : HV w (keys [] []) [] [] [] w') : Below w.heap.size w w' := by
  have : Ext [] w w' := HS.toExt h
  exact this.below
end
end Go.Gx

