/- What the functions that the law BranchMirrored reaches come to, and why it holds: part 9. -/
import Derived.Test.YtpjnpibgnkgnaaaGreatBranchMirrored8
import Derived.Deep.Slices
import Derived.ChangeArms
namespace Go.Proofs.Wb
open Go Go.Fw Go.Gx Go.Sb
set_option linter.unusedVariables false
set_option maxRecDepth 100000
def HOK (l : List Int) (p : Int) : Prop := 0 ≤ p ∧ (p < (l.length : Int) ∨ p = 0)
theorem pick_ok {l : List Int} {p r : Int} (hl : l.length ≤ 9223372036854775807) (hp : HOK l p) : ∃ x, zO l p r = some x ∧ (0 ≤ x.r0 ∧ x.r0 ≤ 32767) ∧ HOK l x.h0_1 := by
  obtain ⟨h0, h1⟩ := hp
  unfold zO
  have e1 : addc p 1 = some (p + 1) := addc_eq (by omega)
  by_cases hlt : p < (l.length : Int)
  · rw [if_pos hlt, ix_eq 0 h0 hlt, e1]
    simp only [Option.bind_some]
    by_cases hge : (l.length : Int) ≤ p + 1
    · rw [if_pos hge]
      exact ⟨_, rfl, Go.Fw.and_bound _ _ rfl, Int.le_refl _, .inr rfl⟩
    · rw [if_neg hge]
      exact ⟨_, rfl, Go.Fw.and_bound _ _ rfl, by simp only; omega, .inl (by simp only; omega)⟩
  · rw [if_neg hlt, e1]
    simp only [Option.bind_some]
    by_cases hge : (l.length : Int) ≤ p + 1
    · rw [if_pos hge]
      exact ⟨_, rfl, Go.Fw.and_bound _ _ rfl, Int.le_refl _, .inr rfl⟩
    · rw [if_neg hge]
      exact ⟨_, rfl, Go.Fw.and_bound _ _ rfl, by simp only; omega, .inl (by simp only; omega)⟩
theorem upto_ok {l : List Int} {p r n : Int} (hl : l.length ≤ 9223372036854775807) (hp : HOK l p) (hn : -1000000 ≤ n ∧ n ≤ 1000000) : ∃ x, jT l p r n = some x ∧ (0 ≤ x.r0 ∧ x.r0 ≤ max 0 n) ∧ HOK l x.h0_1 := by
  obtain ⟨x, hx, hb, hk⟩ := pick_ok (r := r) hl hp
  unfold jT
  rw [hx, Option.bind_some, addc_eq (by omega), Option.bind_some, remc_eq (by omega), Option.bind_some]
  refine ⟨_, rfl, ?_, hk⟩
  have h1 := Int.tmod_nonneg (max 1 (n + 1)) hb.1
  have h2 := Int.tmod_lt_of_pos x.r0 (show 0 < max 1 (n + 1) by omega)
  simp only
  omega
theorem from_ok {l : List Int} {p r lo hi : Int} (hl : l.length ≤ 9223372036854775807) (hp : HOK l p) (hn : (-400000 ≤ lo ∧ lo ≤ 400000) ∧ -400000 ≤ hi ∧ hi ≤ 400000) : ∃ x, yI l p r lo hi = some x ∧ (lo ≤ x.r0 ∧ x.r0 ≤ max lo hi) ∧ HOK l x.h0_1 := by
  unfold yI
  rw [subc_eq (by omega), Option.bind_some]
  obtain ⟨x, hx, hb, hk⟩ := upto_ok (r := r) (n := hi - lo) hl hp (by omega)
  rw [hx, Option.bind_some, addc_eq (by omega), Option.bind_some]
  exact ⟨_, rfl, by simp only; omega, hk⟩
theorem once_ok {l : List Int} {p r n : Int} (hl : l.length ≤ 9223372036854775807) (hp : HOK l p) (hn : -400000 ≤ n ∧ n ≤ 400000) : ∃ x, yE l p r n = some x ∧ HOK l x.h0_1 := by
  unfold yE
  rw [subc_eq (by omega), Option.bind_some]
  obtain ⟨x, hx, hb, hk⟩ := upto_ok (r := r) (n := n - 1) hl hp (by omega)
  rw [hx, Option.bind_some]
  exact ⟨_, rfl, hk⟩
def IsOrd (n : Nat) (l : List Int) : Prop := l.Perm ((List.range n).map fun k : Nat => (k : Int))
theorem ins_ok {l : List Int} {i v : Int} (h0 : 0 ≤ i) (h1 : i ≤ (l.length : Int)) (hl : l.length ≤ 1000) : zP l i [v] = some (l.take i.toNat ++ [v] ++ l.drop i.toNat) := by
  unfold zP
  rw [if_pos ⟨h0, h1, by simp, by simp; omega⟩]
theorem IsOrd.len {n : Nat} {l : List Int} (h : IsOrd n l) : l.length = n := by
  have := List.Perm.length_eq h
  simpa using this
theorem IsOrd.ins {n : Nat} {l : List Int} (h : IsOrd n l) (i : Nat) : IsOrd (n + 1) (l.take i ++ [(n : Int)] ++ l.drop i) := by
  unfold IsOrd
  rw [List.range_succ, List.map_append]
  have e : l.take i ++ [(n : Int)] ++ l.drop i = l.take i ++ (n : Int) :: l.drop i := by simp
  rw [e]
  refine List.perm_middle.trans ?_
  rw [List.take_append_drop]
  refine (List.Perm.cons _ h).trans ?_
  exact (List.perm_append_singleton _ _).symm
theorem order_ok {l : List Int} (hl : l.length ≤ 9223372036854775807) {p r : Int} {n : Nat} (hp : HOK l p) (hn : n ≤ 900) : ∃ x, zo l p r (n : Int) = some x ∧ HOK l x.h0_1 ∧ IsOrd n x.r0 := by
  unfold zo
  have key : ∃ o, iterM FU (yF (n : Int) l) ⟨0, p, r, []⟩ = some o ∧ HOK l o.h0_1 ∧ IsOrd n o.out5 := by
    refine iterM_inv (f := yF (n : Int) l) (fun s => ∃ j : Nat, s.t9 = (j : Int) ∧ j ≤ n ∧ HOK l s.h0_1 ∧ IsOrd j s.out5) (fun s => ((n : Int) - s.t9).toNat) _ (fun s hs => ?_) FU _ (FU_lt (by simp only; omega)) ⟨0, rfl, by omega, hp, List.Perm.refl _⟩
    obtain ⟨j, hj, hjn, hk, ho⟩ := hs
    unfold yF
    rw [hj]
    by_cases hlt : j < n
    · left
      obtain ⟨x, hx, hb, hk2⟩ := upto_ok (r := s.h0_2) (n := (j : Int)) hl hk (by omega)
      have hlen := ho.len
      rw [if_pos (by omega), hx, Option.bind_some, ins_ok hb.1 (by omega) (by omega), Option.bind_some, addc_eq (by omega), Option.bind_some]
      exact ⟨_, rfl, ⟨j + 1, by push_cast; rfl, hlt, hk2, ho.ins _⟩, by simp only; omega⟩
    · right
      rw [if_neg (by omega)]
      have : j = n := by omega
      subst this
      exact ⟨_, rfl, hk, ho⟩
  obtain ⟨o, h1, h2, h3⟩ := key
  rw [h1, Option.bind_some]
  exact ⟨_, rfl, h2, h3⟩
theorem chk_right {c : Channel} (r : Right c) (h8 : c.sights.length ≤ 8) : chk c = 0 := by
  unfold chk
  have h1 : okMany c = true := okMany_iff.2 ⟨r.cells, r.tides, r.fords, r.sands, h8⟩
  have h2 : okLimit c = true := by
    simp only [okLimit, Bool.and_eq_true, List.all_eq_true, inb_iff]
    exact ⟨r.reach, r.after⟩
  have h3 : okMiss c = true := by
    simp only [okMiss, Bool.and_eq_true, List.all_eq_true, inb_iff]
    refine ⟨⟨fun x hx => ?_, fun s hs => ?_⟩, fun s hs => ?_⟩
    · have := r.fcell x hx; omega
    · have := r.span s hs; omega
    · have := r.scell s hs; omega
  have h4 : okOrder c = true := by
    simp only [okOrder, Bool.and_eq_true, List.all_eq_true, decide_eq_true_eq]
    exact ⟨r.up, fun s hs => (r.span s hs).2.2⟩
  rw [if_pos h1, if_pos h2, if_pos h3, if_pos h4]
theorem lawReach_eq {c : Channel} (h : c.sands.length ≤ 100) (x : Int) : q8 c x = some (rchC c.sands x) := by
  unfold q8
  have key := iterM_run (f := qW c x) (fun j => ⟨rchC (c.sands.take j) x, (j : Int)⟩) c.sands.length (b := rchC c.sands x) (fun j hj => ?_) ?_ FU (FU_lt (by omega))
  · simp only [List.take_zero] at key
    rw [show (⟨0, 0⟩ : qT) = ⟨rchC [] x, ((0 : Nat) : Int)⟩ from rfl, key]
    rfl
  · have e : c.sands.take (j + 1) = c.sands.take j ++ [c.sands[j]] := by rw [List.take_append_getElem]
    have hx : c.sands.getD j default = c.sands[j] := by simp [List.getD_eq_getElem?_getD, hj]
    unfold qW
    simp only
    rw [if_pos (by omega), ix_nat default hj, Option.bind_some, hx, e, rchC_snoc, addc_eq (by omega)]
    unfold stepR
    by_cases h1 : c.sands[j].span.lo ≤ x
    · rw [if_pos h1, Option.bind_some]
      by_cases h2 : x ≤ c.sands[j].span.hi
      · rw [if_pos (decide_eq_true h2), if_pos ⟨h1, h2⟩]; rfl
      · rw [if_neg (by simpa using h2), if_neg (fun q => h2 q.2)]; rfl
    · rw [if_neg h1, Option.bind_some, if_neg (by decide), if_neg (fun q => h1 q.1)]; rfl
  · unfold qW
    simp only
    rw [if_neg (by omega), List.take_length]
def freeB (cells : Int) (r0 : List Int) (i : Nat) (v : Int) : Bool := decide (0 ≤ v) && (decide (v < cells) && ((decide (i = 0) || decide (r0.getD (i - 1) (-1) < v)) && (decide (i + 1 = r0.length) || decide (v < r0.getD (i + 1) (-1)))))
theorem cond_eq {v cells : Int} {i : Nat} {r0 : List Int} (hi : i < r0.length) (hn : r0.length ≤ 1000) : (if 0 ≤ v then
 (if v < cells then
 (if (i : Int) = 0 then
 ((subc (r0.length : Int) 1).bind fun t82 =>
 if (i : Int) = t82 then
 (some true) else
 ((addc (i : Int) 1).bind fun t88 =>
 (ix r0 t88).bind fun t89 =>
 some (decide (v < t89)))) else
 ((subc (i : Int) 1).bind fun t72 =>
 (ix r0 t72).bind fun t73 =>
 if t73 < v then
 ((subc (r0.length : Int) 1).bind fun t82_1 =>
 if (i : Int) = t82_1 then
 (some true) else
 ((addc (i : Int) 1).bind fun t88_1 =>
 (ix r0 t88_1).bind fun t89_1 =>
 some (decide (v < t89_1)))) else
 (some false))) else
 (some false)) else
 (some false) : Option Bool) = some (freeB cells r0 i v) := by
  have tail : ((subc (r0.length : Int) 1).bind fun t82 => if (i : Int) = t82 then (some true) else ((addc (i : Int) 1).bind fun t88 => (ix r0 t88).bind fun t89 => some (decide (v < t89)))) = some (decide (i + 1 = r0.length) || decide (v < r0.getD (i + 1) (-1))) := by
    rw [subc_eq (by omega), Option.bind_some]
    by_cases h : i + 1 = r0.length
    · rw [if_pos (by omega), decide_eq_true h, Bool.true_or]
    · rw [if_neg (by omega), addc_eq (by omega), Option.bind_some, show (i : Int) + 1 = ((i + 1 : Nat) : Int) by omega, ix_nat (-1) (by omega), Option.bind_some, decide_eq_false h, Bool.false_or]
  unfold freeB
  by_cases h1 : 0 ≤ v
  · rw [if_pos h1, decide_eq_true h1, Bool.true_and]
    by_cases h2 : v < cells
    · rw [if_pos h2, decide_eq_true h2, Bool.true_and, tail]
      by_cases h3 : i = 0
      · rw [if_pos (by omega), decide_eq_true h3, Bool.true_or, Bool.true_and]
      · rw [if_neg (by omega), subc_eq (by omega), Option.bind_some, show (i : Int) - 1 = ((i - 1 : Nat) : Int) by omega, ix_nat (-1) (by omega), Option.bind_some, decide_eq_false h3, Bool.false_or]
        by_cases h4 : r0.getD (i - 1) (-1) < v
        · rw [if_pos h4, decide_eq_true h4, Bool.true_and]
        · rw [if_neg h4, decide_eq_false h4, Bool.false_and]
    · rw [if_neg h2, decide_eq_false h2, Bool.false_and]
  · rw [if_neg h1, decide_eq_false h1, Bool.false_and]
theorem getD_set {l : List Int} {i j : Nat} {v d : Int} (hi : i < l.length) : (l.set i v).getD j d = if j = i then v else l.getD j d := by
  rw [List.getD_eq_getElem?_getD, List.getElem?_set, List.getD_eq_getElem?_getD]
  by_cases h : i = j
  · subst h; simp [hi]
  · rw [if_neg h, if_neg (fun e => h e.symm)]
theorem row_set {c : Channel} {a b : List Int} (hb : rowB c b = true) (hab : a.length = b.length) (hc : canB c.sands a b = true) {i : Nat} (hi : i < b.length) {v : Int} (hf : freeB c.cells b i v = true) (hv : a.getD i (-1) - rchC c.sands (a.getD i (-1)) ≤ v ∧ v ≤ a.getD i (-1) + rchC c.sands (a.getD i (-1))) : rowB c (b.set i v) = true ∧ canB c.sands a (b.set i v) = true := by
  unfold freeB at hf
  simp only [Bool.and_eq_true, Bool.or_eq_true, decide_eq_true_eq] at hf
  obtain ⟨f1, f2, f3, f4⟩ := hf
  obtain ⟨b1, b2, b3⟩ := rowB_iff.1 hb
  constructor
  · refine rowB_iff.2 ⟨by rw [List.length_set]; exact b1, upB_ix.2 fun j hj => ?_, fun x hx => ?_⟩
    · rw [List.length_set] at hj
      rw [getD_set hi, getD_set hi]
      have hb' := upB_ix.1 b2 j hj
      by_cases h1 : j = i
      · subst h1
        rw [if_pos rfl, if_neg (by omega)]
        rcases f4 with f4 | f4
        · omega
        · exact f4
      · rw [if_neg h1]
        by_cases h2 : j + 1 = i
        · rw [if_pos h2]
          rcases f3 with f3 | f3
          · omega
          · rw [← h2, Nat.add_sub_cancel] at f3; exact f3
        · rw [if_neg h2]; exact hb'
    · rcases List.mem_or_eq_of_mem_set hx with h | h
      · exact b3 x h
      · omega
  · unfold canB at hc ⊢
    rw [List.all_eq_true] at hc ⊢
    intro j hj
    have h0 := hc j hj
    rw [getD_set hi]
    by_cases h1 : j = i
    · subst h1
      rw [if_pos rfl, inb_iff]
      omega
    · rw [if_neg h1]; exact h0
theorem walk_L1 {l : List Int} (hl : l.length ≤ 9223372036854775807) {c : Channel} (r : Right c) {a : List Int} (ha : rowB c a = true) {t : yU} (ho : IsOrd a.length t.r0) {p q : Int} (hp : HOK l p) :
    ∃ o, iterM FU (ql t a c l) ⟨0, p, q, a⟩ = some o ∧ HOK l o.b0_1 ∧ rowB c o.r0 = true ∧ canB c.sands a o.r0 = true := by
  have hc := r.cells
  have hf := r.fords
  have hs := r.sands
  have hlen := ho.len
  obtain ⟨a1, a2, a3⟩ := rowB_iff.1 ha
  refine iterM_inv (f := ql t a c l) (fun s => (0 ≤ s.t33 ∧ s.t33 ≤ (t.r0.length : Int)) ∧ HOK l s.b0_1 ∧ rowB c s.r0 = true ∧ canB c.sands a s.r0 = true) (fun s => ((t.r0.length : Int) - s.t33).toNat) _ (fun s hs => ?_) FU _ (FU_lt (by simp only; omega)) ⟨by simp only; omega, hp, ha, canB_self r a⟩
  obtain ⟨h0, hk, hr, hcn⟩ := hs
  obtain ⟨b1, b2, b3⟩ := rowB_iff.1 hr
  unfold ql
  by_cases hlt : s.t33 < (t.r0.length : Int)
  · left
    have hm : t.r0.getD s.t33.toNat 0 ∈ t.r0 := getD_mem (by omega)
    obtain ⟨i, hi, he⟩ := List.mem_map.1 ((List.Perm.mem_iff ho).1 hm)
    have hi' : i < a.length := by simpa using hi
    have h1 := a3 _ (getD_mem (d := -1) hi')
    have h2 := rchC_bounds (x := a.getD i (-1)) r.reach
    obtain ⟨x, hx, hb, hk2⟩ := from_ok (r := s.b0_2) (lo := -rchC c.sands (a.getD i (-1))) (hi := rchC c.sands (a.getD i (-1))) hl hk (by omega)
    have hneg : negc (rchC c.sands (a.getD i (-1))) = some (-rchC c.sands (a.getD i (-1))) := negc_eq (by omega)
    rw [if_pos hlt, ix_eq 0 h0.1 hlt, Option.bind_some, ← he, ix_nat (-1) hi']
    simp only [Option.bind_some]
    rw [lawReach_eq (by omega)]
    simp only [Option.bind_some]
    rw [hneg]
    simp only [Option.bind_some]
    rw [hx]
    simp only [Option.bind_some]
    rw [addc_eq (by omega)]
    simp only [Option.bind_some]
    rw [cond_eq (by omega) (by omega), addc_eq (by omega)]
    simp only [Option.bind_some]
    by_cases hfr : freeB c.cells s.r0 i (a.getD i (-1) + x.r0) = true
    · rw [if_pos hfr, ix_nat (-1) (by omega)]
      simp only [Option.bind_some, Int.toNat_natCast]
      obtain ⟨g1, g2⟩ := row_set hr (by omega) hcn (by omega) hfr (by omega)
      exact ⟨_, rfl, ⟨by simp only; omega, hk2, g1, g2⟩, by simp only; omega⟩
    · rw [if_neg hfr]
      simp only [Option.bind_some]
      exact ⟨_, rfl, ⟨by simp only; omega, hk2, hr, hcn⟩, by simp only; omega⟩
  · right
    rw [if_neg hlt]
    exact ⟨_, rfl, hk, hr, hcn⟩
structure WalkC (c : Channel) (n : Nat) (crs : List (List Int)) : Prop where
  len : crs.length = n + 1
  fst : crs.getD 0 [] = c.fords
  row : ∀ k, k ≤ n → rowB c (crs.getD k []) = true
  can : ∀ k, k < n → canB c.sands (crs.getD k []) (crs.getD (k + 1) []) = true
theorem getD_snoc {α : Type} {l : List α} {x d : α} {k : Nat} : (l ++ [x]).getD k d = if k < l.length then l.getD k d else if k = l.length then x else d := by
  rw [List.getD_eq_getElem?_getD, List.getD_eq_getElem?_getD]
  by_cases h : k < l.length
  · rw [if_pos h, List.getElem?_append_left h]
  · rw [if_neg h]
    by_cases h2 : k = l.length
    · rw [if_pos h2]; subst h2; simp
    · rw [if_neg h2, List.getElem?_eq_none (by simp; omega)]; rfl
theorem WalkC.snoc {c : Channel} {n : Nat} {crs : List (List Int)} (h : WalkC c n crs) {b : List Int} (hb : rowB c b = true) (hc : canB c.sands (crs.getD n []) b = true) : WalkC c (n + 1) (crs ++ [b]) := by
  have hl := h.len
  refine ⟨by simp; omega, ?_, fun k hk => ?_, fun k hk => ?_⟩
  · rw [getD_snoc, if_pos (by omega)]; exact h.fst
  · rw [getD_snoc]
    by_cases h1 : k < crs.length
    · rw [if_pos h1]; exact h.row k (by omega)
    · rw [if_neg h1, if_pos (by omega)]; exact hb
  · rw [getD_snoc, getD_snoc, if_pos (by omega)]
    by_cases h1 : k + 1 < crs.length
    · rw [if_pos h1]; exact h.can k (by omega)
    · rw [if_neg h1, if_pos (by omega)]
      obtain rfl : k = n := by omega
      exact hc
theorem walked_ok {l : List Int} (hl : l.length ≤ 9223372036854775807) {c : Channel} (r : Right c) {p q : Int} (hp : HOK l p) : ∃ x, qS l p q c = some x ∧ HOK l x.b0_1 ∧ WalkC c c.tides.toNat x.r0 := by
  have ht := r.tides
  have hf := r.fords
  have hrow : rowB c c.fords = true := rowB_iff.2 ⟨rfl, r.up, r.fcell⟩
  unfold qS
  rw [YJ (by omega), Option.bind_some]
  have key : ∃ o, iterM FU (qm c l) ⟨0, p, q, [c.fords]⟩ = some o ∧ HOK l o.b0_1 ∧ WalkC c c.tides.toNat o.out5 := by
    refine iterM_inv (f := qm c l) (fun s => (0 ≤ s.t17 ∧ s.t17 ≤ c.tides) ∧ HOK l s.b0_1 ∧ WalkC c s.t17.toNat s.out5) (fun s => (c.tides - s.t17).toNat) _ (fun s hs => ?_) FU _ (FU_lt (by simp only; omega)) ⟨by simp only; omega, hp, ⟨rfl, rfl, fun k hk => ?_, fun k hk => ?_⟩⟩
    · obtain ⟨h0, hk, hw⟩ := hs
      unfold qm
      by_cases hlt : s.t17 < c.tides
      · left
        have hlen := hw.len
        have ha := hw.row s.t17.toNat (Nat.le_refl _)
        have ha' := (rowB_iff.1 ha).1
        rw [if_pos hlt, subc_eq (by omega), Option.bind_some, ix_eq [] (by omega) (by omega), Option.bind_some, show ((s.out5.length : Int) - 1).toNat = s.t17.toNat by omega, YJ (by omega), Option.bind_some, YJ (by omega), Option.bind_some]
        obtain ⟨t, h1, h2, h3⟩ := order_ok (r := s.b0_2) (n := (s.out5.getD s.t17.toNat []).length) hl hk (by omega)
        rw [h1, Option.bind_some]
        obtain ⟨o, g1, g2, g3, g4⟩ := walk_L1 (q := t.h0_2) hl r ha h3 h2
        rw [g1, Option.bind_some, appc_eq (by simp; omega), Option.bind_some, addc_eq (by omega), Option.bind_some]
        refine ⟨_, rfl, ⟨by simp only; omega, g2, ?_⟩, by simp only; omega⟩
        have := hw.snoc g3 g4
        simp only
        rw [show (s.t17 + 1).toNat = s.t17.toNat + 1 by omega]
        exact this
      · right
        rw [if_neg hlt]
        refine ⟨_, rfl, hk, ?_⟩
        rw [show c.tides.toNat = s.t17.toNat by omega]
        exact hw
    · have hk0 : k = 0 := by simpa using hk
      subst hk0
      exact hrow
    · simp at hk
  obtain ⟨o, h1, h2, h3⟩ := key
  rw [h1, Option.bind_some]
  exact ⟨_, rfl, h2, h3⟩
end Go.Proofs.Wb

namespace Go.Proofs.Wb
open Go Go.Fw Go.Gx Go.Sb
set_option linter.unusedVariables false
set_option maxRecDepth 100000
structure MadeC (c : Channel) (cells fords tides : Int) : Prop where
  right : Right c
  none : c.sights = []
  cells : 3 ≤ c.cells ∧ c.cells ≤ cells
  fords : (c.fords.length : Int) ≤ fords
  tides : c.tides ≤ tides
theorem upB_snoc {f : List Int} {v : Int} (h : upB f = true) (hv : ∀ x ∈ f, x < v) : upB (f ++ [v]) = true := by
  rw [upB_ix] at *
  intro i hi
  rw [List.length_append, List.length_singleton] at hi
  rw [getD_snoc, getD_snoc, if_pos (by omega)]
  by_cases h1 : i + 1 < f.length
  · rw [if_pos h1]; exact h i h1
  · rw [if_neg h1, if_pos (by omega)]
    exact hv _ (getD_mem (by omega))
theorem made_L0 {l : List Int} (hl : l.length ≤ 9223372036854775807) {t : q9} (ht : 3 ≤ t.r0 ∧ t.r0 ≤ 9) {f : Int} (hf : 1 ≤ f ∧ f ≤ 3) {p q : Int} (hp : HOK l p) :
    ∃ o, iterM FU (qH t f l) ⟨0, p, q, []⟩ = some o ∧ HOK l o.b0_1 ∧ upB o.c10_fords = true ∧ (∀ x ∈ o.c10_fords, 0 ≤ x ∧ x < t.r0) ∧ 1 ≤ o.c10_fords.length ∧ (o.c10_fords.length : Int) ≤ f := by
  refine iterM_inv (f := qH t f l) (fun s => (0 ≤ s.t22 ∧ s.t22 ≤ t.r0) ∧ HOK l s.b0_1 ∧ upB s.c10_fords = true ∧ (∀ x ∈ s.c10_fords, 0 ≤ x ∧ x < s.t22) ∧ (s.c10_fords.length : Int) ≤ f ∧ (s.t22 = t.r0 → 1 ≤ s.c10_fords.length)) (fun s => (t.r0 - s.t22).toNat) _ (fun s hs => ?_) FU _ (FU_lt (by simp only; omega)) ⟨by simp only; omega, hp, rfl, by simp, by simp only; simp; omega, fun h => by simp only at h; omega⟩
  obtain ⟨h0, hk, hu, hx, hlen, hne⟩ := hs
  unfold qH
  by_cases hlt : s.t22 < t.r0
  · left
    rw [if_pos hlt, addc_eq (by omega)]
    -- with this cell
    have yes : ∀ (b1 b2 : Int), HOK l b1 → (s.c10_fords.length : Int) < f → ∃ s', ((appc 8 s.c10_fords [s.t22]).bind fun t51 => some (⟨b1, b2, t51⟩ : yw)).bind (fun o_1 => (some (s.t22 + 1)).bind fun t53 => some (Sum.inl (⟨t53, o_1.b0_1, o_1.b0_2, o_1.c10_fords⟩ : j7) : j7 ⊕ yy)) = some (.inl s') ∧ ((0 ≤ s'.t22 ∧ s'.t22 ≤ t.r0) ∧ HOK l s'.b0_1 ∧ upB s'.c10_fords = true ∧ (∀ x ∈ s'.c10_fords, 0 ≤ x ∧ x < s'.t22) ∧ (s'.c10_fords.length : Int) ≤ f ∧ (s'.t22 = t.r0 → 1 ≤ s'.c10_fords.length)) ∧ (t.r0 - s'.t22).toNat < (t.r0 - s.t22).toNat := by
      intro b1 b2 hb hff
      rw [appc_eq (by simp; omega)]
      simp only [Option.bind_some]
      refine ⟨_, rfl, ⟨by simp only; omega, hb, upB_snoc hu (fun x hx' => (hx x hx').2), fun x hx' => ?_, by simp; omega, fun _ => by simp⟩, by simp only; omega⟩
      simp only
      rcases List.mem_append.1 hx' with h | h
      · have := hx x h; omega
      · rw [List.mem_singleton] at h; omega
    have no : ∀ (b1 b2 : Int), HOK l b1 → (s.t22 + 1 = t.r0 → 1 ≤ s.c10_fords.length) → ∃ s', (some (⟨b1, b2, s.c10_fords⟩ : yw)).bind (fun o_1 => (some (s.t22 + 1)).bind fun t53 => some (Sum.inl (⟨t53, o_1.b0_1, o_1.b0_2, o_1.c10_fords⟩ : j7) : j7 ⊕ yy)) = some (.inl s') ∧ ((0 ≤ s'.t22 ∧ s'.t22 ≤ t.r0) ∧ HOK l s'.b0_1 ∧ upB s'.c10_fords = true ∧ (∀ x ∈ s'.c10_fords, 0 ≤ x ∧ x < s'.t22) ∧ (s'.c10_fords.length : Int) ≤ f ∧ (s'.t22 = t.r0 → 1 ≤ s'.c10_fords.length)) ∧ (t.r0 - s'.t22).toNat < (t.r0 - s.t22).toNat := by
      intro b1 b2 hb hff
      simp only [Option.bind_some]
      exact ⟨_, rfl, ⟨by simp only; omega, hb, hu, fun x hx' => by have := hx x hx'; simp only; omega, hlen, hff⟩, by simp only; omega⟩
    by_cases h1 : (s.c10_fords.length : Int) < f
    · obtain ⟨x, hx', hk2⟩ := once_ok (r := s.b0_2) (n := 3) hl hk (by omega)
      rw [if_pos h1, hx', Option.bind_some]
      by_cases h2 : x.r0 = true
      · rw [if_pos h2, Option.bind_some, if_pos rfl]
        exact yes _ _ hk2 h1
      · rw [if_neg h2, subc_eq (by omega), Option.bind_some]
        by_cases h3 : s.t22 = t.r0 - 1
        · rw [if_pos h3, Option.bind_some]
          by_cases h4 : (s.c10_fords.length : Int) = 0
          · rw [if_pos (decide_eq_true h4)]
            exact yes _ _ hk2 h1
          · rw [if_neg (by simpa using h4)]
            exact no _ _ hk2 (fun _ => by omega)
        · rw [if_neg h3, Option.bind_some, if_neg Bool.false_ne_true]
          exact no _ _ hk2 (fun q => by omega)
    · rw [if_neg h1, Option.bind_some, if_neg Bool.false_ne_true]
      exact no _ _ hk (fun _ => by omega)
  · right
    rw [if_neg hlt]
    have : s.t22 = t.r0 := by omega
    exact ⟨_, rfl, hk, hu, fun x hx' => by have := hx x hx'; omega, hne this, hlen⟩
theorem made_L1 {l : List Int} (hl : l.length ≤ 9223372036854775807) {t : q9} (ht : 3 ≤ t.r0 ∧ t.r0 ≤ 9) {u : yD} (hu : 0 ≤ u.r0 ∧ u.r0 ≤ 4) {p q : Int} (hp : HOK l p) :
    ∃ o, iterM FU (qE u t l) ⟨0, p, q, []⟩ = some o ∧ HOK l o.b0_1 ∧ o.c10_sands.length ≤ 4 ∧ ∀ s ∈ o.c10_sands, (1 ≤ s.reach ∧ s.reach ≤ 2) ∧ 0 ≤ s.span.lo ∧ s.span.hi < t.r0 ∧ s.span.lo ≤ s.span.hi := by
  refine iterM_inv (f := qE u t l) (fun s => (0 ≤ s.t56 ∧ s.t56 ≤ u.r0) ∧ HOK l s.b0_1 ∧ (s.c10_sands.length : Int) = s.t56 ∧ ∀ w ∈ s.c10_sands, (1 ≤ w.reach ∧ w.reach ≤ 2) ∧ 0 ≤ w.span.lo ∧ w.span.hi < t.r0 ∧ w.span.lo ≤ w.span.hi) (fun s => (u.r0 - s.t56).toNat) _ (fun s hs => ?_) FU _ (FU_lt (by simp only; omega)) ⟨by simp only; omega, hp, rfl, by simp⟩
  obtain ⟨h0, hk, hlen, hx⟩ := hs
  unfold qE
  by_cases hlt : s.t56 < u.r0
  · left
    rw [if_pos hlt, subc_eq (by omega), Option.bind_some]
    obtain ⟨x, hx1, hb1, hk1⟩ := upto_ok (r := s.b0_2) (n := t.r0 - 1) hl hk (by omega)
    rw [hx1, Option.bind_some, Option.bind_some]
    obtain ⟨y, hy1, hb2, hk2⟩ := upto_ok (r := x.h0_2) (n := 4) hl hk1 (by omega)
    rw [hy1, Option.bind_some, addc_eq (by omega), Option.bind_some]
    obtain ⟨z, hz1, hb3, hk3⟩ := from_ok (r := y.h0_2) (lo := 1) (hi := 2) hl hk2 (by omega)
    rw [hz1, Option.bind_some, appc_eq (by simp; omega), Option.bind_some, Option.bind_some, addc_eq (by omega), Option.bind_some]
    refine ⟨_, rfl, ⟨by simp only; omega, hk3, by simp; omega, fun w hw => ?_⟩, by simp only; omega⟩
    rcases List.mem_append.1 hw with h | h
    · exact hx w h
    · rw [List.mem_singleton] at h
      subst h
      simp only
      omega
  · right
    rw [if_neg hlt]
    exact ⟨_, rfl, hk, by simp only; omega, hx⟩
theorem made_ok {l : List Int} (hl : l.length ≤ 9223372036854775807) {p q cells fords tides : Int} (hp : HOK l p) (hc : 3 ≤ cells ∧ cells ≤ 9) (hf : 1 ≤ fords ∧ fords ≤ 3) (ht : 0 ≤ tides ∧ tides ≤ 4) : ∃ x, qO l p q cells fords tides = some x ∧ HOK l x.b0_1 ∧ MadeC x.r0 cells fords tides ∧ WalkC x.r0 x.r0.tides.toNat x.r1 := by
  unfold qO
  obtain ⟨x, hx, hb, hk⟩ := from_ok (r := q) (lo := 3) (hi := cells) hl hp (by omega)
  rw [hx, Option.bind_some]
  obtain ⟨y, hy, hb2, hk2⟩ := upto_ok (r := x.h0_2) (n := tides) hl hk (by omega)
  rw [hy, Option.bind_some]
  obtain ⟨o, ho, hk3, o1, o2, o3, o4⟩ := made_L0 (q := y.h0_2) (t := x) hl (by omega) hf hk2
  rw [ho, Option.bind_some]
  obtain ⟨u, hu, hb4, hk4⟩ := upto_ok (r := o.b0_2) (n := 4) hl hk3 (by omega)
  rw [hu, Option.bind_some]
  obtain ⟨v, hv, hk5, v1, v2⟩ := made_L1 (q := u.h0_2) (t := x) (u := u) hl (by omega) (by omega) hk4
  rw [hv, Option.bind_some]
  have r : Right ⟨x.r0, y.r0, o.c10_fords, v.c10_sands, []⟩ := ⟨by simp only; omega, by simp only; omega, by simp only; omega, v1, by simp, fun s hs => (v2 s hs).1, by simp, o2, fun s hs => (v2 s hs).2, by simp, o1⟩
  obtain ⟨w, hw, hk6, w1⟩ := walked_ok (q := v.b0_2) hl r hk5
  rw [hw, Option.bind_some]
  exact ⟨_, rfl, hk6, ⟨r, rfl, by simp only; omega, by simp only; omega, by simp only; omega⟩, w1⟩
structure SeenC (c : Channel) (crs : List (List Int)) (s : Sight) : Prop where
  after : 0 ≤ s.after ∧ s.after ≤ c.tides
  cell : 0 ≤ s.cell ∧ s.cell < c.cells
  up : s.upright = decide (s.cell ∈ crs.getD s.after.toNat [])
theorem seen_ok {l : List Int} (hl : l.length ≤ 9223372036854775807) {c : Channel} (r : Right c) {crs : List (List Int)} (hw : WalkC c c.tides.toNat crs) {p q most : Int} (hp : HOK l p) (hm : 0 ≤ most ∧ most ≤ 8) : ∃ x, qN l p q c crs most = some x ∧ HOK l x.b0_1 ∧ (x.r0.length : Int) ≤ most ∧ ∀ s ∈ x.r0, SeenC c crs s := by
  have hc := r.cells
  have hf := r.fords
  have ht := r.tides
  have hcl := hw.len
  unfold qN
  obtain ⟨u, hu, hb, hk⟩ := upto_ok (r := q) (n := most) hl hp (by omega)
  rw [hu, Option.bind_some]
  have key : ∃ o, iterM FU (qI u c l crs) ⟨0, u.h0_1, u.h0_2, []⟩ = some o ∧ HOK l o.b0_1 ∧ (o.out9.length : Int) = u.r0 ∧ ∀ s ∈ o.out9, SeenC c crs s := by
    refine iterM_inv (f := qI u c l crs) (fun s => (0 ≤ s.t14 ∧ s.t14 ≤ u.r0) ∧ HOK l s.b0_1 ∧ (s.out9.length : Int) = s.t14 ∧ ∀ w ∈ s.out9, SeenC c crs w) (fun s => (u.r0 - s.t14).toNat) _ (fun s hs => ?_) FU _ (FU_lt (by simp only; omega)) ⟨by simp only; omega, hk, rfl, by simp⟩
    obtain ⟨h0, hk0, hlen, hx⟩ := hs
    unfold qI
    by_cases hlt : s.t14 < u.r0
    · left
      rw [if_pos hlt, subc_eq (by omega), Option.bind_some]
      obtain ⟨x, hx1, hb1, hk1⟩ := upto_ok (r := s.b0_2) (n := c.tides) hl hk0 (by omega)
      rw [hx1, Option.bind_some]
      obtain ⟨y, hy1, hb2, hk2⟩ := upto_ok (r := x.h0_2) (n := c.cells - 1) hl hk1 (by omega)
      rw [hy1, Option.bind_some, Option.bind_some]
      obtain ⟨z, hz1, hk3⟩ := once_ok (r := y.h0_2) (n := 2) hl hk2 (by omega)
      have hrow := hw.row x.r0.toNat (by omega)
      obtain ⟨r1, r2, r3⟩ := rowB_iff.1 hrow
      have hixr : ix crs x.r0 = some (crs.getD x.r0.toNat []) := ix_eq [] (by omega) (by omega)
      have fin : ∀ (b1 b2 ce : Int), HOK l b1 → (0 ≤ ce ∧ ce < c.cells) → ∃ s', (ix crs x.r0).bind (fun t45 => (kl t45 ce).bind fun t49 => (appc 24 s.out9 [(⟨x.r0, ce, t49⟩ : Sight)]).bind fun t54 => (addc s.t14 1).bind fun t55 => some (Sum.inl (⟨t55, b1, b2, t54⟩ : k8) : k8 ⊕ zi)) = some (.inl s') ∧ ((0 ≤ s'.t14 ∧ s'.t14 ≤ u.r0) ∧ HOK l s'.b0_1 ∧ (s'.out9.length : Int) = s'.t14 ∧ ∀ s ∈ s'.out9, SeenC c crs s) ∧ (u.r0 - s'.t14).toNat < (u.r0 - s.t14).toNat := by
        intro b1 b2 ce hb hce
        rw [hixr, Option.bind_some, Yd (by omega), Option.bind_some, appc_eq (by simp; omega), Option.bind_some, addc_eq (by omega), Option.bind_some]
        refine ⟨_, rfl, ⟨by simp only; omega, hb, by simp; omega, fun w hw' => ?_⟩, by simp only; omega⟩
        rcases List.mem_append.1 hw' with h | h
        · exact hx w h
        · rw [List.mem_singleton] at h
          subst h
          exact ⟨by simp only; omega, hce, rfl⟩
      rw [hz1, Option.bind_some]
      by_cases h2 : z.r0 = true
      · rw [if_pos h2]
        obtain ⟨v, hv1, hb4, hk4⟩ := upto_ok (r := z.h0_2) (n := (c.fords.length : Int) - 1) hl hk3 (by omega)
        have hce : ix (crs.getD x.r0.toNat []) v.r0 = some ((crs.getD x.r0.toNat []).getD v.r0.toNat 0) := ix_eq 0 (by omega) (by omega)
        have hm2 := r3 _ (getD_mem (d := 0) (l := crs.getD x.r0.toNat []) (i := v.r0.toNat) (by omega))
        simp only
        rw [hixr, Option.bind_some, subc_eq (by omega), Option.bind_some, hv1, Option.bind_some, hce, Option.bind_some, Option.bind_some, ← hixr]
        exact fin _ _ _ hk4 hm2
      · rw [if_neg h2, Option.bind_some]
        exact fin _ _ _ hk3 (by simp only; omega)
    · right
      rw [if_neg hlt]
      exact ⟨_, rfl, hk0, by simp only; omega, hx⟩
  obtain ⟨o, h1, h2, h3, h4⟩ := key
  rw [h1, Option.bind_some]
  exact ⟨_, rfl, h2, by simp only; omega, h4⟩
theorem right_sights {c : Channel} (r : Right c) {sg : List Sight} (hn : sg.length ≤ 8) (h : ∀ s ∈ sg, (0 ≤ s.after ∧ s.after ≤ c.tides) ∧ 0 ≤ s.cell ∧ s.cell < c.cells) : Right ⟨c.cells, c.tides, c.fords, c.sands, sg⟩ := ⟨r.cells, r.tides, r.fords, r.sands, by simp only; omega, r.reach, fun s hs => (h s hs).1, r.fcell, r.span, fun s hs => (h s hs).2, r.up⟩
theorem pile_eq (l : List Int) : YK l = some ⟨0, 0⟩ := rfl
theorem HOK_zero (l : List Int) : HOK l 0 := ⟨Int.le_refl _, .inr rfl⟩
end Go.Proofs.Wb

namespace Go.Proofs.Wb
open Go Go.Fw Go.Gx Go.Sb
set_option linter.unusedVariables false
set_option maxRecDepth 100000
theorem made_seen {l : List Int} (hl : l.length ≤ 9223372036854775807) {cells fords tides most : Int} (hc : 3 ≤ cells ∧ cells ≤ 9) (hf : 1 ≤ fords ∧ fords ≤ 3) (ht : 0 ≤ tides ∧ tides ≤ 4) (hm : 0 ≤ most ∧ most ≤ 8) : ∃ x y, qO l 0 0 cells fords tides = some x ∧ qN l x.b0_1 x.b0_2 x.r0 x.r1 most = some y ∧ MadeC x.r0 cells fords tides ∧ WalkC x.r0 x.r0.tides.toNat x.r1 ∧ HOK l y.b0_1 ∧ (y.r0.length : Int) ≤ most ∧ ∀ s ∈ y.r0, SeenC x.r0 x.r1 s := by
  obtain ⟨x, h1, h2, h3, h4⟩ := made_ok hl (q := 0) (HOK_zero l) hc hf ht
  obtain ⟨y, g1, g2, g3, g4⟩ := seen_ok (q := x.b0_2) hl h3.right h4 h2 hm
  exact ⟨x, y, h1, g1, h3, h4, g2, g3, g4⟩
def cS (c : Channel) (sg : List Sight) : Channel := ⟨c.cells, c.tides, c.fords, c.sands, sg⟩
theorem few_right {c : Channel} (r : Right c) (h : c.sights.length ≤ 8) : Few c := by
  have hf := r.fords
  have hs := r.sands
  exact ⟨by omega, by omega, by omega⟩
theorem WalkC.sights {c : Channel} {n : Nat} {crs : List (List Int)} (h : WalkC c n crs) (sg : List Sight) : WalkC (cS c sg) n crs := ⟨h.len, h.fst, h.row, h.can⟩
end Go.Proofs.Wb

namespace Go.Proofs.Wb
open Go Go.Fw Go.Gx Go.Sb
set_option linter.unusedVariables false
set_option maxRecDepth 100000
theorem upB_pw {l : List Int} : upB l = true ↔ l.Pairwise (· < ·) := by
  rw [upB_ix, List.pairwise_iff_getElem]
  constructor
  · intro h i j hi hj hij
    have key : ∀ d, i + d + 1 < l.length → l.getD i (-1) < l.getD (i + d + 1) (-1) := by
      intro d
      induction d with
      | zero => intro hd; exact h i hd
      | succ d ih =>
        intro hd
        have h1 := ih (by omega)
        have h2 := h (i + d + 1) (by omega)
        rw [show i + (d + 1) + 1 = i + d + 1 + 1 by omega]
        omega
    have := key (j - i - 1) (by omega)
    rw [show i + (j - i - 1) + 1 = j by omega] at this
    simpa [List.getD_eq_getElem?_getD, hi, hj] using this
  · intro h i hi
    have := h i (i + 1) (by omega) hi (by omega)
    simpa [List.getD_eq_getElem?_getD, hi, (show i < l.length by omega)] using this
end Go.Proofs.Wb

namespace Go.Proofs.Wb
open Go Go.Fw Go.Gx Go.Sb
set_option linter.unusedVariables false
set_option maxRecDepth 100000
theorem cells_at {c : Channel} (hF : Few c) (h0 : chk c = 0) (hp : 0 < cntS tt c) {k i : Nat} (hk : (k : Int) ≤ c.tides) (hi : i < c.fords.length) : ya c (k : Int) (i : Int) = some ⟨0, whereL c k i⟩ := by
  rw [Ym hF, if_pos h0, if_pos (inb_iff.2 (by omega)), if_pos (inb_iff.2 (by omega)), if_neg (by omega), Int.toNat_natCast, Int.toNat_natCast]
end Go.Proofs.Wb

namespace Go.Proofs.Wb
open Go Go.Fw Go.Gx Go.Sb
set_option linter.unusedVariables false
set_option maxRecDepth 100000
def mirL (m : Int) (l : List Int) : List Int := (l.map (m - ·)).reverse
def mirSa (m : Int) (s : Sand) : Sand := ⟨⟨m - s.span.hi, m - s.span.lo⟩, s.reach⟩
def mirSi (m : Int) (s : Sight) : Sight := ⟨s.after, m - s.cell, s.upright⟩
def mirC (c : Channel) : Channel := ⟨c.cells, c.tides, mirL (c.cells - 1) c.fords, c.sands.map (mirSa (c.cells - 1)), c.sights.map (mirSi (c.cells - 1))⟩
theorem mirL_len (m : Int) (l : List Int) : (mirL m l).length = l.length := by unfold mirL; simp
theorem mirL_mirL (m : Int) (l : List Int) : mirL m (mirL m l) = l := by
  unfold mirL
  rw [List.map_reverse, List.reverse_reverse, List.map_map]
  conv => rhs; rw [← List.map_id l]
  refine List.map_congr_left fun x _ => ?_
  simp only [Function.comp, id]
  omega
theorem mem_mirL {m x : Int} {l : List Int} : x ∈ mirL m l ↔ m - x ∈ l := by
  unfold mirL
  rw [List.mem_reverse, List.mem_map]
  constructor
  · rintro ⟨y, hy, rfl⟩
    rw [show m - (m - y) = y by omega]; exact hy
  · intro h
    exact ⟨m - x, h, by omega⟩
theorem mirL_get {m : Int} {l : List Int} {i : Nat} (hi : i < l.length) (d : Int) : (mirL m l).getD i d = m - l.getD (l.length - 1 - i) d := by
  unfold mirL
  rw [List.getD_eq_getElem?_getD, List.getElem?_reverse (by simpa using hi), List.length_map, List.getElem?_map, List.getD_eq_getElem?_getD, List.getElem?_eq_getElem (by omega)]
  rfl
theorem mirL_pw {m : Int} {l : List Int} (h : l.Pairwise (· < ·)) : (mirL m l).Pairwise (· < ·) := by
  unfold mirL
  rw [List.pairwise_reverse, List.pairwise_map]
  exact h.imp (fun h => by omega)
theorem mir_row {c : Channel} {l : List Int} (h : rowB c l = true) : rowB c (mirL (c.cells - 1) l) = true := by
  obtain ⟨h1, h2, h3⟩ := rowB_iff.1 h
  refine rowB_iff.2 ⟨by rw [mirL_len]; exact h1, upB_pw.2 (mirL_pw (upB_pw.1 h2)), fun x hx => ?_⟩
  have := h3 _ (mem_mirL.1 hx)
  omega
theorem LL_mir (c : Channel) : LL (mirC c) = LL c := by
  unfold LL mirC
  simp only [mirL_len]
theorem mir_LL {c : Channel} (hc : 0 ≤ c.cells) {l : List Int} (h : l ∈ LL c) : mirL (c.cells - 1) l ∈ LL c := (mem_LL hc).2 (mir_row ((mem_LL hc).1 h))
theorem mir_perm {c : Channel} (hc : 0 ≤ c.cells) : ((LL c).map (mirL (c.cells - 1))).Perm (LL c) := by
  refine (List.perm_ext_iff_of_nodup ?_ (LL_nodup c)).2 (fun x => ?_)
  · refine List.Pairwise.map _ (fun a b hab h => hab ?_) (LL_nodup c)
    rw [← mirL_mirL (c.cells - 1) a, h, mirL_mirL]
  · rw [List.mem_map]
    constructor
    · rintro ⟨l, hl, rfl⟩; exact mir_LL hc hl
    · intro h
      exact ⟨_, mir_LL hc h, mirL_mirL _ _⟩
theorem sum_mir {c : Channel} (hc : 0 ≤ c.cells) (f : List Int → Nat) : sumN (LL c) f = sumN (LL c) fun l => f (mirL (c.cells - 1) l) := by
  rw [← sumN_map (LL c) (mirL (c.cells - 1)) f]
  exact (sumN_perm (mir_perm hc) f).symm
theorem rch_mir (m x : Int) : ∀ (l : List Sand) (r : Int), (l.map (mirSa m)).foldl (stepR (m - x)) r = l.foldl (stepR x) r
  | [], r => rfl
  | s :: l, r => by
    rw [List.map_cons, List.foldl_cons, List.foldl_cons]
    have e : stepR (m - x) r (mirSa m s) = stepR x r s := by
      unfold stepR mirSa
      simp only
      by_cases h : s.span.lo ≤ x ∧ x ≤ s.span.hi
      · rw [if_pos h, if_pos (by omega)]
      · rw [if_neg h, if_neg (by omega)]
    rw [e]
    exact rch_mir m x l _
theorem rchC_mir (m x : Int) (l : List Sand) : rchC (l.map (mirSa m)) (m - x) = rchC l x := rch_mir m x l 0
theorem can_mir {sa : List Sand} {m : Int} {a b : List Int} (h : a.length = b.length) : canB (sa.map (mirSa m)) (mirL m a) (mirL m b) = canB sa a b := by
  unfold canB
  rw [mirL_len, Bool.eq_iff_iff, List.all_eq_true, List.all_eq_true]
  constructor
  · intro h1 i hi
    have hi' : i < a.length := by simpa using hi
    have := h1 (a.length - 1 - i) (by simp; omega)
    rw [mirL_get (by omega), mirL_get (by omega), show a.length - 1 - (a.length - 1 - i) = i by omega, show b.length - 1 - (a.length - 1 - i) = i by omega, rchC_mir, inb_iff] at this
    rw [inb_iff]
    omega
  · intro h1 i hi
    have hi' : i < a.length := by simpa using hi
    have := h1 (a.length - 1 - i) (by simp; omega)
    rw [mirL_get hi', mirL_get (by omega), rchC_mir, inb_iff, ← h]
    rw [inb_iff] at this
    omega
theorem ag_mir {sg : List Sight} {m k : Int} {l : List Int} : agP tt (sg.map (mirSi m)) k (mirL m l) = agP tt sg k l := by
  rw [Bool.eq_iff_iff, agP_iff, agP_iff, List.length_map]
  have e : ∀ i, i < sg.length → (sg.map (mirSi m)).getD i default = mirSi m (sg.getD i default) := by
    intro i hi
    rw [List.getD_eq_getElem?_getD, List.getElem?_map, List.getD_eq_getElem?_getD, List.getElem?_eq_getElem hi]
    rfl
  have e2 : ∀ s : Sight, decide ((mirSi m s).cell ∈ mirL m l) = decide (s.cell ∈ l) := by
    intro s
    rw [Bool.eq_iff_iff, decide_eq_true_eq, decide_eq_true_eq, mem_mirL]
    unfold mirSi
    simp only
    rw [show m - (m - s.cell) = s.cell by omega]
  constructor
  · intro h i hi hc ha
    have := h i hi hc (by rw [e i hi]; exact ha)
    rw [e i hi, e2] at this
    exact this
  · intro h i hi hc ha
    rw [e i hi] at ha ⊢
    rw [e2]
    exact h i hi hc ha
theorem mir_right {c : Channel} (r : Right c) : Right (mirC c) := by
  have hc := r.cells
  refine ⟨r.cells, r.tides, by show 1 ≤ (mirL _ c.fords).length ∧ (mirL _ c.fords).length ≤ 3; rw [mirL_len]; exact r.fords, by show (c.sands.map _).length ≤ 4; rw [List.length_map]; exact r.sands, by show (c.sights.map _).length ≤ 20; rw [List.length_map]; exact r.sights, fun s hs => ?_, fun s hs => ?_, fun x hx => ?_, fun s hs => ?_, fun s hs => ?_, upB_pw.2 (mirL_pw (upB_pw.1 r.up))⟩
  · obtain ⟨t, ht, rfl⟩ := List.mem_map.1 hs
    exact r.reach t ht
  · obtain ⟨t, ht, rfl⟩ := List.mem_map.1 hs
    exact r.after t ht
  · have := r.fcell _ (mem_mirL.1 hx)
    show 0 ≤ x ∧ x < c.cells
    omega
  · obtain ⟨t, ht, rfl⟩ := List.mem_map.1 hs
    have := r.span t ht
    show 0 ≤ c.cells - 1 - t.span.hi ∧ c.cells - 1 - t.span.lo < c.cells ∧ c.cells - 1 - t.span.hi ≤ c.cells - 1 - t.span.lo
    omega
  · obtain ⟨t, ht, rfl⟩ := List.mem_map.1 hs
    have := r.scell t ht
    show 0 ≤ c.cells - 1 - t.cell ∧ c.cells - 1 - t.cell < c.cells
    omega
theorem LL_len2 {c : Channel} (hc : 0 ≤ c.cells) {a b : List Int} (ha : a ∈ LL c) (hb : b ∈ LL c) : a.length = b.length := by
  rw [(rowB_iff.1 ((mem_LL hc).1 ha)).1, (rowB_iff.1 ((mem_LL hc).1 hb)).1]
theorem Fc_mir {c : Channel} (r : Right c) : ∀ (k : Nat) (l : List Int), l ∈ LL c → FcL tt (mirC c) k (mirL (c.cells - 1) l) = FcL tt c k l
  | 0, l, hl => by
    rw [FcL, FcL]
    have e1 : agP tt (mirC c).sights 0 (mirL (c.cells - 1) l) = agP tt c.sights 0 l := ag_mir
    have e2 : (mirL (c.cells - 1) l = (mirC c).fords) ↔ l = c.fords := by
      constructor
      · intro h
        have := congrArg (mirL (c.cells - 1)) h
        rw [mirL_mirL] at this
        rw [this]
        exact mirL_mirL _ _
      · intro h; rw [h]; rfl
    rw [e1]
    by_cases h : agP tt c.sights 0 l = true ∧ l = c.fords
    · rw [if_pos h, if_pos ⟨h.1, e2.2 h.2⟩]
    · rw [if_neg h, if_neg (fun q => h ⟨q.1, e2.1 q.2⟩)]
  | k + 1, l, hl => by
    have hc := r.cells
    rw [FcL, FcL]
    have e1 : agP tt (mirC c).sights ((k + 1 : Nat) : Int) (mirL (c.cells - 1) l) = agP tt c.sights ((k + 1 : Nat) : Int) l := ag_mir
    rw [e1, LL_mir]
    congr 1
    rw [sum_mir (by omega)]
    refine sumN_congr fun a ha => ?_
    have e3 : canB (mirC c).sands (mirL (c.cells - 1) a) (mirL (c.cells - 1) l) = canB c.sands a l := can_mir (LL_len2 (by omega) ha hl)
    rw [e3, Fc_mir r k a ha]
theorem cnt_mir {c : Channel} (r : Right c) : cntS tt (mirC c) = cntS tt c := by
  have hc := r.cells
  rw [cntS_sum (mir_right r), cntS_sum r, LL_mir, sum_mir (by omega)]
  exact sumN_congr fun l hl => Fc_mir r _ l hl
theorem R_mir {c : Channel} (r : Right c) : ∀ (j k : Nat) (l : List Int), l ∈ LL c → R (nxS (mirC c)) (agS tt (mirC c)) j (stL k (mirL (c.cells - 1) l)) = R (nxS c) (agS tt c) j (stL k l)
  | 0, k, l, hl => by
    have hc := r.cells
    have hr := (mem_LL (by omega)).1 hl
    have hr' : rowB (mirC c) (mirL (c.cells - 1) l) = true := (mem_LL (c := mirC c) (by show 0 ≤ c.cells; omega)).1 (by rw [LL_mir]; exact mir_LL (by omega) hl)
    have e1 : agP tt (mirC c).sights (k : Int) (mirL (c.cells - 1) l) = agP tt c.sights (k : Int) l := ag_mir
    rw [R, R, agS_stL (mir_right r) hr', agS_stL r hr, e1]
  | j + 1, k, l, hl => by
    have hc := r.cells
    have hr := (mem_LL (by omega)).1 hl
    have hr' : rowB (mirC c) (mirL (c.cells - 1) l) = true := (mem_LL (c := mirC c) (by show 0 ≤ c.cells; omega)).1 (by rw [LL_mir]; exact mir_LL (by omega) hl)
    have e1 : agP tt (mirC c).sights (k : Int) (mirL (c.cells - 1) l) = agP tt c.sights (k : Int) l := ag_mir
    rw [R_stL (mir_right r) hr', R_stL r hr, e1, LL_mir]
    congr 1
    rw [sum_mir (by omega)]
    refine sumN_congr fun a ha => ?_
    have e3 : canB (mirC c).sands (mirL (c.cells - 1) l) (mirL (c.cells - 1) a) = canB c.sands l a := can_mir (LL_len2 (by omega) hl ha)
    rw [e3, R_mir r j (k + 1) a ha]
theorem on_mir {c : Channel} (r : Right c) {k : Nat} {l : List Int} (hl : l ∈ LL c) : onB (mirC c) k (mirL (c.cells - 1) l) = onB c k l := by
  unfold onB
  rw [Fc_mir r k l hl]
  have : R (nxS (mirC c)) (agS tt (mirC c)) ((mirC c).tides.toNat - k) (stL k (mirL (c.cells - 1) l)) = R (nxS c) (agS tt c) (c.tides.toNat - k) (stL k l) := R_mir r _ k l hl
  rw [this]
theorem sumI_rev (f : Nat → Int) {n : Nat} (h : n = 1 ∨ n = 2 ∨ n = 3) : sumI (fun i => f (n - 1 - i)) n = sumI f n := by
  rcases h with rfl | rfl | rfl
  · rfl
  · show 0 + f 1 + f 0 = 0 + f 0 + f 1
    omega
  · show 0 + f 2 + f 1 + f 0 = 0 + f 0 + f 1 + f 2
    omega
theorem mov_mir {m : Int} {a b : List Int} (h : a.length = b.length) (hn : 1 ≤ a.length ∧ a.length ≤ 3) : movL (mirL m a) (mirL m b) = movL a b := by
  unfold movL
  rw [mirL_len, ← sumI_rev (fun i => mvI (a.getD i (-1)) (b.getD i (-1))) (by omega)]
  refine sumI_congr _ fun i hi => ?_
  rw [mirL_get hi, mirL_get (by omega), ← h]
  unfold mvI
  omega
theorem mem_on_mir {c : Channel} (r : Right c) {k : Nat} {l : List Int} (hl : l ∈ LL (mirC c)) (ho : onB (mirC c) k l = true) : mirL (c.cells - 1) l ∈ LL c ∧ onB c k (mirL (c.cells - 1) l) = true := by
  have hc := r.cells
  rw [LL_mir] at hl
  have h1 := mir_LL (by omega) hl
  refine ⟨h1, ?_⟩
  rw [← on_mir r h1, mirL_mirL]
  exact ho
theorem gC_mir {c : Channel} (r : Right c) : ∀ k : Nat, (k : Int) ≤ c.tides → ∀ l ∈ LL c, onB c k l = true → gC (mirC c) k (mirL (c.cells - 1) l) = gC c k l
  | 0, _, l, hl, ho => by
    rw [gC, gC, if_pos ho, if_pos (by rw [on_mir r hl]; exact ho)]
  | k + 1, hk, l, hl, ho => by
    have hc := r.cells
    have hf := r.fords
    have r' := mir_right r
    have ho' : onB (mirC c) (k + 1) (mirL (c.cells - 1) l) = true := by rw [on_mir r hl]; exact ho
    have hl' : mirL (c.cells - 1) l ∈ LL (mirC c) := by rw [LL_mir]; exact mir_LL (by omega) hl
    obtain ⟨⟨a, ha, a1, a2, a3⟩, a4⟩ := gC_step r (k := k) (by omega) hl ho
    obtain ⟨⟨b, hb, b1, b2, b3⟩, b4⟩ := gC_step r' (k := k) (by show (k : Int) < c.tides; omega) hl' ho'
    have hlen : ∀ z, z ∈ LL c → 1 ≤ z.length ∧ z.length ≤ 3 := fun z hz => by rw [(rowB_iff.1 ((mem_LL (by omega)).1 hz)).1]; exact hf
    -- one way
    have g1 := b4 (mirL (c.cells - 1) a) (by rw [LL_mir]; exact mir_LL (by omega) ha) (by rw [on_mir r ha]; exact a1) (by rw [← a2]; exact can_mir (LL_len2 (by omega) ha hl))
    rw [gC_mir r k (by omega) a ha a1, mov_mir (LL_len2 (by omega) ha hl) (hlen a ha)] at g1
    -- the other
    obtain ⟨hm, hmo⟩ := mem_on_mir r hb b1
    have hcan : canB c.sands (mirL (c.cells - 1) b) l = true := by
      rw [← b2]
      have := can_mir (sa := c.sands) (m := c.cells - 1) (LL_len2 (by omega) hm hl)
      rw [mirL_mirL] at this
      exact this.symm
    have g2 := a4 _ hm hmo hcan
    have e1 := gC_mir r k (by omega) _ hm hmo
    rw [mirL_mirL] at e1
    have e2 := mov_mir (m := c.cells - 1) (LL_len2 (by omega) hm hl) (hlen _ hm)
    rw [mirL_mirL] at e2
    omega
theorem best_spec {c : Channel} (r : Right c) (h : cntS tt c ≠ 0) : (∃ l ∈ LL c, onB c c.tides.toNat l = true ∧ bestC c = gC c c.tides.toNat l) ∧ ∀ l ∈ LL c, onB c c.tides.toNat l = true → bestC c ≤ gC c c.tides.toNat l := by
  have ht := r.tides
  obtain ⟨w, hw, hwo⟩ := last_on r h
  have hwg := gC_on r c.tides.toNat (by omega) w hw hwo
  obtain ⟨i, hi, e⟩ := li_of hw
  unfold bestC
  rcases minF_spec (ok := fun a => decide (0 ≤ gC c c.tides.toNat (li c a))) (val := fun a => gC c c.tides.toNat (li c a)) (fun a h => by simpa using h) (LL c).length with ⟨_, q⟩ | ⟨_, ⟨j, j1, j2, j3⟩, q⟩
  · have := q i hi
    rw [e, decide_eq_true hwg] at this
    exact absurd this (by decide)
  · constructor
    · refine ⟨li c j, li_mem j1, ?_, j3⟩
      rw [decide_eq_true_eq] at j2
      cases hq : onB c c.tides.toNat (li c j) with
      | true => rfl
      | false =>
        have := gC_off (c := c) (k := c.tides.toNat) (l := li c j) (by rw [hq]; decide)
        omega
    · intro l hl ho
      obtain ⟨j', hj', e'⟩ := li_of hl
      have h1 := gC_on r c.tides.toNat (by omega) l hl ho
      have := q j' hj' (by rw [e', decide_eq_true h1])
      rw [e'] at this
      exact this
theorem best_mir {c : Channel} (r : Right c) (h : cntS tt c ≠ 0) : bestC (mirC c) = bestC c := by
  have hc := r.cells
  have ht := r.tides
  have r' := mir_right r
  obtain ⟨⟨a, ha, a1, a2⟩, a3⟩ := best_spec r h
  obtain ⟨⟨b, hb, b1, b2⟩, b3⟩ := best_spec r' (by rw [cnt_mir r]; exact h)
  have eT : (mirC c).tides.toNat = c.tides.toNat := rfl
  rw [eT] at b1 b2 b3
  have g1 := b3 (mirL (c.cells - 1) a) (by rw [LL_mir]; exact mir_LL (by omega) ha) (by rw [on_mir r ha]; exact a1)
  rw [gC_mir r _ (by omega) a ha a1] at g1
  obtain ⟨hm, hmo⟩ := mem_on_mir r hb b1
  have g2 := a3 _ hm hmo
  have e1 := gC_mir r _ (by omega) _ hm hmo
  rw [mirL_mirL] at e1
  omega
theorem filt_rev (p : Nat → Bool) {n : Nat} (h : n = 1 ∨ n = 2 ∨ n = 3) : ((List.range n).filter fun i => p (n - 1 - i)).length = ((List.range n).filter p).length := by
  rcases h with rfl | rfl | rfl
  · rw [filt_succ, filt_succ]; rfl
  · rw [filt_succ, filt_succ, filt_succ, filt_succ]
    simp only [List.range_zero, List.filter_nil, List.length_nil]
    show 0 + (if p 1 = true then 1 else 0) + (if p 0 = true then 1 else 0) = 0 + (if p 0 = true then 1 else 0) + (if p 1 = true then 1 else 0)
    omega
  · rw [filt_succ, filt_succ, filt_succ, filt_succ, filt_succ, filt_succ]
    simp only [List.range_zero, List.filter_nil, List.length_nil]
    show 0 + (if p 2 = true then 1 else 0) + (if p 1 = true then 1 else 0) + (if p 0 = true then 1 else 0) = 0 + (if p 0 = true then 1 else 0) + (if p 1 = true then 1 else 0) + (if p 2 = true then 1 else 0)
    omega
theorem an_mir {c : Channel} (r : Right c) {l : List Int} (hl : l ∈ LL c) : anL (mirC c) (mirL (c.cells - 1) l) = anL c l := by
  have hc := r.cells
  have hf := r.fords
  have h1 := (rowB_iff.1 ((mem_LL (by omega)).1 hl)).1
  unfold anL
  have en : (mirC c).fords.length = c.fords.length := mirL_len _ _
  rw [en, ← filt_rev (fun i => decide (l.getD i (-1) ≠ c.fords.getD i 0)) (by omega)]
  congr 1
  refine List.filter_congr fun i hi => ?_
  have hi' : i < c.fords.length := by simpa using hi
  have e2 : (mirC c).fords.getD i 0 = c.cells - 1 - c.fords.getD (c.fords.length - 1 - i) 0 := mirL_get hi' 0
  rw [mirL_get (by omega), e2, h1, Bool.eq_iff_iff, decide_eq_true_eq, decide_eq_true_eq]
  omega
theorem foMin_same {d : Int} {l m : List Int} (h : ∀ x, x ∈ l ↔ x ∈ m) : foMin d l = foMin d m := by
  obtain ⟨a1, a2, a3⟩ := foMin_spec d l
  obtain ⟨b1, b2, b3⟩ := foMin_spec d m
  have g1 : foMin d l ≤ foMin d m := by
    rcases b3 with b3 | b3
    · omega
    · exact a2 _ ((h _).2 b3)
  have g2 : foMin d m ≤ foMin d l := by
    rcases a3 with a3 | a3
    · omega
    · exact b2 _ ((h _).1 a3)
  omega
theorem foMax_same {d : Int} {l m : List Int} (h : ∀ x, x ∈ l ↔ x ∈ m) : foMax d l = foMax d m := by
  obtain ⟨a1, a2, a3⟩ := foMax_spec d l
  obtain ⟨b1, b2, b3⟩ := foMax_spec d m
  have g1 : foMax d m ≤ foMax d l := by
    rcases b3 with b3 | b3
    · omega
    · exact a2 _ ((h _).2 b3)
  have g2 : foMax d l ≤ foMax d m := by
    rcases a3 with a3 | a3
    · omega
    · exact b2 _ ((h _).1 a3)
  omega
theorem anew_mir {c : Channel} (r : Right c) : anewC (mirC c) = anewC c := by
  have hc := r.cells
  have hm : ∀ x, x ∈ anewQ (mirC c) ↔ x ∈ anewQ c := by
    intro x
    unfold anewQ
    rw [List.mem_map, List.mem_map]
    constructor
    · rintro ⟨l, hl, rfl⟩
      obtain ⟨hl, ho⟩ := List.mem_filter.1 hl
      obtain ⟨h1, h2⟩ := mem_on_mir r hl ho
      have := an_mir r h1
      rw [mirL_mirL] at this
      exact ⟨_, List.mem_filter.2 ⟨h1, h2⟩, by rw [this]⟩
    · rintro ⟨l, hl, rfl⟩
      obtain ⟨hl, ho⟩ := List.mem_filter.1 hl
      refine ⟨mirL (c.cells - 1) l, List.mem_filter.2 ⟨by rw [LL_mir]; exact mir_LL (by omega) hl, ?_⟩, by rw [an_mir r hl]⟩
      show onB (mirC c) c.tides.toNat _ = true
      rw [on_mir r hl]; exact ho
  unfold anewC
  rw [foMin_same hm, foMax_same hm]
theorem where_mir {c : Channel} (r : Right c) {k i : Nat} (hi : i < c.fords.length) : whereL (mirC c) k (c.fords.length - 1 - i) = mirL (c.cells - 1) (whereL c k i) := by
  have hc := r.cells
  refine asc_ext filtL_asc (mirL_pw filtL_asc) (fun x => ?_)
  rw [mem_mirL]
  unfold whereL
  rw [mem_filtL, mem_filtL, List.any_eq_true, List.any_eq_true]
  have eC : (mirC c).cells.toNat = c.cells.toNat := rfl
  rw [eC]
  constructor
  · rintro ⟨h1, h2, l, hl, h3⟩
    rw [Bool.and_eq_true, decide_eq_true_eq] at h3
    obtain ⟨g1, g2⟩ := mem_on_mir r hl h3.1
    have hlen := (rowB_iff.1 ((mem_LL (by omega)).1 g1)).1
    rw [mirL_len] at hlen
    refine ⟨by omega, by omega, mirL (c.cells - 1) l, g1, ?_⟩
    rw [g2, Bool.true_and, decide_eq_true_eq, mirL_get (by omega), hlen, h3.2]
    omega
  · rintro ⟨h1, h2, l, hl, h3⟩
    rw [Bool.and_eq_true, decide_eq_true_eq] at h3
    have hlen := (rowB_iff.1 ((mem_LL (by omega)).1 hl)).1
    refine ⟨by omega, by omega, mirL (c.cells - 1) l, by rw [LL_mir]; exact mir_LL (by omega) hl, ?_⟩
    rw [on_mir r hl, h3.1, Bool.true_and, decide_eq_true_eq, mirL_get (by omega), hlen, show c.fords.length - 1 - (c.fords.length - 1 - i) = i by omega, h3.2]
    omega
end Go.Proofs.Wb

namespace Go.Proofs.Wb
open Go Go.Fw Go.Gx Go.Sb
set_option linter.unusedVariables false
set_option maxRecDepth 100000
theorem inpl_get {α : Type} {f : α → α} {l : List α} {j : Nat} (hj : j < l.length) (d : α) : ((l.take j).map f ++ l.drop j).getD j d = l[j] := by
  rw [List.getD_eq_getElem?_getD, List.getElem?_append_right (by simp; omega), List.length_map, List.length_take, show j - min j l.length = 0 by omega, List.getElem?_drop]
  simp [hj]
theorem inpl_set {α : Type} {f : α → α} {l : List α} {j : Nat} (hj : j < l.length) : ((l.take j).map f ++ l.drop j).set j (f l[j]) = (l.take (j + 1)).map f ++ l.drop (j + 1) := by
  rw [List.set_append_right _ _ (by simp; omega), List.length_map, List.length_take, show j - min j l.length = 0 by omega, List.drop_eq_getElem_cons hj, List.set_cons_zero, ← List.take_append_getElem hj, List.map_append, List.append_assoc]
  rfl
theorem inpl_len {α : Type} {f : α → α} {l : List α} {j : Nat} : ((l.take j).map f ++ l.drop j).length = l.length := by
  simp
  omega
theorem mir_turn {l : List Int} (hl : l.length ≤ 9223372036854775807) {t : qX} {tn T cells p q : Int} (hp : HOK l p) (hn : t.r0.length ≤ 8) (h : ∀ s ∈ t.r0, (0 ≤ s.after ∧ s.after ≤ T) ∧ 0 ≤ s.cell ∧ s.cell < cells) : ∃ o, iterM FU (kp t tn l) ⟨0, p, q, t.r0⟩ = some o ∧ o.r0.length = t.r0.length ∧ ∀ s ∈ o.r0, (0 ≤ s.after ∧ s.after ≤ T) ∧ 0 ≤ s.cell ∧ s.cell < cells := by
  refine iterM_inv (f := kp t tn l) (fun s => (0 ≤ s.t54 ∧ s.t54 ≤ (t.r0.length : Int)) ∧ HOK l s.t5_1 ∧ s.r0.length = t.r0.length ∧ ∀ w ∈ s.r0, (0 ≤ w.after ∧ w.after ≤ T) ∧ 0 ≤ w.cell ∧ w.cell < cells) (fun s => ((t.r0.length : Int) - s.t54).toNat) _ (fun s hs => ?_) FU _ (FU_lt (by simp only; omega)) ⟨by simp only; omega, hp, rfl, h⟩
  obtain ⟨h0, hk, h1, h2⟩ := hs
  unfold kp
  by_cases hlt : s.t54 < (t.r0.length : Int)
  · left
    have fin : ∀ (z : q3), HOK l z.t5_1 → ∃ s', ((if z.t65 = true then ((ix s.r0 s.t54).bind fun t72 => (ix s.r0 s.t54).bind fun t76 => (some (s.r0.set (Int.toNat s.t54) (⟨t76.after, t76.cell, (!t72.upright)⟩ : Sight))).bind fun r0 => some (⟨z.t5_1, z.t5_2, r0⟩ : k7)) else (some (⟨z.t5_1, z.t5_2, s.r0⟩ : k7))).bind fun o_1 => (addc s.t54 1).bind fun t78 => some (Sum.inl (⟨t78, o_1.t5_1, o_1.t5_2, o_1.r0⟩ : jR) : jR ⊕ jE)) = some (.inl s') ∧ ((0 ≤ s'.t54 ∧ s'.t54 ≤ (t.r0.length : Int)) ∧ HOK l s'.t5_1 ∧ s'.r0.length = t.r0.length ∧ ∀ w ∈ s'.r0, (0 ≤ w.after ∧ w.after ≤ T) ∧ 0 ≤ w.cell ∧ w.cell < cells) ∧ ((t.r0.length : Int) - s'.t54).toNat < ((t.r0.length : Int) - s.t54).toNat := by
      intro z hz
      rw [addc_eq (by omega)]
      by_cases hb : z.t65 = true
      · have hix : ix s.r0 s.t54 = some (s.r0.getD s.t54.toNat default) := ix_eq default h0.1 (by omega)
        have hm : s.r0.getD s.t54.toNat default ∈ s.r0 := by
          rw [List.getD_eq_getElem?_getD, List.getElem?_eq_getElem (by omega)]
          exact List.getElem_mem _
        rw [if_pos hb, hix]
        simp only [Option.bind_some]
        refine ⟨_, rfl, ⟨by simp only; omega, hz, by simp only [List.length_set]; exact h1, fun w hw => ?_⟩, by simp only; omega⟩
        rcases List.mem_or_eq_of_mem_set hw with hw | hw
        · exact h2 w hw
        · rw [hw]
          have := h2 _ hm
          exact this
      · rw [if_neg hb]
        simp only [Option.bind_some]
        exact ⟨_, rfl, ⟨by simp only; omega, hz, h1, h2⟩, by simp only; omega⟩
    rw [if_pos hlt, if_pos h0.1]
    split
    · obtain ⟨x, hx, hk2⟩ := once_ok (r := s.t5_2) (n := 2) hl hk (by omega)
      rw [hx, Option.bind_some, Option.bind_some]
      exact fin _ hk2
    · rw [Option.bind_some]
      exact fin _ hk
  · right
    rw [if_neg hlt]
    exact ⟨_, rfl, h1, h2⟩
theorem mir_L1 {t : jU} {m : Int} (hm : 0 ≤ m ∧ m ≤ 10) (hn : t.r0.fords.length ≤ 3) (hx : ∀ x ∈ t.r0.fords, 0 ≤ x ∧ x ≤ 10) : iterM FU (jQ t m) ⟨0, t.r0.fords⟩ = some (mirL m t.r0.fords) := by
  have e0 : t.r0.fords = (List.range t.r0.fords.length).map fun p => if t.r0.fords.length - 1 - p < 0 then m - t.r0.fords.getD (t.r0.fords.length - 1 - p) 0 else t.r0.fords.getD p 0 := by
    apply List.ext_getElem (by simp)
    intro i h1 h2
    simp [List.getD_eq_getElem?_getD, h1]
  have key := iterM_run (f := jQ t m) (fun j => ⟨(j : Int), (List.range t.r0.fords.length).map fun p => if t.r0.fords.length - 1 - p < j then m - t.r0.fords.getD (t.r0.fords.length - 1 - p) 0 else t.r0.fords.getD p 0⟩) t.r0.fords.length (b := mirL m t.r0.fords) (fun j hj => ?_) ?_ FU (FU_lt (by omega))
  · rw [show (⟨0, t.r0.fords⟩ : ku) = ⟨((0 : Nat) : Int), (List.range t.r0.fords.length).map fun p => if t.r0.fords.length - 1 - p < 0 then m - t.r0.fords.getD (t.r0.fords.length - 1 - p) 0 else t.r0.fords.getD p 0⟩ from by rw [← e0]; rfl]
    exact key
  · have hv := hx _ (getD_mem (d := 0) hj)
    unfold jQ
    simp only
    rw [if_pos (by omega), ix_nat 0 hj, Option.bind_some, subc_eq (by omega), Option.bind_some, subc_eq (by omega), Option.bind_some, subc_eq (by omega), Option.bind_some, show (t.r0.fords.length : Int) - 1 - (j : Int) = ((t.r0.fords.length - 1 - j : Nat) : Int) by omega, range_ix (by omega), Option.bind_some, Option.bind_some, addc_eq (by omega), Option.bind_some, Int.toNat_natCast, range_set]
    congr 3
    apply List.map_congr_left
    intro p hp
    have hp' : p < t.r0.fords.length := by simpa using hp
    by_cases h1 : p = t.r0.fords.length - 1 - j
    · subst h1
      rw [if_pos rfl, if_pos (by omega), show t.r0.fords.length - 1 - (t.r0.fords.length - 1 - j) = j by omega]
    · rw [if_neg h1]
      by_cases h2 : t.r0.fords.length - 1 - p < j
      · rw [if_pos h2, if_pos (by omega)]
      · rw [if_neg h2, if_neg (by omega)]
  · unfold jQ
    simp only
    rw [if_neg (by omega)]
    congr 2
    apply List.ext_getElem (by rw [mirL_len]; simp)
    intro i h1 h2
    have hi : i < t.r0.fords.length := by simpa using h1
    have e := mirL_get (m := m) (l := t.r0.fords) hi 0
    rw [List.getD_eq_getElem?_getD, List.getElem?_eq_getElem h2] at e
    simp only [Option.getD_some] at e
    rw [e, List.getElem_map, List.getElem_range, if_pos (by omega)]
theorem mir_L2 {t : jU} {m : Int} (hm : 0 ≤ m ∧ m ≤ 10) (hn : t.r0.sands.length ≤ 4) (hx : ∀ x ∈ t.r0.sands, (0 ≤ x.span.lo ∧ x.span.lo ≤ 10) ∧ 0 ≤ x.span.hi ∧ x.span.hi ≤ 10) : iterM FU (jP t m) ⟨0, t.r0.sands⟩ = some (t.r0.sands.map (mirSa m)) := by
  have key := iterM_run (f := jP t m) (fun j => ⟨(j : Int), (t.r0.sands.take j).map (mirSa m) ++ t.r0.sands.drop j⟩) t.r0.sands.length (b := t.r0.sands.map (mirSa m)) (fun j hj => ?_) ?_ FU (FU_lt (by omega))
  · exact key
  · have hv := hx _ (List.getElem_mem hj)
    have hg : t.r0.sands.getD j default = t.r0.sands[j] := by simp [List.getD_eq_getElem?_getD, hj]
    have hlen := inpl_len (f := mirSa m) (l := t.r0.sands) (j := j)
    unfold jP
    simp only
    rw [if_pos (by omega), ix_nat default hj, Option.bind_some, hg, subc_eq (by omega), Option.bind_some, subc_eq (by omega), Option.bind_some, ix_nat default (by omega), Option.bind_some, inpl_get hj, Option.bind_some, addc_eq (by omega), Option.bind_some, Int.toNat_natCast]
    have e := inpl_set (f := mirSa m) hj
    unfold mirSa at e ⊢
    rw [e]
    rfl
  · unfold jP
    simp only
    rw [if_neg (by omega), List.take_length, List.drop_length, List.append_nil]
theorem mir_L3 {o : jE} {m : Int} (hm : 0 ≤ m ∧ m ≤ 10) (hn : o.r0.length ≤ 8) (hx : ∀ x ∈ o.r0, 0 ≤ x.cell ∧ x.cell ≤ 10) : iterM FU (jO o m) ⟨0, o.r0⟩ = some (o.r0.map (mirSi m)) := by
  have key := iterM_run (f := jO o m) (fun j => ⟨(j : Int), (o.r0.take j).map (mirSi m) ++ o.r0.drop j⟩) o.r0.length (b := o.r0.map (mirSi m)) (fun j hj => ?_) ?_ FU (FU_lt (by omega))
  · exact key
  · have hv := hx _ (List.getElem_mem hj)
    have hg : o.r0.getD j default = o.r0[j] := by simp [List.getD_eq_getElem?_getD, hj]
    have hlen := inpl_len (f := mirSi m) (l := o.r0) (j := j)
    unfold jO
    simp only
    rw [if_pos (by omega), ix_nat default hj, Option.bind_some, hg, subc_eq (by omega), Option.bind_some, ix_nat default (by omega), Option.bind_some, inpl_get hj, Option.bind_some, addc_eq (by omega), Option.bind_some, Int.toNat_natCast]
    have e := inpl_set (f := mirSi m) hj
    unfold mirSi at e ⊢
    rw [e]
    rfl
  · unfold jO
    simp only
    rw [if_neg (by omega), List.take_length, List.drop_length, List.append_nil]
theorem mir_L6 {W : List Int} {e e' m : Int} (hm : 0 ≤ m ∧ m ≤ 10) (hn : W.length ≤ 1000) (hx : ∀ x ∈ W, 0 ≤ x ∧ x ≤ 10) : iterM FU (jF ⟨e, W⟩ ⟨e', mirL m W⟩ m) 0 = some (.inl ()) := by
  have hlen := mirL_len m W
  have key := iterM_any0 (f := jF ⟨e, W⟩ ⟨e', mirL m W⟩ m) W.length (fun _ => false) false (fun k hk => ?_) ?_ (N := FU) (FU_lt (by omega))
  · rw [show (List.range W.length).any (fun _ => false) = false from by simp, if_neg Bool.false_ne_true] at key
    exact key
  · have hv := hx _ (getD_mem (d := 0) hk)
    unfold jF
    simp only
    rw [if_pos (by omega), ix_nat 0 hk, Option.bind_some, hlen, subc_eq (by omega), Option.bind_some, subc_eq (by omega), Option.bind_some, show (W.length : Int) - 1 - (k : Int) = ((W.length - 1 - k : Nat) : Int) by omega, ix_nat 0 (by omega), Option.bind_some, subc_eq (by omega), Option.bind_some, mirL_get (by omega), show W.length - 1 - (W.length - 1 - k) = k by omega, if_pos rfl, addc_eq (by omega)]
    rfl
  · unfold jF
    simp only
    rw [if_neg (by omega)]
theorem BranchMirrored_true {l : List Int} (hl : l.length ≤ 9223372036854775807) (tn : Int) : qy l tn = some true := by
  unfold qy
  rw [pile_eq, Option.bind_some, awake_true]
  obtain ⟨x, y, h1, h2, hM, hW, hk, hn, hS⟩ := made_seen hl (cells := 9) (fords := 2) (tides := 3) (most := 6) (by omega) (by omega) (by omega) (by omega)
  simp only
  rw [h1, Option.bind_some, h2, Option.bind_some]
  have r0 := hM.right
  have ht0 := r0.tides
  have hc0 := r0.cells
  have hf0 := r0.fords
  obtain ⟨o, ho, ho1, ho2⟩ := mir_turn hl (t := y) (tn := tn) (T := x.r0.tides) (cells := x.r0.cells) (q := y.b0_2) hk (by omega) (fun s hs => ⟨(hS s hs).after, (hS s hs).cell⟩)
  rw [ho, Option.bind_some]
  have hcS : (⟨x.r0.cells, x.r0.tides, x.r0.fords, x.r0.sands, o.r0⟩ : Channel) = cS x.r0 o.r0 := rfl
  have r : Right (cS x.r0 o.r0) := right_sights r0 (by omega) ho2
  have hlen : (cS x.r0 o.r0).sights.length = o.r0.length := rfl
  have hF : Few (cS x.r0 o.r0) := few_right r (by omega)
  have hk0 : chk (cS x.r0 o.r0) = 0 := chk_right r (by omega)
  have r' := mir_right r
  have hlen' : (mirC (cS x.r0 o.r0)).sights.length = o.r0.length := by
    show (o.r0.map _).length = _
    rw [List.length_map]
  have hF' : Few (mirC (cS x.r0 o.r0)) := few_right r' (by omega)
  have hk0' : chk (mirC (cS x.r0 o.r0)) = 0 := chk_right r' (by omega)
  have hO : yz (cS x.r0 o.r0) = some ⟨x.r0.cells, x.r0.tides, x.r0.fords, x.r0.sands, o.r0⟩ := Own_eq hF
  rw [hcS, hO, Option.bind_some, subc_eq (by omega), Option.bind_some]
  simp only
  rw [mir_L1 (by omega) (by omega) (fun z hz => by have := r0.fcell z hz; omega), Option.bind_some, mir_L2 (by omega) r0.sands (fun z hz => by have := r0.span z hz; omega), Option.bind_some, mir_L3 (by omega) (by omega) (fun z hz => by have := ho2 z hz; omega), Option.bind_some]
  have hcM : (⟨x.r0.cells, x.r0.tides, mirL (x.r0.cells - 1) x.r0.fords, x.r0.sands.map (mirSa (x.r0.cells - 1)), o.r0.map (mirSi (x.r0.cells - 1))⟩ : Channel) = mirC (cS x.r0 o.r0) := rfl
  rw [hcM]
  obtain ⟨LA, eA, hLA⟩ := Zx hF
  obtain ⟨LB, eB, hLB⟩ := Zx hF'
  rw [YR hF, YR hF', eA, eB, Zt hF, Zt hF', if_pos hk0, if_pos hk0', if_pos hk0, if_pos hk0', if_pos hk0, if_pos hk0', cnt_mir r, anew_mir r]
  simp only [Option.bind_some]
  have hwl : ∀ (c : Channel) (hc : c.cells ≤ 10) (k i : Nat), (whereL c k i).length ≤ 1000 := fun c hc k i => by
    have := filtL_len (p := fun x => (LL c).any fun l => onB c k l && decide (l.getD i (-1) = (x : Int))) (k := c.cells.toNat)
    unfold whereL
    omega
  have eF : (cS x.r0 o.r0).fords = x.r0.fords := rfl
  have eC : (cS x.r0 o.r0).cells = x.r0.cells := rfl
  have eT : (cS x.r0 o.r0).tides = x.r0.tides := rfl
  have eT' : (mirC (cS x.r0 o.r0)).tides = x.r0.tides := rfl
  have eF' : (mirC (cS x.r0 o.r0)).fords.length = x.r0.fords.length := mirL_len _ _
  have L4 := iterM_any0 (f := ks (x.r0.tides + 1) x o ⟨x.r0.cells, x.r0.tides, x.r0.fords, x.r0.sands, o.r0⟩ (mirL (x.r0.cells - 1) x.r0.fords) (x.r0.sands.map (mirSa (x.r0.cells - 1))) (o.r0.map (mirSi (x.r0.cells - 1))) (x.r0.cells - 1)) (x.r0.tides.toNat + 1) (fun _ => false) false (fun k hk => ?_) ?_ (N := FU) (FU_lt (by omega))
  · rw [show (List.range (x.r0.tides.toNat + 1)).any (fun _ => false) = false from by simp, if_neg Bool.false_ne_true] at L4
    have f4 : addc x.r0.tides 1 = some (x.r0.tides + 1) := addc_eq (by omega)
    by_cases hp : cntS tt (cS x.r0 o.r0) = 0
    · simp [hp, f4, L4]
    · have b1 := best_few r (hLA hk0 hp) hp
      have b2 := best_few r' (hLB hk0' (by rw [cnt_mir r]; exact hp)) (by rw [cnt_mir r]; exact hp)
      rw [best_mir r hp, b1] at b2
      have hpp : 0 < cntS tt (cS x.r0 o.r0) := by omega
      simp [hp, hpp, f4, L4, b2]
  · have L5 := iterM_any0 (f := kt x o (k : Int) ⟨x.r0.cells, x.r0.tides, x.r0.fords, x.r0.sands, o.r0⟩ (mirL (x.r0.cells - 1) x.r0.fords) (x.r0.sands.map (mirSa (x.r0.cells - 1))) (o.r0.map (mirSi (x.r0.cells - 1))) (x.r0.cells - 1)) x.r0.fords.length (fun _ => false) false (fun i hi => ?_) ?_ (N := FU) (FU_lt (by omega))
    · rw [show (List.range x.r0.fords.length).any (fun _ => false) = false from by simp, if_neg Bool.false_ne_true] at L5
      unfold ks
      rw [if_pos (by omega), L5, Option.bind_some, oc_inl, addc_eq (by omega)]
      rfl
    · unfold kt
      simp only
      have g1 : subc (x.r0.fords.length : Int) 1 = some ((x.r0.fords.length : Int) - 1) := subc_eq (by omega)
      have g2 : subc ((x.r0.fords.length : Int) - 1) (i : Int) = some ((x.r0.fords.length : Int) - 1 - (i : Int)) := subc_eq (by omega)
      rw [if_pos (by omega), hcS, g1, hcM]
      simp only [Option.bind_some]
      rw [g2]
      by_cases hp : cntS tt (cS x.r0 o.r0) = 0
      · have hC1 := Ym hF (k : Int) (i : Int)
        rw [if_pos hk0, if_pos (inb_iff.2 (by omega)), if_pos (inb_iff.2 (by rw [eF]; omega)), if_pos hp] at hC1
        have hC2 := Ym hF' (k : Int) ((x.r0.fords.length : Int) - 1 - (i : Int))
        rw [if_pos hk0', if_pos (inb_iff.2 (by omega)), if_pos (inb_iff.2 (by omega)), if_pos (by rw [cnt_mir r]; exact hp)] at hC2
        simp only [Option.bind_some]
        rw [hC1, hC2]
        have L6 := mir_L6 (W := []) (e := 7) (e' := 7) (m := x.r0.cells - 1) (by omega) (by simp) (by simp)
        have L6' : iterM FU (jF ⟨7, []⟩ ⟨7, []⟩ (x.r0.cells - 1)) 0 = some (.inl ()) := L6
        simp [L6', addc_eq (show -9223372036854775808 ≤ (i : Int) + 1 ∧ (i : Int) + 1 ≤ 9223372036854775807 by omega)]
      · have hC1 := cells_at hF hk0 (by omega) (k := k) (i := i) (by omega) (by rw [eF]; exact hi)
        have hC2 := cells_at hF' hk0' (by rw [cnt_mir r]; omega) (k := k) (i := x.r0.fords.length - 1 - i) (by omega) (by omega)
        have hwm := where_mir r (k := k) (i := i) (by rw [eF]; exact hi)
        rw [eF, eC] at hwm
        rw [hwm] at hC2
        rw [show ((x.r0.fords.length - 1 - i : Nat) : Int) = (x.r0.fords.length : Int) - 1 - (i : Int) by omega] at hC2
        simp only [Option.bind_some]
        rw [hC1, hC2]
        have L6 := mir_L6 (W := whereL (cS x.r0 o.r0) k i) (e := 0) (e' := 0) (m := x.r0.cells - 1) (by omega) (hwl _ (by omega) _ _) (fun z hz => by have := mem_filtL.1 hz; omega)
        have hml := mirL_len (x.r0.cells - 1) (whereL (cS x.r0 o.r0) k i)
        simp [L6, hml, addc_eq (show -9223372036854775808 ≤ (i : Int) + 1 ∧ (i : Int) + 1 ≤ 9223372036854775807 by omega)]
    · unfold kt
      simp only
      rw [if_neg (by omega)]
  · unfold ks
    rw [if_neg (by omega)]
end Go.Proofs.Wb

namespace Go.Gx
open Go Go.Fw Go.RowKit
section
variable {H : Type} {enc : TypeId × Value → H} {P : Program} {w : World} {base : Nat} {sp : Nat → Bool} {held : Bool}
def Opens (enc : TypeId × Value → H) (P : Program) (w : World) (base : Nat) (sp : Nat → Bool) (held : Bool) {α : Type} (R : Row α) (wf : α → Prop) (t : TypeId) : Prop :=
  ∀ fuel cs x, DataW.trod enc P w base sp held fuel t cs = some x → ∃ a, cs = R.cells a ∧ wf a
def u8P (n : Int) : Prop := 0 ≤ n ∧ n ≤ 255
theorem wf_u8P {n : Int} (h : (Lit.int .u8 n).wf = true) : u8P n := by
  simp [Lit.wf, IntKind.min, IntKind.max, IntKind.signed, IntKind.bits] at h
  unfold u8P; omega
theorem opens_u8 {t : TypeId} (ht : P.underlying t = some (.int .u8)) : Opens enc P w base sp held RU8 u8P t := fun fuel cs x h => by
  obtain ⟨n, rfl, _, hw⟩ := DataW.trod_int ht h
  exact ⟨n, rfl, wf_u8P hw⟩
theorem fieldAt {fs : Array Field} {t : TypeId} {fuel : Nat} {cs : List Value} {x : DataW H × List MemPlace} (ht : P.underlying t = some (.struct fs)) (h : DataW.trod enc P w base sp held fuel t cs = some x) {α : Type} {R : Row α} {wf : α → Prop} (i : Nat) {T o k : Nat}
    (hf : (fs[i]?).map (fun fd => (fd.type, fd.offset)) = some (T, o)) (hk : P.cellsOf T = k) (hR : Opens enc P w base sp held R wf T) : ∃ a, (cs.drop o).take k = R.cells a ∧ wf a := by
  obtain ⟨xs, n, rfl, _, hlen, hxl, hx⟩ := DataW.trod_struct ht h
  obtain ⟨fd, hfd, he⟩ : ∃ fd, fs[i]? = some fd ∧ (fd.type, fd.offset) = (T, o) := by
    cases hh : fs[i]? with
    | none => simp [hh] at hf
    | some fd => exact ⟨fd, rfl, by simpa [hh] using hf⟩
  simp only [Prod.mk.injEq] at he
  obtain ⟨rfl, rfl⟩ := he
  have h1 := hx i fd hfd
  rw [hk] at h1
  have hi : i < xs.length := by rw [hxl]; exact (Array.getElem?_eq_some_iff.1 hfd).1
  rw [List.getElem?_eq_getElem hi] at h1
  exact hR _ _ _ h1
structure SlIn {α : Type} (R : Row α) (wf : α → Prop) (w : World) (v : Value) (A : Option Addr) (n c : Nat) (l : List α) : Prop where
  val : v = .slice A n c
  len : l.length = n
  ok : AOK n A
  le : n ≤ c
  max : c ≤ maxLen
  seg : segOK w (aB A, aO A, R.enc l)
  wf : ∀ x, x ∈ l → wf x
theorem choose_list {α : Type} {p : Nat → α → Prop} : ∀ (n : Nat), (∀ i, i < n → ∃ a, p i a) → ∃ l : List α, l.length = n ∧ ∀ i (h : i < l.length), p i l[i]
  | 0, _ => ⟨[], rfl, fun i h => by simp at h⟩
  | n + 1, h => by
    obtain ⟨l, hl, hp⟩ := choose_list n (fun i hi => h i (by omega))
    obtain ⟨a, ha⟩ := h n (by omega)
    refine ⟨l ++ [a], by simp [hl], fun i hi => ?_⟩
    by_cases hil : i < l.length
    · rw [List.getElem_append_left hil]; exact hp i hil
    · have : i = l.length := by simp at hi; omega
      subst this
      rw [List.getElem_append_right (by omega)]
      simp only [Nat.sub_self, List.getElem_cons_zero]
      rw [hl]; exact ha
theorem openSl {α : Type} {R : Row α} {wf : α → Prop} {t e : TypeId} (ht : P.underlying t = some (.slice e)) (hc : P.cellsOf e = R.sz) (hR : Opens enc P w base sp held R wf e) (h0 : Nat.blt 0 R.sz = true)
    {fuel : Nat} {cs : List Value} {x : DataW H × List MemPlace} (h : DataW.trod enc P w base sp held fuel t cs = some x) : ∃ (v : Value) (A : Option Addr) (n c : Nat) (l : List α), cs = [v] ∧ SlIn R wf w v A n c l := by
  have hsz : 0 < R.sz := by simpa using h0
  rcases Go.Deep.open_slice ht h with ⟨rfl, _⟩ | ⟨a, len, cap, m, n, D, Pl, rfl, hb, hl, hm, hmm, _, hi⟩
  · exact ⟨_, none, 0, 0, [], rfl, rfl, rfl, AOK.nil, Nat.le_refl _, Nat.zero_le _, segOK.nil, by simp⟩
  · have hlm : len ≤ m := by rw [hmm]; split <;> omega
    have hcell : ∀ i, i < len → ∃ x : α, (∀ f (hf : f < (R.cells x).length), w.cell? (a.add (i * R.sz + f)) = some (R.cells x)[f]) ∧ wf x := fun i hil => by
      obtain ⟨cs', h1, h2⟩ := hi i (by omega)
      obtain ⟨x, rfl, hw⟩ := hR _ _ _ h2
      obtain ⟨_, _, hat⟩ := World.cells?_some h1
      refine ⟨x, fun f hf => ?_, hw⟩
      have := hat f (by rw [hc, ← R.len x]; exact hf)
      rw [hc] at this
      rw [List.getElem?_eq_getElem hf] at this
      have e : (a.add (i * R.sz)).add f = a.add (i * R.sz + f) := by
        unfold Addr.add
        by_cases h1 : i * R.sz = 0
        · simp [h1]
        · by_cases h2 : f = 0
          · simp [h2]
          · simp [h1, h2, Nat.add_assoc]
      rw [e] at this
      exact this
    obtain ⟨l, hll, hlp⟩ := choose_list len hcell
    have hspot : 0 < len → a.spot = none := fun h0 => by
      obtain ⟨x, hx, _⟩ := hcell 0 h0
      have := World.cell?_spot (hx 0 (by rw [R.len]; exact hsz))
      simpa [Addr.add] using this
    refine ⟨_, some a, len, cap, l, rfl, rfl, hll, fun h0 => ?_, hl, hm, fun j hj => ?_, fun x hx => ?_⟩
    · obtain ⟨b, o, s⟩ := a
      have := hspot h0
      simp only at this
      subst this
      exact ⟨b, o, rfl⟩
    · have hj' : j < l.length * R.sz := by rw [← R.enc_len]; exact hj
      have hpos : 0 < len := by
        rcases Nat.eq_zero_or_pos len with h | h
        · rw [hll, h, Nat.zero_mul] at hj'; omega
        · exact h
      obtain ⟨b, o, s⟩ := a
      have hs := hspot hpos
      simp only at hs
      subst hs
      have hq : j / R.sz < l.length := Nat.div_lt_of_lt_mul (by rw [Nat.mul_comm]; exact hj')
      have hr : j % R.sz < R.sz := Nat.mod_lt _ hsz
      have hd : j / R.sz * R.sz + j % R.sz = j := by rw [Nat.mul_comm]; exact Nat.div_add_mod j R.sz
      have h1 := (hlp (j / R.sz) hq).1 (j % R.sz) (by rw [R.len]; exact hr)
      rw [hd] at h1
      have h2 := R.enc_get l (j / R.sz) (j % R.sz) l[j / R.sz] (List.getElem?_eq_getElem hq) hr
      rw [hd] at h2
      have h3 : (⟨b, o, none⟩ : Addr).add j = ⟨b, o + j, none⟩ := addr_add b o j
      rw [h3] at h1
      simp only [aB, aO, Option.map_some, Option.getD_some]
      rw [h1, ← List.getElem?_eq_getElem, ← h2, List.getElem?_eq_getElem hj]
    · obtain ⟨i, hi', rfl⟩ := List.getElem_of_mem hx
      exact (hlp i hi').2
theorem HV.begin {ro : List Sg} (h : ∀ s, s ∈ ro → segOK w s) : HV w (keys [] []) [] [] ro w :=
  ⟨rfl, rfl, rfl, Nat.le_refl _, fun _ _ _ => rfl, by simp [vbl], by simp [vbl], by simp [vbl], h, by simp [vbl]⟩
theorem segCons {s : Sg} {ro : List Sg} (h : segOK w s) (hr : ∀ t, t ∈ ro → segOK w t) : ∀ t, t ∈ s :: ro → segOK w t := fun t ht => by
  rcases List.mem_cons.1 ht with rfl | ht
  · exact h
  · exact hr t ht
theorem segNil : ∀ t, t ∈ ([] : List Sg) → segOK w t := fun t ht => by cases ht
theorem HV.below {w' : World} (h : HV w (keys [] []) [] [] [] w') : Below w.heap.size w w' := by
  have : Ext [] w w' := HS.toExt h
  exact this.below
end
end Go.Gx

