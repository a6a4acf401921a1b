/- What the functions that the law BranchCourses reaches come to, and why it holds: part 10. -/
import Derived.Test.YtpjnpibgnkgnaaaGreatBranchCourses9
import Derived.Deep.Slices
import Derived.ChangeArms
namespace Go.Proofs.Wb
open Go Go.Fw Go.Gx Go.Sb
set_option linter.unusedVariables false
set_option maxRecDepth 100000
def stMin (ok : Nat → Bool) (val : Nat → Int) (t : Int) (a : Nat) : Int := if ok a = true then (if t < 0 ∨ val a < t then val a else t) else t
def minF (ok : Nat → Bool) (val : Nat → Int) (n : Nat) : Int := (List.range n).foldl (stMin ok val) (-1)
theorem minF_succ (ok : Nat → Bool) (val : Nat → Int) (n : Nat) : minF ok val (n + 1) = stMin ok val (minF ok val n) n := by
  unfold minF
  rw [List.range_succ, List.foldl_append]
  rfl
theorem minF_spec {ok : Nat → Bool} {val : Nat → Int} (hv : ∀ a, ok a = true → 0 ≤ val a) : ∀ n, (minF ok val n = -1 ∧ ∀ a, a < n → ok a = false) ∨ (0 ≤ minF ok val n ∧ (∃ a, a < n ∧ ok a = true ∧ minF ok val n = val a) ∧ ∀ a, a < n → ok a = true → minF ok val n ≤ val a)
  | 0 => .inl ⟨rfl, fun a h => absurd h (by omega)⟩
  | n + 1 => by
    have ih := minF_spec hv n
    rw [minF_succ]
    unfold stMin
    by_cases h : ok n = true
    · have h0 := hv n h
      rw [if_pos h]
      by_cases h2 : minF ok val n < 0 ∨ val n < minF ok val n
      · rw [if_pos h2]
        refine .inr ⟨h0, ⟨n, by omega, h, rfl⟩, fun a ha hok => ?_⟩
        by_cases e : a = n
        · subst e; exact Int.le_refl _
        · rcases ih with ⟨_, i2⟩ | ⟨i1, _, i3⟩
          · rw [i2 a (by omega)] at hok; exact absurd hok (by decide)
          · have := i3 a (by omega) hok
            omega
      · rw [if_neg h2]
        rcases ih with ⟨i1, _⟩ | ⟨i1, ⟨a, a1, a2, a3⟩, i3⟩
        · exact absurd (.inl (by omega)) h2
        · refine .inr ⟨i1, ⟨a, by omega, a2, a3⟩, fun a ha hok => ?_⟩
          by_cases e : a = n
          · subst e
            have : ¬ val a < minF ok val a := fun q => h2 (.inr q)
            omega
          · exact i3 a (by omega) hok
    · rw [if_neg h]
      have hf : ok n = false := by simpa using h
      rcases ih with ⟨i1, i2⟩ | ⟨i1, ⟨a, a1, a2, a3⟩, i3⟩
      · refine .inl ⟨i1, fun a ha => ?_⟩
        by_cases e : a = n
        · rw [e]; exact hf
        · exact i2 a (by omega)
      · refine .inr ⟨i1, ⟨a, by omega, a2, a3⟩, fun a ha hok => ?_⟩
        by_cases e : a = n
        · rw [e, hf] at hok; exact absurd hok (by decide)
        · exact i3 a (by omega) hok
def gC (c : Channel) : Nat → List Int → Int
  | 0, l => if onB c 0 l = true then 0 else -1
  | k + 1, b => if onB c (k + 1) b = true then minF (fun a => decide (0 ≤ gC c k (li c a)) && canB c.sands (li c a) b) (fun a => gC c k (li c a) + movL (li c a) b) (LL c).length else -1
theorem li_of {c : Channel} {l : List Int} (h : l ∈ LL c) : ∃ a, a < (LL c).length ∧ li c a = l := by
  obtain ⟨a, ha, e⟩ := List.getElem_of_mem h
  exact ⟨a, ha, by unfold li; rw [← e]; simp [List.getD_eq_getElem?_getD, ha]⟩
theorem li_mem {c : Channel} {a : Nat} (h : a < (LL c).length) : li c a ∈ LL c := by
  unfold li
  rw [List.getD_eq_getElem?_getD, List.getElem?_eq_getElem h]
  exact List.getElem_mem h
theorem movL_nonneg (a b : List Int) : 0 ≤ movL a b := by
  unfold movL
  have : ∀ n, 0 ≤ sumI (fun i => mvI (a.getD i (-1)) (b.getD i (-1))) n := by
    intro n
    induction n with
    | zero => exact Int.le_refl _
    | succ n ih => rw [sumI]; unfold mvI at *; omega
  exact this _
theorem gC_vals {c : Channel} {k : Nat} {b : List Int} : ∀ a, (decide (0 ≤ gC c k (li c a)) && canB c.sands (li c a) b) = true → 0 ≤ gC c k (li c a) + movL (li c a) b := by
  intro a h
  rw [Bool.and_eq_true, decide_eq_true_eq] at h
  have := movL_nonneg (li c a) b
  omega
theorem gC_off {c : Channel} {k : Nat} {l : List Int} (h : ¬ onB c k l = true) : gC c k l = -1 := by
  cases k with
  | zero => rw [gC, if_neg h]
  | succ k => rw [gC, if_neg h]
theorem onB_from {c : Channel} (r : Right c) {k : Nat} (hk : (k : Int) < c.tides) {b : List Int} (hb : b ∈ LL c) (h : onB c (k + 1) b = true) : ∃ a ∈ LL c, onB c k a = true ∧ canB c.sands a b = true := by
  have hc := r.cells
  have h' := h
  unfold onB at h'
  rw [Bool.and_eq_true, decide_eq_true_eq] at h'
  obtain ⟨_, a, ha, h1, h2⟩ := FcL_succ_pos.1 h'.1
  refine ⟨a, ha, ?_, h1⟩
  rw [onB_step r hk ((mem_LL (by omega)).1 ha) h2, List.any_eq_true]
  obtain ⟨i, hi, e⟩ := li_of hb
  exact ⟨i, by simpa using hi, by rw [e, h, h1]; rfl⟩
theorem gC_on {c : Channel} (r : Right c) : ∀ k : Nat, (k : Int) ≤ c.tides → ∀ l ∈ LL c, onB c k l = true → 0 ≤ gC c k l
  | 0, _, l, _, h => by rw [gC, if_pos h]; exact Int.le_refl _
  | k + 1, hk, l, hl, h => by
    rw [gC, if_pos h]
    obtain ⟨a, ha, h1, h2⟩ := onB_from r (by omega) hl h
    have h3 := gC_on r k (by omega) a ha h1
    obtain ⟨i, hi, e⟩ := li_of ha
    rcases minF_spec (gC_vals (c := c) (k := k) (b := l)) (LL c).length with ⟨_, q⟩ | ⟨q, _⟩
    · have := q i hi
      rw [e, decide_eq_true h3, h2] at this
      exact absurd this (by decide)
    · exact q
theorem gC_step {c : Channel} (r : Right c) {k : Nat} (hk : (k : Int) < c.tides) {b : List Int} (hb : b ∈ LL c) (h : onB c (k + 1) b = true) : (∃ a ∈ LL c, onB c k a = true ∧ canB c.sands a b = true ∧ gC c (k + 1) b = gC c k a + movL a b) ∧ ∀ a ∈ LL c, onB c k a = true → canB c.sands a b = true → gC c (k + 1) b ≤ gC c k a + movL a b := by
  have h0 := gC_on r (k + 1) (by omega) b hb h
  rw [gC, if_pos h] at h0 ⊢
  rcases minF_spec (gC_vals (c := c) (k := k) (b := b)) (LL c).length with ⟨q, _⟩ | ⟨_, ⟨i, i1, i2, i3⟩, q⟩
  · omega
  · constructor
    · rw [Bool.and_eq_true, decide_eq_true_eq] at i2
      refine ⟨li c i, li_mem i1, ?_, i2.2, i3⟩
      cases ho : onB c k (li c i) with
      | true => rfl
      | false =>
        have := gC_off (c := c) (k := k) (l := li c i) (by rw [ho]; decide)
        omega
    · intro a ha h1 h2
      obtain ⟨j, hj, e⟩ := li_of ha
      have h3 := gC_on r k (by omega) a ha h1
      have := q j hj (by rw [e, decide_eq_true h3, h2]; rfl)
      rw [e] at this
      exact this
theorem gC_few {c : Channel} (r : Right c) {L : List (List State)} (hL : Levs c L) (h : cntS tt c ≠ 0) : ∀ k : Nat, (k : Int) ≤ c.tides → (∀ a ∈ LL c, onB c k a = true → fewC c L (first c) ≤ gC c k a + fewC c L (stL k a)) ∧ ∃ a ∈ LL c, onB c k a = true ∧ fewC c L (first c) = gC c k a + fewC c L (stL k a)
  | 0, _ => by
    have ht := r.tides
    obtain ⟨l, hl, e, ho, ec, hr⟩ := lev_row r hL (by omega) (first_lev r hL h)
    have only : ∀ a, onB c 0 a = true → a = c.fords := by
      intro a ha
      unfold onB at ha
      rw [Bool.and_eq_true, decide_eq_true_eq, FcL] at ha
      by_cases q : agP tt c.sights 0 a = true ∧ a = c.fords
      · exact q.2
      · rw [if_neg q] at ha; omega
    have el := only l ho
    constructor
    · intro a ha h1
      have := only a h1
      subst this
      rw [gC, if_pos h1, Int.zero_add]
      exact Int.le_refl _
    · refine ⟨l, hl, ho, ?_⟩
      rw [gC, if_pos ho, Int.zero_add, e]
  | k + 1, hk => by
    have hf := r.fords
    have hc := r.cells
    have ht := r.tides
    obtain ⟨ih1, a, ha, ho, ih2⟩ := gC_few r hL h k (by omega)
    have lo : ∀ x ∈ LL c, onB c (k + 1) x = true → fewC c L (first c) ≤ gC c (k + 1) x + fewC c L (stL (k + 1) x) := by
      intro x hx hox
      obtain ⟨⟨y, hy, hoy, hcy, e⟩, _⟩ := gC_step r (by omega) hx hox
      have h1 := ih1 y hy hoy
      have hyr := (mem_LL (by omega)).1 hy
      have hxr := (mem_LL (by omega)).1 hx
      have hyL := (lev_iff r hL (k := k) (by omega)).2 ⟨y, hy, rfl, hoy⟩
      have hxL := (lev_iff r hL (k := k + 1) (by omega)).2 ⟨x, hx, rfl, hox⟩
      obtain ⟨z, z1, z2, z3, z4, z5⟩ := (calmI r hL c.tides.toNat (Nat.le_refl _)).good k (by omega) (by omega) _ hyL
      have h2 := z5 _ ((mem_nx_stL r hyr hxr).2 hcy) hxL
      have h3 : fewC c L (stL k y) = movS (stL k y) z + FV (calmC c L c.tides.toNat).2 z := by unfold fewC; unfold FV; rw [z4]; rfl
      rw [movS_stL (by rw [(rowB_iff.1 hyr).1, (rowB_iff.1 hxr).1]) (by rw [(rowB_iff.1 hyr).1]; omega)] at h2
      unfold fewC at *
      omega
    refine ⟨lo, ?_⟩
    have har := (mem_LL (by omega)).1 ha
    have haL := (lev_iff r hL (k := k) (by omega)).2 ⟨a, ha, rfl, ho⟩
    obtain ⟨z, z1, z2, z3, z4, z5⟩ := (calmI r hL c.tides.toNat (Nat.le_refl _)).good k (by omega) (by omega) _ haL
    obtain ⟨x, hx, e, hox, _, hxr⟩ := lev_row r hL (by omega) z3
    have h3 : fewC c L (stL k a) = movS (stL k a) z + FV (calmC c L c.tides.toNat).2 z := by unfold fewC; unfold FV; rw [z4]; rfl
    rw [e] at z2 h3
    have hcan := (mem_nx_stL r har hxr).1 z2
    have h4 := (gC_step r (by omega) hx hox).2 a ha ho hcan
    have h5 := lo x hx hox
    rw [movS_stL (by rw [(rowB_iff.1 har).1, (rowB_iff.1 hxr).1]) (by rw [(rowB_iff.1 har).1]; omega)] at h3
    refine ⟨x, hx, hox, ?_⟩
    unfold fewC at *
    omega
def bestC (c : Channel) : Int := minF (fun a => decide (0 ≤ gC c c.tides.toNat (li c a))) (fun a => gC c c.tides.toNat (li c a)) (LL c).length
theorem best_few {c : Channel} (r : Right c) {L : List (List State)} (hL : Levs c L) (h : cntS tt c ≠ 0) : bestC c = fewC c L (first c) := by
  have ht := r.tides
  obtain ⟨h1, a, ha, ho, h2⟩ := gC_few r hL h c.tides.toNat (by omega)
  have hz : ∀ x, fewC c L (stL c.tides.toNat x) = 0 := fun x => few_last r hL (by show ((c.tides.toNat : Nat) : Int) = _; omega)
  have hg := gC_on r c.tides.toNat (by omega) a ha ho
  obtain ⟨i, hi, e⟩ := li_of ha
  rw [hz] at h2
  unfold bestC
  rcases minF_spec (ok := fun a => decide (0 ≤ gC c c.tides.toNat (li c a))) (val := fun a => gC c c.tides.toNat (li c a)) (fun a h => by simpa using h) (LL c).length with ⟨_, q⟩ | ⟨_, ⟨j, j1, j2, j3⟩, q⟩
  · have := q i hi
    rw [e, decide_eq_true hg] at this
    exact absurd this (by decide)
  · have q1 := q i hi (by rw [e, decide_eq_true hg])
    rw [e] at q1
    rw [decide_eq_true_eq] at j2
    have hoj : onB c c.tides.toNat (li c j) = true := by
      cases hq : onB c c.tides.toNat (li c j) with
      | true => rfl
      | false =>
        have := gC_off (c := c) (k := c.tides.toNat) (l := li c j) (by rw [hq]; decide)
        omega
    have h3 := h1 _ (li_mem j1) hoj
    rw [hz] at h3
    omega
theorem best_none {c : Channel} (r : Right c) (h : cntS tt c = 0) : bestC c = -1 := by
  unfold bestC
  rcases minF_spec (ok := fun a => decide (0 ≤ gC c c.tides.toNat (li c a))) (val := fun a => gC c c.tides.toNat (li c a)) (fun a h => by simpa using h) (LL c).length with ⟨q, _⟩ | ⟨_, ⟨j, j1, j2, j3⟩, q⟩
  · exact q
  · rw [decide_eq_true_eq] at j2
    exfalso
    cases hq : onB c c.tides.toNat (li c j) with
    | true =>
      unfold onB at hq
      rw [Bool.and_eq_true, decide_eq_true_eq] at hq
      have := sumN_pos.2 ⟨li c j, li_mem j1, hq.1⟩
      rw [← cntS_sum r] at this
      omega
    | false =>
      have := gC_off (c := c) (k := c.tides.toNat) (l := li c j) (by rw [hq]; decide)
      omega
theorem minF_bnd {ok : Nat → Bool} {val : Nat → Int} {B : Int} (hB : -1 ≤ B) (h0 : ∀ a, ok a = true → 0 ≤ val a) (n : Nat) (hv : ∀ a, a < n → ok a = true → val a ≤ B) : -1 ≤ minF ok val n ∧ minF ok val n ≤ B := by
  rcases minF_spec h0 n with ⟨q, _⟩ | ⟨q, ⟨a, a1, a2, a3⟩, _⟩
  · omega
  · have := hv a a1 a2
    omega
theorem gC_bnd {c : Channel} (r : Right c) : ∀ (k : Nat) (a : Nat), a < (LL c).length → -1 ≤ gC c k (li c a) ∧ gC c k (li c a) ≤ 33 * k
  | 0, a, _ => by rw [gC]; split <;> omega
  | k + 1, b, hb => by
    rw [gC]
    split
    · have hr := li_row r hb
      refine minF_bnd (by omega) (gC_vals) _ (fun a ha h => ?_)
      have h1 := gC_bnd r k a ha
      have h2 := movL_bnd r (li_row r ha) hr
      omega
    · omega
def rowG (c : Channel) (k : Nat) : List Int := (List.range (LL c).length).map fun i : Nat => gC c k (li c i)
theorem calmr_L2 {c : Channel} (r : Right c) {k b : Nat} (hk : k + 1 ≤ 4) (hb : b < (LL c).length) (g : Nat → Int) (t0 : List Int) :
    iterM FU (kp (LL c) ⟨((k + 1 : Nat) : Int), rowG c k⟩ ⟨(b : Int), t0⟩ c) ⟨0, rowT (LL c).length b g (-1)⟩ = some (rowT (LL c).length b g (minF (fun a => decide (0 ≤ gC c k (li c a)) && canB c.sands (li c a) (li c b)) (fun a => gC c k (li c a) + movL (li c a) (li c b)) (LL c).length)) := by
  have hc := r.cells
  have hf := r.fords
  have hs := r.sands
  have hLL := LL_len r
  have key := iterM_run (f := kp (LL c) ⟨((k + 1 : Nat) : Int), rowG c k⟩ ⟨(b : Int), t0⟩ c) (fun a => ⟨(a : Int), rowT (LL c).length b g (minF (fun a => decide (0 ≤ gC c k (li c a)) && canB c.sands (li c a) (li c b)) (fun a => gC c k (li c a) + movL (li c a) (li c b)) a)⟩) (LL c).length (b := rowT (LL c).length b g (minF (fun a => decide (0 ≤ gC c k (li c a)) && canB c.sands (li c a) (li c b)) (fun a => gC c k (li c a) + movL (li c a) (li c b)) (LL c).length)) (fun a ha => ?_) ?_ FU (FU_lt (by omega))
  · exact key
  · have hra := rowB_iff.1 (li_row r ha)
    have hrb := rowB_iff.1 (li_row r hb)
    have hcan := Y1 (c := c) (by omega) r.reach (a := li c a) (b := li c b) (by omega) (by omega) (fun x hx => by have := hra.2.2 x hx; omega)
    have hmv := row_moves r (li_row r ha) (li_row r hb)
    have hmb := movL_bnd r (li_row r ha) (li_row r hb)
    have hzi : ix (rowG c k) (a : Int) = some (gC c k (li c a)) := by unfold rowG; rw [range_ix ha]
    have hga := gC_bnd r k a ha
    have hxa : (LL c).getD a [] = li c a := rfl
    have hxb : (LL c).getD b [] = li c b := rfl
    have hMb := minF_bnd (B := 200) (by omega) (gC_vals (c := c) (k := k) (b := li c b)) a (fun x hx _ => by
      have h1 := gC_bnd r k x (by omega)
      have h2 := movL_bnd r (li_row r (show x < (LL c).length by omega)) (li_row r hb)
      omega)
    unfold kp
    simp only
    rw [if_pos (by omega), Option.bind_some, if_pos (by rw [decide_eq_true_eq]; omega), hzi, Option.bind_some, addc_eq (by omega), minF_succ]
    generalize minF (fun a => decide (0 ≤ gC c k (li c a)) && canB c.sands (li c a) (li c b)) (fun a => gC c k (li c a) + movL (li c a) (li c b)) a = v at hMb ⊢
    unfold stMin
    dsimp only
    by_cases h0 : gC c k (li c a) < 0
    · rw [if_pos h0, Option.bind_some, if_pos rfl, Option.bind_some, Option.bind_some, if_neg (show ¬ (decide (0 ≤ gC c k (li c a)) && canB c.sands (li c a) (li c b)) = true by rw [Bool.and_eq_true, decide_eq_true_eq]; omega)]
      congr 3
    · rw [if_neg h0, ix_nat [] ha, Option.bind_some, ix_nat [] hb, Option.bind_some, hxa, hxb, hcan, Option.bind_some, Option.bind_some]
      by_cases h1 : canB c.sands (li c a) (li c b) = true
      · rw [if_neg (by simp [h1]), Option.bind_some, Option.bind_some, Option.bind_some, hmv, Option.bind_some, addc_eq (by omega), Option.bind_some, rowT_ix hb, Option.bind_some, if_pos (show (decide (0 ≤ gC c k (li c a)) && canB c.sands (li c a) (li c b)) = true by rw [Bool.and_eq_true, decide_eq_true_eq]; exact ⟨by omega, h1⟩)]
        by_cases h2 : v < 0
        · rw [if_pos h2, if_pos (.inl h2), Option.bind_some, if_pos rfl, Option.bind_some, Option.bind_some, Option.bind_some, Option.bind_some, Int.toNat_natCast, rowT_set]
          congr 3
        · rw [if_neg h2, Option.bind_some, Option.bind_some]
          by_cases h3 : gC c k (li c a) + movL (li c a) (li c b) < v
          · rw [if_pos (by simpa using h3), if_pos (.inr h3), Option.bind_some, Option.bind_some, Option.bind_some, Option.bind_some, Int.toNat_natCast, rowT_set]
            congr 3
          · rw [if_neg (by simpa using h3), if_neg (by rintro (q | q); exact h2 q; exact h3 q), Option.bind_some, Option.bind_some]
            congr 3
      · rw [if_pos (by simpa using h1), Option.bind_some, Option.bind_some, if_neg (show ¬ (decide (0 ≤ gC c k (li c a)) && canB c.sands (li c a) (li c b)) = true by rw [Bool.and_eq_true]; exact fun q => h1 q.2)]
        congr 3
  · unfold kp
    simp only
    rw [if_neg (by omega), Option.bind_some, if_neg (by decide)]
theorem calmr_L1 {c : Channel} (r : Right c) {k : Nat} (hk : (k : Int) ≤ c.tides) (few : List Int) (hfew : ∀ j, j + 1 = k → few = rowG c j) :
    iterM FU (qC (LL c) ((List.range (c.tides.toNat + 1)).map (onRow c)) ⟨(k : Int), few⟩ c) ⟨0, rowT (LL c).length 0 (fun i => gC c k (li c i)) 0⟩ = some (rowG c k) := by
  have hc := r.cells
  have hf := r.fords
  have ht := r.tides
  have hLL := LL_len r
  have key := iterM_run (f := qC (LL c) ((List.range (c.tides.toNat + 1)).map (onRow c)) ⟨(k : Int), few⟩ c) (fun b => ⟨(b : Int), rowT (LL c).length b (fun i => gC c k (li c i)) 0⟩) (LL c).length (b := rowG c k) (fun b hb => ?_) ?_ FU (FU_lt (by omega))
  · exact key
  · unfold qC
    simp only
    rw [if_pos (by omega), rowT_ix hb, Option.bind_some, Option.bind_some, Int.toNat_natCast, rowT_set, rows_ix hk ht.1, Option.bind_some, onRow_ix hb, Option.bind_some, addc_eq (by omega), ← rowT_next, not_true_if]
    by_cases ho : onB c k (li c b) = true
    · rw [if_pos ho]
      cases k with
      | zero =>
        have hend : ∀ T : List Int, iterM FU (kp (LL c) ⟨((0 : Nat) : Int), few⟩ ⟨(b : Int), rowT (LL c).length b (fun i => gC c 0 (li c i)) 0⟩ c) ⟨0, T⟩ = some T := by
          intro T
          obtain ⟨N, hN⟩ : ∃ N, FU = N + 1 := ⟨FU - 1, by unfold FU; rfl⟩
          rw [hN, iterM_done]
          unfold kp
          simp only
          split
          · rw [Option.bind_some, if_neg (by simp)]
          · rw [Option.bind_some, if_neg (by simp)]
        rw [if_pos (show ((0 : Nat) : Int) = 0 from rfl), rowT_ix hb, Option.bind_some, Option.bind_some, Option.bind_some, rowT_set, hend, Option.bind_some, Option.bind_some, Option.bind_some]
        congr 3
        rw [gC, if_pos ho]
      | succ k =>
        have e := hfew k rfl
        subst e
        rw [if_neg (by omega), Option.bind_some, calmr_L2 r (by omega) hb, Option.bind_some, Option.bind_some, Option.bind_some]
        congr 3
        rw [gC, if_pos ho]
    · rw [if_neg ho, Option.bind_some, Option.bind_some]
      congr 3
      rw [gC_off ho]
  · unfold qC
    simp only
    rw [if_neg (by omega)]
    congr 2
    unfold rowT rowG
    apply List.map_congr_left
    intro i hi
    rw [if_pos (by simpa using hi)]
theorem ZU {c : Channel} (r : Right c) : zs c = some (bestC c) := by
  have ht := r.tides
  have hLL := LL_len r
  have e0 : ∀ g : Nat → Int, List.replicate ((LL c).length : Int).toNat (0 : Int) = rowT (LL c).length 0 g 0 := by
    intro g
    unfold rowT
    apply List.ext_getElem (by simp)
    intro i h1 h2
    simp
  unfold zs
  rw [YO r, Option.bind_some, jbc r, Option.bind_some, makec_eq (by omega), Option.bind_some]
  have key := iterM_run (f := qF c (LL c) ((List.range (c.tides.toNat + 1)).map (onRow c))) (fun k => ⟨(k : Int), if k = 0 then List.replicate ((LL c).length : Int).toNat (0 : Int) else rowG c (k - 1)⟩) (c.tides.toNat + 1) (b := rowG c c.tides.toNat) (fun k hk => ?_) ?_ FU (FU_lt (by omega))
  · have k0 : iterM FU (qF c (LL c) ((List.range (c.tides.toNat + 1)).map (onRow c))) ⟨0, List.replicate ((LL c).length : Int).toNat (0 : Int)⟩ = some (rowG c c.tides.toNat) := key
    rw [k0, Option.bind_some]
    have hlen : (rowG c c.tides.toNat).length = (LL c).length := by unfold rowG; simp
    have key2 := iterM_run (f := qJ (rowG c c.tides.toNat)) (fun a => ⟨minF (fun a => decide (0 ≤ gC c c.tides.toNat (li c a))) (fun a => gC c c.tides.toNat (li c a)) a, (a : Int)⟩) (LL c).length (b := bestC c) (fun a ha => ?_) ?_ FU (FU_lt (by omega))
    · have k1 : iterM FU (qJ (rowG c c.tides.toNat)) ⟨-1, 0⟩ = some (bestC c) := key2
      rw [k1]; rfl
    · have hzi : ix (rowG c c.tides.toNat) (a : Int) = some (gC c c.tides.toNat (li c a)) := by unfold rowG; rw [range_ix ha]
      unfold qJ
      simp only
      rw [if_pos (by omega), hzi, Option.bind_some, addc_eq (by omega), minF_succ]
      generalize minF (fun a => decide (0 ≤ gC c c.tides.toNat (li c a))) (fun a => gC c c.tides.toNat (li c a)) a = v
      unfold stMin
      dsimp only
      by_cases h0 : 0 ≤ gC c c.tides.toNat (li c a)
      · rw [if_pos h0, if_pos (decide_eq_true h0)]
        by_cases h2 : v < 0
        · rw [if_pos h2, if_pos (.inl h2), Option.bind_some, if_pos rfl, Option.bind_some, Option.bind_some, Option.bind_some]
          congr 3
        · rw [if_neg h2, Option.bind_some, Option.bind_some]
          by_cases h3 : gC c c.tides.toNat (li c a) < v
          · rw [if_pos (by simpa using h3), if_pos (.inr h3), Option.bind_some, Option.bind_some, Option.bind_some]
            congr 3
          · rw [if_neg (by simpa using h3), if_neg (by rintro (q | q); exact h2 q; exact h3 q), Option.bind_some, Option.bind_some]
            congr 3
      · rw [if_neg h0, Option.bind_some, if_neg (by decide), Option.bind_some, Option.bind_some, if_neg (by simpa using h0)]
        congr 3
    · unfold qJ
      simp only
      rw [if_neg (by omega)]
      rfl
  · unfold qF
    simp only
    rw [if_pos (by omega), makec_eq (by omega), Option.bind_some, e0 (fun i => gC c k (li c i)), calmr_L1 r (by omega) _ (fun j hj => by
      subst hj
      rw [if_neg (by omega), Nat.add_sub_cancel]), Option.bind_some, addc_eq (by omega), Option.bind_some, if_neg (by omega), Nat.add_sub_cancel]
    rfl
  · unfold qF
    simp only
    rw [if_neg (by omega), if_neg (by omega), Nat.add_sub_cancel]
theorem crs_small {c : Channel} {L : List (List State)} : ∀ l ∈ crsC c L, l.length ≤ 100 := by
  intro l hl
  unfold crsC at hl
  obtain ⟨j, _, rfl⟩ := List.mem_map.1 hl
  unfold clS
  rw [List.length_take]
  simp
  omega
theorem sum_loop {c : Channel} (r : Right c) {L : List (List State)} (hL : Levs c L) (h : cntS tt c ≠ 0) (R : zK) (hR : R.r0 = crsC c L) : iterM FU (j4 R) ⟨0, 0⟩ = some (fewC c L (first c)) := by
  have ht := r.tides
  have hlen := crs_len (c := c) (L := L)
  have key := iterM_run (f := j4 R) (fun j => ⟨sumI (fun i => movS (pth c L i) (pth c L (i + 1))) (j - 1), (j : Int)⟩) (c.tides.toNat + 1) (b := fewC c L (first c)) (fun j hj => ?_) ?_ FU (FU_lt (by omega))
  · exact key
  · unfold j4
    simp only
    rw [hR, if_pos (by omega)]
    cases j with
    | zero => rw [if_neg (by omega), Option.bind_some, addc_eq (by omega), Option.bind_some]; rfl
    | succ j =>
      have hb := sumI_bnd (f := fun i => movS (pth c L i) (pth c L (i + 1))) (B := 33) j (fun i hi => movS_bnd r (pth_V r hL h (by omega)).1 (pth_V r hL h (by omega)).1)
      have hb2 := movS_bnd r (pth_V r hL h (show j ≤ c.tides.toNat by omega)).1 (pth_V r hL h (show j + 1 ≤ c.tides.toNat by omega)).1
      rw [Nat.add_sub_cancel, if_pos (by omega), subc_eq (by omega), Option.bind_some, show ((j + 1 : Nat) : Int) - 1 = (j : Int) by omega, ix_nat [] (by omega), Option.bind_some, ix_nat [] (by omega), Option.bind_some, crs_moves r hL h (by omega), Option.bind_some, addc_eq (by omega), Option.bind_some, Option.bind_some, addc_eq (by omega), Option.bind_some, Nat.add_sub_cancel]
      rfl
  · unfold j4
    simp only
    rw [hR, if_neg (by omega), Nat.add_sub_cancel]
    have e := pth_sum r hL h c.tides.toNat (Nat.le_refl _)
    have hv := pth_V r hL h (Nat.le_refl c.tides.toNat)
    rw [few_last r hL (s := pth c L c.tides.toNat) (by rw [hv.2]; omega), Int.add_zero] at e
    rw [e]
theorem BranchCourses_true (c : Channel) : qN c = some true := by
  unfold qN
  rw [jas, Option.bind_some, awake_true]
  by_cases hw : WideP c
  · rw [decide_eq_true hw, if_pos rfl, Option.bind_some]
  rw [decide_eq_false hw, if_neg (by decide)]
  have hF := few_wide hw
  rw [Own_eq hF, theirs_eq hF]
  simp only [Option.bind_some]
  have a00 : addc 0 0 = some 0 := addc_eq (by omega)
  obtain ⟨L, e, hL⟩ := jay hF
  unfold Kl
  rw [refCheck_eq hF, ZZ hF, e, jaA hF]
  simp only [Option.bind_some]
  by_cases h0 : chk c = 0
  · have r := rightOf h0
    have ht := r.tides
    rw [YT r]
    simp only [Option.bind_some]
    rw [Zp r, ZU r]
    simp only [h0, if_true, Option.bind_some]
    by_cases h3 : cntS tt c = 0
    · rw [best_none r h3]
      simp [h3, a00]
    · have hL' := hL h0 h3
      have hb := few_bnd r hL' (first_V r)
      have hlen := crs_len (c := c) (L := L)
      have hfit := refFits_eq r (course := crsC c L) (by omega) crs_small
      have hcf := crs_fit r hL' h3
      rw [show (fun _ => true : Nat → Bool) = tt from rfl, hcf] at hfit
      rw [best_few r hL' h3]
      have hsum := sum_loop r hL' h3 ⟨fewC c L (first c), 0, crsC c L⟩ rfl
      have hnn : ¬ fewC c L (first c) < 0 := by omega
      have had : addc ((crsC c L).length : Int) ((crsC c L).length : Int) = some (((crsC c L).length : Int) + ((crsC c L).length : Int)) := addc_eq (by omega)
      simp only [h3, hnn, if_false, Option.bind_some, if_true, had, hfit, hsum]
      simp
  · simp [h0, a00]
end Go.Proofs.Wb

namespace Go.Gx
open Go Go.Fw Go.RowKit
section
variable {H : Type} {enc : TypeId × Value → H} {P : Program} {w : World} {base : Nat} {sp : Nat → Bool} {held : Bool}
def Opens (enc : TypeId × Value → H) (P : Program) (w : World) (base : Nat) (sp : Nat → Bool) (held : Bool) {α : Type} (R : Row α) (wf : α → Prop) (t : TypeId) : Prop :=
  ∀ fuel cs x, DataW.trod enc P w base sp held fuel t cs = some x → ∃ a, cs = R.cells a ∧ wf a
def i64P (n : Int) : Prop := -9223372036854775808 ≤ n ∧ n ≤ 9223372036854775807
theorem wf_i64P {n : Int} (h : (Lit.int .i64 n).wf = true) : i64P n := by
  simp [Lit.wf, IntKind.min, IntKind.max, IntKind.signed, IntKind.bits] at h
  unfold i64P; omega
theorem opens_i64 {t : TypeId} (ht : P.underlying t = some (.int .i64)) : Opens enc P w base sp held RI i64P t := fun fuel cs x h => by
  obtain ⟨n, rfl, _, hw⟩ := DataW.trod_int ht h
  exact ⟨n, rfl, wf_i64P hw⟩
theorem opens_bool {t : TypeId} (ht : P.underlying t = some .bool) : Opens enc P w base sp held RB (fun _ => True) t := fun fuel cs x h => by
  obtain ⟨b, rfl, _⟩ := DataW.trod_bool ht h
  exact ⟨b, rfl, trivial⟩
theorem fieldAt {fs : Array Field} {t : TypeId} {fuel : Nat} {cs : List Value} {x : DataW H × List MemPlace} (ht : P.underlying t = some (.struct fs)) (h : DataW.trod enc P w base sp held fuel t cs = some x) {α : Type} {R : Row α} {wf : α → Prop} (i : Nat) {T o k : Nat}
    (hf : (fs[i]?).map (fun fd => (fd.type, fd.offset)) = some (T, o)) (hk : P.cellsOf T = k) (hR : Opens enc P w base sp held R wf T) : ∃ a, (cs.drop o).take k = R.cells a ∧ wf a := by
  obtain ⟨xs, n, rfl, _, hlen, hxl, hx⟩ := DataW.trod_struct ht h
  obtain ⟨fd, hfd, he⟩ : ∃ fd, fs[i]? = some fd ∧ (fd.type, fd.offset) = (T, o) := by
    cases hh : fs[i]? with
    | none => simp [hh] at hf
    | some fd => exact ⟨fd, rfl, by simpa [hh] using hf⟩
  simp only [Prod.mk.injEq] at he
  obtain ⟨rfl, rfl⟩ := he
  have h1 := hx i fd hfd
  rw [hk] at h1
  have hi : i < xs.length := by rw [hxl]; exact (Array.getElem?_eq_some_iff.1 hfd).1
  rw [List.getElem?_eq_getElem hi] at h1
  exact hR _ _ _ h1
theorem structLen {fs : Array Field} {t : TypeId} {fuel : Nat} {cs : List Value} {x : DataW H × List MemPlace} (ht : P.underlying t = some (.struct fs)) (h : DataW.trod enc P w base sp held fuel t cs = some x) : cs.length = P.cellsOf t := by
  obtain ⟨xs, n, _, _, hlen, _⟩ := DataW.trod_struct ht h
  exact hlen
structure SlIn {α : Type} (R : Row α) (wf : α → Prop) (w : World) (v : Value) (A : Option Addr) (n c : Nat) (l : List α) : Prop where
  val : v = .slice A n c
  len : l.length = n
  ok : AOK n A
  le : n ≤ c
  max : c ≤ maxLen
  seg : segOK w (aB A, aO A, R.enc l)
  wf : ∀ x, x ∈ l → wf x
theorem choose_list {α : Type} {p : Nat → α → Prop} : ∀ (n : Nat), (∀ i, i < n → ∃ a, p i a) → ∃ l : List α, l.length = n ∧ ∀ i (h : i < l.length), p i l[i]
  | 0, _ => ⟨[], rfl, fun i h => by simp at h⟩
  | n + 1, h => by
    obtain ⟨l, hl, hp⟩ := choose_list n (fun i hi => h i (by omega))
    obtain ⟨a, ha⟩ := h n (by omega)
    refine ⟨l ++ [a], by simp [hl], fun i hi => ?_⟩
    by_cases hil : i < l.length
    · rw [List.getElem_append_left hil]; exact hp i hil
    · have : i = l.length := by simp at hi; omega
      subst this
      rw [List.getElem_append_right (by omega)]
      simp only [Nat.sub_self, List.getElem_cons_zero]
      rw [hl]; exact ha
theorem openSl {α : Type} {R : Row α} {wf : α → Prop} {t e : TypeId} (ht : P.underlying t = some (.slice e)) (hc : P.cellsOf e = R.sz) (hR : Opens enc P w base sp held R wf e) (h0 : Nat.blt 0 R.sz = true)
    {fuel : Nat} {cs : List Value} {x : DataW H × List MemPlace} (h : DataW.trod enc P w base sp held fuel t cs = some x) : ∃ (v : Value) (A : Option Addr) (n c : Nat) (l : List α), cs = [v] ∧ SlIn R wf w v A n c l := by
  have hsz : 0 < R.sz := by simpa using h0
  rcases Go.Deep.open_slice ht h with ⟨rfl, _⟩ | ⟨a, len, cap, m, n, D, Pl, rfl, hb, hl, hm, hmm, _, hi⟩
  · exact ⟨_, none, 0, 0, [], rfl, rfl, rfl, AOK.nil, Nat.le_refl _, Nat.zero_le _, segOK.nil, by simp⟩
  · have hlm : len ≤ m := by rw [hmm]; split <;> omega
    have hcell : ∀ i, i < len → ∃ x : α, (∀ f (hf : f < (R.cells x).length), w.cell? (a.add (i * R.sz + f)) = some (R.cells x)[f]) ∧ wf x := fun i hil => by
      obtain ⟨cs', h1, h2⟩ := hi i (by omega)
      obtain ⟨x, rfl, hw⟩ := hR _ _ _ h2
      obtain ⟨_, _, hat⟩ := World.cells?_some h1
      refine ⟨x, fun f hf => ?_, hw⟩
      have := hat f (by rw [hc, ← R.len x]; exact hf)
      rw [hc] at this
      rw [List.getElem?_eq_getElem hf] at this
      have e : (a.add (i * R.sz)).add f = a.add (i * R.sz + f) := by
        unfold Addr.add
        by_cases h1 : i * R.sz = 0
        · simp [h1]
        · by_cases h2 : f = 0
          · simp [h2]
          · simp [h1, h2, Nat.add_assoc]
      rw [e] at this
      exact this
    obtain ⟨l, hll, hlp⟩ := choose_list len hcell
    have hspot : 0 < len → a.spot = none := fun h0 => by
      obtain ⟨x, hx, _⟩ := hcell 0 h0
      have := World.cell?_spot (hx 0 (by rw [R.len]; exact hsz))
      simpa [Addr.add] using this
    refine ⟨_, some a, len, cap, l, rfl, rfl, hll, fun h0 => ?_, hl, hm, fun j hj => ?_, fun x hx => ?_⟩
    · obtain ⟨b, o, s⟩ := a
      have := hspot h0
      simp only at this
      subst this
      exact ⟨b, o, rfl⟩
    · have hj' : j < l.length * R.sz := by rw [← R.enc_len]; exact hj
      have hpos : 0 < len := by
        rcases Nat.eq_zero_or_pos len with h | h
        · rw [hll, h, Nat.zero_mul] at hj'; omega
        · exact h
      obtain ⟨b, o, s⟩ := a
      have hs := hspot hpos
      simp only at hs
      subst hs
      have hq : j / R.sz < l.length := Nat.div_lt_of_lt_mul (by rw [Nat.mul_comm]; exact hj')
      have hr : j % R.sz < R.sz := Nat.mod_lt _ hsz
      have hd : j / R.sz * R.sz + j % R.sz = j := by rw [Nat.mul_comm]; exact Nat.div_add_mod j R.sz
      have h1 := (hlp (j / R.sz) hq).1 (j % R.sz) (by rw [R.len]; exact hr)
      rw [hd] at h1
      have h2 := R.enc_get l (j / R.sz) (j % R.sz) l[j / R.sz] (List.getElem?_eq_getElem hq) hr
      rw [hd] at h2
      have h3 : (⟨b, o, none⟩ : Addr).add j = ⟨b, o + j, none⟩ := addr_add b o j
      rw [h3] at h1
      simp only [aB, aO, Option.map_some, Option.getD_some]
      rw [h1, ← List.getElem?_eq_getElem, ← h2, List.getElem?_eq_getElem hj]
    · obtain ⟨i, hi', rfl⟩ := List.getElem_of_mem hx
      exact (hlp i hi').2
theorem fieldSl {fs : Array Field} {t : TypeId} {fuel : Nat} {cs : List Value} {x : DataW H × List MemPlace} (ht : P.underlying t = some (.struct fs)) (h : DataW.trod enc P w base sp held fuel t cs = some x) {α : Type} {R : Row α} {wf : α → Prop} (i : Nat) {T o e : Nat}
    (hf : (fs[i]?).map (fun fd => (fd.type, fd.offset)) = some (T, o)) (hk : P.cellsOf T = 1) (hT : P.underlying T = some (.slice e)) (hc : P.cellsOf e = R.sz) (hR : Opens enc P w base sp held R wf e) (h0 : Nat.blt 0 R.sz = true) :
    ∃ (v : Value) (A : Option Addr) (n c : Nat) (l : List α), (cs.drop o).take 1 = [v] ∧ SlIn R wf w v A n c l := by
  obtain ⟨xs, m, rfl, _, hlen, hxl, hx⟩ := DataW.trod_struct ht h
  obtain ⟨fd, hfd, he⟩ : ∃ fd, fs[i]? = some fd ∧ (fd.type, fd.offset) = (T, o) := by
    cases hh : fs[i]? with
    | none => simp [hh] at hf
    | some fd => exact ⟨fd, rfl, by simpa [hh] using hf⟩
  simp only [Prod.mk.injEq] at he
  obtain ⟨rfl, rfl⟩ := he
  have h1 := hx i fd hfd
  rw [hk] at h1
  have hi : i < xs.length := by rw [hxl]; exact (Array.getElem?_eq_some_iff.1 hfd).1
  rw [List.getElem?_eq_getElem hi] at h1
  exact openSl hT hc hR h0 h1
theorem HV.begin {ro : List Sg} (h : ∀ s, s ∈ ro → segOK w s) : HV w (keys [] []) [] [] ro w :=
  ⟨rfl, rfl, rfl, Nat.le_refl _, fun _ _ _ => rfl, by simp [vbl], by simp [vbl], by simp [vbl], h, by simp [vbl]⟩
theorem segCons {s : Sg} {ro : List Sg} (h : segOK w s) (hr : ∀ t, t ∈ ro → segOK w t) : ∀ t, t ∈ s :: ro → segOK w t := fun t ht => by
  rcases List.mem_cons.1 ht with rfl | ht
  · exact h
  · exact hr t ht
theorem segNil : ∀ t, t ∈ ([] : List Sg) → segOK w t := fun t ht => by cases ht
theorem HV.below {w' : World} (h : HV w (keys [] []) [] [] [] w') : Below w.heap.size w w' := by
  have : Ext [] w w' := HS.toExt h
  exact this.below
end
end Go.Gx

