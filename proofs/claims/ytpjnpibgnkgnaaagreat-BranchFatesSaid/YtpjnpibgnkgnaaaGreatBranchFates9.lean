/- What the functions that the law BranchFates reaches come to, and why it holds: part 9. -/
import Derived.Test.YtpjnpibgnkgnaaaGreatBranchFates8
import Derived.Deep.Slices
import Derived.ChangeArms
namespace Go.Proofs.Wb
open Go Go.Fw Go.Gx Go.Sb
set_option linter.unusedVariables false
set_option maxRecDepth 100000
abbrev tt : Nat → Bool := fun _ => true
theorem agS_all (c : Channel) : agS (bitN (2 ^ c.sights.length - 1)) c = agS tt c := by
  funext s
  exact agP_congr (fun i hi => bitN_all hi)
theorem FcL_all (c : Channel) : ∀ k l, FcL (bitN (2 ^ c.sights.length - 1)) c k l = FcL tt c k l
  | 0, l => by rw [FcL, FcL, agP_congr (fun i hi => bitN_all hi)]
  | k + 1, l => by
    rw [FcL, FcL, agP_congr (fun i hi => bitN_all hi)]
    congr 1
    refine sumN_congr fun a _ => ?_
    rw [FcL_all c k a]
theorem cntS_all (c : Channel) : cntS (bitN (2 ^ c.sights.length - 1)) c = cntS tt c := by unfold cntS; rw [agS_all]
theorem all_small {c : Channel} (r : Right c) : 2 ^ c.sights.length - 1 ≤ 1000000000000 := by
  have h6 : 2 ^ c.sights.length ≤ 2 ^ 20 := Nat.pow_le_pow_right (by omega) r.sights
  generalize 2 ^ c.sights.length = q at h6 ⊢
  omega
def onB (c : Channel) (k : Nat) (l : List Int) : Bool := decide (0 < FcL tt c k l) && decide (0 < R (nxS c) (agS tt c) (c.tides.toNat - k) (stL k l))
theorem FcL_succ_pos {c : Channel} {k : Nat} {l : List Int} : 0 < FcL tt c (k + 1) l ↔ agP tt c.sights ((k + 1 : Nat) : Int) l = true ∧ ∃ a ∈ LL c, canB c.sands a l = true ∧ 0 < FcL tt c k a := by
  rw [FcL]
  by_cases h : agP tt c.sights ((k + 1 : Nat) : Int) l = true
  · rw [if_pos h, sumN_pos]
    constructor
    · rintro ⟨a, ha, h2⟩
      split at h2
      · rename_i hc; exact ⟨h, a, ha, hc, h2⟩
      · omega
    · rintro ⟨_, a, ha, hc, h2⟩
      exact ⟨a, ha, by rw [if_pos hc]; exact h2⟩
  · rw [if_neg h]
    constructor
    · intro q; omega
    · rintro ⟨q, _⟩; exact absurd q h
theorem FcL_pos_ag {c : Channel} {k : Nat} {l : List Int} (h : 0 < FcL tt c k l) : agP tt c.sights (k : Int) l = true := by
  cases hq : agP tt c.sights (k : Int) l with
  | true => rfl
  | false => rw [FcL_ag (by rw [hq]; decide)] at h; omega
theorem R_stL_pos {c : Channel} (r : Right c) {j k : Nat} {a : List Int} (ha : rowB c a = true) : 0 < R (nxS c) (agS tt c) (j + 1) (stL k a) ↔ agP tt c.sights (k : Int) a = true ∧ ∃ l ∈ LL c, canB c.sands a l = true ∧ 0 < R (nxS c) (agS tt c) j (stL (k + 1) l) := by
  rw [R_stL r ha]
  by_cases h : agP tt c.sights (k : Int) a = true
  · rw [if_pos h, sumN_pos]
    constructor
    · rintro ⟨l, hl, h2⟩
      split at h2
      · rename_i hc; exact ⟨h, l, hl, hc, h2⟩
      · omega
    · rintro ⟨_, l, hl, hc, h2⟩
      exact ⟨l, hl, by rw [if_pos hc]; exact h2⟩
  · rw [if_neg h]
    constructor
    · intro q; omega
    · rintro ⟨q, _⟩; exact absurd q h
theorem stL_of {c : Channel} (r : Right c) {s : State} {k : Nat} (h : VS c s) (hk : s.after = (k : Int)) : ∃ a ∈ LL c, s = stL k a := by
  have hc := r.cells
  obtain ⟨⟨l, h1, h2⟩, _⟩ := h
  obtain ⟨x, y⟩ := s
  simp only at hk h2
  exact ⟨l, (mem_LL (by omega)).2 h1, by rw [hk, h2]; rfl⟩
theorem mem_nx_stL {c : Channel} (r : Right c) {k : Nat} {a l : List Int} (ha : rowB c a = true) (hl : rowB c l = true) : stL (k + 1) l ∈ nxS c (stL k a) ↔ canB c.sands a l = true := by
  have hf := r.fords
  rw [nxS_mem r, can_iff r ha hl]
  constructor
  · rintro ⟨l', h, e⟩
    simp only [stL, State.mk.injEq] at e
    have := mkCells_inj (l := l) (m := l') (by rw [h.len]; exact (rowB_iff.1 hl).1) (by have := (rowB_iff.1 hl).1; omega) e.2
    rw [this]; exact h
  · intro h
    exact ⟨l, h, by simp [stL]⟩
theorem on_V {c : Channel} (r : Right c) : ∀ (k : Nat), (k : Int) ≤ c.tides → ∀ t, On (nxS c) (agS tt c) k c.tides.toNat (first c) t → VS c t ∧ t.after = (k : Int)
  | 0, _, t, h => by
    obtain ⟨rfl, _⟩ := on_zero.1 h
    exact ⟨first_V r, rfl⟩
  | k + 1, hk, t, h => by
    obtain ⟨u, h1, h2, _⟩ := (on_succ (by omega)).1 h
    obtain ⟨v1, v2⟩ := on_V r k (by omega) u h1
    obtain ⟨v3, v4⟩ := nxS_V r v1 (by omega) h2
    exact ⟨v3, by omega⟩
theorem on_iff {c : Channel} (r : Right c) : ∀ (k : Nat), (k : Int) ≤ c.tides → ∀ l, rowB c l = true → (On (nxS c) (agS tt c) k c.tides.toNat (first c) (stL k l) ↔ onB c k l = true)
  | 0, _, l, hl => by
    have hf := r.fords
    have h1 := (rowB_iff.1 hl).1
    unfold onB
    rw [on_zero, Bool.and_eq_true, decide_eq_true_eq, decide_eq_true_eq, FcL, Nat.sub_zero]
    constructor
    · rintro ⟨e, h2⟩
      have e2 : l = c.fords := by
        simp only [stL, first, State.mk.injEq] at e
        exact mkCells_inj (by omega) (by omega) e.2
      subst e2
      have hag := R_ag h2
      rw [show first c = stL 0 c.fords from rfl, agS_stL r hl] at hag
      exact ⟨by rw [if_pos ⟨hag, rfl⟩]; omega, h2⟩
    · rintro ⟨h2, h3⟩
      split at h2
      · rename_i q
        obtain ⟨_, q⟩ := q
        subst q
        exact ⟨rfl, h3⟩
      · omega
  | k + 1, hk, l, hl => by
    have hc := r.cells
    unfold onB
    rw [on_succ (by omega), Bool.and_eq_true, decide_eq_true_eq, decide_eq_true_eq, FcL_succ_pos, show c.tides.toNat - (k + 1) = c.tides.toNat - k - 1 by omega]
    constructor
    · rintro ⟨u, h1, h2, h3⟩
      obtain ⟨v1, v2⟩ := on_V r k (by omega) u h1
      obtain ⟨a, ha, rfl⟩ := stL_of r v1 v2
      have ha' := (mem_LL (by omega)).1 ha
      have h4 := (on_iff r k (by omega) a ha').1 h1
      unfold onB at h4
      rw [Bool.and_eq_true, decide_eq_true_eq] at h4
      have hag := R_ag h3
      rw [agS_stL r hl] at hag
      exact ⟨⟨hag, a, ha, (mem_nx_stL r ha' hl).1 h2, h4.1⟩, h3⟩
    · rintro ⟨⟨hag, a, ha, h1, h2⟩, h3⟩
      have ha' := (mem_LL (by omega)).1 ha
      refine ⟨stL k a, (on_iff r k (by omega) a ha').2 ?_, (mem_nx_stL r ha' hl).2 h1, h3⟩
      unfold onB
      rw [Bool.and_eq_true, decide_eq_true_eq, decide_eq_true_eq, show c.tides.toNat - k = (c.tides.toNat - k - 1) + 1 by omega, R_stL_pos r ha']
      exact ⟨h2, FcL_pos_ag h2, l, (mem_LL (by omega)).2 hl, h1, h3⟩
theorem onB_step {c : Channel} (r : Right c) {k : Nat} (hk : (k : Int) < c.tides) {a : List Int} (ha : rowB c a = true) (hp : 0 < FcL tt c k a) : onB c k a = (List.range (LL c).length).any fun b => onB c (k + 1) (li c b) && canB c.sands a (li c b) := by
  have hc := r.cells
  have hag := FcL_pos_ag hp
  rw [Bool.eq_iff_iff]
  unfold onB
  rw [Bool.and_eq_true, decide_eq_true_eq, decide_eq_true_eq, show c.tides.toNat - k = (c.tides.toNat - (k + 1)) + 1 by omega, R_stL_pos r ha, List.any_eq_true]
  constructor
  · rintro ⟨_, _, l, hl, h1, h2⟩
    obtain ⟨b, hb, e⟩ := List.getElem_of_mem hl
    have e2 : li c b = l := by unfold li; rw [← e]; simp [List.getD_eq_getElem?_getD, hb]
    refine ⟨b, by simpa using hb, ?_⟩
    rw [e2, Bool.and_eq_true, Bool.and_eq_true, decide_eq_true_eq, decide_eq_true_eq, FcL_succ_pos]
    have hag2 := R_ag h2
    rw [agS_stL r ((mem_LL (by omega)).1 hl)] at hag2
    exact ⟨⟨⟨hag2, a, (mem_LL (by omega)).2 ha, h1, hp⟩, h2⟩, h1⟩
  · rintro ⟨b, hb, h⟩
    have hb' : b < (LL c).length := by simpa using hb
    rw [Bool.and_eq_true, Bool.and_eq_true, decide_eq_true_eq, decide_eq_true_eq] at h
    exact ⟨hp, hag, li c b, (mem_LL (by omega)).2 (li_row r hb'), h.2, h.1.2⟩
theorem onB_last {c : Channel} (r : Right c) {k : Nat} (hk : (k : Int) = c.tides) {a : List Int} (ha : rowB c a = true) (hp : 0 < FcL tt c k a) : onB c k a = true := by
  unfold onB
  rw [Bool.and_eq_true, decide_eq_true_eq, decide_eq_true_eq, show c.tides.toNat - k = 0 by omega, R, agS_stL r ha, if_pos (FcL_pos_ag hp)]
  exact ⟨hp, by omega⟩
def rowU (n b : Nat) (g : Nat → Bool) (v : Bool) : List Bool := (List.range n).map fun i : Nat => if i < b then g i else if i = b then v else false
theorem rowU_set {n b : Nat} {g : Nat → Bool} {v u : Bool} : (rowU n b g v).set b u = rowU n b g u := by
  unfold rowU
  rw [range_set]
  apply List.map_congr_left
  intro i _
  by_cases h : i = b
  · subst h; simp
  · rw [if_neg h]
    by_cases h2 : i < b
    · rw [if_pos h2, if_pos h2]
    · rw [if_neg h2, if_neg h2, if_neg h, if_neg h]
theorem rowU_ix {n b : Nat} {g : Nat → Bool} {v : Bool} (h : b < n) : ix (rowU n b g v) (b : Int) = some v := by
  unfold rowU
  rw [range_ix h, if_neg (by omega), if_pos rfl]
theorem rowU_next {n b : Nat} {g : Nat → Bool} : rowU n b g (g b) = rowU n (b + 1) g false := by
  unfold rowU
  apply List.map_congr_left
  intro i _
  by_cases h : i < b
  · rw [if_pos h, if_pos (by omega)]
  · by_cases h2 : i = b
    · subst h2; rw [if_neg h, if_pos rfl, if_pos (by omega)]
    · rw [if_neg h, if_neg h2, if_neg (by omega)]
      split <;> rfl
def onRow (c : Channel) (k : Nat) : List Bool := (List.range (LL c).length).map fun i : Nat => onB c k (li c i)
def outK (c : Channel) (k : Nat) (row : List Bool) : List (List Bool) := (List.range (c.tides.toNat + 1)).map fun i : Nat => if i = k then row else if k < i then onRow c i else []
theorem outK_ix {c : Channel} {k : Nat} {row : List Bool} (h : k ≤ c.tides.toNat) : ix (outK c k row) (k : Int) = some row := by
  unfold outK
  rw [range_ix (by omega), if_pos rfl]
theorem outK_ix' {c : Channel} {k : Nat} {row : List Bool} (h : k + 1 ≤ c.tides.toNat) : ix (outK c k row) ((k : Int) + 1) = some (onRow c (k + 1)) := by
  have := range_ix (f := fun i : Nat => if i = k then row else if k < i then onRow c i else []) (n := c.tides.toNat + 1) (i := k + 1) (by omega)
  rw [if_neg (by omega), if_pos (by omega)] at this
  exact this
theorem outK_set {c : Channel} {k : Nat} {row row' : List Bool} : (outK c k row).set k row' = outK c k row' := by
  unfold outK
  rw [range_set]
  apply List.map_congr_left
  intro i _
  by_cases h : i = k
  · rw [if_pos h, if_pos h]
  · rw [if_neg h, if_neg h, if_neg h]
theorem on_L2 {c : Channel} (r : Right c) {k a : Nat} (hk : (k : Int) ≤ c.tides) (ha : a < (LL c).length) (g : Nat → Bool) (v : Bool) (t0 o0 : List (List Bool)) :
    iterM FU (qE (LL c) ⟨(k : Int), o0⟩ c ⟨(a : Int), t0⟩) ⟨0, outK c k (rowU (LL c).length a g v)⟩ = some (outK c k (rowU (LL c).length a g (v || (decide ((k : Int) < c.tides) && (List.range (LL c).length).any fun b => onB c (k + 1) (li c b) && canB c.sands (li c a) (li c b))))) := by
  have hc := r.cells
  have hf := r.fords
  have hs := r.sands
  have hLL := LL_len r
  have ht := r.tides
  by_cases hkt : (k : Int) < c.tides
  · have key := iterM_run (f := qE (LL c) ⟨(k : Int), o0⟩ c ⟨(a : Int), t0⟩) (fun b => ⟨(b : Int), outK c k (rowU (LL c).length a g (v || (List.range b).any fun b => onB c (k + 1) (li c b) && canB c.sands (li c a) (li c b)))⟩) (LL c).length (b := outK c k (rowU (LL c).length a g (v || (decide ((k : Int) < c.tides) && (List.range (LL c).length).any fun b => onB c (k + 1) (li c b) && canB c.sands (li c a) (li c b))))) (fun b hb => ?_) ?_ FU (FU_lt (by omega))
    · simpa using key
    · have hra := rowB_iff.1 (li_row r ha)
      have hrb := rowB_iff.1 (li_row r hb)
      have hcan := ja1 (c := c) (by omega) r.reach (a := li c a) (b := li c b) (by omega) (by omega) (fun x hx => by have := hra.2.2 x hx; omega)
      have hxa : (LL c).getD a [] = li c a := rfl
      have hxb : (LL c).getD b [] = li c b := rfl
      have hor : ix (onRow c (k + 1)) (b : Int) = some (onB c (k + 1) (li c b)) := by unfold onRow; rw [range_ix hb]
      have hany : ((List.range (b + 1)).any fun b => onB c (k + 1) (li c b) && canB c.sands (li c a) (li c b)) = (((List.range b).any fun b => onB c (k + 1) (li c b) && canB c.sands (li c a) (li c b)) || (onB c (k + 1) (li c b) && canB c.sands (li c a) (li c b))) := by
        rw [List.range_succ, List.any_append]; simp
      unfold qE
      simp only
      rw [hany, ← Bool.or_assoc]
      generalize (v || (List.range b).any fun b => onB c (k + 1) (li c b) && canB c.sands (li c a) (li c b)) = u
      rw [if_pos (by omega), Option.bind_some, if_pos (by rw [decide_eq_true_eq]; exact hkt), outK_ix (by omega), Option.bind_some, Option.bind_some, rowU_ix ha, Option.bind_some]
      cases u with
      | true =>
        rw [if_pos rfl, Option.bind_some, Option.bind_some, Option.bind_some, Option.bind_some, Int.toNat_natCast, Int.toNat_natCast, rowU_set, outK_set, addc_eq (by omega), Option.bind_some, Bool.true_or]
        rfl
      | false =>
        rw [if_neg (by decide), addc_eq (by omega), Option.bind_some, outK_ix' (by omega), Option.bind_some, hor, Option.bind_some, Bool.false_or]
        cases h1 : onB c (k + 1) (li c b) with
        | true =>
          rw [if_pos rfl, ix_nat [] ha, Option.bind_some, ix_nat [] hb, Option.bind_some, hxa, hxb, hcan, Option.bind_some, Option.bind_some, Option.bind_some, Option.bind_some, Option.bind_some, Int.toNat_natCast, Int.toNat_natCast, rowU_set, outK_set, addc_eq (by omega), Option.bind_some, Bool.true_and]
          rfl
        | false =>
          rw [if_neg (by decide), Option.bind_some, Option.bind_some, Option.bind_some, Option.bind_some, Int.toNat_natCast, Int.toNat_natCast, rowU_set, outK_set, addc_eq (by omega), Option.bind_some, Bool.false_and]
          rfl
    · unfold qE
      simp only
      rw [if_neg (by omega), Option.bind_some, if_neg (by decide), decide_eq_true hkt, Bool.true_and]
  · rw [decide_eq_false hkt, Bool.false_and, Bool.or_false]
    obtain ⟨N, hN⟩ : ∃ N, FU = N + 1 := ⟨FU - 1, by unfold FU; rfl⟩
    rw [hN, iterM_done]
    unfold qE
    simp only
    split
    · rw [Option.bind_some, if_neg (by simpa using hkt)]
    · rw [Option.bind_some, if_neg (by decide)]
theorem on_L1 {c : Channel} (r : Right c) {k : Nat} (hk : (k : Int) ≤ c.tides) (rows : List (List Int)) (hrows : ix rows (k : Int) = some (rowZ (bitN (2 ^ c.sights.length - 1)) c k)) (o0 : List (List Bool)) :
    iterM FU (yn (LL c) rows ⟨(k : Int), o0⟩ c) ⟨0, outK c k (rowU (LL c).length 0 (fun i => onB c k (li c i)) false)⟩ = some (outK c k (onRow c k)) := by
  have hLL := LL_len r
  have ht := r.tides
  have key := iterM_run (f := yn (LL c) rows ⟨(k : Int), o0⟩ c) (fun a => ⟨(a : Int), outK c k (rowU (LL c).length a (fun i => onB c k (li c i)) false)⟩) (LL c).length (b := outK c k (onRow c k)) (fun a ha => ?_) ?_ FU (FU_lt (by omega))
  · exact key
  · have hzi : ix (rowZ (bitN (2 ^ c.sights.length - 1)) c k) (a : Int) = some (FcL tt c k (li c a) : Int) := by unfold rowZ; rw [range_ix ha, FcL_all]
    unfold yn
    simp only
    rw [if_pos (by omega), hrows, Option.bind_some, hzi, Option.bind_some, addc_eq (by omega), ← rowU_next]
    by_cases h0 : FcL tt c k (li c a) = 0
    · rw [if_pos (by omega), Option.bind_some, Option.bind_some]
      have : onB c k (li c a) = false := by unfold onB; rw [h0]; rfl
      rw [this]
      rfl
    · rw [if_neg (by omega)]
      by_cases hkt : (k : Int) = c.tides
      · rw [if_pos hkt, outK_ix (by omega), Option.bind_some, rowU_ix ha, Option.bind_some, Option.bind_some, Option.bind_some, Option.bind_some, Int.toNat_natCast, Int.toNat_natCast, rowU_set, outK_set, on_L2 r hk ha, Option.bind_some, Option.bind_some, Option.bind_some, onB_last r hkt (li_row r ha) (by omega), Bool.true_or]
        rfl
      · rw [if_neg hkt, Option.bind_some, on_L2 r hk ha, Option.bind_some, Option.bind_some, Option.bind_some, Bool.false_or, decide_eq_true (by omega), Bool.true_and, ← onB_step r (by omega) (li_row r ha) (by omega)]
        rfl
  · unfold yn
    simp only
    rw [if_neg (by omega)]
    congr 2
    unfold rowU onRow
    congr 1
    apply List.map_congr_left
    intro i hi
    rw [if_pos (by simpa using hi)]
theorem jbp {c : Channel} (r : Right c) : zs c = some ((List.range (c.tides.toNat + 1)).map (onRow c)) := by
  have hLL := LL_len r
  have ht := r.tides
  have hs := r.sights
  unfold zs
  rw [Q8 r, Option.bind_some, QB (by omega), Option.bind_some, ZR r (all_small r), Option.bind_some, List.length_map, List.length_range, makec_eq (by omega), Option.bind_some]
  have key := iterM_run (f := y7 (LL c) ((List.range (c.tides.toNat + 1)).map (rowZ (bitN (2 ^ c.sights.length - 1)) c)) c) (fun j => ⟨c.tides - (j : Int), (List.range (c.tides.toNat + 1)).map fun i : Nat => if c.tides.toNat < i + j then onRow c i else []⟩) (c.tides.toNat + 1) (b := (List.range (c.tides.toNat + 1)).map (onRow c)) (fun j hj => ?_) ?_ FU (FU_lt (by omega))
  · have e0 : List.replicate ((c.tides.toNat + 1 : Nat) : Int).toNat ([] : List Bool) = (List.range (c.tides.toNat + 1)).map fun i : Nat => if c.tides.toNat < i + 0 then onRow c i else [] := by
      apply List.ext_getElem (by simp; omega)
      intro i h1 h2
      have : i < c.tides.toNat + 1 := by simpa using h2
      simp only [List.getElem_replicate, List.getElem_map, List.getElem_range]
      rw [if_neg (by omega)]
    simp only [Int.natCast_zero, Int.sub_zero, show ((0 : Nat) : Int) = 0 from rfl] at key
    rw [e0, key]
    rfl
  · obtain ⟨k, hk⟩ : ∃ k : Nat, c.tides - (j : Int) = (k : Int) := ⟨(c.tides - (j : Int)).toNat, by omega⟩
    have hrow : ix ((List.range (c.tides.toNat + 1)).map (rowZ (bitN (2 ^ c.sights.length - 1)) c)) (k : Int) = some (rowZ (bitN (2 ^ c.sights.length - 1)) c k) := range_ix (by omega)
    have e1 : ((List.range (c.tides.toNat + 1)).map fun i : Nat => if c.tides.toNat < i + j then onRow c i else []).set k (List.replicate ((LL c).length : Int).toNat false) = outK c k (rowU (LL c).length 0 (fun i => onB c k (li c i)) false) := by
      rw [range_set]
      unfold outK
      apply List.map_congr_left
      intro i hi
      by_cases h : i = k
      · rw [if_pos h, if_pos h]
        unfold rowU
        apply List.ext_getElem (by simp)
        intro i h1 h2
        simp
      · rw [if_neg h, if_neg h]
        by_cases h2 : k < i
        · rw [if_pos (by omega), if_pos h2]
        · rw [if_neg (by omega), if_neg h2]
    unfold y7
    simp only
    rw [hk, if_pos (by omega), makec_eq (by omega), Option.bind_some, range_ix (by omega), Option.bind_some, Option.bind_some, Int.toNat_natCast, e1, on_L1 r (by omega) _ hrow, Option.bind_some, subc_eq (by omega), Option.bind_some]
    congr 3
    · omega
    · unfold outK
      apply List.map_congr_left
      intro i hi
      by_cases h : i = k
      · rw [if_pos h, if_pos (by omega), h]
      · rw [if_neg h]
        by_cases h2 : k < i
        · rw [if_pos h2, if_pos (by omega)]
        · rw [if_neg h2, if_neg (by omega)]
  · unfold y7
    simp only
    rw [if_neg (by omega)]
    congr 2
    apply List.map_congr_left
    intro i hi
    have : i < c.tides.toNat + 1 := by simpa using hi
    rw [if_pos (by omega)]
end Go.Proofs.Wb

namespace Go.Proofs.Wb
open Go Go.Fw Go.Gx Go.Sb
set_option linter.unusedVariables false
set_option maxRecDepth 100000
theorem asc_ext {l m : List Int} (hl : l.Pairwise (· < ·)) (hm : m.Pairwise (· < ·)) (h : ∀ x, x ∈ l ↔ x ∈ m) : l = m := by
  refine List.Perm.eq_of_pairwise (le := fun x y : Int => x < y) (fun a b _ _ h1 h2 => by omega) hl hm ?_
  exact (List.perm_ext_iff_of_nodup (hl.imp (fun h => by omega)) (hm.imp (fun h => by omega))).2 h
theorem sorted_get {l : List Int} (h : l.Pairwise (· ≤ ·)) {i j : Nat} (hij : i ≤ j) (hj : j < l.length) : l.getD i 0 ≤ l.getD j 0 := by
  rcases Nat.lt_or_eq_of_le hij with h1 | h1
  · have := List.pairwise_iff_getElem.1 h i j (by omega) hj h1
    simpa [List.getD_eq_getElem?_getD, hj, (show i < l.length by omega)] using this
  · subst h1; exact Int.le_refl _
theorem cmp_get {l : List Int} {j : Nat} (hj : j < l.length) : l.toArray[j]! = l.getD j 0 := by
  simp [List.getD_eq_getElem?_getD, hj]
theorem compact_asc {l : List Int} (h : l.Pairwise (· ≤ ·)) : (Go.Lib.compact l).Pairwise (· < ·) := by
  unfold Go.Lib.compact Go.Lib.compactUpTo
  rw [List.pairwise_map, List.pairwise_filter]
  refine List.Pairwise.imp_of_mem ?_ (List.pairwise_lt_range (n := l.length))
  intro i j hi hj hij ki kj
  have hj' : j < l.length := by simpa using hj
  have hi' : i < l.length := by simpa using hi
  rw [cmp_get hi', cmp_get hj']
  have k2 : l.getD j 0 ≠ l.getD (j - 1) 0 := by
    unfold Go.Lib.keeps at kj
    rw [decide_eq_true_eq, cmp_get hj', cmp_get (by omega)] at kj
    exact kj.resolve_left (by omega)
  have h1 := sorted_get h (show i ≤ j - 1 by omega) (by omega)
  have h2 := sorted_get h (show j - 1 ≤ j by omega) hj'
  omega
theorem compact_mem {l : List Int} {x : Int} : x ∈ Go.Lib.compact l ↔ x ∈ l := by
  unfold Go.Lib.compact Go.Lib.compactUpTo
  simp only [List.mem_map, List.mem_filter, List.mem_range]
  constructor
  · rintro ⟨i, ⟨hi, _⟩, rfl⟩
    rw [cmp_get hi]
    exact getD_mem hi
  · intro hx
    obtain ⟨i, hi, rfl⟩ := List.getElem_of_mem hx
    have key : ∀ n i, i ≤ n → (hi : i < l.length) → ∃ j, (j < l.length ∧ Go.Lib.keeps l.toArray j = true) ∧ l.toArray[j]! = l[i] := by
      intro n
      induction n with
      | zero =>
        intro i h0 hi
        obtain rfl : i = 0 := by omega
        exact ⟨0, ⟨hi, by simp [Go.Lib.keeps]⟩, by simp [hi]⟩
      | succ n ih =>
        intro i h0 hi
        by_cases hk : Go.Lib.keeps l.toArray i = true
        · exact ⟨i, ⟨hi, hk⟩, by simp [hi]⟩
        · have h1 : ¬ (i = 0 ∨ l.toArray[i]! ≠ l.toArray[i - 1]!) := by
            intro q
            exact hk (by unfold Go.Lib.keeps; rw [decide_eq_true_eq]; exact q)
          have h2 : i ≠ 0 := fun q => h1 (.inl q)
          have h3 : l.toArray[i]! = l.toArray[i - 1]! := by
            by_cases q : l.toArray[i]! = l.toArray[i - 1]!
            · exact q
            · exact absurd (.inr q) h1
          obtain ⟨j, h4, h5⟩ := ih (i - 1) (by omega) (by omega)
          refine ⟨j, h4, ?_⟩
          rw [h5]
          have e1 : l.toArray[i]! = l[i] := by simp [hi]
          have e2 : l.toArray[i - 1]! = l[i - 1] := by simp [(show i - 1 < l.length by omega)]
          rw [← e1, h3, e2]
    exact key i i (Nat.le_refl _) hi
theorem filtL_asc {p : Nat → Bool} {n : Nat} : (filtL p n).Pairwise (· < ·) := by
  unfold filtL
  rw [List.pairwise_map]
  refine ((List.pairwise_lt_range (n := n)).filter p).imp ?_
  intro a b h
  omega
theorem mem_filtL {p : Nat → Bool} {n : Nat} {x : Int} : x ∈ filtL p n ↔ 0 ≤ x ∧ x < (n : Int) ∧ p x.toNat = true := by
  unfold filtL
  simp only [List.mem_map, List.mem_filter, List.mem_range]
  constructor
  · rintro ⟨i, ⟨hi, hp⟩, rfl⟩
    exact ⟨by omega, by omega, by simpa using hp⟩
  · rintro ⟨h0, h1, hp⟩
    exact ⟨x.toNat, ⟨by omega, hp⟩, by omega⟩
def whereL (c : Channel) (k i : Nat) : List Int := filtL (fun x => (LL c).any fun l => onB c k l && decide (l.getD i (-1) = (x : Int))) c.cells.toNat
theorem lev_iff {c : Channel} (r : Right c) {L : List (List State)} (hL : Levs c L) {k : Nat} (hk : (k : Int) ≤ c.tides) {s : State} : s ∈ L.getD k [] ↔ ∃ l ∈ LL c, s = stL k l ∧ onB c k l = true := by
  have hc := r.cells
  rw [hL.mem k hk]
  constructor
  · intro h
    obtain ⟨v1, v2⟩ := on_V r k hk s h
    obtain ⟨l, hl, rfl⟩ := stL_of r v1 v2
    exact ⟨l, hl, rfl, (on_iff r k hk l ((mem_LL (by omega)).1 hl)).1 h⟩
  · rintro ⟨l, hl, rfl, h⟩
    exact (on_iff r k hk l ((mem_LL (by omega)).1 hl)).2 h
theorem levs_ix {c : Channel} (r : Right c) {L : List (List State)} (hL : Levs c L) {k : Int} (h0 : 0 ≤ k) (hk : k ≤ c.tides) : ix L k = some (L.getD k.toNat []) := ix_eq [] h0 (by have := hL.len; omega)
theorem whereL_prog {c : Channel} (r : Right c) {L : List (List State)} (hL : Levs c L) {k i : Nat} (hk : (k : Int) ≤ c.tides) (hi : i < c.fords.length) : Go.Lib.compact (sortI ((L.getD k []).map fun s => cGet s.at_ i)) = whereL c k i := by
  have hc := r.cells
  have hf := r.fords
  refine asc_ext (compact_asc (sortI_sorted _)) filtL_asc (fun x => ?_)
  rw [compact_mem, mem_sortI, List.mem_map]
  unfold whereL
  rw [mem_filtL, List.any_eq_true]
  constructor
  · rintro ⟨s, hs, rfl⟩
    obtain ⟨l, hl, rfl, ho⟩ := (lev_iff r hL hk).1 hs
    have hr := rowB_iff.1 ((mem_LL (by omega)).1 hl)
    have e : cGet (stL k l).at_ i = l.getD i (-1) := cGet_mk (by omega)
    have hm := hr.2.2 _ (getD_mem (l := l) (i := i) (d := -1) (by omega))
    rw [e]
    refine ⟨hm.1, by omega, l, hl, ?_⟩
    rw [ho, Bool.true_and, decide_eq_true_eq]
    omega
  · rintro ⟨h0, h1, l, hl, h⟩
    rw [Bool.and_eq_true, decide_eq_true_eq] at h
    refine ⟨stL k l, (lev_iff r hL hk).2 ⟨l, hl, rfl, h.1⟩, ?_⟩
    rw [show cGet (stL k l).at_ i = l.getD i (-1) from cGet_mk (by omega), h.2]
    omega
theorem any_li {c : Channel} (p : List Int → Bool) : ((List.range (LL c).length).any fun a => p (li c a)) = (LL c).any p := any_range
theorem rows_ix {c : Channel} {k : Nat} (hk : (k : Int) ≤ c.tides) (h0 : 0 ≤ c.tides) : ix ((List.range (c.tides.toNat + 1)).map (onRow c)) (k : Int) = some (onRow c k) := range_ix (by omega)
theorem onRow_ix {c : Channel} {k a : Nat} (ha : a < (LL c).length) : ix (onRow c k) (a : Int) = some (onB c k (li c a)) := by unfold onRow; rw [range_ix ha]
theorem Y9 {c : Channel} (r : Right c) {k i : Nat} (hk : (k : Int) ≤ c.tides) (hi : i < c.fords.length) : yo c (k : Int) (i : Int) = some (whereL c k i) := by
  have hc := r.cells
  have hf := r.fords
  have ht := r.tides
  have hLL := LL_len r
  unfold yo
  rw [Q8 r, Option.bind_some, jbp r, Option.bind_some]
  have inner : ∀ (x : Nat) (out : List Int), iterM FU (ql (LL c) ((List.range (c.tides.toNat + 1)).map (onRow c)) (k : Int) (i : Int) ⟨(x : Int), out⟩) ⟨false, 0⟩ = some ((LL c).any fun l => onB c k l && decide (l.getD i (-1) = (x : Int))) := by
    intro x out
    have key := iterM_run (f := ql (LL c) ((List.range (c.tides.toNat + 1)).map (onRow c)) (k : Int) (i : Int) ⟨(x : Int), out⟩) (fun a => ⟨(List.range a).any fun a => onB c k (li c a) && decide ((li c a).getD i (-1) = (x : Int)), (a : Int)⟩) (LL c).length (b := (LL c).any fun l => onB c k l && decide (l.getD i (-1) = (x : Int))) (fun a ha => ?_) ?_ FU (FU_lt (by omega))
    · exact key
    · have hr := rowB_iff.1 (li_row r ha)
      have hxa : (LL c).getD a [] = li c a := rfl
      unfold ql
      simp only
      rw [if_pos (by omega), List.range_succ (n := a), List.any_append]
      cases (List.range a).any fun a => onB c k (li c a) && decide ((li c a).getD i (-1) = (x : Int)) with
      | true => rw [if_pos rfl, Option.bind_some, addc_eq (by omega), Option.bind_some]; rfl
      | false =>
        rw [if_neg (by decide), rows_ix hk ht.1, Option.bind_some, onRow_ix ha, Option.bind_some, Bool.false_or]
        simp only [List.any_cons, List.any_nil, Bool.or_false]
        cases onB c k (li c a) with
        | true => rw [if_pos rfl, ix_nat [] ha, Option.bind_some, hxa, ix_nat (-1) (by omega), Option.bind_some, Option.bind_some, addc_eq (by omega), Option.bind_some]; rfl
        | false => rw [if_neg (by decide), Option.bind_some, addc_eq (by omega), Option.bind_some]; rfl
    · unfold ql
      simp only
      rw [if_neg (by omega), any_li (fun l => onB c k l && decide (l.getD i (-1) = (x : Int)))]
  have key := iterM_run (f := qs c (LL c) ((List.range (c.tides.toNat + 1)).map (onRow c)) (k : Int) (i : Int)) (fun x => ⟨(x : Int), filtL (fun x => (LL c).any fun l => onB c k l && decide (l.getD i (-1) = (x : Int))) x⟩) c.cells.toNat (b := whereL c k i) (fun x hx => ?_) ?_ FU (FU_lt (by omega))
  · show (iterM FU (qs c (LL c) ((List.range (c.tides.toNat + 1)).map (onRow c)) (k : Int) (i : Int)) ⟨((0 : Nat) : Int), filtL (fun x => (LL c).any fun l => onB c k l && decide (l.getD i (-1) = (x : Int))) 0⟩).bind _ = _
    rw [key]; rfl
  · unfold qs
    have hfl := filtL_len (p := fun x => (LL c).any fun l => onB c k l && decide (l.getD i (-1) = (x : Int))) (k := x)
    simp only
    rw [if_pos (by omega), inner x _, Option.bind_some, filtL_succ]
    cases ((LL c).any fun l => onB c k l && decide (l.getD i (-1) = (x : Int))) with
    | true => rw [if_pos rfl, if_pos rfl, appc_eq (by rw [List.length_singleton]; omega), Option.bind_some, Option.bind_some, addc_eq (by omega), Option.bind_some]; rfl
    | false => rw [if_neg (by decide), if_neg (by decide), Option.bind_some, addc_eq (by omega), Option.bind_some]; rfl
  · unfold qs
    simp only
    rw [if_neg (by omega)]
    rfl
end Go.Proofs.Wb

namespace Go.Proofs.Wb
open Go Go.Fw Go.Gx Go.Sb
set_option maxRecDepth 100000
theorem awake_true : y9 = some true := by decide +kernel
end Go.Proofs.Wb

namespace Go.Proofs.Wb
open Go Go.Fw Go.Gx Go.Sb
set_option linter.unusedVariables false
set_option maxRecDepth 100000
theorem ja5 {c : Channel} (h : Few c) (s : Sight) : yk c s = some { c with sights := c.sights ++ [s] } := by
  obtain ⟨h1, h2, h3⟩ := h
  unfold yk k5
  rw [Zv (by omega), Option.bind_some, appc_eq (by simp; omega), Option.bind_some, Option.bind_some, addc_eq (by omega), Option.bind_some, makec_eq (by omega), Option.bind_some, if_pos (by simp), Option.bind_some]
  have e : (List.replicate (c.sights.length : Int).toNat (⟨0, 0, false⟩ : Sight)).drop c.sights.length = [] := List.drop_eq_nil_of_le (by simp)
  rw [e, List.append_nil, appc_eq (by simp; omega), Option.bind_some]
  rfl
theorem jbc (c : Channel) : zb c = some (decide (10 < c.fords.length ∨ 10 < c.sands.length ∨ 14 < c.sights.length)) := by
  unfold zb
  by_cases h1 : 10 < c.fords.length
  · rw [if_pos (by omega), Option.bind_some, decide_eq_true (.inl h1)]
  · rw [if_neg (by omega)]
    by_cases h2 : 10 < c.sands.length
    · rw [if_pos (by omega), Option.bind_some, decide_eq_true (.inr (.inl h2))]
    · rw [if_neg (by omega), Option.bind_some]
      congr 1
      rw [Bool.eq_iff_iff, decide_eq_true_eq, decide_eq_true_eq]
      omega
theorem few_of {c : Channel} (h : ¬ (10 < c.fords.length ∨ 10 < c.sands.length ∨ 14 < c.sights.length)) : Few c := ⟨by omega, by omega, by omega⟩
end Go.Proofs.Wb

namespace Go.Proofs.Wb
open Go Go.Fw Go.Gx Go.Sb
set_option linter.unusedVariables false
set_option maxRecDepth 100000
def WideP (c : Channel) : Prop := (10 < c.fords.length ∨ 10 < c.sands.length ∨ 14 < c.sights.length) ∨ c.fords.length = 3 ∨ (8 < c.cells ∧ c.cells ≤ 10)
instance (c : Channel) : Decidable (WideP c) := by unfold WideP; infer_instance
theorem jbk (c : Channel) : zB c = some (decide (WideP c)) := by
  unfold zB
  rw [jbc, Option.bind_some]
  by_cases h1 : 10 < c.fords.length ∨ 10 < c.sands.length ∨ 14 < c.sights.length
  · rw [if_pos (by simpa using h1), Option.bind_some, decide_eq_true (p := WideP c) (.inl h1)]
  · rw [if_neg (by simpa using h1)]
    by_cases h2 : c.fords.length = 3
    · rw [if_pos (by omega), Option.bind_some, decide_eq_true (p := WideP c) (.inr (.inl h2))]
    · rw [if_neg (by omega)]
      by_cases h3 : 8 < c.cells
      · rw [if_pos h3, Option.bind_some]
        congr 1
        rw [Bool.eq_iff_iff, decide_eq_true_eq, decide_eq_true_eq]
        unfold WideP
        omega
      · rw [if_neg h3, Option.bind_some]
        congr 1
        symm
        rw [decide_eq_false_iff_not]
        unfold WideP
        omega
theorem few_wide {c : Channel} (h : ¬ WideP c) : Few c := few_of (fun q => h (.inl q))
theorem offB (x hi : Int) : ((if x < 0 then (some true) else (some (decide (hi ≤ x)))) : Option Bool) = some (!inb x 0 (hi - 1)) := by
  unfold inb
  by_cases hq : x < 0
  · rw [if_pos hq]
    congr 1
    rw [Bool.eq_iff_iff]; simp; omega
  · rw [if_neg hq]
    congr 1
    rw [Bool.eq_iff_iff]; simp; omega
theorem ZE {c : Channel} (r : Right c) : jS c = some ((2 ^ c.sights.length - 1 : Nat) : Int) := QB (by have := r.sights; omega)
theorem Z3 {c : Channel} (r : Right c) : qD c ((2 ^ c.sights.length - 1 : Nat) : Int) = some (cntS tt c : Int) := by rw [Zj r (all_small r), cntS_all]
theorem filtL_short {p : Nat → Bool} {c : Channel} (hc : c.cells ≤ 10) : (filtL p c.cells.toNat).length < 1000000 := by
  have := filtL_len (p := p) (k := c.cells.toNat)
  omega
end Go.Proofs.Wb

namespace Go.Proofs.Wb
open Go Go.Fw Go.Gx Go.Sb
set_option linter.unusedVariables false
set_option maxRecDepth 100000
def knownC (c : Channel) (s : Sight) : Channel := { c with sights := c.sights ++ [s] }
theorem agP_snoc {sg : List Sight} {s : Sight} {k : Int} {l : List Int} : agP tt (sg ++ [s]) k l = (agP tt sg k l && !offS k l s) := by
  unfold agP
  rw [List.length_append, List.length_singleton, List.range_succ, List.any_append]
  have e1 : ((List.range sg.length).any fun i => tt i && offS k l ((sg ++ [s]).getD i default)) = (List.range sg.length).any fun i => tt i && offS k l (sg.getD i default) := by
    rw [Bool.eq_iff_iff, List.any_eq_true, List.any_eq_true]
    constructor
    · rintro ⟨i, hi, h⟩
      have hi' : i < sg.length := by simpa using hi
      refine ⟨i, hi, ?_⟩
      rw [List.getD_eq_getElem?_getD, List.getElem?_append_left hi', ← List.getD_eq_getElem?_getD] at h
      exact h
    · rintro ⟨i, hi, h⟩
      have hi' : i < sg.length := by simpa using hi
      refine ⟨i, hi, ?_⟩
      rw [List.getD_eq_getElem?_getD, List.getElem?_append_left hi', ← List.getD_eq_getElem?_getD]
      exact h
  rw [e1]
  simp [Bool.not_or]
theorem FcL_known {c : Channel} {s : Sight} : ∀ (k : Nat) (l : List Int), (k : Int) < s.after → FcL tt (knownC c s) k l = FcL tt c k l
  | 0, l, h => by
    have e : agP tt (knownC c s).sights 0 l = agP tt c.sights 0 l := by
      show agP tt (c.sights ++ [s]) 0 l = _
      rw [agP_snoc]
      have : offS 0 l s = false := by unfold offS; rw [decide_eq_false (by omega)]; rfl
      rw [this]; simp
    rw [FcL, FcL, e]; rfl
  | k + 1, l, h => by
    have e : agP tt (knownC c s).sights ((k + 1 : Nat) : Int) l = agP tt c.sights ((k + 1 : Nat) : Int) l := by
      show agP tt (c.sights ++ [s]) _ l = _
      rw [agP_snoc]
      have : offS ((k + 1 : Nat) : Int) l s = false := by unfold offS; rw [decide_eq_false (by omega)]; rfl
      rw [this]; simp
    rw [FcL, FcL, e]
    congr 1
    show sumN (LL c) _ = _
    refine sumN_congr fun a _ => ?_
    rw [FcL_known k a (by omega)]
    rfl
theorem FcL_knownT {c : Channel} {s : Sight} {k : Nat} {l : List Int} (h : s.after = (k : Int)) : FcL tt (knownC c s) k l = if offS (k : Int) l s = true then 0 else FcL tt c k l := by
  have e : agP tt (knownC c s).sights (k : Int) l = (agP tt c.sights (k : Int) l && !offS (k : Int) l s) := agP_snoc
  cases ho : offS (k : Int) l s with
  | true =>
    rw [if_pos rfl, FcL_ag]
    rw [e, ho]
    simp
  | false =>
    rw [if_neg (by decide)]
    rw [ho, Bool.not_false, Bool.and_true] at e
    cases k with
    | zero =>
      rw [FcL, FcL]
      have e' : agP tt (knownC c s).sights 0 l = agP tt c.sights 0 l := e
      rw [e']; rfl
    | succ k =>
      rw [FcL, FcL, e]
      congr 1
      show sumN (LL c) _ = _
      refine sumN_congr fun a _ => ?_
      rw [FcL_known k a (by omega)]
      rfl
theorem cntS_sum {cnt : Nat → Bool} {c : Channel} (r : Right c) : cntS cnt c = sumN (LL c) (FcL cnt c c.tides.toNat) := by
  have hc := r.cells
  have h := FcL_sum (cnt := cnt) r c.tides.toNat 0
  unfold cntS
  rw [Nat.add_zero] at h
  rw [← h]
  refine sumN_congr fun l hl => ?_
  rw [R, agS_stL r ((mem_LL (by omega)).1 hl)]
  by_cases hag : agP cnt c.sights ((c.tides.toNat : Nat) : Int) l = true
  · rw [if_pos hag, Nat.mul_one]
  · rw [if_neg hag, Nat.mul_zero, FcL_ag hag]
theorem right_known {c : Channel} (r : Right c) (hs : c.sights.length ≤ 8) {s : Sight} (ha : 0 ≤ s.after ∧ s.after ≤ c.tides) (hx : 0 ≤ s.cell ∧ s.cell < c.cells) : Right (knownC c s) where
  cells := r.cells
  tides := r.tides
  fords := r.fords
  sands := r.sands
  sights := by show (c.sights ++ [s]).length ≤ 20; simp; omega
  reach := r.reach
  after := by
    intro t ht
    have ht' : t ∈ c.sights ++ [s] := ht
    rcases List.mem_append.1 ht' with h | h
    · exact r.after t h
    · rw [List.mem_singleton] at h; rw [h]; exact ha
  fcell := r.fcell
  span := r.span
  scell := by
    intro t ht
    have ht' : t ∈ c.sights ++ [s] := ht
    rcases List.mem_append.1 ht' with h | h
    · exact r.scell t h
    · rw [List.mem_singleton] at h; rw [h]; exact hx
  up := r.up
def yesC (c : Channel) (x : Nat) : Nat := sumN (LL c) fun l => if decide ((x : Int) ∈ l) = true then FcL tt c c.tides.toNat l else 0
theorem yes_known {c : Channel} (r : Right c) (hs : c.sights.length ≤ 8) {x : Nat} (hx : (x : Int) < c.cells) : cntS tt (knownC c ⟨c.tides, (x : Int), true⟩) = yesC c x := by
  have ht := r.tides
  rw [cntS_sum (right_known r hs ⟨ht.1, Int.le_refl _⟩ ⟨by simp only; omega, hx⟩)]
  show sumN (LL c) (FcL tt (knownC c ⟨c.tides, (x : Int), true⟩) c.tides.toNat) = _
  unfold yesC
  refine sumN_congr fun l _ => ?_
  rw [FcL_knownT (by simp only; omega)]
  unfold offS
  rw [decide_eq_true (by simp only; omega), Bool.true_and]
  cases decide ((x : Int) ∈ l) <;> rfl
theorem sumN_le {α : Type} {l : List α} {f g : α → Nat} (h : ∀ x ∈ l, f x ≤ g x) : sumN l f ≤ sumN l g := by
  induction l with
  | nil => exact Nat.le_refl _
  | cons x l ih =>
    rw [sumN_cons, sumN_cons]
    have h1 := h x List.mem_cons_self
    have h2 := ih (fun y hy => h y (List.mem_cons_of_mem _ hy))
    omega
theorem yes_le {c : Channel} (r : Right c) (x : Nat) : yesC c x ≤ cntS tt c := by
  rw [cntS_sum r]
  refine sumN_le fun l _ => ?_
  split
  · exact Nat.le_refl _
  · exact Nat.zero_le _
theorem cntS_bnd {c : Channel} (r : Right c) : cntS tt c ≤ 1000000000000000 := by
  have ht := r.tides
  rw [cntS_sum r, sumN_li]
  have h := sumN_range_le (fun i => FcL tt c c.tides.toNat (li c i)) 1000000000000 (LL c).length (fun i => FcL_bnd r (by omega) _)
  have h2 := Nat.mul_le_mul_right 1000000000000 (LL_len r)
  omega
def mostC (c : Channel) (x : Nat) : Int := max (yesC c x : Int) ((cntS tt c : Int) - (yesC c x : Int))
def askR (c : Channel) : Nat → Int × Int
  | 0 => ((cntS tt c : Int) + 1, 0)
  | x + 1 => if mostC c x < (askR c x).1 then (mostC c x, (x : Int)) else askR c x
theorem jaS {c : Channel} (h : Few c) : zJ c = some (if chk c = 0 then ⟨(cntS tt c : Int), 0⟩ else ⟨0, chk c⟩) := ja7 h
theorem jbD {c : Channel} (h : Few c) : KE c = some (if chk c = 0 then (if cntS tt c = 0 then ⟨⟨0, 0, false⟩, 0, 7⟩ else if cntS tt c = 1 then ⟨⟨0, 0, false⟩, 0, 6⟩ else ⟨⟨c.tides, (askR c c.cells.toNat).2, true⟩, (askR c c.cells.toNat).1, 0⟩) else ⟨⟨0, 0, false⟩, 0, chk c⟩) := by
  unfold KE
  rw [jaS h, Option.bind_some]
  by_cases h0 : chk c = 0
  · have r := rightOf h0
    have hc := r.cells
    have hs : c.sights.length ≤ 8 := by
      have h1 : okMany c = true := by
        cases hq : okMany c with
        | true => rfl
        | false => unfold chk at h0; rw [hq, if_neg (by decide)] at h0; exact absurd h0 (by decide)
      exact (okMany_iff.1 h1).2.2.2.2
    have hb := cntS_bnd r
    rw [if_pos h0, if_pos h0]
    dsimp only
    rw [if_pos rfl]
    by_cases h1 : cntS tt c = 0
    · rw [if_pos (show ((cntS tt c : Nat) : Int) = 0 by omega), if_pos h1]
    · rw [if_neg (show ¬ ((cntS tt c : Nat) : Int) = 0 by omega), if_neg h1]
      by_cases h2 : cntS tt c = 1
      · rw [if_pos (show ((cntS tt c : Nat) : Int) = 1 by omega), if_pos h2]
      · rw [if_neg (show ¬ ((cntS tt c : Nat) : Int) = 1 by omega), if_neg h2]
        rw [addc_eq (by omega), Option.bind_some]
        have key := iterM_run (f := z6 c ⟨(cntS tt c : Int), 0⟩) (fun x => ⟨(askR c x).1, (x : Int), if x = 0 then 0 else c.tides, (askR c x).2, decide (x ≠ 0)⟩) c.cells.toNat (b := ⟨(askR c c.cells.toNat).1, c.tides, (askR c c.cells.toNat).2, true⟩) (fun x hx => ?_) ?_ FU (FU_lt (by omega))
        · show (iterM FU (z6 c ⟨(cntS tt c : Int), 0⟩) ⟨(askR c 0).1, ((0 : Nat) : Int), if (0 : Nat) = 0 then 0 else c.tides, (askR c 0).2, decide ((0 : Nat) ≠ 0)⟩).bind _ = _
          rw [key]; rfl
        · unfold z6
          simp only
          have hy := yes_le r x
          have hcnt : kU (knownC c ⟨c.tides, (x : Int), true⟩).cells (knownC c ⟨c.tides, (x : Int), true⟩).tides (knownC c ⟨c.tides, (x : Int), true⟩).fords (knownC c ⟨c.tides, (x : Int), true⟩).sands (knownC c ⟨c.tides, (x : Int), true⟩).sights (rchL (knownC c ⟨c.tides, (x : Int), true⟩)) = some (yesC c x : Int) := by
            rw [Z9 (right_known r hs ⟨r.tides.1, Int.le_refl _⟩ ⟨by simp only; omega, by simp only; omega⟩), yes_known r hs (by omega)]
          rw [if_pos (by omega), ja5 h, Option.bind_some, Zz r, Option.bind_some]
          show (((kU (knownC c ⟨c.tides, (x : Int), true⟩).cells (knownC c ⟨c.tides, (x : Int), true⟩).tides (knownC c ⟨c.tides, (x : Int), true⟩).fords (knownC c ⟨c.tides, (x : Int), true⟩).sands (knownC c ⟨c.tides, (x : Int), true⟩).sights (rchL (knownC c ⟨c.tides, (x : Int), true⟩))).bind _).bind _) = _
          rw [hcnt, Option.bind_some, subc_eq (by omega), Option.bind_some]
          have e : (askR c (x + 1)) = if mostC c x < (askR c x).1 then (mostC c x, (x : Int)) else askR c x := rfl
          rw [e]
          show ((if mostC c x < (askR c x).1 then some (⟨mostC c x, c.tides, (x : Int), true⟩ : QD) else some ⟨(askR c x).1, if x = 0 then 0 else c.tides, (askR c x).2, decide (x ≠ 0)⟩).bind _) = _
          by_cases h3 : mostC c x < (askR c x).1
          · rw [if_pos h3, if_pos h3, Option.bind_some, addc_eq (by omega), Option.bind_some, if_neg (by omega)]
            simp
          · rw [if_neg h3, if_neg h3, Option.bind_some, addc_eq (by omega), Option.bind_some, if_neg (show ¬ x + 1 = 0 by omega)]
            have hx0 : x ≠ 0 := by
              rintro rfl
              apply h3
              unfold mostC askR
              omega
            rw [if_neg hx0]
            simp [hx0]
        · unfold z6
          simp only
          rw [if_neg (by omega), if_neg (by omega)]
          simp
          omega
  · rw [if_neg h0, if_neg h0, if_neg h0]
theorem jaF {c : Channel} (r : Right c) : zZ c = some ⟨(askR c c.cells.toNat).2, (askR c c.cells.toNat).1⟩ := by
  have hc := r.cells
  have hf := r.fords
  have ht := r.tides
  have hs := r.sights
  have hLL := LL_len r
  have hb := cntS_bnd r
  have hbb := fun i => FcL_bnd (cnt := tt) r (show c.tides.toNat ≤ 4 by omega) (li c i)
  unfold zZ
  rw [Q8 r, Option.bind_some, QB (by omega), Option.bind_some, ZR r (all_small r), Option.bind_some, Option.bind_some, Zj r (all_small r), Option.bind_some, cntS_all, addc_eq (by omega), Option.bind_some]
  have hrow : ix ((List.range (c.tides.toNat + 1)).map (rowZ (bitN (2 ^ c.sights.length - 1)) c)) c.tides = some (rowZ (bitN (2 ^ c.sights.length - 1)) c c.tides.toNat) := by
    have h := range_ix (f := rowZ (bitN (2 ^ c.sights.length - 1)) c) (n := c.tides.toNat + 1) (i := c.tides.toNat) (by omega)
    rw [show ((c.tides.toNat : Nat) : Int) = c.tides by omega] at h
    exact h
  have inner : ∀ (x : Nat) (s : ya), s.x9 = (x : Int) → iterM FU (yb (LL c) s ((List.range (c.tides.toNat + 1)).map (rowZ (bitN (2 ^ c.sights.length - 1)) c)) c) ⟨0, 0⟩ = some (yesC c x : Int) := by
    intro x s hsx
    have key := iterM_run (f := yb (LL c) s ((List.range (c.tides.toNat + 1)).map (rowZ (bitN (2 ^ c.sights.length - 1)) c)) c) (fun a => ⟨((sumN (List.range a) fun i => if decide ((x : Int) ∈ li c i) = true then FcL tt c c.tides.toNat (li c i) else 0 : Nat) : Int), (a : Int)⟩) (LL c).length (b := (yesC c x : Int)) (fun a ha => ?_) ?_ FU (FU_lt (by omega))
    · exact key
    · have hr := rowB_iff.1 (li_row r ha)
      have hxa : (LL c).getD a [] = li c a := rfl
      have hzi : ix (rowZ (bitN (2 ^ c.sights.length - 1)) c c.tides.toNat) (a : Int) = some (FcL tt c c.tides.toNat (li c a) : Int) := by unfold rowZ; rw [range_ix ha, FcL_all]
      have hsum := sumN_range_le (fun i => if decide ((x : Int) ∈ li c i) = true then FcL tt c c.tides.toNat (li c i) else 0) 1000000000000 a (fun i => by
        split
        · exact hbb i
        · omega)
      have hm := Nat.mul_le_mul_right 1000000000000 (show a ≤ 1000 by omega)
      have hba := hbb a
      unfold yb
      simp only
      rw [if_pos (by omega), ix_nat [] ha, Option.bind_some, hxa, hsx, jag (by omega), Option.bind_some, sumN_range_succ]
      cases decide ((x : Int) ∈ li c a) with
      | true =>
        rw [if_pos rfl, if_pos rfl, hrow, Option.bind_some, hzi, Option.bind_some, addc_eq (by omega), Option.bind_some, Option.bind_some, addc_eq (by omega), Option.bind_some]
        congr 3
      | false =>
        rw [if_neg (by decide), if_neg (by decide), Option.bind_some, addc_eq (by omega), Option.bind_some]
        congr 3
    · unfold yb
      simp only
      rw [if_neg (by omega)]
      unfold yesC
      rw [sumN_li]
  have key := iterM_run (f := q9 c (LL c) ((List.range (c.tides.toNat + 1)).map (rowZ (bitN (2 ^ c.sights.length - 1)) c)) (cntS tt c : Int)) (fun x => ⟨(askR c x).2, (askR c x).1, (x : Int)⟩) c.cells.toNat (b := ⟨(askR c c.cells.toNat).2, (askR c c.cells.toNat).1⟩) (fun x hx => ?_) ?_ FU (FU_lt (by omega))
  · show (iterM FU (q9 c (LL c) ((List.range (c.tides.toNat + 1)).map (rowZ (bitN (2 ^ c.sights.length - 1)) c)) (cntS tt c : Int)) ⟨(askR c 0).2, (askR c 0).1, ((0 : Nat) : Int)⟩).bind _ = _
    rw [key]; rfl
  · have hy := yes_le r x
    unfold q9
    simp only
    rw [if_pos (by omega), inner x _ rfl, Option.bind_some, subc_eq (by omega), Option.bind_some]
    have e : (askR c (x + 1)) = if mostC c x < (askR c x).1 then (mostC c x, (x : Int)) else askR c x := rfl
    rw [e]
    show ((if mostC c x < (askR c x).1 then some (⟨(x : Int), mostC c x⟩ : Kj) else some ⟨(askR c x).2, (askR c x).1⟩).bind _) = _
    by_cases h3 : mostC c x < (askR c x).1
    · rw [if_pos h3, if_pos h3, Option.bind_some, addc_eq (by omega), Option.bind_some]; rfl
    · rw [if_neg h3, if_neg h3, Option.bind_some, addc_eq (by omega), Option.bind_some]; rfl
  · unfold q9
    simp only
    rw [if_neg (by omega)]
end Go.Proofs.Wb

namespace Go.Proofs.Wb
open Go Go.Fw Go.Gx Go.Sb
set_option linter.unusedVariables false
set_option maxRecDepth 100000
theorem mem_whereL {c : Channel} (r : Right c) {L : List (List State)} (hL : Levs c L) {k i : Nat} (hk : (k : Int) ≤ c.tides) (hi : i < c.fords.length) {x : Int} : x ∈ whereL c k i ↔ ∃ s ∈ L.getD k [], cGet s.at_ i = x := by
  rw [← whereL_prog r hL hk hi, compact_mem, mem_sortI, List.mem_map]
theorem last_on {c : Channel} (r : Right c) (h : cntS tt c ≠ 0) : ∃ l ∈ LL c, onB c c.tides.toNat l = true := by
  have hc := r.cells
  rw [cntS_sum r] at h
  obtain ⟨l, hl, h2⟩ := sumN_pos.1 (Nat.pos_of_ne_zero h)
  refine ⟨l, hl, ?_⟩
  unfold onB
  rw [decide_eq_true h2, Nat.sub_self, R, agS_stL r ((mem_LL (by omega)).1 hl), if_pos (FcL_pos_ag h2)]
  rfl
theorem lev_ne {c : Channel} (r : Right c) {L : List (List State)} (hL : Levs c L) (h : cntS tt c ≠ 0) : L.getD c.tides.toNat [] ≠ [] := by
  have ht := r.tides
  obtain ⟨l, hl, ho⟩ := last_on r h
  have := (lev_iff r hL (show ((c.tides.toNat : Nat) : Int) ≤ c.tides by omega)).2 ⟨l, hl, rfl, ho⟩
  intro q
  rw [q] at this
  exact absurd this (by simp)
def cntF (l : List State) (i : Nat) (f : Int) : Nat := (l.filter fun s => decide (cGet s.at_ i = f)).length
theorem cntF_le (l : List State) (i : Nat) (f : Int) : cntF l i f ≤ l.length := List.length_filter_le _ _
theorem cntF_zero {l : List State} {i : Nat} {f : Int} : cntF l i f = 0 ↔ ¬ ∃ s ∈ l, cGet s.at_ i = f := by
  unfold cntF
  rw [List.length_eq_zero_iff, List.filter_eq_nil_iff]
  simp
theorem cntF_all {l : List State} {i : Nat} {f : Int} : cntF l i f = l.length ↔ ∀ s ∈ l, cGet s.at_ i = f := by
  unfold cntF
  rw [List.length_filter_eq_length_iff]
  simp
theorem asc_one {l : List Int} (h : l.Pairwise (· < ·)) {f : Int} (hf : f ∈ l) : l.length = 1 ↔ ∀ x ∈ l, x = f := by
  constructor
  · intro h1 x hx
    obtain ⟨a, rfl⟩ := List.length_eq_one_iff.1 h1
    simp only [List.mem_singleton] at hf hx
    omega
  · intro h1
    cases l with
    | nil => exact absurd hf (by simp)
    | cons a l =>
      cases l with
      | nil => rfl
      | cons b l =>
        have h2 := h1 a (by simp)
        have h3 := h1 b (by simp)
        have h4 := (List.pairwise_cons.1 h).1 b (by simp)
        omega
def fateI (c : Channel) (i : Nat) : Int := if c.fords.getD i 0 ∈ whereL c c.tides.toNat i then (if (whereL c c.tides.toNat i).length = 1 then 1 else 0) else 2
theorem fate_prog {c : Channel} (r : Right c) {L : List (List State)} (hL : Levs c L) {i : Nat} (hi : i < c.fords.length) (hn : L.getD c.tides.toNat [] ≠ []) : (if cntF (L.getD c.tides.toNat []) i (c.fords.getD i 0) = 0 then (2 : Int) else if cntF (L.getD c.tides.toNat []) i (c.fords.getD i 0) = (L.getD c.tides.toNat []).length then 1 else 0) = fateI c i := by
  have ht := r.tides
  have hm := fun x => mem_whereL r hL (k := c.tides.toNat) (i := i) (x := x) (by omega) hi
  have hs : (whereL c c.tides.toNat i).Pairwise (· < ·) := filtL_asc
  unfold fateI
  by_cases h1 : c.fords.getD i 0 ∈ whereL c c.tides.toNat i
  · have h0 : ¬ cntF (L.getD c.tides.toNat []) i (c.fords.getD i 0) = 0 := fun q => cntF_zero.1 q ((hm _).1 h1)
    rw [if_neg h0, if_pos h1]
    have e : (cntF (L.getD c.tides.toNat []) i (c.fords.getD i 0) = (L.getD c.tides.toNat []).length) ↔ (whereL c c.tides.toNat i).length = 1 := by
      rw [cntF_all, asc_one hs h1]
      constructor
      · intro h x hx
        obtain ⟨s, hs, rfl⟩ := (hm x).1 hx
        exact h s hs
      · intro h s hs
        exact h _ ((hm _).2 ⟨s, hs, rfl⟩)
    by_cases h2 : (whereL c c.tides.toNat i).length = 1
    · rw [if_pos h2, if_pos (e.2 h2)]
    · rw [if_neg h2, if_neg (fun q => h2 (e.1 q))]
  · rw [if_neg h1, if_pos (cntF_zero.2 (fun q => h1 ((hm _).2 q)))]
theorem fates_L1 {l : List State} (hl : l.length ≤ 1000000000000) {i : Nat} (hi : i < 3) (o : List Int) (f : Int) : iterM FU (yX l ⟨(i : Int), o⟩ f) ⟨0, 0⟩ = some (cntF l i f : Int) := by
  have key := iterM_run (f := yX l ⟨(i : Int), o⟩ f) (fun j => ⟨(cntF (l.take j) i f : Int), (j : Int)⟩) l.length (b := (cntF l i f : Int)) (fun j hj => ?_) ?_ FU (FU_lt2 (by omega))
  · exact key
  · have e : l.take (j + 1) = l.take j ++ [l[j]] := by rw [List.take_append_getElem]
    have hx : l.getD j default = l[j] := by simp [List.getD_eq_getElem?_getD, hj]
    have hb : cntF (l.take j) i f ≤ l.length := by
      have := cntF_le (l.take j) i f
      rw [List.length_take] at this
      omega
    have e2 : cntF (l.take (j + 1)) i f = cntF (l.take j) i f + if cGet l[j].at_ i = f then 1 else 0 := by
      unfold cntF
      rw [e, List.filter_append, List.length_append, List.filter_cons, List.filter_nil]
      by_cases hq : cGet l[j].at_ i = f
      · simp [hq]
      · simp [hq]
    unfold yX
    simp only
    rw [if_pos (by omega), ix_nat default hj, Option.bind_some, hx, ix3 hi, Option.bind_some, e2]
    by_cases hq : cGet l[j].at_ i = f
    · rw [if_pos hq, if_pos hq, addc_eq (by omega), Option.bind_some, Option.bind_some, addc_eq (by omega), Option.bind_some]; rfl
    · rw [if_neg hq, if_neg hq, Option.bind_some, addc_eq (by omega), Option.bind_some]; rfl
  · unfold yX
    simp only
    rw [if_neg (by omega), List.take_length]
def fatesL (c : Channel) : List Int := (List.range c.fords.length).map (fateI c)
theorem jbd {c : Channel} (h : Few c) : Jq c = some (if chk c = 0 then (if cntS tt c = 0 then ⟨7, []⟩ else ⟨0, fatesL c⟩) else ⟨chk c, []⟩) := by
  unfold Jq
  obtain ⟨L, e, hL⟩ := Ye h
  rw [e, Option.bind_some]
  by_cases h0 : chk c = 0
  · have r := rightOf h0
    have hf := r.fords
    have ht := r.tides
    rw [if_pos h0, if_pos h0]
    by_cases h3 : cntS tt c = 0
    · rw [if_pos h3, if_pos h3, oc_inl]
    · rw [if_neg h3, if_neg h3, oc_inr]
      have hL' := hL h0 h3
      have hlen := hL'.bnd c.tides.toNat (by omega)
      have hn := lev_ne r hL' h3
      have key := iterM_run (f := yY c ⟨c.cells, c.tides, L, rchL c⟩) (fun i => ⟨(i : Int), (List.range i).map (fateI c)⟩) c.fords.length (b := fatesL c) (fun i hi => ?_) ?_ FU (FU_lt (by omega))
      · show (iterM FU (yY c ⟨c.cells, c.tides, L, rchL c⟩) ⟨((0 : Nat) : Int), (List.range 0).map (fateI c)⟩).bind _ = _
        rw [key]; rfl
      · unfold yY
        simp only
        have hfp := fate_prog r hL' hi hn
        have hix := levs_ix r hL' ht.1 (Int.le_refl _)
        have hcl := cntF_le (L.getD c.tides.toNat []) i (c.fords.getD i 0)
        rw [if_pos (by omega), ix_nat 0 hi, Option.bind_some, hix, Option.bind_some, fates_L1 hlen (by omega), Option.bind_some, show (List.range (i + 1)).map (fateI c) = (List.range i).map (fateI c) ++ [fateI c i] by simp [List.range_succ], ← hfp]
        by_cases h1 : cntF (L.getD c.tides.toNat []) i (c.fords.getD i 0) = 0
        · rw [if_pos (by omega), appc_eq (by simp; omega), Option.bind_some, Option.bind_some, addc_eq (by omega), Option.bind_some]
          rw [if_pos h1]
          rfl
        · rw [if_neg (by omega), Option.bind_some]
          by_cases h2 : cntF (L.getD c.tides.toNat []) i (c.fords.getD i 0) = (L.getD c.tides.toNat []).length
          · rw [if_pos (by omega), appc_eq (by simp; omega), Option.bind_some, Option.bind_some, addc_eq (by omega), Option.bind_some]
            rw [if_neg h1, if_pos h2]
            rfl
          · rw [if_neg (by omega), appc_eq (by simp; omega), Option.bind_some, Option.bind_some, addc_eq (by omega), Option.bind_some]
            rw [if_neg h1, if_neg h2]
            rfl
      · unfold yY
        simp only
        rw [if_neg (by omega)]
        rfl
  · rw [if_neg h0, if_neg h0, oc_inl]
theorem jas {c : Channel} (r : Right c) : za c = some (fatesL c) := by
  have hf := r.fords
  have ht := r.tides
  have hc := r.cells
  unfold za
  have key := iterM_run (f := qq c) (fun i => ⟨(i : Int), (List.range i).map (fateI c)⟩) c.fords.length (b := fatesL c) (fun i hi => ?_) ?_ FU (FU_lt (by omega))
  · show (iterM FU (qq c) ⟨((0 : Nat) : Int), (List.range 0).map (fateI c)⟩).bind _ = _
    rw [key]; rfl
  · unfold qq
    have hcell := Y9 r (k := c.tides.toNat) (i := i) (by omega) hi
    rw [show ((c.tides.toNat : Nat) : Int) = c.tides by omega] at hcell
    have hlen : (whereL c c.tides.toNat i).length < 1000000 := filtL_short hc.2
    simp only
    rw [if_pos (by omega), hcell, Option.bind_some, ix_nat 0 hi, Option.bind_some, jag hlen, Option.bind_some, not_true_if, show (List.range (i + 1)).map (fateI c) = (List.range i).map (fateI c) ++ [fateI c i] by simp [List.range_succ]]
    have efi : fateI c i = if c.fords.getD i 0 ∈ whereL c c.tides.toNat i then (if (whereL c c.tides.toNat i).length = 1 then 1 else 0) else 2 := rfl
    rw [efi]
    by_cases h1 : c.fords.getD i 0 ∈ whereL c c.tides.toNat i
    · rw [if_pos (by simpa using h1)]
      by_cases h2 : (whereL c c.tides.toNat i).length = 1
      · rw [if_pos (by omega), Option.bind_some, appc_eq (by simp; omega), Option.bind_some, addc_eq (by omega), Option.bind_some]
        rw [if_pos h1, if_pos h2]
        rfl
      · rw [if_neg (by omega), Option.bind_some, appc_eq (by simp; omega), Option.bind_some, addc_eq (by omega), Option.bind_some]
        rw [if_pos h1, if_neg h2]
        rfl
    · rw [if_neg (by simpa using h1), Option.bind_some, appc_eq (by simp; omega), Option.bind_some, addc_eq (by omega), Option.bind_some]
      rw [if_neg h1]
      rfl
  · unfold qq
    simp only
    rw [if_neg (by omega)]
    rfl
def foMin (d : Int) (l : List Int) : Int := l.foldl min d
def foMax (d : Int) (l : List Int) : Int := l.foldl max d
theorem foMin_spec (d : Int) : ∀ l : List Int, foMin d l ≤ d ∧ (∀ x ∈ l, foMin d l ≤ x) ∧ (foMin d l = d ∨ foMin d l ∈ l) := by
  intro l
  induction l generalizing d with
  | nil => exact ⟨Int.le_refl _, by simp, .inl rfl⟩
  | cons a l ih =>
    obtain ⟨h1, h2, h3⟩ := ih (min d a)
    have e : foMin d (a :: l) = foMin (min d a) l := rfl
    rw [e]
    refine ⟨by omega, fun x hx => ?_, ?_⟩
    · rcases List.mem_cons.1 hx with rfl | hx
      · omega
      · exact h2 x hx
    · rcases h3 with h3 | h3
      · rcases Int.le_total d a with h4 | h4
        · left; rw [h3, Int.min_eq_left h4]
        · right; rw [h3, Int.min_eq_right h4]; simp
      · right; exact List.mem_cons_of_mem _ h3
theorem foMax_spec (d : Int) : ∀ l : List Int, d ≤ foMax d l ∧ (∀ x ∈ l, x ≤ foMax d l) ∧ (foMax d l = d ∨ foMax d l ∈ l) := by
  intro l
  induction l generalizing d with
  | nil => exact ⟨Int.le_refl _, by simp, .inl rfl⟩
  | cons a l ih =>
    obtain ⟨h1, h2, h3⟩ := ih (max d a)
    have e : foMax d (a :: l) = foMax (max d a) l := rfl
    rw [e]
    refine ⟨by omega, fun x hx => ?_, ?_⟩
    · rcases List.mem_cons.1 hx with rfl | hx
      · omega
      · exact h2 x hx
    · rcases h3 with h3 | h3
      · rcases Int.le_total d a with h4 | h4
        · right; rw [h3, Int.max_eq_right h4]; simp
        · left; rw [h3, Int.max_eq_left h4]
      · right; exact List.mem_cons_of_mem _ h3
def loL (l : List Int) : Int := foMin (l.headD 0) l
def hiL (l : List Int) : Int := foMax (l.headD 0) l
theorem loL_spec {l : List Int} (h : l ≠ []) : (∀ x ∈ l, loL l ≤ x) ∧ loL l ∈ l := by
  obtain ⟨h1, h2, h3⟩ := foMin_spec (l.headD 0) l
  refine ⟨h2, ?_⟩
  rcases h3 with h3 | h3
  · unfold loL; rw [h3]
    cases l with
    | nil => exact absurd rfl h
    | cons a l => simp
  · exact h3
theorem hiL_spec {l : List Int} (h : l ≠ []) : (∀ x ∈ l, x ≤ hiL l) ∧ hiL l ∈ l := by
  obtain ⟨h1, h2, h3⟩ := foMax_spec (l.headD 0) l
  refine ⟨h2, ?_⟩
  rcases h3 with h3 | h3
  · unfold hiL; rw [h3]
    cases l with
    | nil => exact absurd rfl h
    | cons a l => simp
  · exact h3
theorem jaV (n x : Int) : Jr n [x] = some (min n x) := by
  unfold Jr
  have key := iterM_run (f := J1 [x]) (fun j => ⟨if j = 0 then n else min n x, (j : Int)⟩) 1 (b := min n x) (fun j hj => ?_) ?_ FU (FU_lt (by omega))
  · show (iterM FU (J1 [x]) ⟨if (0 : Nat) = 0 then n else min n x, ((0 : Nat) : Int)⟩).bind _ = _
    rw [key]; rfl
  · obtain rfl : j = 0 := by omega
    rfl
  · rfl
def shiftV (c : Channel) (i : Nat) (l : List State) : List Int := l.map fun s => cGet s.at_ i - c.fords.getD i 0
theorem ZW {c : Channel} (r : Right c) {s : State} (hs : VS c s) {i : Nat} (hi : i < c.fords.length) : k3 s (i : Int) c.cells c.tides c.fords c.sands c.sights = some (cGet s.at_ i - c.fords.getD i 0) := by
  have hf := r.fords
  have hc := r.cells
  obtain ⟨⟨l, hl, hm⟩, _⟩ := hs
  have hr := rowB_iff.1 hl
  have h1 := hr.2.2 _ (getD_mem (l := l) (i := i) (d := -1) (by omega))
  have h2 := r.fcell _ (getD_mem (l := c.fords) (i := i) (d := 0) hi)
  have e : cGet s.at_ i = l.getD i (-1) := by rw [hm, cGet_mk (by omega)]
  unfold k3
  rw [ix3 (by omega), Option.bind_some, ix_nat 0 hi, Option.bind_some, subc_eq (by omega), Option.bind_some]
theorem spread_fold {c : Channel} (r : Right c) {l : List State} (hl : l.length ≤ 1000000000000) (hV : ∀ s ∈ l, VS c s) (hn : l ≠ []) {i : Nat} (hi : i < c.fords.length) : JT l (i : Int) c.cells c.tides c.fords c.sands c.sights = some ⟨loL (shiftV c i l), hiL (shiftV c i l)⟩ := by
  have hlen : 0 < l.length := List.length_pos_iff.2 hn
  have hx : ∀ j (hj : j < l.length), l.getD j default = l[j] := by intro j hj; simp [List.getD_eq_getElem?_getD, hj]
  have h0 := ZW r (hV _ (List.getElem_mem hlen)) hi
  have hd : (shiftV c i l).headD 0 = cGet l[0].at_ i - c.fords.getD i 0 := by
    cases l with
    | nil => exact absurd rfl hn
    | cons a l => rfl
  unfold JT
  rw [ix_eq default (Int.le_refl 0) (by omega), Option.bind_some, Option.bind_some, show (0 : Int).toNat = 0 from rfl, hx 0 hlen]
  have h0' : k3 (⟨l[0].after, (⟨l[0].at_.c0, l[0].at_.c1, l[0].at_.c2⟩ : Cells)⟩ : State) (i : Int) c.cells c.tides c.fords c.sands c.sights = _ := h0
  rw [h0', Option.bind_some, Option.bind_some, Option.bind_some]
  simp only
  have key := iterM_run (f := yB l (i : Int) c.cells c.tides c.fords c.sands c.sights) (fun j => ⟨(j : Int), foMin (cGet l[0].at_ i - c.fords.getD i 0) (shiftV c i (l.take j)), foMax (cGet l[0].at_ i - c.fords.getD i 0) (shiftV c i (l.take j))⟩) l.length (b := ⟨loL (shiftV c i l), hiL (shiftV c i l)⟩) (fun j hj => ?_) ?_ FU (FU_lt2 (by omega))
  · show (iterM FU (yB l (i : Int) c.cells c.tides c.fords c.sands c.sights) ⟨((0 : Nat) : Int), foMin (cGet l[0].at_ i - c.fords.getD i 0) (shiftV c i (l.take 0)), foMax (cGet l[0].at_ i - c.fords.getD i 0) (shiftV c i (l.take 0))⟩).bind _ = _
    rw [key]; rfl
  · have e : l.take (j + 1) = l.take j ++ [l[j]] := by rw [List.take_append_getElem]
    have hj0 := ZW r (hV _ (List.getElem_mem hj)) hi
    have hj' : k3 (⟨l[j].after, (⟨l[j].at_.c0, l[j].at_.c1, l[j].at_.c2⟩ : Cells)⟩ : State) (i : Int) c.cells c.tides c.fords c.sands c.sights = _ := hj0
    unfold yB
    simp only
    rw [if_pos (by omega), ix_nat default hj, Option.bind_some, hx j hj, hj', Option.bind_some, jaV, Option.bind_some, Option.bind_some, Option.bind_some, addc_eq (by omega), Option.bind_some, e]
    have ea : shiftV c i (l.take j ++ [l[j]]) = shiftV c i (l.take j) ++ [cGet l[j].at_ i - c.fords.getD i 0] := by unfold shiftV; rw [List.map_append]; rfl
    rw [ea]
    unfold foMin foMax
    rw [List.foldl_append, List.foldl_append]
    rfl
  · unfold yB
    simp only
    rw [if_neg (by omega), List.take_length]
    unfold loL hiL
    rw [hd]
def shiftC (c : Channel) (i : Nat) : Span := ⟨(whereL c c.tides.toNat i).headD 0 - c.fords.getD i 0, (whereL c c.tides.toNat i).getLastD 0 - c.fords.getD i 0⟩
theorem asc_head {l : List Int} (h : l.Pairwise (· < ·)) (hn : l ≠ []) : (∀ x ∈ l, l.headD 0 ≤ x) ∧ l.headD 0 ∈ l := by
  cases l with
  | nil => exact absurd rfl hn
  | cons a l =>
    refine ⟨fun x hx => ?_, by simp⟩
    rcases List.mem_cons.1 hx with rfl | hx
    · exact Int.le_refl _
    · have := (List.pairwise_cons.1 h).1 x hx
      show a ≤ x
      omega
theorem asc_last {l : List Int} (h : l.Pairwise (· < ·)) (hn : l ≠ []) : (∀ x ∈ l, x ≤ l.getLastD 0) ∧ l.getLastD 0 ∈ l := by
  induction l with
  | nil => exact absurd rfl hn
  | cons a l ih =>
    cases l with
    | nil => simp
    | cons b l =>
      obtain ⟨h1, h2⟩ := ih (List.pairwise_cons.1 h).2 (by simp)
      have e : (a :: b :: l).getLastD 0 = (b :: l).getLastD 0 := rfl
      rw [e]
      refine ⟨fun x hx => ?_, List.mem_cons_of_mem _ h2⟩
      rcases List.mem_cons.1 hx with rfl | hx
      · have := (List.pairwise_cons.1 h).1 _ h2
        omega
      · exact h1 x hx
theorem where_ne {c : Channel} (r : Right c) {L : List (List State)} (hL : Levs c L) (h : cntS tt c ≠ 0) {i : Nat} (hi : i < c.fords.length) : whereL c c.tides.toNat i ≠ [] := by
  have ht := r.tides
  intro q
  obtain ⟨s, hs⟩ := List.exists_mem_of_ne_nil _ (lev_ne r hL h)
  have := (mem_whereL r hL (k := c.tides.toNat) (by omega) hi).2 ⟨s, hs, rfl⟩
  rw [q] at this
  exact absurd this (by simp)
theorem shift_prog {c : Channel} (r : Right c) {L : List (List State)} (hL : Levs c L) (h : cntS tt c ≠ 0) {i : Nat} (hi : i < c.fords.length) : (⟨loL (shiftV c i (L.getD c.tides.toNat [])), hiL (shiftV c i (L.getD c.tides.toNat []))⟩ : Span) = shiftC c i := by
  have ht := r.tides
  have hn := lev_ne r hL h
  have hw := where_ne r hL h hi
  have hs : (whereL c c.tides.toNat i).Pairwise (· < ·) := filtL_asc
  have hne : shiftV c i (L.getD c.tides.toNat []) ≠ [] := by unfold shiftV; simpa using hn
  have hm : ∀ x, x ∈ shiftV c i (L.getD c.tides.toNat []) ↔ x + c.fords.getD i 0 ∈ whereL c c.tides.toNat i := by
    intro x
    rw [mem_whereL r hL (by omega) hi]
    unfold shiftV
    rw [List.mem_map]
    constructor
    · rintro ⟨s, hs, rfl⟩; exact ⟨s, hs, by omega⟩
    · rintro ⟨s, hs, h2⟩; exact ⟨s, hs, by omega⟩
  obtain ⟨a1, a2⟩ := loL_spec hne
  obtain ⟨b1, b2⟩ := hiL_spec hne
  obtain ⟨c1, c2⟩ := asc_head hs hw
  obtain ⟨d1, d2⟩ := asc_last hs hw
  have e1 := c1 _ ((hm _).1 a2)
  have e2 := a1 _ ((hm ((whereL c c.tides.toNat i).headD 0 - c.fords.getD i 0)).2 (by rw [show ∀ a b : Int, a - b + b = a from fun a b => by omega]; exact c2))
  have e3 := d1 _ ((hm _).1 b2)
  have e4 := b1 _ ((hm ((whereL c c.tides.toNat i).getLastD 0 - c.fords.getD i 0)).2 (by rw [show ∀ a b : Int, a - b + b = a from fun a b => by omega]; exact d2))
  unfold shiftC
  congr 1 <;> omega
theorem ja8 {c : Channel} (h : Few c) (i : Int) : Js c i = some (if chk c = 0 then (if inb i 0 ((c.fords.length : Int) - 1) = true then (if cntS tt c = 0 then ⟨⟨0, 0⟩, 7⟩ else ⟨shiftC c i.toNat, 0⟩) else ⟨⟨0, 0⟩, 1⟩) else ⟨⟨0, 0⟩, chk c⟩) := by
  unfold Js
  rw [jac, Option.bind_some]
  by_cases h0 : chk c = 0
  · have r := rightOf h0
    have hf := r.fords
    have ht := r.tides
    rw [if_pos h0, if_pos h0, subc_eq (by omega), Option.bind_some, QU, Option.bind_some, not_true_if]
    by_cases h2 : inb i 0 ((c.fords.length : Int) - 1) = true
    · rw [if_pos h2, if_pos h2]
      obtain ⟨L, e, hL⟩ := Ye h
      rw [e, Option.bind_some, if_pos h0]
      by_cases h3 : cntS tt c = 0
      · rw [if_pos h3, if_pos h3, oc_inl]
      · rw [if_neg h3, if_neg h3, oc_inr]
        have hL' := hL h0 h3
        have i1 := inb_iff.1 h2
        rw [levs_ix r hL' ht.1 (Int.le_refl _), Option.bind_some, show i = ((i.toNat : Nat) : Int) by omega, spread_fold r (hL'.bnd _ (by omega)) (fun s hs => (hL'.val _ (by omega) s hs).1) (lev_ne r hL' h3) (by omega), Option.bind_some, shift_prog r hL' h3 (by omega), Int.toNat_natCast]
    · rw [if_neg h2, if_neg h2]
  · rw [if_neg h0, if_neg h0]
theorem jap {c : Channel} (r : Right c) (h : cntS tt c ≠ 0) {i : Nat} (hi : i < c.fords.length) (hF : Few c) (h0 : chk c = 0) : y4 c (i : Int) = some (shiftC c i) := by
  have hc := r.cells
  have ht := r.tides
  obtain ⟨L, _, hL⟩ := Ye hF
  have hw := where_ne r (hL h0 h) h hi
  have hcell := Y9 r (k := c.tides.toNat) (i := i) (by omega) hi
  rw [show ((c.tides.toNat : Nat) : Int) = c.tides by omega] at hcell
  have hlen : (whereL c c.tides.toNat i).length < 1000000 := filtL_short hc.2
  have hm : ∀ x ∈ whereL c c.tides.toNat i, 0 ≤ x ∧ x < 10 := by
    intro x hx
    have := mem_filtL.1 hx
    omega
  have hp : 0 < (whereL c c.tides.toNat i).length := List.length_pos_iff.2 hw
  have e1 : (whereL c c.tides.toNat i).getD 0 0 = (whereL c c.tides.toNat i).headD 0 := by
    cases whereL c c.tides.toNat i with
    | nil => rfl
    | cons a l => rfl
  have e2 : (whereL c c.tides.toNat i).getD ((whereL c c.tides.toNat i).length - 1) 0 = (whereL c c.tides.toNat i).getLastD 0 := by
    rw [List.getD_eq_getElem?_getD, ← List.getLast?_eq_getElem?]
    cases whereL c c.tides.toNat i with
    | nil => rfl
    | cons a l => simp [List.getLast?_cons]
  have h1 := hm _ (getD_mem (d := 0) hp)
  have h2 := hm _ (getD_mem (d := 0) (show (whereL c c.tides.toNat i).length - 1 < (whereL c c.tides.toNat i).length by omega))
  have h3 := r.fcell _ (getD_mem (l := c.fords) (i := i) (d := 0) hi)
  rw [e1] at h1
  rw [e2] at h2
  unfold y4
  rw [hcell, Option.bind_some, ix_eq 0 (Int.le_refl 0) (by omega), Option.bind_some, show (0 : Int).toNat = 0 from rfl, e1, ix_nat 0 hi, Option.bind_some, subc_eq (by omega), Option.bind_some, subc_eq (by omega), Option.bind_some, ix_eq 0 (by omega) (by omega), Option.bind_some, show ((whereL c c.tides.toNat i).length - 1 : Int).toNat = (whereL c c.tides.toNat i).length - 1 by omega, e2, Option.bind_some, subc_eq (by omega), Option.bind_some]
  rfl
end Go.Proofs.Wb

namespace Go.Proofs.Wb
open Go Go.Fw Go.Gx Go.Sb
set_option linter.unusedVariables false
set_option maxRecDepth 100000
def anL (c : Channel) (l : List Int) : Nat := ((List.range c.fords.length).filter fun i => decide (l.getD i (-1) ≠ c.fords.getD i 0)).length
def anS (c : Channel) (s : State) : Nat := ((List.range c.fords.length).filter fun i => decide (cGet s.at_ i ≠ c.fords.getD i 0)).length
theorem anS_stL {c : Channel} (hf : c.fords.length ≤ 3) (k : Nat) (l : List Int) : anS c (stL k l) = anL c l := by
  unfold anS anL
  congr 1
  refine List.filter_congr fun i hi => ?_
  have : i < c.fords.length := by simpa using hi
  rw [show cGet (stL k l).at_ i = l.getD i (-1) from cGet_mk (by omega)]
theorem filt_succ (p : Nat → Bool) (j : Nat) : ((List.range (j + 1)).filter p).length = ((List.range j).filter p).length + if p j = true then 1 else 0 := by
  rw [List.range_succ, List.filter_append, List.length_append]
  by_cases h : p j = true
  · rw [if_pos h]; simp [h]
  · rw [if_neg h]; simp [h]
theorem filt_le (p : Nat → Bool) (j : Nat) : ((List.range j).filter p).length ≤ j := by
  have := List.length_filter_le p (List.range j)
  rwa [List.length_range] at this
theorem Z7 {c : Channel} (hf : c.fords.length ≤ 3) (s : State) : qv s c.cells c.tides c.fords c.sands c.sights = some (anS c s : Int) := by
  unfold qv
  have key := iterM_run (f := yD c.fords s) (fun i => ⟨((((List.range i).filter fun i => decide (cGet s.at_ i ≠ c.fords.getD i 0)).length : Nat) : Int), (i : Int)⟩) c.fords.length (b := (anS c s : Int)) (fun i hi => ?_) ?_ FU (FU_lt (by omega))
  · show (iterM FU (yD c.fords s) ⟨((((List.range 0).filter fun i => decide (cGet s.at_ i ≠ c.fords.getD i 0)).length : Nat) : Int), ((0 : Nat) : Int)⟩).bind _ = _
    rw [key]; rfl
  · have hb := filt_le (fun i => decide (cGet s.at_ i ≠ c.fords.getD i 0)) i
    unfold yD
    simp only
    rw [if_pos (by omega), ix_nat 0 hi, Option.bind_some, ix3 (by omega), Option.bind_some, filt_succ]
    by_cases hq : cGet s.at_ i = c.fords.getD i 0
    · rw [if_pos hq, if_neg (by simp only [decide_eq_true_eq]; exact fun q => q hq), Option.bind_some, addc_eq (by omega), Option.bind_some]; rfl
    · rw [if_neg hq, if_pos (by simp only [decide_eq_true_eq]; exact hq), addc_eq (by omega), Option.bind_some, Option.bind_some, addc_eq (by omega), Option.bind_some]; rfl
  · unfold yD
    simp only
    rw [if_neg (by omega)]
    rfl
def anewV (c : Channel) (l : List State) : List Int := l.map fun s => (anS c s : Int)
theorem anew_fold {c : Channel} (hf : c.fords.length ≤ 3) {l : List State} (hl : l.length ≤ 1000000000000) (hn : l ≠ []) : zY l c.cells c.tides c.fords c.sands c.sights = some ⟨loL (anewV c l), hiL (anewV c l)⟩ := by
  have hlen : 0 < l.length := List.length_pos_iff.2 hn
  have hx : ∀ j (hj : j < l.length), l.getD j default = l[j] := by intro j hj; simp [List.getD_eq_getElem?_getD, hj]
  have h0 := Z7 hf l[0]
  have hd : (anewV c l).headD 0 = (anS c l[0] : Int) := by
    cases l with
    | nil => exact absurd rfl hn
    | cons a l => rfl
  unfold zY
  rw [ix_eq default (Int.le_refl 0) (by omega), Option.bind_some, Option.bind_some, show (0 : Int).toNat = 0 from rfl, hx 0 hlen]
  have h0' : qv (⟨l[0].after, (⟨l[0].at_.c0, l[0].at_.c1, l[0].at_.c2⟩ : Cells)⟩ : State) c.cells c.tides c.fords c.sands c.sights = _ := h0
  rw [h0', Option.bind_some, Option.bind_some, Option.bind_some]
  simp only
  have key := iterM_run (f := yc l c.cells c.tides c.fords c.sands c.sights) (fun j => ⟨(j : Int), foMin (anS c l[0] : Int) (anewV c (l.take j)), foMax (anS c l[0] : Int) (anewV c (l.take j))⟩) l.length (b := ⟨loL (anewV c l), hiL (anewV c l)⟩) (fun j hj => ?_) ?_ FU (FU_lt2 (by omega))
  · show (iterM FU (yc l c.cells c.tides c.fords c.sands c.sights) ⟨((0 : Nat) : Int), foMin (anS c l[0] : Int) (anewV c (l.take 0)), foMax (anS c l[0] : Int) (anewV c (l.take 0))⟩).bind _ = _
    rw [key]; rfl
  · have e : l.take (j + 1) = l.take j ++ [l[j]] := by rw [List.take_append_getElem]
    have hj' : qv (⟨l[j].after, (⟨l[j].at_.c0, l[j].at_.c1, l[j].at_.c2⟩ : Cells)⟩ : State) c.cells c.tides c.fords c.sands c.sights = _ := Z7 hf l[j]
    unfold yc
    simp only
    rw [if_pos (by omega), ix_nat default hj, Option.bind_some, hx j hj, hj', Option.bind_some, jaV, Option.bind_some, Option.bind_some, Option.bind_some, addc_eq (by omega), Option.bind_some, e]
    have ea : anewV c (l.take j ++ [l[j]]) = anewV c (l.take j) ++ [(anS c l[j] : Int)] := by unfold anewV; rw [List.map_append]; rfl
    rw [ea]
    unfold foMin foMax
    rw [List.foldl_append, List.foldl_append]
    rfl
  · unfold yc
    simp only
    rw [if_neg (by omega), List.take_length]
    unfold loL hiL
    rw [hd]
def anewQ (c : Channel) : List Int := ((LL c).filter fun l => onB c c.tides.toNat l).map fun l => (anL c l : Int)
def anewC (c : Channel) : Span := ⟨foMin 9 (anewQ c), foMax (-1) (anewQ c)⟩
theorem anew_prog {c : Channel} (r : Right c) {L : List (List State)} (hL : Levs c L) (h : cntS tt c ≠ 0) : (⟨loL (anewV c (L.getD c.tides.toNat [])), hiL (anewV c (L.getD c.tides.toNat []))⟩ : Span) = anewC c := by
  have ht := r.tides
  have hf := r.fords
  have hn := lev_ne r hL h
  have hne : anewV c (L.getD c.tides.toNat []) ≠ [] := by unfold anewV; simpa using hn
  have hm : ∀ x, x ∈ anewV c (L.getD c.tides.toNat []) ↔ x ∈ anewQ c := by
    intro x
    unfold anewV anewQ
    rw [List.mem_map, List.mem_map]
    constructor
    · rintro ⟨s, hs, rfl⟩
      obtain ⟨l, hl, rfl, ho⟩ := (lev_iff r hL (by omega)).1 hs
      exact ⟨l, List.mem_filter.2 ⟨hl, ho⟩, by rw [anS_stL hf.2]⟩
    · rintro ⟨l, hl, rfl⟩
      obtain ⟨hl, ho⟩ := List.mem_filter.1 hl
      exact ⟨stL c.tides.toNat l, (lev_iff r hL (by omega)).2 ⟨l, hl, rfl, ho⟩, by rw [anS_stL hf.2]⟩
  have hb : ∀ x ∈ anewQ c, 0 ≤ x ∧ x ≤ 3 := by
    intro x hx
    unfold anewQ at hx
    obtain ⟨l, _, rfl⟩ := List.mem_map.1 hx
    have := filt_le (fun i => decide (l.getD i (-1) ≠ c.fords.getD i 0)) c.fords.length
    unfold anL
    omega
  obtain ⟨a1, a2⟩ := loL_spec hne
  obtain ⟨b1, b2⟩ := hiL_spec hne
  obtain ⟨c1, c2, c3⟩ := foMin_spec 9 (anewQ c)
  obtain ⟨d1, d2, d3⟩ := foMax_spec (-1) (anewQ c)
  have a3 := (hm _).1 a2
  have b3 := (hm _).1 b2
  have a4 := hb _ a3
  have b4 := hb _ b3
  have c4 := c2 _ a3
  have d4 := d2 _ b3
  have c5 : foMin 9 (anewQ c) ∈ anewQ c := by
    rcases c3 with h | h
    · omega
    · exact h
  have d5 : foMax (-1) (anewQ c) ∈ anewQ c := by
    rcases d3 with h | h
    · omega
    · exact h
  have a6 := a1 _ ((hm _).2 c5)
  have b6 := b1 _ ((hm _).2 d5)
  unfold anewC
  congr 1 <;> omega
theorem jbs {c : Channel} (h : Few c) : KW c = some (if chk c = 0 then (if cntS tt c = 0 then ⟨⟨0, 0⟩, 7⟩ else ⟨anewC c, 0⟩) else ⟨⟨0, 0⟩, chk c⟩) := by
  unfold KW
  obtain ⟨L, e, hL⟩ := Ye h
  rw [e, Option.bind_some]
  by_cases h0 : chk c = 0
  · have r := rightOf h0
    have hf := r.fords
    have ht := r.tides
    rw [if_pos h0, if_pos h0]
    by_cases h3 : cntS tt c = 0
    · rw [if_pos h3, if_pos h3, oc_inl]
    · rw [if_neg h3, if_neg h3, oc_inr]
      have hL' := hL h0 h3
      rw [levs_ix r hL' ht.1 (Int.le_refl _), Option.bind_some, anew_fold hf.2 (hL'.bnd _ (by omega)) (lev_ne r hL' h3), Option.bind_some, anew_prog r hL' h3]
  · rw [if_neg h0, if_neg h0, oc_inl]
theorem jaz {c : Channel} (r : Right c) : zE c = some (anewC c) := by
  have hc := r.cells
  have hf := r.fords
  have ht := r.tides
  have hLL := LL_len r
  unfold zE
  rw [Q8 r, Option.bind_some, jbp r, Option.bind_some]
  let P : Nat → List Int := fun a => (((LL c).take a).filter fun l => onB c c.tides.toNat l).map fun l => (anL c l : Int)
  have inner : ∀ (a : Nat) (ha : a < (LL c).length) (lo hi : Int), iterM FU (qM (LL c) ⟨(a : Int), lo, hi⟩ c) ⟨0, 0⟩ = some (anL c (li c a) : Int) := by
    intro a ha lo hi
    have hr := rowB_iff.1 (li_row r ha)
    have hxa : (LL c).getD a [] = li c a := rfl
    have key := iterM_run (f := qM (LL c) ⟨(a : Int), lo, hi⟩ c) (fun i => ⟨((((List.range i).filter fun i => decide ((li c a).getD i (-1) ≠ c.fords.getD i 0)).length : Nat) : Int), (i : Int)⟩) c.fords.length (b := (anL c (li c a) : Int)) (fun i hi => ?_) ?_ FU (FU_lt (by omega))
    · exact key
    · have hb := filt_le (fun i => decide ((li c a).getD i (-1) ≠ c.fords.getD i 0)) i
      unfold qM
      simp only
      rw [ix_nat [] ha, Option.bind_some, hxa, if_pos (by omega), Option.bind_some, ix_nat (-1) (by omega), Option.bind_some, ix_nat 0 hi, Option.bind_some, filt_succ]
      by_cases hq : (li c a).getD i (-1) = c.fords.getD i 0
      · rw [if_pos hq, if_neg (by simp only [decide_eq_true_eq]; exact fun q => q hq), Option.bind_some, addc_eq (by omega), Option.bind_some]; rfl
      · rw [if_neg hq, if_pos (by simp only [decide_eq_true_eq]; exact hq), addc_eq (by omega), Option.bind_some, Option.bind_some, addc_eq (by omega), Option.bind_some]; rfl
    · unfold qM
      simp only
      rw [ix_nat [] ha, Option.bind_some, hxa, if_neg (by omega)]
      rfl
  have key := iterM_run (f := qK (LL c) c ((List.range (c.tides.toNat + 1)).map (onRow c))) (fun a => ⟨(a : Int), foMin 9 (P a), foMax (-1) (P a)⟩) (LL c).length (b := ⟨foMin 9 (anewQ c), foMax (-1) (anewQ c)⟩) (fun a ha => ?_) ?_ FU (FU_lt (by omega))
  · show (iterM FU (qK (LL c) c ((List.range (c.tides.toNat + 1)).map (onRow c))) ⟨((0 : Nat) : Int), foMin 9 (P 0), foMax (-1) (P 0)⟩).bind _ = _
    rw [key]; rfl
  · have hrow : ix ((List.range (c.tides.toNat + 1)).map (onRow c)) c.tides = some (onRow c c.tides.toNat) := by
      have h := rows_ix (c := c) (k := c.tides.toNat) (by omega) ht.1
      rwa [show ((c.tides.toNat : Nat) : Int) = c.tides by omega] at h
    have e : (LL c).take (a + 1) = (LL c).take a ++ [li c a] := by
      rw [← List.take_append_getElem ha]
      congr 2
      simp [li, List.getD_eq_getElem?_getD, ha]
    have eP : P (a + 1) = P a ++ (if onB c c.tides.toNat (li c a) = true then [(anL c (li c a) : Int)] else []) := by
      show List.map _ (List.filter _ ((LL c).take (a + 1))) = _
      rw [e, List.filter_append, List.map_append]
      congr 1
      rw [List.filter_cons, List.filter_nil]
      split <;> rfl
    unfold qK
    simp only
    rw [if_pos (by omega), inner a ha, Option.bind_some, hrow, Option.bind_some, onRow_ix ha, Option.bind_some, eP]
    cases onB c c.tides.toNat (li c a) with
    | true =>
      rw [if_pos rfl, if_pos rfl, Option.bind_some, addc_eq (by omega), Option.bind_some]
      unfold foMin foMax
      rw [List.foldl_append, List.foldl_append]
      rfl
    | false => rw [if_neg (by decide), if_neg (by decide), Option.bind_some, addc_eq (by omega), Option.bind_some, List.append_nil]; rfl
  · unfold qK
    simp only
    have eP : P (LL c).length = anewQ c := by
      show List.map _ (List.filter _ ((LL c).take (LL c).length)) = _
      rw [List.take_length]; rfl
    rw [if_neg (by omega), eP]
theorem fates_loop (l : List Int) (hl : l.length < 1000000) (e : Int) (C : qN) (hC : C.fates11 = l) : iterM FU (ka ⟨e, l⟩ C) 0 = some (.inl ()) := by
  have key := iterM_run (f := ka ⟨e, l⟩ C) (fun i => (i : Int)) l.length (b := .inl ()) (fun i hi => ?_) ?_ FU (FU_lt (by omega))
  · exact key
  · unfold ka
    simp only
    rw [hC, if_pos (by omega), ix_nat 0 hi, Option.bind_some, Option.bind_some, if_pos rfl, addc_eq (by omega), Option.bind_some]
    congr 3
  · unfold ka
    simp only
    rw [if_neg (by omega)]
theorem fatesL_len (c : Channel) : (fatesL c).length = c.fords.length := by unfold fatesL; simp
theorem BranchFates_true (c : Channel) (i : Int) : yv c i = some true := by
  unfold yv
  rw [jbk, Option.bind_some, awake_true]
  by_cases hw : WideP c
  · rw [decide_eq_true hw, if_pos rfl, Option.bind_some]
  rw [decide_eq_false hw, if_neg (by decide)]
  have hF := few_wide hw
  rw [Own_eq hF, theirs_eq hF]
  simp only [Option.bind_some]
  rw [refCheck_eq hF, jbd hF, ja8 hF, jbs hF, jbD hF, jbl hF, offB]
  simp only [Option.bind_some]
  by_cases h0 : chk c = 0
  · have r := rightOf h0
    have hc := r.cells
    have hf := r.fords
    rw [ZE r]
    simp only [Option.bind_some]
    rw [Z3 r, jas r, jaz r, jaF r]
    simp only [h0, if_true, Option.bind_some]
    have hlf := fatesL_len c
    have lp := fun e C hC => fates_loop (fatesL c) (by omega) e C hC
    have lp0 := fun e C hC => fates_loop [] (by simp) e C hC
    cases h2 : inb i 0 ((c.fords.length : Int) - 1) with
    | false =>
      by_cases h3 : cntS tt c = 0
      · simp [h3, lp0]
      · have h3' : ¬ ((cntS tt c : Int) = 0) := by omega
        by_cases h4 : cntS tt c = 1
        · simp [h4, lp]
        · have h4' : ¬ ((cntS tt c : Int) = 1) := by omega
          simp [h3, h3', h4, h4', lp]
    | true =>
      have i1 := inb_iff.1 h2
      have ei : i = ((i.toNat : Nat) : Int) := by omega
      by_cases h3 : cntS tt c = 0
      · simp [h3, lp0]
      · have h3' : ¬ ((cntS tt c : Int) = 0) := by omega
        have hsh := jap r h3 (i := i.toNat) (by omega) hF h0
        rw [← ei] at hsh
        by_cases h4 : cntS tt c = 1
        · simp [h4, hsh, lp]
        · have h4' : ¬ ((cntS tt c : Int) = 1) := by omega
          simp [h3, h3', h4, h4', hsh, lp]
  · have lp0 := fun e C hC => fates_loop [] (by simp) e C hC
    simp [h0, lp0]
end Go.Proofs.Wb

namespace Go.Gx
open Go Go.Fw Go.RowKit
section
variable {H : Type} {enc : TypeId × Value → H} {P : Program} {w : World} {base : Nat} {sp : Nat → Bool} {held : Bool}
def Opens (enc : TypeId × Value → H) (P : Program) (w : World) (base : Nat) (sp : Nat → Bool) (held : Bool) {α : Type} (R : Row α) (wf : α → Prop) (t : TypeId) : Prop :=
  ∀ fuel cs x, DataW.trod enc P w base sp held fuel t cs = some x → ∃ a, cs = R.cells a ∧ wf a
def i64P (n : Int) : Prop := -9223372036854775808 ≤ n ∧ n ≤ 9223372036854775807
theorem wf_i64P {n : Int} (h : (Lit.int .i64 n).wf = true) : i64P n := by
  simp [Lit.wf, IntKind.min, IntKind.max, IntKind.signed, IntKind.bits] at h
  unfold i64P; omega
theorem opens_i64 {t : TypeId} (ht : P.underlying t = some (.int .i64)) : Opens enc P w base sp held RI i64P t := fun fuel cs x h => by
  obtain ⟨n, rfl, _, hw⟩ := DataW.trod_int ht h
  exact ⟨n, rfl, wf_i64P hw⟩
theorem opens_bool {t : TypeId} (ht : P.underlying t = some .bool) : Opens enc P w base sp held RB (fun _ => True) t := fun fuel cs x h => by
  obtain ⟨b, rfl, _⟩ := DataW.trod_bool ht h
  exact ⟨b, rfl, trivial⟩
theorem fieldAt {fs : Array Field} {t : TypeId} {fuel : Nat} {cs : List Value} {x : DataW H × List MemPlace} (ht : P.underlying t = some (.struct fs)) (h : DataW.trod enc P w base sp held fuel t cs = some x) {α : Type} {R : Row α} {wf : α → Prop} (i : Nat) {T o k : Nat}
    (hf : (fs[i]?).map (fun fd => (fd.type, fd.offset)) = some (T, o)) (hk : P.cellsOf T = k) (hR : Opens enc P w base sp held R wf T) : ∃ a, (cs.drop o).take k = R.cells a ∧ wf a := by
  obtain ⟨xs, n, rfl, _, hlen, hxl, hx⟩ := DataW.trod_struct ht h
  obtain ⟨fd, hfd, he⟩ : ∃ fd, fs[i]? = some fd ∧ (fd.type, fd.offset) = (T, o) := by
    cases hh : fs[i]? with
    | none => simp [hh] at hf
    | some fd => exact ⟨fd, rfl, by simpa [hh] using hf⟩
  simp only [Prod.mk.injEq] at he
  obtain ⟨rfl, rfl⟩ := he
  have h1 := hx i fd hfd
  rw [hk] at h1
  have hi : i < xs.length := by rw [hxl]; exact (Array.getElem?_eq_some_iff.1 hfd).1
  rw [List.getElem?_eq_getElem hi] at h1
  exact hR _ _ _ h1
theorem structLen {fs : Array Field} {t : TypeId} {fuel : Nat} {cs : List Value} {x : DataW H × List MemPlace} (ht : P.underlying t = some (.struct fs)) (h : DataW.trod enc P w base sp held fuel t cs = some x) : cs.length = P.cellsOf t := by
  obtain ⟨xs, n, _, _, hlen, _⟩ := DataW.trod_struct ht h
  exact hlen
structure SlIn {α : Type} (R : Row α) (wf : α → Prop) (w : World) (v : Value) (A : Option Addr) (n c : Nat) (l : List α) : Prop where
  val : v = .slice A n c
  len : l.length = n
  ok : AOK n A
  le : n ≤ c
  max : c ≤ maxLen
  seg : segOK w (aB A, aO A, R.enc l)
  wf : ∀ x, x ∈ l → wf x
theorem choose_list {α : Type} {p : Nat → α → Prop} : ∀ (n : Nat), (∀ i, i < n → ∃ a, p i a) → ∃ l : List α, l.length = n ∧ ∀ i (h : i < l.length), p i l[i]
  | 0, _ => ⟨[], rfl, fun i h => by simp at h⟩
  | n + 1, h => by
    obtain ⟨l, hl, hp⟩ := choose_list n (fun i hi => h i (by omega))
    obtain ⟨a, ha⟩ := h n (by omega)
    refine ⟨l ++ [a], by simp [hl], fun i hi => ?_⟩
    by_cases hil : i < l.length
    · rw [List.getElem_append_left hil]; exact hp i hil
    · have : i = l.length := by simp at hi; omega
      subst this
      rw [List.getElem_append_right (by omega)]
      simp only [Nat.sub_self, List.getElem_cons_zero]
      rw [hl]; exact ha
theorem openSl {α : Type} {R : Row α} {wf : α → Prop} {t e : TypeId} (ht : P.underlying t = some (.slice e)) (hc : P.cellsOf e = R.sz) (hR : Opens enc P w base sp held R wf e) (h0 : Nat.blt 0 R.sz = true)
    {fuel : Nat} {cs : List Value} {x : DataW H × List MemPlace} (h : DataW.trod enc P w base sp held fuel t cs = some x) : ∃ (v : Value) (A : Option Addr) (n c : Nat) (l : List α), cs = [v] ∧ SlIn R wf w v A n c l := by
  have hsz : 0 < R.sz := by simpa using h0
  rcases Go.Deep.open_slice ht h with ⟨rfl, _⟩ | ⟨a, len, cap, m, n, D, Pl, rfl, hb, hl, hm, hmm, _, hi⟩
  · exact ⟨_, none, 0, 0, [], rfl, rfl, rfl, AOK.nil, Nat.le_refl _, Nat.zero_le _, segOK.nil, by simp⟩
  · have hlm : len ≤ m := by rw [hmm]; split <;> omega
    have hcell : ∀ i, i < len → ∃ x : α, (∀ f (hf : f < (R.cells x).length), w.cell? (a.add (i * R.sz + f)) = some (R.cells x)[f]) ∧ wf x := fun i hil => by
      obtain ⟨cs', h1, h2⟩ := hi i (by omega)
      obtain ⟨x, rfl, hw⟩ := hR _ _ _ h2
      obtain ⟨_, _, hat⟩ := World.cells?_some h1
      refine ⟨x, fun f hf => ?_, hw⟩
      have := hat f (by rw [hc, ← R.len x]; exact hf)
      rw [hc] at this
      rw [List.getElem?_eq_getElem hf] at this
      have e : (a.add (i * R.sz)).add f = a.add (i * R.sz + f) := by
        unfold Addr.add
        by_cases h1 : i * R.sz = 0
        · simp [h1]
        · by_cases h2 : f = 0
          · simp [h2]
          · simp [h1, h2, Nat.add_assoc]
      rw [e] at this
      exact this
    obtain ⟨l, hll, hlp⟩ := choose_list len hcell
    have hspot : 0 < len → a.spot = none := fun h0 => by
      obtain ⟨x, hx, _⟩ := hcell 0 h0
      have := World.cell?_spot (hx 0 (by rw [R.len]; exact hsz))
      simpa [Addr.add] using this
    refine ⟨_, some a, len, cap, l, rfl, rfl, hll, fun h0 => ?_, hl, hm, fun j hj => ?_, fun x hx => ?_⟩
    · obtain ⟨b, o, s⟩ := a
      have := hspot h0
      simp only at this
      subst this
      exact ⟨b, o, rfl⟩
    · have hj' : j < l.length * R.sz := by rw [← R.enc_len]; exact hj
      have hpos : 0 < len := by
        rcases Nat.eq_zero_or_pos len with h | h
        · rw [hll, h, Nat.zero_mul] at hj'; omega
        · exact h
      obtain ⟨b, o, s⟩ := a
      have hs := hspot hpos
      simp only at hs
      subst hs
      have hq : j / R.sz < l.length := Nat.div_lt_of_lt_mul (by rw [Nat.mul_comm]; exact hj')
      have hr : j % R.sz < R.sz := Nat.mod_lt _ hsz
      have hd : j / R.sz * R.sz + j % R.sz = j := by rw [Nat.mul_comm]; exact Nat.div_add_mod j R.sz
      have h1 := (hlp (j / R.sz) hq).1 (j % R.sz) (by rw [R.len]; exact hr)
      rw [hd] at h1
      have h2 := R.enc_get l (j / R.sz) (j % R.sz) l[j / R.sz] (List.getElem?_eq_getElem hq) hr
      rw [hd] at h2
      have h3 : (⟨b, o, none⟩ : Addr).add j = ⟨b, o + j, none⟩ := addr_add b o j
      rw [h3] at h1
      simp only [aB, aO, Option.map_some, Option.getD_some]
      rw [h1, ← List.getElem?_eq_getElem, ← h2, List.getElem?_eq_getElem hj]
    · obtain ⟨i, hi', rfl⟩ := List.getElem_of_mem hx
      exact (hlp i hi').2
theorem fieldSl {fs : Array Field} {t : TypeId} {fuel : Nat} {cs : List Value} {x : DataW H × List MemPlace} (ht : P.underlying t = some (.struct fs)) (h : DataW.trod enc P w base sp held fuel t cs = some x) {α : Type} {R : Row α} {wf : α → Prop} (i : Nat) {T o e : Nat}
    (hf : (fs[i]?).map (fun fd => (fd.type, fd.offset)) = some (T, o)) (hk : P.cellsOf T = 1) (hT : P.underlying T = some (.slice e)) (hc : P.cellsOf e = R.sz) (hR : Opens enc P w base sp held R wf e) (h0 : Nat.blt 0 R.sz = true) :
    ∃ (v : Value) (A : Option Addr) (n c : Nat) (l : List α), (cs.drop o).take 1 = [v] ∧ SlIn R wf w v A n c l := by
  obtain ⟨xs, m, rfl, _, hlen, hxl, hx⟩ := DataW.trod_struct ht h
  obtain ⟨fd, hfd, he⟩ : ∃ fd, fs[i]? = some fd ∧ (fd.type, fd.offset) = (T, o) := by
    cases hh : fs[i]? with
    | none => simp [hh] at hf
    | some fd => exact ⟨fd, rfl, by simpa [hh] using hf⟩
  simp only [Prod.mk.injEq] at he
  obtain ⟨rfl, rfl⟩ := he
  have h1 := hx i fd hfd
  rw [hk] at h1
  have hi : i < xs.length := by rw [hxl]; exact (Array.getElem?_eq_some_iff.1 hfd).1
  rw [List.getElem?_eq_getElem hi] at h1
  exact openSl hT hc hR h0 h1
theorem HV.begin {ro : List Sg} (h : ∀ s, s ∈ ro → segOK w s) : HV w (keys [] []) [] [] ro w :=
  ⟨rfl, rfl, rfl, Nat.le_refl _, fun _ _ _ => rfl, by simp [vbl], by simp [vbl], by simp [vbl], h, by simp [vbl]⟩
theorem segCons {s : Sg} {ro : List Sg} (h : segOK w s) (hr : ∀ t, t ∈ ro → segOK w t) : ∀ t, t ∈ s :: ro → segOK w t := fun t ht => by
  rcases List.mem_cons.1 ht with rfl | ht
  · exact h
  · exact hr t ht
theorem segNil : ∀ t, t ∈ ([] : List Sg) → segOK w t := fun t ht => by cases ht
theorem HV.below {w' : World} (h : HV w (keys [] []) [] [] [] w') : Below w.heap.size w w' := by
  have : Ext [] w w' := HS.toExt h
  exact this.below
end
end Go.Gx

