/- What the functions that the law BranchNumbered reaches come to, and why it holds: part 8. -/
import Derived.Test.YtpjnpibgnkgnaaaGreatBranchNumbered7
namespace Go.Proofs.Wb
open Go Go.Fw Go.Gx Go.Sb
set_option linter.unusedVariables false
set_option maxRecDepth 100000
def sumN {α : Type} (l : List α) (f : α → Nat) : Nat := (l.map f).sum
theorem sumN_nil {α : Type} (f : α → Nat) : sumN [] f = 0 := rfl
theorem sumN_cons {α : Type} (x : α) (l : List α) (f : α → Nat) : sumN (x :: l) f = f x + sumN l f := by unfold sumN; rw [List.map_cons, List.sum_cons]
theorem sumN_congr {α : Type} {l : List α} {f g : α → Nat} (h : ∀ x ∈ l, f x = g x) : sumN l f = sumN l g := by unfold sumN; rw [List.map_congr_left h]
theorem sumN_zero {α : Type} {l : List α} {f : α → Nat} (h : ∀ x ∈ l, f x = 0) : sumN l f = 0 := by
  induction l with
  | nil => rfl
  | cons x l ih => rw [sumN_cons, h x List.mem_cons_self, ih (fun y hy => h y (List.mem_cons_of_mem _ hy))]
theorem sumN_add {α : Type} (l : List α) (f g : α → Nat) : sumN l (fun x => f x + g x) = sumN l f + sumN l g := by
  induction l with
  | nil => rfl
  | cons x l ih => rw [sumN_cons, sumN_cons, sumN_cons, ih]; omega
theorem sumN_mul {α : Type} (l : List α) (f : α → Nat) (k : Nat) : sumN l (fun x => f x * k) = sumN l f * k := by
  induction l with
  | nil => simp [sumN]
  | cons x l ih => rw [sumN_cons, sumN_cons, ih, Nat.add_mul]
theorem sumN_mul' {α : Type} (l : List α) (f : α → Nat) (k : Nat) : sumN l (fun x => k * f x) = k * sumN l f := by
  induction l with
  | nil => simp [sumN]
  | cons x l ih => rw [sumN_cons, sumN_cons, ih, Nat.mul_add]
theorem sumN_comm {α β : Type} (l : List α) (m : List β) (f : α → β → Nat) : sumN l (fun x => sumN m fun y => f x y) = sumN m fun y => sumN l fun x => f x y := by
  induction l with
  | nil => rw [sumN_nil, sumN_zero (fun y _ => sumN_nil _)]
  | cons x l ih =>
    rw [sumN_cons, ih, ← sumN_add]
    refine sumN_congr fun y _ => ?_
    rw [sumN_cons]
theorem sumN_pos {α : Type} {l : List α} {f : α → Nat} : 0 < sumN l f ↔ ∃ x ∈ l, 0 < f x := by
  induction l with
  | nil => simp [sumN]
  | cons x l ih =>
    rw [sumN_cons]
    constructor
    · intro h
      by_cases hx : 0 < f x
      · exact ⟨x, List.mem_cons_self, hx⟩
      · obtain ⟨y, hy, h2⟩ := ih.1 (by omega)
        exact ⟨y, List.mem_cons_of_mem _ hy, h2⟩
    · rintro ⟨y, hy, h⟩
      rcases List.mem_cons.1 hy with rfl | hy
      · omega
      · have := ih.2 ⟨y, hy, h⟩; omega
theorem sumN_perm {α : Type} {l m : List α} (h : l.Perm m) (f : α → Nat) : sumN l f = sumN m f := by
  unfold sumN
  exact (h.map f).sum_nat
theorem sumN_map {α β : Type} (l : List α) (g : α → β) (f : β → Nat) : sumN (l.map g) f = sumN l fun x => f (g x) := by unfold sumN; rw [List.map_map]; rfl
theorem sumN_filter {α : Type} (l : List α) (p : α → Bool) (f : α → Nat) : sumN (l.filter p) f = sumN l fun x => if p x = true then f x else 0 := by
  induction l with
  | nil => rfl
  | cons x l ih =>
    rw [List.filter_cons, sumN_cons, ← ih]
    split
    · rw [sumN_cons]
    · rw [Nat.zero_add]
theorem sumN_one {α : Type} [DecidableEq α] {l : List α} (hn : l.Nodup) {a : α} (ha : a ∈ l) (k : Nat) : sumN l (fun x => if x = a then k else 0) = k := by
  induction l with
  | nil => cases ha
  | cons x l ih =>
    obtain ⟨h1, h2⟩ := List.nodup_cons.1 hn
    rw [sumN_cons]
    by_cases hx : x = a
    · subst hx
      rw [if_pos rfl, sumN_zero (fun y hy => if_neg (fun e : y = x => h1 (e ▸ hy)))]
      rfl
    · rw [if_neg hx, ih h2 ((List.mem_cons.1 ha).resolve_left (fun e => hx e.symm)), Nat.zero_add]
def incL (below : Nat) : Nat → Nat → List (List Int)
  | 0, _ => [[]]
  | m + 1, fr => (List.range (below - fr)).flatMap fun d => (incL below m (fr + d + 1)).map (((fr + d : Nat) : Int) :: ·)
theorem mem_incL {below : Nat} : ∀ (m fr : Nat) (l : List Int), l ∈ incL below m fr ↔ l.length = m ∧ upB l = true ∧ ∀ x ∈ l, (fr : Int) ≤ x ∧ x < (below : Int)
  | 0, fr, l => by
    rw [incL, List.mem_singleton]
    constructor
    · rintro rfl; exact ⟨rfl, rfl, fun x hx => by cases hx⟩
    · rintro ⟨h, _⟩; exact List.length_eq_zero_iff.1 h
  | m + 1, fr, l => by
    rw [incL]
    simp only [List.mem_flatMap, List.mem_range, List.mem_map]
    constructor
    · rintro ⟨d, hd, v, hv, rfl⟩
      obtain ⟨h1, h2, h3⟩ := (mem_incL m _ v).1 hv
      refine ⟨by simp [h1], ?_, fun x hx => ?_⟩
      · rw [upB_iff, List.pairwise_cons]
        exact ⟨fun y hy => by have := h3 y hy; push_cast at this ⊢; omega, upB_iff.1 h2⟩
      · rcases List.mem_cons.1 hx with rfl | hx
        · push_cast; omega
        · have := h3 x hx; push_cast at this; omega
    · rintro ⟨h1, h2, h3⟩
      cases l with
      | nil => simp at h1
      | cons y v =>
        have hy := h3 y List.mem_cons_self
        obtain ⟨q1, q2⟩ := List.pairwise_cons.1 (upB_iff.1 h2)
        refine ⟨y.toNat - fr, by omega, v, (mem_incL m _ v).2 ⟨by simpa using h1, upB_iff.2 q2, fun x hx => ?_⟩, ?_⟩
        · have a := q1 x hx
          have b := h3 x (List.mem_cons_of_mem _ hx)
          push_cast
          omega
        · congr 1
          omega
theorem incL_nodup {below : Nat} : ∀ (m fr : Nat), (incL below m fr).Nodup
  | 0, fr => by simp [incL]
  | m + 1, fr => by
    rw [incL]
    refine nodup_flatMap' List.nodup_range (fun d _ => nodup_map' (incL_nodup m _) (fun a _ b _ h => by simpa using h)) ?_
    intro d _ e _ w h1 h2
    obtain ⟨v, _, rfl⟩ := List.mem_map.1 h1
    obtain ⟨v', _, he⟩ := List.mem_map.1 h2
    injection he with he _
    omega
theorem incL_len {below : Nat} : ∀ (m fr : Nat), (incL below m fr).length ≤ below ^ m
  | 0, fr => by simp [incL]
  | m + 1, fr => by
    rw [incL, List.length_flatMap]
    have h := sum_le (fun d => ((incL below m (fr + d + 1)).map (((fr + d : Nat) : Int) :: ·)).length) (below ^ m) (List.range (below - fr)) (fun d _ => by rw [List.length_map]; exact incL_len m _)
    rw [List.length_range] at h
    have h2 := Nat.mul_le_mul_right (below ^ m) (show below - fr ≤ below by omega)
    rw [Nat.pow_succ, Nat.mul_comm]
    omega
def LL (c : Channel) : List (List Int) := incL c.cells.toNat c.fords.length 0
theorem mem_LL {c : Channel} (hc : 0 ≤ c.cells) {l : List Int} : l ∈ LL c ↔ rowB c l = true := by
  unfold LL
  rw [mem_incL, rowB_iff]
  constructor
  · rintro ⟨h1, h2, h3⟩; exact ⟨h1, h2, fun x hx => by have := h3 x hx; push_cast at this; omega⟩
  · rintro ⟨h1, h2, h3⟩; exact ⟨h1, h2, fun x hx => by have := h3 x hx; push_cast; omega⟩
theorem LL_nodup (c : Channel) : (LL c).Nodup := incL_nodup _ _
theorem LL_len {c : Channel} (r : Right c) : (LL c).length ≤ 1000 := by
  have hc := r.cells
  have hf := r.fords
  refine Nat.le_trans (incL_len _ _) ?_
  have h1 : c.cells.toNat ^ c.fords.length ≤ 10 ^ c.fords.length := Nat.pow_le_pow_left (by omega) _
  have h2 : 10 ^ c.fords.length ≤ 10 ^ 3 := Nat.pow_le_pow_right (by omega) (by omega)
  omega
def stL (k : Nat) (l : List Int) : State := ⟨(k : Int), mkCells l⟩
theorem nxS_perm {c : Channel} (r : Right c) {k : Nat} {a : List Int} (ha : rowB c a = true) : (nxS c (stL k a)).Perm (((LL c).filter fun l => canB c.sands a l).map (stL (k + 1))) := by
  have hc := r.cells
  have hf := r.fords
  refine (List.perm_ext_iff_of_nodup (nxS_nodup r _) (nodup_map' ((LL_nodup c).filter _) (fun x hx y hy h => ?_))).2 (fun t => ?_)
  · have hx' := (rowB_iff.1 ((mem_LL (by omega)).1 (List.mem_filter.1 hx).1)).1
    have hy' := (rowB_iff.1 ((mem_LL (by omega)).1 (List.mem_filter.1 hy).1)).1
    simp only [stL, State.mk.injEq, true_and] at h
    exact mkCells_inj (by omega) (by omega) h
  · rw [nxS_mem r, List.mem_map]
    constructor
    · rintro ⟨l, h, rfl⟩
      have hr := row_of_can h
      exact ⟨l, List.mem_filter.2 ⟨(mem_LL (by omega)).2 hr, (can_iff r ha hr).2 h⟩, by simp [stL]⟩
    · rintro ⟨l, h, rfl⟩
      obtain ⟨h1, h2⟩ := List.mem_filter.1 h
      exact ⟨l, (can_iff r ha ((mem_LL (by omega)).1 h1)).1 h2, by simp [stL]⟩
def FcL (cnt : Nat → Bool) (c : Channel) : Nat → List Int → Nat
  | 0, l => if agP cnt c.sights 0 l = true ∧ l = c.fords then 1 else 0
  | k + 1, l => if agP cnt c.sights ((k + 1 : Nat) : Int) l = true then sumN (LL c) fun a => if canB c.sands a l = true then FcL cnt c k a else 0 else 0
theorem agS_stL {cnt : Nat → Bool} {c : Channel} (r : Right c) {k : Nat} {l : List Int} (h : rowB c l = true) : agS cnt c (stL k l) = agP cnt c.sights (k : Int) l := by
  have hf := r.fords
  have h1 := (rowB_iff.1 h).1
  unfold agS stL
  simp only
  rw [← h1, clS_mk (by omega)]
theorem R_stL {cnt : Nat → Bool} {c : Channel} (r : Right c) {j k : Nat} {a : List Int} (ha : rowB c a = true) : R (nxS c) (agS cnt c) (j + 1) (stL k a) = if agP cnt c.sights (k : Int) a = true then sumN (LL c) fun l => if canB c.sands a l = true then R (nxS c) (agS cnt c) j (stL (k + 1) l) else 0 else 0 := by
  rw [R, agS_stL r ha]
  by_cases h : agP cnt c.sights (k : Int) a = true
  · rw [if_pos h, if_pos h]
    show sumN (nxS c (stL k a)) _ = _
    rw [sumN_perm (nxS_perm r ha), sumN_map, sumN_filter]
  · rw [if_neg h, if_neg h]
theorem FcL_ag {cnt : Nat → Bool} {c : Channel} {k : Nat} {l : List Int} (h : ¬ agP cnt c.sights (k : Int) l = true) : FcL cnt c k l = 0 := by
  cases k with
  | zero => rw [FcL, if_neg (fun q => h q.1)]
  | succ k => rw [FcL, if_neg h]
theorem FcL_sum {cnt : Nat → Bool} {c : Channel} (r : Right c) : ∀ (k j : Nat), sumN (LL c) (fun l => FcL cnt c k l * R (nxS c) (agS cnt c) j (stL k l)) = R (nxS c) (agS cnt c) (k + j) (first c)
  | 0, j => by
    have hc := r.cells
    have hfr : rowB c c.fords = true := rowB_iff.2 ⟨rfl, r.up, r.fcell⟩
    have e : sumN (LL c) (fun l => FcL cnt c 0 l * R (nxS c) (agS cnt c) j (stL 0 l)) = sumN (LL c) (fun l => if l = c.fords then R (nxS c) (agS cnt c) j (first c) else 0) := by
      refine sumN_congr fun l hl => ?_
      by_cases h : l = c.fords
      · subst h
        rw [if_pos rfl, FcL]
        by_cases h2 : agP cnt c.sights 0 c.fords = true
        · rw [if_pos ⟨h2, rfl⟩, Nat.one_mul]; rfl
        · rw [if_neg (fun q => h2 q.1), Nat.zero_mul]
          have h3 : ¬ 0 < R (nxS c) (agS cnt c) j (first c) := fun q => by
            have := R_ag q
            rw [show first c = stL 0 c.fords from rfl, agS_stL r hfr] at this
            exact h2 this
          omega
      · rw [if_neg h, FcL, if_neg (fun q => h q.2), Nat.zero_mul]
    rw [e, sumN_one (LL_nodup c) ((mem_LL (by omega)).2 hfr), Nat.zero_add]
  | k + 1, j => by
    have hc := r.cells
    have ih := FcL_sum (cnt := cnt) r k (j + 1)
    rw [show k + 1 + j = k + (j + 1) by omega, ← ih]
    have e1 : sumN (LL c) (fun l => FcL cnt c (k + 1) l * R (nxS c) (agS cnt c) j (stL (k + 1) l)) = sumN (LL c) (fun l => sumN (LL c) fun a => (if canB c.sands a l = true then FcL cnt c k a else 0) * R (nxS c) (agS cnt c) j (stL (k + 1) l)) := by
      refine sumN_congr fun l hl => ?_
      rw [sumN_mul, FcL]
      by_cases h : agP cnt c.sights ((k + 1 : Nat) : Int) l = true
      · rw [if_pos h]
      · rw [if_neg h, Nat.zero_mul]
        have h3 : ¬ 0 < R (nxS c) (agS cnt c) j (stL (k + 1) l) := fun q => by
          have := R_ag q
          rw [agS_stL r ((mem_LL (by omega)).1 hl)] at this
          exact h this
        rw [Nat.eq_zero_of_not_pos h3, Nat.mul_zero]
    rw [e1, sumN_comm]
    refine sumN_congr fun a ha => ?_
    rw [R_stL r ((mem_LL (by omega)).1 ha)]
    by_cases h : agP cnt c.sights (k : Int) a = true
    · rw [if_pos h, ← sumN_mul']
      refine sumN_congr fun l _ => ?_
      split
      · rfl
      · rw [Nat.zero_mul, Nat.mul_zero]
    · rw [if_neg h, Nat.mul_zero]
      refine sumN_zero fun l _ => ?_
      rw [FcL_ag h]
      split <;> rw [Nat.zero_mul]
end Go.Proofs.Wb

namespace Go.Proofs.Wb
open Go Go.Fw Go.Gx Go.Sb
set_option linter.unusedVariables false
set_option maxRecDepth 100000
theorem FcL_le {cnt : Nat → Bool} {c : Channel} (r : Right c) : ∀ k l, FcL cnt c k l ≤ 1000 ^ k
  | 0, l => by rw [FcL]; split <;> simp
  | k + 1, l => by
    rw [FcL]
    split
    · have h1 := sum_le (fun a => if canB c.sands a l = true then FcL cnt c k a else 0) (1000 ^ k) (LL c) (fun a _ => by
        split
        · exact FcL_le r k a
        · exact Nat.zero_le _)
      have h2 := Nat.mul_le_mul_right (1000 ^ k) (LL_len r)
      unfold sumN
      rw [Nat.pow_succ, Nat.mul_comm]
      omega
    · exact Nat.zero_le _
theorem FcL_bnd {cnt : Nat → Bool} {c : Channel} (r : Right c) {k : Nat} (hk : k ≤ 4) (l : List Int) : FcL cnt c k l ≤ 1000000000000 := by
  have h := FcL_le (cnt := cnt) r k l
  have h2 : (1000 : Nat) ^ k ≤ 1000 ^ 4 := Nat.pow_le_pow_right (by omega) hk
  have e4 : (1000 : Nat) ^ 4 = 1000000000000 := by decide
  omega
def li (c : Channel) (i : Nat) : List Int := (LL c).getD i []
theorem sumN_li {c : Channel} (f : List Int → Nat) : sumN (LL c) f = sumN (List.range (LL c).length) fun i => f (li c i) := by
  rw [show (fun i => f (li c i)) = fun i => f ((LL c).getD i []) from rfl, ← sumN_map (List.range (LL c).length) (fun i => (LL c).getD i []) f, range_getD]
theorem sumN_range_le (f : Nat → Nat) (B n : Nat) (h : ∀ i, f i ≤ B) : sumN (List.range n) f ≤ n * B := by
  have := sum_le f B (List.range n) (fun x _ => h x)
  rw [List.length_range] at this
  exact this
end Go.Proofs.Wb

namespace Go.Proofs.Wb
open Go Go.Fw Go.Gx Go.Sb
set_option linter.unusedVariables false
set_option maxRecDepth 100000
abbrev tt : Nat → Bool := fun _ => true
def onB (c : Channel) (k : Nat) (l : List Int) : Bool := decide (0 < FcL tt c k l) && decide (0 < R (nxS c) (agS tt c) (c.tides.toNat - k) (stL k l))
theorem FcL_succ_pos {c : Channel} {k : Nat} {l : List Int} : 0 < FcL tt c (k + 1) l ↔ agP tt c.sights ((k + 1 : Nat) : Int) l = true ∧ ∃ a ∈ LL c, canB c.sands a l = true ∧ 0 < FcL tt c k a := by
  rw [FcL]
  by_cases h : agP tt c.sights ((k + 1 : Nat) : Int) l = true
  · rw [if_pos h, sumN_pos]
    constructor
    · rintro ⟨a, ha, h2⟩
      split at h2
      · rename_i hc; exact ⟨h, a, ha, hc, h2⟩
      · omega
    · rintro ⟨_, a, ha, hc, h2⟩
      exact ⟨a, ha, by rw [if_pos hc]; exact h2⟩
  · rw [if_neg h]
    constructor
    · intro q; omega
    · rintro ⟨q, _⟩; exact absurd q h
theorem FcL_pos_ag {c : Channel} {k : Nat} {l : List Int} (h : 0 < FcL tt c k l) : agP tt c.sights (k : Int) l = true := by
  cases hq : agP tt c.sights (k : Int) l with
  | true => rfl
  | false => rw [FcL_ag (by rw [hq]; decide)] at h; omega
theorem R_stL_pos {c : Channel} (r : Right c) {j k : Nat} {a : List Int} (ha : rowB c a = true) : 0 < R (nxS c) (agS tt c) (j + 1) (stL k a) ↔ agP tt c.sights (k : Int) a = true ∧ ∃ l ∈ LL c, canB c.sands a l = true ∧ 0 < R (nxS c) (agS tt c) j (stL (k + 1) l) := by
  rw [R_stL r ha]
  by_cases h : agP tt c.sights (k : Int) a = true
  · rw [if_pos h, sumN_pos]
    constructor
    · rintro ⟨l, hl, h2⟩
      split at h2
      · rename_i hc; exact ⟨h, l, hl, hc, h2⟩
      · omega
    · rintro ⟨_, l, hl, hc, h2⟩
      exact ⟨l, hl, by rw [if_pos hc]; exact h2⟩
  · rw [if_neg h]
    constructor
    · intro q; omega
    · rintro ⟨q, _⟩; exact absurd q h
theorem stL_of {c : Channel} (r : Right c) {s : State} {k : Nat} (h : VS c s) (hk : s.after = (k : Int)) : ∃ a ∈ LL c, s = stL k a := by
  have hc := r.cells
  obtain ⟨⟨l, h1, h2⟩, _⟩ := h
  obtain ⟨x, y⟩ := s
  simp only at hk h2
  exact ⟨l, (mem_LL (by omega)).2 h1, by rw [hk, h2]; rfl⟩
theorem mem_nx_stL {c : Channel} (r : Right c) {k : Nat} {a l : List Int} (ha : rowB c a = true) (hl : rowB c l = true) : stL (k + 1) l ∈ nxS c (stL k a) ↔ canB c.sands a l = true := by
  have hf := r.fords
  rw [nxS_mem r, can_iff r ha hl]
  constructor
  · rintro ⟨l', h, e⟩
    simp only [stL, State.mk.injEq] at e
    have := mkCells_inj (l := l) (m := l') (by rw [h.len]; exact (rowB_iff.1 hl).1) (by have := (rowB_iff.1 hl).1; omega) e.2
    rw [this]; exact h
  · intro h
    exact ⟨l, h, by simp [stL]⟩
theorem on_V {c : Channel} (r : Right c) : ∀ (k : Nat), (k : Int) ≤ c.tides → ∀ t, On (nxS c) (agS tt c) k c.tides.toNat (first c) t → VS c t ∧ t.after = (k : Int)
  | 0, _, t, h => by
    obtain ⟨rfl, _⟩ := on_zero.1 h
    exact ⟨first_V r, rfl⟩
  | k + 1, hk, t, h => by
    obtain ⟨u, h1, h2, _⟩ := (on_succ (by omega)).1 h
    obtain ⟨v1, v2⟩ := on_V r k (by omega) u h1
    obtain ⟨v3, v4⟩ := nxS_V r v1 (by omega) h2
    exact ⟨v3, by omega⟩
theorem on_iff {c : Channel} (r : Right c) : ∀ (k : Nat), (k : Int) ≤ c.tides → ∀ l, rowB c l = true → (On (nxS c) (agS tt c) k c.tides.toNat (first c) (stL k l) ↔ onB c k l = true)
  | 0, _, l, hl => by
    have hf := r.fords
    have h1 := (rowB_iff.1 hl).1
    unfold onB
    rw [on_zero, Bool.and_eq_true, decide_eq_true_eq, decide_eq_true_eq, FcL, Nat.sub_zero]
    constructor
    · rintro ⟨e, h2⟩
      have e2 : l = c.fords := by
        simp only [stL, first, State.mk.injEq] at e
        exact mkCells_inj (by omega) (by omega) e.2
      subst e2
      have hag := R_ag h2
      rw [show first c = stL 0 c.fords from rfl, agS_stL r hl] at hag
      exact ⟨by rw [if_pos ⟨hag, rfl⟩]; omega, h2⟩
    · rintro ⟨h2, h3⟩
      split at h2
      · rename_i q
        obtain ⟨_, q⟩ := q
        subst q
        exact ⟨rfl, h3⟩
      · omega
  | k + 1, hk, l, hl => by
    have hc := r.cells
    unfold onB
    rw [on_succ (by omega), Bool.and_eq_true, decide_eq_true_eq, decide_eq_true_eq, FcL_succ_pos, show c.tides.toNat - (k + 1) = c.tides.toNat - k - 1 by omega]
    constructor
    · rintro ⟨u, h1, h2, h3⟩
      obtain ⟨v1, v2⟩ := on_V r k (by omega) u h1
      obtain ⟨a, ha, rfl⟩ := stL_of r v1 v2
      have ha' := (mem_LL (by omega)).1 ha
      have h4 := (on_iff r k (by omega) a ha').1 h1
      unfold onB at h4
      rw [Bool.and_eq_true, decide_eq_true_eq] at h4
      have hag := R_ag h3
      rw [agS_stL r hl] at hag
      exact ⟨⟨hag, a, ha, (mem_nx_stL r ha' hl).1 h2, h4.1⟩, h3⟩
    · rintro ⟨⟨hag, a, ha, h1, h2⟩, h3⟩
      have ha' := (mem_LL (by omega)).1 ha
      refine ⟨stL k a, (on_iff r k (by omega) a ha').2 ?_, (mem_nx_stL r ha' hl).2 h1, h3⟩
      unfold onB
      rw [Bool.and_eq_true, decide_eq_true_eq, decide_eq_true_eq, show c.tides.toNat - k = (c.tides.toNat - k - 1) + 1 by omega, R_stL_pos r ha']
      exact ⟨h2, FcL_pos_ag h2, l, (mem_LL (by omega)).2 hl, h1, h3⟩
end Go.Proofs.Wb

namespace Go.Proofs.Wb
open Go Go.Fw Go.Gx Go.Sb
set_option linter.unusedVariables false
set_option maxRecDepth 100000
theorem asc_ext {l m : List Int} (hl : l.Pairwise (· < ·)) (hm : m.Pairwise (· < ·)) (h : ∀ x, x ∈ l ↔ x ∈ m) : l = m := by
  refine List.Perm.eq_of_pairwise (le := fun x y : Int => x < y) (fun a b _ _ h1 h2 => by omega) hl hm ?_
  exact (List.perm_ext_iff_of_nodup (hl.imp (fun h => by omega)) (hm.imp (fun h => by omega))).2 h
theorem sorted_get {l : List Int} (h : l.Pairwise (· ≤ ·)) {i j : Nat} (hij : i ≤ j) (hj : j < l.length) : l.getD i 0 ≤ l.getD j 0 := by
  rcases Nat.lt_or_eq_of_le hij with h1 | h1
  · have := List.pairwise_iff_getElem.1 h i j (by omega) hj h1
    simpa [List.getD_eq_getElem?_getD, hj, (show i < l.length by omega)] using this
  · subst h1; exact Int.le_refl _
theorem cmp_get {l : List Int} {j : Nat} (hj : j < l.length) : l.toArray[j]! = l.getD j 0 := by
  simp [List.getD_eq_getElem?_getD, hj]
theorem compact_asc {l : List Int} (h : l.Pairwise (· ≤ ·)) : (Go.Lib.compact l).Pairwise (· < ·) := by
  unfold Go.Lib.compact Go.Lib.compactUpTo
  rw [List.pairwise_map, List.pairwise_filter]
  refine List.Pairwise.imp_of_mem ?_ (List.pairwise_lt_range (n := l.length))
  intro i j hi hj hij ki kj
  have hj' : j < l.length := by simpa using hj
  have hi' : i < l.length := by simpa using hi
  rw [cmp_get hi', cmp_get hj']
  have k2 : l.getD j 0 ≠ l.getD (j - 1) 0 := by
    unfold Go.Lib.keeps at kj
    rw [decide_eq_true_eq, cmp_get hj', cmp_get (by omega)] at kj
    exact kj.resolve_left (by omega)
  have h1 := sorted_get h (show i ≤ j - 1 by omega) (by omega)
  have h2 := sorted_get h (show j - 1 ≤ j by omega) hj'
  omega
theorem compact_mem {l : List Int} {x : Int} : x ∈ Go.Lib.compact l ↔ x ∈ l := by
  unfold Go.Lib.compact Go.Lib.compactUpTo
  simp only [List.mem_map, List.mem_filter, List.mem_range]
  constructor
  · rintro ⟨i, ⟨hi, _⟩, rfl⟩
    rw [cmp_get hi]
    exact getD_mem hi
  · intro hx
    obtain ⟨i, hi, rfl⟩ := List.getElem_of_mem hx
    have key : ∀ n i, i ≤ n → (hi : i < l.length) → ∃ j, (j < l.length ∧ Go.Lib.keeps l.toArray j = true) ∧ l.toArray[j]! = l[i] := by
      intro n
      induction n with
      | zero =>
        intro i h0 hi
        obtain rfl : i = 0 := by omega
        exact ⟨0, ⟨hi, by simp [Go.Lib.keeps]⟩, by simp [hi]⟩
      | succ n ih =>
        intro i h0 hi
        by_cases hk : Go.Lib.keeps l.toArray i = true
        · exact ⟨i, ⟨hi, hk⟩, by simp [hi]⟩
        · have h1 : ¬ (i = 0 ∨ l.toArray[i]! ≠ l.toArray[i - 1]!) := by
            intro q
            exact hk (by unfold Go.Lib.keeps; rw [decide_eq_true_eq]; exact q)
          have h2 : i ≠ 0 := fun q => h1 (.inl q)
          have h3 : l.toArray[i]! = l.toArray[i - 1]! := by
            by_cases q : l.toArray[i]! = l.toArray[i - 1]!
            · exact q
            · exact absurd (.inr q) h1
          obtain ⟨j, h4, h5⟩ := ih (i - 1) (by omega) (by omega)
          refine ⟨j, h4, ?_⟩
          rw [h5]
          have e1 : l.toArray[i]! = l[i] := by simp [hi]
          have e2 : l.toArray[i - 1]! = l[i - 1] := by simp [(show i - 1 < l.length by omega)]
          rw [← e1, h3, e2]
    exact key i i (Nat.le_refl _) hi
theorem filtL_asc {p : Nat → Bool} {n : Nat} : (filtL p n).Pairwise (· < ·) := by
  unfold filtL
  rw [List.pairwise_map]
  refine ((List.pairwise_lt_range (n := n)).filter p).imp ?_
  intro a b h
  omega
theorem mem_filtL {p : Nat → Bool} {n : Nat} {x : Int} : x ∈ filtL p n ↔ 0 ≤ x ∧ x < (n : Int) ∧ p x.toNat = true := by
  unfold filtL
  simp only [List.mem_map, List.mem_filter, List.mem_range]
  constructor
  · rintro ⟨i, ⟨hi, hp⟩, rfl⟩
    exact ⟨by omega, by omega, by simpa using hp⟩
  · rintro ⟨h0, h1, hp⟩
    exact ⟨x.toNat, ⟨by omega, hp⟩, by omega⟩
def whereL (c : Channel) (k i : Nat) : List Int := filtL (fun x => (LL c).any fun l => onB c k l && decide (l.getD i (-1) = (x : Int))) c.cells.toNat
theorem lev_iff {c : Channel} (r : Right c) {L : List (List State)} (hL : Levs c L) {k : Nat} (hk : (k : Int) ≤ c.tides) {s : State} : s ∈ L.getD k [] ↔ ∃ l ∈ LL c, s = stL k l ∧ onB c k l = true := by
  have hc := r.cells
  rw [hL.mem k hk]
  constructor
  · intro h
    obtain ⟨v1, v2⟩ := on_V r k hk s h
    obtain ⟨l, hl, rfl⟩ := stL_of r v1 v2
    exact ⟨l, hl, rfl, (on_iff r k hk l ((mem_LL (by omega)).1 hl)).1 h⟩
  · rintro ⟨l, hl, rfl, h⟩
    exact (on_iff r k hk l ((mem_LL (by omega)).1 hl)).2 h
theorem levs_ix {c : Channel} (r : Right c) {L : List (List State)} (hL : Levs c L) {k : Int} (h0 : 0 ≤ k) (hk : k ≤ c.tides) : ix L k = some (L.getD k.toNat []) := ix_eq [] h0 (by have := hL.len; omega)
theorem cells_loop {l : List State} {i : Nat} (hi : i < 3) (hl : l.length ≤ 1000000000000) : iterM FU (yW l (i : Int)) ⟨0, []⟩ = some (l.map fun s => cGet s.at_ i) := by
  have key := iterM_run (f := yW l (i : Int)) (fun j => ⟨(j : Int), (l.take j).map fun s => cGet s.at_ i⟩) l.length (b := l.map fun s => cGet s.at_ i) (fun j hj => ?_) ?_ FU (FU_lt2 (by omega))
  · exact key
  · have e : l.take (j + 1) = l.take j ++ [l[j]] := by rw [List.take_append_getElem]
    have hx : l.getD j default = l[j] := by simp [List.getD_eq_getElem?_getD, hj]
    unfold yW
    simp only
    rw [if_pos (by omega), ix_nat default hj, Option.bind_some, hx, ix3 hi, Option.bind_some, appc_eq (by simp; omega), Option.bind_some, addc_eq (by omega), Option.bind_some, e, List.map_append]
    rfl
  · unfold yW
    simp only
    rw [if_neg (by omega), List.take_length]
theorem whereL_prog {c : Channel} (r : Right c) {L : List (List State)} (hL : Levs c L) {k i : Nat} (hk : (k : Int) ≤ c.tides) (hi : i < c.fords.length) : Go.Lib.compact (sortI ((L.getD k []).map fun s => cGet s.at_ i)) = whereL c k i := by
  have hc := r.cells
  have hf := r.fords
  refine asc_ext (compact_asc (sortI_sorted _)) filtL_asc (fun x => ?_)
  rw [compact_mem, mem_sortI, List.mem_map]
  unfold whereL
  rw [mem_filtL, List.any_eq_true]
  constructor
  · rintro ⟨s, hs, rfl⟩
    obtain ⟨l, hl, rfl, ho⟩ := (lev_iff r hL hk).1 hs
    have hr := rowB_iff.1 ((mem_LL (by omega)).1 hl)
    have e : cGet (stL k l).at_ i = l.getD i (-1) := cGet_mk (by omega)
    have hm := hr.2.2 _ (getD_mem (l := l) (i := i) (d := -1) (by omega))
    rw [e]
    refine ⟨hm.1, by omega, l, hl, ?_⟩
    rw [ho, Bool.true_and, decide_eq_true_eq]
    omega
  · rintro ⟨h0, h1, l, hl, h⟩
    rw [Bool.and_eq_true, decide_eq_true_eq] at h
    refine ⟨stL k l, (lev_iff r hL hk).2 ⟨l, hl, rfl, h.1⟩, ?_⟩
    rw [show cGet (stL k l).at_ i = l.getD i (-1) from cGet_mk (by omega), h.2]
    omega
theorem Zm {c : Channel} (h : Few c) (k i : Int) : yR c k i = some (if chk c = 0 then (if inb k 0 c.tides = true then (if inb i 0 ((c.fords.length : Int) - 1) = true then (if cntS tt c = 0 then ⟨7, []⟩ else ⟨0, whereL c k.toNat i.toNat⟩) else ⟨1, []⟩) else ⟨3, []⟩) else ⟨chk c, []⟩) := by
  unfold yR
  rw [Zt, Option.bind_some]
  by_cases h0 : chk c = 0
  · have r := rightOf h0
    have hf := r.fords
    rw [if_pos h0, if_pos h0, Zp, Option.bind_some, not_true_if]
    by_cases h1 : inb k 0 c.tides = true
    · rw [if_pos h1, if_pos h1, subc_eq (by omega), Option.bind_some, Yi, Option.bind_some, not_true_if]
      by_cases h2 : inb i 0 ((c.fords.length : Int) - 1) = true
      · rw [if_pos h2, if_pos h2]
        obtain ⟨L, e, hL⟩ := ZY h
        rw [e, Option.bind_some, if_pos h0]
        by_cases h3 : cntS tt c = 0
        · rw [if_pos h3, if_pos h3, oc_inl]
        · rw [if_neg h3, if_neg h3, oc_inr]
          have hL' := hL h0 h3
          have k1 := inb_iff.1 h1
          have i1 := inb_iff.1 h2
          rw [levs_ix r hL' k1.1 k1.2, Option.bind_some, show i = ((i.toNat : Nat) : Int) by omega, cells_loop (by omega) (hL'.bnd _ (by omega)), Option.bind_some]
          have hlen := hL'.bnd k.toNat (by omega)
          unfold KB
          rw [if_pos (by rw [List.length_map]; omega), Option.bind_some]
          unfold yH
          rw [if_pos (by rw [sortI_length, List.length_map]; omega), Option.bind_some, whereL_prog r hL' (by omega) (by omega), Int.toNat_natCast]
      · rw [if_neg h2, if_neg h2]
    · rw [if_neg h1, if_neg h1]
  · rw [if_neg h0, if_neg h0]
end Go.Proofs.Wb

namespace Go.Proofs.Wb
open Go Go.Fw Go.Gx Go.Sb
set_option maxRecDepth 100000
theorem awake_true : zI = some true := by decide +kernel
end Go.Proofs.Wb

namespace Go.Proofs.Wb
open Go Go.Fw Go.Gx Go.Sb
set_option linter.unusedVariables false
set_option maxRecDepth 100000
def WideP (c : Channel) : Prop := (10 < c.fords.length ∨ 10 < c.sands.length ∨ 14 < c.sights.length) ∨ c.fords.length = 3 ∨ (8 < c.cells ∧ c.cells ≤ 10)
instance (c : Channel) : Decidable (WideP c) := by unfold WideP; infer_instance
end Go.Proofs.Wb

namespace Go.Proofs.Wb
open Go Go.Fw Go.Gx Go.Sb
set_option linter.unusedVariables false
set_option maxRecDepth 100000
theorem cntS_sum {cnt : Nat → Bool} {c : Channel} (r : Right c) : cntS cnt c = sumN (LL c) (FcL cnt c c.tides.toNat) := by
  have hc := r.cells
  have h := FcL_sum (cnt := cnt) r c.tides.toNat 0
  unfold cntS
  rw [Nat.add_zero] at h
  rw [← h]
  refine sumN_congr fun l hl => ?_
  rw [R, agS_stL r ((mem_LL (by omega)).1 hl)]
  by_cases hag : agP cnt c.sights ((c.tides.toNat : Nat) : Int) l = true
  · rw [if_pos hag, Nat.mul_one]
  · rw [if_neg hag, Nat.mul_zero, FcL_ag hag]
theorem cntS_bnd {c : Channel} (r : Right c) : cntS tt c ≤ 1000000000000000 := by
  have ht := r.tides
  rw [cntS_sum r, sumN_li]
  have h := sumN_range_le (fun i => FcL tt c c.tides.toNat (li c i)) 1000000000000 (LL c).length (fun i => FcL_bnd r (by omega) _)
  have h2 := Nat.mul_le_mul_right 1000000000000 (LL_len r)
  omega
theorem Yj {c : Channel} (h : Few c) : qL c = some (if chk c = 0 then ⟨(cntS tt c : Int), 0⟩ else ⟨0, chk c⟩) := jac h
end Go.Proofs.Wb

namespace Go.Proofs.Wb
set_option maxHeartbeats 4000000
set_option maxRecDepth 100000
open Go Go.Fw Go.Gx Go.Sb
open Tryz
set_option linter.unusedVariables false

structure YO where
  t5_1 : Int
  t5_2 : Int
def Yt (shells0 : (List Int)) : Option YO :=
 some (⟨0, 0⟩ : YO)
theorem Z8 (shells0 : (List Int)) (qa0 : Option Addr) (na0 ca0 : Nat) (w : World) (hw : HV w (keys [] []) [] [] [(aB qa0, aO qa0, RU8.enc shells0)] w) (hna0 : shells0.length = na0) (hqa0 : AOK na0 qa0) (hla0 : na0 ≤ ca0) {res : YO} (hm : Yt shells0 = some res) :
    Calls Tryz.prog 62 #[.slice qa0 na0 ca0] w (fun en w' => ∃ l : Nat, en = .returned (ptr l 0) ∧ (True) ∧ HV w (keys [] []) [kc l #[.slice qa0 na0 ca0, .int .i64 res.t5_1, .int .u32 res.t5_2] 199] [] [] w') := by
  unfold Yt at hm
  refine yr func62 Y ntmps62 Y (e := [(0, _)]) Y hw (jr (jo Y Y (k7 (jg Y Y (jc Y Y Y (fun _ _ => k9 (vs := [(0, _)]) (cells := [_, _, _]) Y Y) ?_)))))
  refine jI Y Y (fun b h1 => ?_)
  refine jo Y Y (jq (jv ?_))
  obtain rfl := sj hm
  refine jm Y (fun w hh => (.tmp Y .nil)) (fun w hh => ⟨b, rfl, trivial, hh.se [0] [] 1 Y Y Y rfl⟩)
structure Ko where
  r0 : Int
  h0_1 : Int
  h0_2 : Int
structure K3 where
  h0_1 : Int
  h0_2 : Int
def Jd (h00 : (List Int)) (h01 : Int) (h02 : Int) : Option Ko :=
 (if h01 < (h00.length : Int) then
 ((ix h00 h01).bind fun t29 =>
 some (IntKind.u32.wrap ((IntKind.u32.wrap (40503 * (IntKind.u32.wrap (h02 + 1)))) + (IntKind.u32.wrap (331 * (IntKind.u32.wrap t29)))))) else
 (some (IntKind.u32.wrap (40503 * (IntKind.u32.wrap (h02 + 1)))))).bind fun o =>
 ((addc h01 1).bind fun t38 =>
 if (h00.length : Int) ≤ t38 then
 (some (⟨0, (IntKind.u32.wrap (h02 + 1))⟩ : K3)) else
 (some (⟨t38, h02⟩ : K3))).bind fun o_1 =>
 some (⟨(IntKind.i64.wrap (IntKind.u32.wrap (BitVec.ofInt IntKind.u32.bits (IntKind.u32.wrap (BitVec.ofInt IntKind.u32.bits o ^^^ BitVec.ofInt IntKind.u32.bits (Int.fdiv o (2 ^ min (Int.toNat 9) IntKind.u32.bits))).toNat) &&& BitVec.ofInt IntKind.u32.bits 32767).toNat)), o_1.h0_1, o_1.h0_2⟩ : Ko)
theorem Y7 (h00 : (List Int)) (h01 : Int) (h02 : Int) (pb : Nat) (qa0 : Option Addr) (na0 ca0 : Nat) (w : World) (hw : HV w (keys [kc pb #[.slice qa0 na0 ca0, .int .i64 h01, .int .u32 h02] 199] []) [kc pb #[.slice qa0 na0 ca0, .int .i64 h01, .int .u32 h02] 199] [] [(aB qa0, aO qa0, RU8.enc h00)] w) (hna0 : h00.length = na0) (hqa0 : AOK na0 qa0) (hla0 : na0 ≤ ca0) {res : Ko} (hm : Jd h00 h01 h02 = some res) :
    Calls Tryz.prog 180 #[ptr pb 0] w (fun en w' => ∃ l : Unit, en = .returned (.int .i64 res.r0) ∧ (True) ∧ HV w (keys [kc pb #[.slice qa0 na0 ca0, .int .i64 h01, .int .u32 h02] 199] []) [kc pb #[.slice qa0 na0 ca0, .int .i64 res.h0_1, .int .u32 res.h0_2] 199] [] [] w') := by
  unfold Jd at hm
  refine yr func180 Y ntmps180 Y (e := [(0, _)]) Y hw (jr (jo Y Y (k7 (jg Y Y (jc Y Y Y (fun _ _ => jQ Y) (yD 2 runUnderlying199 Y sizeOf197 Y Y (yf 0 isAgg197 Y Y Y Y ?_)))))))
  refine jc Y Y Y (fun _ _ => jas Y Y) (jc Y Y Y (fun _ _ => jaE Y Y) (jo Y Y (jq (ji ?_))))
  obtain ⟨o, h1, h2⟩ := bindO hm
  refine j3 (ι := Unit) (fun l => True) (fun l => [(0, ptr pb 0), (3, .int .u32 o)]) (fun l => [kc pb #[.slice qa0 na0 ca0, .int .i64 h01, .int .u32 h02] 199]) (fun l => []) ?_ ?_
  ·replace hm := h1
   refine ji ?_
   refine ky none (.free 0 (.free 1 (.free 2 (.hoist 3 (.free 4 (.free 5 (.free 6 (.hoist 7 (.free 8 (.free 9 .done)))))))))) _ Y (by decide +kernel) (fun w k hh => hh.draw k) (fun w hh => hh) ?_
   refine zs Y Y Y (jn Y Y Y Y (fun _ _ => jQ Y) (JT 1 runUnderlying199 sizeOf3 Y Y Y Y (Kg 0 isAgg3 Y Y Y Y Y (zs Y Y Y (jn Y Y Y Y (fun _ _ => jQ Y) (JT 0 runUnderlying199 sizeOf92 Y Y Y Y (Kg 0 isAgg92 Y Y Y Y Y ?_)))))))
   refine jn Y Y Y Y (fun w _ => qd hna0 (runUnderlying92 w) Y) (jn Y Y Y Y (fun _ _ => jak Y Y) (jM (ja ?_)))
   refine ju Y (fun h3 => ?_) (fun h3 => ?_)
   ·replace hm := ifD h3 hm
    refine ky none (.free 0 (.free 1 (.free 2 (.free 3 (.hoist 4 (.free 5 (.free 6 (.free 7 (.hoist 8 (.free 9 (.hoist 10 (.free 11 (.free 12 (.free 13 (.free 14 .done))))))))))))))) _ Y (by decide +kernel) (fun w k hh => hh.draw k) (fun w hh => hh) ?_
    refine zs Y Y Y (zs Y Y Y (jn Y Y Y Y (fun _ _ => jQ Y) (JT 0 runUnderlying199 sizeOf92 Y Y Y Y (Kg 0 isAgg92 Y Y Y Y Y (zs Y Y Y (jn Y Y Y Y (fun _ _ => jQ Y) (JT 1 runUnderlying199 sizeOf3 Y Y Y Y ?_)))))))
    refine Kg 0 isAgg3 Y Y Y Y Y ?_
    obtain ⟨t29, h4, hm⟩ := bindO hm
    refine jn Y Y Y Y (fun w _ => Jy h4 (runUnderlying92 w) (sizeOf5 w) Y Y hna0 hqa0) (jy Y Y Y Y (fun w hh => zR RU8 0 h4 (isAgg5 w) Y (hh.seg 0 Y) Y (Nat.add_zero _).symm) (jn Y Y Y Y (fun w _ => jaJ (runUnderlying5 w) (runUnderlying197 w) Y) (jn Y Y Y Y (fun _ _ => jaE Y Y) (jn Y Y Y Y (fun _ _ => jas Y Y) (jn Y Y Y Y (fun _ _ => kM Y) (jM ?_))))))
    obtain rfl := sj hm
    exact jk () (trivial) (sE Y) (fun w hh => hh)
   replace hm := ifE h3 hm
   refine jt ?_
   obtain rfl := sj hm
   exact jk () (trivial) (sE Y) (fun w hh => hh)
  intro l hj
  replace hm := h2
  refine ja (ji ?_)
  obtain ⟨o_1, h5, h6⟩ := bindO hm
  refine j3 (ι := Unit) (fun l_1 => True) (fun l_1 => [(3, .int .u32 o)]) (fun l_1 => [kc pb #[.slice qa0 na0 ca0, .int .i64 o_1.h0_1, .int .u32 o_1.h0_2] 199]) (fun l_1 => []) ?_ ?_
  ·replace hm := h5
   refine jr (jg Y Y (jc Y Y Y (fun _ _ => jQ Y) (yD 1 runUnderlying199 Y sizeOf3 Y Y (yf 0 isAgg3 Y Y Y Y ?_))))
   obtain ⟨t38, h7, hm⟩ := bindO hm
   refine Kq h7 Y Y Y (jc Y Y Y (fun _ _ => jQ Y) (yD 1 runUnderlying199 Y sizeOf3 Y Y (q4 (cs' := #[_, _, _]) (S' := [_]) 0 (fun w => sizeOf3 w) Y Y Y Y Y Y Y (jq (ji ?_)))))
   refine ky none (.free 0 (.free 1 (.free 2 (.hoist 3 (.free 4 (.free 5 (.free 6 (.hoist 7 (.free 8 (.free 9 .done)))))))))) _ Y (by decide +kernel) (fun w k hh => hh.draw k) (fun w hh => hh) ?_
   refine zs Y Y Y (jn Y Y Y Y (fun _ _ => jQ Y) (JT 1 runUnderlying199 sizeOf3 Y Y Y Y (Kg 0 isAgg3 Y Y Y Y Y (zs Y Y Y (jn Y Y Y Y (fun _ _ => jQ Y) (JT 0 runUnderlying199 sizeOf92 Y Y Y Y (Kg 0 isAgg92 Y Y Y Y Y ?_)))))))
   refine jn Y Y Y Y (fun w _ => qd hna0 (runUnderlying92 w) Y) (jn Y Y Y Y (fun _ _ => YI Y Y) (jM (ja ?_)))
   refine ju Y (fun h8 => ?_) (fun h8 => ?_)
   ·replace hm := ifD h8 hm
    refine je (jg Y Y (jg Y Y (jg Y Y (jc Y Y Y (fun _ _ => jQ Y) (yD 2 runUnderlying199 Y sizeOf197 Y Y (yf 0 isAgg197 Y Y Y Y (jc Y Y Y (fun _ _ => jas Y Y) ?_)))))))
    refine jc Y Y Y (fun _ _ => jQ Y) (yD 1 runUnderlying199 Y sizeOf3 Y Y (q4 (cs' := #[_, _, _]) (S' := [_]) 0 (fun w => sizeOf3 w) Y Y Y Y Y Y Y (jc Y Y Y (fun _ _ => jQ Y) (yD 2 runUnderlying199 Y sizeOf197 Y Y (q4 (cs' := #[_, _, _]) (S' := [_]) 0 (fun w => sizeOf197 w) Y Y Y Y Y Y Y (jx ?_))))))
    obtain rfl := sj hm
    exact jk () (trivial) (sE Y) (fun w hh => hh)
   replace hm := ifE h8 hm
   refine jt ?_
   obtain rfl := sj hm
   exact jk () (trivial) (sE Y) (fun w hh => hh)
  intro l_1 hj
  replace hm := h6
  refine ja (jr (jg Y Y (jg Y Y (jc Y Y Y (fun _ _ => ja5 Y Y (by decide)) (jc Y Y Y (fun _ _ => jar Y Y Y) (jc Y Y Y (fun _ _ => jar Y Y Y) (jc Y Y Y (fun w _ => jaJ (runUnderlying197 w) (runUnderlying3 w) Y) ?_)))))))
  refine jo Y Y (jq (jv ?_))
  obtain rfl := sj hm
  refine jm Y (fun w hh => (.tmp Y .nil)) (fun w hh => ⟨(), rfl, trivial, hh.se [0] [] 1 Y Y Y rfl⟩)
structure yV where
  r0 : Int
  h0_1 : Int
  h0_2 : Int
def jU (h00 : (List Int)) (h01 : Int) (h02 : Int) (n1 : Int) : Option yV :=
 (Jd h00 h01 h02).bind fun t6 =>
 (addc n1 1).bind fun t8 =>
 (remc t6.r0 (max 1 t8)).bind fun t10 =>
 some (⟨t10, t6.h0_1, t6.h0_2⟩ : yV)
theorem j8 (h00 : (List Int)) (h01 : Int) (h02 : Int) (n1 : Int) (pb : Nat) (qa0 : Option Addr) (na0 ca0 : Nat) (w : World) (hw : HV w (keys [kc pb #[.slice qa0 na0 ca0, .int .i64 h01, .int .u32 h02] 199] []) [kc pb #[.slice qa0 na0 ca0, .int .i64 h01, .int .u32 h02] 199] [] [(aB qa0, aO qa0, RU8.enc h00)] w) (hna0 : h00.length = na0) (hqa0 : AOK na0 qa0) (hla0 : na0 ≤ ca0) {res : yV} (hm : jU h00 h01 h02 n1 = some res) :
    Calls Tryz.prog 146 #[ptr pb 0, .int .i64 n1] w (fun en w' => ∃ l : Unit, en = .returned (.int .i64 res.r0) ∧ (True) ∧ HV w (keys [kc pb #[.slice qa0 na0 ca0, .int .i64 h01, .int .u32 h02] 199] []) [kc pb #[.slice qa0 na0 ca0, .int .i64 res.h0_1, .int .u32 res.h0_2] 199] [] [] w') := by
  unfold jU at hm
  refine yr func146 Y ntmps146 Y (e := [(0, _), (1, _)]) Y hw (jr (jo Y Y (k7 (jg Y Y ?_))))
  obtain ⟨t6, h1, hm⟩ := bindO hm
  refine jd [_] [] Y Y Y Y Y Y Y call180 (fun w hh => Y7 h00 h01 h02 pb qa0 na0 ca0 w (HV.callee (S0 := [_]) (vs0 := []) hh (roR hh 0 Y roN)) hna0 hqa0 hla0 h1) (fun l h2 => ?_)
  refine jV (S' := [_]) (vs' := []) [0] [] 0 Y Y Y Y (jg Y Y ?_)
  obtain ⟨t8, h3, hm⟩ := bindO hm
  refine Kq h3 Y Y Y (jc Y Y Y (fun _ _ => ZK Y Y) ?_)
  obtain ⟨t10, h4, hm⟩ := bindO hm
  refine jc Y Y Y (fun _ _ => jba h4 Y Y) (jo Y Y (jq (jv ?_)))
  obtain rfl := sj hm
  refine jm Y (fun w hh => (.tmp Y .nil)) (fun w hh => ⟨(), rfl, trivial, hh.se [0] [] 1 Y Y Y rfl⟩)
structure yl where
  r0 : Int
  h0_1 : Int
  h0_2 : Int
def yY (h00 : (List Int)) (h01 : Int) (h02 : Int) (lo1 : Int) (hi2 : Int) : Option yl :=
 (subc hi2 lo1).bind fun t11 =>
 (jU h00 h01 h02 t11).bind fun t12 =>
 (addc lo1 t12.r0).bind fun t13 =>
 some (⟨t13, t12.h0_1, t12.h0_2⟩ : yl)
theorem KO (h00 : (List Int)) (h01 : Int) (h02 : Int) (lo1 : Int) (hi2 : Int) (pb : Nat) (qa0 : Option Addr) (na0 ca0 : Nat) (w : World) (hw : HV w (keys [kc pb #[.slice qa0 na0 ca0, .int .i64 h01, .int .u32 h02] 199] []) [kc pb #[.slice qa0 na0 ca0, .int .i64 h01, .int .u32 h02] 199] [] [(aB qa0, aO qa0, RU8.enc h00)] w) (hna0 : h00.length = na0) (hqa0 : AOK na0 qa0) (hla0 : na0 ≤ ca0) {res : yl} (hm : yY h00 h01 h02 lo1 hi2 = some res) :
    Calls Tryz.prog 145 #[ptr pb 0, .int .i64 lo1, .int .i64 hi2] w (fun en w' => ∃ l : Unit, en = .returned (.int .i64 res.r0) ∧ (True) ∧ HV w (keys [kc pb #[.slice qa0 na0 ca0, .int .i64 h01, .int .u32 h02] 199] []) [kc pb #[.slice qa0 na0 ca0, .int .i64 res.h0_1, .int .u32 res.h0_2] 199] [] [] w') := by
  unfold yY at hm
  refine yr func145 Y ntmps145 Y (e := [(0, _), (1, _), (2, _)]) Y hw (jr (jo Y Y (k7 (jg Y Y (jg Y Y (jg Y Y (jg Y Y ?_)))))))
  obtain ⟨t11, h1, hm⟩ := bindO hm
  refine jc Y Y Y (fun _ _ => zO h1 Y Y) ?_
  obtain ⟨t12, h2, hm⟩ := bindO hm
  refine jd [_] [] Y Y Y Y Y Y Y call146 (fun w hh => j8 h00 h01 h02 t11 pb qa0 na0 ca0 w (HV.callee (S0 := [_]) (vs0 := []) hh (roR hh 0 Y roN)) hna0 hqa0 hla0 h2) (fun l h3 => ?_)
  refine jV (S' := [_]) (vs' := []) [0] [] 0 Y Y Y Y ?_
  obtain ⟨t13, h4, hm⟩ := bindO hm
  refine Kq h4 Y Y Y (jo Y Y (jq (jv ?_)))
  obtain rfl := sj hm
  refine jm Y (fun w hh => (.tmp Y .nil)) (fun w hh => ⟨(), rfl, trivial, hh.se [0] [] 1 Y Y Y rfl⟩)
structure Kj where
  r0 : Bool
  h0_1 : Int
  h0_2 : Int
def zA (h00 : (List Int)) (h01 : Int) (h02 : Int) (n1 : Int) : Option Kj :=
 (subc n1 1).bind fun t7 =>
 (jU h00 h01 h02 t7).bind fun t8 =>
 some (⟨(decide (t8.r0 = 0)), t8.h0_1, t8.h0_2⟩ : Kj)
theorem Q3 (h00 : (List Int)) (h01 : Int) (h02 : Int) (n1 : Int) (pb : Nat) (qa0 : Option Addr) (na0 ca0 : Nat) (w : World) (hw : HV w (keys [kc pb #[.slice qa0 na0 ca0, .int .i64 h01, .int .u32 h02] 199] []) [kc pb #[.slice qa0 na0 ca0, .int .i64 h01, .int .u32 h02] 199] [] [(aB qa0, aO qa0, RU8.enc h00)] w) (hna0 : h00.length = na0) (hqa0 : AOK na0 qa0) (hla0 : na0 ≤ ca0) {res : Kj} (hm : zA h00 h01 h02 n1 = some res) :
    Calls Tryz.prog 68 #[ptr pb 0, .int .i64 n1] w (fun en w' => ∃ l : Unit, en = .returned (.bool res.r0) ∧ (True) ∧ HV w (keys [kc pb #[.slice qa0 na0 ca0, .int .i64 h01, .int .u32 h02] 199] []) [kc pb #[.slice qa0 na0 ca0, .int .i64 res.h0_1, .int .u32 res.h0_2] 199] [] [] w') := by
  unfold zA at hm
  refine yr func68 Y ntmps68 Y (e := [(0, _), (1, _)]) Y hw (jr (jo Y Y (k7 (jg Y Y (jg Y Y ?_)))))
  obtain ⟨t7, h1, hm⟩ := bindO hm
  refine jc Y Y Y (fun _ _ => zO h1 Y Y) ?_
  obtain ⟨t8, h2, hm⟩ := bindO hm
  refine jd [_] [] Y Y Y Y Y Y Y call146 (fun w hh => j8 h00 h01 h02 t7 pb qa0 na0 ca0 w (HV.callee (S0 := [_]) (vs0 := []) hh (roR hh 0 Y roN)) hna0 hqa0 hla0 h2) (fun l h3 => ?_)
  refine jV (S' := [_]) (vs' := []) [0] [] 0 Y Y Y Y (jc Y Y Y (fun _ _ => Ju Y Y) (jo Y Y (jq (jv ?_))))
  obtain rfl := sj hm
  refine jm Y (fun w hh => (.tmp Y .nil)) (fun w hh => ⟨(), rfl, trivial, hh.se [0] [] 1 Y Y Y rfl⟩)
structure kX where
  h0_1 : Int
  h0_2 : Int
  r0 : (List Int)
structure KQ where
  h0_1 : Int
  h0_2 : Int
  out5 : (List Int)
structure zH where
  t9 : Int
  h0_1 : Int
  h0_2 : Int
  out5 : (List Int)
def yX (n1 : Int) (h00 : (List Int)) (s : zH) : Option (zH ⊕ KQ) :=
 if s.t9 < (max 0 n1) then
 ((jU h00 s.h0_1 s.h0_2 s.t9).bind fun t15 =>
 (z7 s.out5 t15.r0 [s.t9]).bind fun t18 =>
 (addc s.t9 1).bind fun t19 =>
 some (.inl (⟨t19, t15.h0_1, t15.h0_2, t18⟩ : zH))) else
 (some (.inr (⟨s.h0_1, s.h0_2, s.out5⟩ : KQ)))
def yG (h00 : (List Int)) (h01 : Int) (h02 : Int) (n1 : Int) : Option kX :=
 (iterM FU (yX n1 h00) (⟨0, h01, h02, []⟩ : zH)).bind fun o =>
 some (⟨o.h0_1, o.h0_2, o.out5⟩ : kX)
theorem Kx (h00 : (List Int)) (h01 : Int) (h02 : Int) (n1 : Int) (pb : Nat) (qa0 : Option Addr) (na0 ca0 : Nat) (w : World) (hw : HV w (keys [kc pb #[.slice qa0 na0 ca0, .int .i64 h01, .int .u32 h02] 199] []) [kc pb #[.slice qa0 na0 ca0, .int .i64 h01, .int .u32 h02] 199] [] [(aB qa0, aO qa0, RU8.enc h00)] w) (hna0 : h00.length = na0) (hqa0 : AOK na0 qa0) (hla0 : na0 ≤ ca0) {res : kX} (hm : yG h00 h01 h02 n1 = some res) :
    Calls Tryz.prog 69 #[ptr pb 0, .int .i64 n1] w (fun en w' => ∃ l : VL, en = .returned (sL l) ∧ (VOK 1 l.n l.cap (RI.enc res.r0) l.sp l.q) ∧ HV w (keys [kc pb #[.slice qa0 na0 ca0, .int .i64 h01, .int .u32 h02] 199] []) [kc pb #[.slice qa0 na0 ca0, .int .i64 res.h0_1, .int .u32 res.h0_2] 199] [vL 3 l (RI.enc res.r0)] [] w') := by
  unfold yG at hm
  refine yr func69 Y ntmps69 Y (e := [(0, _), (1, _)]) Y hw (jr (jc Y Y Y (fun _ _ => yc Y) (k7 (jc Y Y Y (fun _ _ => yc Y) (jq (ji (jr ?_)))))))
  refine jg Y Y (jc Y Y Y (fun _ _ => ZK Y Y) (jg Y Y (jq (zV 3 ?_))))
  obtain ⟨o, h2, h3⟩ := bindO hm
  refine j3 (ι := VL) (fun l => VOK 1 l.n l.cap (RI.enc o.out5) l.sp l.q) (fun l => [(5, sL l)]) (fun l => [kc pb #[.slice qa0 na0 ca0, .int .i64 o.h0_1, .int .u32 o.h0_2] 199]) (fun l => [vL 3 l (RI.enc o.out5)]) ?_ ?_
  ·replace hm := h2
   refine jp ?_
   refine kk (ι := VL) hm (fun s l_1 => VOK 1 l_1.n l_1.cap (RI.enc s.out5) l_1.sp l_1.q) (fun s l_1 => [(0, ptr pb 0), (5, sL l_1), (8, .int .i64 (max 0 n1)), (9, .int .i64 s.t9)]) (fun s l_1 => [kc pb #[.slice qa0 na0 ca0, .int .i64 s.h0_1, .int .u32 s.h0_2] 199]) (fun s l_1 => [vL 3 l_1 (RI.enc s.out5)]) ⟨none, 0, 0, []⟩ (VOK.nil) (sE Y) (fun w hh => hh) (fun s l_1 r hpl hm h6 => ?_)
   have h5 := hpl
   unfold yX at hm
   refine jr (Kv Y Y Y (jq (ji ?_)))
   refine ju Y (fun h7 => ?_) (fun h7 => ?_)
   ·replace hm := ifD h7 hm
    refine jt (ja (ji (jp (jr (jg Y Y (jo Y Y (jq ?_)))))))
    refine je (jg Y Y (jg Y Y (jg Y Y ?_)))
    obtain ⟨t15, h8, hm⟩ := bindO hm
    refine jd [_] [] Y Y Y Y Y Y Y call146 (fun w hh => j8 h00 s.h0_1 s.h0_2 s.t9 pb qa0 na0 ca0 w (HV.callee (S0 := [_]) (vs0 := []) hh (roR hh 0 Y roN)) hna0 hqa0 hla0 h8) (fun l_2 h9 => ?_)
    refine jV (S' := [_]) (vs' := [_]) [0] [0] 0 Y Y Y Y (jg Y Y ?_)
    refine qE RI [s.t9] (ps := [(0, _)]) (cells := [_]) (fun w => runUnderlying22 w) (fun w => sizeOf3 w) (fun w => zeroValue3 w) Y Y Y Y Y Y Y Y (fun L h10 => ?_)
    obtain ⟨t18, h11, hm⟩ := bindO hm
    refine jV (S' := [_]) (vs' := [_, _]) [0] [1, 0] 0 Y Y Y Y ?_
    refine jd [] [_, _] Y Y Y Y Y Y Y call149 (fun w hh => YU s.out5 t15.r0 [s.t9] ⟨l_1.q, l_1.n, l_1.cap, l_1.sp⟩ ⟨L.q, L.n, L.cap, L.sp⟩ w (HV.callee (S0 := []) (vs0 := [_, _]) hh roN) h5 h10 h11) (fun l_3 h12 => ?_)
    have h13 := h12
    refine jV (S' := [_]) (vs' := [_, _]) [0] [0, 1] 0 Y Y Y Y (jo Y Y (jx (jw (ja (je ?_)))))
    obtain ⟨t19, h14, hm⟩ := bindO hm
    refine Kq h14 Y Y Y (jg Y Y (jx ?_))
    obtain rfl := sj hm
    refine ja ?_
    exact jN _ l_3 Y (h13) (sE Y) (hsE [0] [0] 0 Y Y Y Y)
   replace hm := ifE h7 hm
   refine kN (jl (jl (jO ?_)))
   obtain rfl := sj hm
   have hbo := h6 _ Y
   subst hbo
   exact jk l_1 (h5) (sE Y) (fun w hh => hh)
  intro l hj
  have h4 := hj
  replace hm := h3
  refine ja (jr (jg Y Y (jo Y Y (jq (jv ?_)))))
  obtain rfl := sj hm
  refine jm Y (fun w hh => (.tmp Y .nil)) (fun w hh => ⟨l, rfl, h4, hh.se [0] [0] 1 Y Y Y rfl⟩)
structure ya where
  r5 : Int
  t11 : Int
def yb (c0 : Channel) (cell1 : Int) (s : ya) : Option (ya ⊕ Int) :=
 if s.t11 < (c0.sands.length : Int) then
 (((ix c0.sands s.t11).bind fun t13 =>
 (if t13.span.lo ≤ cell1 then
 (some (decide (cell1 ≤ t13.span.hi))) else
 (some false)).bind fun o_2 =>
 if o_2 = true then
 (some (max s.r5 t13.reach)) else
 (some s.r5)).bind fun o_1 =>
 (addc s.t11 1).bind fun t31 =>
 some (.inl (⟨o_1, t31⟩ : ya))) else
 (some (.inr s.r5))
def yi (c0 : Channel) (cell1 : Int) : Option Int :=
 (iterM FU (yb c0 cell1) (⟨0, 0⟩ : ya)).bind fun o =>
 some o
theorem KM (c0 : Channel) (cell1 : Int) (qa0 : Option Addr) (na0 ca0 : Nat) (qa1 : Option Addr) (na1 ca1 : Nat) (qa2 : Option Addr) (na2 ca2 : Nat) (w : World) (hw : HV w (keys [] []) [] [] [(aB qa0, aO qa0, RI.enc c0.fords), (aB qa1, aO qa1, RSa.enc c0.sands), (aB qa2, aO qa2, RSi.enc c0.sights)] w) (hna0 : c0.fords.length = na0) (hqa0 : AOK na0 qa0) (hla0 : na0 ≤ ca0) (hna1 : c0.sands.length = na1) (hqa1 : AOK na1 qa1) (hla1 : na1 ≤ ca1) (hna2 : c0.sights.length = na2) (hqa2 : AOK na2 qa2) (hla2 : na2 ≤ ca2) {res : Int} (hm : yi c0 cell1 = some res) :
    Calls Tryz.prog 63 #[.agg #[.int .i64 c0.cells, .int .i64 c0.tides, .slice qa0 na0 ca0, .slice qa1 na1 ca1, .slice qa2 na2 ca2], .int .i64 cell1] w (fun en w' => ∃ l : Unit, en = .returned (.int .i64 res) ∧ (True) ∧ HV w (keys [] []) [] [] [] w') := by
  unfold yi at hm
  refine yr func63 Y ntmps63 Y (e := [(0, _), (1, _)]) Y hw (jr ?_)
  refine jI Y Y (fun b h1 => ?_)
  refine jo Y Y (k7 (jo Y Y (jq (ji (jr (yD 3 runUnderlying26 Y sizeOf23 Y Y (yf 0 isAgg23 Y Y Y Y ?_)))))))
  refine jc Y Y Y (fun w _ => qd hna1 (runUnderlying23 w) Y) (jg Y Y (jq ?_))
  obtain ⟨o, h2, h3⟩ := bindO hm
  refine j3 (ι := Unit) (fun l => True) (fun l => [(5, .int .i64 o)]) (fun l => [kc b #[.int .i64 c0.cells, .int .i64 c0.tides, .slice qa0 na0 ca0, .slice qa1 na1 ca1, .slice qa2 na2 ca2] 26]) (fun l => []) ?_ ?_
  ·replace hm := h2
   refine jp ?_
   refine kk (ι := Unit) hm (fun s l_1 => True) (fun s l_1 => [(1, .int .i64 cell1), (5, .int .i64 s.r5), (9, .slice qa1 na1 ca1), (10, .int .i64 (c0.sands.length : Int)), (11, .int .i64 s.t11)]) (fun s l_1 => [kc b #[.int .i64 c0.cells, .int .i64 c0.tides, .slice qa0 na0 ca0, .slice qa1 na1 ca1, .slice qa2 na2 ca2] 26]) (fun s l_1 => []) () (trivial) (sE Y) (fun w hh => hh) (fun s l_1 r hpl hm h4 => ?_)
   unfold yb at hm
   refine jr (Kv Y Y Y (jq (ji ?_)))
   refine ju Y (fun h5 => ?_) (fun h5 => ?_)
   ·replace hm := ifD h5 hm
    refine jt (ja (ji ?_))
    obtain ⟨o_1, h6, h7⟩ := bindO hm
    refine j3 (ι := Unit) (fun l_2 => True) (fun l_2 => [(1, .int .i64 cell1), (5, .int .i64 o_1), (9, .slice qa1 na1 ca1), (10, .int .i64 (c0.sands.length : Int)), (11, .int .i64 s.t11)]) (fun l_2 => [kc b #[.int .i64 c0.cells, .int .i64 c0.tides, .slice qa0 na0 ca0, .slice qa1 na1 ca1, .slice qa2 na2 ca2] 26]) (fun l_2 => []) ?_ ?_
    ·replace hm := h6
     refine jp (jr ?_)
     obtain ⟨t13, h8, hm⟩ := bindO hm
     refine jc Y Y Y (fun w _ => Jy h8 (runUnderlying23 w) (sizeOf98 w) Y Y hna1 hqa1) ?_
     refine jc Y Y Y (fun w hh => JE RSa 0 [.int .i64 t13.span.lo, .int .i64 t13.span.hi, .int .i64 t13.reach] h8 (isAgg98 w) (sizeOf98 w) Y (hh.seg 1 Y) Y (Nat.add_zero _).symm) ?_
     refine js (fun w => zeroValue98 w) Y (fun b_1 h9 => ?_)
     refine kz (us := #[_, _, _]) (cs' := [_, _, _]) (S' := [_, _]) 0 (fun w => sizeOf98 w) Y Y Y Y Y Y Y (jq (ji ?_))
     obtain ⟨o_2, h10, h11⟩ := bindO hm
     refine j3 (ι := Unit) (fun l_3 => True) (fun l_3 => [(1, .int .i64 cell1), (5, .int .i64 s.r5), (7, ptr b_1 0), (9, .slice qa1 na1 ca1), (10, .int .i64 (c0.sands.length : Int)), (11, .int .i64 s.t11), (26, .bool o_2)]) (fun l_3 => [kc b_1 #[.int .i64 t13.span.lo, .int .i64 t13.span.hi, .int .i64 t13.reach] 98, kc b #[.int .i64 c0.cells, .int .i64 c0.tides, .slice qa0 na0 ca0, .slice qa1 na1 ca1, .slice qa2 na2 ca2] 26]) (fun l_3 => []) ?_ ?_
     ·replace hm := h10
      refine je (yD 0 runUnderlying98 Y sizeOf50 Y Y (yD 0 runUnderlying50 Y sizeOf3 Y Y (yf 0 isAgg3 Y Y Y Y (jg Y Y (jc Y Y Y (fun _ _ => Z1 Y Y) (jg Y Y ?_))))))
      refine j4 20 Y (fun h12 => ?_) (fun h12 => ?_)
      ·replace hm := ifD h12 hm
       refine jb Y Y (jg Y Y (jb Y Y (yD 0 runUnderlying98 Y sizeOf50 Y Y (jb Y Y (yD 1 runUnderlying50 Y sizeOf3 Y Y (jb Y Y (yf 0 isAgg3 Y Y Y Y ?_)))))))
       refine jb Y Y (jc Y Y Y (fun _ _ => Z1 Y Y) (yy Y Y Y (jx ?_)))
       obtain rfl := sj hm
       exact jk () (trivial) (sE Y) (fun w hh => hh)
      replace hm := ifE h12 hm
      refine g_k Y Y Y Y (g_k Y Y Y Y (g_k Y Y Y Y (g_k Y Y Y Y (g_k Y Y Y Y (zu Y Y Y (jx ?_))))))
      obtain rfl := sj hm
      exact jk () (trivial) (sE Y) (fun w hh => hh)
     intro l_3 hj
     replace hm := h11
     refine ja ?_
     refine ju Y (fun h13 => ?_) (fun h13 => ?_)
     ·replace hm := ifT (h13) hm
      refine je (jg Y Y (yD 2 runUnderlying98 Y sizeOf3 Y Y (yf 0 isAgg3 Y Y Y Y (jc Y Y Y (fun _ _ => ZK Y Y) (jo Y Y (jx (jw ?_)))))))
      obtain rfl := sj hm
      exact jk () (trivial) (sE Y) (hsE [1] [] 0 Y Y Y Y)
     replace hm := ifN h13 hm
     refine jt (jw ?_)
     obtain rfl := sj hm
     exact jk () (trivial) (sE Y) (hsE [1] [] 0 Y Y Y Y)
    intro l_2 hj
    replace hm := h7
    refine ja (je ?_)
    obtain ⟨t31, h14, hm⟩ := bindO hm
    refine Kq h14 Y Y Y (jg Y Y (jx ?_))
    obtain rfl := sj hm
    refine ja ?_
    exact jN _ () Y (trivial) (sE Y) (fun w hh => hh)
   replace hm := ifE h5 hm
   refine kN (jl (jl (jO ?_)))
   obtain rfl := sj hm
   have hbo := h4 _ Y
   subst hbo
   exact jk () (trivial) (sE Y) (fun w hh => hh)
  intro l hj
  replace hm := h3
  refine ja (jr (jg Y Y (jo Y Y (jq (jv ?_)))))
  obtain rfl := sj hm
  refine jm Y (fun w hh => (.tmp Y .nil)) (fun w hh => ⟨(), rfl, trivial, hh.se [] [] 3 Y Y Y rfl⟩)
structure zy where
  b0_1 : Int
  b0_2 : Int
  r0 : (List (List Int))
structure JF where
  b0_1 : Int
  b0_2 : Int
  out5 : (List (List Int))
structure yo where
  t17 : Int
  b0_1 : Int
  b0_2 : Int
  out5 : (List (List Int))
structure JB where
  b0_1 : Int
  b0_2 : Int
  r0 : (List Int)
structure yn where
  t33 : Int
  b0_1 : Int
  b0_2 : Int
  r0 : (List Int)
structure JD where
  b0_1 : Int
  b0_2 : Int
  r0 : (List Int)
def qu (t31 : kX) (t27 : (List Int)) (c1 : Channel) (b00 : (List Int)) (s_1 : yn) : Option (yn ⊕ JB) :=
 if s_1.t33 < (t31.r0.length : Int) then
 (((ix t31.r0 s_1.t33).bind fun t35 =>
 (ix t27 t35).bind fun t39 =>
 (ix t27 t35).bind fun t45 =>
 (ix t27 t35).bind fun t52 =>
 (yi c1 t45).bind fun t47 =>
 (negc t47).bind fun t48 =>
 (yi c1 t52).bind fun t54 =>
 (yY b00 s_1.b0_1 s_1.b0_2 t48 t54).bind fun t55 =>
 (addc t39 t55.r0).bind fun t56 =>
 (if 0 ≤ t56 then
 (if t56 < c1.cells then
 (if t35 = 0 then
 ((subc (s_1.r0.length : Int) 1).bind fun t82 =>
 if t35 = t82 then
 (some true) else
 ((addc t35 1).bind fun t88 =>
 (ix s_1.r0 t88).bind fun t89 =>
 some (decide (t56 < t89)))) else
 ((subc t35 1).bind fun t72 =>
 (ix s_1.r0 t72).bind fun t73 =>
 if t73 < t56 then
 ((subc (s_1.r0.length : Int) 1).bind fun t82_1 =>
 if t35 = t82_1 then
 (some true) else
 ((addc t35 1).bind fun t88_1 =>
 (ix s_1.r0 t88_1).bind fun t89_1 =>
 some (decide (t56 < t89_1)))) else
 (some false))) else
 (some false)) else
 (some false)).bind fun o_3 =>
 if o_3 = true then
 ((ix s_1.r0 t35).bind fun t97 =>
 (some (s_1.r0.set (Int.toNat t35) t56)).bind fun r0 =>
 some (⟨t55.h0_1, t55.h0_2, r0⟩ : JD)) else
 (some (⟨t55.h0_1, t55.h0_2, s_1.r0⟩ : JD))).bind fun o_2 =>
 (addc s_1.t33 1).bind fun t98 =>
 some (.inl (⟨t98, o_2.b0_1, o_2.b0_2, o_2.r0⟩ : yn))) else
 (some (.inr (⟨s_1.b0_1, s_1.b0_2, s_1.r0⟩ : JB)))
def qz (c1 : Channel) (b00 : (List Int)) (s : yo) : Option (yo ⊕ JF) :=
 if s.t17 < c1.tides then
 ((subc (s.out5.length : Int) 1).bind fun t22 =>
 (ix s.out5 t22).bind fun t23 =>
 (Jb t23).bind fun t25 =>
 (Jb t25).bind fun t27 =>
 (yG b00 s.b0_1 s.b0_2 (t25.length : Int)).bind fun t31 =>
 (iterM FU (qu t31 t27 c1 b00) (⟨0, t31.h0_1, t31.h0_2, t25⟩ : yn)).bind fun o_1 =>
 (appc 24 s.out5 [o_1.r0]).bind fun t102 =>
 (addc s.t17 1).bind fun t103 =>
 some (.inl (⟨t103, o_1.b0_1, o_1.b0_2, t102⟩ : yo))) else
 (some (.inr (⟨s.b0_1, s.b0_2, s.out5⟩ : JF)))
def yg (b00 : (List Int)) (b01 : Int) (b02 : Int) (c1 : Channel) : Option zy :=
 (Jb c1.fords).bind fun t13 =>
 (iterM FU (qz c1 b00) (⟨0, b01, b02, [t13]⟩ : yo)).bind fun o =>
 some (⟨o.b0_1, o.b0_2, o.out5⟩ : zy)
theorem QP (b00 : (List Int)) (b01 : Int) (b02 : Int) (c1 : Channel) (pb : Nat) (qa0 : Option Addr) (na0 ca0 : Nat) (qa1 : Option Addr) (na1 ca1 : Nat) (qa2 : Option Addr) (na2 ca2 : Nat) (qa3 : Option Addr) (na3 ca3 : Nat) (w : World) (hw : HV w (keys [kc pb #[.slice qa0 na0 ca0, .int .i64 b01, .int .u32 b02] 199] []) [kc pb #[.slice qa0 na0 ca0, .int .i64 b01, .int .u32 b02] 199] [] [(aB qa0, aO qa0, RU8.enc b00), (aB qa1, aO qa1, RI.enc c1.fords), (aB qa2, aO qa2, RSa.enc c1.sands), (aB qa3, aO qa3, RSi.enc c1.sights)] w) (hna0 : b00.length = na0) (hqa0 : AOK na0 qa0) (hla0 : na0 ≤ ca0) (hna1 : c1.fords.length = na1) (hqa1 : AOK na1 qa1) (hla1 : na1 ≤ ca1) (hna2 : c1.sands.length = na2) (hqa2 : AOK na2 qa2) (hla2 : na2 ≤ ca2) (hna3 : c1.sights.length = na3) (hqa3 : AOK na3 qa3) (hla3 : na3 ≤ ca3) {res : zy} (hm : yg b00 b01 b02 c1 = some res) :
    Calls Tryz.prog 78 #[ptr pb 0, .agg #[.int .i64 c1.cells, .int .i64 c1.tides, .slice qa1 na1 ca1, .slice qa2 na2 ca2, .slice qa3 na3 ca3]] w (fun en w' => ∃ l : DL, en = .returned (sL l.v) ∧ (VOK 1 l.v.n l.v.cap (RwH.enc l.rs) l.v.sp l.v.q ∧ DOK RI res.r0 l.rs) ∧ HV w (keys [kc pb #[.slice qa0 na0 ca0, .int .i64 b01, .int .u32 b02] 199] []) [kc pb #[.slice qa0 na0 ca0, .int .i64 res.b0_1, .int .u32 res.b0_2] 199] [⟨22, RwH.enc l.rs, l.v.sp, l.v.q, dbl 3 RI res.r0 l.rs⟩] [] w') := by
  unfold yg at hm
  refine yr func78 Y ntmps78 Y (e := [(0, _), (1, _)]) Y hw (jr ?_)
  refine jI Y Y (fun b h3 => ?_)
  refine jc Y Y Y (fun _ _ => yc Y) (k7 (yD 2 runUnderlying26 Y sizeOf22 Y Y (yf 0 isAgg22 Y Y Y Y ?_)))
  obtain ⟨t13, h4, hm⟩ := bindO hm
  refine jd [] [] Y Y Y Y Y Y Y call46 (fun w hh => QA c1.fords qa1 na1 ca1 w (HV.callee (S0 := []) (vs0 := []) hh (roR hh 1 Y roN)) hna1 hqa1 hla1 h4) (fun l h5 => ?_)
  have h6 := h5
  refine jV (S' := [_, _]) (vs' := [_]) [0, 1] [0] 0 Y Y Y Y ?_
  refine qE RwH [(⟨l.q, l.n, l.cap, l.sp⟩ : VL)] (ps := [(0, _)]) (cells := [_]) (fun w => runUnderlying41 w) (fun w => sizeOf22 w) (fun w => zeroValue22 w) Y Y Y Y Y Y Y Y (fun L h7 => ?_)
  refine Zs (E2 := 3) RI 1 (Y : _ = ([[]] : List (List Int))) (fun h8 => ?_)
  refine jV (S' := [_, _]) (vs' := [_, _]) [0, 1] [0, 1] 0 Y Y Y Y ?_
  refine Zq RI (l' := [t13]) 0 l.n l.cap h8 h6 Y Y (fun h9 => ?_)
  have h10 : DOK RI [t13] [(⟨l.q, l.n, l.cap, l.sp⟩ : VL)] := h9
  refine jad (S' := [_, _]) (vs' := [⟨22, RwH.enc [(⟨l.q, l.n, l.cap, l.sp⟩ : VL)], L.sp, L.q, dbl 3 RI [t13] [(⟨l.q, l.n, l.cap, l.sp⟩ : VL)]⟩]) [0, 1] [0] 0 (by decide) (by decide) Y Y Y ?_
  refine jo Y Y (jq (ji (jr (yD 1 runUnderlying26 Y sizeOf3 Y Y (yf 0 isAgg3 Y Y Y Y (jg Y Y (jq ?_)))))))
  obtain ⟨o, h11, h12⟩ := bindO hm
  refine j3 (ι := DL) (fun l_1 => VOK 1 l_1.v.n l_1.v.cap (RwH.enc l_1.rs) l_1.v.sp l_1.v.q ∧ DOK RI o.out5 l_1.rs) (fun l_1 => [(5, sL l_1.v)]) (fun l_1 => [kc b #[.int .i64 c1.cells, .int .i64 c1.tides, .slice qa1 na1 ca1, .slice qa2 na2 ca2, .slice qa3 na3 ca3] 26, kc pb #[.slice qa0 na0 ca0, .int .i64 o.b0_1, .int .u32 o.b0_2] 199]) (fun l_1 => [⟨22, RwH.enc l_1.rs, l_1.v.sp, l_1.v.q, dbl 3 RI o.out5 l_1.rs⟩]) ?_ ?_
  ·replace hm := h11
   refine jp ?_
   refine kk (ι := DL) hm (fun s l_2 => VOK 1 l_2.v.n l_2.v.cap (RwH.enc l_2.rs) l_2.v.sp l_2.v.q ∧ DOK RI s.out5 l_2.rs) (fun s l_2 => [(0, ptr pb 0), (3, ptr b 0), (5, sL l_2.v), (16, .int .i64 c1.tides), (17, .int .i64 s.t17)]) (fun s l_2 => [kc b #[.int .i64 c1.cells, .int .i64 c1.tides, .slice qa1 na1 ca1, .slice qa2 na2 ca2, .slice qa3 na3 ca3] 26, kc pb #[.slice qa0 na0 ca0, .int .i64 s.b0_1, .int .u32 s.b0_2] 199]) (fun s l_2 => [⟨22, RwH.enc l_2.rs, l_2.v.sp, l_2.v.q, dbl 3 RI s.out5 l_2.rs⟩]) (⟨⟨L.q, L.n, L.cap, L.sp⟩, [(⟨l.q, l.n, l.cap, l.sp⟩ : VL)]⟩) (⟨h7, h10⟩) (sE Y) (fun w hh => hh) (fun s l_2 r hpl hm h17 => ?_)
   obtain ⟨h15, h16⟩ := hpl
   unfold qz at hm
   refine jr (Kv Y Y Y (jq (ji ?_)))
   refine ju Y (fun h18 => ?_) (fun h18 => ?_)
   ·replace hm := ifD h18 hm
    refine jt (ja (ji (jp (jr (jg Y Y (jg Y Y (jc Y Y Y (fun w _ => zr (Eq.trans (h16).len (vlen RwH h15 Y)) (runUnderlying41 w) Y) ?_)))))))
    obtain ⟨t22, h19, hm⟩ := bindO hm
    refine jc Y Y Y (fun _ _ => zO h19 Y Y) ?_
    obtain ⟨t23, h20, hm⟩ := bindO hm
    obtain ⟨L_1, h21, h22⟩ := (h16).row h20
    refine jc Y Y Y (fun w _ => JR h21 (runUnderlying41 w) (sizeOf22 w) Y Y (vlen RwH h15 Y) (vne h15)) (jc Y Y Y (fun w hh => zR RwH 0 h21 (isAgg22 w) Y (hh.vseg 0 Y h15) Y (Nat.add_zero _).symm) ?_)
    obtain ⟨t25, h23, hm⟩ := bindO hm
    refine jd [] [] Y Y Y Y Y Y Y call46 (fun w hh => QA t23 (qA L_1.q) L_1.n L_1.cap w (HV.callee (S0 := []) (vs0 := []) hh (roC (hh.dsepA (S0 := []) (vs0 := []) 0 Y h20 h21 h22) roN)) (vlen RI h22 Y) (AOK.q (vne h22)) (h22).hle h23) (fun l_3 h24 => ?_)
    have h25 := h24
    refine jV (S' := [_, _]) (vs' := [_, _]) [0, 1] [0, 1] 0 Y Y Y Y (jo Y Y (k7 (jg Y Y ?_)))
    obtain ⟨t27, h26, hm⟩ := bindO hm
    refine jd [] [] Y Y Y Y Y Y Y call46 (fun w hh => QA t25 (qA l_3.q) l_3.n l_3.cap w (HV.callee (S0 := []) (vs0 := []) hh (roC (hh.vsepA 0 Y h25) roN)) (vlen RI h25 Y) (AOK.q (vne h25)) (h25).hle h26) (fun l_4 h27 => ?_)
    have h28 := h27
    refine jV (S' := [_, _]) (vs' := [_, _, _]) [0, 1] [0, 1, 2] 0 Y Y Y Y (jo Y Y (jq (ji (jr (jg Y Y (jg Y Y (jc Y Y Y (fun w _ => zr (vlen RI h25 Y) (runUnderlying22 w) Y) ?_)))))))
    obtain ⟨t31, h29, hm⟩ := bindO hm
    refine jV (S' := [_, _]) (vs' := [_, _, _]) [1, 0] [0, 1, 2] 0 Y Y Y Y ?_
    refine jd [_] [] Y Y Y Y Y Y Y call69 (fun w hh => Kx b00 s.b0_1 s.b0_2 (t25.length : Int) pb qa0 na0 ca0 w (HV.callee (S0 := [_]) (vs0 := []) hh (roR hh 0 Y roN)) hna0 hqa0 hla0 h29) (fun l_5 h30 => ?_)
    have h31 := h30
    refine jV (S' := [_, _]) (vs' := [_, _, _, _]) [0, 1] [0, 1, 2, 3] 0 Y Y Y Y (jc Y Y Y (fun w _ => zr (vlen RI h31 Y) (runUnderlying22 w) Y) (jg Y Y (jq ?_)))
    obtain ⟨o_1, h32, h33⟩ := bindO hm
    refine j3 (ι := Unit) (fun l_6 => VOK 1 l_3.n l_3.cap (RI.enc o_1.r0) l_3.sp l_3.q) (fun l_6 => [(0, ptr pb 0), (3, ptr b 0), (5, sL l_2.v), (6, sL l_3), (16, .int .i64 c1.tides), (17, .int .i64 s.t17)]) (fun l_6 => [kc pb #[.slice qa0 na0 ca0, .int .i64 o_1.b0_1, .int .u32 o_1.b0_2] 199, kc b #[.int .i64 c1.cells, .int .i64 c1.tides, .slice qa1 na1 ca1, .slice qa2 na2 ca2, .slice qa3 na3 ca3] 26]) (fun l_6 => [⟨22, RwH.enc l_2.rs, l_2.v.sp, l_2.v.q, dbl 3 RI s.out5 l_2.rs⟩, vL 3 l_3 (RI.enc o_1.r0)]) ?_ ?_
    ·replace hm := h32
     refine jp ?_
     refine kk (ι := Unit) hm (fun s_1 l_7 => VOK 1 l_3.n l_3.cap (RI.enc s_1.r0) l_3.sp l_3.q) (fun s_1 l_7 => [(0, ptr pb 0), (3, ptr b 0), (5, sL l_2.v), (6, sL l_3), (7, sL l_4), (16, .int .i64 c1.tides), (17, .int .i64 s.t17), (31, sL l_5), (32, .int .i64 (t31.r0.length : Int)), (33, .int .i64 s_1.t33)]) (fun s_1 l_7 => [kc pb #[.slice qa0 na0 ca0, .int .i64 s_1.b0_1, .int .u32 s_1.b0_2] 199, kc b #[.int .i64 c1.cells, .int .i64 c1.tides, .slice qa1 na1 ca1, .slice qa2 na2 ca2, .slice qa3 na3 ca3] 26]) (fun s_1 l_7 => [⟨22, RwH.enc l_2.rs, l_2.v.sp, l_2.v.q, dbl 3 RI s.out5 l_2.rs⟩, vL 3 l_3 (RI.enc s_1.r0), vL 3 l_4 (RI.enc t27), vL 3 l_5 (RI.enc t31.r0)]) () (h25) (sE Y) (hsE [0, 1] [3, 2, 1, 0] 0 Y Y Y Y) (fun s_1 l_7 r_1 hpl hm h36 => ?_)
     have h35 := hpl
     unfold qu at hm
     refine jr (Kv Y Y Y (jq (ji ?_)))
     refine ju Y (fun h37 => ?_) (fun h37 => ?_)
     ·replace hm := ifD h37 hm
      refine jt (ja (ji ?_))
      obtain ⟨o_2, h38, h39⟩ := bindO hm
      refine j3 (ι := Unit) (fun l_8 => VOK 1 l_3.n l_3.cap (RI.enc o_2.r0) l_3.sp l_3.q) (fun l_8 => [(0, ptr pb 0), (3, ptr b 0), (5, sL l_2.v), (6, sL l_3), (7, sL l_4), (16, .int .i64 c1.tides), (17, .int .i64 s.t17), (31, sL l_5), (32, .int .i64 (t31.r0.length : Int)), (33, .int .i64 s_1.t33)]) (fun l_8 => [kc pb #[.slice qa0 na0 ca0, .int .i64 o_2.b0_1, .int .u32 o_2.b0_2] 199, kc b #[.int .i64 c1.cells, .int .i64 c1.tides, .slice qa1 na1 ca1, .slice qa2 na2 ca2, .slice qa3 na3 ca3] 26]) (fun l_8 => [⟨22, RwH.enc l_2.rs, l_2.v.sp, l_2.v.q, dbl 3 RI s.out5 l_2.rs⟩, vL 3 l_3 (RI.enc o_2.r0), vL 3 l_4 (RI.enc t27), vL 3 l_5 (RI.enc t31.r0)]) ?_ ?_
      ·replace hm := h38
       refine jp (jr ?_)
       obtain ⟨t35, h41, hm⟩ := bindO hm
       refine jc Y Y Y (fun w _ => JR h41 (runUnderlying22 w) (sizeOf3 w) Y Y (vlen RI h31 Y) (vne h31)) (jc Y Y Y (fun w hh => zR RI 0 h41 (isAgg3 w) Y (hh.vseg 3 Y h31) Y (Nat.add_zero _).symm) (jo Y Y (jq (ji ?_))))
       refine ky none (.free 0 (.free 1 (.free 2 (.hoist 3 (.free 4 (.hoist 5 (.free 6 (.free 7 (.free 8 (.hoist 9 (.hoist 12 (.free 13 (.free 14 (.free 15 (.hoist 16 (.one 10 (.free 11 (.one 17 (.one 18 (.free 19 (.free 20 .done))))))))))))))))))))) (HV _ _ [kc b #[.int .i64 c1.cells, .int .i64 c1.tides, .slice qa1 na1 ca1, .slice qa2 na2 ca2, .slice qa3 na3 ca3] 26] [⟨22, RwH.enc l_2.rs, l_2.v.sp, l_2.v.q, dbl 3 RI s.out5 l_2.rs⟩, vL 3 l_3 (RI.enc s_1.r0), vL 3 l_4 (RI.enc t27), vL 3 l_5 (RI.enc t31.r0)] _) Y (by decide +kernel) (fun w k hh => hh.draw k) (hsE [1] [0, 1, 2, 3] 0 Y Y Y Y) ?_
       refine zs Y Y Y (zs Y Y Y ?_)
       obtain ⟨t39, h42, hm⟩ := bindO hm
       refine jn Y Y Y Y (fun w _ => JR h42 (runUnderlying22 w) (sizeOf3 w) Y Y (vlen RI h28 Y) (vne h28)) (jy Y Y Y Y (fun w hh => zR RI 0 h42 (isAgg3 w) Y (hh.vseg 2 Y h28) Y (Nat.add_zero _).symm) (zs Y Y Y (jy Y Y Y Y (fun w hh => jP (vs := [_, _, _, _, _]) (isAgg26 w) (sizeOf26 w) Y (hh.cells 0 Y Y)) (zs Y Y Y (zs Y Y Y ?_)))))
       obtain ⟨t45, h43, hm⟩ := bindO hm
       refine jn Y Y Y Y (fun w _ => JR h43 (runUnderlying22 w) (sizeOf3 w) Y Y (vlen RI h28 Y) (vne h28)) (jy Y Y Y Y (fun w hh => zR RI 0 h43 (isAgg3 w) Y (hh.vseg 2 Y h28) Y (Nat.add_zero _).symm) (jy Y Y Y Y (fun w hh => jP (vs := [_, _, _, _, _]) (isAgg26 w) (sizeOf26 w) Y (hh.cells 0 Y Y)) (zs Y Y Y (zs Y Y Y ?_))))
       obtain ⟨t52, h44, hm⟩ := bindO hm
       refine jn Y Y Y Y (fun w _ => JR h44 (runUnderlying22 w) (sizeOf3 w) Y Y (vlen RI h28 Y) (vne h28)) (jy Y Y Y Y (fun w hh => zR RI 0 h44 (isAgg3 w) Y (hh.vseg 2 Y h28) Y (Nat.add_zero _).symm) (jA Y ?_))
       obtain ⟨t47, h45, hm⟩ := bindO hm
       refine jd [] [] Y Y Y Y Y Y Y call63 (fun w hh => KM c1 t45 qa1 na1 ca1 qa2 na2 ca2 qa3 na3 ca3 w (HV.callee (S0 := []) (vs0 := []) hh (roR hh 1 Y (roR hh 2 Y (roR hh 3 Y roN)))) hna1 hqa1 hla1 hna2 hqa2 hla2 hna3 hqa3 hla3 h45) (fun l_9 h46 => ?_)
       refine jj (hsE [1] [0, 1, 2, 3] 0 Y Y Y Y) ?_
       obtain ⟨t48, h47, hm⟩ := bindO hm
       refine jn Y Y Y Y (fun _ _ => ja2 h47 Y) (jA Y ?_)
       obtain ⟨t54, h48, hm⟩ := bindO hm
       refine jd [] [] Y Y Y Y Y Y Y call63 (fun w hh => KM c1 t52 qa1 na1 ca1 qa2 na2 ca2 qa3 na3 ca3 w (HV.callee (S0 := []) (vs0 := []) hh (roR hh 1 Y (roR hh 2 Y (roR hh 3 Y roN)))) hna1 hqa1 hla1 hna2 hqa2 hla2 hna3 hqa3 hla3 h48) (fun l_10 h49 => ?_)
       refine jj (hsE [1] [0, 1, 2, 3] 0 Y Y Y Y) (jA Y ?_)
       obtain ⟨t55, h50, hm⟩ := bindO hm
       refine jd [_] [] Y Y Y Y Y Y Y call145 (fun w hh => KO b00 s_1.b0_1 s_1.b0_2 t48 t54 pb qa0 na0 ca0 w (HV.callee (S0 := [_]) (vs0 := []) hh (roR hh 0 Y roN)) hna0 hqa0 hla0 h50) (fun l_11 h51 => ?_)
       refine jV (S' := [_, _]) (vs' := [_, _, _, _]) [0, 1] [0, 1, 2, 3] 0 Y Y Y Y (jj (hsE [1] [0, 1, 2, 3] 0 Y Y Y Y) ?_)
       obtain ⟨t56, h52, hm⟩ := bindO hm
       refine jn Y Y Y Y (fun _ _ => Kh h52 Y Y) (jn Y Y Y Y (fun _ _ => kM Y) (jM (ja (ji ?_))))
       obtain ⟨o_3, h53, h54⟩ := bindO hm
       refine j3 (ι := Unit) (fun l_12 => True) (fun l_12 => [(0, ptr pb 0), (3, ptr b 0), (5, sL l_2.v), (6, sL l_3), (7, sL l_4), (9, .int .i64 t35), (10, .int .i64 t56), (16, .int .i64 c1.tides), (17, .int .i64 s.t17), (31, sL l_5), (32, .int .i64 (t31.r0.length : Int)), (33, .int .i64 s_1.t33), (93, .bool o_3)]) (fun l_12 => [kc pb #[.slice qa0 na0 ca0, .int .i64 t55.h0_1, .int .u32 t55.h0_2] 199, kc b #[.int .i64 c1.cells, .int .i64 c1.tides, .slice qa1 na1 ca1, .slice qa2 na2 ca2, .slice qa3 na3 ca3] 26]) (fun l_12 => [⟨22, RwH.enc l_2.rs, l_2.v.sp, l_2.v.q, dbl 3 RI s.out5 l_2.rs⟩, vL 3 l_3 (RI.enc s_1.r0), vL 3 l_4 (RI.enc t27), vL 3 l_5 (RI.enc t31.r0)]) ?_ ?_
       ·replace hm := h53
        refine je (jg Y Y (jc Y Y Y (fun _ _ => YI Y Y) (jg Y Y ?_)))
        refine j4 59 Y (fun h55 => ?_) (fun h55 => ?_)
        ·replace hm := ifD h55 hm
         refine jb Y Y (jg Y Y (jb Y Y (yD 0 runUnderlying26 Y sizeOf3 Y Y (jb Y Y (yf 1 isAgg3 Y Y Y Y (jb Y Y (Kv Y Y Y ?_)))))))
         refine yy Y Y Y (jg Y Y ?_)
         refine j4 65 Y (fun h56 => ?_) (fun h56 => ?_)
         ·replace hm := ifD h56 hm
          refine jb Y Y (jg Y Y (jb Y Y (jc Y Y Y (fun _ _ => Ju Y Y) (jb Y Y (jg Y Y ?_)))))
          refine j4 68 Y (fun h57 => ?_) (fun h57 => ?_)
          ·replace hm := ifD h57 hm
           refine g_k Y Y Y Y (g_k Y Y Y Y (g_k Y Y Y Y (g_k Y Y Y Y (g_k Y Y Y Y (g_k Y Y Y Y (g_k Y Y Y Y (jb Y Y ?_)))))))
           refine yy Y Y Y (yy Y Y Y (jg Y Y (jb Y Y (jg Y Y (jb Y Y (jg Y Y (jb Y Y ?_)))))))
           refine jc Y Y Y (fun w _ => zr (vlen RI h35 Y) (runUnderlying22 w) Y) (jb Y Y ?_)
           obtain ⟨t82, h58, hm⟩ := bindO hm
           refine jc Y Y Y (fun _ _ => zO h58 Y Y) (jb Y Y (jc Y Y Y (fun _ _ => Ju Y Y) (jb Y Y (jg Y Y ?_))))
           refine j4 84 Y (fun h59 => ?_) (fun h59 => ?_)
           ·replace hm := ifD h59 hm
            refine g_k Y Y Y Y (g_k Y Y Y Y (g_k Y Y Y Y (g_k Y Y Y Y (g_k Y Y Y Y (g_k Y Y Y Y (g_k Y Y Y Y (jb Y Y ?_)))))))
            refine yy Y Y Y (yy Y Y Y (jx ?_))
            obtain rfl := sj hm
            exact jk () (trivial) (sE Y) (fun w hh => hh)
           replace hm := ifE h59 hm
           refine jb Y Y (jg Y Y (jb Y Y (jg Y Y (jb Y Y (jg Y Y (jb Y Y ?_))))))
           obtain ⟨t88, h60, hm⟩ := bindO hm
           refine Kq h60 Y Y Y (jb Y Y ?_)
           obtain ⟨t89, h61, hm⟩ := bindO hm
           refine jc Y Y Y (fun w _ => JR h61 (runUnderlying22 w) (sizeOf3 w) Y Y (vlen RI h35 Y) (vne h35)) (jb Y Y (jc Y Y Y (fun w hh => zR RI 0 h61 (isAgg3 w) Y (hh.vseg 1 Y h35) Y (Nat.add_zero _).symm) (jb Y Y (Kv Y Y Y (jb Y Y (zu Y Y Y (yy Y Y Y ?_)))))))
           refine jx ?_
           obtain rfl := sj hm
           exact jk () (trivial) (sE Y) (fun w hh => hh)
          replace hm := ifE h57 hm
          refine jb Y Y (jg Y Y (jb Y Y (jg Y Y (jb Y Y (jg Y Y (jb Y Y ?_))))))
          obtain ⟨t72, h62, hm⟩ := bindO hm
          refine jc Y Y Y (fun _ _ => zO h62 Y Y) (jb Y Y ?_)
          obtain ⟨t73, h63, hm⟩ := bindO hm
          refine jc Y Y Y (fun w _ => JR h63 (runUnderlying22 w) (sizeOf3 w) Y Y (vlen RI h35 Y) (vne h35)) (jb Y Y (jc Y Y Y (fun w hh => zR RI 0 h63 (isAgg3 w) Y (hh.vseg 1 Y h35) Y (Nat.add_zero _).symm) (jb Y Y (jc Y Y Y (fun _ _ => Zj Y Y) (jb Y Y (zu Y Y Y (yy Y Y Y ?_)))))))
          refine jg Y Y ?_
          refine j4 78 Y (fun h64 => ?_) (fun h64 => ?_)
          ·replace hm := ifD h64 hm
           refine jb Y Y (jg Y Y (jb Y Y (jg Y Y (jb Y Y (jc Y Y Y (fun w _ => zr (vlen RI h35 Y) (runUnderlying22 w) Y) (jb Y Y ?_))))))
           obtain ⟨t82_1, h65, hm⟩ := bindO hm
           refine jc Y Y Y (fun _ _ => zO h65 Y Y) (jb Y Y (jc Y Y Y (fun _ _ => Ju Y Y) (jb Y Y (jg Y Y ?_))))
           refine j4 84 Y (fun h66 => ?_) (fun h66 => ?_)
           ·replace hm := ifD h66 hm
            refine g_k Y Y Y Y (g_k Y Y Y Y (g_k Y Y Y Y (g_k Y Y Y Y (g_k Y Y Y Y (g_k Y Y Y Y (g_k Y Y Y Y (jb Y Y ?_)))))))
            refine yy Y Y Y (yy Y Y Y (jx ?_))
            obtain rfl := sj hm
            exact jk () (trivial) (sE Y) (fun w hh => hh)
           replace hm := ifE h66 hm
           refine jb Y Y (jg Y Y (jb Y Y (jg Y Y (jb Y Y (jg Y Y (jb Y Y ?_))))))
           obtain ⟨t88_1, h67, hm⟩ := bindO hm
           refine Kq h67 Y Y Y (jb Y Y ?_)
           obtain ⟨t89_1, h68, hm⟩ := bindO hm
           refine jc Y Y Y (fun w _ => JR h68 (runUnderlying22 w) (sizeOf3 w) Y Y (vlen RI h35 Y) (vne h35)) (jb Y Y (jc Y Y Y (fun w hh => zR RI 0 h68 (isAgg3 w) Y (hh.vseg 1 Y h35) Y (Nat.add_zero _).symm) (jb Y Y (Kv Y Y Y (jb Y Y (zu Y Y Y (yy Y Y Y ?_)))))))
           refine jx ?_
           obtain rfl := sj hm
           exact jk () (trivial) (sE Y) (fun w hh => hh)
          replace hm := ifE h64 hm
          refine g_k Y Y Y Y (g_k Y Y Y Y (g_k Y Y Y Y (g_k Y Y Y Y (g_k Y Y Y Y (g_k Y Y Y Y ?_)))))
          refine jC Y Y Y Y Y ?_
          refine jC Y Y Y Y Y ?_
          refine jC Y Y Y Y Y ?_
          refine jC Y Y Y Y Y ?_
          refine jC Y Y Y Y Y ?_
          refine jC Y Y Y Y Y ?_
          refine jC Y Y Y Y Y ?_
          refine g_k Y Y Y Y (zu Y Y Y (jx ?_))
          obtain rfl := sj hm
          exact jk () (trivial) (sE Y) (fun w hh => hh)
         replace hm := ifE h56 hm
         refine g_k Y Y Y Y (g_k Y Y Y Y (g_k Y Y Y Y ?_))
         refine jC Y Y Y Y Y ?_
         refine jC Y Y Y Y Y ?_
         refine jC Y Y Y Y Y ?_
         refine jC Y Y Y Y Y ?_
         refine jC Y Y Y Y Y ?_
         refine jC Y Y Y Y Y ?_
         refine jC Y Y Y Y Y ?_
         refine g_k Y Y Y Y (zu Y Y Y (jg Y Y (g_k Y Y Y Y (g_k Y Y Y Y (g_k Y Y Y Y (g_k Y Y Y Y (g_k Y Y Y Y ?_)))))))
         refine g_k Y Y Y Y ?_
         refine jC Y Y Y Y Y ?_
         refine jC Y Y Y Y Y ?_
         refine jC Y Y Y Y Y ?_
         refine jC Y Y Y Y Y ?_
         refine jC Y Y Y Y Y ?_
         refine jC Y Y Y Y Y ?_
         refine jC Y Y Y Y Y ?_
         refine g_k Y Y Y Y (zu Y Y Y (jx ?_))
         obtain rfl := sj hm
         exact jk () (trivial) (sE Y) (fun w hh => hh)
        replace hm := ifE h55 hm
        refine g_k Y Y Y Y (g_k Y Y Y Y (g_k Y Y Y Y (g_k Y Y Y Y (zu Y Y Y (jg Y Y (g_k Y Y Y Y (g_k Y Y Y Y ?_)))))))
        refine g_k Y Y Y Y ?_
        refine jC Y Y Y Y Y ?_
        refine jC Y Y Y Y Y ?_
        refine jC Y Y Y Y Y ?_
        refine jC Y Y Y Y Y ?_
        refine jC Y Y Y Y Y ?_
        refine jC Y Y Y Y Y ?_
        refine jC Y Y Y Y Y ?_
        refine g_k Y Y Y Y (zu Y Y Y (jg Y Y (g_k Y Y Y Y (g_k Y Y Y Y (g_k Y Y Y Y (g_k Y Y Y Y (g_k Y Y Y Y ?_)))))))
        refine g_k Y Y Y Y ?_
        refine jC Y Y Y Y Y ?_
        refine jC Y Y Y Y Y ?_
        refine jC Y Y Y Y Y ?_
        refine jC Y Y Y Y Y ?_
        refine jC Y Y Y Y Y ?_
        refine jC Y Y Y Y Y ?_
        refine jC Y Y Y Y Y ?_
        refine g_k Y Y Y Y (zu Y Y Y (jx ?_))
        obtain rfl := sj hm
        exact jk () (trivial) (sE Y) (fun w hh => hh)
       intro l_12 hj
       replace hm := h54
       refine ja ?_
       refine ju Y (fun h69 => ?_) (fun h69 => ?_)
       ·replace hm := ifT (h69) hm
        refine je (jg Y Y (jg Y Y (jg Y Y ?_)))
        obtain ⟨t97, h70, hm⟩ := bindO hm
        refine jc Y Y Y (fun w _ => JR h70 (runUnderlying22 w) (sizeOf3 w) Y Y (vlen RI h35 Y) (vne h35)) ?_
        obtain ⟨r0, hr0, hm⟩ := bindO hm
        refine ja0 RI 1 0 t56 (fun w => sizeOf3 w) Y Y Y Y h35 Y (Nat.add_zero _).symm Y h70 Y Y (Option.some.inj hr0) (fun h71 => ?_)
        refine jV (S' := [_, _]) (vs' := [_, _, _, _]) [0, 1] [0, 1, 2, 3] 0 Y Y Y Y (jx (jw ?_))
        obtain rfl := sj hm
        exact jk () (h71) (sE Y) (fun w hh => hh)
       replace hm := ifN h69 hm
       refine jt (jw ?_)
       obtain rfl := sj hm
       exact jk () (h35) (sE Y) (fun w hh => hh)
      intro l_8 hj
      have h40 := hj
      replace hm := h39
      refine ja (je ?_)
      obtain ⟨t98, h72, hm⟩ := bindO hm
      refine Kq h72 Y Y Y (jg Y Y (jx ?_))
      obtain rfl := sj hm
      refine ja ?_
      exact jN _ () Y (h40) (sE Y) (fun w hh => hh)
     replace hm := ifE h37 hm
     refine kN (jl (jl (jO ?_)))
     obtain rfl := sj hm
     have hbo := h36 _ Y
     subst hbo
     exact jk () (h35) (sE Y) (hsE [0, 1] [0, 1] 0 Y Y Y Y)
    intro l_6 hj
    have h34 := hj
    replace hm := h33
    refine ja (je (jg Y Y (jg Y Y ?_)))
    refine qE RwH [(⟨l_3.q, l_3.n, l_3.cap, l_3.sp⟩ : VL)] (ps := [(0, _)]) (cells := [_]) (fun w => runUnderlying41 w) (fun w => sizeOf22 w) (fun w => zeroValue22 w) Y Y Y Y Y Y Y Y (fun L_2 h73 => ?_)
    refine Zs (E2 := 3) RI 1 (Y : _ = ([[]] : List (List Int))) (fun h74 => ?_)
    refine jV (S' := [_, _]) (vs' := [_, _, _]) [0, 1] [0, 2, 1] 0 Y Y Y Y ?_
    refine Zq RI (l' := [o_1.r0]) 0 l_3.n l_3.cap h74 h34 Y Y (fun h75 => ?_)
    have h76 : DOK RI [o_1.r0] [(⟨l_3.q, l_3.n, l_3.cap, l_3.sp⟩ : VL)] := h75
    refine jad (S' := [_, _]) (vs' := [⟨22, RwH.enc [(⟨l_3.q, l_3.n, l_3.cap, l_3.sp⟩ : VL)], L_2.sp, L_2.q, dbl 3 RI [o_1.r0] [(⟨l_3.q, l_3.n, l_3.cap, l_3.sp⟩ : VL)]⟩, ⟨22, RwH.enc l_2.rs, l_2.v.sp, l_2.v.q, dbl 3 RI s.out5 l_2.rs⟩]) [0, 1] [0, 1] 0 (by decide) (by decide) Y Y Y ?_
    obtain ⟨t102, h77, hm⟩ := bindO hm
    refine zz RwH 1 (appcL h77 (h16).len (h76).len) underlying41 jal Y Y Y Y Y h15 Y Y (vlen RwH h73 Y) (AOK.q (vne h73)) (fun w hh => (hh.vsegA 0 Y h73)) Y (fun L_3 h78 _ => ?_)
    refine jV (S' := [_, _]) (vs' := [_, _]) [0, 1] [0, 1] 0 Y Y Y Y (jV (S' := [_, _]) (vs' := [_, _]) [0, 1] [1, 0] 0 Y Y Y Y ?_)
    refine ZZ RI h16 h76 (appcO h77).1.symm (fun h79 => ?_)
    refine jo Y Y (jx (jw (ja (je ?_))))
    obtain ⟨t103, h80, hm⟩ := bindO hm
    refine Kq h80 Y Y Y (jg Y Y (jx ?_))
    obtain rfl := sj hm
    refine ja ?_
    exact jN _ (⟨⟨L_3.q, L_3.n, L_3.cap, L_3.sp⟩, (l_2.rs ++ [(⟨l_3.q, l_3.n, l_3.cap, l_3.sp⟩ : VL)])⟩) Y (⟨h78, h79⟩) (sE Y) (hsE [1, 0] [0] 0 Y Y Y Y)
   replace hm := ifE h18 hm
   refine kN (jl (jl (jO ?_)))
   obtain rfl := sj hm
   have hbo := h17 _ Y
   subst hbo
   exact jk l_2 (⟨h15, h16⟩) (sE Y) (fun w hh => hh)
  intro l_1 hj
  obtain ⟨h13, h14⟩ := hj
  replace hm := h12
  refine ja (jr (jg Y Y (jo Y Y (jq (jv ?_)))))
  obtain rfl := sj hm
  refine jm Y (fun w hh => (.tmp Y .nil)) (fun w hh => ⟨l_1, rfl, ⟨h13, h14⟩, hh.se [1] [0] 4 Y Y Y rfl⟩)
structure kT where
  r0 : Channel
  b0_1 : Int
  b0_2 : Int
  r1 : (List (List Int))
structure yQ where
  b0_1 : Int
  b0_2 : Int
  c10_fords : (List Int)
structure j5 where
  t22 : Int
  b0_1 : Int
  b0_2 : Int
  c10_fords : (List Int)
structure yO where
  b0_1 : Int
  b0_2 : Int
  c10_fords : (List Int)
structure yP where
  t46 : Bool
  b0_1 : Int
  b0_2 : Int
def qM (t15 : yl) (fords2 : Int) (b00 : (List Int)) (s : j5) : Option (j5 ⊕ yQ) :=
 if s.t22 < t15.r0 then
 (((if (s.c10_fords.length : Int) < fords2 then
 ((zA b00 s.b0_1 s.b0_2 3).bind fun t32 =>
 if t32.r0 = true then
 (some (⟨true, t32.h0_1, t32.h0_2⟩ : yP)) else
 ((subc t15.r0 1).bind fun t37 =>
 if s.t22 = t37 then
 (some (⟨(decide ((s.c10_fords.length : Int) = 0)), t32.h0_1, t32.h0_2⟩ : yP)) else
 (some (⟨false, t32.h0_1, t32.h0_2⟩ : yP)))) else
 (some (⟨false, s.b0_1, s.b0_2⟩ : yP))).bind fun o_2 =>
 if o_2.t46 = true then
 ((appc 8 s.c10_fords [s.t22]).bind fun t51 =>
 some (⟨o_2.b0_1, o_2.b0_2, t51⟩ : yO)) else
 (some (⟨o_2.b0_1, o_2.b0_2, s.c10_fords⟩ : yO))).bind fun o_1 =>
 (addc s.t22 1).bind fun t53 =>
 some (.inl (⟨t53, o_1.b0_1, o_1.b0_2, o_1.c10_fords⟩ : j5))) else
 (some (.inr (⟨s.b0_1, s.b0_2, s.c10_fords⟩ : yQ)))
structure J0 where
  b0_1 : Int
  b0_2 : Int
  c10_sands : (List Sand)
structure yN where
  t56 : Int
  b0_1 : Int
  b0_2 : Int
  c10_sands : (List Sand)
structure QC where
  b0_1 : Int
  b0_2 : Int
  c10_sands : (List Sand)
def qS (t55 : yV) (t15 : yl) (b00 : (List Int)) (s_1 : yN) : Option (yN ⊕ J0) :=
 if s_1.t56 < t55.r0 then
 ((subc t15.r0 1).bind fun t61 =>
 (jU b00 s_1.b0_1 s_1.b0_2 t61).bind fun t62 =>
 ((subc t15.r0 1).bind fun t68 =>
 (jU b00 t62.h0_1 t62.h0_2 4).bind fun t71 =>
 (addc t62.r0 t71.r0).bind fun t72 =>
 (yY b00 t71.h0_1 t71.h0_2 1 2).bind fun t76 =>
 (appc 24 s_1.c10_sands [(⟨(⟨t62.r0, (min t68 t72)⟩ : Span), t76.r0⟩ : Sand)]).bind fun t79 =>
 some (⟨t76.h0_1, t76.h0_2, t79⟩ : QC)).bind fun o_4 =>
 (addc s_1.t56 1).bind fun t81 =>
 some (.inl (⟨t81, o_4.b0_1, o_4.b0_2, o_4.c10_sands⟩ : yN))) else
 (some (.inr (⟨s_1.b0_1, s_1.b0_2, s_1.c10_sands⟩ : J0)))
def q3 (b00 : (List Int)) (b01 : Int) (b02 : Int) (cells1 : Int) (fords2 : Int) (tides3 : Int) : Option kT :=
 (yY b00 b01 b02 3 cells1).bind fun t15 =>
 (jU b00 t15.h0_1 t15.h0_2 tides3).bind fun t18 =>
 (iterM FU (qM t15 fords2 b00) (⟨0, t18.h0_1, t18.h0_2, []⟩ : j5)).bind fun o =>
 (jU b00 o.b0_1 o.b0_2 4).bind fun t55 =>
 (iterM FU (qS t55 t15 b00) (⟨0, t55.h0_1, t55.h0_2, []⟩ : yN)).bind fun o_3 =>
 (yg b00 o_3.b0_1 o_3.b0_2 (⟨t15.r0, t18.r0, o.c10_fords, o_3.c10_sands, []⟩ : Channel)).bind fun t85 =>
 some (⟨(⟨t15.r0, t18.r0, o.c10_fords, o_3.c10_sands, []⟩ : Channel), t85.b0_1, t85.b0_2, t85.r0⟩ : kT)
theorem Yd (b00 : (List Int)) (b01 : Int) (b02 : Int) (cells1 : Int) (fords2 : Int) (tides3 : Int) (pb : Nat) (qa0 : Option Addr) (na0 ca0 : Nat) (w : World) (hw : HV w (keys [kc pb #[.slice qa0 na0 ca0, .int .i64 b01, .int .u32 b02] 199] []) [kc pb #[.slice qa0 na0 ca0, .int .i64 b01, .int .u32 b02] 199] [] [(aB qa0, aO qa0, RU8.enc b00)] w) (hna0 : b00.length = na0) (hqa0 : AOK na0 qa0) (hla0 : na0 ≤ ca0) {res : kT} (hm : q3 b00 b01 b02 cells1 fords2 tides3 = some res) :
    Calls Tryz.prog 61 #[ptr pb 0, .int .i64 cells1, .int .i64 fords2, .int .i64 tides3] w (fun en w' => ∃ l : VL × VL × VL × DL, en = .returned (.tuple #[.agg #[.int .i64 res.r0.cells, .int .i64 res.r0.tides, sL l.1, sL l.2.1, sL l.2.2.1], sL l.2.2.2.v]) ∧ (VOK 1 l.1.n l.1.cap (RI.enc res.r0.fords) l.1.sp l.1.q ∧ VOK 3 l.2.1.n l.2.1.cap (RSa.enc res.r0.sands) l.2.1.sp l.2.1.q ∧ VOK 3 l.2.2.1.n l.2.2.1.cap (RSi.enc res.r0.sights) l.2.2.1.sp l.2.2.1.q ∧ VOK 1 l.2.2.2.v.n l.2.2.2.v.cap (RwH.enc l.2.2.2.rs) l.2.2.2.v.sp l.2.2.2.v.q ∧ DOK RI res.r1 l.2.2.2.rs) ∧ HV w (keys [kc pb #[.slice qa0 na0 ca0, .int .i64 b01, .int .u32 b02] 199] []) [kc pb #[.slice qa0 na0 ca0, .int .i64 res.b0_1, .int .u32 res.b0_2] 199] [vL 3 l.1 (RI.enc res.r0.fords), vL 98 l.2.1 (RSa.enc res.r0.sands), vL 55 l.2.2.1 (RSi.enc res.r0.sights), ⟨22, RwH.enc l.2.2.2.rs, l.2.2.2.v.sp, l.2.2.2.v.q, dbl 3 RI res.r1 l.2.2.2.rs⟩] [] w') := by
  unfold q3 at hm
  refine yr func61 Y ntmps61 Y (e := [(0, _), (1, _), (2, _), (3, _)]) Y hw (jr ?_)
  refine js (fun w => zeroValue26 w) Y (fun b h6 => ?_)
  refine jc Y Y Y (fun _ _ => yc Y) (k7 (jg Y Y (jg Y Y ?_)))
  obtain ⟨t15, h7, hm⟩ := bindO hm
  refine jV (S' := [_, _]) (vs' := []) [1, 0] [] 0 Y Y Y Y ?_
  refine jd [_] [] Y Y Y Y Y Y Y call145 (fun w hh => KO b00 b01 b02 3 cells1 pb qa0 na0 ca0 w (HV.callee (S0 := [_]) (vs0 := []) hh (roR hh 0 Y roN)) hna0 hqa0 hla0 h7) (fun l h8 => ?_)
  refine jV (S' := [_, _]) (vs' := []) [0, 1] [] 0 Y Y Y Y (jg Y Y (jg Y Y ?_))
  obtain ⟨t18, h9, hm⟩ := bindO hm
  refine jd [_] [] Y Y Y Y Y Y Y call146 (fun w hh => j8 b00 t15.h0_1 t15.h0_2 tides3 pb qa0 na0 ca0 w (HV.callee (S0 := [_]) (vs0 := []) hh (roR hh 0 Y roN)) hna0 hqa0 hla0 h9) (fun l_1 h10 => ?_)
  refine jV (S' := [_, _]) (vs' := []) [0, 1] [] 0 Y Y Y Y (jc Y Y Y (fun _ _ => k9 (vs := [(0, _), (1, _)]) (cells := [_, _, _, _, _]) Y Y) ?_)
  refine js (fun w => zeroValue26 w) Y (fun b_1 h11 => ?_)
  refine kz (us := #[_, _, _, _, _]) (cs' := [_, _, _, _, _]) (S' := [_, _, _]) 0 (fun w => sizeOf26 w) Y Y Y Y Y Y Y (jq (ji (jr (yD 0 runUnderlying26 Y sizeOf3 Y Y (yf 0 isAgg3 Y Y Y Y (jg Y Y (jq ?_)))))))
  refine zV 3 ?_
  obtain ⟨o, h12, h13⟩ := bindO hm
  refine j3 (ι := VL) (fun l_2 => VOK 1 l_2.n l_2.cap (RI.enc o.c10_fords) l_2.sp l_2.q) (fun l_2 => [(0, ptr pb 0), (8, ptr b 0), (10, ptr b_1 0)]) (fun l_2 => [kc b_1 #[.int .i64 t15.r0, .int .i64 t18.r0, sL l_2, slv none 0 0, slv none 0 0] 26, kc pb #[.slice qa0 na0 ca0, .int .i64 o.b0_1, .int .u32 o.b0_2] 199, kc b #[.int .i64 0, .int .i64 0, slv none 0 0, slv none 0 0, slv none 0 0] 26]) (fun l_2 => [vL 3 l_2 (RI.enc o.c10_fords)]) ?_ ?_
  ·replace hm := h12
   refine jp ?_
   refine kk (ι := VL) hm (fun s l_3 => VOK 1 l_3.n l_3.cap (RI.enc s.c10_fords) l_3.sp l_3.q) (fun s l_3 => [(0, ptr pb 0), (2, .int .i64 fords2), (8, ptr b 0), (10, ptr b_1 0), (21, .int .i64 t15.r0), (22, .int .i64 s.t22)]) (fun s l_3 => [kc b_1 #[.int .i64 t15.r0, .int .i64 t18.r0, sL l_3, slv none 0 0, slv none 0 0] 26, kc pb #[.slice qa0 na0 ca0, .int .i64 s.b0_1, .int .u32 s.b0_2] 199, kc b #[.int .i64 0, .int .i64 0, slv none 0 0, slv none 0 0, slv none 0 0] 26]) (fun s l_3 => [vL 3 l_3 (RI.enc s.c10_fords)]) ⟨none, 0, 0, []⟩ (VOK.nil) (sE Y) (fun w hh => hh) (fun s l_3 r hpl hm h16 => ?_)
   have h15 := hpl
   unfold qM at hm
   refine jr (Kv Y Y Y (jq (ji ?_)))
   refine ju Y (fun h17 => ?_) (fun h17 => ?_)
   ·replace hm := ifD h17 hm
    refine jt (ja (ji ?_))
    obtain ⟨o_1, h18, h19⟩ := bindO hm
    refine j3 (ι := VL) (fun l_4 => VOK 1 l_4.n l_4.cap (RI.enc o_1.c10_fords) l_4.sp l_4.q) (fun l_4 => [(0, ptr pb 0), (2, .int .i64 fords2), (8, ptr b 0), (10, ptr b_1 0), (21, .int .i64 t15.r0), (22, .int .i64 s.t22)]) (fun l_4 => [kc b_1 #[.int .i64 t15.r0, .int .i64 t18.r0, sL l_4, slv none 0 0, slv none 0 0] 26, kc pb #[.slice qa0 na0 ca0, .int .i64 o_1.b0_1, .int .u32 o_1.b0_2] 199, kc b #[.int .i64 0, .int .i64 0, slv none 0 0, slv none 0 0, slv none 0 0] 26]) (fun l_4 => [vL 3 l_4 (RI.enc o_1.c10_fords)]) ?_ ?_
    ·replace hm := h18
     refine jp (jr (jg Y Y (jo Y Y (jq (ji ?_)))))
     obtain ⟨o_2, h21, h22⟩ := bindO hm
     refine j3 (ι := Unit) (fun l_5 => True) (fun l_5 => [(0, ptr pb 0), (2, .int .i64 fords2), (8, ptr b 0), (10, ptr b_1 0), (11, .int .i64 s.t22), (21, .int .i64 t15.r0), (22, .int .i64 s.t22), (46, .bool o_2.t46)]) (fun l_5 => [kc b_1 #[.int .i64 t15.r0, .int .i64 t18.r0, sL l_3, slv none 0 0, slv none 0 0] 26, kc pb #[.slice qa0 na0 ca0, .int .i64 o_2.b0_1, .int .u32 o_2.b0_2] 199, kc b #[.int .i64 0, .int .i64 0, slv none 0 0, slv none 0 0, slv none 0 0] 26]) (fun l_5 => [vL 3 l_3 (RI.enc s.c10_fords)]) ?_ ?_
     ·replace hm := h21
      refine je (yD 2 runUnderlying26 Y sizeOf22 Y Y (yf 0 isAgg22 Y Y Y Y (jc Y Y Y (fun w _ => zr (vlen RI h15 Y) (runUnderlying22 w) Y) (jg Y Y (Kv Y Y Y (jg Y Y ?_))))))
      refine j4 30 Y (fun h23 => ?_) (fun h23 => ?_)
      ·replace hm := ifD h23 hm
       refine jb Y Y (jg Y Y (jb Y Y ?_))
       obtain ⟨t32, h24, hm⟩ := bindO hm
       refine jV (S' := [_, _, _]) (vs' := [_]) [1, 0, 2] [0] 0 Y Y Y Y ?_
       refine jd [_] [] Y Y Y Y Y Y Y call68 (fun w hh => Q3 b00 s.b0_1 s.b0_2 3 pb qa0 na0 ca0 w (HV.callee (S0 := [_]) (vs0 := []) hh (roR hh 0 Y roN)) hna0 hqa0 hla0 h24) (fun l_6 h25 => ?_)
       refine jV (S' := [_, _, _]) (vs' := [_]) [0, 1, 2] [0] 0 Y Y Y Y (jb Y Y (jg Y Y ?_))
       refine j4 33 Y (fun h26 => ?_) (fun h26 => ?_)
       ·replace hm := ifT (h26) hm
        refine g_k Y Y Y Y (g_k Y Y Y Y (g_k Y Y Y Y (g_k Y Y Y Y (g_k Y Y Y Y (g_k Y Y Y Y ?_)))))
        refine jC Y Y Y Y Y ?_
        refine jC Y Y Y Y Y ?_
        refine jC Y Y Y Y Y ?_
        refine jC Y Y Y Y Y ?_
        refine g_k Y Y Y Y (jb Y Y (yy Y Y Y (yy Y Y Y (jx ?_))))
        obtain rfl := sj hm
        exact jk () (trivial) (sE Y) (hsE [1, 0, 2] [0] 0 Y Y Y Y)
       replace hm := ifN h26 hm
       refine jb Y Y (jg Y Y (jb Y Y (yD 0 runUnderlying26 Y sizeOf3 Y Y (jb Y Y (yf 1 isAgg3 Y Y Y Y (jb Y Y ?_))))))
       obtain ⟨t37, h27, hm⟩ := bindO hm
       refine jc Y Y Y (fun _ _ => zO h27 Y Y) (jb Y Y (jc Y Y Y (fun _ _ => Ju Y Y) (jb Y Y (jg Y Y ?_))))
       refine j4 39 Y (fun h28 => ?_) (fun h28 => ?_)
       ·replace hm := ifD h28 hm
        refine jb Y Y (yD 2 runUnderlying26 Y sizeOf22 Y Y (jb Y Y (yf 1 isAgg22 Y Y Y Y (jb Y Y (jc Y Y Y (fun w _ => zr (vlen RI h15 Y) (runUnderlying22 w) Y) (jb Y Y (jc Y Y Y (fun _ _ => Ju Y Y) ?_)))))))
        refine jb Y Y (yy Y Y Y (jb Y Y (zu Y Y Y (yy Y Y Y (jx ?_)))))
        obtain rfl := sj hm
        exact jk () (trivial) (sE Y) (hsE [1, 0, 2] [0] 0 Y Y Y Y)
       replace hm := ifE h28 hm
       refine g_k Y Y Y Y (g_k Y Y Y Y (g_k Y Y Y Y (g_k Y Y Y Y (jb Y Y (zu Y Y Y (jb Y Y (zu Y Y Y ?_)))))))
       refine yy Y Y Y (jx ?_)
       obtain rfl := sj hm
       exact jk () (trivial) (sE Y) (hsE [1, 0, 2] [0] 0 Y Y Y Y)
      replace hm := ifE h23 hm
      refine g_k Y Y Y Y (g_k Y Y Y Y (g_k Y Y Y Y ?_))
      refine jC Y Y Y Y Y ?_
      refine jC Y Y Y Y Y ?_
      refine jC Y Y Y Y Y ?_
      refine jC Y Y Y Y Y ?_
      refine jC Y Y Y Y Y ?_
      refine jC Y Y Y Y Y ?_
      refine jC Y Y Y Y Y ?_
      refine jC Y Y Y Y Y ?_
      refine jC Y Y Y Y Y ?_
      refine jC Y Y Y Y Y ?_
      refine jC Y Y Y Y Y ?_
      refine g_k Y Y Y Y (zu Y Y Y (jx ?_))
      obtain rfl := sj hm
      exact jk () (trivial) (sE Y) (fun w hh => hh)
     intro l_5 hj
     replace hm := h22
     refine ja ?_
     refine ju Y (fun h29 => ?_) (fun h29 => ?_)
     ·replace hm := ifT (h29) hm
      refine je (yD 2 runUnderlying26 Y sizeOf22 Y Y (yf 0 isAgg22 Y Y Y Y (jg Y Y ?_)))
      refine qE RI [s.t22] (ps := [(0, _)]) (cells := [_]) (fun w => runUnderlying22 w) (fun w => sizeOf3 w) (fun w => zeroValue3 w) Y Y Y Y Y Y Y Y (fun L h30 => ?_)
      obtain ⟨t51, h31, hm⟩ := bindO hm
      refine zz RI 1 h31 underlying22 KZ Y Y Y Y Y h15 Y Y (vlen RI h30 Y) (AOK.q (vne h30)) (fun w hh => (hh.vsegA 0 Y h30)) Y (fun L_1 h32 h32n => ?_)
      refine jV (S' := [_, _, _]) (vs' := [_, _]) [0, 1, 2] [0, 1] 0 Y Y Y Y (yD 2 runUnderlying26 Y sizeOf22 Y Y (q4 (cs' := #[_, _, _, _, _]) (S' := [_, _, _]) 0 (fun w => sizeOf22 w) Y Y Y Y Y Y Y (jx (jw ?_))))
      obtain rfl := sj hm
      exact jk L_1 (h32) (sE Y) (hsE [0, 1, 2] [1] 0 Y Y Y Y)
     replace hm := ifN h29 hm
     refine jt (jw ?_)
     obtain rfl := sj hm
     exact jk l_3 (h15) (sE Y) (fun w hh => hh)
    intro l_4 hj
    have h20 := hj
    replace hm := h19
    refine ja (je ?_)
    obtain ⟨t53, h33, hm⟩ := bindO hm
    refine Kq h33 Y Y Y (jg Y Y (jx ?_))
    obtain rfl := sj hm
    refine ja ?_
    exact jN _ l_4 Y (h20) (sE Y) (fun w hh => hh)
   replace hm := ifE h17 hm
   refine kN (jl (jl (jO ?_)))
   obtain rfl := sj hm
   have hbo := h16 _ Y
   subst hbo
   exact jk l_3 (h15) (sE Y) (fun w hh => hh)
  intro l_2 hj
  have h14 := hj
  replace hm := h13
  refine ja (ji (jr (jg Y Y ?_)))
  obtain ⟨t55, h34, hm⟩ := bindO hm
  refine jV (S' := [_, _, _]) (vs' := [_]) [1, 0, 2] [0] 0 Y Y Y Y ?_
  refine jd [_] [] Y Y Y Y Y Y Y call146 (fun w hh => j8 b00 o.b0_1 o.b0_2 4 pb qa0 na0 ca0 w (HV.callee (S0 := [_]) (vs0 := []) hh (roR hh 0 Y roN)) hna0 hqa0 hla0 h34) (fun l_7 h35 => ?_)
  refine jV (S' := [_, _, _]) (vs' := [_]) [0, 1, 2] [0] 0 Y Y Y Y (jg Y Y (jq (zV 98 ?_)))
  obtain ⟨o_3, h36, h37⟩ := bindO hm
  refine j3 (ι := VL) (fun l_8 => VOK 3 l_8.n l_8.cap (RSa.enc o_3.c10_sands) l_8.sp l_8.q) (fun l_8 => [(0, ptr pb 0), (8, ptr b 0), (10, ptr b_1 0)]) (fun l_8 => [kc pb #[.slice qa0 na0 ca0, .int .i64 o_3.b0_1, .int .u32 o_3.b0_2] 199, kc b_1 #[.int .i64 t15.r0, .int .i64 t18.r0, sL l_2, sL l_8, slv none 0 0] 26, kc b #[.int .i64 0, .int .i64 0, slv none 0 0, slv none 0 0, slv none 0 0] 26]) (fun l_8 => [vL 3 l_2 (RI.enc o.c10_fords), vL 98 l_8 (RSa.enc o_3.c10_sands)]) ?_ ?_
  ·replace hm := h36
   refine jp ?_
   refine kk (ι := VL) hm (fun s_1 l_9 => VOK 3 l_9.n l_9.cap (RSa.enc s_1.c10_sands) l_9.sp l_9.q) (fun s_1 l_9 => [(0, ptr pb 0), (8, ptr b 0), (10, ptr b_1 0), (55, .int .i64 t55.r0), (56, .int .i64 s_1.t56)]) (fun s_1 l_9 => [kc pb #[.slice qa0 na0 ca0, .int .i64 s_1.b0_1, .int .u32 s_1.b0_2] 199, kc b_1 #[.int .i64 t15.r0, .int .i64 t18.r0, sL l_2, sL l_9, slv none 0 0] 26, kc b #[.int .i64 0, .int .i64 0, slv none 0 0, slv none 0 0, slv none 0 0] 26]) (fun s_1 l_9 => [vL 3 l_2 (RI.enc o.c10_fords), vL 98 l_9 (RSa.enc s_1.c10_sands)]) ⟨none, 0, 0, []⟩ (VOK.nil) (sE Y) (hsE [0, 1, 2] [1, 0] 0 Y Y Y Y) (fun s_1 l_9 r_1 hpl hm h40 => ?_)
   have h39 := hpl
   unfold qS at hm
   refine jr (Kv Y Y Y (jq (ji ?_)))
   refine ju Y (fun h41 => ?_) (fun h41 => ?_)
   ·replace hm := ifD h41 hm
    refine jt (ja (ji (jp (jr (jg Y Y (yD 0 runUnderlying26 Y sizeOf3 Y Y (yf 1 isAgg3 Y Y Y Y ?_)))))))
    obtain ⟨t61, h42, hm⟩ := bindO hm
    refine jc Y Y Y (fun _ _ => zO h42 Y Y) ?_
    obtain ⟨t62, h43, hm⟩ := bindO hm
    refine jd [_] [] Y Y Y Y Y Y Y call146 (fun w hh => j8 b00 s_1.b0_1 s_1.b0_2 t61 pb qa0 na0 ca0 w (HV.callee (S0 := [_]) (vs0 := []) hh (roR hh 0 Y roN)) hna0 hqa0 hla0 h43) (fun l_10 h44 => ?_)
    refine jV (S' := [_, _, _]) (vs' := [_, _]) [0, 1, 2] [0, 1] 0 Y Y Y Y (jo Y Y (jq ?_))
    obtain ⟨o_4, h45, h46⟩ := bindO hm
    refine j3 (ι := VL) (fun l_11 => VOK 3 l_11.n l_11.cap (RSa.enc o_4.c10_sands) l_11.sp l_11.q) (fun l_11 => [(0, ptr pb 0), (8, ptr b 0), (10, ptr b_1 0), (55, .int .i64 t55.r0), (56, .int .i64 s_1.t56)]) (fun l_11 => [kc pb #[.slice qa0 na0 ca0, .int .i64 o_4.b0_1, .int .u32 o_4.b0_2] 199, kc b_1 #[.int .i64 t15.r0, .int .i64 t18.r0, sL l_2, sL l_11, slv none 0 0] 26, kc b #[.int .i64 0, .int .i64 0, slv none 0 0, slv none 0 0, slv none 0 0] 26]) (fun l_11 => [vL 3 l_2 (RI.enc o.c10_fords), vL 98 l_11 (RSa.enc o_4.c10_sands)]) ?_ ?_
    ·replace hm := h45
     refine ky (some 18) (.free 0 (.hoist 1 (.free 2 (.free 3 (.hoist 4 (.free 5 (.free 6 (.free 7 (.free 12 (.one 8 (.free 9 (.free 10 (.free 11 (.one 13 (.free 14 (.one 15 (.one 16 (.free 17 (.last 18 .done))))))))))))))))))) (HV _ _ [kc b_1 #[.int .i64 t15.r0, .int .i64 t18.r0, sL l_2, sL l_9, slv none 0 0] 26, kc b #[.int .i64 0, .int .i64 0, slv none 0 0, slv none 0 0, slv none 0 0] 26] [vL 3 l_2 (RI.enc o.c10_fords)] _) Y (by decide +kernel) (fun w k hh => hh.draw k) (hsE [1, 2] [0] 0 Y Y Y Y) ?_
     refine JT 3 runUnderlying26 sizeOf23 Y Y Y Y (Kg 0 isAgg23 Y Y Y Y Y (zs Y Y Y (JT 0 runUnderlying26 sizeOf3 Y Y Y Y (Kg 0 isAgg3 Y Y Y Y Y ?_))))
     obtain ⟨t68, h48, hm⟩ := bindO hm
     refine jn Y Y Y Y (fun _ _ => zO h48 Y Y) (zs Y Y Y (zs Y Y Y (zs Y Y Y (jA Y ?_))))
     obtain ⟨t71, h49, hm⟩ := bindO hm
     refine jd [_] [] Y Y Y Y Y Y Y call146 (fun w hh => j8 b00 t62.h0_1 t62.h0_2 4 pb qa0 na0 ca0 w (HV.callee (S0 := [_]) (vs0 := []) hh (roR hh 0 Y roN)) hna0 hqa0 hla0 h49) (fun l_12 h50 => ?_)
     refine jV (S' := [_, _, _]) (vs' := [_, _]) [0, 1, 2] [0, 1] 0 Y Y Y Y (jj (hsE [1, 2] [0] 0 Y Y Y Y) ?_)
     obtain ⟨t72, h51, hm⟩ := bindO hm
     refine jn Y Y Y Y (fun _ _ => Kh h51 Y Y) (jn Y Y Y Y (fun _ _ => ja4 Y Y) (jn Y Y Y Y (fun _ _ => k9 (vs := [(0, _), (1, _)]) (cells := [_, _]) Y Y) (jA Y ?_)))
     obtain ⟨t76, h52, hm⟩ := bindO hm
     refine jd [_] [] Y Y Y Y Y Y Y call145 (fun w hh => KO b00 t71.h0_1 t71.h0_2 1 2 pb qa0 na0 ca0 w (HV.callee (S0 := [_]) (vs0 := []) hh (roR hh 0 Y roN)) hna0 hqa0 hla0 h52) (fun l_13 h53 => ?_)
     refine jV (S' := [_, _, _]) (vs' := [_, _]) [0, 1, 2] [0, 1] 0 Y Y Y Y (jj (hsE [1, 2] [0] 0 Y Y Y Y) (jn Y Y Y Y (fun _ _ => k9 (vs := [(0, _), (1, _)]) (cells := [_, _, _]) Y Y) (jA Y ?_)))
     refine qE RSa [(⟨(⟨t62.r0, (min t68 t72)⟩ : Span), t76.r0⟩ : Sand)] (ps := [(0, _)]) (cells := [_, _, _]) (fun w => runUnderlying23 w) (fun w => sizeOf98 w) (fun w => zeroValue98 w) Y Y Y Y Y Y Y Y (fun L_2 h54 => ?_)
     refine jj (hsE [1, 2] [1] 0 Y Y Y Y) (jA Y ?_)
     obtain ⟨t79, h55, hm⟩ := bindO hm
     refine zz RSa 2 h55 underlying23 Zy Y Y Y Y Y h39 Y Y (vlen RSa h54 Y) (AOK.q (vne h54)) (fun w hh => (hh.vsegA 0 Y h54)) Y (fun L_3 h56 h56n => ?_)
     refine jV (S' := [_, _, _]) (vs' := [_, _, _]) [0, 1, 2] [0, 1, 2] 0 Y Y Y Y (jj (hsE [1, 2] [1] 0 Y Y Y Y) (JT 3 runUnderlying26 sizeOf23 Y Y Y Y (YG Y (q4 (cs' := #[_, _, _, _, _]) (S' := [_, _, _]) 1 (fun w => sizeOf23 w) Y Y Y Y Y Y Y (QH (jM ?_))))))
     obtain rfl := sj hm
     exact jk L_3 (h56) (sE Y) (hsE [0, 1, 2] [1, 2] 0 Y Y Y Y)
    intro l_11 hj
    have h47 := hj
    replace hm := h46
    refine jw (ja (je ?_))
    obtain ⟨t81, h57, hm⟩ := bindO hm
    refine Kq h57 Y Y Y (jg Y Y (jx ?_))
    obtain rfl := sj hm
    refine ja ?_
    exact jN _ l_11 Y (h47) (sE Y) (fun w hh => hh)
   replace hm := ifE h41 hm
   refine kN (jl (jl (jO ?_)))
   obtain rfl := sj hm
   have hbo := h40 _ Y
   subst hbo
   exact jk l_9 (h39) (sE Y) (fun w hh => hh)
  intro l_8 hj
  have h38 := hj
  replace hm := h37
  refine ja (ji ?_)
  refine ky none (.hoist 0 (.free 1 (.hoist 2 (.one 3 (.one 4 (.free 5 .done)))))) (HV _ _ [kc b_1 #[.int .i64 t15.r0, .int .i64 t18.r0, sL l_2, sL l_8, slv none 0 0] 26] [vL 3 l_2 (RI.enc o.c10_fords), vL 98 l_8 (RSa.enc o_3.c10_sands)] _) Y (by decide +kernel) (fun w k hh => hh.draw k) (hsE [1] [0, 1] 0 Y Y Y Y) ?_
  refine jy Y Y Y Y (fun w hh => jP (vs := [_, _, _, _, _]) (isAgg26 w) (sizeOf26 w) Y (hh.cells 0 Y Y)) (zs Y Y Y (jy Y Y Y Y (fun w hh => jP (vs := [_, _, _, _, _]) (isAgg26 w) (sizeOf26 w) Y (hh.cells 0 Y Y)) (jA Y ?_)))
  obtain ⟨t85, h58, hm⟩ := bindO hm
  refine jd [_] [] Y Y Y Y Y Y Y call78 (fun w hh => QP b00 o_3.b0_1 o_3.b0_2 (⟨t15.r0, t18.r0, o.c10_fords, o_3.c10_sands, []⟩ : Channel) pb qa0 na0 ca0 (qA l_2.q) l_2.n l_2.cap (qA l_8.q) l_8.n l_8.cap none 0 0 w (HV.callee (S0 := [_]) (vs0 := []) hh (roR hh 0 Y (roC (hh.vsepA 0 Y h14) (roC (hh.vsepA 1 Y h38) (roC ⟨segOK.nil, fun hx => absurd Y hx⟩ roN))))) hna0 hqa0 hla0 (vlen RI h14 Y) (AOK.q (vne h14)) (h14).hle (vlen RSa h38 Y) (AOK.q (vne h38)) (h38).hle Y AOK.nil (Nat.le_refl 0) h58) (fun l_14 h59 => ?_)
  obtain ⟨h60, h61⟩ := h59
  refine jV (S' := [_, _, _]) (vs' := [_, _, _]) [0, 1, 2] [0, 1, 2] 0 Y Y Y Y (jj (hsE [1] [1, 2] 0 Y Y Y Y) (jA Y (kz (us := #[_, _, _, _, _]) (cs' := [_, _, _, _, _]) (S' := [_, _, _]) 2 (fun w => sizeOf26 w) Y Y Y Y Y Y Y (jj (hsE [1] [1, 2] 0 Y Y Y Y) (jn Y Y Y Y (fun _ _ => kM Y) (jM (ja ?_)))))))
  refine jv (zV 55 ?_)
  obtain rfl := sj hm
  refine jm Y (fun w hh => (.cell Y (loadVar_agg (vs := [_, _, _, _, _]) (isAgg26 _) (sizeOf26 _) (hh.cells 2 Y Y)) (.tmp Y .nil))) (fun w hh => ⟨(l_2, l_8, ⟨none, 0, 0, []⟩, l_14), rfl, ⟨h14, h38, VOK.nil, h60, h61⟩, hh.se [0] [2, 3, 0, 1] 1 Y Y Y rfl⟩)
structure qt where
  b0_1 : Int
  b0_2 : Int
  r0 : (List Sight)
structure zE where
  b0_1 : Int
  b0_2 : Int
  out9 : (List Sight)
structure qg where
  t14 : Int
  b0_1 : Int
  b0_2 : Int
  out9 : (List Sight)
structure QD where
  s10 : Sight
  b0_1 : Int
  b0_2 : Int
structure J7 where
  b0_1 : Int
  b0_2 : Int
  s10_cell : Int
def qP (t13 : yV) (c1 : Channel) (b00 : (List Int)) (course2 : (List (List Int))) (s : qg) : Option (qg ⊕ zE) :=
 if s.t14 < t13.r0 then
 (((subc c1.cells 1).bind fun t23 =>
 (jU b00 s.b0_1 s.b0_2 c1.tides).bind fun t19 =>
 (jU b00 t19.h0_1 t19.h0_2 t23).bind fun t24 =>
 some (⟨(⟨t19.r0, t24.r0, false⟩ : Sight), t24.h0_1, t24.h0_2⟩ : QD)).bind fun o_1 =>
 ((zA b00 o_1.b0_1 o_1.b0_2 2).bind fun t27 =>
 if t27.r0 = true then
 ((ix course2 o_1.s10.after).bind fun t31 =>
 (subc (c1.fords.length : Int) 1).bind fun t37 =>
 (jU b00 t27.h0_1 t27.h0_2 t37).bind fun t38 =>
 (ix t31 t38.r0).bind fun t39 =>
 some (⟨t38.h0_1, t38.h0_2, t39⟩ : J7)) else
 (some (⟨t27.h0_1, t27.h0_2, o_1.s10.cell⟩ : J7))).bind fun o_2 =>
 (ix course2 o_1.s10.after).bind fun t45 =>
 (jS t45 o_2.s10_cell).bind fun t49 =>
 (appc 24 s.out9 [(⟨o_1.s10.after, o_2.s10_cell, t49⟩ : Sight)]).bind fun t54 =>
 (addc s.t14 1).bind fun t55 =>
 some (.inl (⟨t55, o_2.b0_1, o_2.b0_2, t54⟩ : qg))) else
 (some (.inr (⟨s.b0_1, s.b0_2, s.out9⟩ : zE)))
def qX (b00 : (List Int)) (b01 : Int) (b02 : Int) (c1 : Channel) (course2 : (List (List Int))) (most3 : Int) : Option qt :=
 (jU b00 b01 b02 most3).bind fun t13 =>
 (iterM FU (qP t13 c1 b00 course2) (⟨0, t13.h0_1, t13.h0_2, []⟩ : qg)).bind fun o =>
 some (⟨o.b0_1, o.b0_2, o.out9⟩ : qt)
theorem Yb (b00 : (List Int)) (b01 : Int) (b02 : Int) (c1 : Channel) (course2 : (List (List Int))) (most3 : Int) (pb : Nat) (qa0 : Option Addr) (na0 ca0 : Nat) (qa1 : Option Addr) (na1 ca1 : Nat) (qa2 : Option Addr) (na2 ca2 : Nat) (qa3 : Option Addr) (na3 ca3 : Nat) (qa4 : Option Addr) (na4 ca4 : Nat) (ar4 : List AL) (w : World) (hw : HV w (keys [kc pb #[.slice qa0 na0 ca0, .int .i64 b01, .int .u32 b02] 199] []) [kc pb #[.slice qa0 na0 ca0, .int .i64 b01, .int .u32 b02] 199] [] [(aB qa0, aO qa0, RU8.enc b00), (aB qa1, aO qa1, RI.enc c1.fords), (aB qa2, aO qa2, RSa.enc c1.sands), (aB qa3, aO qa3, RSi.enc c1.sights), (aB qa4, aO qa4, RwA.enc ar4)] w) (hna0 : b00.length = na0) (hqa0 : AOK na0 qa0) (hla0 : na0 ≤ ca0) (hna1 : c1.fords.length = na1) (hqa1 : AOK na1 qa1) (hla1 : na1 ≤ ca1) (hna2 : c1.sands.length = na2) (hqa2 : AOK na2 qa2) (hla2 : na2 ≤ ca2) (hna3 : c1.sights.length = na3) (hqa3 : AOK na3 qa3) (hla3 : na3 ≤ ca3) (hna4 : course2.length = na4) (hqa4 : AOK na4 qa4) (hla4 : na4 ≤ ca4) (hda4 : DRO course2 ar4) (hTa4 : ∀ t, t ∈ rsg RI course2 ar4 → segOK w t ∧ (t.2.2 ≠ [] → t.1 ∉ keys [kc pb #[.slice qa0 na0 ca0, .int .i64 b01, .int .u32 b02] 199] [])) {res : qt} (hm : qX b00 b01 b02 c1 course2 most3 = some res) :
    Calls Tryz.prog 67 #[ptr pb 0, .agg #[.int .i64 c1.cells, .int .i64 c1.tides, .slice qa1 na1 ca1, .slice qa2 na2 ca2, .slice qa3 na3 ca3], .slice qa4 na4 ca4, .int .i64 most3] w (fun en w' => ∃ l : VL, en = .returned (sL l) ∧ (VOK 3 l.n l.cap (RSi.enc res.r0) l.sp l.q) ∧ HV w (keys [kc pb #[.slice qa0 na0 ca0, .int .i64 b01, .int .u32 b02] 199] []) [kc pb #[.slice qa0 na0 ca0, .int .i64 res.b0_1, .int .u32 res.b0_2] 199] [vL 55 l (RSi.enc res.r0)] [] w') := by
  unfold qX at hm
  refine yr func67 Y ntmps67 Y (e := [(0, _), (1, _), (2, _), (3, _)]) Y hw (jr ?_)
  refine jI Y Y (fun b h2 => ?_)
  refine jc Y Y Y (fun _ _ => yc Y) (k7 (jc Y Y Y (fun _ _ => yc Y) (jq (ji (jr (jg Y Y (jg Y Y ?_)))))))
  obtain ⟨t13, h3, hm⟩ := bindO hm
  refine jV (S' := [_, _]) (vs' := []) [1, 0] [] 0 Y Y Y Y ?_
  refine jd [_] [] Y Y Y Y Y Y Y call146 (fun w hh => j8 b00 b01 b02 most3 pb qa0 na0 ca0 w (HV.callee (S0 := [_]) (vs0 := []) hh (roR hh 0 Y roN)) hna0 hqa0 hla0 h3) (fun l h4 => ?_)
  refine jV (S' := [_, _]) (vs' := []) [0, 1] [] 0 Y Y Y Y (jg Y Y (jq (zV 55 ?_)))
  obtain ⟨o, h5, h6⟩ := bindO hm
  refine j3 (ι := VL) (fun l_1 => VOK 3 l_1.n l_1.cap (RSi.enc o.out9) l_1.sp l_1.q) (fun l_1 => [(9, sL l_1)]) (fun l_1 => [kc pb #[.slice qa0 na0 ca0, .int .i64 o.b0_1, .int .u32 o.b0_2] 199, kc b #[.int .i64 c1.cells, .int .i64 c1.tides, .slice qa1 na1 ca1, .slice qa2 na2 ca2, .slice qa3 na3 ca3] 26]) (fun l_1 => [vL 55 l_1 (RSi.enc o.out9)]) ?_ ?_
  ·replace hm := h5
   refine jp ?_
   refine kk (ι := VL) hm (fun s l_2 => VOK 3 l_2.n l_2.cap (RSi.enc s.out9) l_2.sp l_2.q) (fun s l_2 => [(0, ptr pb 0), (2, .slice qa4 na4 ca4), (5, ptr b 0), (9, sL l_2), (13, .int .i64 t13.r0), (14, .int .i64 s.t14)]) (fun s l_2 => [kc pb #[.slice qa0 na0 ca0, .int .i64 s.b0_1, .int .u32 s.b0_2] 199, kc b #[.int .i64 c1.cells, .int .i64 c1.tides, .slice qa1 na1 ca1, .slice qa2 na2 ca2, .slice qa3 na3 ca3] 26]) (fun s l_2 => [vL 55 l_2 (RSi.enc s.out9)]) ⟨none, 0, 0, []⟩ (VOK.nil) (sE Y) (fun w hh => hh) (fun s l_2 r hpl hm h9 => ?_)
   have h8 := hpl
   unfold qP at hm
   refine jr (Kv Y Y Y (jq (ji ?_)))
   refine ju Y (fun h10 => ?_) (fun h10 => ?_)
   ·replace hm := ifD h10 hm
    refine jt (ja (ji (jp (ji ?_))))
    obtain ⟨o_1, h11, h12⟩ := bindO hm
    refine j3 (ι := Nat) (fun l_3 => True) (fun l_3 => [(0, ptr pb 0), (2, .slice qa4 na4 ca4), (5, ptr b 0), (9, sL l_2), (10, ptr l_3 0), (13, .int .i64 t13.r0), (14, .int .i64 s.t14)]) (fun l_3 => [kc pb #[.slice qa0 na0 ca0, .int .i64 o_1.b0_1, .int .u32 o_1.b0_2] 199, kc b #[.int .i64 c1.cells, .int .i64 c1.tides, .slice qa1 na1 ca1, .slice qa2 na2 ca2, .slice qa3 na3 ca3] 26, kc l_3 #[.int .i64 o_1.s10.after, .int .i64 o_1.s10.cell, .bool o_1.s10.upright] 55]) (fun l_3 => [vL 55 l_2 (RSi.enc s.out9)]) ?_ ?_
    ·replace hm := h11
     obtain ⟨t23, h13, hm⟩ := bindO hm
     obtain ⟨t19, h14, hm⟩ := bindO hm
     obtain ⟨t24, h15, hm⟩ := bindO hm
     refine ky none (.free 0 (.free 1 (.hoist 2 (.free 4 (.free 5 (.hoist 6 (.free 7 (.br (.alt 3 (.br (.alt 8 (.free 9 (.one 10 (.one 11 .done))) (.alt 10 (.one 8 (.free 9 (.one 11 .done))) .nil))) (.alt 10 (.one 3 (.one 8 (.free 9 (.one 11 .done)))) .nil)))))))))) (HV _ _ [kc b #[.int .i64 c1.cells, .int .i64 c1.tides, .slice qa1 na1 ca1, .slice qa2 na2 ca2, .slice qa3 na3 ca3] 26] [vL 55 l_2 (RSi.enc s.out9)] _) Y (by decide +kernel) (fun w k hh => hh.draw k) (hsE [1] [0] 0 Y Y Y Y) ?_
     refine zs Y Y Y (JT 1 runUnderlying26 sizeOf3 Y Y Y Y (Kg 0 isAgg3 Y Y Y Y Y (zs Y Y Y (JT 0 runUnderlying26 sizeOf3 Y Y Y Y (Kg 0 isAgg3 Y Y Y Y Y (jn Y Y Y Y (fun _ _ => zO h13 Y Y) (ZC ?_)))))))
     refine zC Y ?_ ?_
     ·refine jd [_] [] Y Y Y Y Y Y Y call146 (fun w hh => j8 b00 s.b0_1 s.b0_2 c1.tides pb qa0 na0 ca0 w (HV.callee (S0 := [_]) (vs0 := []) hh (roR hh 0 Y roN)) hna0 hqa0 hla0 h14) (fun l_4 h16 => ?_)
      refine jV (S' := [_, _]) (vs' := [_]) [0, 1] [0] 0 Y Y Y Y (jj (hsE [1] [0] 0 Y Y Y Y) (ZC ?_))
      refine zC Y ?_ ?_
      ·refine jd [_] [] Y Y Y Y Y Y Y call146 (fun w hh => j8 b00 t19.h0_1 t19.h0_2 t23 pb qa0 na0 ca0 w (HV.callee (S0 := [_]) (vs0 := []) hh (roR hh 0 Y roN)) hna0 hqa0 hla0 h15) (fun l_5 h17 => ?_)
       refine jV (S' := [_, _]) (vs' := [_]) [0, 1] [0] 0 Y Y Y Y (jj (hsE [1] [0] 0 Y Y Y Y) (jn Y Y Y Y (fun _ _ => k9 (vs := [(0, _), (1, _)]) (cells := [_, _, _]) Y Y) (jA Y ?_)))
       refine js (fun w => zeroValue55 w) Y (fun b_1 h18 => ?_)
       refine jj (hsE [2] [0] 0 Y Y Y Y) (jA Y (kz (us := #[_, _, _]) (cs' := [_, _, _]) (S' := [_, _, _]) 0 (fun w => sizeOf55 w) Y Y Y Y Y Y Y (jj (hsE [2] [0] 0 Y Y Y Y) (jM ?_))))
       obtain rfl := sj hm
       exact jk b_1 (trivial) (sE Y) (hsE [1, 2, 0] [0] 0 Y Y Y Y)
      refine zC Y ?_ ?_
      refine js (fun w => zeroValue55 w) Y (fun b_2 h19 => ?_)
      refine jj (hsE [2] [0] 0 Y Y Y Y) (jA Y (jV (S' := [_, _, _]) (vs' := [_]) [1, 0, 2] [0] 0 Y Y Y Y ?_))
      refine jd [_] [] Y Y Y Y Y Y Y call146 (fun w hh => j8 b00 t19.h0_1 t19.h0_2 t23 pb qa0 na0 ca0 w (HV.callee (S0 := [_]) (vs0 := []) hh (roR hh 0 Y roN)) hna0 hqa0 hla0 h15) (fun l_6 h20 => ?_)
      refine jV (S' := [_, _, _]) (vs' := [_]) [0, 1, 2] [0] 0 Y Y Y Y (jj (hsE [2] [0] 0 Y Y Y Y) (jn Y Y Y Y (fun _ _ => k9 (vs := [(0, _), (1, _)]) (cells := [_, _, _]) Y Y) (jA Y (kz (us := #[_, _, _]) (cs' := [_, _, _]) (S' := [_, _, _]) 1 (fun w => sizeOf55 w) Y Y Y Y Y Y Y (jj (hsE [2] [0] 0 Y Y Y Y) (jM ?_))))))
      obtain rfl := sj hm
      exact jk b_2 (trivial) (sE Y) (hsE [0, 2, 1] [0] 0 Y Y Y Y)
      exact QE
     refine zC Y ?_ ?_
     refine js (fun w => zeroValue55 w) Y (fun b_3 h21 => ?_)
     refine jj (hsE [2] [0] 0 Y Y Y Y) (jA Y (jV (S' := [_, _, _]) (vs' := [_]) [1, 0, 2] [0] 0 Y Y Y Y ?_))
     refine jd [_] [] Y Y Y Y Y Y Y call146 (fun w hh => j8 b00 s.b0_1 s.b0_2 c1.tides pb qa0 na0 ca0 w (HV.callee (S0 := [_]) (vs0 := []) hh (roR hh 0 Y roN)) hna0 hqa0 hla0 h14) (fun l_7 h22 => ?_)
     refine jV (S' := [_, _, _]) (vs' := [_]) [0, 1, 2] [0] 0 Y Y Y Y (jj (hsE [2] [0] 0 Y Y Y Y) (jA Y ?_))
     refine jd [_] [] Y Y Y Y Y Y Y call146 (fun w hh => j8 b00 t19.h0_1 t19.h0_2 t23 pb qa0 na0 ca0 w (HV.callee (S0 := [_]) (vs0 := []) hh (roR hh 0 Y roN)) hna0 hqa0 hla0 h15) (fun l_8 h23 => ?_)
     refine jV (S' := [_, _, _]) (vs' := [_]) [0, 1, 2] [0] 0 Y Y Y Y (jj (hsE [2] [0] 0 Y Y Y Y) (jn Y Y Y Y (fun _ _ => k9 (vs := [(0, _), (1, _)]) (cells := [_, _, _]) Y Y) (jA Y (kz (us := #[_, _, _]) (cs' := [_, _, _]) (S' := [_, _, _]) 1 (fun w => sizeOf55 w) Y Y Y Y Y Y Y (jj (hsE [2] [0] 0 Y Y Y Y) (jM ?_))))))
     obtain rfl := sj hm
     exact jk b_3 (trivial) (sE Y) (hsE [0, 2, 1] [0] 0 Y Y Y Y)
     exact QE
    intro l_3 hj
    replace hm := h12
    refine ja (ji ?_)
    obtain ⟨o_2, h24, h25⟩ := bindO hm
    refine j3 (ι := Unit) (fun l_9 => True) (fun l_9 => [(0, ptr pb 0), (2, .slice qa4 na4 ca4), (5, ptr b 0), (9, sL l_2), (10, ptr l_3 0), (13, .int .i64 t13.r0), (14, .int .i64 s.t14)]) (fun l_9 => [kc pb #[.slice qa0 na0 ca0, .int .i64 o_2.b0_1, .int .u32 o_2.b0_2] 199, kc b #[.int .i64 c1.cells, .int .i64 c1.tides, .slice qa1 na1 ca1, .slice qa2 na2 ca2, .slice qa3 na3 ca3] 26, kc l_3 #[.int .i64 o_1.s10.after, .int .i64 o_2.s10_cell, .bool o_1.s10.upright] 55]) (fun l_9 => [vL 55 l_2 (RSi.enc s.out9)]) ?_ ?_
    ·replace hm := h24
     refine jr (jg Y Y ?_)
     obtain ⟨t27, h26, hm⟩ := bindO hm
     refine jd [_] [] Y Y Y Y Y Y Y call68 (fun w hh => Q3 b00 o_1.b0_1 o_1.b0_2 2 pb qa0 na0 ca0 w (HV.callee (S0 := [_]) (vs0 := []) hh (roR hh 0 Y roN)) hna0 hqa0 hla0 h26) (fun l_10 h27 => ?_)
     refine jV (S' := [_, _, _]) (vs' := [_]) [0, 1, 2] [0] 0 Y Y Y Y (jq ?_)
     refine ju Y (fun h28 => ?_) (fun h28 => ?_)
     ·replace hm := ifT (h28) hm
      refine ky (some 14) (.free 0 (.free 1 (.hoist 2 (.free 3 (.hoist 4 (.free 5 (.free 6 (.hoist 7 (.free 8 (.free 9 (.one 10 (.free 11 (.hoist 12 (.free 13 (.last 14 .done))))))))))))))) (HV _ _ [kc b #[.int .i64 c1.cells, .int .i64 c1.tides, .slice qa1 na1 ca1, .slice qa2 na2 ca2, .slice qa3 na3 ca3] 26, kc l_3 #[.int .i64 o_1.s10.after, .int .i64 o_1.s10.cell, .bool o_1.s10.upright] 55] [vL 55 l_2 (RSi.enc s.out9)] _) Y (by decide +kernel) (fun w k hh => hh.draw k) (hsE [1, 2] [0] 0 Y Y Y Y) ?_
      refine zs Y Y Y (JT 0 runUnderlying55 sizeOf3 Y Y Y Y (Kg 1 isAgg3 Y Y Y Y Y ?_))
      obtain ⟨t31, h29, hm⟩ := bindO hm
      obtain ⟨A, h30, h31, h32, h33⟩ := (hda4).row h29
      refine jn Y Y Y Y (fun w _ => Jy h30 (runUnderlying41 w) (sizeOf22 w) Y Y (Eq.trans (hda4).len.symm hna4) hqa4) (jy Y Y Y Y (fun w hh => zR RwA 0 h30 (isAgg22 w) Y (hh.seg 4 Y) Y (Nat.add_zero _).symm) (zs Y Y Y (JT 2 runUnderlying26 sizeOf22 Y Y Y Y (Kg 0 isAgg22 Y Y Y Y Y (jn Y Y Y Y (fun w _ => qd hna1 (runUnderlying22 w) Y) ?_)))))
      obtain ⟨t37, h34, hm⟩ := bindO hm
      refine jn Y Y Y Y (fun _ _ => zO h34 Y Y) (jA Y ?_)
      obtain ⟨t38, h35, hm⟩ := bindO hm
      refine jd [_] [] Y Y Y Y Y Y Y call146 (fun w hh => j8 b00 t27.h0_1 t27.h0_2 t37 pb qa0 na0 ca0 w (HV.callee (S0 := [_]) (vs0 := []) hh (roR hh 0 Y roN)) hna0 hqa0 hla0 h35) (fun l_11 h36 => ?_)
      refine jV (S' := [_, _, _]) (vs' := [_]) [0, 1, 2] [0] 0 Y Y Y Y (jj (hsE [1, 2] [0] 0 Y Y Y Y) ?_)
      obtain ⟨t39, h37, hm⟩ := bindO hm
      refine jn Y Y Y Y (fun w _ => Jy h37 (runUnderlying22 w) (sizeOf3 w) Y Y h31 h32) (jy Y Y Y Y (fun w hh => zR RI 0 h37 (isAgg3 w) Y (hh.oldseg (hTa4 _ (rsg_ix h29 h30))) Y (Nat.add_zero _).symm) (JT 1 runUnderlying55 sizeOf3 Y Y Y Y (YG Y (q4 (cs' := #[_, _, _]) (S' := [_, _, _]) 2 (fun w => sizeOf3 w) Y Y Y Y Y Y Y (QH (jM ?_))))))
      obtain rfl := sj hm
      exact jk () (trivial) (sE Y) (fun w hh => hh)
     replace hm := ifN h28 hm
     refine jt ?_
     obtain rfl := sj hm
     exact jk () (trivial) (sE Y) (fun w hh => hh)
    intro l_9 hj
    replace hm := h25
    refine ja (ji ?_)
    refine ky (some 9) (.free 0 (.free 1 (.hoist 2 (.free 3 (.hoist 4 (.free 5 (.hoist 6 (.one 7 (.free 8 (.last 9 .done)))))))))) _ Y (by decide +kernel) (fun w k hh => hh.draw k) (fun w hh => hh) ?_
    refine zs Y Y Y (JT 0 runUnderlying55 sizeOf3 Y Y Y Y (Kg 2 isAgg3 Y Y Y Y Y ?_))
    obtain ⟨t45, h38, hm⟩ := bindO hm
    obtain ⟨A_1, h39, h40, h41, h42⟩ := (hda4).row h38
    refine jn Y Y Y Y (fun w _ => Jy h39 (runUnderlying41 w) (sizeOf22 w) Y Y (Eq.trans (hda4).len.symm hna4) hqa4) (jy Y Y Y Y (fun w hh => zR RwA 0 h39 (isAgg22 w) Y (hh.seg 4 Y) Y (Nat.add_zero _).symm) (JT 1 runUnderlying55 sizeOf3 Y Y Y Y (Kg 2 isAgg3 Y Y Y Y Y (jA Y ?_))))
    obtain ⟨t49, h43, hm⟩ := bindO hm
    refine jd [] [] Y Y Y Y Y Y Y call64 (fun w hh => qY t45 o_2.s10_cell A_1.a A_1.n A_1.cap w (HV.callee (S0 := []) (vs0 := []) hh (roC (hh.oldsep (S0 := []) (vs0 := []) (hTa4 _ (rsg_ix h38 h39))) roN)) h40 h41 h42 h43) (fun l_12 h44 => ?_)
    refine jj (fun w hh => hh) (JT 2 runUnderlying55 sizeOf4 Y Y Y Y (YG Y (q4 (cs' := #[_, _, _]) (S' := [_, _, _]) 2 (fun w => sizeOf4 w) Y Y Y Y Y Y Y (QH (jM (ja (je ?_)))))))
    refine jg Y Y (zX [_, _, _] 2 isAgg55 sizeOf55 Y Y Y Y ?_)
    refine qE RSi [(⟨o_1.s10.after, o_2.s10_cell, t49⟩ : Sight)] (ps := [(0, _)]) (cells := [_, _, _]) (fun w => runUnderlying24 w) (fun w => sizeOf55 w) (fun w => zeroValue55 w) Y Y Y Y Y Y Y Y (fun L h45 => ?_)
    obtain ⟨t54, h46, hm⟩ := bindO hm
    refine zz RSi 1 h46 underlying24 YP Y Y Y Y Y h8 Y Y (vlen RSi h45 Y) (AOK.q (vne h45)) (fun w hh => (hh.vsegA 0 Y h45)) Y (fun L_1 h47 h47n => ?_)
    refine jV (S' := [_, _, _]) (vs' := [_, _]) [0, 1, 2] [0, 1] 0 Y Y Y Y (jo Y Y (jx (jw (ja (je ?_)))))
    obtain ⟨t55, h48, hm⟩ := bindO hm
    refine Kq h48 Y Y Y (jg Y Y (jx ?_))
    obtain rfl := sj hm
    refine ja ?_
    exact jN _ L_1 Y (h47) (sE Y) (hsE [0, 1] [1] 0 Y Y Y Y)
   replace hm := ifE h10 hm
   refine kN (jl (jl (jO ?_)))
   obtain rfl := sj hm
   have hbo := h9 _ Y
   subst hbo
   exact jk l_2 (h8) (sE Y) (fun w hh => hh)
  intro l_1 hj
  have h7 := hj
  replace hm := h6
  refine ja (jr (jg Y Y (jo Y Y (jq (jv ?_)))))
  obtain rfl := sj hm
  refine jm Y (fun w hh => (.tmp Y .nil)) (fun w hh => ⟨l_1, rfl, h7, hh.se [0] [0] 5 Y Y Y rfl⟩)
end Go.Proofs.Wb

namespace Go.Proofs.Wb
set_option maxHeartbeats 4000000
set_option maxRecDepth 100000
open Go Go.Fw Go.Gx Go.Sb
open Tryz
set_option linter.unusedVariables false

def yd (d00 : Int) (d01 : Int) (d02 : (List Int)) (d03 : (List Sand)) (d04 : (List Sight)) (d05 : (List Int)) : Option Bool :=
 (qG d00 d01 d02 d03 d04 d05).bind fun t7 =>
 (jB d00 d01 d02 d03 d04 d05).bind fun t9 =>
 some (decide (0 < ((aget t7 t9).getD 0)))
theorem QS (d00 : Int) (d01 : Int) (d02 : (List Int)) (d03 : (List Sand)) (d04 : (List Sight)) (d05 : (List Int)) (rb : Nat) (qa1 : Option Addr) (na1 ca1 : Nat) (qa2 : Option Addr) (na2 ca2 : Nat) (qa3 : Option Addr) (na3 ca3 : Nat) (qa4 : Option Addr) (na4 ca4 : Nat) (w : World) (hw : HV w (keys [] []) [] [] [(rb, 0, [.int .i64 d00, .int .i64 d01, .slice qa1 na1 ca1, .slice qa2 na2 ca2, .slice qa3 na3 ca3, .slice qa4 na4 ca4]), (aB qa1, aO qa1, RI.enc d02), (aB qa2, aO qa2, RSa.enc d03), (aB qa3, aO qa3, RSi.enc d04), (aB qa4, aO qa4, RI.enc d05)] w)  (hna1 : d02.length = na1) (hqa1 : AOK na1 qa1) (hla1 : na1 ≤ ca1) (hna2 : d03.length = na2) (hqa2 : AOK na2 qa2) (hla2 : na2 ≤ ca2) (hna3 : d04.length = na3) (hqa3 : AOK na3 qa3) (hla3 : na3 ≤ ca3) (hna4 : d05.length = na4) (hqa4 : AOK na4 qa4) (hla4 : na4 ≤ ca4) {res : Bool} (hm : yd d00 d01 d02 d03 d04 d05 = some res) :
    Calls Tryz.prog 121 #[ptr rb 0, .agg #[.func (.func 172) #[] #[]]] w (fun en w' => ∃ l : Unit, en = .returned (.bool res) ∧ (True) ∧ HV w (keys [] []) [] [] [] w') := by
  unfold yd at hm
  refine yr func121 Y ntmps121 Y (e := [(0, _), (1, _)]) Y hw (jr ?_)
  refine jI Y Y (fun b h1 => ?_)
  refine jo Y Y (k7 (jg Y Y (zX [_] 0 isAgg181 sizeOf181 Y Y Y Y ?_)))
  obtain ⟨t7, h2, hm⟩ := bindO hm
  refine jd [] [] Y Y Y Y Y Y Y call159 (fun w hh => JP d00 d01 d02 d03 d04 d05 rb qa1 na1 ca1 qa2 na2 ca2 qa3 na3 ca3 qa4 na4 ca4 w (HV.callee (S0 := []) (vs0 := []) hh (roR hh 0 Y (roR hh 1 Y (roR hh 2 Y (roR hh 3 Y (roR hh 4 Y roN)))))) hna1 hqa1 hla1 hna2 hqa2 hla2 hna3 hqa3 hla3 hna4 hqa4 hla4 h2) (fun l h3 => ?_)
  refine jV (S' := [_, _]) (vs' := []) [0, 1] [] 0 Y Y Y Y (jg Y Y ?_)
  obtain ⟨t9, h4, hm⟩ := bindO hm
  refine jd [] [] Y Y Y Y Y Y Y call99 (fun w hh => jW d00 d01 d02 d03 d04 d05 rb qa1 na1 ca1 qa2 na2 ca2 qa3 na3 ca3 qa4 na4 ca4 w (HV.callee (S0 := []) (vs0 := []) hh (roR hh 0 Y (roR hh 1 Y (roR hh 2 Y (roR hh 3 Y (roR hh 4 Y roN)))))) hna1 hqa1 hla1 hna2 hqa2 hla2 hna3 hqa3 hla3 hna4 hqa4 hla4 h4) (fun l_1 h5 => ?_)
  refine jc Y Y Y (fun w hh => Qj (k := t9) (z := 0) (runUnderlying153 w) yz (zeroValue3 w) Y Y (hh.mget 0 Y)) (jc Y Y Y (fun _ _ => Zj Y Y) (jo Y Y (jq (jv ?_))))
  obtain rfl := sj hm
  refine jm Y (fun w hh => (.tmp Y .nil)) (fun w hh => ⟨(), rfl, trivial, hh.se [] [] 5 Y Y Y rfl⟩)
def Ji (sights0 : (List Int)) : Option Unit :=
 some ()
theorem Yu (sights0 : (List Int)) (qa0 : Option Addr) (na0 ca0 : Nat) (w : World) (hw : HV w (keys [] []) [] [] [(aB qa0, aO qa0, RI.enc sights0)] w) (hna0 : sights0.length = na0) (hqa0 : AOK na0 qa0) (hla0 : na0 ≤ ca0) {res : Unit} (hm : Ji sights0 = some res) :
    Calls Tryz.prog 122 #[.slice qa0 na0 ca0] w (fun en w' => ∃ l : Nat, en = .returned (.agg #[.func (.func 171) #[] #[ptr l 0]]) ∧ (True) ∧ HV w (keys [] []) [kc l #[.slice qa0 na0 ca0] 22] [] [] w') := by
  unfold Ji at hm
  refine yr func122 Y ntmps122 Y (e := [(0, _)]) Y hw (jr ?_)
  refine jI Y Y (fun b h1 => ?_)
  refine js (fun w => zeroValue181 w) Y (fun b_1 h2 => ?_)
  refine k7 (jc Y Y Y (fun _ _ => ku (u := #[]) (u' := #[_]) Y Y) (jc Y Y Y (fun _ _ => k9 (vs := [(0, _)]) (cells := [_]) Y Y) (kz (us := #[_]) (cs' := [_]) (S' := [_, _]) 0 (fun w => sizeOf181 w) Y Y Y Y Y Y Y (jq (jv ?_)))))
  obtain rfl := sj hm
  refine jm Y (fun w hh => (.cell Y (loadVar_agg (vs := [_]) (isAgg181 _) (sizeOf181 _) (hh.cells 0 Y Y)) .nil)) (fun w hh => ⟨b, rfl, trivial, hh.se [1] [] 1 Y Y Y rfl⟩)
def z6 (i0 : Int) (a11 : (List Int)) : Option Bool :=
 (jS a11 i0).bind fun t6 =>
 some t6
theorem Y8 (i0 : Int) (a11 : (List Int)) (rb : Nat) (qa1 : Option Addr) (na1 ca1 : Nat) (w : World) (hw : HV w (keys [] []) [] [] [(rb, 0, [.slice qa1 na1 ca1]), (aB qa1, aO qa1, RI.enc a11)] w)  (hna1 : a11.length = na1) (hqa1 : AOK na1 qa1) (hla1 : na1 ≤ ca1) {res : Bool} (hm : z6 i0 a11 = some res) :
    Calls Tryz.prog 171 #[.int .i64 i0, ptr rb 0] w (fun en w' => ∃ l : Unit, en = .returned (.bool res) ∧ (True) ∧ HV w (keys [] []) [] [] [] w') := by
  unfold z6 at hm
  refine yr func171 Y ntmps171 Y (e := [(0, _), (1, _)]) Y hw (jr (jo Y Y (k7 (jc Y Y Y (fun w hh => jz (isAgg22 w) Y (segCell (hh.seg 0 Y) 0 Y)) (jg Y Y ?_)))))
  obtain ⟨t6, h1, hm⟩ := bindO hm
  refine jd [] [] Y Y Y Y Y Y Y call64 (fun w hh => qY a11 i0 qa1 na1 ca1 w (HV.callee (S0 := []) (vs0 := []) hh (roR hh 1 Y roN)) hna1 hqa1 hla1 h1) (fun l h2 => ?_)
  refine jo Y Y (jq (jv ?_))
  obtain rfl := sj hm
  refine jm Y (fun w hh => (.tmp Y .nil)) (fun w hh => ⟨(), rfl, trivial, hh.se [] [] 2 Y Y Y rfl⟩)
def qC (d04 : (List Sight)) (s2 : State) (f1_0_c0 : (List Int)) (d00 : Int) (d01 : Int) (d02 : (List Int)) (d03 : (List Sand)) (d05 : (List Int)) (s : Int) : Option (Int ⊕ (Unit ⊕ Bool)) :=
 if s < (d04.length : Int) then
 ((ix d04 s).bind fun t18 =>
 (if t18.after = s2.after then
 ((z6 s f1_0_c0).bind fun t29 =>
 if t29 = true then
 ((kW d00 d01 d02 d03 d04 d05 s2).bind fun t34 =>
 (jS t34 t18.cell).bind fun t37 =>
 some (!(t37 == t18.upright))) else
 (some false)) else
 (some false)).bind fun o_1 =>
 if o_1 = true then
 (some (.inr (.inr false))) else
 ((addc s 1).bind fun t42 =>
 some (.inl t42))) else
 (some (.inr (.inl ())))
def q9 (d00 : Int) (d01 : Int) (d02 : (List Int)) (d03 : (List Sand)) (d04 : (List Sight)) (d05 : (List Int)) (f1_0_c0 : (List Int)) (s2 : State) : Option Bool :=
 (iterM FU (qC d04 s2 f1_0_c0 d00 d01 d02 d03 d05) 0).bind fun o =>
 oc o (fun j => some true) (fun r_1 => some r_1)
theorem QQ (d00 : Int) (d01 : Int) (d02 : (List Int)) (d03 : (List Sand)) (d04 : (List Sight)) (d05 : (List Int)) (f1_0_c0 : (List Int)) (s2 : State) (rb : Nat) (qa1 : Option Addr) (na1 ca1 : Nat) (qa2 : Option Addr) (na2 ca2 : Nat) (qa3 : Option Addr) (na3 ca3 : Nat) (qa4 : Option Addr) (na4 ca4 : Nat) (rb_1 : Nat) (qa6 : Option Addr) (na6 ca6 : Nat) (w : World) (hw : HV w (keys [] []) [] [] [(rb, 0, [.int .i64 d00, .int .i64 d01, .slice qa1 na1 ca1, .slice qa2 na2 ca2, .slice qa3 na3 ca3, .slice qa4 na4 ca4]), (aB qa1, aO qa1, RI.enc d02), (aB qa2, aO qa2, RSa.enc d03), (aB qa3, aO qa3, RSi.enc d04), (aB qa4, aO qa4, RI.enc d05), (rb_1, 0, [.slice qa6 na6 ca6]), (aB qa6, aO qa6, RI.enc f1_0_c0)] w)  (hna1 : d02.length = na1) (hqa1 : AOK na1 qa1) (hla1 : na1 ≤ ca1) (hna2 : d03.length = na2) (hqa2 : AOK na2 qa2) (hla2 : na2 ≤ ca2) (hna3 : d04.length = na3) (hqa3 : AOK na3 qa3) (hla3 : na3 ≤ ca3) (hna4 : d05.length = na4) (hqa4 : AOK na4 qa4) (hla4 : na4 ≤ ca4)  (hna6 : f1_0_c0.length = na6) (hqa6 : AOK na6 qa6) (hla6 : na6 ≤ ca6) {res : Bool} (hm : q9 d00 d01 d02 d03 d04 d05 f1_0_c0 s2 = some res) :
    Calls Tryz.prog 143 #[ptr rb 0, .agg #[.func (.func 171) #[] #[ptr rb_1 0]], .agg #[.int .i64 s2.after, .int .i64 s2.at_.c0, .int .i64 s2.at_.c1, .int .i64 s2.at_.c2]] w (fun en w' => ∃ l : Unit, en = .returned (.bool res) ∧ (True) ∧ HV w (keys [] []) [] [] [] w') := by
  unfold q9 at hm
  refine yr func143 Y ntmps143 Y (e := [(0, _), (1, _), (2, _)]) Y hw (jr ?_)
  refine jI Y Y (fun b h1 => ?_)
  refine jI Y Y (fun b_1 h2 => ?_)
  refine jo Y Y (jq (ji (jr (jg Y Y (jc Y Y Y (fun _ _ => jQ Y) (yD 0 runUnderlying175 Y sizeOf26 Y Y (yD 4 runUnderlying26 Y sizeOf24 Y Y ?_)))))))
  refine jc Y Y Y (fun w hh => jz (isAgg24 w) Y (segCell (hh.seg 0 Y) 4 Y)) (jc Y Y Y (fun w _ => qd hna3 (runUnderlying24 w) Y) (jg Y Y (jq ?_)))
  obtain ⟨o, h3, h4⟩ := bindO hm
  refine j3 (ι := Unit) (fun j => o = .inl j) (fun j => []) (fun j => [kc b_1 #[.int .i64 s2.after, .int .i64 s2.at_.c0, .int .i64 s2.at_.c1, .int .i64 s2.at_.c2] 159, kc b #[.func (.func 171) #[] #[ptr rb_1 0]] 181]) (fun j => []) ?_ ?_
  ·replace hm := h3
   refine jp ?_
   refine kk (ι := Unit) hm (fun s l => True) (fun s l => [(0, ptr rb 0), (4, ptr b 0), (5, ptr b_1 0), (13, .slice qa3 na3 ca3), (14, .int .i64 (d04.length : Int)), (15, .int .i64 s)]) (fun s l => [kc b_1 #[.int .i64 s2.after, .int .i64 s2.at_.c0, .int .i64 s2.at_.c1, .int .i64 s2.at_.c2] 159, kc b #[.func (.func 171) #[] #[ptr rb_1 0]] 181]) (fun s l => []) () (trivial) (sE Y) (fun w hh => hh) (fun s l r hpl hm h5 => ?_)
   unfold qC at hm
   refine jr (Kv Y Y Y (jq (ji ?_)))
   refine ju Y (fun h6 => ?_) (fun h6 => ?_)
   ·replace hm := ifD h6 hm
    refine jt (ja (ji (jp (jr (jg Y Y ?_)))))
    obtain ⟨t18, h7, hm⟩ := bindO hm
    refine jc Y Y Y (fun w _ => Jy h7 (runUnderlying24 w) (sizeOf55 w) Y Y hna3 hqa3) ?_
    refine jc Y Y Y (fun w hh => JE RSi 0 [.int .i64 t18.after, .int .i64 t18.cell, .bool t18.upright] h7 (isAgg55 w) (sizeOf55 w) Y (hh.seg 3 Y) Y (Nat.add_zero _).symm) ?_
    refine js (fun w => zeroValue55 w) Y (fun b_2 h8 => ?_)
    refine jo Y Y (kz (us := #[_, _, _]) (cs' := [_, _, _]) (S' := [_, _, _]) 0 (fun w => sizeOf55 w) Y Y Y Y Y Y Y (jq (ji ?_)))
    obtain ⟨o_1, h9, h10⟩ := bindO hm
    refine j3 (ι := Unit) (fun l_1 => True) (fun l_1 => [(0, ptr rb 0), (4, ptr b 0), (5, ptr b_1 0), (13, .slice qa3 na3 ca3), (14, .int .i64 (d04.length : Int)), (15, .int .i64 s), (41, .bool o_1)]) (fun l_1 => [kc b_2 #[.int .i64 t18.after, .int .i64 t18.cell, .bool t18.upright] 55, kc b_1 #[.int .i64 s2.after, .int .i64 s2.at_.c0, .int .i64 s2.at_.c1, .int .i64 s2.at_.c2] 159, kc b #[.func (.func 171) #[] #[ptr rb_1 0]] 181]) (fun l_1 => []) ?_ ?_
    ·replace hm := h9
     refine ky none (.free 0 (.hoist 1 (.free 2 (.hoist 3 (.free 4 (.free 5 (.free 6 (.hoist 7 (.free 8 (.one 9 (.free 10 (.free 11 (.free 12 (.hoist 13 (.free 15 (.hoist 16 (.free 18 (.hoist 19 (.one 14 (.one 17 (.free 20 (.free 21 .done)))))))))))))))))))))) _ Y (by decide +kernel) (fun w k hh => hh.draw k) (fun w hh => hh) ?_
     refine JT 0 runUnderlying55 sizeOf3 Y Y Y Y (Kg 0 isAgg3 Y Y Y Y Y (JT 0 runUnderlying159 sizeOf3 Y Y Y Y (Kg 1 isAgg3 Y Y Y Y Y (jn Y Y Y Y (fun _ _ => Ju Y Y) (zs Y Y Y ?_)))))
     refine j4 25 Y (fun h11 => ?_) (fun h11 => ?_)
     ·replace hm := ifD h11 hm
      refine qW Y Y Y Y Y Y (fun w _ => jR 0 (runUnderlying181 w) Y (sizeOf102 w) Y) (Jl Y Y Y Y Y Y (fun w hh => jz (isAgg102 w) Y (hh.cell 2 Y Y)) (qW Y Y Y Y Y Y (fun _ _ => k8 Y) (jA Y (jb Y Y ?_))))
      obtain ⟨t29, h12, hm⟩ := bindO hm
      refine jd [] [] Y Y Y Y Y Y Y call171 (fun w hh => Y8 s f1_0_c0 rb_1 qa6 na6 ca6 w (HV.callee (S0 := []) (vs0 := []) hh (roR hh 5 Y (roR hh 6 Y roN))) hna6 hqa6 hla6 h12) (fun l_2 h13 => ?_)
      refine jj (fun w hh => hh) (jn Y Y Y Y (fun _ _ => Qi Y Y) (zs Y Y Y ?_))
      refine j4 31 Y (fun h14 => ?_) (fun h14 => ?_)
      ·replace hm := ifT (h14) hm
       refine qW Y Y Y Y Y Y (fun _ _ => k8 Y) (Jl Y Y Y Y Y Y (fun w hh => jP (vs := [_, _, _, _]) (isAgg159 w) (sizeOf159 w) Y (hh.cells 1 Y Y)) (qW Y Y Y Y Y Y (fun w _ => jR 1 (runUnderlying55 w) Y (sizeOf3 w) Y) (Jl Y Y Y Y Y Y (fun w hh => jz (isAgg3 w) Y (hh.cell 0 Y Y)) (qW Y Y Y Y Y Y (fun w _ => jR 2 (runUnderlying55 w) Y (sizeOf4 w) Y) (Jl Y Y Y Y Y Y (fun w hh => jz (isAgg4 w) Y (hh.cell 0 Y Y)) (jA Y (jb Y Y ?_)))))))
       obtain ⟨t34, h15, hm⟩ := bindO hm
       refine jd [] [] Y Y Y Y Y Y Y call100 (fun w hh => za d00 d01 d02 d03 d04 d05 s2 rb qa1 na1 ca1 qa2 na2 ca2 qa3 na3 ca3 qa4 na4 ca4 w (HV.callee (S0 := []) (vs0 := []) hh (roR hh 0 Y (roR hh 1 Y (roR hh 2 Y (roR hh 3 Y (roR hh 4 Y roN)))))) hna1 hqa1 hla1 hna2 hqa2 hla2 hna3 hqa3 hla3 hna4 hqa4 hla4 h15) (fun l_3 h16 => ?_)
       have h17 := h16
       refine jV (S' := [_, _, _]) (vs' := [_]) [0, 1, 2] [0] 0 Y Y Y Y (jj (hsE [0, 1, 2] [] 0 Y Y Y Y) (jA Y (jb Y Y ?_)))
       obtain ⟨t37, h18, hm⟩ := bindO hm
       refine jd [] [] Y Y Y Y Y Y Y call64 (fun w hh => qY t34 t18.cell (qA l_3.q) l_3.n l_3.cap w (HV.callee (S0 := []) (vs0 := []) hh (roC (hh.vsepA 0 Y h17) roN)) (vlen RI h17 Y) (AOK.q (vne h17)) (h17).hle h18) (fun l_4 h19 => ?_)
       refine jj (hsE [0, 1, 2] [] 0 Y Y Y Y) (qW Y Y Y Y Y Y (fun w _ => Y6 (runUnderlying4 w) Y Y) (jn Y Y Y Y (fun _ _ => Qi Y Y) (jM ?_)))
       obtain rfl := sj hm
       exact jk () (trivial) (sE Y) (hsE [0, 1, 2] [] 0 Y Y Y Y)
      replace hm := ifN h14 hm
      refine kA Y Y Y Y Y Y Y (Jq Y Y Y Y Y Y Y (kA Y Y Y Y Y Y Y (Jq Y Y Y Y Y Y Y (kA Y Y Y Y Y Y Y (Jq Y Y Y Y Y Y Y (jA Y (g_k Y Y Y Y ?_)))))))
      refine jj (fun w hh => hh) (jA Y (g_k Y Y Y Y (jj (fun w hh => hh) (kA Y Y Y Y Y Y Y (jn Y Y Y Y (fun _ _ => Kb Y Y) (jM ?_))))))
      obtain rfl := sj hm
      exact jk () (trivial) (sE Y) (fun w hh => hh)
     replace hm := ifE h11 hm
     refine kA Y Y Y Y Y Y Y (Jq Y Y Y Y Y Y Y (kA Y Y Y Y Y Y Y (jA Y (g_k Y Y Y Y (jj (fun w hh => hh) (jn Y Y Y Y (fun _ _ => Kb Y Y) (zs Y Y Y ?_)))))))
     refine kA Y Y Y Y Y Y Y (Jq Y Y Y Y Y Y Y (kA Y Y Y Y Y Y Y (Jq Y Y Y Y Y Y Y (kA Y Y Y Y Y Y Y (Jq Y Y Y Y Y Y Y (jA Y (g_k Y Y Y Y ?_)))))))
     refine jj (fun w hh => hh) (jA Y (g_k Y Y Y Y (jj (fun w hh => hh) (kA Y Y Y Y Y Y Y (jn Y Y Y Y (fun _ _ => Kb Y Y) (jM ?_))))))
     obtain rfl := sj hm
     exact jk () (trivial) (sE Y) (fun w hh => hh)
    intro l_1 hj
    replace hm := h10
    refine ja ?_
    refine ju Y (fun h20 => ?_) (fun h20 => ?_)
    ·replace hm := ifT (h20) hm
     refine jr (jo Y Y (jq (jv (jJ (jh (jh (jJ ?_)))))))
     obtain rfl := sj hm
     have hbo := h5 _ Y
     subst hbo
     refine jh ?_
     replace hm := ocR h4
     refine jh ?_
     obtain rfl := sj hm
     refine jm Y (fun w hh => (.tmp Y .nil)) (fun w hh => ⟨(), rfl, trivial, hh.se [] [] 7 Y Y Y rfl⟩)
    replace hm := ifN h20 hm
    refine jt (jw (ja (je ?_)))
    obtain ⟨t42, h21, hm⟩ := bindO hm
    refine Kq h21 Y Y Y (jg Y Y (jx ?_))
    obtain rfl := sj hm
    refine ja ?_
    exact jN _ () Y (trivial) (sE Y) (hsE [1, 2] [] 0 Y Y Y Y)
   replace hm := ifE h6 hm
   refine kN (jl (jl (jO ?_)))
   obtain rfl := sj hm
   have hbo := h5 _ Y
   subst hbo
   exact jk () (Y) (.nil) (fun w hh => hh)
  intro j hj
  have h22 := hj
  subst h22
  replace hm := ocL h4
  refine ja (jr (jo Y Y (jq (jv ?_))))
  obtain rfl := sj hm
  refine jm Y (fun w hh => (.tmp Y .nil)) (fun w hh => ⟨(), rfl, trivial, hh.se [] [] 7 Y Y Y rfl⟩)
structure kb where
  r0 : Int
  a11 : (List (State × Int))
structure y6 where
  n9 : Int
  a11 : (List (State × Int))
structure kJ where
  n9 : Int
  a11 : (List (State × Int))
structure KX where
  n9 : Int
  a11 : (List (State × Int))
def ql (rec_ : State → (List (State × Int)) → Int → Int → (List Int) → (List Sand) → (List Sight) → (List Int) → (List Int) → Option kb) (a220 : Int) (a221 : Int) (a222 : (List Int)) (a223 : (List Sand)) (a224 : (List Sight)) (a225 : (List Int)) (a330_c0 : (List Int)) (x : State) (s : kJ) : Option kJ :=
 ((rec_ x s.a11 a220 a221 a222 a223 a224 a225 a330_c0).bind fun t26 =>
 (addc s.n9 t26.r0).bind fun t27 =>
 some (⟨t27, t26.a11⟩ : KX)).bind fun o_2 =>
 some (⟨o_2.n9, o_2.a11⟩ : kJ)
def yp (rec_ : State → (List (State × Int)) → Int → Int → (List Int) → (List Sand) → (List Sight) → (List Int) → (List Int) → Option kb) (s0 : State) (a11 : (List (State × Int))) (a220 : Int) (a221 : Int) (a222 : (List Int)) (a223 : (List Sand)) (a224 : (List Sight)) (a225 : (List Int)) (a330_c0 : (List Int)) : Option kb :=
 if ((aget a11 s0).isSome) = true then
 (some (⟨((aget a11 s0).getD 0), a11⟩ : kb)) else
 (((q9 a220 a221 a222 a223 a224 a225 a330_c0 s0).bind fun t32 =>
 if (!t32) = true then
 (some (⟨0, a11⟩ : y6)) else
 (if s0.after = a221 then
 (some (⟨1, a11⟩ : y6)) else
 ((j7 a220 a221 a222 a223 a224 a225 s0).bind fun t21 =>
 if nextOK a220 a225 (a222.length : Int) t21 then ((iterL (ql rec_ a220 a221 a222 a223 a224 a225 a330_c0) (nextL a220 a225 (a222.length : Int) t21) (⟨0, a11⟩ : kJ)).bind fun o_1 =>
 some (⟨o_1.n9, o_1.a11⟩ : y6)) else none))).bind fun o =>
 (some (aset o.a11 s0 o.n9)).bind fun a11_1 =>
 some (⟨o.n9, a11_1⟩ : kb))
def jG : Nat → State → (List (State × Int)) → Int → Int → (List Int) → (List Sand) → (List Sight) → (List Int) → (List Int) → Option kb
  | 0, _, _, _, _, _, _, _, _, _ => none
  | fu + 1, s0, a11, a220, a221, a222, a223, a224, a225, a330_c0 => yp (jG fu) s0 a11 a220 a221 a222 a223 a224 a225 a330_c0
theorem QG (fu_ : Nat) : ∀ (s0 : State) (a11 : (List (State × Int))) (a220 : Int) (a221 : Int) (a222 : (List Int)) (a223 : (List Sand)) (a224 : (List Sight)) (a225 : (List Int)) (a330_c0 : (List Int)) (rb : Nat) (pb : Nat) (rb_1 : Nat) (rb_2 : Nat) (qa3 : Option Addr) (na3 ca3 : Nat) (qa4 : Option Addr) (na4 ca4 : Nat) (qa5 : Option Addr) (na5 ca5 : Nat) (qa6 : Option Addr) (na6 ca6 : Nat) (rb_3 : Nat) (rb_4 : Nat) (qa9 : Option Addr) (na9 ca9 : Nat) (rb_5 : Nat) (w : World) (hw : HV w (keys [(pb, gobj (kR RSta) kI a11)] []) [(pb, gobj (kR RSta) kI a11)] [] [(rb, 0, [.map (some pb)]), (rb_1, 0, [ptr rb_2 0]), (rb_2, 0, [.int .i64 a220, .int .i64 a221, .slice qa3 na3 ca3, .slice qa4 na4 ca4, .slice qa5 na5 ca5, .slice qa6 na6 ca6]), (aB qa3, aO qa3, RI.enc a222), (aB qa4, aO qa4, RSa.enc a223), (aB qa5, aO qa5, RSi.enc a224), (aB qa6, aO qa6, RI.enc a225), (rb_3, 0, [.func (.func 171) #[] #[ptr rb_4 0]]), (rb_4, 0, [.slice qa9 na9 ca9]), (aB qa9, aO qa9, RI.enc a330_c0), (rb_5, 0, [.func (.func 190) #[] #[ptr rb 0, ptr rb_1 0, ptr rb_3 0, ptr rb_5 0]])] w)    (hna3 : a222.length = na3) (hqa3 : AOK na3 qa3) (hla3 : na3 ≤ ca3) (hna4 : a223.length = na4) (hqa4 : AOK na4 qa4) (hla4 : na4 ≤ ca4) (hna5 : a224.length = na5) (hqa5 : AOK na5 qa5) (hla5 : na5 ≤ ca5) (hna6 : a225.length = na6) (hqa6 : AOK na6 qa6) (hla6 : na6 ≤ ca6)   (hna9 : a330_c0.length = na9) (hqa9 : AOK na9 qa9) (hla9 : na9 ≤ ca9)  {res : kb} (hm : jG fu_ s0 a11 a220 a221 a222 a223 a224 a225 a330_c0 = some res),
    Calls Tryz.prog 190 #[.agg #[.int .i64 s0.after, .int .i64 s0.at_.c0, .int .i64 s0.at_.c1, .int .i64 s0.at_.c2], ptr rb 0, ptr rb_1 0, ptr rb_3 0, ptr rb_5 0] w (fun en w' => ∃ l : Unit, en = .returned (.int .i64 res.r0) ∧ (True) ∧ HV w (keys [(pb, gobj (kR RSta) kI a11)] []) [(pb, gobj (kR RSta) kI res.a11)] [] [] w') := by
  induction fu_ with
  | zero =>
    intros
    rename_i hm
    exact absurd hm (by simp [jG])
  | succ fu_ ih =>
  intro s0 a11 a220 a221 a222 a223 a224 a225 a330_c0 rb pb rb_1 rb_2 qa3 na3 ca3 qa4 na4 ca4 qa5 na5 ca5 qa6 na6 ca6 rb_3 rb_4 qa9 na9 ca9 rb_5 w hw    hna3 hqa3 hla3 hna4 hqa4 hla4 hna5 hqa5 hla5 hna6 hqa6 hla6   hna9 hqa9 hla9  res hm
  replace hm : yp (jG fu_) s0 a11 a220 a221 a222 a223 a224 a225 a330_c0 = some res := hm
  unfold yp at hm
  refine Yy (args := [.agg #[.int .i64 s0.after, .int .i64 s0.at_.c0, .int .i64 s0.at_.c1, .int .i64 s0.at_.c2], ptr rb 0, ptr rb_1 0, ptr rb_3 0, ptr rb_5 0]) func190 Y ntmps190 Y (e := [(0, _), (1, _), (2, _), (3, _), (4, _)]) Y (H := HV w (keys [(pb, gobj (kR RSta) kI a11)] []) [(pb, gobj (kR RSta) kI a11)] [] [(rb, 0, [.map (some pb)]), (rb_1, 0, [ptr rb_2 0]), (rb_2, 0, [.int .i64 a220, .int .i64 a221, .slice qa3 na3 ca3, .slice qa4 na4 ca4, .slice qa5 na5 ca5, .slice qa6 na6 ca6]), (aB qa3, aO qa3, RI.enc a222), (aB qa4, aO qa4, RSa.enc a223), (aB qa5, aO qa5, RSi.enc a224), (aB qa6, aO qa6, RI.enc a225), (rb_3, 0, [.func (.func 171) #[] #[ptr rb_4 0]]), (rb_4, 0, [.slice qa9 na9 ca9]), (aB qa9, aO qa9, RI.enc a330_c0), (rb_5, 0, [.func (.func 190) #[] #[ptr rb 0, ptr rb_1 0, ptr rb_3 0, ptr rb_5 0]])]) hw ?_
  refine QZ (jr ?_)
  refine jI Y Y (fun b h1 => ?_)
  refine jo Y Y (jq (ji (jr (jc Y Y Y (fun w hh => jz (isAgg153 w) Y (segCell (hh.seg 0 Y) 0 Y)) (zX [_, _, _, _] 0 isAgg159 sizeOf159 Y Y Y Y (jc Y Y Y (fun w hh => Zv (k := s0) (z := 0) (runUnderlying153 w) yz (zeroValue3 w) Y Y (hh.mget 1 Y)) (jg Y Y ?_)))))))
  refine zo Y Y Y (zo Y Y Y (jo Y Y (jo Y Y (k7 (jg Y Y (jq ?_))))))
  refine ju Y (fun h2 => ?_) (fun h2 => ?_)
  ·replace hm := ifT (h2) hm
   refine jr (jg Y Y (jo Y Y (jq (jv (jh ?_)))))
   obtain rfl := sj hm
   refine Ks Y Y Y (fun w hh => (.tmp Y .nil)) (fun w hh => ⟨(), rfl, trivial, hh.se [1] [] 11 Y Y Y rfl⟩)
  replace hm := ifN h2 hm
  refine jt (ja (jr ?_))
  refine js (fun w => zeroValue3 w) Y (fun b_1 h3 => ?_)
  refine q4 (cs' := #[_]) (S' := [_, _, _]) 0 (fun w => sizeOf3 w) Y Y Y Y Y Y Y (jq (ji ?_))
  obtain ⟨o, h4, h5⟩ := bindO hm
  refine YQ (ι := List Nat) (fun l => mks l) (fun l => True) (fun l => [(1, ptr rb 0), (5, ptr b 0), (9, ptr b_1 0)]) (fun l => [kc b_1 #[.int .i64 o.n9] 3, kc b #[.int .i64 s0.after, .int .i64 s0.at_.c0, .int .i64 s0.at_.c1, .int .i64 s0.at_.c2] 159, (pb, gobj (kR RSta) kI o.a11)]) (fun l => [mkV l]) ?_ ?_
  ·replace hm := h4
   refine jp (jr (jc Y Y Y (fun w hh => jz (isAgg146 w) Y (segCell (hh.seg 1 Y) 0 Y)) (jc Y Y Y (fun w hh => jP (vs := [_]) (isAgg181 w) (sizeOf181 w) Y (segCells (hh.seg 7 Y) 0 Y)) (zX [_, _, _, _] 1 isAgg159 sizeOf159 Y Y Y Y ?_))))
   obtain ⟨t32, h6, hm⟩ := bindO hm
   refine jd [] [] Y Y Y Y Y Y Y call143 (fun w hh => QQ a220 a221 a222 a223 a224 a225 a330_c0 s0 rb_2 qa3 na3 ca3 qa4 na4 ca4 qa5 na5 ca5 qa6 na6 ca6 rb_4 qa9 na9 ca9 w (HV.callee (S0 := []) (vs0 := []) hh (roR hh 2 Y (roR hh 3 Y (roR hh 4 Y (roR hh 5 Y (roR hh 6 Y (roR hh 8 Y (roR hh 9 Y roN)))))))) hna3 hqa3 hla3 hna4 hqa4 hla4 hna5 hqa5 hla5 hna6 hqa6 hla6 hna9 hqa9 hla9 h6) (fun l_1 h7 => ?_)
   refine jc Y Y Y (fun _ _ => zt Y) (jo Y Y (jq ?_))
   refine ju Y (fun h8 => ?_) (fun h8 => ?_)
   ·replace hm := ifT (h8) hm
    refine jt (jw ?_)
    obtain rfl := sj hm
    exact J8 [] Y (trivial) (sE Y) (fun w hh => hh)
   replace hm := ifN h8 hm
   refine ji ?_
   refine ky none (.free 0 (.hoist 1 (.hoist 2 (.free 3 (.free 4 (.free 5 (.hoist 6 (.free 7 (.free 8 .done))))))))) _ Y (by decide +kernel) (fun w k hh => hh.draw k) (fun w hh => hh) ?_
   refine JT 0 runUnderlying159 sizeOf3 Y Y Y Y (Kg 1 isAgg3 Y Y Y Y Y (jy Y Y Y Y (fun w hh => jz (isAgg146 w) Y (segCell (hh.seg 1 Y) 0 Y)) (jn Y Y Y Y (fun _ _ => jQ Y) (JT 0 runUnderlying175 sizeOf26 Y Y Y Y (JT 1 runUnderlying26 sizeOf3 Y Y Y Y (jy Y Y Y Y (fun w hh => jz (isAgg3 w) Y (segCell (hh.seg 2 Y) 1 Y)) (jn Y Y Y Y (fun _ _ => Ju Y Y) ?_)))))))
   refine jn Y Y Y Y (fun _ _ => kM Y) (jM (ja ?_))
   refine ju Y (fun h9 => ?_) (fun h9 => ?_)
   ·replace hm := ifD h9 hm
    refine je (q4 (cs' := #[_]) (S' := [_, _, _]) 0 (fun w => sizeOf3 w) Y Y Y Y Y Y Y (jx (jw ?_)))
    obtain rfl := sj hm
    exact J8 [] Y (trivial) (sE Y) (fun w hh => hh)
   replace hm := ifE h9 hm
   refine jr (jc Y Y Y (fun w hh => jz (isAgg146 w) Y (segCell (hh.seg 1 Y) 0 Y)) (zX [_, _, _, _] 1 isAgg159 sizeOf159 Y Y Y Y ?_))
   obtain ⟨t21, h10, hm⟩ := bindO hm
   refine jd [] [] Y Y Y Y Y Y Y call96 (fun w hh => zn a220 a221 a222 a223 a224 a225 s0 rb_2 qa3 na3 ca3 qa4 na4 ca4 qa5 na5 ca5 qa6 na6 ca6 w (HV.callee (S0 := []) (vs0 := []) hh (roR hh 2 Y (roR hh 3 Y (roR hh 4 Y (roR hh 5 Y (roR hh 6 Y roN)))))) hna3 hqa3 hla3 hna4 hqa4 hla4 hna5 hqa5 hla5 hna6 hqa6 hla6 h10) (fun l_2 h11 => ?_)
   refine jV (S' := [_, _, _, _, _]) (vs' := [_]) [0, 1, 2, 3, 4] [0] 0 Y Y Y Y (jq (jp ?_))
   obtain ⟨h12, hm⟩ := ifO hm
   refine ZD (e' := [(1, ptr rb 0), (4, ptr rb_5 0), (5, ptr b 0), (9, ptr b_1 0), (21, .func (.func 161) #[] #[ptr l_2.1 0, ptr l_2.2 0])]) (sE Y) ?_
   obtain ⟨o_1, h13, hm⟩ := bindO hm
   refine Qp (ι := Unit) (nextL a220 a225 (a222.length : Int) t21) (fun x => .agg #[.int .i64 x.after, .int .i64 x.at_.c0, .int .i64 x.at_.c1, .int .i64 x.at_.c2]) h13 (fun s l_3 => True) (fun s l_3 => [kc l_2.1 #[.int .i64 t21.after, .int .i64 t21.at_.c0, .int .i64 t21.at_.c1, .int .i64 t21.at_.c2] 159, kc l_2.2 #[ptr rb_2 0] 146, kc b_1 #[.int .i64 s.n9] 3, kc b #[.int .i64 s0.after, .int .i64 s0.at_.c0, .int .i64 s0.at_.c1, .int .i64 s0.at_.c2] 159, (pb, gobj (kR RSta) kI s.a11)]) (fun s l_3 => [mkV []]) () (trivial) (fun w hh => hh) (RdN l_2.2 rb_2 l_2.1 a220 (.int .i64 a221) (.slice qa4 na4 ca4) (.slice qa5 na5 ca5) qa3 qa6 na3 ca3 na6 ca6 a225 t21) (fun s l_3 w h14 hh => ⟨hh.bseg 1 rfl, hh.seg 2 rfl, hh.bseg 0 rfl, hh.seg 6 rfl⟩) (fun x => (.cells #[.int .i64 x.after, .int .i64 x.at_.c0, .int .i64 x.at_.c1, .int .i64 x.at_.c2] 159 (0, 0))) (it_next _ _ _ l_2.2 rb_2 l_2.1 a220 (.int .i64 a221) (.slice qa4 na4 ca4) (.slice qa5 na5 ca5) qa3 qa6 na3 ca3 na6 ca6 a222 a225 t21 hna3 hna6 hqa6 h12) Y call161 Y (e1 := fun x bx => (10, ptr bx 0) :: (22, .agg #[.int .i64 x.after, .int .i64 x.at_.c0, .int .i64 x.at_.c1, .int .i64 x.at_.c2]) :: [(1, ptr rb 0), (4, ptr rb_5 0), (5, ptr b 0), (9, ptr b_1 0), (21, .func (.func 161) #[] #[ptr l_2.1 0, ptr l_2.2 0])]) (fun x lr L X hX => ?_) (fun x s r l_3 lr w1 bx h14 hm => ?_) (fun l_3 D h14 => ?_)
   ·refine je ?_
    refine js (fun w => zeroValue159 w) Y (fun b_2 h17 => ?_)
    refine kz (us := #[_, _, _, _]) (cs' := [_, _, _, _]) (S' := [_]) 0 (fun w => sizeOf159 w) Y Y Y Y Y Y Y (jq ?_)
    exact hX _
   ·unfold ql at hm
    refine jp ?_
    obtain ⟨o_2, h18, h19⟩ := bindO hm
    refine j3 (ι := Unit) (fun l_4 => True) (fun l_4 => []) (fun l_4 => [kc bx #[.int .i64 x.after, .int .i64 x.at_.c0, .int .i64 x.at_.c1, .int .i64 x.at_.c2] 159, kc l_2.1 #[.int .i64 t21.after, .int .i64 t21.at_.c0, .int .i64 t21.at_.c1, .int .i64 t21.at_.c2] 159, kc l_2.2 #[ptr rb_2 0] 146, kc b_1 #[.int .i64 o_2.n9] 3, kc b #[.int .i64 s0.after, .int .i64 s0.at_.c0, .int .i64 s0.at_.c1, .int .i64 s0.at_.c2] 159, (pb, gobj (kR RSta) kI o_2.a11)]) (fun l_4 => [mkV []]) ?_ ?_
    ·replace hm := h18
     refine ky (some 5) (.hoist 0 (.hoist 1 (.hoist 2 (.one 3 (.free 4 (.last 5 .done)))))) (HV _ _ [kc bx #[.int .i64 x.after, .int .i64 x.at_.c0, .int .i64 x.at_.c1, .int .i64 x.at_.c2] 159, kc l_2.1 #[.int .i64 t21.after, .int .i64 t21.at_.c0, .int .i64 t21.at_.c1, .int .i64 t21.at_.c2] 159, kc l_2.2 #[ptr rb_2 0] 146, kc b_1 #[.int .i64 s.n9] 3, kc b #[.int .i64 s0.after, .int .i64 s0.at_.c0, .int .i64 s0.at_.c1, .int .i64 s0.at_.c2] 159] [mkV []] _) Y (by decide +kernel) (fun w k hh => hh.draw k) (hsE [0, 1, 2, 3, 4] [0] 0 Y Y Y Y) ?_
     refine Kg 3 isAgg3 Y Y Y Y Y (jy Y Y Y Y (fun w hh => jz (isAgg171 w) Y (segCell (hh.seg 10 Y) 0 Y)) (jy Y Y Y Y (fun w hh => jP (vs := [_, _, _, _]) (isAgg159 w) (sizeOf159 w) Y (hh.cells 0 Y Y)) (jA Y ?_)))
     obtain ⟨t26, h20, hm⟩ := bindO hm
     refine jV (S' := [_, _, _, _, _, _]) (vs' := [_]) [5, 0, 1, 2, 3, 4] [0] 0 Y Y Y Y ?_
     refine jd [_] [] Y Y Y Y Y Y Y call190 (fun w hh => ih x s.a11 a220 a221 a222 a223 a224 a225 a330_c0 rb pb rb_1 rb_2 qa3 na3 ca3 qa4 na4 ca4 qa5 na5 ca5 qa6 na6 ca6 rb_3 rb_4 qa9 na9 ca9 rb_5 w (HV.callee (S0 := [_]) (vs0 := []) hh (roR hh 0 Y (roR hh 1 Y (roR hh 2 Y (roR hh 3 Y (roR hh 4 Y (roR hh 5 Y (roR hh 6 Y (roR hh 7 Y (roR hh 8 Y (roR hh 9 Y (roR hh 10 Y roN)))))))))))) hna3 hqa3 hla3 hna4 hqa4 hla4 hna5 hqa5 hla5 hna6 hqa6 hla6 hna9 hqa9 hla9 h20) (fun l_5 h21 => ?_)
     refine jV (S' := [_, _, _, _, _, _]) (vs' := [_]) [0, 1, 2, 3, 4, 5] [0] 0 Y Y Y Y (jj (hsE [1, 2, 3, 4, 5] [0] 0 Y Y Y Y) ?_)
     obtain ⟨t27, h22, hm⟩ := bindO hm
     refine jn Y Y Y Y (fun _ _ => Kh h22 Y Y) (YG Y (q4 (cs' := #[_]) (S' := [_, _, _, _, _, _]) 4 (fun w => sizeOf3 w) Y Y Y Y Y Y Y (QH (jM ?_))))
     obtain rfl := sj hm
     exact jk () (trivial) (.nil) (hsE [1, 2, 3, 4, 5, 0] [0] 0 Y Y Y Y)
    intro l_4 hj
    replace hm := h19
    refine jw ?_
    obtain rfl := sj hm
    exact QU (⟨o_2.n9, o_2.a11⟩ : kJ) () Y (trivial) (hsE [1, 2, 3, 4, 5] [0] 11 Y Y Y Y)
   refine YE 0 Y Y (jw (jw ?_))
   obtain rfl := sj hm
   exact J8 (D :: []) Y (trivial) (sE Y) (hsE [2, 3, 4] [0] 0 Y Y Y Y)
  intro l hj
  replace hm := h5
  refine ja (jr (jc Y Y Y (fun w hh => jz (isAgg153 w) Y (segCell (hh.seg 0 Y) 0 Y)) (zX [_, _, _, _] 1 isAgg159 sizeOf159 Y Y Y Y (yf 0 isAgg3 Y Y Y Y ?_))))
  obtain ⟨a11_1, h23, hm⟩ := bindO hm
  refine QB (k := s0) (v := o.n9) 2 (fun w => runUnderlying153 w) yz Y Y Y Y (Option.some.inj h23) Y (k7 (yf 0 isAgg3 Y Y Y Y (jo Y Y (jq (jv ?_)))))
  obtain rfl := sj hm
  refine Ks Y Y Y (fun w hh => (.tmp Y .nil)) (fun w hh => ⟨(), rfl, trivial, hh.se [2] [] 11 Y Y Y rfl⟩)
def zi (d00 : Int) (d01 : Int) (d02 : (List Int)) (d03 : (List Sand)) (d04 : (List Sight)) (d05 : (List Int)) (f1_0_c0 : (List Int)) : Option (List (State × Int)) :=
 (jB d00 d01 d02 d03 d04 d05).bind fun t11 =>
 (jG FU t11 [] d00 d01 d02 d03 d04 d05 f1_0_c0).bind fun t12 =>
 some t12.a11
theorem Q5 (d00 : Int) (d01 : Int) (d02 : (List Int)) (d03 : (List Sand)) (d04 : (List Sight)) (d05 : (List Int)) (f1_0_c0 : (List Int)) (rb : Nat) (qa1 : Option Addr) (na1 ca1 : Nat) (qa2 : Option Addr) (na2 ca2 : Nat) (qa3 : Option Addr) (na3 ca3 : Nat) (qa4 : Option Addr) (na4 ca4 : Nat) (rb_1 : Nat) (qa6 : Option Addr) (na6 ca6 : Nat) (w : World) (hw : HV w (keys [] []) [] [] [(rb, 0, [.int .i64 d00, .int .i64 d01, .slice qa1 na1 ca1, .slice qa2 na2 ca2, .slice qa3 na3 ca3, .slice qa4 na4 ca4]), (aB qa1, aO qa1, RI.enc d02), (aB qa2, aO qa2, RSa.enc d03), (aB qa3, aO qa3, RSi.enc d04), (aB qa4, aO qa4, RI.enc d05), (rb_1, 0, [.slice qa6 na6 ca6]), (aB qa6, aO qa6, RI.enc f1_0_c0)] w)  (hna1 : d02.length = na1) (hqa1 : AOK na1 qa1) (hla1 : na1 ≤ ca1) (hna2 : d03.length = na2) (hqa2 : AOK na2 qa2) (hla2 : na2 ≤ ca2) (hna3 : d04.length = na3) (hqa3 : AOK na3 qa3) (hla3 : na3 ≤ ca3) (hna4 : d05.length = na4) (hqa4 : AOK na4 qa4) (hla4 : na4 ≤ ca4)  (hna6 : f1_0_c0.length = na6) (hqa6 : AOK na6 qa6) (hla6 : na6 ≤ ca6) {res : (List (State × Int))} (hm : zi d00 d01 d02 d03 d04 d05 f1_0_c0 = some res) :
    Calls Tryz.prog 159 #[ptr rb 0, .agg #[.func (.func 171) #[] #[ptr rb_1 0]]] w (fun en w' => ∃ l : Nat, en = .returned (.map (some l)) ∧ (True) ∧ HV w (keys [] []) [(l, gobj (kR RSta) kI res)] [] [] w') := by
  unfold zi at hm
  refine yr func159 Y ntmps159 Y (e := [(0, _), (1, _)]) Y hw (jr ?_)
  refine jI Y Y (fun b h1 => ?_)
  refine jI Y Y (fun b_1 h2 => ?_)
  refine jo Y Y (k7 ?_)
  refine Q8 (kR RSta) kI Y (fun b_2 h3 => ?_)
  refine js (fun w => zeroValue153 w) Y (fun b_3 h4 => ?_)
  refine q4 (cs' := #[_]) (S' := [_, _, _, _]) 0 (fun w => sizeOf153 w) Y Y Y Y Y Y Y (k7 ?_)
  refine js (fun w => zeroValue171 w) Y (fun b_4 h5 => ?_)
  refine k7 (jc Y Y Y (fun _ _ => ku (u := #[]) (u' := #[_, _, _, _]) Y Y) (q4 (cs' := #[_]) (S' := [_, _, _, _, _]) 0 (fun w => sizeOf171 w) Y Y Y Y Y Y Y (jq (ji ?_))))
  refine ky none (.hoist 0 (.hoist 1 (.one 2 (.one 3 .done)))) (HV _ _ [kc b_4 #[.func (.func 190) #[] #[ptr b_3 0, ptr b 0, ptr b_1 0, ptr b_4 0]] 171, kc b_3 #[.map (some b_2)] 153, kc b_1 #[.func (.func 171) #[] #[ptr rb_1 0]] 181, kc b #[ptr rb 0] 146] [] _) Y (by decide +kernel) (fun w k hh => hh.draw k) (hsE [0, 1, 3, 4] [] 0 Y Y Y Y) ?_
  refine Kg 0 isAgg171 Y Y Y Y Y (Kg 3 isAgg146 Y Y Y Y Y (jA Y ?_))
  obtain ⟨t11, h6, hm⟩ := bindO hm
  refine jd [] [] Y Y Y Y Y Y Y call99 (fun w hh => jW d00 d01 d02 d03 d04 d05 rb qa1 na1 ca1 qa2 na2 ca2 qa3 na3 ca3 qa4 na4 ca4 w (HV.callee (S0 := []) (vs0 := []) hh (roR hh 0 Y (roR hh 1 Y (roR hh 2 Y (roR hh 3 Y (roR hh 4 Y roN)))))) hna1 hqa1 hla1 hna2 hqa2 hla2 hna3 hqa3 hla3 hna4 hqa4 hla4 h6) (fun l h7 => ?_)
  refine jj (hsE [0, 1, 3, 4] [] 0 Y Y Y Y) (jA Y ?_)
  obtain ⟨t12, h8, hm⟩ := bindO hm
  refine jV (S' := [_, _, _, _, _]) (vs' := []) [2, 0, 1, 3, 4] [] 0 Y Y Y Y ?_
  refine jd [_] [] Y Y Y Y Y Y Y call190 (fun w hh => QG FU t11 [] d00 d01 d02 d03 d04 d05 f1_0_c0 b_3 b_2 b rb qa1 na1 ca1 qa2 na2 ca2 qa3 na3 ca3 qa4 na4 ca4 b_1 rb_1 qa6 na6 ca6 b_4 w (HV.callee (S0 := [_]) (vs0 := []) hh (roC (hh.bsepH 1 Y) (roC (hh.bsepH 3 Y) (roR hh 0 Y (roR hh 1 Y (roR hh 2 Y (roR hh 3 Y (roR hh 4 Y (roC (hh.bsepH 2 Y) (roR hh 5 Y (roR hh 6 Y (roC (hh.bsepH 0 Y) roN)))))))))))) hna1 hqa1 hla1 hna2 hqa2 hla2 hna3 hqa3 hla3 hna4 hqa4 hla4 hna6 hqa6 hla6 h8) (fun l_1 h9 => ?_)
  refine jV (S' := [_, _, _, _, _]) (vs' := []) [0, 1, 2, 3, 4] [] 0 Y Y Y Y (jj (hsE [1, 2, 3, 4] [] 0 Y Y Y Y) (jM (ja (jr (yf 2 isAgg153 Y Y Y Y (jo Y Y (jq ?_)))))))
  refine jv ?_
  obtain rfl := sj hm
  refine jm Y (fun w hh => (.tmp Y .nil)) (fun w hh => ⟨b_2, rfl, trivial, hh.se [0] [] 7 Y Y Y rfl⟩)
def qr (d00 : Int) (d01 : Int) (d02 : (List Int)) (d03 : (List Sand)) (d04 : (List Sight)) (d05 : (List Int)) (f1_0_c0 : (List Int)) : Option Bool :=
 (zi d00 d01 d02 d03 d04 d05 f1_0_c0).bind fun t7 =>
 (jB d00 d01 d02 d03 d04 d05).bind fun t9 =>
 some (decide (0 < ((aget t7 t9).getD 0)))
theorem Kf (d00 : Int) (d01 : Int) (d02 : (List Int)) (d03 : (List Sand)) (d04 : (List Sight)) (d05 : (List Int)) (f1_0_c0 : (List Int)) (rb : Nat) (qa1 : Option Addr) (na1 ca1 : Nat) (qa2 : Option Addr) (na2 ca2 : Nat) (qa3 : Option Addr) (na3 ca3 : Nat) (qa4 : Option Addr) (na4 ca4 : Nat) (rb_1 : Nat) (qa6 : Option Addr) (na6 ca6 : Nat) (w : World) (hw : HV w (keys [] []) [] [] [(rb, 0, [.int .i64 d00, .int .i64 d01, .slice qa1 na1 ca1, .slice qa2 na2 ca2, .slice qa3 na3 ca3, .slice qa4 na4 ca4]), (aB qa1, aO qa1, RI.enc d02), (aB qa2, aO qa2, RSa.enc d03), (aB qa3, aO qa3, RSi.enc d04), (aB qa4, aO qa4, RI.enc d05), (rb_1, 0, [.slice qa6 na6 ca6]), (aB qa6, aO qa6, RI.enc f1_0_c0)] w)  (hna1 : d02.length = na1) (hqa1 : AOK na1 qa1) (hla1 : na1 ≤ ca1) (hna2 : d03.length = na2) (hqa2 : AOK na2 qa2) (hla2 : na2 ≤ ca2) (hna3 : d04.length = na3) (hqa3 : AOK na3 qa3) (hla3 : na3 ≤ ca3) (hna4 : d05.length = na4) (hqa4 : AOK na4 qa4) (hla4 : na4 ≤ ca4)  (hna6 : f1_0_c0.length = na6) (hqa6 : AOK na6 qa6) (hla6 : na6 ≤ ca6) {res : Bool} (hm : qr d00 d01 d02 d03 d04 d05 f1_0_c0 = some res) :
    Calls Tryz.prog 121 #[ptr rb 0, .agg #[.func (.func 171) #[] #[ptr rb_1 0]]] w (fun en w' => ∃ l : Unit, en = .returned (.bool res) ∧ (True) ∧ HV w (keys [] []) [] [] [] w') := by
  unfold qr at hm
  refine yr func121 Y ntmps121 Y (e := [(0, _), (1, _)]) Y hw (jr ?_)
  refine jI Y Y (fun b h1 => ?_)
  refine jo Y Y (k7 (jg Y Y (zX [_] 0 isAgg181 sizeOf181 Y Y Y Y ?_)))
  obtain ⟨t7, h2, hm⟩ := bindO hm
  refine jd [] [] Y Y Y Y Y Y Y call159 (fun w hh => Q5 d00 d01 d02 d03 d04 d05 f1_0_c0 rb qa1 na1 ca1 qa2 na2 ca2 qa3 na3 ca3 qa4 na4 ca4 rb_1 qa6 na6 ca6 w (HV.callee (S0 := []) (vs0 := []) hh (roR hh 0 Y (roR hh 1 Y (roR hh 2 Y (roR hh 3 Y (roR hh 4 Y (roR hh 5 Y (roR hh 6 Y roN)))))))) hna1 hqa1 hla1 hna2 hqa2 hla2 hna3 hqa3 hla3 hna4 hqa4 hla4 hna6 hqa6 hla6 h2) (fun l h3 => ?_)
  refine jV (S' := [_, _]) (vs' := []) [0, 1] [] 0 Y Y Y Y (jg Y Y ?_)
  obtain ⟨t9, h4, hm⟩ := bindO hm
  refine jd [] [] Y Y Y Y Y Y Y call99 (fun w hh => jW d00 d01 d02 d03 d04 d05 rb qa1 na1 ca1 qa2 na2 ca2 qa3 na3 ca3 qa4 na4 ca4 w (HV.callee (S0 := []) (vs0 := []) hh (roR hh 0 Y (roR hh 1 Y (roR hh 2 Y (roR hh 3 Y (roR hh 4 Y roN)))))) hna1 hqa1 hla1 hna2 hqa2 hla2 hna3 hqa3 hla3 hna4 hqa4 hla4 h4) (fun l_1 h5 => ?_)
  refine jc Y Y Y (fun w hh => Qj (k := t9) (z := 0) (runUnderlying153 w) yz (zeroValue3 w) Y Y (hh.mget 0 Y)) (jc Y Y Y (fun _ _ => Zj Y Y) (jo Y Y (jq (jv ?_))))
  obtain rfl := sj hm
  refine jm Y (fun w hh => (.tmp Y .nil)) (fun w hh => ⟨(), rfl, trivial, hh.se [] [] 7 Y Y Y rfl⟩)
def zf (a11 : (List Int)) (a220 : Int) (a221 : Int) (a222 : (List Int)) (a223 : (List Sand)) (a224 : (List Sight)) (a225 : (List Int)) : Option Bool :=
 (Ji []).bind fun t8 =>
 (qr a220 a221 a222 a223 a224 a225 []).bind fun t9 =>
 some (!t9)
theorem Yr (a11 : (List Int)) (a220 : Int) (a221 : Int) (a222 : (List Int)) (a223 : (List Sand)) (a224 : (List Sight)) (a225 : (List Int)) (pb : Nat) (qa0 : Option Addr) (na0 ca0 : Nat) (rb : Nat) (rb_1 : Nat) (qa3 : Option Addr) (na3 ca3 : Nat) (qa4 : Option Addr) (na4 ca4 : Nat) (qa5 : Option Addr) (na5 ca5 : Nat) (qa6 : Option Addr) (na6 ca6 : Nat) (w : World) (hw : HV w (keys [kc pb #[.slice qa0 na0 ca0] 22] []) [kc pb #[.slice qa0 na0 ca0] 22] [] [(aB qa0, aO qa0, RI.enc a11), (rb, 0, [ptr rb_1 0]), (rb_1, 0, [.int .i64 a220, .int .i64 a221, .slice qa3 na3 ca3, .slice qa4 na4 ca4, .slice qa5 na5 ca5, .slice qa6 na6 ca6]), (aB qa3, aO qa3, RI.enc a222), (aB qa4, aO qa4, RSa.enc a223), (aB qa5, aO qa5, RSi.enc a224), (aB qa6, aO qa6, RI.enc a225)] w) (hna0 : a11.length = na0) (hqa0 : AOK na0 qa0) (hla0 : na0 ≤ ca0)   (hna3 : a222.length = na3) (hqa3 : AOK na3 qa3) (hla3 : na3 ≤ ca3) (hna4 : a223.length = na4) (hqa4 : AOK na4 qa4) (hla4 : na4 ≤ ca4) (hna5 : a224.length = na5) (hqa5 : AOK na5 qa5) (hla5 : na5 ≤ ca5) (hna6 : a225.length = na6) (hqa6 : AOK na6 qa6) (hla6 : na6 ≤ ca6) {res : Bool} (hm : zf a11 a220 a221 a222 a223 a224 a225 = some res) :
    Calls Tryz.prog 128 #[slv none 0 0, ptr pb 0, ptr rb 0] w (fun en w' => ∃ l : Unit, en = .returned (.bool res) ∧ (True) ∧ HV w (keys [kc pb #[.slice qa0 na0 ca0] 22] []) [kc pb #[slv none 0 0] 22] [] [] w') := by
  unfold zf at hm
  refine yr func128 Y ntmps128 Y (e := [(0, _), (1, _), (2, _)]) Y hw (jr (jo Y Y (k7 (jg Y Y (q4 (cs' := #[_]) (S' := [_]) 0 (fun w => sizeOf22 w) Y Y Y Y Y Y Y (jq (ji ?_)))))))
  refine ky none (.hoist 0 (.free 1 (.one 2 (.one 3 (.free 4 (.free 5 .done)))))) _ Y (by decide +kernel) (fun w k hh => hh.draw k) (fun w hh => hh) (jy Y Y Y Y (fun w hh => jz (isAgg146 w) Y (segCell (hh.seg 1 Y) 0 Y)) (zs Y Y Y (jA Y ?_)))
  obtain ⟨t8, h1, hm⟩ := bindO hm
  refine jd [] [] Y Y Y Y Y Y Y call122 (fun w hh => Yu [] none 0 0 w (HV.callee (S0 := []) (vs0 := []) hh (roC ⟨segOK.nil, fun hx => absurd Y hx⟩ roN)) Y AOK.nil (Nat.le_refl 0) h1) (fun l h2 => ?_)
  refine jV (S' := [_, _]) (vs' := []) [0, 1] [] 0 Y Y Y Y (jj (hsE [1] [] 0 Y Y Y Y) (jA Y ?_))
  obtain ⟨t9, h3, hm⟩ := bindO hm
  refine jd [] [] Y Y Y Y Y Y Y call121 (fun w hh => Kf a220 a221 a222 a223 a224 a225 [] rb_1 qa3 na3 ca3 qa4 na4 ca4 qa5 na5 ca5 qa6 na6 ca6 l none 0 0 w (HV.callee (S0 := []) (vs0 := []) hh (roR hh 2 Y (roR hh 3 Y (roR hh 4 Y (roR hh 5 Y (roR hh 6 Y (roC (bsep (hh.bseg 0 Y)) (roC ⟨segOK.nil, fun hx => absurd Y hx⟩ roN)))))))) hna3 hqa3 hla3 hna4 hqa4 hla4 hna5 hqa5 hla5 hna6 hqa6 hla6 Y AOK.nil (Nat.le_refl 0) h3) (fun l_1 h4 => ?_)
  refine jj (hsE [1] [] 0 Y Y Y Y) (jn Y Y Y Y (fun _ _ => zt Y) (jn Y Y Y Y (fun _ _ => kM Y) (jM (ja (jv ?_)))))
  obtain rfl := sj hm
  refine jm Y (fun w hh => (.tmp Y .nil)) (fun w hh => ⟨(), rfl, trivial, hh.se [1] [] 7 Y Y Y rfl⟩)
structure Jt where
  r0 : Bool
  a11 : (List Int)
def zj (l0 : (List Int)) (a11 : (List Int)) (a220 : Int) (a221 : Int) (a222 : (List Int)) (a223 : (List Sand)) (a224 : (List Sight)) (a225 : (List Int)) : Option Jt :=
 (Ji l0).bind fun t8 =>
 (qr a220 a221 a222 a223 a224 a225 l0).bind fun t9 =>
 some (⟨(!t9), l0⟩ : Jt)
theorem Yz (l0 : (List Int)) (a11 : (List Int)) (a220 : Int) (a221 : Int) (a222 : (List Int)) (a223 : (List Sand)) (a224 : (List Sight)) (a225 : (List Int)) (V_l0 : VL) (pb : Nat) (qa0 : Option Addr) (na0 ca0 : Nat) (rb : Nat) (rb_1 : Nat) (qa3 : Option Addr) (na3 ca3 : Nat) (qa4 : Option Addr) (na4 ca4 : Nat) (qa5 : Option Addr) (na5 ca5 : Nat) (qa6 : Option Addr) (na6 ca6 : Nat) (w : World) (hw : HV w (keys [kc pb #[.slice qa0 na0 ca0] 22] [vL 3 V_l0 (RI.enc l0)]) [kc pb #[.slice qa0 na0 ca0] 22] [vL 3 V_l0 (RI.enc l0)] [(aB qa0, aO qa0, RI.enc a11), (rb, 0, [ptr rb_1 0]), (rb_1, 0, [.int .i64 a220, .int .i64 a221, .slice qa3 na3 ca3, .slice qa4 na4 ca4, .slice qa5 na5 ca5, .slice qa6 na6 ca6]), (aB qa3, aO qa3, RI.enc a222), (aB qa4, aO qa4, RSa.enc a223), (aB qa5, aO qa5, RSi.enc a224), (aB qa6, aO qa6, RI.enc a225)] w) (hv_l0 : VOK 1 V_l0.n V_l0.cap (RI.enc l0) V_l0.sp V_l0.q) (hna0 : a11.length = na0) (hqa0 : AOK na0 qa0) (hla0 : na0 ≤ ca0)   (hna3 : a222.length = na3) (hqa3 : AOK na3 qa3) (hla3 : na3 ≤ ca3) (hna4 : a223.length = na4) (hqa4 : AOK na4 qa4) (hla4 : na4 ≤ ca4) (hna5 : a224.length = na5) (hqa5 : AOK na5 qa5) (hla5 : na5 ≤ ca5) (hna6 : a225.length = na6) (hqa6 : AOK na6 qa6) (hla6 : na6 ≤ ca6) {res : Jt} (hm : zj l0 a11 a220 a221 a222 a223 a224 a225 = some res) :
    Calls Tryz.prog 128 #[sL V_l0, ptr pb 0, ptr rb 0] w (fun en w' => ∃ l : VL, en = .returned (.bool res.r0) ∧ (VOK 1 l.n l.cap (RI.enc res.a11) l.sp l.q) ∧ HV w (keys [kc pb #[.slice qa0 na0 ca0] 22] [vL 3 V_l0 (RI.enc l0)]) [kc pb #[sL l] 22] [vL 3 l (RI.enc res.a11)] [] w') := by
  unfold zj at hm
  refine yr func128 Y ntmps128 Y (e := [(0, _), (1, _), (2, _)]) Y hw (jr (jo Y Y (k7 (jg Y Y (q4 (cs' := #[_]) (S' := [_]) 0 (fun w => sizeOf22 w) Y Y Y Y Y Y Y (jq (ji ?_)))))))
  refine ky none (.hoist 0 (.free 1 (.one 2 (.one 3 (.free 4 (.free 5 .done)))))) _ Y (by decide +kernel) (fun w k hh => hh.draw k) (fun w hh => hh) (jy Y Y Y Y (fun w hh => jz (isAgg146 w) Y (segCell (hh.seg 1 Y) 0 Y)) (zs Y Y Y (jA Y ?_)))
  obtain ⟨t8, h2, hm⟩ := bindO hm
  refine jd [] [] Y Y Y Y Y Y Y call122 (fun w hh => Yu l0 (qA V_l0.q) V_l0.n V_l0.cap w (HV.callee (S0 := []) (vs0 := []) hh (roC (hh.vsepA 0 Y hv_l0) roN)) (vlen RI hv_l0 Y) (AOK.q (vne hv_l0)) (hv_l0).hle h2) (fun l h3 => ?_)
  refine jV (S' := [_, _]) (vs' := [_]) [0, 1] [0] 0 Y Y Y Y (jj (hsE [1] [0] 0 Y Y Y Y) (jA Y ?_))
  obtain ⟨t9, h4, hm⟩ := bindO hm
  refine jd [] [] Y Y Y Y Y Y Y call121 (fun w hh => Kf a220 a221 a222 a223 a224 a225 l0 rb_1 qa3 na3 ca3 qa4 na4 ca4 qa5 na5 ca5 qa6 na6 ca6 l (qA V_l0.q) V_l0.n V_l0.cap w (HV.callee (S0 := []) (vs0 := []) hh (roR hh 2 Y (roR hh 3 Y (roR hh 4 Y (roR hh 5 Y (roR hh 6 Y (roC (bsep (hh.bseg 0 Y)) (roC (hh.vsepA 0 Y hv_l0) roN)))))))) hna3 hqa3 hla3 hna4 hqa4 hla4 hna5 hqa5 hla5 hna6 hqa6 hla6 (vlen RI hv_l0 Y) (AOK.q (vne hv_l0)) (hv_l0).hle h4) (fun l_1 h5 => ?_)
  refine jj (hsE [1] [0] 0 Y Y Y Y) (jn Y Y Y Y (fun _ _ => zt Y) (jn Y Y Y Y (fun _ _ => kM Y) (jM (ja (jv ?_)))))
  obtain rfl := sj hm
  refine jm Y (fun w hh => (.tmp Y .nil)) (fun w hh => ⟨V_l0, rfl, hv_l0, hh.se [1] [0] 7 Y Y Y rfl⟩)
structure jD where
  r0 : Bool
  a33_c0 : (List Int)
structure q7 where
  i9 : Int
  a33_c0 : (List Int)
structure KW where
  t36 : Bool
  a33_c0 : (List Int)
def qo (a33_c14 : (List Sight)) (l0 : (List Int)) (rec_ : (List Int) → Int → Int → (List Int) → Int → Int → (List Int) → (List Sand) → (List Sight) → (List Int) → Option jD) (a22 : Int) (a33_c10 : Int) (a33_c11 : Int) (a33_c12 : (List Int)) (a33_c13 : (List Sand)) (a33_c15 : (List Int)) (s : q7) : Option (q7 ⊕ ((List Int) ⊕ jD)) :=
 if s.i9 < (a33_c14.length : Int) then
 (((addc s.i9 1).bind fun t35 =>
 (kp l0).bind fun t30 =>
 (appc 8 t30 [s.i9]).bind fun t33 =>
 (rec_ t33 t35 a22 s.a33_c0 a33_c10 a33_c11 a33_c12 a33_c13 a33_c14 a33_c15).bind fun t36 =>
 some (⟨t36.r0, t36.a33_c0⟩ : KW)).bind fun o_1 =>
 if o_1.t36 = true then
 (some (.inr (.inr (⟨true, o_1.a33_c0⟩ : jD)))) else
 ((addc s.i9 1).bind fun t27 =>
 some (.inl (⟨t27, o_1.a33_c0⟩ : q7)))) else
 (some (.inr (.inl s.a33_c0)))
def qB (rec_ : (List Int) → Int → Int → (List Int) → Int → Int → (List Int) → (List Sand) → (List Sight) → (List Int) → Option jD) (l0 : (List Int)) (from1 : Int) (a22 : Int) (a33_c0 : (List Int)) (a33_c10 : Int) (a33_c11 : Int) (a33_c12 : (List Int)) (a33_c13 : (List Sand)) (a33_c14 : (List Sight)) (a33_c15 : (List Int)) : Option jD :=
 if (l0.length : Int) = a22 then
 ((zj l0 a33_c0 a33_c10 a33_c11 a33_c12 a33_c13 a33_c14 a33_c15).bind fun t16 =>
 some (⟨t16.r0, t16.a11⟩ : jD)) else
 ((iterM FU (qo a33_c14 l0 rec_ a22 a33_c10 a33_c11 a33_c12 a33_c13 a33_c15) (⟨from1, a33_c0⟩ : q7)).bind fun o =>
 oc o (fun j_1 => some (⟨false, j_1⟩ : jD)) (fun r_1 => some r_1))
def jL : Nat → (List Int) → Int → Int → (List Int) → Int → Int → (List Int) → (List Sand) → (List Sight) → (List Int) → Option jD
  | 0, _, _, _, _, _, _, _, _, _, _ => none
  | fu + 1, l0, from1, a22, a33_c0, a33_c10, a33_c11, a33_c12, a33_c13, a33_c14, a33_c15 => qB (jL fu) l0 from1 a22 a33_c0 a33_c10 a33_c11 a33_c12 a33_c13 a33_c14 a33_c15
theorem JX (fu_ : Nat) : ∀ (l0 : (List Int)) (from1 : Int) (a22 : Int) (a33_c0 : (List Int)) (a33_c10 : Int) (a33_c11 : Int) (a33_c12 : (List Int)) (a33_c13 : (List Sand)) (a33_c14 : (List Sight)) (a33_c15 : (List Int)) (V_l0 : VL) (rb : Nat) (rb_1 : Nat) (pb : Nat) (V_a33_c0 : VL) (rb_2 : Nat) (rb_3 : Nat) (qa4 : Option Addr) (na4 ca4 : Nat) (qa5 : Option Addr) (na5 ca5 : Nat) (qa6 : Option Addr) (na6 ca6 : Nat) (qa7 : Option Addr) (na7 ca7 : Nat) (rb_4 : Nat) (rb_5 : Nat) (w : World) (hw : HV w (keys [kc pb #[sL V_a33_c0] 22] [vL 3 V_l0 (RI.enc l0), vL 3 V_a33_c0 (RI.enc a33_c0)]) [kc pb #[sL V_a33_c0] 22] [vL 3 V_l0 (RI.enc l0), vL 3 V_a33_c0 (RI.enc a33_c0)] [(rb, 0, [.int .i64 a22]), (rb_1, 0, [.func (.func 128) #[] #[ptr pb 0, ptr rb_2 0]]), (rb_2, 0, [ptr rb_3 0]), (rb_3, 0, [.int .i64 a33_c10, .int .i64 a33_c11, .slice qa4 na4 ca4, .slice qa5 na5 ca5, .slice qa6 na6 ca6, .slice qa7 na7 ca7]), (aB qa4, aO qa4, RI.enc a33_c12), (aB qa5, aO qa5, RSa.enc a33_c13), (aB qa6, aO qa6, RSi.enc a33_c14), (aB qa7, aO qa7, RI.enc a33_c15), (rb_4, 0, [ptr rb_3 0]), (rb_5, 0, [.func (.func 173) #[] #[ptr rb 0, ptr rb_1 0, ptr rb_4 0, ptr rb_5 0]])] w) (hv_l0 : VOK 1 V_l0.n V_l0.cap (RI.enc l0) V_l0.sp V_l0.q)   (hv_a33_c0 : VOK 1 V_a33_c0.n V_a33_c0.cap (RI.enc a33_c0) V_a33_c0.sp V_a33_c0.q)   (hna4 : a33_c12.length = na4) (hqa4 : AOK na4 qa4) (hla4 : na4 ≤ ca4) (hna5 : a33_c13.length = na5) (hqa5 : AOK na5 qa5) (hla5 : na5 ≤ ca5) (hna6 : a33_c14.length = na6) (hqa6 : AOK na6 qa6) (hla6 : na6 ≤ ca6) (hna7 : a33_c15.length = na7) (hqa7 : AOK na7 qa7) (hla7 : na7 ≤ ca7)   {res : jD} (hm : jL fu_ l0 from1 a22 a33_c0 a33_c10 a33_c11 a33_c12 a33_c13 a33_c14 a33_c15 = some res),
    Calls Tryz.prog 173 #[sL V_l0, .int .i64 from1, ptr rb 0, ptr rb_1 0, ptr rb_4 0, ptr rb_5 0] w (fun en w' => ∃ l : VL, en = .returned (.bool res.r0) ∧ (VOK 1 l.n l.cap (RI.enc res.a33_c0) l.sp l.q) ∧ HV w (keys [kc pb #[sL V_a33_c0] 22] [vL 3 V_l0 (RI.enc l0), vL 3 V_a33_c0 (RI.enc a33_c0)]) [kc pb #[sL l] 22] [vL 3 l (RI.enc res.a33_c0)] [] w') := by
  induction fu_ with
  | zero =>
    intros
    rename_i hm
    exact absurd hm (by simp [jL])
  | succ fu_ ih =>
  intro l0 from1 a22 a33_c0 a33_c10 a33_c11 a33_c12 a33_c13 a33_c14 a33_c15 V_l0 rb rb_1 pb V_a33_c0 rb_2 rb_3 qa4 na4 ca4 qa5 na5 ca5 qa6 na6 ca6 qa7 na7 ca7 rb_4 rb_5 w hw hv_l0   hv_a33_c0   hna4 hqa4 hla4 hna5 hqa5 hla5 hna6 hqa6 hla6 hna7 hqa7 hla7   res hm
  replace hm : qB (jL fu_) l0 from1 a22 a33_c0 a33_c10 a33_c11 a33_c12 a33_c13 a33_c14 a33_c15 = some res := hm
  unfold qB at hm
  refine yr func173 Y ntmps173 Y (e := [(0, _), (1, _), (2, _), (3, _), (4, _), (5, _)]) Y hw (jr (jo Y Y (jq (ji (jr (jg Y Y (jc Y Y Y (fun w _ => zr (vlen RI hv_l0 Y) (runUnderlying22 w) Y) ?_)))))))
  refine jc Y Y Y (fun w hh => jz (isAgg3 w) Y (segCell (hh.seg 0 Y) 0 Y)) (jc Y Y Y (fun _ _ => Ju Y Y) (jq ?_))
  refine ju Y (fun h2 => ?_) (fun h2 => ?_)
  ·replace hm := ifD h2 hm
   refine jr (jc Y Y Y (fun w hh => jz (isAgg186 w) Y (segCell (hh.seg 1 Y) 0 Y)) (jg Y Y ?_))
   obtain ⟨t16, h3, hm⟩ := bindO hm
   refine jd [_] [_] Y Y Y Y Y Y Y call128 (fun w hh => Yz l0 a33_c0 a33_c10 a33_c11 a33_c12 a33_c13 a33_c14 a33_c15 ⟨V_l0.q, V_l0.n, V_l0.cap, V_l0.sp⟩ pb (qA V_a33_c0.q) V_a33_c0.n V_a33_c0.cap rb_2 rb_3 qa4 na4 ca4 qa5 na5 ca5 qa6 na6 ca6 qa7 na7 ca7 w (HV.callee (S0 := [_]) (vs0 := [_]) hh (roC (hh.vsepA 0 Y hv_a33_c0) (roR hh 2 Y (roR hh 3 Y (roR hh 4 Y (roR hh 5 Y (roR hh 6 Y (roR hh 7 Y roN)))))))) hv_l0 (vlen RI hv_a33_c0 Y) (AOK.q (vne hv_a33_c0)) (hv_a33_c0).hle hna4 hqa4 hla4 hna5 hqa5 hla5 hna6 hqa6 hla6 hna7 hqa7 hla7 h3) (fun l h4 => ?_)
   have h5 := h4
   refine jV (S' := [_]) (vs' := [_, _]) [0] [0, 1] 0 Y Y Y Y (jo Y Y (jq (jv (jh ?_))))
   obtain rfl := sj hm
   refine jm Y (fun w hh => (.tmp Y .nil)) (fun w hh => ⟨l, rfl, h5, hh.se [0] [0] 10 Y Y Y rfl⟩)
  replace hm := ifE h2 hm
  refine jt (ja (ji (jr (jg Y Y (jo Y Y (jq ?_))))))
  obtain ⟨o, h6, h7⟩ := bindO hm
  refine j3 (ι := (List Int) × VL) (fun j => o = .inl j.1 ∧ VOK 1 j.2.n j.2.cap (RI.enc j.1) j.2.sp j.2.q) (fun j => []) (fun j => [kc pb #[sL j.2] 22]) (fun j => [vL 3 j.2 (RI.enc j.1)]) ?_ ?_
  ·replace hm := h6
   refine jp ?_
   refine kk (ι := VL) hm (fun s l_1 => VOK 1 l_1.n l_1.cap (RI.enc s.a33_c0) l_1.sp l_1.q) (fun s l_1 => [(0, sL V_l0), (4, ptr rb_4 0), (5, ptr rb_5 0), (9, .int .i64 s.i9)]) (fun s l_1 => [kc pb #[sL l_1] 22]) (fun s l_1 => [vL 3 V_l0 (RI.enc l0), vL 3 l_1 (RI.enc s.a33_c0)]) V_a33_c0 (hv_a33_c0) (sE Y) (fun w hh => hh) (fun s l_1 r hpl hm h10 => ?_)
   have h9 := hpl
   unfold qo at hm
   refine ji (jr (jg Y Y (jc Y Y Y (fun w hh => jz (isAgg146 w) Y (segCell (hh.seg 8 Y) 0 Y)) (jc Y Y Y (fun _ _ => jQ Y) (yD 0 runUnderlying175 Y sizeOf26 Y Y (yD 4 runUnderlying26 Y sizeOf24 Y Y (jc Y Y Y (fun w hh => jz (isAgg24 w) Y (segCell (hh.seg 3 Y) 4 Y)) ?_)))))))
   refine jc Y Y Y (fun w _ => qd hna6 (runUnderlying24 w) Y) (Kv Y Y Y (jq ?_))
   refine ju Y (fun h11 => ?_) (fun h11 => ?_)
   ·replace hm := ifD h11 hm
    refine jt (ja (ji (jp (ji ?_))))
    obtain ⟨o_1, h12, h13⟩ := bindO hm
    refine j3 (ι := VL) (fun l_2 => VOK 1 l_2.n l_2.cap (RI.enc o_1.a33_c0) l_2.sp l_2.q) (fun l_2 => [(0, sL V_l0), (4, ptr rb_4 0), (5, ptr rb_5 0), (9, .int .i64 s.i9), (36, .bool o_1.t36)]) (fun l_2 => [kc pb #[sL l_2] 22]) (fun l_2 => [vL 3 V_l0 (RI.enc l0), vL 3 l_2 (RI.enc o_1.a33_c0)]) ?_ ?_
    ·replace hm := h12
     obtain ⟨t35, h15, hm⟩ := bindO hm
     obtain ⟨t30, h16, hm⟩ := bindO hm
     obtain ⟨t33, h17, hm⟩ := bindO hm
     obtain ⟨t36, h18, hm⟩ := bindO hm
     refine ky none (.hoist 0 (.free 1 (.free 3 (.free 6 (.free 7 (.br (.alt 2 (.one 4 (.one 5 (.one 8 .done))) (.alt 4 (.one 2 (.one 5 (.one 8 .done))) .nil)))))))) (HV _ _ [] [vL 3 V_l0 (RI.enc l0)] _) Y (by decide +kernel) (fun w k hh => hh.draw k) (hsE [] [0] 0 Y Y Y Y) ?_
     refine jy Y Y Y Y (fun w hh => jz (isAgg100 w) Y (segCell (hh.seg 9 Y) 0 Y)) (zs Y Y Y (zs Y Y Y (zs Y Y Y (jn Y Y Y Y (fun _ _ => Kh h15 Y Y) (ZC ?_)))))
     refine zC Y ?_ ?_
     ·refine jd [] [] Y Y Y Y Y Y Y call74 (fun w hh => kx l0 (qA V_l0.q) V_l0.n V_l0.cap w (HV.callee (S0 := []) (vs0 := []) hh (roC (hh.vsepA 0 Y hv_l0) roN)) (vlen RI hv_l0 Y) (AOK.q (vne hv_l0)) (hv_l0).hle h16) (fun l_3 h19 => ?_)
      have h20 := h19
      refine jV (S' := [_]) (vs' := [_, _, _]) [0] [0, 1, 2] 0 Y Y Y Y (jj (hsE [] [1] 0 Y Y Y Y) (jA Y ?_))
      refine qE RI [s.i9] (ps := [(0, _)]) (cells := [_]) (fun w => runUnderlying22 w) (fun w => sizeOf3 w) (fun w => zeroValue3 w) Y Y Y Y Y Y Y Y (fun L h21 => ?_)
      refine jj (hsE [] [2] 0 Y Y Y Y) (jA Y ?_)
      refine zz RI 1 h17 underlying22 KZ Y Y Y Y Y h20 Y Y (vlen RI h21 Y) (AOK.q (vne h21)) (fun w hh => (hh.vsegA 0 Y h21)) Y (fun L_1 h22 h22n => ?_)
      refine jV (S' := [_]) (vs' := [_, _, _, _]) [0] [0, 1, 2, 3] 0 Y Y Y Y (jj (hsE [] [2] 0 Y Y Y Y) (jA Y (jV (S' := [_]) (vs' := [_, _, _, _]) [0] [1, 3, 0, 2] 0 Y Y Y Y ?_)))
      refine jd [_] [_, _] Y Y Y Y Y Y Y call173 (fun w hh => ih t33 t35 a22 s.a33_c0 a33_c10 a33_c11 a33_c12 a33_c13 a33_c14 a33_c15 ⟨L_1.q, L_1.n, L_1.cap, L_1.sp⟩ rb rb_1 pb ⟨l_1.q, l_1.n, l_1.cap, l_1.sp⟩ rb_2 rb_3 qa4 na4 ca4 qa5 na5 ca5 qa6 na6 ca6 qa7 na7 ca7 rb_4 rb_5 w (HV.callee (S0 := [_]) (vs0 := [_, _]) hh (roR hh 0 Y (roR hh 1 Y (roR hh 2 Y (roR hh 3 Y (roR hh 4 Y (roR hh 5 Y (roR hh 6 Y (roR hh 7 Y (roR hh 8 Y (roR hh 9 Y roN))))))))))) h22 h9 hna4 hqa4 hla4 hna5 hqa5 hla5 hna6 hqa6 hla6 hna7 hqa7 hla7 h18) (fun l_4 h23 => ?_)
      have h24 := h23
      refine jV (S' := [_]) (vs' := [_, _, _]) [0] [0, 1, 2] 0 Y Y Y Y (jj (hsE [] [2] 0 Y Y Y Y) (jM ?_))
      obtain rfl := sj hm
      exact jk l_4 (h24) (sE Y) (hsE [0] [2, 0] 0 Y Y Y Y)
     refine zC Y ?_ ?_
     refine qE RI [s.i9] (ps := [(0, _)]) (cells := [_]) (fun w => runUnderlying22 w) (fun w => sizeOf3 w) (fun w => zeroValue3 w) Y Y Y Y Y Y Y Y (fun L_2 h25 => ?_)
     refine jj (hsE [] [1] 0 Y Y Y Y) (jA Y ?_)
     refine jd [] [] Y Y Y Y Y Y Y call74 (fun w hh => kx l0 (qA V_l0.q) V_l0.n V_l0.cap w (HV.callee (S0 := []) (vs0 := []) hh (roC (hh.vsepA 1 Y hv_l0) roN)) (vlen RI hv_l0 Y) (AOK.q (vne hv_l0)) (hv_l0).hle h16) (fun l_5 h26 => ?_)
     have h27 := h26
     refine jV (S' := [_]) (vs' := [_, _, _, _]) [0] [0, 1, 2, 3] 0 Y Y Y Y (jj (hsE [] [2] 0 Y Y Y Y) (jA Y ?_))
     refine zz RI 0 h17 underlying22 KZ Y Y Y Y Y h27 Y Y (vlen RI h25 Y) (AOK.q (vne h25)) (fun w hh => (hh.vsegA 1 Y h25)) Y (fun L_3 h28 h28n => ?_)
     refine jV (S' := [_]) (vs' := [_, _, _, _]) [0] [0, 1, 2, 3] 0 Y Y Y Y (jj (hsE [] [2] 0 Y Y Y Y) (jA Y (jV (S' := [_]) (vs' := [_, _, _, _]) [0] [0, 3, 1, 2] 0 Y Y Y Y ?_)))
     refine jd [_] [_, _] Y Y Y Y Y Y Y call173 (fun w hh => ih t33 t35 a22 s.a33_c0 a33_c10 a33_c11 a33_c12 a33_c13 a33_c14 a33_c15 ⟨L_3.q, L_3.n, L_3.cap, L_3.sp⟩ rb rb_1 pb ⟨l_1.q, l_1.n, l_1.cap, l_1.sp⟩ rb_2 rb_3 qa4 na4 ca4 qa5 na5 ca5 qa6 na6 ca6 qa7 na7 ca7 rb_4 rb_5 w (HV.callee (S0 := [_]) (vs0 := [_, _]) hh (roR hh 0 Y (roR hh 1 Y (roR hh 2 Y (roR hh 3 Y (roR hh 4 Y (roR hh 5 Y (roR hh 6 Y (roR hh 7 Y (roR hh 8 Y (roR hh 9 Y roN))))))))))) h28 h9 hna4 hqa4 hla4 hna5 hqa5 hla5 hna6 hqa6 hla6 hna7 hqa7 hla7 h18) (fun l_6 h29 => ?_)
     have h30 := h29
     refine jV (S' := [_]) (vs' := [_, _, _]) [0] [0, 1, 2] 0 Y Y Y Y (jj (hsE [] [2] 0 Y Y Y Y) (jM ?_))
     obtain rfl := sj hm
     exact jk l_6 (h30) (sE Y) (hsE [0] [2, 0] 0 Y Y Y Y)
     exact QE
    intro l_2 hj
    have h14 := hj
    replace hm := h13
    refine ja ?_
    refine ju Y (fun h31 => ?_) (fun h31 => ?_)
    ·replace hm := ifT (h31) hm
     refine jr (jo Y Y (jq (jv (jJ (jh (jh (jJ ?_)))))))
     obtain rfl := sj hm
     have hbo := h10 _ Y
     subst hbo
     refine jh ?_
     replace hm := ocR h7
     refine jh ?_
     obtain rfl := sj hm
     refine jm Y (fun w hh => (.tmp Y .nil)) (fun w hh => ⟨l_2, rfl, h14, hh.se [0] [1] 10 Y Y Y rfl⟩)
    replace hm := ifN h31 hm
    refine jt (jw (ja (je (jg Y Y ?_))))
    obtain ⟨t27, h32, hm⟩ := bindO hm
    refine Kq h32 Y Y Y (jo Y Y (jx ?_))
    obtain rfl := sj hm
    refine ja ?_
    exact jN _ l_2 Y (h14) (sE Y) (fun w hh => hh)
   replace hm := ifE h11 hm
   refine kN (jl (jl (jO ?_)))
   obtain rfl := sj hm
   have hbo := h10 _ Y
   subst hbo
   exact jk (s.a33_c0, l_1) (⟨rfl, h9⟩) (.nil) (hsE [0] [1] 0 Y Y Y Y)
  rintro ⟨j_1, l_7⟩ hj
  obtain ⟨h34, h33⟩ := hj
  subst h34
  replace hm := ocL h7
  refine ja (jr (jo Y Y (jq (jv ?_))))
  obtain rfl := sj hm
  refine jm Y (fun w hh => (.tmp Y .nil)) (fun w hh => ⟨l_7, rfl, h33, hh.se [0] [0] 10 Y Y Y rfl⟩)
structure kg where
  r0 : Bool
  a33_c0 : (List Int)
structure q5 where
  i9 : Int
  a33_c0 : (List Int)
structure KR where
  t36 : Bool
  a33_c0 : (List Int)
def kH (a33_c14 : (List Sight)) (a22 : Int) (a33_c10 : Int) (a33_c11 : Int) (a33_c12 : (List Int)) (a33_c13 : (List Sand)) (a33_c15 : (List Int)) (s : q5) : Option (q5 ⊕ ((List Int) ⊕ kg)) :=
 if s.i9 < (a33_c14.length : Int) then
 (((addc s.i9 1).bind fun t35 =>
 (kp []).bind fun t30 =>
 (appc 8 t30 [s.i9]).bind fun t33 =>
 (jL FU t33 t35 a22 s.a33_c0 a33_c10 a33_c11 a33_c12 a33_c13 a33_c14 a33_c15).bind fun t36 =>
 some (⟨t36.r0, t36.a33_c0⟩ : KR)).bind fun o_1 =>
 if o_1.t36 = true then
 (some (.inr (.inr (⟨true, o_1.a33_c0⟩ : kg)))) else
 ((addc s.i9 1).bind fun t27 =>
 some (.inl (⟨t27, o_1.a33_c0⟩ : q5)))) else
 (some (.inr (.inl s.a33_c0)))
def qR (from1 : Int) (a22 : Int) (a33_c0 : (List Int)) (a33_c10 : Int) (a33_c11 : Int) (a33_c12 : (List Int)) (a33_c13 : (List Sand)) (a33_c14 : (List Sight)) (a33_c15 : (List Int)) : Option kg :=
 if 0 = a22 then
 ((zf a33_c0 a33_c10 a33_c11 a33_c12 a33_c13 a33_c14 a33_c15).bind fun t16 =>
 some (⟨t16, []⟩ : kg)) else
 ((iterM FU (kH a33_c14 a22 a33_c10 a33_c11 a33_c12 a33_c13 a33_c15) (⟨from1, a33_c0⟩ : q5)).bind fun o =>
 oc o (fun j_1 => some (⟨false, j_1⟩ : kg)) (fun r_1 => some r_1))
theorem Qy (from1 : Int) (a22 : Int) (a33_c0 : (List Int)) (a33_c10 : Int) (a33_c11 : Int) (a33_c12 : (List Int)) (a33_c13 : (List Sand)) (a33_c14 : (List Sight)) (a33_c15 : (List Int)) (rb : Nat) (rb_1 : Nat) (pb : Nat) (V_a33_c0 : VL) (rb_2 : Nat) (rb_3 : Nat) (qa4 : Option Addr) (na4 ca4 : Nat) (qa5 : Option Addr) (na5 ca5 : Nat) (qa6 : Option Addr) (na6 ca6 : Nat) (qa7 : Option Addr) (na7 ca7 : Nat) (rb_4 : Nat) (rb_5 : Nat) (w : World) (hw : HV w (keys [kc pb #[sL V_a33_c0] 22] [vL 3 V_a33_c0 (RI.enc a33_c0)]) [kc pb #[sL V_a33_c0] 22] [vL 3 V_a33_c0 (RI.enc a33_c0)] [(rb, 0, [.int .i64 a22]), (rb_1, 0, [.func (.func 128) #[] #[ptr pb 0, ptr rb_2 0]]), (rb_2, 0, [ptr rb_3 0]), (rb_3, 0, [.int .i64 a33_c10, .int .i64 a33_c11, .slice qa4 na4 ca4, .slice qa5 na5 ca5, .slice qa6 na6 ca6, .slice qa7 na7 ca7]), (aB qa4, aO qa4, RI.enc a33_c12), (aB qa5, aO qa5, RSa.enc a33_c13), (aB qa6, aO qa6, RSi.enc a33_c14), (aB qa7, aO qa7, RI.enc a33_c15), (rb_4, 0, [ptr rb_3 0]), (rb_5, 0, [.func (.func 173) #[] #[ptr rb 0, ptr rb_1 0, ptr rb_4 0, ptr rb_5 0]])] w)   (hv_a33_c0 : VOK 1 V_a33_c0.n V_a33_c0.cap (RI.enc a33_c0) V_a33_c0.sp V_a33_c0.q)   (hna4 : a33_c12.length = na4) (hqa4 : AOK na4 qa4) (hla4 : na4 ≤ ca4) (hna5 : a33_c13.length = na5) (hqa5 : AOK na5 qa5) (hla5 : na5 ≤ ca5) (hna6 : a33_c14.length = na6) (hqa6 : AOK na6 qa6) (hla6 : na6 ≤ ca6) (hna7 : a33_c15.length = na7) (hqa7 : AOK na7 qa7) (hla7 : na7 ≤ ca7)   {res : kg} (hm : qR from1 a22 a33_c0 a33_c10 a33_c11 a33_c12 a33_c13 a33_c14 a33_c15 = some res) :
    Calls Tryz.prog 173 #[slv none 0 0, .int .i64 from1, ptr rb 0, ptr rb_1 0, ptr rb_4 0, ptr rb_5 0] w (fun en w' => ∃ l : VL, en = .returned (.bool res.r0) ∧ (VOK 1 l.n l.cap (RI.enc res.a33_c0) l.sp l.q) ∧ HV w (keys [kc pb #[sL V_a33_c0] 22] [vL 3 V_a33_c0 (RI.enc a33_c0)]) [kc pb #[sL l] 22] [vL 3 l (RI.enc res.a33_c0)] [] w') := by
  unfold qR at hm
  refine yr func173 Y ntmps173 Y (e := [(0, _), (1, _), (2, _), (3, _), (4, _), (5, _)]) Y hw (jr (jo Y Y (jq (ji (jr (jg Y Y (jc Y Y Y (fun w _ => jaa (runUnderlying22 w) Y) ?_)))))))
  refine jc Y Y Y (fun w hh => jz (isAgg3 w) Y (segCell (hh.seg 0 Y) 0 Y)) (jc Y Y Y (fun _ _ => Ju Y Y) (jq ?_))
  refine ju Y (fun h2 => ?_) (fun h2 => ?_)
  ·replace hm := ifD h2 hm
   refine jr (jc Y Y Y (fun w hh => jz (isAgg186 w) Y (segCell (hh.seg 1 Y) 0 Y)) (jg Y Y ?_))
   obtain ⟨t16, h3, hm⟩ := bindO hm
   refine jd [_] [] Y Y Y Y Y Y Y call128 (fun w hh => Yr a33_c0 a33_c10 a33_c11 a33_c12 a33_c13 a33_c14 a33_c15 pb (qA V_a33_c0.q) V_a33_c0.n V_a33_c0.cap rb_2 rb_3 qa4 na4 ca4 qa5 na5 ca5 qa6 na6 ca6 qa7 na7 ca7 w (HV.callee (S0 := [_]) (vs0 := []) hh (roC (hh.vsepA 0 Y hv_a33_c0) (roR hh 2 Y (roR hh 3 Y (roR hh 4 Y (roR hh 5 Y (roR hh 6 Y (roR hh 7 Y roN)))))))) (vlen RI hv_a33_c0 Y) (AOK.q (vne hv_a33_c0)) (hv_a33_c0).hle hna4 hqa4 hla4 hna5 hqa5 hla5 hna6 hqa6 hla6 hna7 hqa7 hla7 h3) (fun l h4 => ?_)
   refine jV (S' := [_]) (vs' := [_]) [0] [0] 0 Y Y Y Y (jo Y Y (jq (jv (jh (zV 3 ?_)))))
   obtain rfl := sj hm
   refine jm Y (fun w hh => (.tmp Y .nil)) (fun w hh => ⟨⟨none, 0, 0, []⟩, rfl, VOK.nil, hh.se [0] [0] 10 Y Y Y rfl⟩)
  replace hm := ifE h2 hm
  refine jt (ja (ji (jr (jg Y Y (jo Y Y (jq ?_))))))
  obtain ⟨o, h5, h6⟩ := bindO hm
  refine j3 (ι := (List Int) × VL) (fun j => o = .inl j.1 ∧ VOK 1 j.2.n j.2.cap (RI.enc j.1) j.2.sp j.2.q) (fun j => []) (fun j => [kc pb #[sL j.2] 22]) (fun j => [vL 3 j.2 (RI.enc j.1)]) ?_ ?_
  ·replace hm := h5
   refine jp ?_
   refine kk (ι := VL) hm (fun s l_1 => VOK 1 l_1.n l_1.cap (RI.enc s.a33_c0) l_1.sp l_1.q) (fun s l_1 => [(0, slv none 0 0), (4, ptr rb_4 0), (5, ptr rb_5 0), (9, .int .i64 s.i9)]) (fun s l_1 => [kc pb #[sL l_1] 22]) (fun s l_1 => [vL 3 l_1 (RI.enc s.a33_c0)]) V_a33_c0 (hv_a33_c0) (sE Y) (fun w hh => hh) (fun s l_1 r hpl hm h9 => ?_)
   have h8 := hpl
   unfold kH at hm
   refine ji (jr (jg Y Y (jc Y Y Y (fun w hh => jz (isAgg146 w) Y (segCell (hh.seg 8 Y) 0 Y)) (jc Y Y Y (fun _ _ => jQ Y) (yD 0 runUnderlying175 Y sizeOf26 Y Y (yD 4 runUnderlying26 Y sizeOf24 Y Y (jc Y Y Y (fun w hh => jz (isAgg24 w) Y (segCell (hh.seg 3 Y) 4 Y)) ?_)))))))
   refine jc Y Y Y (fun w _ => qd hna6 (runUnderlying24 w) Y) (Kv Y Y Y (jq ?_))
   refine ju Y (fun h10 => ?_) (fun h10 => ?_)
   ·replace hm := ifD h10 hm
    refine jt (ja (ji (jp (ji ?_))))
    obtain ⟨o_1, h11, h12⟩ := bindO hm
    refine j3 (ι := VL) (fun l_2 => VOK 1 l_2.n l_2.cap (RI.enc o_1.a33_c0) l_2.sp l_2.q) (fun l_2 => [(0, slv none 0 0), (4, ptr rb_4 0), (5, ptr rb_5 0), (9, .int .i64 s.i9), (36, .bool o_1.t36)]) (fun l_2 => [kc pb #[sL l_2] 22]) (fun l_2 => [vL 3 l_2 (RI.enc o_1.a33_c0)]) ?_ ?_
    ·replace hm := h11
     obtain ⟨t35, h14, hm⟩ := bindO hm
     obtain ⟨t30, h15, hm⟩ := bindO hm
     obtain ⟨t33, h16, hm⟩ := bindO hm
     obtain ⟨t36, h17, hm⟩ := bindO hm
     refine ky none (.hoist 0 (.free 1 (.free 3 (.free 6 (.free 7 (.br (.alt 2 (.one 4 (.one 5 (.one 8 .done))) (.alt 4 (.one 2 (.one 5 (.one 8 .done))) .nil)))))))) (HV _ _ [] [] _) Y (by decide +kernel) (fun w k hh => hh.draw k) (hsE [] [] 0 Y Y Y Y) ?_
     refine jy Y Y Y Y (fun w hh => jz (isAgg100 w) Y (segCell (hh.seg 9 Y) 0 Y)) (zs Y Y Y (zs Y Y Y (zs Y Y Y (jn Y Y Y Y (fun _ _ => Kh h14 Y Y) (ZC ?_)))))
     refine zC Y ?_ ?_
     ·refine jd [] [] Y Y Y Y Y Y Y call74 (fun w hh => kx [] none 0 0 w (HV.callee (S0 := []) (vs0 := []) hh (roC ⟨segOK.nil, fun hx => absurd Y hx⟩ roN)) Y AOK.nil (Nat.le_refl 0) h15) (fun l_3 h18 => ?_)
      have h19 := h18
      refine jV (S' := [_]) (vs' := [_, _]) [0] [0, 1] 0 Y Y Y Y (jj (hsE [] [] 0 Y Y Y Y) (jA Y ?_))
      refine qE RI [s.i9] (ps := [(0, _)]) (cells := [_]) (fun w => runUnderlying22 w) (fun w => sizeOf3 w) (fun w => zeroValue3 w) Y Y Y Y Y Y Y Y (fun L h20 => ?_)
      refine jj (hsE [] [] 0 Y Y Y Y) (jA Y ?_)
      refine zz RI 1 h16 underlying22 KZ Y Y Y Y Y h19 Y Y (vlen RI h20 Y) (AOK.q (vne h20)) (fun w hh => (hh.vsegA 0 Y h20)) Y (fun L_1 h21 h21n => ?_)
      refine jV (S' := [_]) (vs' := [_, _, _]) [0] [0, 1, 2] 0 Y Y Y Y (jj (hsE [] [] 0 Y Y Y Y) (jA Y (jV (S' := [_]) (vs' := [_, _, _]) [0] [1, 2, 0] 0 Y Y Y Y ?_)))
      refine jd [_] [_, _] Y Y Y Y Y Y Y call173 (fun w hh => JX FU t33 t35 a22 s.a33_c0 a33_c10 a33_c11 a33_c12 a33_c13 a33_c14 a33_c15 ⟨L_1.q, L_1.n, L_1.cap, L_1.sp⟩ rb rb_1 pb ⟨l_1.q, l_1.n, l_1.cap, l_1.sp⟩ rb_2 rb_3 qa4 na4 ca4 qa5 na5 ca5 qa6 na6 ca6 qa7 na7 ca7 rb_4 rb_5 w (HV.callee (S0 := [_]) (vs0 := [_, _]) hh (roR hh 0 Y (roR hh 1 Y (roR hh 2 Y (roR hh 3 Y (roR hh 4 Y (roR hh 5 Y (roR hh 6 Y (roR hh 7 Y (roR hh 8 Y (roR hh 9 Y roN))))))))))) h21 h8 hna4 hqa4 hla4 hna5 hqa5 hla5 hna6 hqa6 hla6 hna7 hqa7 hla7 h17) (fun l_4 h22 => ?_)
      have h23 := h22
      refine jV (S' := [_]) (vs' := [_, _]) [0] [0, 1] 0 Y Y Y Y (jj (hsE [] [] 0 Y Y Y Y) (jM ?_))
      obtain rfl := sj hm
      exact jk l_4 (h23) (sE Y) (hsE [0] [0] 0 Y Y Y Y)
     refine zC Y ?_ ?_
     refine qE RI [s.i9] (ps := [(0, _)]) (cells := [_]) (fun w => runUnderlying22 w) (fun w => sizeOf3 w) (fun w => zeroValue3 w) Y Y Y Y Y Y Y Y (fun L_2 h24 => ?_)
     refine jj (hsE [] [] 0 Y Y Y Y) (jA Y ?_)
     refine jd [] [] Y Y Y Y Y Y Y call74 (fun w hh => kx [] none 0 0 w (HV.callee (S0 := []) (vs0 := []) hh (roC ⟨segOK.nil, fun hx => absurd Y hx⟩ roN)) Y AOK.nil (Nat.le_refl 0) h15) (fun l_5 h25 => ?_)
     have h26 := h25
     refine jV (S' := [_]) (vs' := [_, _, _]) [0] [0, 1, 2] 0 Y Y Y Y (jj (hsE [] [] 0 Y Y Y Y) (jA Y ?_))
     refine zz RI 0 h16 underlying22 KZ Y Y Y Y Y h26 Y Y (vlen RI h24 Y) (AOK.q (vne h24)) (fun w hh => (hh.vsegA 1 Y h24)) Y (fun L_3 h27 h27n => ?_)
     refine jV (S' := [_]) (vs' := [_, _, _]) [0] [0, 1, 2] 0 Y Y Y Y (jj (hsE [] [] 0 Y Y Y Y) (jA Y (jV (S' := [_]) (vs' := [_, _, _]) [0] [0, 2, 1] 0 Y Y Y Y ?_)))
     refine jd [_] [_, _] Y Y Y Y Y Y Y call173 (fun w hh => JX FU t33 t35 a22 s.a33_c0 a33_c10 a33_c11 a33_c12 a33_c13 a33_c14 a33_c15 ⟨L_3.q, L_3.n, L_3.cap, L_3.sp⟩ rb rb_1 pb ⟨l_1.q, l_1.n, l_1.cap, l_1.sp⟩ rb_2 rb_3 qa4 na4 ca4 qa5 na5 ca5 qa6 na6 ca6 qa7 na7 ca7 rb_4 rb_5 w (HV.callee (S0 := [_]) (vs0 := [_, _]) hh (roR hh 0 Y (roR hh 1 Y (roR hh 2 Y (roR hh 3 Y (roR hh 4 Y (roR hh 5 Y (roR hh 6 Y (roR hh 7 Y (roR hh 8 Y (roR hh 9 Y roN))))))))))) h27 h8 hna4 hqa4 hla4 hna5 hqa5 hla5 hna6 hqa6 hla6 hna7 hqa7 hla7 h17) (fun l_6 h28 => ?_)
     have h29 := h28
     refine jV (S' := [_]) (vs' := [_, _]) [0] [0, 1] 0 Y Y Y Y (jj (hsE [] [] 0 Y Y Y Y) (jM ?_))
     obtain rfl := sj hm
     exact jk l_6 (h29) (sE Y) (hsE [0] [0] 0 Y Y Y Y)
     exact QE
    intro l_2 hj
    have h13 := hj
    replace hm := h12
    refine ja ?_
    refine ju Y (fun h30 => ?_) (fun h30 => ?_)
    ·replace hm := ifT (h30) hm
     refine jr (jo Y Y (jq (jv (jJ (jh (jh (jJ ?_)))))))
     obtain rfl := sj hm
     have hbo := h9 _ Y
     subst hbo
     refine jh ?_
     replace hm := ocR h6
     refine jh ?_
     obtain rfl := sj hm
     refine jm Y (fun w hh => (.tmp Y .nil)) (fun w hh => ⟨l_2, rfl, h13, hh.se [0] [0] 10 Y Y Y rfl⟩)
    replace hm := ifN h30 hm
    refine jt (jw (ja (je (jg Y Y ?_))))
    obtain ⟨t27, h31, hm⟩ := bindO hm
    refine Kq h31 Y Y Y (jo Y Y (jx ?_))
    obtain rfl := sj hm
    refine ja ?_
    exact jN _ l_2 Y (h13) (sE Y) (fun w hh => hh)
   replace hm := ifE h10 hm
   refine kN (jl (jl (jO ?_)))
   obtain rfl := sj hm
   have hbo := h9 _ Y
   subst hbo
   exact jk (s.a33_c0, l_1) (⟨rfl, h8⟩) (.nil) (fun w hh => hh)
  rintro ⟨j_1, l_7⟩ hj
  obtain ⟨h33, h32⟩ := hj
  subst h33
  replace hm := ocL h6
  refine ja (jr (jo Y Y (jq (jv ?_))))
  obtain rfl := sj hm
  refine jm Y (fun w hh => (.tmp Y .nil)) (fun w hh => ⟨l_7, rfl, h32, hh.se [0] [0] 10 Y Y Y rfl⟩)
structure zJ where
  r0 : Bool
  is2_c0 : (List Int)
def zl (d00 : Int) (d01 : Int) (d02 : (List Int)) (d03 : (List Sand)) (d04 : (List Sight)) (d05 : (List Int)) (many1 : Int) (is2_c0 : (List Int)) : Option zJ :=
 (qR 0 many1 is2_c0 d00 d01 d02 d03 d04 d05).bind fun t10 =>
 some (⟨t10.r0, t10.a33_c0⟩ : zJ)
theorem QW (d00 : Int) (d01 : Int) (d02 : (List Int)) (d03 : (List Sand)) (d04 : (List Sight)) (d05 : (List Int)) (many1 : Int) (is2_c0 : (List Int)) (rb : Nat) (qa1 : Option Addr) (na1 ca1 : Nat) (qa2 : Option Addr) (na2 ca2 : Nat) (qa3 : Option Addr) (na3 ca3 : Nat) (qa4 : Option Addr) (na4 ca4 : Nat) (pb : Nat) (V_is2_c0 : VL) (rb_1 : Nat) (w : World) (hw : HV w (keys [kc pb #[sL V_is2_c0] 22] [vL 3 V_is2_c0 (RI.enc is2_c0)]) [kc pb #[sL V_is2_c0] 22] [vL 3 V_is2_c0 (RI.enc is2_c0)] [(rb, 0, [.int .i64 d00, .int .i64 d01, .slice qa1 na1 ca1, .slice qa2 na2 ca2, .slice qa3 na3 ca3, .slice qa4 na4 ca4]), (aB qa1, aO qa1, RI.enc d02), (aB qa2, aO qa2, RSa.enc d03), (aB qa3, aO qa3, RSi.enc d04), (aB qa4, aO qa4, RI.enc d05), (rb_1, 0, [ptr rb 0])] w)  (hna1 : d02.length = na1) (hqa1 : AOK na1 qa1) (hla1 : na1 ≤ ca1) (hna2 : d03.length = na2) (hqa2 : AOK na2 qa2) (hla2 : na2 ≤ ca2) (hna3 : d04.length = na3) (hqa3 : AOK na3 qa3) (hla3 : na3 ≤ ca3) (hna4 : d05.length = na4) (hqa4 : AOK na4 qa4) (hla4 : na4 ≤ ca4) (hv_is2_c0 : VOK 1 V_is2_c0.n V_is2_c0.cap (RI.enc is2_c0) V_is2_c0.sp V_is2_c0.q)  {res : zJ} (hm : zl d00 d01 d02 d03 d04 d05 many1 is2_c0 = some res) :
    Calls Tryz.prog 127 #[ptr rb 0, .int .i64 many1, .func (.func 128) #[] #[ptr pb 0, ptr rb_1 0]] w (fun en w' => ∃ l : VL, en = .returned (.bool res.r0) ∧ (VOK 1 l.n l.cap (RI.enc res.is2_c0) l.sp l.q) ∧ HV w (keys [kc pb #[sL V_is2_c0] 22] [vL 3 V_is2_c0 (RI.enc is2_c0)]) [kc pb #[sL l] 22] [vL 3 l (RI.enc res.is2_c0)] [] w') := by
  unfold zl at hm
  refine yr func127 Y ntmps127 Y (e := [(0, _), (1, _), (2, _)]) Y hw (jr ?_)
  refine jI Y Y (fun b h2 => ?_)
  refine jI Y Y (fun b_1 h3 => ?_)
  refine jI Y Y (fun b_2 h4 => ?_)
  refine jo Y Y (k7 ?_)
  refine js (fun w => zeroValue100 w) Y (fun b_3 h5 => ?_)
  refine k7 (jc Y Y Y (fun _ _ => ku (u := #[]) (u' := #[_, _, _, _]) Y Y) (q4 (cs' := #[_]) (S' := [_, _, _, _, _]) 0 (fun w => sizeOf100 w) Y Y Y Y Y Y Y (k7 (yf 0 isAgg100 Y Y Y Y ?_))))
  obtain ⟨t10, h6, hm⟩ := bindO hm
  refine jV (S' := [_, _, _, _, _]) (vs' := [_]) [4, 0, 1, 2, 3] [0] 0 Y Y Y Y ?_
  refine jd [_] [_] Y Y Y Y Y Y Y call173 (fun w hh => Qy 0 many1 is2_c0 d00 d01 d02 d03 d04 d05 b_1 b_2 pb ⟨V_is2_c0.q, V_is2_c0.n, V_is2_c0.cap, V_is2_c0.sp⟩ rb_1 rb qa1 na1 ca1 qa2 na2 ca2 qa3 na3 ca3 qa4 na4 ca4 b b_3 w (HV.callee (S0 := [_]) (vs0 := [_]) hh (roC (hh.bsepH 2 Y) (roC (hh.bsepH 1 Y) (roR hh 5 Y (roR hh 0 Y (roR hh 1 Y (roR hh 2 Y (roR hh 3 Y (roR hh 4 Y (roC (hh.bsepH 3 Y) (roC (hh.bsepH 0 Y) roN))))))))))) hv_is2_c0 hna1 hqa1 hla1 hna2 hqa2 hla2 hna3 hqa3 hla3 hna4 hqa4 hla4 h6) (fun l h7 => ?_)
  have h8 := h7
  refine jV (S' := [_, _, _, _, _]) (vs' := [_]) [0, 1, 2, 3, 4] [0] 0 Y Y Y Y (jo Y Y (jq (jv ?_)))
  obtain rfl := sj hm
  refine jm Y (fun w hh => (.tmp Y .nil)) (fun w hh => ⟨l, rfl, h8, hh.se [0] [0] 6 Y Y Y rfl⟩)
structure zL where
  r1 : Int
  r0 : (List Int)
structure Jg where
  t22 : Int
  out6 : (List Int)
def yU (c0 : Channel) (t10b : zk) (s : Jg) : Option (Jg ⊕ (List Int)) :=
 if s.t22 < (c0.sights.length : Int) then
 ((addc s.t22 1).bind fun t27 =>
 (zl t10b.t14_0 t10b.t14_1 c0.fords c0.sands c0.sights t10b.t14_5 t27 s.out6).bind fun t29 =>
 if t29.r0 = true then
 (some (.inr t29.is2_c0)) else
 ((addc s.t22 1).bind fun t30 =>
 some (.inl (⟨t30, t29.is2_c0⟩ : Jg)))) else
 (some (.inr s.out6))
def qx (c0 : Channel) : Option zL :=
 (yw c0).bind fun t10 =>
 oc t10 (fun t10a => some (⟨t10a, []⟩ : zL)) (fun t10b => (zD).bind fun t17 =>
 (yd t10b.t14_0 t10b.t14_1 c0.fords c0.sands c0.sights t10b.t14_5).bind fun t18 =>
 if t18 = true then
 (some (⟨6, []⟩ : zL)) else
 ((iterM FU (yU c0 t10b) (⟨0, []⟩ : Jg)).bind fun o =>
 some (⟨0, o⟩ : zL)))
theorem Qc (c0 : Channel) (qa0 : Option Addr) (na0 ca0 : Nat) (qa1 : Option Addr) (na1 ca1 : Nat) (qa2 : Option Addr) (na2 ca2 : Nat) (w : World) (hw : HV w (keys [] []) [] [] [(aB qa0, aO qa0, RI.enc c0.fords), (aB qa1, aO qa1, RSa.enc c0.sands), (aB qa2, aO qa2, RSi.enc c0.sights)] w) (hna0 : c0.fords.length = na0) (hqa0 : AOK na0 qa0) (hla0 : na0 ≤ ca0) (hna1 : c0.sands.length = na1) (hqa1 : AOK na1 qa1) (hla1 : na1 ≤ ca1) (hna2 : c0.sights.length = na2) (hqa2 : AOK na2 qa2) (hla2 : na2 ≤ ca2) {res : zL} (hm : qx c0 = some res) :
    Calls Tryz.prog 51 #[.agg #[.int .i64 c0.cells, .int .i64 c0.tides, .slice qa0 na0 ca0, .slice qa1 na1 ca1, .slice qa2 na2 ca2]] w (fun en w' => ∃ l : VL, en = .returned (.tuple #[sL l, .int .i64 res.r1]) ∧ (VOK 1 l.n l.cap (RI.enc res.r0) l.sp l.q) ∧ HV w (keys [] []) [] [vL 3 l (RI.enc res.r0)] [] w') := by
  unfold qx at hm
  refine yr func51 Y ntmps51 Y (e := [(0, _)]) Y hw (jr ?_)
  refine jI Y Y (fun b h2 => ?_)
  refine jc Y Y Y (fun _ _ => yc Y) (jo Y Y (jq (jaY (jr (zX [_, _, _, _, _] 0 isAgg26 sizeOf26 Y Y Y Y ?_)))))
  obtain ⟨t10, h3, hm⟩ := bindO hm
  rcases t10 with t10a | t10b
  ·replace hm := ocL hm
   refine jd [] [] Y Y Y Y Y Y Y call93 (fun w hh => yv c0 qa0 na0 ca0 qa1 na1 ca1 qa2 na2 ca2 w (HV.callee (S0 := []) (vs0 := []) hh (roR hh 0 Y (roR hh 1 Y (roR hh 2 Y roN)))) hna0 hqa0 hla0 hna1 hqa1 hla1 hna2 hqa2 hla2 h3) (fun l h4 => ?_)
   have h5 := h4
   refine jg Y Y (zo Y Y Y (zo Y Y Y ?_))
   refine js (fun w => zeroValue146 w) Y (fun b_1 h6 => ?_)
   refine q4 (cs' := #[_]) (S' := [_, _]) 0 (fun w => sizeOf146 w) Y Y Y Y Y Y Y (jo Y Y (jq (ji (jr (jg Y Y (jc Y Y Y (fun _ _ => YR h5 Y Y) (jq ?_)))))))
   refine J1 Y Y (jr (jg Y Y (jc Y Y Y (fun _ _ => yc Y) (jo Y Y (jq (jv (jh ?_)))))))
   refine ZX (zV 3 ?_)
   obtain rfl := sj hm
   refine jm Y (fun w hh => (.tmp Y (.tmp Y .nil))) (fun w hh => ⟨⟨none, 0, 0, []⟩, rfl, VOK.nil, hh.se [] [0] 3 Y Y Y rfl⟩)
  replace hm := ocR hm
  refine jd [] [] Y Y Y Y Y Y Y call93 (fun w hh => yv c0 qa0 na0 ca0 qa1 na1 ca1 qa2 na2 ca2 w (HV.callee (S0 := []) (vs0 := []) hh (roR hh 0 Y (roR hh 1 Y (roR hh 2 Y roN)))) hna0 hqa0 hla0 hna1 hqa1 hla1 hna2 hqa2 hla2 h3) (fun l_1 h7 => ?_)
  have h8 := h7
  refine jV (S' := [_, _]) (vs' := [_]) [0, 1] [0] 0 Y Y Y Y (jg Y Y (zo Y Y Y (zo Y Y Y ?_)))
  refine js (fun w => zeroValue146 w) Y (fun b_2 h9 => ?_)
  refine q4 (cs' := #[_]) (S' := [_, _, _]) 0 (fun w => sizeOf146 w) Y Y Y Y Y Y Y (jo Y Y (jq (ji (jr (jg Y Y (jc Y Y Y (fun _ _ => Jc Y Y) (jq ?_)))))))
  refine Ka Y Y (jt (ja (jr ?_)))
  refine js (fun w => zeroValue22 w) Y (fun b_3 h10 => ?_)
  refine jq (ji (ji (ky none (.hoist 0 (.one 1 (.one 2 .done))) _ Y (by decide +kernel) (fun w k hh => hh.draw k) (fun w hh => hh) (Kg 1 isAgg146 Y Y Y Y Y (jA Y ?_)))))
  obtain ⟨t17, h11, hm⟩ := bindO hm
  refine jd [] [] Y Y Y Y Y Y Y call126 (fun w hh => Q1  w (HV.callee (S0 := []) (vs0 := []) hh roN)  h11) (fun l_2 h12 => ?_)
  refine jj (fun w hh => hh) (jA Y ?_)
  obtain ⟨t18, h13, hm⟩ := bindO hm
  refine jd [] [] Y Y Y Y Y Y Y call121 (fun w hh => QS t10b.t14_0 t10b.t14_1 c0.fords c0.sands c0.sights t10b.t14_5 l_1.1 qa0 na0 ca0 qa1 na1 ca1 qa2 na2 ca2 (qA l_1.2.q) l_1.2.n l_1.2.cap w (HV.callee (S0 := []) (vs0 := []) hh (roC (bsep (hh.bseg 2 Y)) (roR hh 0 Y (roR hh 1 Y (roR hh 2 Y (roC (hh.vsepA 0 Y h8) roN)))))) hna0 hqa0 hla0 hna1 hqa1 hla1 hna2 hqa2 hla2 (vlen RI h8 Y) (AOK.q (vne h8)) (h8).hle h13) (fun l_3 h14 => ?_)
  refine jj (fun w hh => hh) (jM (ja ?_))
  refine ju Y (fun h15 => ?_) (fun h15 => ?_)
  ·replace hm := ifT (h15) hm
   refine jr (jc Y Y Y (fun _ _ => yc Y) (jo Y Y (jq (jv (jh (ZX (zV 3 ?_)))))))
   obtain rfl := sj hm
   refine jm Y (fun w hh => (.tmp Y (.tmp Y .nil))) (fun w hh => ⟨⟨none, 0, 0, []⟩, rfl, VOK.nil, hh.se [] [0] 3 Y Y Y rfl⟩)
  replace hm := ifN h15 hm
  refine jt (ja (ji (jaM (ja (ji (jr (yD 4 runUnderlying26 Y sizeOf24 Y Y ?_)))))))
  refine yf 3 isAgg24 Y Y Y Y (jc Y Y Y (fun w _ => qd hna2 (runUnderlying24 w) Y) (jg Y Y (jq (zV 3 ?_))))
  obtain ⟨o, h16, h17⟩ := bindO hm
  refine j3 (ι := VL) (fun l_4 => VOK 1 l_4.n l_4.cap (RI.enc o) l_4.sp l_4.q) (fun l_4 => [(6, ptr b_3 0)]) (fun l_4 => [kc b_3 #[sL l_4] 22, kc b_2 #[ptr l_1.1 0] 146, kc l_1.1 #[.int .i64 t10b.t14_0, .int .i64 t10b.t14_1, .slice qa0 na0 ca0, .slice qa1 na1 ca1, .slice qa2 na2 ca2, sL l_1.2] 175, kc b #[.int .i64 c0.cells, .int .i64 c0.tides, .slice qa0 na0 ca0, .slice qa1 na1 ca1, .slice qa2 na2 ca2] 26]) (fun l_4 => [vL 3 l_4 (RI.enc o), vL 3 l_1.2 (RI.enc t10b.t14_5)]) ?_ ?_
  ·replace hm := h16
   refine jp ?_
   refine kk (ι := VL) hm (fun s l_5 => VOK 1 l_5.n l_5.cap (RI.enc s.out6) l_5.sp l_5.q) (fun s l_5 => [(4, ptr b_2 0), (6, ptr b_3 0), (21, .int .i64 (c0.sights.length : Int)), (22, .int .i64 s.t22)]) (fun s l_5 => [kc b_3 #[sL l_5] 22, kc b_2 #[ptr l_1.1 0] 146, kc l_1.1 #[.int .i64 t10b.t14_0, .int .i64 t10b.t14_1, .slice qa0 na0 ca0, .slice qa1 na1 ca1, .slice qa2 na2 ca2, sL l_1.2] 175, kc b #[.int .i64 c0.cells, .int .i64 c0.tides, .slice qa0 na0 ca0, .slice qa1 na1 ca1, .slice qa2 na2 ca2] 26]) (fun s l_5 => [vL 3 l_5 (RI.enc s.out6), vL 3 l_1.2 (RI.enc t10b.t14_5)]) ⟨none, 0, 0, []⟩ (VOK.nil) (sE Y) (fun w hh => hh) (fun s l_5 r hpl hm h20 => ?_)
   have h19 := hpl
   unfold yU at hm
   refine jr (Kv Y Y Y (jq (ji ?_)))
   refine ju Y (fun h21 => ?_) (fun h21 => ?_)
   ·replace hm := ifD h21 hm
    refine jt (ja (ji (jp (jr (jg Y Y (jo Y Y (k7 ?_)))))))
    refine yf 1 isAgg146 Y Y Y Y (jg Y Y ?_)
    obtain ⟨t27, h22, hm⟩ := bindO hm
    refine Kq h22 Y Y Y (jc Y Y Y (fun _ _ => ku (u := #[]) (u' := #[_, _]) Y Y) ?_)
    obtain ⟨t29, h23, hm⟩ := bindO hm
    refine jd [_] [_] Y Y Y Y Y Y Y call127 (fun w hh => QW t10b.t14_0 t10b.t14_1 c0.fords c0.sands c0.sights t10b.t14_5 t27 s.out6 l_1.1 qa0 na0 ca0 qa1 na1 ca1 qa2 na2 ca2 (qA l_1.2.q) l_1.2.n l_1.2.cap b_3 ⟨l_5.q, l_5.n, l_5.cap, l_5.sp⟩ b_2 w (HV.callee (S0 := [_]) (vs0 := [_]) hh (roC (hh.bsepH 1 Y) (roR hh 0 Y (roR hh 1 Y (roR hh 2 Y (roC (hh.vsepA 0 Y h8) (roC (hh.bsepH 0 Y) roN))))))) hna0 hqa0 hla0 hna1 hqa1 hla1 hna2 hqa2 hla2 (vlen RI h8 Y) (AOK.q (vne h8)) (h8).hle h19 h23) (fun l_6 h24 => ?_)
    have h25 := h24
    refine jV (S' := [_, _, _, _]) (vs' := [_, _]) [0, 1, 2, 3] [0, 1] 0 Y Y Y Y (jq ?_)
    refine ju Y (fun h26 => ?_) (fun h26 => ?_)
    ·replace hm := ifT (h26) hm
     refine kN (jaL Y (jl (jl (jO ?_))))
     obtain rfl := sj hm
     have hbo := h20 _ Y
     subst hbo
     exact jk l_6 (h25) (sE Y) (fun w hh => hh)
    replace hm := ifN h26 hm
    refine jt (jw (ja (je ?_)))
    obtain ⟨t30, h27, hm⟩ := bindO hm
    refine Kq h27 Y Y Y (jg Y Y (jx ?_))
    obtain rfl := sj hm
    refine ja ?_
    exact jN _ l_6 Y (h25) (sE Y) (fun w hh => hh)
   replace hm := ifE h21 hm
   refine kN (jl (jl (jO ?_)))
   obtain rfl := sj hm
   have hbo := h20 _ Y
   subst hbo
   exact jk l_5 (h19) (sE Y) (fun w hh => hh)
  intro l_4 hj
  have h18 := hj
  replace hm := h17
  refine ja (jr (yf 0 isAgg22 Y Y Y Y (jo Y Y (jo Y Y (jq (jv (ZX ?_)))))))
  obtain rfl := sj hm
  refine jm Y (fun w hh => (.tmp Y (.tmp Y .nil))) (fun w hh => ⟨l_4, rfl, h18, hh.se [] [0] 3 Y Y Y rfl⟩)
end Go.Proofs.Wb

namespace Go.Proofs.Wb
open Go Go.Fw Go.Gx Go.Sb
set_option linter.unusedVariables false
set_option maxRecDepth 100000
def cOut (f : List Int) (i : Nat) : Bool := !decide ((i : Int) ∈ f)
def cIn (f : List Int) (i : Nat) : Bool := decide ((i : Int) ∈ f)
theorem ZL {d0 d1 : Int} {f : List Int} {a : List Sand} {sg : List Sight} {r f1 : List Int} (h : f.length ≤ 3) (hs : sg.length ≤ 100) (hf1 : f1.length < 1000000) (s : State) : ye d0 d1 f a sg r f1 s = some (agP (cOut f1) sg s.after (clS f.length s)) := by
  unfold ye
  rw [iterM_any0 (f := qD sg s f1 d0 d1 f a r) sg.length (fun k => cOut f1 k && offS s.after (clS f.length s) (sg.getD k default)) false (fun k hk => ?_) ?_ (FU_lt (by omega)), Option.bind_some]
  · unfold agP
    cases (List.range sg.length).any fun k => cOut f1 k && offS s.after (clS f.length s) (sg.getD k default) <;> rfl
  · unfold qD
    rw [if_neg (by omega)]
  · have hp : yI (k : Int) f1 = some (cOut f1 k) := by
      unfold yI
      rw [Jm hf1, Option.bind_some]
      rfl
    unfold qD
    rw [if_pos (by omega), ix_nat default hk, Option.bind_some, hp, Option.bind_some, Zc h, Option.bind_some, Jm (by unfold clS; simp; omega), Option.bind_some, addc_eq (by omega)]
    unfold offS
    by_cases h1 : (sg.getD k default).after = s.after
    · rw [if_pos h1, decide_eq_true h1, Bool.true_and]
      cases cOut f1 k with
      | true => rw [if_pos rfl, Option.bind_some, Bool.true_and]; split <;> rfl
      | false => rw [if_neg (by decide), Option.bind_some, Bool.false_and]; rfl
    · rw [if_neg h1, Option.bind_some, decide_eq_false h1, Bool.false_and, Bool.and_false]
      rfl
def MR1 (c : Channel) (f1 : List Int) (fu : Nat) (s : State) (ml : ML) : Option (Int × ML) := (jF fu s ml c.cells c.tides c.fords c.sands c.sights (rchL c) f1).map fun q => (q.r0, q.a11)
theorem restEq1 {c : Channel} (r : Right c) {f1 : List Int} (hf1 : f1.length < 1000000) : RestEq (MR1 c f1) (VS c) (agS (cOut f1) c) (nxS c) c.tides where
  eq fu s ml hV := by
    have hf := r.fords
    have hs := r.sights
    unfold MR1
    rw [jF]
    unfold ym
    by_cases h1 : (aget ml s).isSome = true
    · rw [if_pos h1, if_pos h1]; rfl
    · rw [if_neg h1, if_neg h1, ZL (by omega) (by omega) hf1, Option.bind_some, not_true_if]
      show _ = if agS (cOut f1) c s = true then _ else _
      unfold agS
      by_cases h2 : agP (cOut f1) c.sights s.after (clS c.fords.length s) = true
      · rw [if_pos h2, if_pos h2]
        by_cases h3 : s.after = c.tides
        · rw [if_pos h3, if_pos h3]; rfl
        · rw [if_neg h3, if_neg h3]
          unfold j7
          rw [Option.bind_some, if_pos (VS_next r hV)]
          have hp := iterL_pair (fun q : kF => (q.n9, q.a11)) (f := qm (jF fu) c.cells c.tides c.fords c.sands c.sights (rchL c) f1) (f' := fR (MR1 c f1 fu)) (fun x q => by
            unfold qm fR MR1
            cases jF fu x q.a11 c.cells c.tides c.fords c.sands c.sights (rchL c) f1 with
            | none => rfl
            | some q' =>
              simp only [Option.bind_some, Option.map_some]
              cases addc q.n9 q'.r0 <;> rfl) (nxS c s) ⟨0, ml⟩
          simp only at hp
          show _ = (iterL (fR (MR1 c f1 fu)) (nxS c s) (0, ml)).bind _
          rw [← hp]
          unfold nxS
          cases iterL (qm (jF fu) c.cells c.tides c.fords c.sands c.sights (rchL c) f1) (nextL c.cells (rchL c) (c.fords.length : Int) s) ⟨0, ml⟩ <;> rfl
      · rw [if_neg h2, if_neg h2]; rfl
  nxV s t hs hl ht := nxS_V r hs hl ht
  le s hs := hs.2.2
  len s := nxS_len r s
theorem YT {c : Channel} (r : Right c) {f1 : List Int} (hf1 : f1.length < 1000000) : qZ c.cells c.tides c.fords c.sands c.sights (rchL c) f1 = some (decide (0 < cntS (cOut f1) c)) := by
  have hf := r.fords
  have ht := r.tides
  unfold qZ zb
  rw [KG (by omega), Option.bind_some]
  obtain ⟨ml, e, s1, c1, _, i1⟩ := rest_spec (restEq1 r hf1) ht (c.tides - (first c).after).toNat FU (first c) [] (first_V r) (Int.le_refl _) rfl (by unfold first FU; simp only; omega) (fun x v hx => by simp [aget, afind] at hx) (fun x hx => by simp [aget, afind] at hx)
  unfold MR1 at e
  rw [Option.map_eq_some_iff] at e
  obtain ⟨q, e1, e2⟩ := e
  simp only [Prod.mk.injEq] at e2
  show ((jF FU (first c) [] c.cells c.tides c.fords c.sands c.sights (rchL c) f1).bind _).bind _ = _
  rw [e1, Option.bind_some, Option.bind_some, Option.bind_some, e2.2]
  obtain ⟨v, hv⟩ := Option.isSome_iff_exists.1 i1
  have h3 := s1 _ _ hv
  show some (decide (0 < (aget ml (first c)).getD 0)) = _
  rw [hv, Option.getD_some, h3]
  have : valR (nxS c) (agS (cOut f1) c) c.tides (first c) = (cntS (cOut f1) c : Int) := by
    unfold valR cntS first
    simp
  rw [this]
  congr 1
  rw [Bool.eq_iff_iff, decide_eq_true_eq, decide_eq_true_eq]
  omega
theorem ZP {d0 d1 : Int} {f : List Int} {a : List Sand} {sg : List Sight} {r f1 : List Int} (h : f.length ≤ 3) (hs : sg.length ≤ 100) (hf1 : f1.length < 1000000) (s : State) : q9 d0 d1 f a sg r f1 s = some (agP (cIn f1) sg s.after (clS f.length s)) := by
  unfold q9
  rw [iterM_any0 (f := qC sg s f1 d0 d1 f a r) sg.length (fun k => cIn f1 k && offS s.after (clS f.length s) (sg.getD k default)) false (fun k hk => ?_) ?_ (FU_lt (by omega)), Option.bind_some]
  · unfold agP
    cases (List.range sg.length).any fun k => cIn f1 k && offS s.after (clS f.length s) (sg.getD k default) <;> rfl
  · unfold qC
    rw [if_neg (by omega)]
  · have hp : z6 (k : Int) f1 = some (cIn f1 k) := by
      unfold z6
      rw [Jm hf1, Option.bind_some]
      rfl
    unfold qC
    rw [if_pos (by omega), ix_nat default hk, Option.bind_some, hp, Option.bind_some, Zc h, Option.bind_some, Jm (by unfold clS; simp; omega), Option.bind_some, addc_eq (by omega)]
    unfold offS
    by_cases h1 : (sg.getD k default).after = s.after
    · rw [if_pos h1, decide_eq_true h1, Bool.true_and]
      cases cIn f1 k with
      | true => rw [if_pos rfl, Option.bind_some, Bool.true_and]; split <;> rfl
      | false => rw [if_neg (by decide), Option.bind_some, Bool.false_and]; rfl
    · rw [if_neg h1, Option.bind_some, decide_eq_false h1, Bool.false_and, Bool.and_false]
      rfl
def MR2 (c : Channel) (f1 : List Int) (fu : Nat) (s : State) (ml : ML) : Option (Int × ML) := (jG fu s ml c.cells c.tides c.fords c.sands c.sights (rchL c) f1).map fun q => (q.r0, q.a11)
theorem restEq2 {c : Channel} (r : Right c) {f1 : List Int} (hf1 : f1.length < 1000000) : RestEq (MR2 c f1) (VS c) (agS (cIn f1) c) (nxS c) c.tides where
  eq fu s ml hV := by
    have hf := r.fords
    have hs := r.sights
    unfold MR2
    rw [jG]
    unfold yp
    by_cases h1 : (aget ml s).isSome = true
    · rw [if_pos h1, if_pos h1]; rfl
    · rw [if_neg h1, if_neg h1, ZP (by omega) (by omega) hf1, Option.bind_some, not_true_if]
      show _ = if agS (cIn f1) c s = true then _ else _
      unfold agS
      by_cases h2 : agP (cIn f1) c.sights s.after (clS c.fords.length s) = true
      · rw [if_pos h2, if_pos h2]
        by_cases h3 : s.after = c.tides
        · rw [if_pos h3, if_pos h3]; rfl
        · rw [if_neg h3, if_neg h3]
          unfold j7
          rw [Option.bind_some, if_pos (VS_next r hV)]
          have hp := iterL_pair (fun q : kJ => (q.n9, q.a11)) (f := ql (jG fu) c.cells c.tides c.fords c.sands c.sights (rchL c) f1) (f' := fR (MR2 c f1 fu)) (fun x q => by
            unfold ql fR MR2
            cases jG fu x q.a11 c.cells c.tides c.fords c.sands c.sights (rchL c) f1 with
            | none => rfl
            | some q' =>
              simp only [Option.bind_some, Option.map_some]
              cases addc q.n9 q'.r0 <;> rfl) (nxS c s) ⟨0, ml⟩
          simp only at hp
          show _ = (iterL (fR (MR2 c f1 fu)) (nxS c s) (0, ml)).bind _
          rw [← hp]
          unfold nxS
          cases iterL (ql (jG fu) c.cells c.tides c.fords c.sands c.sights (rchL c) f1) (nextL c.cells (rchL c) (c.fords.length : Int) s) ⟨0, ml⟩ <;> rfl
      · rw [if_neg h2, if_neg h2]; rfl
  nxV s t hs hl ht := nxS_V r hs hl ht
  le s hs := hs.2.2
  len s := nxS_len r s
theorem YS {c : Channel} (r : Right c) {f1 : List Int} (hf1 : f1.length < 1000000) : qr c.cells c.tides c.fords c.sands c.sights (rchL c) f1 = some (decide (0 < cntS (cIn f1) c)) := by
  have hf := r.fords
  have ht := r.tides
  unfold qr zi
  rw [KG (by omega), Option.bind_some]
  obtain ⟨ml, e, s1, c1, _, i1⟩ := rest_spec (restEq2 r hf1) ht (c.tides - (first c).after).toNat FU (first c) [] (first_V r) (Int.le_refl _) rfl (by unfold first FU; simp only; omega) (fun x v hx => by simp [aget, afind] at hx) (fun x hx => by simp [aget, afind] at hx)
  unfold MR2 at e
  rw [Option.map_eq_some_iff] at e
  obtain ⟨q, e1, e2⟩ := e
  simp only [Prod.mk.injEq] at e2
  show ((jG FU (first c) [] c.cells c.tides c.fords c.sands c.sights (rchL c) f1).bind _).bind _ = _
  rw [e1, Option.bind_some, Option.bind_some, Option.bind_some, e2.2]
  obtain ⟨v, hv⟩ := Option.isSome_iff_exists.1 i1
  have h3 := s1 _ _ hv
  show some (decide (0 < (aget ml (first c)).getD 0)) = _
  rw [hv, Option.getD_some, h3]
  have : valR (nxS c) (agS (cIn f1) c) c.tides (first c) = (cntS (cIn f1) c : Int) := by
    unfold valR cntS first
    simp
  rw [this]
  congr 1
  rw [Bool.eq_iff_iff, decide_eq_true_eq, decide_eq_true_eq]
  omega
def pW (c : Channel) (l : List Int) : Bool := decide (0 < cntS (cOut l) c)
def pC (c : Channel) (l : List Int) : Bool := !decide (0 < cntS (cIn l) c)
def scan (p : List Int → Bool) : List (List Int) → List Int → Bool × List Int
  | [], o => (false, o)
  | x :: E, o => if p x = true then (true, x) else scan p E x
theorem scan_append (p : List Int → Bool) : ∀ (E F : List (List Int)) (o : List Int), scan p (E ++ F) o = if (scan p E o).1 = true then scan p E o else scan p F (scan p E o).2
  | [], F, o => rfl
  | x :: E, F, o => by
    rw [List.cons_append, scan, scan]
    by_cases h : p x = true
    · rw [if_pos h, if_pos h, if_pos rfl]
    · rw [if_neg h, if_neg h, scan_append p E F x]
theorem scan_find (p : List Int → Bool) : ∀ (E : List (List Int)) (o : List Int), ((scan p E o).1 = true → E.find? p = some (scan p E o).2) ∧ ((scan p E o).1 = false → E.find? p = none)
  | [], o => ⟨fun h => absurd h (by simp [scan]), fun _ => rfl⟩
  | x :: E, o => by
    have ih := scan_find p E x
    rw [scan, List.find?_cons]
    cases h : p x with
    | true => rw [if_pos rfl]; exact ⟨fun _ => rfl, fun q => absurd q (by simp)⟩
    | false => rw [if_neg (by decide)]; exact ih
theorem incL_end (n m : Nat) : incL n (m + 1) n = [] := by
  rw [incL, Nat.sub_self]; rfl
theorem incL_step {n m fr : Nat} (h : fr < n) : incL n (m + 1) fr = (incL n m (fr + 1)).map ((fr : Int) :: ·) ++ incL n (m + 1) (fr + 1) := by
  rw [incL, incL, show n - fr = (n - (fr + 1)) + 1 by omega, List.range_succ_eq_map, List.flatMap_cons, List.flatMap_map]
  congr 1
  congr 1
  funext d
  rw [show fr + (d + 1) + 1 = fr + 1 + d + 1 by omega, show fr + (d + 1) = fr + 1 + d by omega]
def chunk (n m : Nat) (l0 : List Int) (fr : Nat) : List (List Int) := (incL n m (fr + 1)).map fun x => (l0 ++ [(fr : Int)]) ++ x
theorem scan_loop {σ ρ : Type} {f : σ → Option (σ ⊕ (List Int ⊕ ρ))} (I : Int → List Int → σ) (T : List Int → ρ) (p : List Int → Bool) (l0 : List Int) (n m : Nat)
    (hf : ∀ (fr : Nat) (o : List Int), fr < n → f (I (fr : Int) o) = some (if (scan p (chunk n m l0 fr) o).1 = true then .inr (.inr (T (scan p (chunk n m l0 fr) o).2)) else .inl (I ((fr + 1 : Nat) : Int) (scan p (chunk n m l0 fr) o).2)))
    (he : ∀ o, f (I (n : Int) o) = some (.inr (.inl o))) : ∀ (r fr : Nat) (o : List Int) (N : Nat), fr + r = n → r < N → iterM N f (I (fr : Int) o) = some (if (scan p ((incL n (m + 1) fr).map (l0 ++ ·)) o).1 = true then .inr (T (scan p ((incL n (m + 1) fr).map (l0 ++ ·)) o).2) else .inl (scan p ((incL n (m + 1) fr).map (l0 ++ ·)) o).2)
  | 0, fr, o, N, h, hN => by
    obtain ⟨N, rfl⟩ : ∃ N', N = N' + 1 := ⟨N - 1, by omega⟩
    obtain rfl : fr = n := by omega
    rw [iterM_done (he o), incL_end]
    rfl
  | r + 1, fr, o, N, h, hN => by
    obtain ⟨N, rfl⟩ : ∃ N', N = N' + 1 := ⟨N - 1, by omega⟩
    have e : (incL n (m + 1) fr).map (l0 ++ ·) = chunk n m l0 fr ++ (incL n (m + 1) (fr + 1)).map (l0 ++ ·) := by
      rw [incL_step (by omega), List.map_append, List.map_map]
      congr 1
      unfold chunk
      apply List.map_congr_left
      intro x _
      simp
    rw [e, scan_append]
    have hs := hf fr o (by omega)
    by_cases hq : (scan p (chunk n m l0 fr) o).1 = true
    · rw [if_pos hq] at hs
      rw [iterM_done hs, if_pos hq, if_pos hq]
    · rw [if_neg hq] at hs
      rw [iterM_step hs, if_neg hq]
      exact scan_loop I T p l0 n m hf he r (fr + 1) _ N (by omega) (by omega)
theorem Y5 {c : Channel} (r : Right c) {many : Nat} (hm : many ≤ 100) : ∀ (m fu : Nat) (l0 : List Int) (fr : Nat) (o : List Int), m < fu → l0.length + m = many → fr ≤ c.sights.length → jK fu l0 (fr : Int) (many : Int) o c.cells c.tides c.fords c.sands c.sights (rchL c) = some ⟨(scan (pW c) ((incL c.sights.length m fr).map (l0 ++ ·)) o).1, (scan (pW c) ((incL c.sights.length m fr).map (l0 ++ ·)) o).2⟩
  | m, 0, l0, fr, o, h, _, _ => absurd h (by omega)
  | 0, fu + 1, l0, fr, o, _, hl, hfr => by
    rw [jK]
    unfold qv
    rw [if_pos (by omega)]
    have hw : ze l0 o c.cells c.tides c.fords c.sands c.sights (rchL c) = some ⟨pW c l0, l0⟩ := by
      unfold ze
      rw [YT r (by omega), Option.bind_some]
      rfl
    rw [hw, Option.bind_some]
    show _ = some (⟨(scan (pW c) [l0 ++ []] o).1, (scan (pW c) [l0 ++ []] o).2⟩ : jE)
    rw [List.append_nil, scan, scan]
    cases pW c l0 <;> rfl
  | m + 1, fu + 1, l0, fr, o, hfu, hl, hfr => by
    have hs := r.sights
    rw [jK]
    unfold qv
    rw [if_neg (by omega)]
    have key := scan_loop (f := qp c.sights l0 (jK fu) (many : Int) c.cells c.tides c.fords c.sands (rchL c)) (fun i o => ⟨i, o⟩) (fun l => ⟨true, l⟩) (pW c) l0 c.sights.length m (fun fr o hfr => ?_) (fun o => ?_) (c.sights.length - fr) fr o FU (by omega) (FU_lt (by omega))
    · rw [key, Option.bind_some]
      cases hq : (scan (pW c) ((incL c.sights.length (m + 1) fr).map (l0 ++ ·)) o).1 with
      | true => rw [if_pos rfl, oc_inr]
      | false => rw [if_neg (by decide), oc_inl]
    · unfold qp
      simp only
      have ih := Y5 r hm m fu (l0 ++ [(fr : Int)]) (fr + 1) o (by omega) (by simp; omega) (by omega)
      rw [if_pos (by omega), addc_eq (by omega), Option.bind_some, KH (by omega), Option.bind_some, appc_eq (by simp; omega), Option.bind_some, show (fr : Int) + 1 = ((fr + 1 : Nat) : Int) by omega, ih, Option.bind_some, Option.bind_some]
      show (if (scan (pW c) (chunk c.sights.length m l0 fr) o).1 = true then _ else _) = _
      split
      · rfl
      · rw [Option.bind_some]; rfl
    · unfold qp
      simp only
      rw [if_neg (by omega)]
theorem ZR {c : Channel} (r : Right c) {many : Nat} (hm : many ≤ 100) : qV 0 (many : Int) c.cells c.tides c.fords c.sands c.sights (rchL c) = some ⟨(scan (pW c) (incL c.sights.length many 0) []).1, (scan (pW c) (incL c.sights.length many 0) []).2⟩ := by
  have hs := r.sights
  unfold qV
  cases many with
  | zero =>
    rw [if_pos (by omega)]
    have hw : zd [] c.cells c.tides c.fords c.sands c.sights (rchL c) = some (pW c []) := by
      unfold zd
      rw [YT r (by simp), Option.bind_some]
      rfl
    rw [hw, Option.bind_some]
    show _ = some (⟨(scan (pW c) [[]] []).1, (scan (pW c) [[]] []).2⟩ : ka)
    rw [scan, scan]
    cases pW c [] <;> rfl
  | succ m =>
    rw [if_neg (by omega)]
    have key := scan_loop (f := kG c.sights ((m + 1 : Nat) : Int) c.cells c.tides c.fords c.sands (rchL c)) (fun i o => ⟨i, o⟩) (fun l => ⟨true, l⟩) (pW c) [] c.sights.length m (fun fr o hfr => ?_) (fun o => ?_) c.sights.length 0 [] FU (by omega) (FU_lt (by omega))
    · have key' : iterM FU (kG c.sights ((m + 1 : Nat) : Int) c.cells c.tides c.fords c.sands (rchL c)) ⟨0, []⟩ = _ := key
      rw [key', Option.bind_some]
      have e : (incL c.sights.length (m + 1) 0).map (([] : List Int) ++ ·) = incL c.sights.length (m + 1) 0 := by simp
      rw [e]
      cases hq : (scan (pW c) (incL c.sights.length (m + 1) 0) []).1 with
      | true => rw [if_pos rfl, oc_inr]
      | false => rw [if_neg (by decide), oc_inl]
    · unfold kG
      simp only
      have ih := Y5 r hm m FU [(fr : Int)] (fr + 1) o (by unfold FU; omega) (by simp; omega) (by omega)
      rw [if_pos (by omega), addc_eq (by omega), Option.bind_some, KH (by simp), Option.bind_some, appc_eq (by simp), Option.bind_some, show (fr : Int) + 1 = ((fr + 1 : Nat) : Int) by omega]
      show ((jK FU [(fr : Int)] ((fr + 1 : Nat) : Int) ((m + 1 : Nat) : Int) o c.cells c.tides c.fords c.sands c.sights (rchL c)).bind _).bind _ = _
      rw [ih, Option.bind_some, Option.bind_some]
      show (if (scan (pW c) (chunk c.sights.length m [] fr) o).1 = true then _ else _) = _
      split
      · rfl
      · rw [Option.bind_some]; rfl
    · unfold kG
      simp only
      rw [if_neg (by omega)]
theorem Zd {c : Channel} (r : Right c) {many : Nat} (hm : many ≤ 100) : ∀ (m fu : Nat) (l0 : List Int) (fr : Nat) (o : List Int), m < fu → l0.length + m = many → fr ≤ c.sights.length → jL fu l0 (fr : Int) (many : Int) o c.cells c.tides c.fords c.sands c.sights (rchL c) = some ⟨(scan (pC c) ((incL c.sights.length m fr).map (l0 ++ ·)) o).1, (scan (pC c) ((incL c.sights.length m fr).map (l0 ++ ·)) o).2⟩
  | m, 0, l0, fr, o, h, _, _ => absurd h (by omega)
  | 0, fu + 1, l0, fr, o, _, hl, hfr => by
    rw [jL]
    unfold qB
    rw [if_pos (by omega)]
    have hw : zj l0 o c.cells c.tides c.fords c.sands c.sights (rchL c) = some ⟨pC c l0, l0⟩ := by
      unfold zj Ji
      rw [YS r (by omega), Option.bind_some, Option.bind_some]
      rfl
    rw [hw, Option.bind_some]
    show _ = some (⟨(scan (pC c) [l0 ++ []] o).1, (scan (pC c) [l0 ++ []] o).2⟩ : jD)
    rw [List.append_nil, scan, scan]
    cases pC c l0 <;> rfl
  | m + 1, fu + 1, l0, fr, o, hfu, hl, hfr => by
    have hs := r.sights
    rw [jL]
    unfold qB
    rw [if_neg (by omega)]
    have key := scan_loop (f := qo c.sights l0 (jL fu) (many : Int) c.cells c.tides c.fords c.sands (rchL c)) (fun i o => ⟨i, o⟩) (fun l => ⟨true, l⟩) (pC c) l0 c.sights.length m (fun fr o hfr => ?_) (fun o => ?_) (c.sights.length - fr) fr o FU (by omega) (FU_lt (by omega))
    · rw [key, Option.bind_some]
      cases hq : (scan (pC c) ((incL c.sights.length (m + 1) fr).map (l0 ++ ·)) o).1 with
      | true => rw [if_pos rfl, oc_inr]
      | false => rw [if_neg (by decide), oc_inl]
    · unfold qo
      simp only
      have ih := Zd r hm m fu (l0 ++ [(fr : Int)]) (fr + 1) o (by omega) (by simp; omega) (by omega)
      rw [if_pos (by omega), addc_eq (by omega), Option.bind_some, KH (by omega), Option.bind_some, appc_eq (by simp; omega), Option.bind_some, show (fr : Int) + 1 = ((fr + 1 : Nat) : Int) by omega, ih, Option.bind_some, Option.bind_some]
      show (if (scan (pC c) (chunk c.sights.length m l0 fr) o).1 = true then _ else _) = _
      split
      · rfl
      · rw [Option.bind_some]; rfl
    · unfold qo
      simp only
      rw [if_neg (by omega)]
theorem ZT {c : Channel} (r : Right c) {many : Nat} (hm : many ≤ 100) (o : List Int) : qR 0 (many : Int) o c.cells c.tides c.fords c.sands c.sights (rchL c) = some ⟨(scan (pC c) (incL c.sights.length many 0) o).1, (scan (pC c) (incL c.sights.length many 0) o).2⟩ := by
  have hs := r.sights
  unfold qR
  cases many with
  | zero =>
    rw [if_pos (by omega)]
    have hw : zf o c.cells c.tides c.fords c.sands c.sights (rchL c) = some (pC c []) := by
      unfold zf Ji
      rw [YS r (by simp), Option.bind_some, Option.bind_some]
      rfl
    rw [hw, Option.bind_some]
    show _ = some (⟨(scan (pC c) [[]] o).1, (scan (pC c) [[]] o).2⟩ : kg)
    rw [scan, scan]
    cases pC c [] <;> rfl
  | succ m =>
    rw [if_neg (by omega)]
    have key := scan_loop (f := kH c.sights ((m + 1 : Nat) : Int) c.cells c.tides c.fords c.sands (rchL c)) (fun i o => ⟨i, o⟩) (fun l => ⟨true, l⟩) (pC c) [] c.sights.length m (fun fr o hfr => ?_) (fun o => ?_) c.sights.length 0 o FU (by omega) (FU_lt (by omega))
    · have key' : iterM FU (kH c.sights ((m + 1 : Nat) : Int) c.cells c.tides c.fords c.sands (rchL c)) ⟨0, o⟩ = _ := key
      rw [key', Option.bind_some]
      have e : (incL c.sights.length (m + 1) 0).map (([] : List Int) ++ ·) = incL c.sights.length (m + 1) 0 := by simp
      rw [e]
      cases hq : (scan (pC c) (incL c.sights.length (m + 1) 0) o).1 with
      | true => rw [if_pos rfl, oc_inr]
      | false => rw [if_neg (by decide), oc_inl]
    · unfold kH
      simp only
      have ih := Zd r hm m FU [(fr : Int)] (fr + 1) o (by unfold FU; omega) (by simp; omega) (by omega)
      rw [if_pos (by omega), addc_eq (by omega), Option.bind_some, KH (by simp), Option.bind_some, appc_eq (by simp), Option.bind_some, show (fr : Int) + 1 = ((fr + 1 : Nat) : Int) by omega]
      show ((jL FU [(fr : Int)] ((fr + 1 : Nat) : Int) ((m + 1 : Nat) : Int) o c.cells c.tides c.fords c.sands c.sights (rchL c)).bind _).bind _ = _
      rw [ih, Option.bind_some, Option.bind_some]
      show (if (scan (pC c) (chunk c.sights.length m [] fr) o).1 = true then _ else _) = _
      split
      · rfl
      · rw [Option.bind_some]; rfl
    · unfold kH
      simp only
      rw [if_neg (by omega)]
end Go.Proofs.Wb

namespace Go.Proofs.Wb
open Go Go.Fw Go.Gx Go.Sb
set_option linter.unusedVariables false
set_option maxRecDepth 100000
def E0 (n : Nat) : List (List Int) := (List.range (n + 1)).flatMap fun k => incL n k 0
def E1 (n : Nat) : List (List Int) := (List.range n).flatMap fun k => incL n (k + 1) 0
theorem find_levels (g : Nat → List (List Int)) (p : List Int → Bool) : ∀ l : List Nat, (l.flatMap g).find? p = match l.find? (fun k => ((g k).find? p).isSome) with | some k => (g k).find? p | none => none
  | [] => rfl
  | k :: l => by
    rw [List.flatMap_cons, List.find?_append, find_levels g p l, List.find?_cons]
    cases h : (g k).find? p with
    | some x => simp [h]
    | none => simp
theorem scan_fst (p : List Int → Bool) (E : List (List Int)) (o : List Int) : (scan p E o).1 = (E.find? p).isSome := by
  obtain ⟨h1, h2⟩ := scan_find p E o
  cases h : (scan p E o).1 with
  | true => rw [h1 h]; rfl
  | false => rw [h2 h]; rfl
theorem scan_snd {p : List Int → Bool} {E : List (List Int)} {o l : List Int} (h : E.find? p = some l) : (scan p E o).2 = l := by
  obtain ⟨h1, h2⟩ := scan_find p E o
  cases hq : (scan p E o).1 with
  | true => rw [h1 hq] at h; exact Option.some.inj h
  | false => rw [h2 hq] at h; cases h
theorem iterM_any0' {ρ : Type} {f : Int → Option (Int ⊕ (Unit ⊕ ρ))} (n : Nat) (bad : Nat → Bool) (e : Nat → ρ) (h1 : ∀ k : Nat, k < n → f (k : Int) = some (if bad k = true then .inr (.inr (e k)) else .inl ((k : Int) + 1))) (h2 : f (n : Int) = some (.inr (.inl ()))) {N : Nat} (hN : n < N) :
    iterM N f 0 = some (match (List.range n).find? bad with | some k => .inr (e k) | none => .inl ()) := iterM_any 0 n bad e (fun k hk => by rw [Int.zero_add]; exact h1 k hk) (by rw [Int.zero_add]; exact h2) hN
theorem Zn {c : Channel} (h : Few c) : zq c = some (if chk c = 0 then ⟨0, ((E0 c.sights.length).find? (pW c)).getD []⟩ else ⟨chk c, []⟩) := by
  unfold zq
  rw [Qx h, Option.bind_some]
  by_cases h0 : chk c = 0
  · have r := rightOf h0
    have hs := r.sights
    rw [if_pos h0, if_pos h0, oc_inr, addc_eq (by omega), Option.bind_some]
    have key := iterM_any0' (f := zw ((c.sights.length : Int) + 1) ⟨c.cells, c.tides, rchL c⟩ c) (c.sights.length + 1) (fun k => ((incL c.sights.length k 0).find? (pW c)).isSome) (fun k => (⟨0, ((incL c.sights.length k 0).find? (pW c)).getD []⟩ : yF)) (fun k hk => ?_) ?_ (N := FU) (FU_lt (by omega))
    · rw [key, Option.bind_some]
      unfold E0
      rw [find_levels]
      cases (List.range (c.sights.length + 1)).find? (fun k => ((incL c.sights.length k 0).find? (pW c)).isSome) with
      | none => simp only [oc_inl]; rfl
      | some k => simp only [oc_inr]
    · unfold zw zc
      have hl := ZR r (many := k) (by omega)
      rw [if_pos (by omega), hl, Option.bind_some, Option.bind_some, scan_fst]
      cases hq : (incL c.sights.length k 0).find? (pW c) with
      | some l => rw [scan_snd hq]; rfl
      | none => rw [addc_eq (by omega)]; rfl
    · unfold zw
      rw [if_neg (by omega)]
  · rw [if_neg h0, if_neg h0, oc_inl]
def outsC (c : Channel) : Nat → List Int
  | 0 => []
  | k + 1 => (scan (pC c) (incL c.sights.length (k + 1) 0) (outsC c k)).2
theorem Zl {c : Channel} (r : Right c) : yd c.cells c.tides c.fords c.sands c.sights (rchL c) = some (decide (0 < cntS tt c)) := by
  have hf := r.fords
  unfold yd
  obtain ⟨ml, e, s1, c1, i1⟩ := YJ r
  rw [e, Option.bind_some, KG (by omega), Option.bind_some]
  obtain ⟨v, hv⟩ := Option.isSome_iff_exists.1 i1
  have h3 := s1 _ _ hv
  show some (decide (0 < (aget ml (first c)).getD 0)) = _
  rw [hv, Option.getD_some, h3]
  have : valR (nxS c) (agS (fun _ => true) c) c.tides (first c) = (cntS tt c : Int) := by
    unfold valR cntS first
    simp
  rw [this]
  congr 1
  rw [Bool.eq_iff_iff, decide_eq_true_eq, decide_eq_true_eq]
  omega
theorem Ya {c : Channel} (h : Few c) : qx c = some (if chk c = 0 then (if 0 < cntS tt c then ⟨6, []⟩ else ⟨0, ((E1 c.sights.length).find? (pC c)).getD (outsC c c.sights.length)⟩) else ⟨chk c, []⟩) := by
  unfold qx
  rw [Qx h, Option.bind_some]
  by_cases h0 : chk c = 0
  · have r := rightOf h0
    have hs := r.sights
    rw [if_pos h0, if_pos h0, oc_inr]
    unfold zD
    rw [Option.bind_some, Zl r, Option.bind_some]
    by_cases h1 : 0 < cntS tt c
    · rw [if_pos (by simpa using h1), if_pos h1]
    · rw [if_neg (by simpa using h1), if_neg h1]
      have key := iterM_find (f := yU c ⟨c.cells, c.tides, rchL c⟩) (fun k => ⟨(k : Int), outsC c k⟩) c.sights.length (fun k => ((incL c.sights.length (k + 1) 0).find? (pC c)).isSome) (fun k => ((incL c.sights.length (k + 1) 0).find? (pC c)).getD []) (outsC c c.sights.length) (fun k hk _ => ?_) ?_ (N := FU) (FU_lt (by omega))
      · have key' : iterM FU (yU c ⟨c.cells, c.tides, rchL c⟩) ⟨0, []⟩ = _ := key
        rw [key', Option.bind_some]
        unfold E1
        rw [find_levels (fun k => incL c.sights.length (k + 1) 0)]
        cases hq : (List.range c.sights.length).find? (fun k => ((incL c.sights.length (k + 1) 0).find? (pC c)).isSome) with
        | none => rfl
        | some k =>
          have h2 := List.find?_some hq
          obtain ⟨l, hl⟩ := Option.isSome_iff_exists.1 h2
          simp only [hl]
          rfl
      · unfold yU zl
        have hl := ZT r (many := k + 1) (by omega) (outsC c k)
        simp only
        rw [if_pos (by omega), addc_eq (by omega), Option.bind_some, show (k : Int) + 1 = ((k + 1 : Nat) : Int) by omega, hl, Option.bind_some, Option.bind_some, scan_fst]
        cases hq : (incL c.sights.length (k + 1) 0).find? (pC c) with
        | some l => rw [scan_snd hq]; rfl
        | none => rfl
      · unfold yU
        simp only
        rw [if_neg (by omega)]
  · rw [if_neg h0, if_neg h0, oc_inl]
theorem cnt_congr {c : Channel} {c1 c2 : Nat → Bool} (h : ∀ i, i < c.sights.length → c1 i = c2 i) : cntS c1 c = cntS c2 c := by
  unfold cntS
  have : agS c1 c = agS c2 c := by
    funext s
    exact agP_congr h
  rw [this]
theorem canB_self {c : Channel} (r : Right c) (l : List Int) : canB c.sands l l = true := by
  unfold canB
  rw [List.all_eq_true]
  intro i _
  rw [inb_iff]
  have := rchC_bounds (x := l.getD i (-1)) r.reach
  omega
theorem stay_pos {c : Channel} (r : Right c) (h : c.sights.length = 0) : 0 < cntS tt c := by
  have hc := r.cells
  have hag : ∀ k l, agP tt c.sights k l = true := by
    intro k l
    rw [agP_iff, h]
    intro i hi
    omega
  have hmem : c.fords ∈ LL c := (mem_LL (by omega)).2 (rowB_iff.2 ⟨rfl, r.up, r.fcell⟩)
  have key : ∀ k, 0 < FcL tt c k c.fords := by
    intro k
    induction k with
    | zero => rw [FcL, if_pos ⟨hag _ _, rfl⟩]; omega
    | succ k ih => exact FcL_succ_pos.2 ⟨hag _ _, c.fords, hmem, canB_self r _, ih⟩
  rw [cntS_sum r]
  exact sumN_pos.2 ⟨c.fords, hmem, key _⟩
end Go.Proofs.Wb

namespace Go.Proofs.Wb
open Go Go.Fw Go.Gx Go.Sb
set_option linter.unusedVariables false
set_option maxRecDepth 100000
def HOK (l : List Int) (p : Int) : Prop := 0 ≤ p ∧ (p < (l.length : Int) ∨ p = 0)
theorem pick_ok {l : List Int} {p r : Int} (hl : l.length ≤ 9223372036854775807) (hp : HOK l p) : ∃ x, Jd l p r = some x ∧ (0 ≤ x.r0 ∧ x.r0 ≤ 32767) ∧ HOK l x.h0_1 := by
  obtain ⟨h0, h1⟩ := hp
  unfold Jd
  have e1 : addc p 1 = some (p + 1) := addc_eq (by omega)
  by_cases hlt : p < (l.length : Int)
  · rw [if_pos hlt, ix_eq 0 h0 hlt, e1]
    simp only [Option.bind_some]
    by_cases hge : (l.length : Int) ≤ p + 1
    · rw [if_pos hge]
      exact ⟨_, rfl, Go.Fw.and_bound _ _ rfl, Int.le_refl _, .inr rfl⟩
    · rw [if_neg hge]
      exact ⟨_, rfl, Go.Fw.and_bound _ _ rfl, by simp only; omega, .inl (by simp only; omega)⟩
  · rw [if_neg hlt, e1]
    simp only [Option.bind_some]
    by_cases hge : (l.length : Int) ≤ p + 1
    · rw [if_pos hge]
      exact ⟨_, rfl, Go.Fw.and_bound _ _ rfl, Int.le_refl _, .inr rfl⟩
    · rw [if_neg hge]
      exact ⟨_, rfl, Go.Fw.and_bound _ _ rfl, by simp only; omega, .inl (by simp only; omega)⟩
theorem upto_ok {l : List Int} {p r n : Int} (hl : l.length ≤ 9223372036854775807) (hp : HOK l p) (hn : -1000000 ≤ n ∧ n ≤ 1000000) : ∃ x, jU l p r n = some x ∧ (0 ≤ x.r0 ∧ x.r0 ≤ max 0 n) ∧ HOK l x.h0_1 := by
  obtain ⟨x, hx, hb, hk⟩ := pick_ok (r := r) hl hp
  unfold jU
  rw [hx, Option.bind_some, addc_eq (by omega), Option.bind_some, remc_eq (by omega), Option.bind_some]
  refine ⟨_, rfl, ?_, hk⟩
  have h1 := Int.tmod_nonneg (max 1 (n + 1)) hb.1
  have h2 := Int.tmod_lt_of_pos x.r0 (show 0 < max 1 (n + 1) by omega)
  simp only
  omega
theorem from_ok {l : List Int} {p r lo hi : Int} (hl : l.length ≤ 9223372036854775807) (hp : HOK l p) (hn : (-400000 ≤ lo ∧ lo ≤ 400000) ∧ -400000 ≤ hi ∧ hi ≤ 400000) : ∃ x, yY l p r lo hi = some x ∧ (lo ≤ x.r0 ∧ x.r0 ≤ max lo hi) ∧ HOK l x.h0_1 := by
  unfold yY
  rw [subc_eq (by omega), Option.bind_some]
  obtain ⟨x, hx, hb, hk⟩ := upto_ok (r := r) (n := hi - lo) hl hp (by omega)
  rw [hx, Option.bind_some, addc_eq (by omega), Option.bind_some]
  exact ⟨_, rfl, by simp only; omega, hk⟩
theorem once_ok {l : List Int} {p r n : Int} (hl : l.length ≤ 9223372036854775807) (hp : HOK l p) (hn : -400000 ≤ n ∧ n ≤ 400000) : ∃ x, zA l p r n = some x ∧ HOK l x.h0_1 := by
  unfold zA
  rw [subc_eq (by omega), Option.bind_some]
  obtain ⟨x, hx, hb, hk⟩ := upto_ok (r := r) (n := n - 1) hl hp (by omega)
  rw [hx, Option.bind_some]
  exact ⟨_, rfl, hk⟩
def IsOrd (n : Nat) (l : List Int) : Prop := l.Perm ((List.range n).map fun k : Nat => (k : Int))
theorem ins_ok {l : List Int} {i v : Int} (h0 : 0 ≤ i) (h1 : i ≤ (l.length : Int)) (hl : l.length ≤ 1000) : z7 l i [v] = some (l.take i.toNat ++ [v] ++ l.drop i.toNat) := by
  unfold z7
  rw [if_pos ⟨h0, h1, by simp, by simp; omega⟩]
theorem IsOrd.len {n : Nat} {l : List Int} (h : IsOrd n l) : l.length = n := by
  have := List.Perm.length_eq h
  simpa using this
theorem IsOrd.ins {n : Nat} {l : List Int} (h : IsOrd n l) (i : Nat) : IsOrd (n + 1) (l.take i ++ [(n : Int)] ++ l.drop i) := by
  unfold IsOrd
  rw [List.range_succ, List.map_append]
  have e : l.take i ++ [(n : Int)] ++ l.drop i = l.take i ++ (n : Int) :: l.drop i := by simp
  rw [e]
  refine List.perm_middle.trans ?_
  rw [List.take_append_drop]
  refine (List.Perm.cons _ h).trans ?_
  exact (List.perm_append_singleton _ _).symm
theorem order_ok {l : List Int} (hl : l.length ≤ 9223372036854775807) {p r : Int} {n : Nat} (hp : HOK l p) (hn : n ≤ 900) : ∃ x, yG l p r (n : Int) = some x ∧ HOK l x.h0_1 ∧ IsOrd n x.r0 := by
  unfold yG
  have key : ∃ o, iterM FU (yX (n : Int) l) ⟨0, p, r, []⟩ = some o ∧ HOK l o.h0_1 ∧ IsOrd n o.out5 := by
    refine iterM_inv (f := yX (n : Int) l) (fun s => ∃ j : Nat, s.t9 = (j : Int) ∧ j ≤ n ∧ HOK l s.h0_1 ∧ IsOrd j s.out5) (fun s => ((n : Int) - s.t9).toNat) _ (fun s hs => ?_) FU _ (FU_lt (by simp only; omega)) ⟨0, rfl, by omega, hp, List.Perm.refl _⟩
    obtain ⟨j, hj, hjn, hk, ho⟩ := hs
    unfold yX
    rw [hj]
    by_cases hlt : j < n
    · left
      obtain ⟨x, hx, hb, hk2⟩ := upto_ok (r := s.h0_2) (n := (j : Int)) hl hk (by omega)
      have hlen := ho.len
      rw [if_pos (by omega), hx, Option.bind_some, ins_ok hb.1 (by omega) (by omega), Option.bind_some, addc_eq (by omega), Option.bind_some]
      exact ⟨_, rfl, ⟨j + 1, by push_cast; rfl, hlt, hk2, ho.ins _⟩, by simp only; omega⟩
    · right
      rw [if_neg (by omega)]
      have : j = n := by omega
      subst this
      exact ⟨_, rfl, hk, ho⟩
  obtain ⟨o, h1, h2, h3⟩ := key
  rw [h1, Option.bind_some]
  exact ⟨_, rfl, h2, h3⟩
theorem chk_right {c : Channel} (r : Right c) (h8 : c.sights.length ≤ 8) : chk c = 0 := by
  unfold chk
  have h1 : okMany c = true := okMany_iff.2 ⟨r.cells, r.tides, r.fords, r.sands, h8⟩
  have h2 : okLimit c = true := by
    simp only [okLimit, Bool.and_eq_true, List.all_eq_true, inb_iff]
    exact ⟨r.reach, r.after⟩
  have h3 : okMiss c = true := by
    simp only [okMiss, Bool.and_eq_true, List.all_eq_true, inb_iff]
    refine ⟨⟨fun x hx => ?_, fun s hs => ?_⟩, fun s hs => ?_⟩
    · have := r.fcell x hx; omega
    · have := r.span s hs; omega
    · have := r.scell s hs; omega
  have h4 : okOrder c = true := by
    simp only [okOrder, Bool.and_eq_true, List.all_eq_true, decide_eq_true_eq]
    exact ⟨r.up, fun s hs => (r.span s hs).2.2⟩
  rw [if_pos h1, if_pos h2, if_pos h3, if_pos h4]
theorem lawReach_eq {c : Channel} (h : c.sands.length ≤ 100) (x : Int) : yi c x = some (rchC c.sands x) := by
  unfold yi
  have key := iterM_run (f := yb c x) (fun j => ⟨rchC (c.sands.take j) x, (j : Int)⟩) c.sands.length (b := rchC c.sands x) (fun j hj => ?_) ?_ FU (FU_lt (by omega))
  · simp only [List.take_zero] at key
    rw [show (⟨0, 0⟩ : ya) = ⟨rchC [] x, ((0 : Nat) : Int)⟩ from rfl, key]
    rfl
  · have e : c.sands.take (j + 1) = c.sands.take j ++ [c.sands[j]] := by rw [List.take_append_getElem]
    have hx : c.sands.getD j default = c.sands[j] := by simp [List.getD_eq_getElem?_getD, hj]
    unfold yb
    simp only
    rw [if_pos (by omega), ix_nat default hj, Option.bind_some, hx, e, rchC_snoc, addc_eq (by omega)]
    unfold stepR
    by_cases h1 : c.sands[j].span.lo ≤ x
    · rw [if_pos h1, Option.bind_some]
      by_cases h2 : x ≤ c.sands[j].span.hi
      · rw [if_pos (decide_eq_true h2), if_pos ⟨h1, h2⟩]; rfl
      · rw [if_neg (by simpa using h2), if_neg (fun q => h2 q.2)]; rfl
    · rw [if_neg h1, Option.bind_some, if_neg (by decide), if_neg (fun q => h1 q.1)]; rfl
  · unfold yb
    simp only
    rw [if_neg (by omega), List.take_length]
def freeB (cells : Int) (r0 : List Int) (i : Nat) (v : Int) : Bool := decide (0 ≤ v) && (decide (v < cells) && ((decide (i = 0) || decide (r0.getD (i - 1) (-1) < v)) && (decide (i + 1 = r0.length) || decide (v < r0.getD (i + 1) (-1)))))
theorem cond_eq {v cells : Int} {i : Nat} {r0 : List Int} (hi : i < r0.length) (hn : r0.length ≤ 1000) : (if 0 ≤ v then
 (if v < cells then
 (if (i : Int) = 0 then
 ((subc (r0.length : Int) 1).bind fun t82 =>
 if (i : Int) = t82 then
 (some true) else
 ((addc (i : Int) 1).bind fun t88 =>
 (ix r0 t88).bind fun t89 =>
 some (decide (v < t89)))) else
 ((subc (i : Int) 1).bind fun t72 =>
 (ix r0 t72).bind fun t73 =>
 if t73 < v then
 ((subc (r0.length : Int) 1).bind fun t82_1 =>
 if (i : Int) = t82_1 then
 (some true) else
 ((addc (i : Int) 1).bind fun t88_1 =>
 (ix r0 t88_1).bind fun t89_1 =>
 some (decide (v < t89_1)))) else
 (some false))) else
 (some false)) else
 (some false) : Option Bool) = some (freeB cells r0 i v) := by
  have tail : ((subc (r0.length : Int) 1).bind fun t82 => if (i : Int) = t82 then (some true) else ((addc (i : Int) 1).bind fun t88 => (ix r0 t88).bind fun t89 => some (decide (v < t89)))) = some (decide (i + 1 = r0.length) || decide (v < r0.getD (i + 1) (-1))) := by
    rw [subc_eq (by omega), Option.bind_some]
    by_cases h : i + 1 = r0.length
    · rw [if_pos (by omega), decide_eq_true h, Bool.true_or]
    · rw [if_neg (by omega), addc_eq (by omega), Option.bind_some, show (i : Int) + 1 = ((i + 1 : Nat) : Int) by omega, ix_nat (-1) (by omega), Option.bind_some, decide_eq_false h, Bool.false_or]
  unfold freeB
  by_cases h1 : 0 ≤ v
  · rw [if_pos h1, decide_eq_true h1, Bool.true_and]
    by_cases h2 : v < cells
    · rw [if_pos h2, decide_eq_true h2, Bool.true_and, tail]
      by_cases h3 : i = 0
      · rw [if_pos (by omega), decide_eq_true h3, Bool.true_or, Bool.true_and]
      · rw [if_neg (by omega), subc_eq (by omega), Option.bind_some, show (i : Int) - 1 = ((i - 1 : Nat) : Int) by omega, ix_nat (-1) (by omega), Option.bind_some, decide_eq_false h3, Bool.false_or]
        by_cases h4 : r0.getD (i - 1) (-1) < v
        · rw [if_pos h4, decide_eq_true h4, Bool.true_and]
        · rw [if_neg h4, decide_eq_false h4, Bool.false_and]
    · rw [if_neg h2, decide_eq_false h2, Bool.false_and]
  · rw [if_neg h1, decide_eq_false h1, Bool.false_and]
theorem getD_set {l : List Int} {i j : Nat} {v d : Int} (hi : i < l.length) : (l.set i v).getD j d = if j = i then v else l.getD j d := by
  rw [List.getD_eq_getElem?_getD, List.getElem?_set, List.getD_eq_getElem?_getD]
  by_cases h : i = j
  · subst h; simp [hi]
  · rw [if_neg h, if_neg (fun e => h e.symm)]
theorem row_set {c : Channel} {a b : List Int} (hb : rowB c b = true) (hab : a.length = b.length) (hc : canB c.sands a b = true) {i : Nat} (hi : i < b.length) {v : Int} (hf : freeB c.cells b i v = true) (hv : a.getD i (-1) - rchC c.sands (a.getD i (-1)) ≤ v ∧ v ≤ a.getD i (-1) + rchC c.sands (a.getD i (-1))) : rowB c (b.set i v) = true ∧ canB c.sands a (b.set i v) = true := by
  unfold freeB at hf
  simp only [Bool.and_eq_true, Bool.or_eq_true, decide_eq_true_eq] at hf
  obtain ⟨f1, f2, f3, f4⟩ := hf
  obtain ⟨b1, b2, b3⟩ := rowB_iff.1 hb
  constructor
  · refine rowB_iff.2 ⟨by rw [List.length_set]; exact b1, upB_ix.2 fun j hj => ?_, fun x hx => ?_⟩
    · rw [List.length_set] at hj
      rw [getD_set hi, getD_set hi]
      have hb' := upB_ix.1 b2 j hj
      by_cases h1 : j = i
      · subst h1
        rw [if_pos rfl, if_neg (by omega)]
        rcases f4 with f4 | f4
        · omega
        · exact f4
      · rw [if_neg h1]
        by_cases h2 : j + 1 = i
        · rw [if_pos h2]
          rcases f3 with f3 | f3
          · omega
          · rw [← h2, Nat.add_sub_cancel] at f3; exact f3
        · rw [if_neg h2]; exact hb'
    · rcases List.mem_or_eq_of_mem_set hx with h | h
      · exact b3 x h
      · omega
  · unfold canB at hc ⊢
    rw [List.all_eq_true] at hc ⊢
    intro j hj
    have h0 := hc j hj
    rw [getD_set hi]
    by_cases h1 : j = i
    · subst h1
      rw [if_pos rfl, inb_iff]
      omega
    · rw [if_neg h1]; exact h0
theorem walk_L1 {l : List Int} (hl : l.length ≤ 9223372036854775807) {c : Channel} (r : Right c) {a : List Int} (ha : rowB c a = true) {t : kX} (ho : IsOrd a.length t.r0) {p q : Int} (hp : HOK l p) :
    ∃ o, iterM FU (qu t a c l) ⟨0, p, q, a⟩ = some o ∧ HOK l o.b0_1 ∧ rowB c o.r0 = true ∧ canB c.sands a o.r0 = true := by
  have hc := r.cells
  have hf := r.fords
  have hs := r.sands
  have hlen := ho.len
  obtain ⟨a1, a2, a3⟩ := rowB_iff.1 ha
  refine iterM_inv (f := qu t a c l) (fun s => (0 ≤ s.t33 ∧ s.t33 ≤ (t.r0.length : Int)) ∧ HOK l s.b0_1 ∧ rowB c s.r0 = true ∧ canB c.sands a s.r0 = true) (fun s => ((t.r0.length : Int) - s.t33).toNat) _ (fun s hs => ?_) FU _ (FU_lt (by simp only; omega)) ⟨by simp only; omega, hp, ha, canB_self r a⟩
  obtain ⟨h0, hk, hr, hcn⟩ := hs
  obtain ⟨b1, b2, b3⟩ := rowB_iff.1 hr
  unfold qu
  by_cases hlt : s.t33 < (t.r0.length : Int)
  · left
    have hm : t.r0.getD s.t33.toNat 0 ∈ t.r0 := getD_mem (by omega)
    obtain ⟨i, hi, he⟩ := List.mem_map.1 ((List.Perm.mem_iff ho).1 hm)
    have hi' : i < a.length := by simpa using hi
    have h1 := a3 _ (getD_mem (d := -1) hi')
    have h2 := rchC_bounds (x := a.getD i (-1)) r.reach
    obtain ⟨x, hx, hb, hk2⟩ := from_ok (r := s.b0_2) (lo := -rchC c.sands (a.getD i (-1))) (hi := rchC c.sands (a.getD i (-1))) hl hk (by omega)
    have hneg : negc (rchC c.sands (a.getD i (-1))) = some (-rchC c.sands (a.getD i (-1))) := negc_eq (by omega)
    rw [if_pos hlt, ix_eq 0 h0.1 hlt, Option.bind_some, ← he, ix_nat (-1) hi']
    simp only [Option.bind_some]
    rw [lawReach_eq (by omega)]
    simp only [Option.bind_some]
    rw [hneg]
    simp only [Option.bind_some]
    rw [hx]
    simp only [Option.bind_some]
    rw [addc_eq (by omega)]
    simp only [Option.bind_some]
    rw [cond_eq (by omega) (by omega), addc_eq (by omega)]
    simp only [Option.bind_some]
    by_cases hfr : freeB c.cells s.r0 i (a.getD i (-1) + x.r0) = true
    · rw [if_pos hfr, ix_nat (-1) (by omega)]
      simp only [Option.bind_some, Int.toNat_natCast]
      obtain ⟨g1, g2⟩ := row_set hr (by omega) hcn (by omega) hfr (by omega)
      exact ⟨_, rfl, ⟨by simp only; omega, hk2, g1, g2⟩, by simp only; omega⟩
    · rw [if_neg hfr]
      simp only [Option.bind_some]
      exact ⟨_, rfl, ⟨by simp only; omega, hk2, hr, hcn⟩, by simp only; omega⟩
  · right
    rw [if_neg hlt]
    exact ⟨_, rfl, hk, hr, hcn⟩
structure WalkC (c : Channel) (n : Nat) (crs : List (List Int)) : Prop where
  len : crs.length = n + 1
  fst : crs.getD 0 [] = c.fords
  row : ∀ k, k ≤ n → rowB c (crs.getD k []) = true
  can : ∀ k, k < n → canB c.sands (crs.getD k []) (crs.getD (k + 1) []) = true
theorem getD_snoc {α : Type} {l : List α} {x d : α} {k : Nat} : (l ++ [x]).getD k d = if k < l.length then l.getD k d else if k = l.length then x else d := by
  rw [List.getD_eq_getElem?_getD, List.getD_eq_getElem?_getD]
  by_cases h : k < l.length
  · rw [if_pos h, List.getElem?_append_left h]
  · rw [if_neg h]
    by_cases h2 : k = l.length
    · rw [if_pos h2]; subst h2; simp
    · rw [if_neg h2, List.getElem?_eq_none (by simp; omega)]; rfl
theorem WalkC.snoc {c : Channel} {n : Nat} {crs : List (List Int)} (h : WalkC c n crs) {b : List Int} (hb : rowB c b = true) (hc : canB c.sands (crs.getD n []) b = true) : WalkC c (n + 1) (crs ++ [b]) := by
  have hl := h.len
  refine ⟨by simp; omega, ?_, fun k hk => ?_, fun k hk => ?_⟩
  · rw [getD_snoc, if_pos (by omega)]; exact h.fst
  · rw [getD_snoc]
    by_cases h1 : k < crs.length
    · rw [if_pos h1]; exact h.row k (by omega)
    · rw [if_neg h1, if_pos (by omega)]; exact hb
  · rw [getD_snoc, getD_snoc, if_pos (by omega)]
    by_cases h1 : k + 1 < crs.length
    · rw [if_pos h1]; exact h.can k (by omega)
    · rw [if_neg h1, if_pos (by omega)]
      obtain rfl : k = n := by omega
      exact hc
theorem walked_ok {l : List Int} (hl : l.length ≤ 9223372036854775807) {c : Channel} (r : Right c) {p q : Int} (hp : HOK l p) : ∃ x, yg l p q c = some x ∧ HOK l x.b0_1 ∧ WalkC c c.tides.toNat x.r0 := by
  have ht := r.tides
  have hf := r.fords
  have hrow : rowB c c.fords = true := rowB_iff.2 ⟨rfl, r.up, r.fcell⟩
  unfold yg
  rw [Y2 (by omega), Option.bind_some]
  have key : ∃ o, iterM FU (qz c l) ⟨0, p, q, [c.fords]⟩ = some o ∧ HOK l o.b0_1 ∧ WalkC c c.tides.toNat o.out5 := by
    refine iterM_inv (f := qz c l) (fun s => (0 ≤ s.t17 ∧ s.t17 ≤ c.tides) ∧ HOK l s.b0_1 ∧ WalkC c s.t17.toNat s.out5) (fun s => (c.tides - s.t17).toNat) _ (fun s hs => ?_) FU _ (FU_lt (by simp only; omega)) ⟨by simp only; omega, hp, ⟨rfl, rfl, fun k hk => ?_, fun k hk => ?_⟩⟩
    · obtain ⟨h0, hk, hw⟩ := hs
      unfold qz
      by_cases hlt : s.t17 < c.tides
      · left
        have hlen := hw.len
        have ha := hw.row s.t17.toNat (Nat.le_refl _)
        have ha' := (rowB_iff.1 ha).1
        rw [if_pos hlt, subc_eq (by omega), Option.bind_some, ix_eq [] (by omega) (by omega), Option.bind_some, show ((s.out5.length : Int) - 1).toNat = s.t17.toNat by omega, Y2 (by omega), Option.bind_some, Y2 (by omega), Option.bind_some]
        obtain ⟨t, h1, h2, h3⟩ := order_ok (r := s.b0_2) (n := (s.out5.getD s.t17.toNat []).length) hl hk (by omega)
        rw [h1, Option.bind_some]
        obtain ⟨o, g1, g2, g3, g4⟩ := walk_L1 (q := t.h0_2) hl r ha h3 h2
        rw [g1, Option.bind_some, appc_eq (by simp; omega), Option.bind_some, addc_eq (by omega), Option.bind_some]
        refine ⟨_, rfl, ⟨by simp only; omega, g2, ?_⟩, by simp only; omega⟩
        have := hw.snoc g3 g4
        simp only
        rw [show (s.t17 + 1).toNat = s.t17.toNat + 1 by omega]
        exact this
      · right
        rw [if_neg hlt]
        refine ⟨_, rfl, hk, ?_⟩
        rw [show c.tides.toNat = s.t17.toNat by omega]
        exact hw
    · have hk0 : k = 0 := by simpa using hk
      subst hk0
      exact hrow
    · simp at hk
  obtain ⟨o, h1, h2, h3⟩ := key
  rw [h1, Option.bind_some]
  exact ⟨_, rfl, h2, h3⟩
end Go.Proofs.Wb

namespace Go.Proofs.Wb
open Go Go.Fw Go.Gx Go.Sb
set_option linter.unusedVariables false
set_option maxRecDepth 100000
structure MadeC (c : Channel) (cells fords tides : Int) : Prop where
  right : Right c
  none : c.sights = []
  cells : 3 ≤ c.cells ∧ c.cells ≤ cells
  fords : (c.fords.length : Int) ≤ fords
  tides : c.tides ≤ tides
theorem upB_snoc {f : List Int} {v : Int} (h : upB f = true) (hv : ∀ x ∈ f, x < v) : upB (f ++ [v]) = true := by
  rw [upB_ix] at *
  intro i hi
  rw [List.length_append, List.length_singleton] at hi
  rw [getD_snoc, getD_snoc, if_pos (by omega)]
  by_cases h1 : i + 1 < f.length
  · rw [if_pos h1]; exact h i h1
  · rw [if_neg h1, if_pos (by omega)]
    exact hv _ (getD_mem (by omega))
theorem made_L0 {l : List Int} (hl : l.length ≤ 9223372036854775807) {t : yl} (ht : 3 ≤ t.r0 ∧ t.r0 ≤ 9) {f : Int} (hf : 1 ≤ f ∧ f ≤ 3) {p q : Int} (hp : HOK l p) :
    ∃ o, iterM FU (qM t f l) ⟨0, p, q, []⟩ = some o ∧ HOK l o.b0_1 ∧ upB o.c10_fords = true ∧ (∀ x ∈ o.c10_fords, 0 ≤ x ∧ x < t.r0) ∧ 1 ≤ o.c10_fords.length ∧ (o.c10_fords.length : Int) ≤ f := by
  refine iterM_inv (f := qM t f l) (fun s => (0 ≤ s.t22 ∧ s.t22 ≤ t.r0) ∧ HOK l s.b0_1 ∧ upB s.c10_fords = true ∧ (∀ x ∈ s.c10_fords, 0 ≤ x ∧ x < s.t22) ∧ (s.c10_fords.length : Int) ≤ f ∧ (s.t22 = t.r0 → 1 ≤ s.c10_fords.length)) (fun s => (t.r0 - s.t22).toNat) _ (fun s hs => ?_) FU _ (FU_lt (by simp only; omega)) ⟨by simp only; omega, hp, rfl, by simp, by simp only; simp; omega, fun h => by simp only at h; omega⟩
  obtain ⟨h0, hk, hu, hx, hlen, hne⟩ := hs
  unfold qM
  by_cases hlt : s.t22 < t.r0
  · left
    rw [if_pos hlt, addc_eq (by omega)]
    -- with this cell
    have yes : ∀ (b1 b2 : Int), HOK l b1 → (s.c10_fords.length : Int) < f → ∃ s', ((appc 8 s.c10_fords [s.t22]).bind fun t51 => some (⟨b1, b2, t51⟩ : yO)).bind (fun o_1 => (some (s.t22 + 1)).bind fun t53 => some (Sum.inl (⟨t53, o_1.b0_1, o_1.b0_2, o_1.c10_fords⟩ : j5) : j5 ⊕ yQ)) = some (.inl s') ∧ ((0 ≤ s'.t22 ∧ s'.t22 ≤ t.r0) ∧ HOK l s'.b0_1 ∧ upB s'.c10_fords = true ∧ (∀ x ∈ s'.c10_fords, 0 ≤ x ∧ x < s'.t22) ∧ (s'.c10_fords.length : Int) ≤ f ∧ (s'.t22 = t.r0 → 1 ≤ s'.c10_fords.length)) ∧ (t.r0 - s'.t22).toNat < (t.r0 - s.t22).toNat := by
      intro b1 b2 hb hff
      rw [appc_eq (by simp; omega)]
      simp only [Option.bind_some]
      refine ⟨_, rfl, ⟨by simp only; omega, hb, upB_snoc hu (fun x hx' => (hx x hx').2), fun x hx' => ?_, by simp; omega, fun _ => by simp⟩, by simp only; omega⟩
      simp only
      rcases List.mem_append.1 hx' with h | h
      · have := hx x h; omega
      · rw [List.mem_singleton] at h; omega
    have no : ∀ (b1 b2 : Int), HOK l b1 → (s.t22 + 1 = t.r0 → 1 ≤ s.c10_fords.length) → ∃ s', (some (⟨b1, b2, s.c10_fords⟩ : yO)).bind (fun o_1 => (some (s.t22 + 1)).bind fun t53 => some (Sum.inl (⟨t53, o_1.b0_1, o_1.b0_2, o_1.c10_fords⟩ : j5) : j5 ⊕ yQ)) = some (.inl s') ∧ ((0 ≤ s'.t22 ∧ s'.t22 ≤ t.r0) ∧ HOK l s'.b0_1 ∧ upB s'.c10_fords = true ∧ (∀ x ∈ s'.c10_fords, 0 ≤ x ∧ x < s'.t22) ∧ (s'.c10_fords.length : Int) ≤ f ∧ (s'.t22 = t.r0 → 1 ≤ s'.c10_fords.length)) ∧ (t.r0 - s'.t22).toNat < (t.r0 - s.t22).toNat := by
      intro b1 b2 hb hff
      simp only [Option.bind_some]
      exact ⟨_, rfl, ⟨by simp only; omega, hb, hu, fun x hx' => by have := hx x hx'; simp only; omega, hlen, hff⟩, by simp only; omega⟩
    by_cases h1 : (s.c10_fords.length : Int) < f
    · obtain ⟨x, hx', hk2⟩ := once_ok (r := s.b0_2) (n := 3) hl hk (by omega)
      rw [if_pos h1, hx', Option.bind_some]
      by_cases h2 : x.r0 = true
      · rw [if_pos h2, Option.bind_some, if_pos rfl]
        exact yes _ _ hk2 h1
      · rw [if_neg h2, subc_eq (by omega), Option.bind_some]
        by_cases h3 : s.t22 = t.r0 - 1
        · rw [if_pos h3, Option.bind_some]
          by_cases h4 : (s.c10_fords.length : Int) = 0
          · rw [if_pos (decide_eq_true h4)]
            exact yes _ _ hk2 h1
          · rw [if_neg (by simpa using h4)]
            exact no _ _ hk2 (fun _ => by omega)
        · rw [if_neg h3, Option.bind_some, if_neg Bool.false_ne_true]
          exact no _ _ hk2 (fun q => by omega)
    · rw [if_neg h1, Option.bind_some, if_neg Bool.false_ne_true]
      exact no _ _ hk (fun _ => by omega)
  · right
    rw [if_neg hlt]
    have : s.t22 = t.r0 := by omega
    exact ⟨_, rfl, hk, hu, fun x hx' => by have := hx x hx'; omega, hne this, hlen⟩
theorem made_L1 {l : List Int} (hl : l.length ≤ 9223372036854775807) {t : yl} (ht : 3 ≤ t.r0 ∧ t.r0 ≤ 9) {u : yV} (hu : 0 ≤ u.r0 ∧ u.r0 ≤ 4) {p q : Int} (hp : HOK l p) :
    ∃ o, iterM FU (qS u t l) ⟨0, p, q, []⟩ = some o ∧ HOK l o.b0_1 ∧ o.c10_sands.length ≤ 4 ∧ ∀ s ∈ o.c10_sands, (1 ≤ s.reach ∧ s.reach ≤ 2) ∧ 0 ≤ s.span.lo ∧ s.span.hi < t.r0 ∧ s.span.lo ≤ s.span.hi := by
  refine iterM_inv (f := qS u t l) (fun s => (0 ≤ s.t56 ∧ s.t56 ≤ u.r0) ∧ HOK l s.b0_1 ∧ (s.c10_sands.length : Int) = s.t56 ∧ ∀ w ∈ s.c10_sands, (1 ≤ w.reach ∧ w.reach ≤ 2) ∧ 0 ≤ w.span.lo ∧ w.span.hi < t.r0 ∧ w.span.lo ≤ w.span.hi) (fun s => (u.r0 - s.t56).toNat) _ (fun s hs => ?_) FU _ (FU_lt (by simp only; omega)) ⟨by simp only; omega, hp, rfl, by simp⟩
  obtain ⟨h0, hk, hlen, hx⟩ := hs
  unfold qS
  by_cases hlt : s.t56 < u.r0
  · left
    rw [if_pos hlt, subc_eq (by omega), Option.bind_some]
    obtain ⟨x, hx1, hb1, hk1⟩ := upto_ok (r := s.b0_2) (n := t.r0 - 1) hl hk (by omega)
    rw [hx1, Option.bind_some, Option.bind_some]
    obtain ⟨y, hy1, hb2, hk2⟩ := upto_ok (r := x.h0_2) (n := 4) hl hk1 (by omega)
    rw [hy1, Option.bind_some, addc_eq (by omega), Option.bind_some]
    obtain ⟨z, hz1, hb3, hk3⟩ := from_ok (r := y.h0_2) (lo := 1) (hi := 2) hl hk2 (by omega)
    rw [hz1, Option.bind_some, appc_eq (by simp; omega), Option.bind_some, Option.bind_some, addc_eq (by omega), Option.bind_some]
    refine ⟨_, rfl, ⟨by simp only; omega, hk3, by simp; omega, fun w hw => ?_⟩, by simp only; omega⟩
    rcases List.mem_append.1 hw with h | h
    · exact hx w h
    · rw [List.mem_singleton] at h
      subst h
      simp only
      omega
  · right
    rw [if_neg hlt]
    exact ⟨_, rfl, hk, by simp only; omega, hx⟩
theorem made_ok {l : List Int} (hl : l.length ≤ 9223372036854775807) {p q cells fords tides : Int} (hp : HOK l p) (hc : 3 ≤ cells ∧ cells ≤ 9) (hf : 1 ≤ fords ∧ fords ≤ 3) (ht : 0 ≤ tides ∧ tides ≤ 4) : ∃ x, q3 l p q cells fords tides = some x ∧ HOK l x.b0_1 ∧ MadeC x.r0 cells fords tides ∧ WalkC x.r0 x.r0.tides.toNat x.r1 := by
  unfold q3
  obtain ⟨x, hx, hb, hk⟩ := from_ok (r := q) (lo := 3) (hi := cells) hl hp (by omega)
  rw [hx, Option.bind_some]
  obtain ⟨y, hy, hb2, hk2⟩ := upto_ok (r := x.h0_2) (n := tides) hl hk (by omega)
  rw [hy, Option.bind_some]
  obtain ⟨o, ho, hk3, o1, o2, o3, o4⟩ := made_L0 (q := y.h0_2) (t := x) hl (by omega) hf hk2
  rw [ho, Option.bind_some]
  obtain ⟨u, hu, hb4, hk4⟩ := upto_ok (r := o.b0_2) (n := 4) hl hk3 (by omega)
  rw [hu, Option.bind_some]
  obtain ⟨v, hv, hk5, v1, v2⟩ := made_L1 (q := u.h0_2) (t := x) (u := u) hl (by omega) (by omega) hk4
  rw [hv, Option.bind_some]
  have r : Right ⟨x.r0, y.r0, o.c10_fords, v.c10_sands, []⟩ := ⟨by simp only; omega, by simp only; omega, by simp only; omega, v1, by simp, fun s hs => (v2 s hs).1, by simp, o2, fun s hs => (v2 s hs).2, by simp, o1⟩
  obtain ⟨w, hw, hk6, w1⟩ := walked_ok (q := v.b0_2) hl r hk5
  rw [hw, Option.bind_some]
  exact ⟨_, rfl, hk6, ⟨r, rfl, by simp only; omega, by simp only; omega, by simp only; omega⟩, w1⟩
structure SeenC (c : Channel) (crs : List (List Int)) (s : Sight) : Prop where
  after : 0 ≤ s.after ∧ s.after ≤ c.tides
  cell : 0 ≤ s.cell ∧ s.cell < c.cells
  up : s.upright = decide (s.cell ∈ crs.getD s.after.toNat [])
theorem seen_ok {l : List Int} (hl : l.length ≤ 9223372036854775807) {c : Channel} (r : Right c) {crs : List (List Int)} (hw : WalkC c c.tides.toNat crs) {p q most : Int} (hp : HOK l p) (hm : 0 ≤ most ∧ most ≤ 8) : ∃ x, qX l p q c crs most = some x ∧ HOK l x.b0_1 ∧ (x.r0.length : Int) ≤ most ∧ ∀ s ∈ x.r0, SeenC c crs s := by
  have hc := r.cells
  have hf := r.fords
  have ht := r.tides
  have hcl := hw.len
  unfold qX
  obtain ⟨u, hu, hb, hk⟩ := upto_ok (r := q) (n := most) hl hp (by omega)
  rw [hu, Option.bind_some]
  have key : ∃ o, iterM FU (qP u c l crs) ⟨0, u.h0_1, u.h0_2, []⟩ = some o ∧ HOK l o.b0_1 ∧ (o.out9.length : Int) = u.r0 ∧ ∀ s ∈ o.out9, SeenC c crs s := by
    refine iterM_inv (f := qP u c l crs) (fun s => (0 ≤ s.t14 ∧ s.t14 ≤ u.r0) ∧ HOK l s.b0_1 ∧ (s.out9.length : Int) = s.t14 ∧ ∀ w ∈ s.out9, SeenC c crs w) (fun s => (u.r0 - s.t14).toNat) _ (fun s hs => ?_) FU _ (FU_lt (by simp only; omega)) ⟨by simp only; omega, hk, rfl, by simp⟩
    obtain ⟨h0, hk0, hlen, hx⟩ := hs
    unfold qP
    by_cases hlt : s.t14 < u.r0
    · left
      rw [if_pos hlt, subc_eq (by omega), Option.bind_some]
      obtain ⟨x, hx1, hb1, hk1⟩ := upto_ok (r := s.b0_2) (n := c.tides) hl hk0 (by omega)
      rw [hx1, Option.bind_some]
      obtain ⟨y, hy1, hb2, hk2⟩ := upto_ok (r := x.h0_2) (n := c.cells - 1) hl hk1 (by omega)
      rw [hy1, Option.bind_some, Option.bind_some]
      obtain ⟨z, hz1, hk3⟩ := once_ok (r := y.h0_2) (n := 2) hl hk2 (by omega)
      have hrow := hw.row x.r0.toNat (by omega)
      obtain ⟨r1, r2, r3⟩ := rowB_iff.1 hrow
      have hixr : ix crs x.r0 = some (crs.getD x.r0.toNat []) := ix_eq [] (by omega) (by omega)
      have fin : ∀ (b1 b2 ce : Int), HOK l b1 → (0 ≤ ce ∧ ce < c.cells) → ∃ s', (ix crs x.r0).bind (fun t45 => (jS t45 ce).bind fun t49 => (appc 24 s.out9 [(⟨x.r0, ce, t49⟩ : Sight)]).bind fun t54 => (addc s.t14 1).bind fun t55 => some (Sum.inl (⟨t55, b1, b2, t54⟩ : qg) : qg ⊕ zE)) = some (.inl s') ∧ ((0 ≤ s'.t14 ∧ s'.t14 ≤ u.r0) ∧ HOK l s'.b0_1 ∧ (s'.out9.length : Int) = s'.t14 ∧ ∀ s ∈ s'.out9, SeenC c crs s) ∧ (u.r0 - s'.t14).toNat < (u.r0 - s.t14).toNat := by
        intro b1 b2 ce hb hce
        rw [hixr, Option.bind_some, Jm (by omega), Option.bind_some, appc_eq (by simp; omega), Option.bind_some, addc_eq (by omega), Option.bind_some]
        refine ⟨_, rfl, ⟨by simp only; omega, hb, by simp; omega, fun w hw' => ?_⟩, by simp only; omega⟩
        rcases List.mem_append.1 hw' with h | h
        · exact hx w h
        · rw [List.mem_singleton] at h
          subst h
          exact ⟨by simp only; omega, hce, rfl⟩
      rw [hz1, Option.bind_some]
      by_cases h2 : z.r0 = true
      · rw [if_pos h2]
        obtain ⟨v, hv1, hb4, hk4⟩ := upto_ok (r := z.h0_2) (n := (c.fords.length : Int) - 1) hl hk3 (by omega)
        have hce : ix (crs.getD x.r0.toNat []) v.r0 = some ((crs.getD x.r0.toNat []).getD v.r0.toNat 0) := ix_eq 0 (by omega) (by omega)
        have hm2 := r3 _ (getD_mem (d := 0) (l := crs.getD x.r0.toNat []) (i := v.r0.toNat) (by omega))
        simp only
        rw [hixr, Option.bind_some, subc_eq (by omega), Option.bind_some, hv1, Option.bind_some, hce, Option.bind_some, Option.bind_some, ← hixr]
        exact fin _ _ _ hk4 hm2
      · rw [if_neg h2, Option.bind_some]
        exact fin _ _ _ hk3 (by simp only; omega)
    · right
      rw [if_neg hlt]
      exact ⟨_, rfl, hk0, by simp only; omega, hx⟩
  obtain ⟨o, h1, h2, h3, h4⟩ := key
  rw [h1, Option.bind_some]
  exact ⟨_, rfl, h2, by simp only; omega, h4⟩
theorem right_sights {c : Channel} (r : Right c) {sg : List Sight} (hn : sg.length ≤ 8) (h : ∀ s ∈ sg, (0 ≤ s.after ∧ s.after ≤ c.tides) ∧ 0 ≤ s.cell ∧ s.cell < c.cells) : Right ⟨c.cells, c.tides, c.fords, c.sands, sg⟩ := ⟨r.cells, r.tides, r.fords, r.sands, by simp only; omega, r.reach, fun s hs => (h s hs).1, r.fcell, r.span, fun s hs => (h s hs).2, r.up⟩
theorem pile_eq (l : List Int) : Yt l = some ⟨0, 0⟩ := rfl
theorem HOK_zero (l : List Int) : HOK l 0 := ⟨Int.le_refl _, .inr rfl⟩
end Go.Proofs.Wb

namespace Go.Proofs.Wb
open Go Go.Fw Go.Gx Go.Sb
set_option linter.unusedVariables false
set_option maxRecDepth 100000
theorem made_seen {l : List Int} (hl : l.length ≤ 9223372036854775807) {cells fords tides most : Int} (hc : 3 ≤ cells ∧ cells ≤ 9) (hf : 1 ≤ fords ∧ fords ≤ 3) (ht : 0 ≤ tides ∧ tides ≤ 4) (hm : 0 ≤ most ∧ most ≤ 8) : ∃ x y, q3 l 0 0 cells fords tides = some x ∧ qX l x.b0_1 x.b0_2 x.r0 x.r1 most = some y ∧ MadeC x.r0 cells fords tides ∧ WalkC x.r0 x.r0.tides.toNat x.r1 ∧ HOK l y.b0_1 ∧ (y.r0.length : Int) ≤ most ∧ ∀ s ∈ y.r0, SeenC x.r0 x.r1 s := by
  obtain ⟨x, h1, h2, h3, h4⟩ := made_ok hl (q := 0) (HOK_zero l) hc hf ht
  obtain ⟨y, g1, g2, g3, g4⟩ := seen_ok (q := x.b0_2) hl h3.right h4 h2 hm
  exact ⟨x, y, h1, g1, h3, h4, g2, g3, g4⟩
def cS (c : Channel) (sg : List Sight) : Channel := ⟨c.cells, c.tides, c.fords, c.sands, sg⟩
theorem few_right {c : Channel} (r : Right c) (h : c.sights.length ≤ 8) : Few c := by
  have hf := r.fords
  have hs := r.sands
  exact ⟨by omega, by omega, by omega⟩
theorem WalkC.sights {c : Channel} {n : Nat} {crs : List (List Int)} (h : WalkC c n crs) (sg : List Sight) : WalkC (cS c sg) n crs := ⟨h.len, h.fst, h.row, h.can⟩
end Go.Proofs.Wb

