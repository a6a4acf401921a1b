/- What the functions that the law BranchFirm reaches come to, and why it holds: part 8. -/
import Derived.Test.YtpjnpibgnkgnaaaGreatBranchFirm7
import Derived.Deep.Slices
import Derived.ChangeArms
namespace Go.Proofs.Wb
open Go Go.Fw Go.Gx Go.Sb
set_option linter.unusedVariables false
set_option maxRecDepth 100000
def sumN {α : Type} (l : List α) (f : α → Nat) : Nat := (l.map f).sum
theorem sumN_nil {α : Type} (f : α → Nat) : sumN [] f = 0 := rfl
theorem sumN_cons {α : Type} (x : α) (l : List α) (f : α → Nat) : sumN (x :: l) f = f x + sumN l f := by unfold sumN; rw [List.map_cons, List.sum_cons]
theorem sumN_congr {α : Type} {l : List α} {f g : α → Nat} (h : ∀ x ∈ l, f x = g x) : sumN l f = sumN l g := by unfold sumN; rw [List.map_congr_left h]
theorem sumN_zero {α : Type} {l : List α} {f : α → Nat} (h : ∀ x ∈ l, f x = 0) : sumN l f = 0 := by
  induction l with
  | nil => rfl
  | cons x l ih => rw [sumN_cons, h x List.mem_cons_self, ih (fun y hy => h y (List.mem_cons_of_mem _ hy))]
theorem sumN_add {α : Type} (l : List α) (f g : α → Nat) : sumN l (fun x => f x + g x) = sumN l f + sumN l g := by
  induction l with
  | nil => rfl
  | cons x l ih => rw [sumN_cons, sumN_cons, sumN_cons, ih]; omega
theorem sumN_mul {α : Type} (l : List α) (f : α → Nat) (k : Nat) : sumN l (fun x => f x * k) = sumN l f * k := by
  induction l with
  | nil => simp [sumN]
  | cons x l ih => rw [sumN_cons, sumN_cons, ih, Nat.add_mul]
theorem sumN_mul' {α : Type} (l : List α) (f : α → Nat) (k : Nat) : sumN l (fun x => k * f x) = k * sumN l f := by
  induction l with
  | nil => simp [sumN]
  | cons x l ih => rw [sumN_cons, sumN_cons, ih, Nat.mul_add]
theorem sumN_comm {α β : Type} (l : List α) (m : List β) (f : α → β → Nat) : sumN l (fun x => sumN m fun y => f x y) = sumN m fun y => sumN l fun x => f x y := by
  induction l with
  | nil => rw [sumN_nil, sumN_zero (fun y _ => sumN_nil _)]
  | cons x l ih =>
    rw [sumN_cons, ih, ← sumN_add]
    refine sumN_congr fun y _ => ?_
    rw [sumN_cons]
theorem sumN_pos {α : Type} {l : List α} {f : α → Nat} : 0 < sumN l f ↔ ∃ x ∈ l, 0 < f x := by
  induction l with
  | nil => simp [sumN]
  | cons x l ih =>
    rw [sumN_cons]
    constructor
    · intro h
      by_cases hx : 0 < f x
      · exact ⟨x, List.mem_cons_self, hx⟩
      · obtain ⟨y, hy, h2⟩ := ih.1 (by omega)
        exact ⟨y, List.mem_cons_of_mem _ hy, h2⟩
    · rintro ⟨y, hy, h⟩
      rcases List.mem_cons.1 hy with rfl | hy
      · omega
      · have := ih.2 ⟨y, hy, h⟩; omega
theorem sumN_perm {α : Type} {l m : List α} (h : l.Perm m) (f : α → Nat) : sumN l f = sumN m f := by
  unfold sumN
  exact (h.map f).sum_nat
theorem sumN_map {α β : Type} (l : List α) (g : α → β) (f : β → Nat) : sumN (l.map g) f = sumN l fun x => f (g x) := by unfold sumN; rw [List.map_map]; rfl
theorem sumN_filter {α : Type} (l : List α) (p : α → Bool) (f : α → Nat) : sumN (l.filter p) f = sumN l fun x => if p x = true then f x else 0 := by
  induction l with
  | nil => rfl
  | cons x l ih =>
    rw [List.filter_cons, sumN_cons, ← ih]
    split
    · rw [sumN_cons]
    · rw [Nat.zero_add]
theorem sumN_one {α : Type} [DecidableEq α] {l : List α} (hn : l.Nodup) {a : α} (ha : a ∈ l) (k : Nat) : sumN l (fun x => if x = a then k else 0) = k := by
  induction l with
  | nil => cases ha
  | cons x l ih =>
    obtain ⟨h1, h2⟩ := List.nodup_cons.1 hn
    rw [sumN_cons]
    by_cases hx : x = a
    · subst hx
      rw [if_pos rfl, sumN_zero (fun y hy => if_neg (fun e : y = x => h1 (e ▸ hy)))]
      rfl
    · rw [if_neg hx, ih h2 ((List.mem_cons.1 ha).resolve_left (fun e => hx e.symm)), Nat.zero_add]
def incL (below : Nat) : Nat → Nat → List (List Int)
  | 0, _ => [[]]
  | m + 1, fr => (List.range (below - fr)).flatMap fun d => (incL below m (fr + d + 1)).map (((fr + d : Nat) : Int) :: ·)
theorem mem_incL {below : Nat} : ∀ (m fr : Nat) (l : List Int), l ∈ incL below m fr ↔ l.length = m ∧ upB l = true ∧ ∀ x ∈ l, (fr : Int) ≤ x ∧ x < (below : Int)
  | 0, fr, l => by
    rw [incL, List.mem_singleton]
    constructor
    · rintro rfl; exact ⟨rfl, rfl, fun x hx => by cases hx⟩
    · rintro ⟨h, _⟩; exact List.length_eq_zero_iff.1 h
  | m + 1, fr, l => by
    rw [incL]
    simp only [List.mem_flatMap, List.mem_range, List.mem_map]
    constructor
    · rintro ⟨d, hd, v, hv, rfl⟩
      obtain ⟨h1, h2, h3⟩ := (mem_incL m _ v).1 hv
      refine ⟨by simp [h1], ?_, fun x hx => ?_⟩
      · rw [upB_iff, List.pairwise_cons]
        exact ⟨fun y hy => by have := h3 y hy; push_cast at this ⊢; omega, upB_iff.1 h2⟩
      · rcases List.mem_cons.1 hx with rfl | hx
        · push_cast; omega
        · have := h3 x hx; push_cast at this; omega
    · rintro ⟨h1, h2, h3⟩
      cases l with
      | nil => simp at h1
      | cons y v =>
        have hy := h3 y List.mem_cons_self
        obtain ⟨q1, q2⟩ := List.pairwise_cons.1 (upB_iff.1 h2)
        refine ⟨y.toNat - fr, by omega, v, (mem_incL m _ v).2 ⟨by simpa using h1, upB_iff.2 q2, fun x hx => ?_⟩, ?_⟩
        · have a := q1 x hx
          have b := h3 x (List.mem_cons_of_mem _ hx)
          push_cast
          omega
        · congr 1
          omega
theorem incL_nodup {below : Nat} : ∀ (m fr : Nat), (incL below m fr).Nodup
  | 0, fr => by simp [incL]
  | m + 1, fr => by
    rw [incL]
    refine nodup_flatMap' List.nodup_range (fun d _ => nodup_map' (incL_nodup m _) (fun a _ b _ h => by simpa using h)) ?_
    intro d _ e _ w h1 h2
    obtain ⟨v, _, rfl⟩ := List.mem_map.1 h1
    obtain ⟨v', _, he⟩ := List.mem_map.1 h2
    injection he with he _
    omega
def LL (c : Channel) : List (List Int) := incL c.cells.toNat c.fords.length 0
theorem mem_LL {c : Channel} (hc : 0 ≤ c.cells) {l : List Int} : l ∈ LL c ↔ rowB c l = true := by
  unfold LL
  rw [mem_incL, rowB_iff]
  constructor
  · rintro ⟨h1, h2, h3⟩; exact ⟨h1, h2, fun x hx => by have := h3 x hx; push_cast at this; omega⟩
  · rintro ⟨h1, h2, h3⟩; exact ⟨h1, h2, fun x hx => by have := h3 x hx; push_cast; omega⟩
theorem LL_nodup (c : Channel) : (LL c).Nodup := incL_nodup _ _
def stL (k : Nat) (l : List Int) : State := ⟨(k : Int), mkCells l⟩
theorem nxS_perm {c : Channel} (r : Right c) {k : Nat} {a : List Int} (ha : rowB c a = true) : (nxS c (stL k a)).Perm (((LL c).filter fun l => canB c.sands a l).map (stL (k + 1))) := by
  have hc := r.cells
  have hf := r.fords
  refine (List.perm_ext_iff_of_nodup (nxS_nodup r _) (nodup_map' ((LL_nodup c).filter _) (fun x hx y hy h => ?_))).2 (fun t => ?_)
  · have hx' := (rowB_iff.1 ((mem_LL (by omega)).1 (List.mem_filter.1 hx).1)).1
    have hy' := (rowB_iff.1 ((mem_LL (by omega)).1 (List.mem_filter.1 hy).1)).1
    simp only [stL, State.mk.injEq, true_and] at h
    exact mkCells_inj (by omega) (by omega) h
  · rw [nxS_mem r, List.mem_map]
    constructor
    · rintro ⟨l, h, rfl⟩
      have hr := row_of_can h
      exact ⟨l, List.mem_filter.2 ⟨(mem_LL (by omega)).2 hr, (can_iff r ha hr).2 h⟩, by simp [stL]⟩
    · rintro ⟨l, h, rfl⟩
      obtain ⟨h1, h2⟩ := List.mem_filter.1 h
      exact ⟨l, (can_iff r ha ((mem_LL (by omega)).1 h1)).1 h2, by simp [stL]⟩
def FcL (cnt : Nat → Bool) (c : Channel) : Nat → List Int → Nat
  | 0, l => if agP cnt c.sights 0 l = true ∧ l = c.fords then 1 else 0
  | k + 1, l => if agP cnt c.sights ((k + 1 : Nat) : Int) l = true then sumN (LL c) fun a => if canB c.sands a l = true then FcL cnt c k a else 0 else 0
theorem agS_stL {cnt : Nat → Bool} {c : Channel} (r : Right c) {k : Nat} {l : List Int} (h : rowB c l = true) : agS cnt c (stL k l) = agP cnt c.sights (k : Int) l := by
  have hf := r.fords
  have h1 := (rowB_iff.1 h).1
  unfold agS stL
  simp only
  rw [← h1, clS_mk (by omega)]
theorem R_stL {cnt : Nat → Bool} {c : Channel} (r : Right c) {j k : Nat} {a : List Int} (ha : rowB c a = true) : R (nxS c) (agS cnt c) (j + 1) (stL k a) = if agP cnt c.sights (k : Int) a = true then sumN (LL c) fun l => if canB c.sands a l = true then R (nxS c) (agS cnt c) j (stL (k + 1) l) else 0 else 0 := by
  rw [R, agS_stL r ha]
  by_cases h : agP cnt c.sights (k : Int) a = true
  · rw [if_pos h, if_pos h]
    show sumN (nxS c (stL k a)) _ = _
    rw [sumN_perm (nxS_perm r ha), sumN_map, sumN_filter]
  · rw [if_neg h, if_neg h]
theorem FcL_ag {cnt : Nat → Bool} {c : Channel} {k : Nat} {l : List Int} (h : ¬ agP cnt c.sights (k : Int) l = true) : FcL cnt c k l = 0 := by
  cases k with
  | zero => rw [FcL, if_neg (fun q => h q.1)]
  | succ k => rw [FcL, if_neg h]
theorem FcL_sum {cnt : Nat → Bool} {c : Channel} (r : Right c) : ∀ (k j : Nat), sumN (LL c) (fun l => FcL cnt c k l * R (nxS c) (agS cnt c) j (stL k l)) = R (nxS c) (agS cnt c) (k + j) (first c)
  | 0, j => by
    have hc := r.cells
    have hfr : rowB c c.fords = true := rowB_iff.2 ⟨rfl, r.up, r.fcell⟩
    have e : sumN (LL c) (fun l => FcL cnt c 0 l * R (nxS c) (agS cnt c) j (stL 0 l)) = sumN (LL c) (fun l => if l = c.fords then R (nxS c) (agS cnt c) j (first c) else 0) := by
      refine sumN_congr fun l hl => ?_
      by_cases h : l = c.fords
      · subst h
        rw [if_pos rfl, FcL]
        by_cases h2 : agP cnt c.sights 0 c.fords = true
        · rw [if_pos ⟨h2, rfl⟩, Nat.one_mul]; rfl
        · rw [if_neg (fun q => h2 q.1), Nat.zero_mul]
          have h3 : ¬ 0 < R (nxS c) (agS cnt c) j (first c) := fun q => by
            have := R_ag q
            rw [show first c = stL 0 c.fords from rfl, agS_stL r hfr] at this
            exact h2 this
          omega
      · rw [if_neg h, FcL, if_neg (fun q => h q.2), Nat.zero_mul]
    rw [e, sumN_one (LL_nodup c) ((mem_LL (by omega)).2 hfr), Nat.zero_add]
  | k + 1, j => by
    have hc := r.cells
    have ih := FcL_sum (cnt := cnt) r k (j + 1)
    rw [show k + 1 + j = k + (j + 1) by omega, ← ih]
    have e1 : sumN (LL c) (fun l => FcL cnt c (k + 1) l * R (nxS c) (agS cnt c) j (stL (k + 1) l)) = sumN (LL c) (fun l => sumN (LL c) fun a => (if canB c.sands a l = true then FcL cnt c k a else 0) * R (nxS c) (agS cnt c) j (stL (k + 1) l)) := by
      refine sumN_congr fun l hl => ?_
      rw [sumN_mul, FcL]
      by_cases h : agP cnt c.sights ((k + 1 : Nat) : Int) l = true
      · rw [if_pos h]
      · rw [if_neg h, Nat.zero_mul]
        have h3 : ¬ 0 < R (nxS c) (agS cnt c) j (stL (k + 1) l) := fun q => by
          have := R_ag q
          rw [agS_stL r ((mem_LL (by omega)).1 hl)] at this
          exact h this
        rw [Nat.eq_zero_of_not_pos h3, Nat.mul_zero]
    rw [e1, sumN_comm]
    refine sumN_congr fun a ha => ?_
    rw [R_stL r ((mem_LL (by omega)).1 ha)]
    by_cases h : agP cnt c.sights (k : Int) a = true
    · rw [if_pos h, ← sumN_mul']
      refine sumN_congr fun l _ => ?_
      split
      · rfl
      · rw [Nat.zero_mul, Nat.mul_zero]
    · rw [if_neg h, Nat.mul_zero]
      refine sumN_zero fun l _ => ?_
      rw [FcL_ag h]
      split <;> rw [Nat.zero_mul]
end Go.Proofs.Wb

namespace Go.Proofs.Wb
open Go Go.Fw Go.Gx Go.Sb
set_option linter.unusedVariables false
set_option maxRecDepth 100000
abbrev tt : Nat → Bool := fun _ => true
def onB (c : Channel) (k : Nat) (l : List Int) : Bool := decide (0 < FcL tt c k l) && decide (0 < R (nxS c) (agS tt c) (c.tides.toNat - k) (stL k l))
theorem FcL_succ_pos {c : Channel} {k : Nat} {l : List Int} : 0 < FcL tt c (k + 1) l ↔ agP tt c.sights ((k + 1 : Nat) : Int) l = true ∧ ∃ a ∈ LL c, canB c.sands a l = true ∧ 0 < FcL tt c k a := by
  rw [FcL]
  by_cases h : agP tt c.sights ((k + 1 : Nat) : Int) l = true
  · rw [if_pos h, sumN_pos]
    constructor
    · rintro ⟨a, ha, h2⟩
      split at h2
      · rename_i hc; exact ⟨h, a, ha, hc, h2⟩
      · omega
    · rintro ⟨_, a, ha, hc, h2⟩
      exact ⟨a, ha, by rw [if_pos hc]; exact h2⟩
  · rw [if_neg h]
    constructor
    · intro q; omega
    · rintro ⟨q, _⟩; exact absurd q h
theorem FcL_pos_ag {c : Channel} {k : Nat} {l : List Int} (h : 0 < FcL tt c k l) : agP tt c.sights (k : Int) l = true := by
  cases hq : agP tt c.sights (k : Int) l with
  | true => rfl
  | false => rw [FcL_ag (by rw [hq]; decide)] at h; omega
theorem R_stL_pos {c : Channel} (r : Right c) {j k : Nat} {a : List Int} (ha : rowB c a = true) : 0 < R (nxS c) (agS tt c) (j + 1) (stL k a) ↔ agP tt c.sights (k : Int) a = true ∧ ∃ l ∈ LL c, canB c.sands a l = true ∧ 0 < R (nxS c) (agS tt c) j (stL (k + 1) l) := by
  rw [R_stL r ha]
  by_cases h : agP tt c.sights (k : Int) a = true
  · rw [if_pos h, sumN_pos]
    constructor
    · rintro ⟨l, hl, h2⟩
      split at h2
      · rename_i hc; exact ⟨h, l, hl, hc, h2⟩
      · omega
    · rintro ⟨_, l, hl, hc, h2⟩
      exact ⟨l, hl, by rw [if_pos hc]; exact h2⟩
  · rw [if_neg h]
    constructor
    · intro q; omega
    · rintro ⟨q, _⟩; exact absurd q h
theorem stL_of {c : Channel} (r : Right c) {s : State} {k : Nat} (h : VS c s) (hk : s.after = (k : Int)) : ∃ a ∈ LL c, s = stL k a := by
  have hc := r.cells
  obtain ⟨⟨l, h1, h2⟩, _⟩ := h
  obtain ⟨x, y⟩ := s
  simp only at hk h2
  exact ⟨l, (mem_LL (by omega)).2 h1, by rw [hk, h2]; rfl⟩
theorem mem_nx_stL {c : Channel} (r : Right c) {k : Nat} {a l : List Int} (ha : rowB c a = true) (hl : rowB c l = true) : stL (k + 1) l ∈ nxS c (stL k a) ↔ canB c.sands a l = true := by
  have hf := r.fords
  rw [nxS_mem r, can_iff r ha hl]
  constructor
  · rintro ⟨l', h, e⟩
    simp only [stL, State.mk.injEq] at e
    have := mkCells_inj (l := l) (m := l') (by rw [h.len]; exact (rowB_iff.1 hl).1) (by have := (rowB_iff.1 hl).1; omega) e.2
    rw [this]; exact h
  · intro h
    exact ⟨l, h, by simp [stL]⟩
theorem on_V {c : Channel} (r : Right c) : ∀ (k : Nat), (k : Int) ≤ c.tides → ∀ t, On (nxS c) (agS tt c) k c.tides.toNat (first c) t → VS c t ∧ t.after = (k : Int)
  | 0, _, t, h => by
    obtain ⟨rfl, _⟩ := on_zero.1 h
    exact ⟨first_V r, rfl⟩
  | k + 1, hk, t, h => by
    obtain ⟨u, h1, h2, _⟩ := (on_succ (by omega)).1 h
    obtain ⟨v1, v2⟩ := on_V r k (by omega) u h1
    obtain ⟨v3, v4⟩ := nxS_V r v1 (by omega) h2
    exact ⟨v3, by omega⟩
theorem on_iff {c : Channel} (r : Right c) : ∀ (k : Nat), (k : Int) ≤ c.tides → ∀ l, rowB c l = true → (On (nxS c) (agS tt c) k c.tides.toNat (first c) (stL k l) ↔ onB c k l = true)
  | 0, _, l, hl => by
    have hf := r.fords
    have h1 := (rowB_iff.1 hl).1
    unfold onB
    rw [on_zero, Bool.and_eq_true, decide_eq_true_eq, decide_eq_true_eq, FcL, Nat.sub_zero]
    constructor
    · rintro ⟨e, h2⟩
      have e2 : l = c.fords := by
        simp only [stL, first, State.mk.injEq] at e
        exact mkCells_inj (by omega) (by omega) e.2
      subst e2
      have hag := R_ag h2
      rw [show first c = stL 0 c.fords from rfl, agS_stL r hl] at hag
      exact ⟨by rw [if_pos ⟨hag, rfl⟩]; omega, h2⟩
    · rintro ⟨h2, h3⟩
      split at h2
      · rename_i q
        obtain ⟨_, q⟩ := q
        subst q
        exact ⟨rfl, h3⟩
      · omega
  | k + 1, hk, l, hl => by
    have hc := r.cells
    unfold onB
    rw [on_succ (by omega), Bool.and_eq_true, decide_eq_true_eq, decide_eq_true_eq, FcL_succ_pos, show c.tides.toNat - (k + 1) = c.tides.toNat - k - 1 by omega]
    constructor
    · rintro ⟨u, h1, h2, h3⟩
      obtain ⟨v1, v2⟩ := on_V r k (by omega) u h1
      obtain ⟨a, ha, rfl⟩ := stL_of r v1 v2
      have ha' := (mem_LL (by omega)).1 ha
      have h4 := (on_iff r k (by omega) a ha').1 h1
      unfold onB at h4
      rw [Bool.and_eq_true, decide_eq_true_eq] at h4
      have hag := R_ag h3
      rw [agS_stL r hl] at hag
      exact ⟨⟨hag, a, ha, (mem_nx_stL r ha' hl).1 h2, h4.1⟩, h3⟩
    · rintro ⟨⟨hag, a, ha, h1, h2⟩, h3⟩
      have ha' := (mem_LL (by omega)).1 ha
      refine ⟨stL k a, (on_iff r k (by omega) a ha').2 ?_, (mem_nx_stL r ha' hl).2 h1, h3⟩
      unfold onB
      rw [Bool.and_eq_true, decide_eq_true_eq, decide_eq_true_eq, show c.tides.toNat - k = (c.tides.toNat - k - 1) + 1 by omega, R_stL_pos r ha']
      exact ⟨h2, FcL_pos_ag h2, l, (mem_LL (by omega)).2 hl, h1, h3⟩
end Go.Proofs.Wb

namespace Go.Proofs.Wb
open Go Go.Fw Go.Gx Go.Sb
set_option linter.unusedVariables false
set_option maxRecDepth 100000
theorem asc_ext {l m : List Int} (hl : l.Pairwise (· < ·)) (hm : m.Pairwise (· < ·)) (h : ∀ x, x ∈ l ↔ x ∈ m) : l = m := by
  refine List.Perm.eq_of_pairwise (le := fun x y : Int => x < y) (fun a b _ _ h1 h2 => by omega) hl hm ?_
  exact (List.perm_ext_iff_of_nodup (hl.imp (fun h => by omega)) (hm.imp (fun h => by omega))).2 h
theorem sorted_get {l : List Int} (h : l.Pairwise (· ≤ ·)) {i j : Nat} (hij : i ≤ j) (hj : j < l.length) : l.getD i 0 ≤ l.getD j 0 := by
  rcases Nat.lt_or_eq_of_le hij with h1 | h1
  · have := List.pairwise_iff_getElem.1 h i j (by omega) hj h1
    simpa [List.getD_eq_getElem?_getD, hj, (show i < l.length by omega)] using this
  · subst h1; exact Int.le_refl _
theorem cmp_get {l : List Int} {j : Nat} (hj : j < l.length) : l.toArray[j]! = l.getD j 0 := by
  simp [List.getD_eq_getElem?_getD, hj]
theorem compact_asc {l : List Int} (h : l.Pairwise (· ≤ ·)) : (Go.Lib.compact l).Pairwise (· < ·) := by
  unfold Go.Lib.compact Go.Lib.compactUpTo
  rw [List.pairwise_map, List.pairwise_filter]
  refine List.Pairwise.imp_of_mem ?_ (List.pairwise_lt_range (n := l.length))
  intro i j hi hj hij ki kj
  have hj' : j < l.length := by simpa using hj
  have hi' : i < l.length := by simpa using hi
  rw [cmp_get hi', cmp_get hj']
  have k2 : l.getD j 0 ≠ l.getD (j - 1) 0 := by
    unfold Go.Lib.keeps at kj
    rw [decide_eq_true_eq, cmp_get hj', cmp_get (by omega)] at kj
    exact kj.resolve_left (by omega)
  have h1 := sorted_get h (show i ≤ j - 1 by omega) (by omega)
  have h2 := sorted_get h (show j - 1 ≤ j by omega) hj'
  omega
theorem compact_mem {l : List Int} {x : Int} : x ∈ Go.Lib.compact l ↔ x ∈ l := by
  unfold Go.Lib.compact Go.Lib.compactUpTo
  simp only [List.mem_map, List.mem_filter, List.mem_range]
  constructor
  · rintro ⟨i, ⟨hi, _⟩, rfl⟩
    rw [cmp_get hi]
    exact getD_mem hi
  · intro hx
    obtain ⟨i, hi, rfl⟩ := List.getElem_of_mem hx
    have key : ∀ n i, i ≤ n → (hi : i < l.length) → ∃ j, (j < l.length ∧ Go.Lib.keeps l.toArray j = true) ∧ l.toArray[j]! = l[i] := by
      intro n
      induction n with
      | zero =>
        intro i h0 hi
        obtain rfl : i = 0 := by omega
        exact ⟨0, ⟨hi, by simp [Go.Lib.keeps]⟩, by simp [hi]⟩
      | succ n ih =>
        intro i h0 hi
        by_cases hk : Go.Lib.keeps l.toArray i = true
        · exact ⟨i, ⟨hi, hk⟩, by simp [hi]⟩
        · have h1 : ¬ (i = 0 ∨ l.toArray[i]! ≠ l.toArray[i - 1]!) := by
            intro q
            exact hk (by unfold Go.Lib.keeps; rw [decide_eq_true_eq]; exact q)
          have h2 : i ≠ 0 := fun q => h1 (.inl q)
          have h3 : l.toArray[i]! = l.toArray[i - 1]! := by
            by_cases q : l.toArray[i]! = l.toArray[i - 1]!
            · exact q
            · exact absurd (.inr q) h1
          obtain ⟨j, h4, h5⟩ := ih (i - 1) (by omega) (by omega)
          refine ⟨j, h4, ?_⟩
          rw [h5]
          have e1 : l.toArray[i]! = l[i] := by simp [hi]
          have e2 : l.toArray[i - 1]! = l[i - 1] := by simp [(show i - 1 < l.length by omega)]
          rw [← e1, h3, e2]
    exact key i i (Nat.le_refl _) hi
theorem filtL_asc {p : Nat → Bool} {n : Nat} : (filtL p n).Pairwise (· < ·) := by
  unfold filtL
  rw [List.pairwise_map]
  refine ((List.pairwise_lt_range (n := n)).filter p).imp ?_
  intro a b h
  omega
theorem mem_filtL {p : Nat → Bool} {n : Nat} {x : Int} : x ∈ filtL p n ↔ 0 ≤ x ∧ x < (n : Int) ∧ p x.toNat = true := by
  unfold filtL
  simp only [List.mem_map, List.mem_filter, List.mem_range]
  constructor
  · rintro ⟨i, ⟨hi, hp⟩, rfl⟩
    exact ⟨by omega, by omega, by simpa using hp⟩
  · rintro ⟨h0, h1, hp⟩
    exact ⟨x.toNat, ⟨by omega, hp⟩, by omega⟩
def whereL (c : Channel) (k i : Nat) : List Int := filtL (fun x => (LL c).any fun l => onB c k l && decide (l.getD i (-1) = (x : Int))) c.cells.toNat
theorem lev_iff {c : Channel} (r : Right c) {L : List (List State)} (hL : Levs c L) {k : Nat} (hk : (k : Int) ≤ c.tides) {s : State} : s ∈ L.getD k [] ↔ ∃ l ∈ LL c, s = stL k l ∧ onB c k l = true := by
  have hc := r.cells
  rw [hL.mem k hk]
  constructor
  · intro h
    obtain ⟨v1, v2⟩ := on_V r k hk s h
    obtain ⟨l, hl, rfl⟩ := stL_of r v1 v2
    exact ⟨l, hl, rfl, (on_iff r k hk l ((mem_LL (by omega)).1 hl)).1 h⟩
  · rintro ⟨l, hl, rfl, h⟩
    exact (on_iff r k hk l ((mem_LL (by omega)).1 hl)).2 h
theorem levs_ix {c : Channel} (r : Right c) {L : List (List State)} (hL : Levs c L) {k : Int} (h0 : 0 ≤ k) (hk : k ≤ c.tides) : ix L k = some (L.getD k.toNat []) := ix_eq [] h0 (by have := hL.len; omega)
theorem cells_loop {l : List State} {i : Nat} (hi : i < 3) (hl : l.length ≤ 1000000000000) : iterM FU (yc l (i : Int)) ⟨0, []⟩ = some (l.map fun s => cGet s.at_ i) := by
  have key := iterM_run (f := yc l (i : Int)) (fun j => ⟨(j : Int), (l.take j).map fun s => cGet s.at_ i⟩) l.length (b := l.map fun s => cGet s.at_ i) (fun j hj => ?_) ?_ FU (FU_lt2 (by omega))
  · exact key
  · have e : l.take (j + 1) = l.take j ++ [l[j]] := by rw [List.take_append_getElem]
    have hx : l.getD j default = l[j] := by simp [List.getD_eq_getElem?_getD, hj]
    unfold yc
    simp only
    rw [if_pos (by omega), ix_nat default hj, Option.bind_some, hx, ix3 hi, Option.bind_some, appc_eq (by simp; omega), Option.bind_some, addc_eq (by omega), Option.bind_some, e, List.map_append]
    rfl
  · unfold yc
    simp only
    rw [if_neg (by omega), List.take_length]
theorem whereL_prog {c : Channel} (r : Right c) {L : List (List State)} (hL : Levs c L) {k i : Nat} (hk : (k : Int) ≤ c.tides) (hi : i < c.fords.length) : Go.Lib.compact (sortI ((L.getD k []).map fun s => cGet s.at_ i)) = whereL c k i := by
  have hc := r.cells
  have hf := r.fords
  refine asc_ext (compact_asc (sortI_sorted _)) filtL_asc (fun x => ?_)
  rw [compact_mem, mem_sortI, List.mem_map]
  unfold whereL
  rw [mem_filtL, List.any_eq_true]
  constructor
  · rintro ⟨s, hs, rfl⟩
    obtain ⟨l, hl, rfl, ho⟩ := (lev_iff r hL hk).1 hs
    have hr := rowB_iff.1 ((mem_LL (by omega)).1 hl)
    have e : cGet (stL k l).at_ i = l.getD i (-1) := cGet_mk (by omega)
    have hm := hr.2.2 _ (getD_mem (l := l) (i := i) (d := -1) (by omega))
    rw [e]
    refine ⟨hm.1, by omega, l, hl, ?_⟩
    rw [ho, Bool.true_and, decide_eq_true_eq]
    omega
  · rintro ⟨h0, h1, l, hl, h⟩
    rw [Bool.and_eq_true, decide_eq_true_eq] at h
    refine ⟨stL k l, (lev_iff r hL hk).2 ⟨l, hl, rfl, h.1⟩, ?_⟩
    rw [show cGet (stL k l).at_ i = l.getD i (-1) from cGet_mk (by omega), h.2]
    omega
theorem Zm {c : Channel} (h : Few c) (k i : Int) : qI c k i = some (if chk c = 0 then (if inb k 0 c.tides = true then (if inb i 0 ((c.fords.length : Int) - 1) = true then (if cntS tt c = 0 then ⟨7, []⟩ else ⟨0, whereL c k.toNat i.toNat⟩) else ⟨1, []⟩) else ⟨3, []⟩) else ⟨chk c, []⟩) := by
  unfold qI
  rw [Yx, Option.bind_some]
  by_cases h0 : chk c = 0
  · have r := rightOf h0
    have hf := r.fords
    rw [if_pos h0, if_pos h0, Yy, Option.bind_some, not_true_if]
    by_cases h1 : inb k 0 c.tides = true
    · rw [if_pos h1, if_pos h1, subc_eq (by omega), Option.bind_some, Qx, Option.bind_some, not_true_if]
      by_cases h2 : inb i 0 ((c.fords.length : Int) - 1) = true
      · rw [if_pos h2, if_pos h2]
        obtain ⟨L, e, hL⟩ := Y3 h
        rw [e, Option.bind_some, if_pos h0]
        by_cases h3 : cntS tt c = 0
        · rw [if_pos h3, if_pos h3, oc_inl]
        · rw [if_neg h3, if_neg h3, oc_inr]
          have hL' := hL h0 h3
          have k1 := inb_iff.1 h1
          have i1 := inb_iff.1 h2
          rw [levs_ix r hL' k1.1 k1.2, Option.bind_some, show i = ((i.toNat : Nat) : Int) by omega, cells_loop (by omega) (hL'.bnd _ (by omega)), Option.bind_some]
          have hlen := hL'.bnd k.toNat (by omega)
          unfold JV
          rw [if_pos (by rw [List.length_map]; omega), Option.bind_some]
          unfold qT
          rw [if_pos (by rw [sortI_length, List.length_map]; omega), Option.bind_some, whereL_prog r hL' (by omega) (by omega), Int.toNat_natCast]
      · rw [if_neg h2, if_neg h2]
    · rw [if_neg h1, if_neg h1]
  · rw [if_neg h0, if_neg h0]
end Go.Proofs.Wb

namespace Go.Proofs.Wb
open Go Go.Fw Go.Gx Go.Sb
set_option maxRecDepth 100000
theorem awake_true : yR = some true := by decide +kernel
end Go.Proofs.Wb

namespace Go.Proofs.Wb
open Go Go.Fw Go.Gx Go.Sb
set_option linter.unusedVariables false
set_option maxRecDepth 100000
def WideP (c : Channel) : Prop := (10 < c.fords.length ∨ 10 < c.sands.length ∨ 14 < c.sights.length) ∨ c.fords.length = 3 ∨ (8 < c.cells ∧ c.cells ≤ 10)
instance (c : Channel) : Decidable (WideP c) := by unfold WideP; infer_instance
end Go.Proofs.Wb

namespace Go.Proofs.Wb
open Go Go.Fw Go.Gx Go.Sb
set_option linter.unusedVariables false
set_option maxRecDepth 100000
theorem cntS_sum {cnt : Nat → Bool} {c : Channel} (r : Right c) : cntS cnt c = sumN (LL c) (FcL cnt c c.tides.toNat) := by
  have hc := r.cells
  have h := FcL_sum (cnt := cnt) r c.tides.toNat 0
  unfold cntS
  rw [Nat.add_zero] at h
  rw [← h]
  refine sumN_congr fun l hl => ?_
  rw [R, agS_stL r ((mem_LL (by omega)).1 hl)]
  by_cases hag : agP cnt c.sights ((c.tides.toNat : Nat) : Int) l = true
  · rw [if_pos hag, Nat.mul_one]
  · rw [if_neg hag, Nat.mul_zero, FcL_ag hag]
theorem sumN_le {α : Type} {l : List α} {f g : α → Nat} (h : ∀ x ∈ l, f x ≤ g x) : sumN l f ≤ sumN l g := by
  induction l with
  | nil => exact Nat.le_refl _
  | cons x l ih =>
    rw [sumN_cons, sumN_cons]
    have h1 := h x List.mem_cons_self
    have h2 := ih (fun y hy => h y (List.mem_cons_of_mem _ hy))
    omega
theorem Qu {c : Channel} (h : Few c) : qf c = some (if chk c = 0 then ⟨(cntS tt c : Int), 0⟩ else ⟨0, chk c⟩) := Zh h
end Go.Proofs.Wb

namespace Go.Proofs.Wb
set_option maxHeartbeats 4000000
set_option maxRecDepth 100000
open Go Go.Fw Go.Gx Go.Sb
open Tryz
set_option linter.unusedVariables false

structure QN where
  t5_1 : Int
  t5_2 : Int
def Q7 (shells0 : (List Int)) : Option QN :=
 some (⟨0, 0⟩ : QN)
theorem ZI (shells0 : (List Int)) (qa0 : Option Addr) (na0 ca0 : Nat) (w : World) (hw : HV w (keys [] []) [] [] [(aB qa0, aO qa0, RU8.enc shells0)] w) (hna0 : shells0.length = na0) (hqa0 : AOK na0 qa0) (hla0 : na0 ≤ ca0) {res : QN} (hm : Q7 shells0 = some res) :
    Calls Tryz.prog 62 #[.slice qa0 na0 ca0] w (fun en w' => ∃ l : Nat, en = .returned (ptr l 0) ∧ (True) ∧ HV w (keys [] []) [kc l #[.slice qa0 na0 ca0, .int .i64 res.t5_1, .int .u32 res.t5_2] 199] [] [] w') := by
  unfold Q7 at hm
  refine ya func62 Y ntmps62 Y (e := [(0, _)]) Y hw (jt (jo Y Y (k8 (jg Y Y (jc Y Y Y (fun _ _ => kU (vs := [(0, _)]) (cells := [_, _, _]) Y Y) ?_)))))
  refine jI Y Y (fun b h1 => ?_)
  refine jo Y Y (jq (jv ?_))
  obtain rfl := sj hm
  refine jl Y (fun w hh => (.tmp Y .nil)) (fun w hh => ⟨b, rfl, trivial, hh.se [0] [] 1 Y Y Y rfl⟩)
structure Jz where
  r0 : Int
  h0_1 : Int
  h0_2 : Int
structure Kt where
  h0_1 : Int
  h0_2 : Int
def zo (h00 : (List Int)) (h01 : Int) (h02 : Int) : Option Jz :=
 (if h01 < (h00.length : Int) then
 ((ix h00 h01).bind fun t29 =>
 some (IntKind.u32.wrap ((IntKind.u32.wrap (40503 * (IntKind.u32.wrap (h02 + 1)))) + (IntKind.u32.wrap (331 * (IntKind.u32.wrap t29)))))) else
 (some (IntKind.u32.wrap (40503 * (IntKind.u32.wrap (h02 + 1)))))).bind fun o =>
 ((addc h01 1).bind fun t38 =>
 if (h00.length : Int) ≤ t38 then
 (some (⟨0, (IntKind.u32.wrap (h02 + 1))⟩ : Kt)) else
 (some (⟨t38, h02⟩ : Kt))).bind fun o_1 =>
 some (⟨(IntKind.i64.wrap (IntKind.u32.wrap (BitVec.ofInt IntKind.u32.bits (IntKind.u32.wrap (BitVec.ofInt IntKind.u32.bits o ^^^ BitVec.ofInt IntKind.u32.bits (Int.fdiv o (2 ^ min (Int.toNat 9) IntKind.u32.bits))).toNat) &&& BitVec.ofInt IntKind.u32.bits 32767).toNat)), o_1.h0_1, o_1.h0_2⟩ : Jz)
theorem Yf (h00 : (List Int)) (h01 : Int) (h02 : Int) (pb : Nat) (qa0 : Option Addr) (na0 ca0 : Nat) (w : World) (hw : HV w (keys [kc pb #[.slice qa0 na0 ca0, .int .i64 h01, .int .u32 h02] 199] []) [kc pb #[.slice qa0 na0 ca0, .int .i64 h01, .int .u32 h02] 199] [] [(aB qa0, aO qa0, RU8.enc h00)] w) (hna0 : h00.length = na0) (hqa0 : AOK na0 qa0) (hla0 : na0 ≤ ca0) {res : Jz} (hm : zo h00 h01 h02 = some res) :
    Calls Tryz.prog 180 #[ptr pb 0] w (fun en w' => ∃ l : Unit, en = .returned (.int .i64 res.r0) ∧ (True) ∧ HV w (keys [kc pb #[.slice qa0 na0 ca0, .int .i64 h01, .int .u32 h02] 199] []) [kc pb #[.slice qa0 na0 ca0, .int .i64 res.h0_1, .int .u32 res.h0_2] 199] [] [] w') := by
  unfold zo at hm
  refine ya func180 Y ntmps180 Y (e := [(0, _)]) Y hw (jt (jo Y Y (k8 (jg Y Y (jc Y Y Y (fun _ _ => jS Y) (qU 2 runUnderlying199 Y sizeOf197 Y Y (qJ 0 isAgg197 Y Y Y Y ?_)))))))
  refine jc Y Y Y (fun _ _ => Zn Y Y) (jc Y Y Y (fun _ _ => ZR Y Y) (jo Y Y (jq (ji ?_))))
  obtain ⟨o, h1, h2⟩ := bindO hm
  refine kf (ι := Unit) (fun l => True) (fun l => [(0, ptr pb 0), (3, .int .u32 o)]) (fun l => [kc pb #[.slice qa0 na0 ca0, .int .i64 h01, .int .u32 h02] 199]) (fun l => []) ?_ ?_
  ·replace hm := h1
   refine ji ?_
   refine qr none (.free 0 (.free 1 (.free 2 (.hoist 3 (.free 4 (.free 5 (.free 6 (.hoist 7 (.free 8 (.free 9 .done)))))))))) _ Y (by decide +kernel) (fun w k hh => hh.draw k) (fun w hh => hh) ?_
   refine zX Y Y Y (js Y Y Y Y (fun _ _ => jS Y) (KW 1 runUnderlying199 sizeOf3 Y Y Y Y (K8 0 isAgg3 Y Y Y Y Y (zX Y Y Y (js Y Y Y Y (fun _ _ => jS Y) (KW 0 runUnderlying199 sizeOf92 Y Y Y Y (K8 0 isAgg92 Y Y Y Y Y ?_)))))))
   refine js Y Y Y Y (fun w _ => k7 hna0 (runUnderlying92 w) Y) (js Y Y Y Y (fun _ _ => Zq Y Y) (kg (jb ?_)))
   refine jw Y (fun h3 => ?_) (fun h3 => ?_)
   ·replace hm := ifD h3 hm
    refine qr none (.free 0 (.free 1 (.free 2 (.free 3 (.hoist 4 (.free 5 (.free 6 (.free 7 (.hoist 8 (.free 9 (.hoist 10 (.free 11 (.free 12 (.free 13 (.free 14 .done))))))))))))))) _ Y (by decide +kernel) (fun w k hh => hh.draw k) (fun w hh => hh) ?_
    refine zX Y Y Y (zX Y Y Y (js Y Y Y Y (fun _ _ => jS Y) (KW 0 runUnderlying199 sizeOf92 Y Y Y Y (K8 0 isAgg92 Y Y Y Y Y (zX Y Y Y (js Y Y Y Y (fun _ _ => jS Y) (KW 1 runUnderlying199 sizeOf3 Y Y Y Y ?_)))))))
    refine K8 0 isAgg3 Y Y Y Y Y ?_
    obtain ⟨t29, h4, hm⟩ := bindO hm
    refine js Y Y Y Y (fun w _ => Je h4 (runUnderlying92 w) (sizeOf5 w) Y Y hna0 hqa0) (jz Y Y Y Y (fun w hh => zH RU8 0 h4 (isAgg5 w) Y (hh.seg 0 Y) Y (Nat.add_zero _).symm) (js Y Y Y Y (fun w _ => YN (runUnderlying5 w) (runUnderlying197 w) Y) (js Y Y Y Y (fun _ _ => ZR Y Y) (js Y Y Y Y (fun _ _ => Zn Y Y) (js Y Y Y Y (fun _ _ => kA Y) (kg ?_))))))
    obtain rfl := sj hm
    exact jj () (trivial) (sE Y) (fun w hh => hh)
   replace hm := ifE h3 hm
   refine jx ?_
   obtain rfl := sj hm
   exact jj () (trivial) (sE Y) (fun w hh => hh)
  intro l hj
  replace hm := h2
  refine jb (ji ?_)
  obtain ⟨o_1, h5, h6⟩ := bindO hm
  refine kf (ι := Unit) (fun l_1 => True) (fun l_1 => [(3, .int .u32 o)]) (fun l_1 => [kc pb #[.slice qa0 na0 ca0, .int .i64 o_1.h0_1, .int .u32 o_1.h0_2] 199]) (fun l_1 => []) ?_ ?_
  ·replace hm := h5
   refine jt (jg Y Y (jc Y Y Y (fun _ _ => jS Y) (qU 1 runUnderlying199 Y sizeOf3 Y Y (qJ 0 isAgg3 Y Y Y Y ?_))))
   obtain ⟨t38, h7, hm⟩ := bindO hm
   refine JQ h7 Y Y Y (jc Y Y Y (fun _ _ => jS Y) (qU 1 runUnderlying199 Y sizeOf3 Y Y (yf (cs' := #[_, _, _]) (S' := [_]) 0 (fun w => sizeOf3 w) Y Y Y Y Y Y Y (jq (ji ?_)))))
   refine qr none (.free 0 (.free 1 (.free 2 (.hoist 3 (.free 4 (.free 5 (.free 6 (.hoist 7 (.free 8 (.free 9 .done)))))))))) _ Y (by decide +kernel) (fun w k hh => hh.draw k) (fun w hh => hh) ?_
   refine zX Y Y Y (js Y Y Y Y (fun _ _ => jS Y) (KW 1 runUnderlying199 sizeOf3 Y Y Y Y (K8 0 isAgg3 Y Y Y Y Y (zX Y Y Y (js Y Y Y Y (fun _ _ => jS Y) (KW 0 runUnderlying199 sizeOf92 Y Y Y Y (K8 0 isAgg92 Y Y Y Y Y ?_)))))))
   refine js Y Y Y Y (fun w _ => k7 hna0 (runUnderlying92 w) Y) (js Y Y Y Y (fun _ _ => QL Y Y) (kg (jb ?_)))
   refine jw Y (fun h8 => ?_) (fun h8 => ?_)
   ·replace hm := ifD h8 hm
    refine je (jg Y Y (jg Y Y (jg Y Y (jc Y Y Y (fun _ _ => jS Y) (qU 2 runUnderlying199 Y sizeOf197 Y Y (qJ 0 isAgg197 Y Y Y Y (jc Y Y Y (fun _ _ => Zn Y Y) ?_)))))))
    refine jc Y Y Y (fun _ _ => jS Y) (qU 1 runUnderlying199 Y sizeOf3 Y Y (yf (cs' := #[_, _, _]) (S' := [_]) 0 (fun w => sizeOf3 w) Y Y Y Y Y Y Y (jc Y Y Y (fun _ _ => jS Y) (qU 2 runUnderlying199 Y sizeOf197 Y Y (yf (cs' := #[_, _, _]) (S' := [_]) 0 (fun w => sizeOf197 w) Y Y Y Y Y Y Y (ju ?_))))))
    obtain rfl := sj hm
    exact jj () (trivial) (sE Y) (fun w hh => hh)
   replace hm := ifE h8 hm
   refine jx ?_
   obtain rfl := sj hm
   exact jj () (trivial) (sE Y) (fun w hh => hh)
  intro l_1 hj
  replace hm := h6
  refine jb (jt (jg Y Y (jg Y Y (jc Y Y Y (fun _ _ => jaj Y Y (by decide)) (jc Y Y Y (fun _ _ => ZQ Y Y Y) (jc Y Y Y (fun _ _ => ZQ Y Y Y) (jc Y Y Y (fun w _ => YN (runUnderlying197 w) (runUnderlying3 w) Y) ?_)))))))
  refine jo Y Y (jq (jv ?_))
  obtain rfl := sj hm
  refine jl Y (fun w hh => (.tmp Y .nil)) (fun w hh => ⟨(), rfl, trivial, hh.se [0] [] 1 Y Y Y rfl⟩)
structure yJ where
  r0 : Int
  h0_1 : Int
  h0_2 : Int
def kE (h00 : (List Int)) (h01 : Int) (h02 : Int) (n1 : Int) : Option yJ :=
 (zo h00 h01 h02).bind fun t6 =>
 (addc n1 1).bind fun t8 =>
 (remc t6.r0 (max 1 t8)).bind fun t10 =>
 some (⟨t10, t6.h0_1, t6.h0_2⟩ : yJ)
theorem ye (h00 : (List Int)) (h01 : Int) (h02 : Int) (n1 : Int) (pb : Nat) (qa0 : Option Addr) (na0 ca0 : Nat) (w : World) (hw : HV w (keys [kc pb #[.slice qa0 na0 ca0, .int .i64 h01, .int .u32 h02] 199] []) [kc pb #[.slice qa0 na0 ca0, .int .i64 h01, .int .u32 h02] 199] [] [(aB qa0, aO qa0, RU8.enc h00)] w) (hna0 : h00.length = na0) (hqa0 : AOK na0 qa0) (hla0 : na0 ≤ ca0) {res : yJ} (hm : kE h00 h01 h02 n1 = some res) :
    Calls Tryz.prog 146 #[ptr pb 0, .int .i64 n1] w (fun en w' => ∃ l : Unit, en = .returned (.int .i64 res.r0) ∧ (True) ∧ HV w (keys [kc pb #[.slice qa0 na0 ca0, .int .i64 h01, .int .u32 h02] 199] []) [kc pb #[.slice qa0 na0 ca0, .int .i64 res.h0_1, .int .u32 res.h0_2] 199] [] [] w') := by
  unfold kE at hm
  refine ya func146 Y ntmps146 Y (e := [(0, _), (1, _)]) Y hw (jt (jo Y Y (k8 (jg Y Y ?_))))
  obtain ⟨t6, h1, hm⟩ := bindO hm
  refine jd [_] [] Y Y Y Y Y Y Y call180 (fun w hh => Yf h00 h01 h02 pb qa0 na0 ca0 w (HV.callee (S0 := [_]) (vs0 := []) hh (roR hh 0 Y roN)) hna0 hqa0 hla0 h1) (fun l h2 => ?_)
  refine kK (S' := [_]) (vs' := []) [0] [] 0 Y Y Y Y (jg Y Y ?_)
  obtain ⟨t8, h3, hm⟩ := bindO hm
  refine JQ h3 Y Y Y (jc Y Y Y (fun _ _ => YK Y Y) ?_)
  obtain ⟨t10, h4, hm⟩ := bindO hm
  refine jc Y Y Y (fun _ _ => Za h4 Y Y) (jo Y Y (jq (jv ?_)))
  obtain rfl := sj hm
  refine jl Y (fun w hh => (.tmp Y .nil)) (fun w hh => ⟨(), rfl, trivial, hh.se [0] [] 1 Y Y Y rfl⟩)
structure qC where
  r0 : Int
  h0_1 : Int
  h0_2 : Int
def yh (h00 : (List Int)) (h01 : Int) (h02 : Int) (lo1 : Int) (hi2 : Int) : Option qC :=
 (subc hi2 lo1).bind fun t11 =>
 (kE h00 h01 h02 t11).bind fun t12 =>
 (addc lo1 t12.r0).bind fun t13 =>
 some (⟨t13, t12.h0_1, t12.h0_2⟩ : qC)
theorem JZ (h00 : (List Int)) (h01 : Int) (h02 : Int) (lo1 : Int) (hi2 : Int) (pb : Nat) (qa0 : Option Addr) (na0 ca0 : Nat) (w : World) (hw : HV w (keys [kc pb #[.slice qa0 na0 ca0, .int .i64 h01, .int .u32 h02] 199] []) [kc pb #[.slice qa0 na0 ca0, .int .i64 h01, .int .u32 h02] 199] [] [(aB qa0, aO qa0, RU8.enc h00)] w) (hna0 : h00.length = na0) (hqa0 : AOK na0 qa0) (hla0 : na0 ≤ ca0) {res : qC} (hm : yh h00 h01 h02 lo1 hi2 = some res) :
    Calls Tryz.prog 145 #[ptr pb 0, .int .i64 lo1, .int .i64 hi2] w (fun en w' => ∃ l : Unit, en = .returned (.int .i64 res.r0) ∧ (True) ∧ HV w (keys [kc pb #[.slice qa0 na0 ca0, .int .i64 h01, .int .u32 h02] 199] []) [kc pb #[.slice qa0 na0 ca0, .int .i64 res.h0_1, .int .u32 res.h0_2] 199] [] [] w') := by
  unfold yh at hm
  refine ya func145 Y ntmps145 Y (e := [(0, _), (1, _), (2, _)]) Y hw (jt (jo Y Y (k8 (jg Y Y (jg Y Y (jg Y Y (jg Y Y ?_)))))))
  obtain ⟨t11, h1, hm⟩ := bindO hm
  refine jc Y Y Y (fun _ _ => y7 h1 Y Y) ?_
  obtain ⟨t12, h2, hm⟩ := bindO hm
  refine jd [_] [] Y Y Y Y Y Y Y call146 (fun w hh => ye h00 h01 h02 t11 pb qa0 na0 ca0 w (HV.callee (S0 := [_]) (vs0 := []) hh (roR hh 0 Y roN)) hna0 hqa0 hla0 h2) (fun l h3 => ?_)
  refine kK (S' := [_]) (vs' := []) [0] [] 0 Y Y Y Y ?_
  obtain ⟨t13, h4, hm⟩ := bindO hm
  refine JQ h4 Y Y Y (jo Y Y (jq (jv ?_)))
  obtain rfl := sj hm
  refine jl Y (fun w hh => (.tmp Y .nil)) (fun w hh => ⟨(), rfl, trivial, hh.se [0] [] 1 Y Y Y rfl⟩)
structure JF where
  r0 : Bool
  h0_1 : Int
  h0_2 : Int
def zk (h00 : (List Int)) (h01 : Int) (h02 : Int) (n1 : Int) : Option JF :=
 (subc n1 1).bind fun t7 =>
 (kE h00 h01 h02 t7).bind fun t8 =>
 some (⟨(decide (t8.r0 = 0)), t8.h0_1, t8.h0_2⟩ : JF)
theorem Ya (h00 : (List Int)) (h01 : Int) (h02 : Int) (n1 : Int) (pb : Nat) (qa0 : Option Addr) (na0 ca0 : Nat) (w : World) (hw : HV w (keys [kc pb #[.slice qa0 na0 ca0, .int .i64 h01, .int .u32 h02] 199] []) [kc pb #[.slice qa0 na0 ca0, .int .i64 h01, .int .u32 h02] 199] [] [(aB qa0, aO qa0, RU8.enc h00)] w) (hna0 : h00.length = na0) (hqa0 : AOK na0 qa0) (hla0 : na0 ≤ ca0) {res : JF} (hm : zk h00 h01 h02 n1 = some res) :
    Calls Tryz.prog 68 #[ptr pb 0, .int .i64 n1] w (fun en w' => ∃ l : Unit, en = .returned (.bool res.r0) ∧ (True) ∧ HV w (keys [kc pb #[.slice qa0 na0 ca0, .int .i64 h01, .int .u32 h02] 199] []) [kc pb #[.slice qa0 na0 ca0, .int .i64 res.h0_1, .int .u32 res.h0_2] 199] [] [] w') := by
  unfold zk at hm
  refine ya func68 Y ntmps68 Y (e := [(0, _), (1, _)]) Y hw (jt (jo Y Y (k8 (jg Y Y (jg Y Y ?_)))))
  obtain ⟨t7, h1, hm⟩ := bindO hm
  refine jc Y Y Y (fun _ _ => y7 h1 Y Y) ?_
  obtain ⟨t8, h2, hm⟩ := bindO hm
  refine jd [_] [] Y Y Y Y Y Y Y call146 (fun w hh => ye h00 h01 h02 t7 pb qa0 na0 ca0 w (HV.callee (S0 := [_]) (vs0 := []) hh (roR hh 0 Y roN)) hna0 hqa0 hla0 h2) (fun l h3 => ?_)
  refine kK (S' := [_]) (vs' := []) [0] [] 0 Y Y Y Y (jc Y Y Y (fun _ _ => Jd Y Y) (jo Y Y (jq (jv ?_))))
  obtain rfl := sj hm
  refine jl Y (fun w hh => (.tmp Y .nil)) (fun w hh => ⟨(), rfl, trivial, hh.se [0] [] 1 Y Y Y rfl⟩)
structure yA where
  h0_1 : Int
  h0_2 : Int
  r0 : (List Int)
structure JY where
  h0_1 : Int
  h0_2 : Int
  out5 : (List Int)
structure yT where
  t9 : Int
  h0_1 : Int
  h0_2 : Int
  out5 : (List Int)
def ym (n1 : Int) (h00 : (List Int)) (s : yT) : Option (yT ⊕ JY) :=
 if s.t9 < (max 0 n1) then
 ((kE h00 s.h0_1 s.h0_2 s.t9).bind fun t15 =>
 (zp s.out5 t15.r0 [s.t9]).bind fun t18 =>
 (addc s.t9 1).bind fun t19 =>
 some (.inl (⟨t19, t15.h0_1, t15.h0_2, t18⟩ : yT))) else
 (some (.inr (⟨s.h0_1, s.h0_2, s.out5⟩ : JY)))
def yU (h00 : (List Int)) (h01 : Int) (h02 : Int) (n1 : Int) : Option yA :=
 (iterM FU (ym n1 h00) (⟨0, h01, h02, []⟩ : yT)).bind fun o =>
 some (⟨o.h0_1, o.h0_2, o.out5⟩ : yA)
theorem QW (h00 : (List Int)) (h01 : Int) (h02 : Int) (n1 : Int) (pb : Nat) (qa0 : Option Addr) (na0 ca0 : Nat) (w : World) (hw : HV w (keys [kc pb #[.slice qa0 na0 ca0, .int .i64 h01, .int .u32 h02] 199] []) [kc pb #[.slice qa0 na0 ca0, .int .i64 h01, .int .u32 h02] 199] [] [(aB qa0, aO qa0, RU8.enc h00)] w) (hna0 : h00.length = na0) (hqa0 : AOK na0 qa0) (hla0 : na0 ≤ ca0) {res : yA} (hm : yU h00 h01 h02 n1 = some res) :
    Calls Tryz.prog 69 #[ptr pb 0, .int .i64 n1] w (fun en w' => ∃ l : VL, en = .returned (sL l) ∧ (VOK 1 l.n l.cap (RI.enc res.r0) l.sp l.q) ∧ HV w (keys [kc pb #[.slice qa0 na0 ca0, .int .i64 h01, .int .u32 h02] 199] []) [kc pb #[.slice qa0 na0 ca0, .int .i64 res.h0_1, .int .u32 res.h0_2] 199] [vL 3 l (RI.enc res.r0)] [] w') := by
  unfold yU at hm
  refine ya func69 Y ntmps69 Y (e := [(0, _), (1, _)]) Y hw (jt (jc Y Y Y (fun _ _ => q9 Y) (k8 (jc Y Y Y (fun _ _ => q9 Y) (jq (ji (jt ?_)))))))
  refine jg Y Y (jc Y Y Y (fun _ _ => YK Y Y) (jg Y Y (jq (Jt 3 ?_))))
  obtain ⟨o, h2, h3⟩ := bindO hm
  refine kf (ι := VL) (fun l => VOK 1 l.n l.cap (RI.enc o.out5) l.sp l.q) (fun l => [(5, sL l)]) (fun l => [kc pb #[.slice qa0 na0 ca0, .int .i64 o.h0_1, .int .u32 o.h0_2] 199]) (fun l => [vL 3 l (RI.enc o.out5)]) ?_ ?_
  ·replace hm := h2
   refine jp ?_
   refine ku (ι := VL) hm (fun s l_1 => VOK 1 l_1.n l_1.cap (RI.enc s.out5) l_1.sp l_1.q) (fun s l_1 => [(0, ptr pb 0), (5, sL l_1), (8, .int .i64 (max 0 n1)), (9, .int .i64 s.t9)]) (fun s l_1 => [kc pb #[.slice qa0 na0 ca0, .int .i64 s.h0_1, .int .u32 s.h0_2] 199]) (fun s l_1 => [vL 3 l_1 (RI.enc s.out5)]) ⟨none, 0, 0, []⟩ (VOK.nil) (sE Y) (fun w hh => hh) (fun s l_1 r hpl hm h6 => ?_)
   have h5 := hpl
   unfold ym at hm
   refine jt (JP Y Y Y (jq (ji ?_)))
   refine jw Y (fun h7 => ?_) (fun h7 => ?_)
   ·replace hm := ifD h7 hm
    refine jx (jb (ji (jp (jt (jg Y Y (jo Y Y (jq ?_)))))))
    refine je (jg Y Y (jg Y Y (jg Y Y ?_)))
    obtain ⟨t15, h8, hm⟩ := bindO hm
    refine jd [_] [] Y Y Y Y Y Y Y call146 (fun w hh => ye h00 s.h0_1 s.h0_2 s.t9 pb qa0 na0 ca0 w (HV.callee (S0 := [_]) (vs0 := []) hh (roR hh 0 Y roN)) hna0 hqa0 hla0 h8) (fun l_2 h9 => ?_)
    refine kK (S' := [_]) (vs' := [_]) [0] [0] 0 Y Y Y Y (jg Y Y ?_)
    refine qq RI [s.t9] (ps := [(0, _)]) (cells := [_]) (fun w => runUnderlying22 w) (fun w => sizeOf3 w) (fun w => zeroValue3 w) Y Y Y Y Y Y Y Y (fun L h10 => ?_)
    obtain ⟨t18, h11, hm⟩ := bindO hm
    refine kK (S' := [_]) (vs' := [_, _]) [0] [1, 0] 0 Y Y Y Y ?_
    refine jd [] [_, _] Y Y Y Y Y Y Y call149 (fun w hh => QX s.out5 t15.r0 [s.t9] ⟨l_1.q, l_1.n, l_1.cap, l_1.sp⟩ ⟨L.q, L.n, L.cap, L.sp⟩ w (HV.callee (S0 := []) (vs0 := [_, _]) hh roN) h5 h10 h11) (fun l_3 h12 => ?_)
    have h13 := h12
    refine kK (S' := [_]) (vs' := [_, _]) [0] [0, 1] 0 Y Y Y Y (jo Y Y (ju (jy (jb (je ?_)))))
    obtain ⟨t19, h14, hm⟩ := bindO hm
    refine JQ h14 Y Y Y (jg Y Y (ju ?_))
    obtain rfl := sj hm
    refine jb ?_
    exact jO _ l_3 Y (h13) (sE Y) (hsE [0] [0] 0 Y Y Y Y)
   replace hm := ifE h7 hm
   refine kQ (jn (jn (jP ?_)))
   obtain rfl := sj hm
   have hbo := h6 _ Y
   subst hbo
   exact jj l_1 (h5) (sE Y) (fun w hh => hh)
  intro l hj
  have h4 := hj
  replace hm := h3
  refine jb (jt (jg Y Y (jo Y Y (jq (jv ?_)))))
  obtain rfl := sj hm
  refine jl Y (fun w hh => (.tmp Y .nil)) (fun w hh => ⟨l, rfl, h4, hh.se [0] [0] 1 Y Y Y rfl⟩)
structure qv where
  r5 : Int
  t11 : Int
def qw (c0 : Channel) (cell1 : Int) (s : qv) : Option (qv ⊕ Int) :=
 if s.t11 < (c0.sands.length : Int) then
 (((ix c0.sands s.t11).bind fun t13 =>
 (if t13.span.lo ≤ cell1 then
 (some (decide (cell1 ≤ t13.span.hi))) else
 (some false)).bind fun o_2 =>
 if o_2 = true then
 (some (max s.r5 t13.reach)) else
 (some s.r5)).bind fun o_1 =>
 (addc s.t11 1).bind fun t31 =>
 some (.inl (⟨o_1, t31⟩ : qv))) else
 (some (.inr s.r5))
def k9 (c0 : Channel) (cell1 : Int) : Option Int :=
 (iterM FU (qw c0 cell1) (⟨0, 0⟩ : qv)).bind fun o =>
 some o
theorem z7 (c0 : Channel) (cell1 : Int) (qa0 : Option Addr) (na0 ca0 : Nat) (qa1 : Option Addr) (na1 ca1 : Nat) (qa2 : Option Addr) (na2 ca2 : Nat) (w : World) (hw : HV w (keys [] []) [] [] [(aB qa0, aO qa0, RI.enc c0.fords), (aB qa1, aO qa1, RSa.enc c0.sands), (aB qa2, aO qa2, RSi.enc c0.sights)] w) (hna0 : c0.fords.length = na0) (hqa0 : AOK na0 qa0) (hla0 : na0 ≤ ca0) (hna1 : c0.sands.length = na1) (hqa1 : AOK na1 qa1) (hla1 : na1 ≤ ca1) (hna2 : c0.sights.length = na2) (hqa2 : AOK na2 qa2) (hla2 : na2 ≤ ca2) {res : Int} (hm : k9 c0 cell1 = some res) :
    Calls Tryz.prog 63 #[.agg #[.int .i64 c0.cells, .int .i64 c0.tides, .slice qa0 na0 ca0, .slice qa1 na1 ca1, .slice qa2 na2 ca2], .int .i64 cell1] w (fun en w' => ∃ l : Unit, en = .returned (.int .i64 res) ∧ (True) ∧ HV w (keys [] []) [] [] [] w') := by
  unfold k9 at hm
  refine ya func63 Y ntmps63 Y (e := [(0, _), (1, _)]) Y hw (jt ?_)
  refine jI Y Y (fun b h1 => ?_)
  refine jo Y Y (k8 (jo Y Y (jq (ji (jt (qU 3 runUnderlying26 Y sizeOf23 Y Y (qJ 0 isAgg23 Y Y Y Y ?_)))))))
  refine jc Y Y Y (fun w _ => k7 hna1 (runUnderlying23 w) Y) (jg Y Y (jq ?_))
  obtain ⟨o, h2, h3⟩ := bindO hm
  refine kf (ι := Unit) (fun l => True) (fun l => [(5, .int .i64 o)]) (fun l => [kc b #[.int .i64 c0.cells, .int .i64 c0.tides, .slice qa0 na0 ca0, .slice qa1 na1 ca1, .slice qa2 na2 ca2] 26]) (fun l => []) ?_ ?_
  ·replace hm := h2
   refine jp ?_
   refine ku (ι := Unit) hm (fun s l_1 => True) (fun s l_1 => [(1, .int .i64 cell1), (5, .int .i64 s.r5), (9, .slice qa1 na1 ca1), (10, .int .i64 (c0.sands.length : Int)), (11, .int .i64 s.t11)]) (fun s l_1 => [kc b #[.int .i64 c0.cells, .int .i64 c0.tides, .slice qa0 na0 ca0, .slice qa1 na1 ca1, .slice qa2 na2 ca2] 26]) (fun s l_1 => []) () (trivial) (sE Y) (fun w hh => hh) (fun s l_1 r hpl hm h4 => ?_)
   unfold qw at hm
   refine jt (JP Y Y Y (jq (ji ?_)))
   refine jw Y (fun h5 => ?_) (fun h5 => ?_)
   ·replace hm := ifD h5 hm
    refine jx (jb (ji ?_))
    obtain ⟨o_1, h6, h7⟩ := bindO hm
    refine kf (ι := Unit) (fun l_2 => True) (fun l_2 => [(1, .int .i64 cell1), (5, .int .i64 o_1), (9, .slice qa1 na1 ca1), (10, .int .i64 (c0.sands.length : Int)), (11, .int .i64 s.t11)]) (fun l_2 => [kc b #[.int .i64 c0.cells, .int .i64 c0.tides, .slice qa0 na0 ca0, .slice qa1 na1 ca1, .slice qa2 na2 ca2] 26]) (fun l_2 => []) ?_ ?_
    ·replace hm := h6
     refine jp (jt ?_)
     obtain ⟨t13, h8, hm⟩ := bindO hm
     refine jc Y Y Y (fun w _ => Je h8 (runUnderlying23 w) (sizeOf98 w) Y Y hna1 hqa1) ?_
     refine jc Y Y Y (fun w hh => JJ RSa 0 [.int .i64 t13.span.lo, .int .i64 t13.span.hi, .int .i64 t13.reach] h8 (isAgg98 w) (sizeOf98 w) Y (hh.seg 1 Y) Y (Nat.add_zero _).symm) ?_
     refine jr (fun w => zeroValue98 w) Y (fun b_1 h9 => ?_)
     refine kz (us := #[_, _, _]) (cs' := [_, _, _]) (S' := [_, _]) 0 (fun w => sizeOf98 w) Y Y Y Y Y Y Y (jq (ji ?_))
     obtain ⟨o_2, h10, h11⟩ := bindO hm
     refine kf (ι := Unit) (fun l_3 => True) (fun l_3 => [(1, .int .i64 cell1), (5, .int .i64 s.r5), (7, ptr b_1 0), (9, .slice qa1 na1 ca1), (10, .int .i64 (c0.sands.length : Int)), (11, .int .i64 s.t11), (26, .bool o_2)]) (fun l_3 => [kc b_1 #[.int .i64 t13.span.lo, .int .i64 t13.span.hi, .int .i64 t13.reach] 98, kc b #[.int .i64 c0.cells, .int .i64 c0.tides, .slice qa0 na0 ca0, .slice qa1 na1 ca1, .slice qa2 na2 ca2] 26]) (fun l_3 => []) ?_ ?_
     ·replace hm := h10
      refine je (qU 0 runUnderlying98 Y sizeOf50 Y Y (qU 0 runUnderlying50 Y sizeOf3 Y Y (qJ 0 isAgg3 Y Y Y Y (jg Y Y (jc Y Y Y (fun _ _ => YV Y Y) (jg Y Y ?_))))))
      refine jJ 20 Y (fun h12 => ?_) (fun h12 => ?_)
      ·replace hm := ifD h12 hm
       refine ja Y Y (jg Y Y (ja Y Y (qU 0 runUnderlying98 Y sizeOf50 Y Y (ja Y Y (qU 1 runUnderlying50 Y sizeOf3 Y Y (ja Y Y (qJ 0 isAgg3 Y Y Y Y ?_)))))))
       refine ja Y Y (jc Y Y Y (fun _ _ => YV Y Y) (qF Y Y Y (ju ?_)))
       obtain rfl := sj hm
       exact jj () (trivial) (sE Y) (fun w hh => hh)
      replace hm := ifE h12 hm
      refine g_k Y Y Y Y (g_k Y Y Y Y (g_k Y Y Y Y (g_k Y Y Y Y (g_k Y Y Y Y (yo Y Y Y (ju ?_))))))
      obtain rfl := sj hm
      exact jj () (trivial) (sE Y) (fun w hh => hh)
     intro l_3 hj
     replace hm := h11
     refine jb ?_
     refine jw Y (fun h13 => ?_) (fun h13 => ?_)
     ·replace hm := ifT (h13) hm
      refine je (jg Y Y (qU 2 runUnderlying98 Y sizeOf3 Y Y (qJ 0 isAgg3 Y Y Y Y (jc Y Y Y (fun _ _ => YK Y Y) (jo Y Y (ju (jy ?_)))))))
      obtain rfl := sj hm
      exact jj () (trivial) (sE Y) (hsE [1] [] 0 Y Y Y Y)
     replace hm := ifN h13 hm
     refine jx (jy ?_)
     obtain rfl := sj hm
     exact jj () (trivial) (sE Y) (hsE [1] [] 0 Y Y Y Y)
    intro l_2 hj
    replace hm := h7
    refine jb (je ?_)
    obtain ⟨t31, h14, hm⟩ := bindO hm
    refine JQ h14 Y Y Y (jg Y Y (ju ?_))
    obtain rfl := sj hm
    refine jb ?_
    exact jO _ () Y (trivial) (sE Y) (fun w hh => hh)
   replace hm := ifE h5 hm
   refine kQ (jn (jn (jP ?_)))
   obtain rfl := sj hm
   have hbo := h4 _ Y
   subst hbo
   exact jj () (trivial) (sE Y) (fun w hh => hh)
  intro l hj
  replace hm := h3
  refine jb (jt (jg Y Y (jo Y Y (jq (jv ?_)))))
  obtain rfl := sj hm
  refine jl Y (fun w hh => (.tmp Y .nil)) (fun w hh => ⟨(), rfl, trivial, hh.se [] [] 3 Y Y Y rfl⟩)
structure yM where
  b0_1 : Int
  b0_2 : Int
  r0 : (List (List Int))
structure zN where
  b0_1 : Int
  b0_2 : Int
  out5 : (List (List Int))
structure qK where
  t17 : Int
  b0_1 : Int
  b0_2 : Int
  out5 : (List (List Int))
structure zK where
  b0_1 : Int
  b0_2 : Int
  r0 : (List Int)
structure qH where
  t33 : Int
  b0_1 : Int
  b0_2 : Int
  r0 : (List Int)
structure zP where
  b0_1 : Int
  b0_2 : Int
  r0 : (List Int)
def k3 (t31 : yA) (t27 : (List Int)) (c1 : Channel) (b00 : (List Int)) (s_1 : qH) : Option (qH ⊕ zK) :=
 if s_1.t33 < (t31.r0.length : Int) then
 (((ix t31.r0 s_1.t33).bind fun t35 =>
 (ix t27 t35).bind fun t39 =>
 (ix t27 t35).bind fun t45 =>
 (ix t27 t35).bind fun t52 =>
 (k9 c1 t45).bind fun t47 =>
 (negc t47).bind fun t48 =>
 (k9 c1 t52).bind fun t54 =>
 (yh b00 s_1.b0_1 s_1.b0_2 t48 t54).bind fun t55 =>
 (addc t39 t55.r0).bind fun t56 =>
 (if 0 ≤ t56 then
 (if t56 < c1.cells then
 (if t35 = 0 then
 ((subc (s_1.r0.length : Int) 1).bind fun t82 =>
 if t35 = t82 then
 (some true) else
 ((addc t35 1).bind fun t88 =>
 (ix s_1.r0 t88).bind fun t89 =>
 some (decide (t56 < t89)))) else
 ((subc t35 1).bind fun t72 =>
 (ix s_1.r0 t72).bind fun t73 =>
 if t73 < t56 then
 ((subc (s_1.r0.length : Int) 1).bind fun t82_1 =>
 if t35 = t82_1 then
 (some true) else
 ((addc t35 1).bind fun t88_1 =>
 (ix s_1.r0 t88_1).bind fun t89_1 =>
 some (decide (t56 < t89_1)))) else
 (some false))) else
 (some false)) else
 (some false)).bind fun o_3 =>
 if o_3 = true then
 ((ix s_1.r0 t35).bind fun t97 =>
 (some (s_1.r0.set (Int.toNat t35) t56)).bind fun r0 =>
 some (⟨t55.h0_1, t55.h0_2, r0⟩ : zP)) else
 (some (⟨t55.h0_1, t55.h0_2, s_1.r0⟩ : zP))).bind fun o_2 =>
 (addc s_1.t33 1).bind fun t98 =>
 some (.inl (⟨t98, o_2.b0_1, o_2.b0_2, o_2.r0⟩ : qH))) else
 (some (.inr (⟨s_1.b0_1, s_1.b0_2, s_1.r0⟩ : zK)))
def k5 (c1 : Channel) (b00 : (List Int)) (s : qK) : Option (qK ⊕ zN) :=
 if s.t17 < c1.tides then
 ((subc (s.out5.length : Int) 1).bind fun t22 =>
 (ix s.out5 t22).bind fun t23 =>
 (zm t23).bind fun t25 =>
 (zm t25).bind fun t27 =>
 (yU b00 s.b0_1 s.b0_2 (t25.length : Int)).bind fun t31 =>
 (iterM FU (k3 t31 t27 c1 b00) (⟨0, t31.h0_1, t31.h0_2, t25⟩ : qH)).bind fun o_1 =>
 (appc 24 s.out5 [o_1.r0]).bind fun t102 =>
 (addc s.t17 1).bind fun t103 =>
 some (.inl (⟨t103, o_1.b0_1, o_1.b0_2, t102⟩ : qK))) else
 (some (.inr (⟨s.b0_1, s.b0_2, s.out5⟩ : zN)))
def qx (b00 : (List Int)) (b01 : Int) (b02 : Int) (c1 : Channel) : Option yM :=
 (zm c1.fords).bind fun t13 =>
 (iterM FU (k5 c1 b00) (⟨0, b01, b02, [t13]⟩ : qK)).bind fun o =>
 some (⟨o.b0_1, o.b0_2, o.out5⟩ : yM)
theorem K3 (b00 : (List Int)) (b01 : Int) (b02 : Int) (c1 : Channel) (pb : Nat) (qa0 : Option Addr) (na0 ca0 : Nat) (qa1 : Option Addr) (na1 ca1 : Nat) (qa2 : Option Addr) (na2 ca2 : Nat) (qa3 : Option Addr) (na3 ca3 : Nat) (w : World) (hw : HV w (keys [kc pb #[.slice qa0 na0 ca0, .int .i64 b01, .int .u32 b02] 199] []) [kc pb #[.slice qa0 na0 ca0, .int .i64 b01, .int .u32 b02] 199] [] [(aB qa0, aO qa0, RU8.enc b00), (aB qa1, aO qa1, RI.enc c1.fords), (aB qa2, aO qa2, RSa.enc c1.sands), (aB qa3, aO qa3, RSi.enc c1.sights)] w) (hna0 : b00.length = na0) (hqa0 : AOK na0 qa0) (hla0 : na0 ≤ ca0) (hna1 : c1.fords.length = na1) (hqa1 : AOK na1 qa1) (hla1 : na1 ≤ ca1) (hna2 : c1.sands.length = na2) (hqa2 : AOK na2 qa2) (hla2 : na2 ≤ ca2) (hna3 : c1.sights.length = na3) (hqa3 : AOK na3 qa3) (hla3 : na3 ≤ ca3) {res : yM} (hm : qx b00 b01 b02 c1 = some res) :
    Calls Tryz.prog 78 #[ptr pb 0, .agg #[.int .i64 c1.cells, .int .i64 c1.tides, .slice qa1 na1 ca1, .slice qa2 na2 ca2, .slice qa3 na3 ca3]] w (fun en w' => ∃ l : DL, en = .returned (sL l.v) ∧ (VOK 1 l.v.n l.v.cap (RwH.enc l.rs) l.v.sp l.v.q ∧ DOK RI res.r0 l.rs) ∧ HV w (keys [kc pb #[.slice qa0 na0 ca0, .int .i64 b01, .int .u32 b02] 199] []) [kc pb #[.slice qa0 na0 ca0, .int .i64 res.b0_1, .int .u32 res.b0_2] 199] [⟨22, RwH.enc l.rs, l.v.sp, l.v.q, dbl 3 RI res.r0 l.rs⟩] [] w') := by
  unfold qx at hm
  refine ya func78 Y ntmps78 Y (e := [(0, _), (1, _)]) Y hw (jt ?_)
  refine jI Y Y (fun b h3 => ?_)
  refine jc Y Y Y (fun _ _ => q9 Y) (k8 (qU 2 runUnderlying26 Y sizeOf22 Y Y (qJ 0 isAgg22 Y Y Y Y ?_)))
  obtain ⟨t13, h4, hm⟩ := bindO hm
  refine jd [] [] Y Y Y Y Y Y Y call46 (fun w hh => KP c1.fords qa1 na1 ca1 w (HV.callee (S0 := []) (vs0 := []) hh (roR hh 1 Y roN)) hna1 hqa1 hla1 h4) (fun l h5 => ?_)
  have h6 := h5
  refine kK (S' := [_, _]) (vs' := [_]) [0, 1] [0] 0 Y Y Y Y ?_
  refine qq RwH [(⟨l.q, l.n, l.cap, l.sp⟩ : VL)] (ps := [(0, _)]) (cells := [_]) (fun w => runUnderlying41 w) (fun w => sizeOf22 w) (fun w => zeroValue22 w) Y Y Y Y Y Y Y Y (fun L h7 => ?_)
  refine Yt (E2 := 3) RI 1 (Y : _ = ([[]] : List (List Int))) (fun h8 => ?_)
  refine kK (S' := [_, _]) (vs' := [_, _]) [0, 1] [0, 1] 0 Y Y Y Y ?_
  refine Yv RI (l' := [t13]) 0 l.n l.cap h8 h6 Y Y (fun h9 => ?_)
  have h10 : DOK RI [t13] [(⟨l.q, l.n, l.cap, l.sp⟩ : VL)] := h9
  refine Zg (S' := [_, _]) (vs' := [⟨22, RwH.enc [(⟨l.q, l.n, l.cap, l.sp⟩ : VL)], L.sp, L.q, dbl 3 RI [t13] [(⟨l.q, l.n, l.cap, l.sp⟩ : VL)]⟩]) [0, 1] [0] 0 (by decide) (by decide) Y Y Y ?_
  refine jo Y Y (jq (ji (jt (qU 1 runUnderlying26 Y sizeOf3 Y Y (qJ 0 isAgg3 Y Y Y Y (jg Y Y (jq ?_)))))))
  obtain ⟨o, h11, h12⟩ := bindO hm
  refine kf (ι := DL) (fun l_1 => VOK 1 l_1.v.n l_1.v.cap (RwH.enc l_1.rs) l_1.v.sp l_1.v.q ∧ DOK RI o.out5 l_1.rs) (fun l_1 => [(5, sL l_1.v)]) (fun l_1 => [kc b #[.int .i64 c1.cells, .int .i64 c1.tides, .slice qa1 na1 ca1, .slice qa2 na2 ca2, .slice qa3 na3 ca3] 26, kc pb #[.slice qa0 na0 ca0, .int .i64 o.b0_1, .int .u32 o.b0_2] 199]) (fun l_1 => [⟨22, RwH.enc l_1.rs, l_1.v.sp, l_1.v.q, dbl 3 RI o.out5 l_1.rs⟩]) ?_ ?_
  ·replace hm := h11
   refine jp ?_
   refine ku (ι := DL) hm (fun s l_2 => VOK 1 l_2.v.n l_2.v.cap (RwH.enc l_2.rs) l_2.v.sp l_2.v.q ∧ DOK RI s.out5 l_2.rs) (fun s l_2 => [(0, ptr pb 0), (3, ptr b 0), (5, sL l_2.v), (16, .int .i64 c1.tides), (17, .int .i64 s.t17)]) (fun s l_2 => [kc b #[.int .i64 c1.cells, .int .i64 c1.tides, .slice qa1 na1 ca1, .slice qa2 na2 ca2, .slice qa3 na3 ca3] 26, kc pb #[.slice qa0 na0 ca0, .int .i64 s.b0_1, .int .u32 s.b0_2] 199]) (fun s l_2 => [⟨22, RwH.enc l_2.rs, l_2.v.sp, l_2.v.q, dbl 3 RI s.out5 l_2.rs⟩]) (⟨⟨L.q, L.n, L.cap, L.sp⟩, [(⟨l.q, l.n, l.cap, l.sp⟩ : VL)]⟩) (⟨h7, h10⟩) (sE Y) (fun w hh => hh) (fun s l_2 r hpl hm h17 => ?_)
   obtain ⟨h15, h16⟩ := hpl
   unfold k5 at hm
   refine jt (JP Y Y Y (jq (ji ?_)))
   refine jw Y (fun h18 => ?_) (fun h18 => ?_)
   ·replace hm := ifD h18 hm
    refine jx (jb (ji (jp (jt (jg Y Y (jg Y Y (jc Y Y Y (fun w _ => Jk (Eq.trans (h16).len (vlen RwH h15 Y)) (runUnderlying41 w) Y) ?_)))))))
    obtain ⟨t22, h19, hm⟩ := bindO hm
    refine jc Y Y Y (fun _ _ => y7 h19 Y Y) ?_
    obtain ⟨t23, h20, hm⟩ := bindO hm
    obtain ⟨L_1, h21, h22⟩ := (h16).row h20
    refine jc Y Y Y (fun w _ => J8 h21 (runUnderlying41 w) (sizeOf22 w) Y Y (vlen RwH h15 Y) (vne h15)) (jc Y Y Y (fun w hh => zH RwH 0 h21 (isAgg22 w) Y (hh.vseg 0 Y h15) Y (Nat.add_zero _).symm) ?_)
    obtain ⟨t25, h23, hm⟩ := bindO hm
    refine jd [] [] Y Y Y Y Y Y Y call46 (fun w hh => KP t23 (qA L_1.q) L_1.n L_1.cap w (HV.callee (S0 := []) (vs0 := []) hh (roC (hh.dsepA (S0 := []) (vs0 := []) 0 Y h20 h21 h22) roN)) (vlen RI h22 Y) (AOK.q (vne h22)) (h22).hle h23) (fun l_3 h24 => ?_)
    have h25 := h24
    refine kK (S' := [_, _]) (vs' := [_, _]) [0, 1] [0, 1] 0 Y Y Y Y (jo Y Y (k8 (jg Y Y ?_)))
    obtain ⟨t27, h26, hm⟩ := bindO hm
    refine jd [] [] Y Y Y Y Y Y Y call46 (fun w hh => KP t25 (qA l_3.q) l_3.n l_3.cap w (HV.callee (S0 := []) (vs0 := []) hh (roC (hh.vsepA 0 Y h25) roN)) (vlen RI h25 Y) (AOK.q (vne h25)) (h25).hle h26) (fun l_4 h27 => ?_)
    have h28 := h27
    refine kK (S' := [_, _]) (vs' := [_, _, _]) [0, 1] [0, 1, 2] 0 Y Y Y Y (jo Y Y (jq (ji (jt (jg Y Y (jg Y Y (jc Y Y Y (fun w _ => Jk (vlen RI h25 Y) (runUnderlying22 w) Y) ?_)))))))
    obtain ⟨t31, h29, hm⟩ := bindO hm
    refine kK (S' := [_, _]) (vs' := [_, _, _]) [1, 0] [0, 1, 2] 0 Y Y Y Y ?_
    refine jd [_] [] Y Y Y Y Y Y Y call69 (fun w hh => QW b00 s.b0_1 s.b0_2 (t25.length : Int) pb qa0 na0 ca0 w (HV.callee (S0 := [_]) (vs0 := []) hh (roR hh 0 Y roN)) hna0 hqa0 hla0 h29) (fun l_5 h30 => ?_)
    have h31 := h30
    refine kK (S' := [_, _]) (vs' := [_, _, _, _]) [0, 1] [0, 1, 2, 3] 0 Y Y Y Y (jc Y Y Y (fun w _ => Jk (vlen RI h31 Y) (runUnderlying22 w) Y) (jg Y Y (jq ?_)))
    obtain ⟨o_1, h32, h33⟩ := bindO hm
    refine kf (ι := Unit) (fun l_6 => VOK 1 l_3.n l_3.cap (RI.enc o_1.r0) l_3.sp l_3.q) (fun l_6 => [(0, ptr pb 0), (3, ptr b 0), (5, sL l_2.v), (6, sL l_3), (16, .int .i64 c1.tides), (17, .int .i64 s.t17)]) (fun l_6 => [kc pb #[.slice qa0 na0 ca0, .int .i64 o_1.b0_1, .int .u32 o_1.b0_2] 199, kc b #[.int .i64 c1.cells, .int .i64 c1.tides, .slice qa1 na1 ca1, .slice qa2 na2 ca2, .slice qa3 na3 ca3] 26]) (fun l_6 => [⟨22, RwH.enc l_2.rs, l_2.v.sp, l_2.v.q, dbl 3 RI s.out5 l_2.rs⟩, vL 3 l_3 (RI.enc o_1.r0)]) ?_ ?_
    ·replace hm := h32
     refine jp ?_
     refine ku (ι := Unit) hm (fun s_1 l_7 => VOK 1 l_3.n l_3.cap (RI.enc s_1.r0) l_3.sp l_3.q) (fun s_1 l_7 => [(0, ptr pb 0), (3, ptr b 0), (5, sL l_2.v), (6, sL l_3), (7, sL l_4), (16, .int .i64 c1.tides), (17, .int .i64 s.t17), (31, sL l_5), (32, .int .i64 (t31.r0.length : Int)), (33, .int .i64 s_1.t33)]) (fun s_1 l_7 => [kc pb #[.slice qa0 na0 ca0, .int .i64 s_1.b0_1, .int .u32 s_1.b0_2] 199, kc b #[.int .i64 c1.cells, .int .i64 c1.tides, .slice qa1 na1 ca1, .slice qa2 na2 ca2, .slice qa3 na3 ca3] 26]) (fun s_1 l_7 => [⟨22, RwH.enc l_2.rs, l_2.v.sp, l_2.v.q, dbl 3 RI s.out5 l_2.rs⟩, vL 3 l_3 (RI.enc s_1.r0), vL 3 l_4 (RI.enc t27), vL 3 l_5 (RI.enc t31.r0)]) () (h25) (sE Y) (hsE [0, 1] [3, 2, 1, 0] 0 Y Y Y Y) (fun s_1 l_7 r_1 hpl hm h36 => ?_)
     have h35 := hpl
     unfold k3 at hm
     refine jt (JP Y Y Y (jq (ji ?_)))
     refine jw Y (fun h37 => ?_) (fun h37 => ?_)
     ·replace hm := ifD h37 hm
      refine jx (jb (ji ?_))
      obtain ⟨o_2, h38, h39⟩ := bindO hm
      refine kf (ι := Unit) (fun l_8 => VOK 1 l_3.n l_3.cap (RI.enc o_2.r0) l_3.sp l_3.q) (fun l_8 => [(0, ptr pb 0), (3, ptr b 0), (5, sL l_2.v), (6, sL l_3), (7, sL l_4), (16, .int .i64 c1.tides), (17, .int .i64 s.t17), (31, sL l_5), (32, .int .i64 (t31.r0.length : Int)), (33, .int .i64 s_1.t33)]) (fun l_8 => [kc pb #[.slice qa0 na0 ca0, .int .i64 o_2.b0_1, .int .u32 o_2.b0_2] 199, kc b #[.int .i64 c1.cells, .int .i64 c1.tides, .slice qa1 na1 ca1, .slice qa2 na2 ca2, .slice qa3 na3 ca3] 26]) (fun l_8 => [⟨22, RwH.enc l_2.rs, l_2.v.sp, l_2.v.q, dbl 3 RI s.out5 l_2.rs⟩, vL 3 l_3 (RI.enc o_2.r0), vL 3 l_4 (RI.enc t27), vL 3 l_5 (RI.enc t31.r0)]) ?_ ?_
      ·replace hm := h38
       refine jp (jt ?_)
       obtain ⟨t35, h41, hm⟩ := bindO hm
       refine jc Y Y Y (fun w _ => J8 h41 (runUnderlying22 w) (sizeOf3 w) Y Y (vlen RI h31 Y) (vne h31)) (jc Y Y Y (fun w hh => zH RI 0 h41 (isAgg3 w) Y (hh.vseg 3 Y h31) Y (Nat.add_zero _).symm) (jo Y Y (jq (ji ?_))))
       refine qr none (.free 0 (.free 1 (.free 2 (.hoist 3 (.free 4 (.hoist 5 (.free 6 (.free 7 (.free 8 (.hoist 9 (.hoist 12 (.free 13 (.free 14 (.free 15 (.hoist 16 (.one 10 (.free 11 (.one 17 (.one 18 (.free 19 (.free 20 .done))))))))))))))))))))) (HV _ _ [kc b #[.int .i64 c1.cells, .int .i64 c1.tides, .slice qa1 na1 ca1, .slice qa2 na2 ca2, .slice qa3 na3 ca3] 26] [⟨22, RwH.enc l_2.rs, l_2.v.sp, l_2.v.q, dbl 3 RI s.out5 l_2.rs⟩, vL 3 l_3 (RI.enc s_1.r0), vL 3 l_4 (RI.enc t27), vL 3 l_5 (RI.enc t31.r0)] _) Y (by decide +kernel) (fun w k hh => hh.draw k) (hsE [1] [0, 1, 2, 3] 0 Y Y Y Y) ?_
       refine zX Y Y Y (zX Y Y Y ?_)
       obtain ⟨t39, h42, hm⟩ := bindO hm
       refine js Y Y Y Y (fun w _ => J8 h42 (runUnderlying22 w) (sizeOf3 w) Y Y (vlen RI h28 Y) (vne h28)) (jz Y Y Y Y (fun w hh => zH RI 0 h42 (isAgg3 w) Y (hh.vseg 2 Y h28) Y (Nat.add_zero _).symm) (zX Y Y Y (jz Y Y Y Y (fun w hh => jF (vs := [_, _, _, _, _]) (isAgg26 w) (sizeOf26 w) Y (hh.cells 0 Y Y)) (zX Y Y Y (zX Y Y Y ?_)))))
       obtain ⟨t45, h43, hm⟩ := bindO hm
       refine js Y Y Y Y (fun w _ => J8 h43 (runUnderlying22 w) (sizeOf3 w) Y Y (vlen RI h28 Y) (vne h28)) (jz Y Y Y Y (fun w hh => zH RI 0 h43 (isAgg3 w) Y (hh.vseg 2 Y h28) Y (Nat.add_zero _).symm) (jz Y Y Y Y (fun w hh => jF (vs := [_, _, _, _, _]) (isAgg26 w) (sizeOf26 w) Y (hh.cells 0 Y Y)) (zX Y Y Y (zX Y Y Y ?_))))
       obtain ⟨t52, h44, hm⟩ := bindO hm
       refine js Y Y Y Y (fun w _ => J8 h44 (runUnderlying22 w) (sizeOf3 w) Y Y (vlen RI h28 Y) (vne h28)) (jz Y Y Y Y (fun w hh => zH RI 0 h44 (isAgg3 w) Y (hh.vseg 2 Y h28) Y (Nat.add_zero _).symm) (jG Y ?_))
       obtain ⟨t47, h45, hm⟩ := bindO hm
       refine jd [] [] Y Y Y Y Y Y Y call63 (fun w hh => z7 c1 t45 qa1 na1 ca1 qa2 na2 ca2 qa3 na3 ca3 w (HV.callee (S0 := []) (vs0 := []) hh (roR hh 1 Y (roR hh 2 Y (roR hh 3 Y roN)))) hna1 hqa1 hla1 hna2 hqa2 hla2 hna3 hqa3 hla3 h45) (fun l_9 h46 => ?_)
       refine jm (hsE [1] [0, 1, 2, 3] 0 Y Y Y Y) ?_
       obtain ⟨t48, h47, hm⟩ := bindO hm
       refine js Y Y Y Y (fun _ _ => Z9 h47 Y) (jG Y ?_)
       obtain ⟨t54, h48, hm⟩ := bindO hm
       refine jd [] [] Y Y Y Y Y Y Y call63 (fun w hh => z7 c1 t52 qa1 na1 ca1 qa2 na2 ca2 qa3 na3 ca3 w (HV.callee (S0 := []) (vs0 := []) hh (roR hh 1 Y (roR hh 2 Y (roR hh 3 Y roN)))) hna1 hqa1 hla1 hna2 hqa2 hla2 hna3 hqa3 hla3 h48) (fun l_10 h49 => ?_)
       refine jm (hsE [1] [0, 1, 2, 3] 0 Y Y Y Y) (jG Y ?_)
       obtain ⟨t55, h50, hm⟩ := bindO hm
       refine jd [_] [] Y Y Y Y Y Y Y call145 (fun w hh => JZ b00 s_1.b0_1 s_1.b0_2 t48 t54 pb qa0 na0 ca0 w (HV.callee (S0 := [_]) (vs0 := []) hh (roR hh 0 Y roN)) hna0 hqa0 hla0 h50) (fun l_11 h51 => ?_)
       refine kK (S' := [_, _]) (vs' := [_, _, _, _]) [0, 1] [0, 1, 2, 3] 0 Y Y Y Y (jm (hsE [1] [0, 1, 2, 3] 0 Y Y Y Y) ?_)
       obtain ⟨t56, h52, hm⟩ := bindO hm
       refine js Y Y Y Y (fun _ _ => Ka h52 Y Y) (js Y Y Y Y (fun _ _ => kA Y) (kg (jb (ji ?_))))
       obtain ⟨o_3, h53, h54⟩ := bindO hm
       refine kf (ι := Unit) (fun l_12 => True) (fun l_12 => [(0, ptr pb 0), (3, ptr b 0), (5, sL l_2.v), (6, sL l_3), (7, sL l_4), (9, .int .i64 t35), (10, .int .i64 t56), (16, .int .i64 c1.tides), (17, .int .i64 s.t17), (31, sL l_5), (32, .int .i64 (t31.r0.length : Int)), (33, .int .i64 s_1.t33), (93, .bool o_3)]) (fun l_12 => [kc pb #[.slice qa0 na0 ca0, .int .i64 t55.h0_1, .int .u32 t55.h0_2] 199, kc b #[.int .i64 c1.cells, .int .i64 c1.tides, .slice qa1 na1 ca1, .slice qa2 na2 ca2, .slice qa3 na3 ca3] 26]) (fun l_12 => [⟨22, RwH.enc l_2.rs, l_2.v.sp, l_2.v.q, dbl 3 RI s.out5 l_2.rs⟩, vL 3 l_3 (RI.enc s_1.r0), vL 3 l_4 (RI.enc t27), vL 3 l_5 (RI.enc t31.r0)]) ?_ ?_
       ·replace hm := h53
        refine je (jg Y Y (jc Y Y Y (fun _ _ => QL Y Y) (jg Y Y ?_)))
        refine jJ 59 Y (fun h55 => ?_) (fun h55 => ?_)
        ·replace hm := ifD h55 hm
         refine ja Y Y (jg Y Y (ja Y Y (qU 0 runUnderlying26 Y sizeOf3 Y Y (ja Y Y (qJ 1 isAgg3 Y Y Y Y (ja Y Y (JP Y Y Y ?_)))))))
         refine qF Y Y Y (jg Y Y ?_)
         refine jJ 65 Y (fun h56 => ?_) (fun h56 => ?_)
         ·replace hm := ifD h56 hm
          refine ja Y Y (jg Y Y (ja Y Y (jc Y Y Y (fun _ _ => Jd Y Y) (ja Y Y (jg Y Y ?_)))))
          refine jJ 68 Y (fun h57 => ?_) (fun h57 => ?_)
          ·replace hm := ifD h57 hm
           refine g_k Y Y Y Y (g_k Y Y Y Y (g_k Y Y Y Y (g_k Y Y Y Y (g_k Y Y Y Y (g_k Y Y Y Y (g_k Y Y Y Y (ja Y Y ?_)))))))
           refine qF Y Y Y (qF Y Y Y (jg Y Y (ja Y Y (jg Y Y (ja Y Y (jg Y Y (ja Y Y ?_)))))))
           refine jc Y Y Y (fun w _ => Jk (vlen RI h35 Y) (runUnderlying22 w) Y) (ja Y Y ?_)
           obtain ⟨t82, h58, hm⟩ := bindO hm
           refine jc Y Y Y (fun _ _ => y7 h58 Y Y) (ja Y Y (jc Y Y Y (fun _ _ => Jd Y Y) (ja Y Y (jg Y Y ?_))))
           refine jJ 84 Y (fun h59 => ?_) (fun h59 => ?_)
           ·replace hm := ifD h59 hm
            refine g_k Y Y Y Y (g_k Y Y Y Y (g_k Y Y Y Y (g_k Y Y Y Y (g_k Y Y Y Y (g_k Y Y Y Y (g_k Y Y Y Y (ja Y Y ?_)))))))
            refine qF Y Y Y (qF Y Y Y (ju ?_))
            obtain rfl := sj hm
            exact jj () (trivial) (sE Y) (fun w hh => hh)
           replace hm := ifE h59 hm
           refine ja Y Y (jg Y Y (ja Y Y (jg Y Y (ja Y Y (jg Y Y (ja Y Y ?_))))))
           obtain ⟨t88, h60, hm⟩ := bindO hm
           refine JQ h60 Y Y Y (ja Y Y ?_)
           obtain ⟨t89, h61, hm⟩ := bindO hm
           refine jc Y Y Y (fun w _ => J8 h61 (runUnderlying22 w) (sizeOf3 w) Y Y (vlen RI h35 Y) (vne h35)) (ja Y Y (jc Y Y Y (fun w hh => zH RI 0 h61 (isAgg3 w) Y (hh.vseg 1 Y h35) Y (Nat.add_zero _).symm) (ja Y Y (JP Y Y Y (ja Y Y (yo Y Y Y (qF Y Y Y ?_)))))))
           refine ju ?_
           obtain rfl := sj hm
           exact jj () (trivial) (sE Y) (fun w hh => hh)
          replace hm := ifE h57 hm
          refine ja Y Y (jg Y Y (ja Y Y (jg Y Y (ja Y Y (jg Y Y (ja Y Y ?_))))))
          obtain ⟨t72, h62, hm⟩ := bindO hm
          refine jc Y Y Y (fun _ _ => y7 h62 Y Y) (ja Y Y ?_)
          obtain ⟨t73, h63, hm⟩ := bindO hm
          refine jc Y Y Y (fun w _ => J8 h63 (runUnderlying22 w) (sizeOf3 w) Y Y (vlen RI h35 Y) (vne h35)) (ja Y Y (jc Y Y Y (fun w hh => zH RI 0 h63 (isAgg3 w) Y (hh.vseg 1 Y h35) Y (Nat.add_zero _).symm) (ja Y Y (jc Y Y Y (fun _ _ => Yr Y Y) (ja Y Y (yo Y Y Y (qF Y Y Y ?_)))))))
          refine jg Y Y ?_
          refine jJ 78 Y (fun h64 => ?_) (fun h64 => ?_)
          ·replace hm := ifD h64 hm
           refine ja Y Y (jg Y Y (ja Y Y (jg Y Y (ja Y Y (jc Y Y Y (fun w _ => Jk (vlen RI h35 Y) (runUnderlying22 w) Y) (ja Y Y ?_))))))
           obtain ⟨t82_1, h65, hm⟩ := bindO hm
           refine jc Y Y Y (fun _ _ => y7 h65 Y Y) (ja Y Y (jc Y Y Y (fun _ _ => Jd Y Y) (ja Y Y (jg Y Y ?_))))
           refine jJ 84 Y (fun h66 => ?_) (fun h66 => ?_)
           ·replace hm := ifD h66 hm
            refine g_k Y Y Y Y (g_k Y Y Y Y (g_k Y Y Y Y (g_k Y Y Y Y (g_k Y Y Y Y (g_k Y Y Y Y (g_k Y Y Y Y (ja Y Y ?_)))))))
            refine qF Y Y Y (qF Y Y Y (ju ?_))
            obtain rfl := sj hm
            exact jj () (trivial) (sE Y) (fun w hh => hh)
           replace hm := ifE h66 hm
           refine ja Y Y (jg Y Y (ja Y Y (jg Y Y (ja Y Y (jg Y Y (ja Y Y ?_))))))
           obtain ⟨t88_1, h67, hm⟩ := bindO hm
           refine JQ h67 Y Y Y (ja Y Y ?_)
           obtain ⟨t89_1, h68, hm⟩ := bindO hm
           refine jc Y Y Y (fun w _ => J8 h68 (runUnderlying22 w) (sizeOf3 w) Y Y (vlen RI h35 Y) (vne h35)) (ja Y Y (jc Y Y Y (fun w hh => zH RI 0 h68 (isAgg3 w) Y (hh.vseg 1 Y h35) Y (Nat.add_zero _).symm) (ja Y Y (JP Y Y Y (ja Y Y (yo Y Y Y (qF Y Y Y ?_)))))))
           refine ju ?_
           obtain rfl := sj hm
           exact jj () (trivial) (sE Y) (fun w hh => hh)
          replace hm := ifE h64 hm
          refine g_k Y Y Y Y (g_k Y Y Y Y (g_k Y Y Y Y (g_k Y Y Y Y (g_k Y Y Y Y (g_k Y Y Y Y ?_)))))
          refine jk Y Y Y Y Y ?_
          refine jk Y Y Y Y Y ?_
          refine jk Y Y Y Y Y ?_
          refine jk Y Y Y Y Y ?_
          refine jk Y Y Y Y Y ?_
          refine jk Y Y Y Y Y ?_
          refine jk Y Y Y Y Y ?_
          refine g_k Y Y Y Y (yo Y Y Y (ju ?_))
          obtain rfl := sj hm
          exact jj () (trivial) (sE Y) (fun w hh => hh)
         replace hm := ifE h56 hm
         refine g_k Y Y Y Y (g_k Y Y Y Y (g_k Y Y Y Y ?_))
         refine jk Y Y Y Y Y ?_
         refine jk Y Y Y Y Y ?_
         refine jk Y Y Y Y Y ?_
         refine jk Y Y Y Y Y ?_
         refine jk Y Y Y Y Y ?_
         refine jk Y Y Y Y Y ?_
         refine jk Y Y Y Y Y ?_
         refine g_k Y Y Y Y (yo Y Y Y (jg Y Y (g_k Y Y Y Y (g_k Y Y Y Y (g_k Y Y Y Y (g_k Y Y Y Y (g_k Y Y Y Y ?_)))))))
         refine g_k Y Y Y Y ?_
         refine jk Y Y Y Y Y ?_
         refine jk Y Y Y Y Y ?_
         refine jk Y Y Y Y Y ?_
         refine jk Y Y Y Y Y ?_
         refine jk Y Y Y Y Y ?_
         refine jk Y Y Y Y Y ?_
         refine jk Y Y Y Y Y ?_
         refine g_k Y Y Y Y (yo Y Y Y (ju ?_))
         obtain rfl := sj hm
         exact jj () (trivial) (sE Y) (fun w hh => hh)
        replace hm := ifE h55 hm
        refine g_k Y Y Y Y (g_k Y Y Y Y (g_k Y Y Y Y (g_k Y Y Y Y (yo Y Y Y (jg Y Y (g_k Y Y Y Y (g_k Y Y Y Y ?_)))))))
        refine g_k Y Y Y Y ?_
        refine jk Y Y Y Y Y ?_
        refine jk Y Y Y Y Y ?_
        refine jk Y Y Y Y Y ?_
        refine jk Y Y Y Y Y ?_
        refine jk Y Y Y Y Y ?_
        refine jk Y Y Y Y Y ?_
        refine jk Y Y Y Y Y ?_
        refine g_k Y Y Y Y (yo Y Y Y (jg Y Y (g_k Y Y Y Y (g_k Y Y Y Y (g_k Y Y Y Y (g_k Y Y Y Y (g_k Y Y Y Y ?_)))))))
        refine g_k Y Y Y Y ?_
        refine jk Y Y Y Y Y ?_
        refine jk Y Y Y Y Y ?_
        refine jk Y Y Y Y Y ?_
        refine jk Y Y Y Y Y ?_
        refine jk Y Y Y Y Y ?_
        refine jk Y Y Y Y Y ?_
        refine jk Y Y Y Y Y ?_
        refine g_k Y Y Y Y (yo Y Y Y (ju ?_))
        obtain rfl := sj hm
        exact jj () (trivial) (sE Y) (fun w hh => hh)
       intro l_12 hj
       replace hm := h54
       refine jb ?_
       refine jw Y (fun h69 => ?_) (fun h69 => ?_)
       ·replace hm := ifT (h69) hm
        refine je (jg Y Y (jg Y Y (jg Y Y ?_)))
        obtain ⟨t97, h70, hm⟩ := bindO hm
        refine jc Y Y Y (fun w _ => J8 h70 (runUnderlying22 w) (sizeOf3 w) Y Y (vlen RI h35 Y) (vne h35)) ?_
        obtain ⟨r0, hr0, hm⟩ := bindO hm
        refine jaa RI 1 0 t56 (fun w => sizeOf3 w) Y Y Y Y h35 Y (Nat.add_zero _).symm Y h70 Y Y (Option.some.inj hr0) (fun h71 => ?_)
        refine kK (S' := [_, _]) (vs' := [_, _, _, _]) [0, 1] [0, 1, 2, 3] 0 Y Y Y Y (ju (jy ?_))
        obtain rfl := sj hm
        exact jj () (h71) (sE Y) (fun w hh => hh)
       replace hm := ifN h69 hm
       refine jx (jy ?_)
       obtain rfl := sj hm
       exact jj () (h35) (sE Y) (fun w hh => hh)
      intro l_8 hj
      have h40 := hj
      replace hm := h39
      refine jb (je ?_)
      obtain ⟨t98, h72, hm⟩ := bindO hm
      refine JQ h72 Y Y Y (jg Y Y (ju ?_))
      obtain rfl := sj hm
      refine jb ?_
      exact jO _ () Y (h40) (sE Y) (fun w hh => hh)
     replace hm := ifE h37 hm
     refine kQ (jn (jn (jP ?_)))
     obtain rfl := sj hm
     have hbo := h36 _ Y
     subst hbo
     exact jj () (h35) (sE Y) (hsE [0, 1] [0, 1] 0 Y Y Y Y)
    intro l_6 hj
    have h34 := hj
    replace hm := h33
    refine jb (je (jg Y Y (jg Y Y ?_)))
    refine qq RwH [(⟨l_3.q, l_3.n, l_3.cap, l_3.sp⟩ : VL)] (ps := [(0, _)]) (cells := [_]) (fun w => runUnderlying41 w) (fun w => sizeOf22 w) (fun w => zeroValue22 w) Y Y Y Y Y Y Y Y (fun L_2 h73 => ?_)
    refine Yt (E2 := 3) RI 1 (Y : _ = ([[]] : List (List Int))) (fun h74 => ?_)
    refine kK (S' := [_, _]) (vs' := [_, _, _]) [0, 1] [0, 2, 1] 0 Y Y Y Y ?_
    refine Yv RI (l' := [o_1.r0]) 0 l_3.n l_3.cap h74 h34 Y Y (fun h75 => ?_)
    have h76 : DOK RI [o_1.r0] [(⟨l_3.q, l_3.n, l_3.cap, l_3.sp⟩ : VL)] := h75
    refine Zg (S' := [_, _]) (vs' := [⟨22, RwH.enc [(⟨l_3.q, l_3.n, l_3.cap, l_3.sp⟩ : VL)], L_2.sp, L_2.q, dbl 3 RI [o_1.r0] [(⟨l_3.q, l_3.n, l_3.cap, l_3.sp⟩ : VL)]⟩, ⟨22, RwH.enc l_2.rs, l_2.v.sp, l_2.v.q, dbl 3 RI s.out5 l_2.rs⟩]) [0, 1] [0, 1] 0 (by decide) (by decide) Y Y Y ?_
    obtain ⟨t102, h77, hm⟩ := bindO hm
    refine zA RwH 1 (appcL h77 (h16).len (h76).len) underlying41 Zr Y Y Y Y Y h15 Y Y (vlen RwH h73 Y) (AOK.q (vne h73)) (fun w hh => (hh.vsegA 0 Y h73)) Y (fun L_3 h78 _ => ?_)
    refine kK (S' := [_, _]) (vs' := [_, _]) [0, 1] [0, 1] 0 Y Y Y Y (kK (S' := [_, _]) (vs' := [_, _]) [0, 1] [1, 0] 0 Y Y Y Y ?_)
    refine Y2 RI h16 h76 (appcO h77).1.symm (fun h79 => ?_)
    refine jo Y Y (ju (jy (jb (je ?_))))
    obtain ⟨t103, h80, hm⟩ := bindO hm
    refine JQ h80 Y Y Y (jg Y Y (ju ?_))
    obtain rfl := sj hm
    refine jb ?_
    exact jO _ (⟨⟨L_3.q, L_3.n, L_3.cap, L_3.sp⟩, (l_2.rs ++ [(⟨l_3.q, l_3.n, l_3.cap, l_3.sp⟩ : VL)])⟩) Y (⟨h78, h79⟩) (sE Y) (hsE [1, 0] [0] 0 Y Y Y Y)
   replace hm := ifE h18 hm
   refine kQ (jn (jn (jP ?_)))
   obtain rfl := sj hm
   have hbo := h17 _ Y
   subst hbo
   exact jj l_2 (⟨h15, h16⟩) (sE Y) (fun w hh => hh)
  intro l_1 hj
  obtain ⟨h13, h14⟩ := hj
  replace hm := h12
  refine jb (jt (jg Y Y (jo Y Y (jq (jv ?_)))))
  obtain rfl := sj hm
  refine jl Y (fun w hh => (.tmp Y .nil)) (fun w hh => ⟨l_1, rfl, ⟨h13, h14⟩, hh.se [1] [0] 4 Y Y Y rfl⟩)
structure kp where
  r0 : Channel
  b0_1 : Int
  b0_2 : Int
  r1 : (List (List Int))
structure q4 where
  b0_1 : Int
  b0_2 : Int
  c10_fords : (List Int)
structure jT where
  t22 : Int
  b0_1 : Int
  b0_2 : Int
  c10_fords : (List Int)
structure q7 where
  b0_1 : Int
  b0_2 : Int
  c10_fords : (List Int)
structure q3 where
  t46 : Bool
  b0_1 : Int
  b0_2 : Int
def qi (t15 : qC) (fords2 : Int) (b00 : (List Int)) (s : jT) : Option (jT ⊕ q4) :=
 if s.t22 < t15.r0 then
 (((if (s.c10_fords.length : Int) < fords2 then
 ((zk b00 s.b0_1 s.b0_2 3).bind fun t32 =>
 if t32.r0 = true then
 (some (⟨true, t32.h0_1, t32.h0_2⟩ : q3)) else
 ((subc t15.r0 1).bind fun t37 =>
 if s.t22 = t37 then
 (some (⟨(decide ((s.c10_fords.length : Int) = 0)), t32.h0_1, t32.h0_2⟩ : q3)) else
 (some (⟨false, t32.h0_1, t32.h0_2⟩ : q3)))) else
 (some (⟨false, s.b0_1, s.b0_2⟩ : q3))).bind fun o_2 =>
 if o_2.t46 = true then
 ((appc 8 s.c10_fords [s.t22]).bind fun t51 =>
 some (⟨o_2.b0_1, o_2.b0_2, t51⟩ : q7)) else
 (some (⟨o_2.b0_1, o_2.b0_2, s.c10_fords⟩ : q7))).bind fun o_1 =>
 (addc s.t22 1).bind fun t53 =>
 some (.inl (⟨t53, o_1.b0_1, o_1.b0_2, o_1.c10_fords⟩ : jT))) else
 (some (.inr (⟨s.b0_1, s.b0_2, s.c10_fords⟩ : q4)))
structure Jq where
  b0_1 : Int
  b0_2 : Int
  c10_sands : (List Sand)
structure q5 where
  t56 : Int
  b0_1 : Int
  b0_2 : Int
  c10_sands : (List Sand)
structure KT where
  b0_1 : Int
  b0_2 : Int
  c10_sands : (List Sand)
def ql (t55 : yJ) (t15 : qC) (b00 : (List Int)) (s_1 : q5) : Option (q5 ⊕ Jq) :=
 if s_1.t56 < t55.r0 then
 ((subc t15.r0 1).bind fun t61 =>
 (kE b00 s_1.b0_1 s_1.b0_2 t61).bind fun t62 =>
 ((subc t15.r0 1).bind fun t68 =>
 (kE b00 t62.h0_1 t62.h0_2 4).bind fun t71 =>
 (addc t62.r0 t71.r0).bind fun t72 =>
 (yh b00 t71.h0_1 t71.h0_2 1 2).bind fun t76 =>
 (appc 24 s_1.c10_sands [(⟨(⟨t62.r0, (min t68 t72)⟩ : Span), t76.r0⟩ : Sand)]).bind fun t79 =>
 some (⟨t76.h0_1, t76.h0_2, t79⟩ : KT)).bind fun o_4 =>
 (addc s_1.t56 1).bind fun t81 =>
 some (.inl (⟨t81, o_4.b0_1, o_4.b0_2, o_4.c10_sands⟩ : q5))) else
 (some (.inr (⟨s_1.b0_1, s_1.b0_2, s_1.c10_sands⟩ : Jq)))
def qX (b00 : (List Int)) (b01 : Int) (b02 : Int) (cells1 : Int) (fords2 : Int) (tides3 : Int) : Option kp :=
 (yh b00 b01 b02 3 cells1).bind fun t15 =>
 (kE b00 t15.h0_1 t15.h0_2 tides3).bind fun t18 =>
 (iterM FU (qi t15 fords2 b00) (⟨0, t18.h0_1, t18.h0_2, []⟩ : jT)).bind fun o =>
 (kE b00 o.b0_1 o.b0_2 4).bind fun t55 =>
 (iterM FU (ql t55 t15 b00) (⟨0, t55.h0_1, t55.h0_2, []⟩ : q5)).bind fun o_3 =>
 (qx b00 o_3.b0_1 o_3.b0_2 (⟨t15.r0, t18.r0, o.c10_fords, o_3.c10_sands, []⟩ : Channel)).bind fun t85 =>
 some (⟨(⟨t15.r0, t18.r0, o.c10_fords, o_3.c10_sands, []⟩ : Channel), t85.b0_1, t85.b0_2, t85.r0⟩ : kp)
theorem Qo (b00 : (List Int)) (b01 : Int) (b02 : Int) (cells1 : Int) (fords2 : Int) (tides3 : Int) (pb : Nat) (qa0 : Option Addr) (na0 ca0 : Nat) (w : World) (hw : HV w (keys [kc pb #[.slice qa0 na0 ca0, .int .i64 b01, .int .u32 b02] 199] []) [kc pb #[.slice qa0 na0 ca0, .int .i64 b01, .int .u32 b02] 199] [] [(aB qa0, aO qa0, RU8.enc b00)] w) (hna0 : b00.length = na0) (hqa0 : AOK na0 qa0) (hla0 : na0 ≤ ca0) {res : kp} (hm : qX b00 b01 b02 cells1 fords2 tides3 = some res) :
    Calls Tryz.prog 61 #[ptr pb 0, .int .i64 cells1, .int .i64 fords2, .int .i64 tides3] w (fun en w' => ∃ l : VL × VL × VL × DL, en = .returned (.tuple #[.agg #[.int .i64 res.r0.cells, .int .i64 res.r0.tides, sL l.1, sL l.2.1, sL l.2.2.1], sL l.2.2.2.v]) ∧ (VOK 1 l.1.n l.1.cap (RI.enc res.r0.fords) l.1.sp l.1.q ∧ VOK 3 l.2.1.n l.2.1.cap (RSa.enc res.r0.sands) l.2.1.sp l.2.1.q ∧ VOK 3 l.2.2.1.n l.2.2.1.cap (RSi.enc res.r0.sights) l.2.2.1.sp l.2.2.1.q ∧ VOK 1 l.2.2.2.v.n l.2.2.2.v.cap (RwH.enc l.2.2.2.rs) l.2.2.2.v.sp l.2.2.2.v.q ∧ DOK RI res.r1 l.2.2.2.rs) ∧ HV w (keys [kc pb #[.slice qa0 na0 ca0, .int .i64 b01, .int .u32 b02] 199] []) [kc pb #[.slice qa0 na0 ca0, .int .i64 res.b0_1, .int .u32 res.b0_2] 199] [vL 3 l.1 (RI.enc res.r0.fords), vL 98 l.2.1 (RSa.enc res.r0.sands), vL 55 l.2.2.1 (RSi.enc res.r0.sights), ⟨22, RwH.enc l.2.2.2.rs, l.2.2.2.v.sp, l.2.2.2.v.q, dbl 3 RI res.r1 l.2.2.2.rs⟩] [] w') := by
  unfold qX at hm
  refine ya func61 Y ntmps61 Y (e := [(0, _), (1, _), (2, _), (3, _)]) Y hw (jt ?_)
  refine jr (fun w => zeroValue26 w) Y (fun b h6 => ?_)
  refine jc Y Y Y (fun _ _ => q9 Y) (k8 (jg Y Y (jg Y Y ?_)))
  obtain ⟨t15, h7, hm⟩ := bindO hm
  refine kK (S' := [_, _]) (vs' := []) [1, 0] [] 0 Y Y Y Y ?_
  refine jd [_] [] Y Y Y Y Y Y Y call145 (fun w hh => JZ b00 b01 b02 3 cells1 pb qa0 na0 ca0 w (HV.callee (S0 := [_]) (vs0 := []) hh (roR hh 0 Y roN)) hna0 hqa0 hla0 h7) (fun l h8 => ?_)
  refine kK (S' := [_, _]) (vs' := []) [0, 1] [] 0 Y Y Y Y (jg Y Y (jg Y Y ?_))
  obtain ⟨t18, h9, hm⟩ := bindO hm
  refine jd [_] [] Y Y Y Y Y Y Y call146 (fun w hh => ye b00 t15.h0_1 t15.h0_2 tides3 pb qa0 na0 ca0 w (HV.callee (S0 := [_]) (vs0 := []) hh (roR hh 0 Y roN)) hna0 hqa0 hla0 h9) (fun l_1 h10 => ?_)
  refine kK (S' := [_, _]) (vs' := []) [0, 1] [] 0 Y Y Y Y (jc Y Y Y (fun _ _ => kU (vs := [(0, _), (1, _)]) (cells := [_, _, _, _, _]) Y Y) ?_)
  refine jr (fun w => zeroValue26 w) Y (fun b_1 h11 => ?_)
  refine kz (us := #[_, _, _, _, _]) (cs' := [_, _, _, _, _]) (S' := [_, _, _]) 0 (fun w => sizeOf26 w) Y Y Y Y Y Y Y (jq (ji (jt (qU 0 runUnderlying26 Y sizeOf3 Y Y (qJ 0 isAgg3 Y Y Y Y (jg Y Y (jq ?_)))))))
  refine Jt 3 ?_
  obtain ⟨o, h12, h13⟩ := bindO hm
  refine kf (ι := VL) (fun l_2 => VOK 1 l_2.n l_2.cap (RI.enc o.c10_fords) l_2.sp l_2.q) (fun l_2 => [(0, ptr pb 0), (8, ptr b 0), (10, ptr b_1 0)]) (fun l_2 => [kc b_1 #[.int .i64 t15.r0, .int .i64 t18.r0, sL l_2, slv none 0 0, slv none 0 0] 26, kc pb #[.slice qa0 na0 ca0, .int .i64 o.b0_1, .int .u32 o.b0_2] 199, kc b #[.int .i64 0, .int .i64 0, slv none 0 0, slv none 0 0, slv none 0 0] 26]) (fun l_2 => [vL 3 l_2 (RI.enc o.c10_fords)]) ?_ ?_
  ·replace hm := h12
   refine jp ?_
   refine ku (ι := VL) hm (fun s l_3 => VOK 1 l_3.n l_3.cap (RI.enc s.c10_fords) l_3.sp l_3.q) (fun s l_3 => [(0, ptr pb 0), (2, .int .i64 fords2), (8, ptr b 0), (10, ptr b_1 0), (21, .int .i64 t15.r0), (22, .int .i64 s.t22)]) (fun s l_3 => [kc b_1 #[.int .i64 t15.r0, .int .i64 t18.r0, sL l_3, slv none 0 0, slv none 0 0] 26, kc pb #[.slice qa0 na0 ca0, .int .i64 s.b0_1, .int .u32 s.b0_2] 199, kc b #[.int .i64 0, .int .i64 0, slv none 0 0, slv none 0 0, slv none 0 0] 26]) (fun s l_3 => [vL 3 l_3 (RI.enc s.c10_fords)]) ⟨none, 0, 0, []⟩ (VOK.nil) (sE Y) (fun w hh => hh) (fun s l_3 r hpl hm h16 => ?_)
   have h15 := hpl
   unfold qi at hm
   refine jt (JP Y Y Y (jq (ji ?_)))
   refine jw Y (fun h17 => ?_) (fun h17 => ?_)
   ·replace hm := ifD h17 hm
    refine jx (jb (ji ?_))
    obtain ⟨o_1, h18, h19⟩ := bindO hm
    refine kf (ι := VL) (fun l_4 => VOK 1 l_4.n l_4.cap (RI.enc o_1.c10_fords) l_4.sp l_4.q) (fun l_4 => [(0, ptr pb 0), (2, .int .i64 fords2), (8, ptr b 0), (10, ptr b_1 0), (21, .int .i64 t15.r0), (22, .int .i64 s.t22)]) (fun l_4 => [kc b_1 #[.int .i64 t15.r0, .int .i64 t18.r0, sL l_4, slv none 0 0, slv none 0 0] 26, kc pb #[.slice qa0 na0 ca0, .int .i64 o_1.b0_1, .int .u32 o_1.b0_2] 199, kc b #[.int .i64 0, .int .i64 0, slv none 0 0, slv none 0 0, slv none 0 0] 26]) (fun l_4 => [vL 3 l_4 (RI.enc o_1.c10_fords)]) ?_ ?_
    ·replace hm := h18
     refine jp (jt (jg Y Y (jo Y Y (jq (ji ?_)))))
     obtain ⟨o_2, h21, h22⟩ := bindO hm
     refine kf (ι := Unit) (fun l_5 => True) (fun l_5 => [(0, ptr pb 0), (2, .int .i64 fords2), (8, ptr b 0), (10, ptr b_1 0), (11, .int .i64 s.t22), (21, .int .i64 t15.r0), (22, .int .i64 s.t22), (46, .bool o_2.t46)]) (fun l_5 => [kc b_1 #[.int .i64 t15.r0, .int .i64 t18.r0, sL l_3, slv none 0 0, slv none 0 0] 26, kc pb #[.slice qa0 na0 ca0, .int .i64 o_2.b0_1, .int .u32 o_2.b0_2] 199, kc b #[.int .i64 0, .int .i64 0, slv none 0 0, slv none 0 0, slv none 0 0] 26]) (fun l_5 => [vL 3 l_3 (RI.enc s.c10_fords)]) ?_ ?_
     ·replace hm := h21
      refine je (qU 2 runUnderlying26 Y sizeOf22 Y Y (qJ 0 isAgg22 Y Y Y Y (jc Y Y Y (fun w _ => Jk (vlen RI h15 Y) (runUnderlying22 w) Y) (jg Y Y (JP Y Y Y (jg Y Y ?_))))))
      refine jJ 30 Y (fun h23 => ?_) (fun h23 => ?_)
      ·replace hm := ifD h23 hm
       refine ja Y Y (jg Y Y (ja Y Y ?_))
       obtain ⟨t32, h24, hm⟩ := bindO hm
       refine kK (S' := [_, _, _]) (vs' := [_]) [1, 0, 2] [0] 0 Y Y Y Y ?_
       refine jd [_] [] Y Y Y Y Y Y Y call68 (fun w hh => Ya b00 s.b0_1 s.b0_2 3 pb qa0 na0 ca0 w (HV.callee (S0 := [_]) (vs0 := []) hh (roR hh 0 Y roN)) hna0 hqa0 hla0 h24) (fun l_6 h25 => ?_)
       refine kK (S' := [_, _, _]) (vs' := [_]) [0, 1, 2] [0] 0 Y Y Y Y (ja Y Y (jg Y Y ?_))
       refine jJ 33 Y (fun h26 => ?_) (fun h26 => ?_)
       ·replace hm := ifT (h26) hm
        refine g_k Y Y Y Y (g_k Y Y Y Y (g_k Y Y Y Y (g_k Y Y Y Y (g_k Y Y Y Y (g_k Y Y Y Y ?_)))))
        refine jk Y Y Y Y Y ?_
        refine jk Y Y Y Y Y ?_
        refine jk Y Y Y Y Y ?_
        refine jk Y Y Y Y Y ?_
        refine g_k Y Y Y Y (ja Y Y (qF Y Y Y (qF Y Y Y (ju ?_))))
        obtain rfl := sj hm
        exact jj () (trivial) (sE Y) (hsE [1, 0, 2] [0] 0 Y Y Y Y)
       replace hm := ifN h26 hm
       refine ja Y Y (jg Y Y (ja Y Y (qU 0 runUnderlying26 Y sizeOf3 Y Y (ja Y Y (qJ 1 isAgg3 Y Y Y Y (ja Y Y ?_))))))
       obtain ⟨t37, h27, hm⟩ := bindO hm
       refine jc Y Y Y (fun _ _ => y7 h27 Y Y) (ja Y Y (jc Y Y Y (fun _ _ => Jd Y Y) (ja Y Y (jg Y Y ?_))))
       refine jJ 39 Y (fun h28 => ?_) (fun h28 => ?_)
       ·replace hm := ifD h28 hm
        refine ja Y Y (qU 2 runUnderlying26 Y sizeOf22 Y Y (ja Y Y (qJ 1 isAgg22 Y Y Y Y (ja Y Y (jc Y Y Y (fun w _ => Jk (vlen RI h15 Y) (runUnderlying22 w) Y) (ja Y Y (jc Y Y Y (fun _ _ => Jd Y Y) ?_)))))))
        refine ja Y Y (qF Y Y Y (ja Y Y (yo Y Y Y (qF Y Y Y (ju ?_)))))
        obtain rfl := sj hm
        exact jj () (trivial) (sE Y) (hsE [1, 0, 2] [0] 0 Y Y Y Y)
       replace hm := ifE h28 hm
       refine g_k Y Y Y Y (g_k Y Y Y Y (g_k Y Y Y Y (g_k Y Y Y Y (ja Y Y (yo Y Y Y (ja Y Y (yo Y Y Y ?_)))))))
       refine qF Y Y Y (ju ?_)
       obtain rfl := sj hm
       exact jj () (trivial) (sE Y) (hsE [1, 0, 2] [0] 0 Y Y Y Y)
      replace hm := ifE h23 hm
      refine g_k Y Y Y Y (g_k Y Y Y Y (g_k Y Y Y Y ?_))
      refine jk Y Y Y Y Y ?_
      refine jk Y Y Y Y Y ?_
      refine jk Y Y Y Y Y ?_
      refine jk Y Y Y Y Y ?_
      refine jk Y Y Y Y Y ?_
      refine jk Y Y Y Y Y ?_
      refine jk Y Y Y Y Y ?_
      refine jk Y Y Y Y Y ?_
      refine jk Y Y Y Y Y ?_
      refine jk Y Y Y Y Y ?_
      refine jk Y Y Y Y Y ?_
      refine g_k Y Y Y Y (yo Y Y Y (ju ?_))
      obtain rfl := sj hm
      exact jj () (trivial) (sE Y) (fun w hh => hh)
     intro l_5 hj
     replace hm := h22
     refine jb ?_
     refine jw Y (fun h29 => ?_) (fun h29 => ?_)
     ·replace hm := ifT (h29) hm
      refine je (qU 2 runUnderlying26 Y sizeOf22 Y Y (qJ 0 isAgg22 Y Y Y Y (jg Y Y ?_)))
      refine qq RI [s.t22] (ps := [(0, _)]) (cells := [_]) (fun w => runUnderlying22 w) (fun w => sizeOf3 w) (fun w => zeroValue3 w) Y Y Y Y Y Y Y Y (fun L h30 => ?_)
      obtain ⟨t51, h31, hm⟩ := bindO hm
      refine zA RI 1 h31 underlying22 Qq Y Y Y Y Y h15 Y Y (vlen RI h30 Y) (AOK.q (vne h30)) (fun w hh => (hh.vsegA 0 Y h30)) Y (fun L_1 h32 h32n => ?_)
      refine kK (S' := [_, _, _]) (vs' := [_, _]) [0, 1, 2] [0, 1] 0 Y Y Y Y (qU 2 runUnderlying26 Y sizeOf22 Y Y (yf (cs' := #[_, _, _, _, _]) (S' := [_, _, _]) 0 (fun w => sizeOf22 w) Y Y Y Y Y Y Y (ju (jy ?_))))
      obtain rfl := sj hm
      exact jj L_1 (h32) (sE Y) (hsE [0, 1, 2] [1] 0 Y Y Y Y)
     replace hm := ifN h29 hm
     refine jx (jy ?_)
     obtain rfl := sj hm
     exact jj l_3 (h15) (sE Y) (fun w hh => hh)
    intro l_4 hj
    have h20 := hj
    replace hm := h19
    refine jb (je ?_)
    obtain ⟨t53, h33, hm⟩ := bindO hm
    refine JQ h33 Y Y Y (jg Y Y (ju ?_))
    obtain rfl := sj hm
    refine jb ?_
    exact jO _ l_4 Y (h20) (sE Y) (fun w hh => hh)
   replace hm := ifE h17 hm
   refine kQ (jn (jn (jP ?_)))
   obtain rfl := sj hm
   have hbo := h16 _ Y
   subst hbo
   exact jj l_3 (h15) (sE Y) (fun w hh => hh)
  intro l_2 hj
  have h14 := hj
  replace hm := h13
  refine jb (ji (jt (jg Y Y ?_)))
  obtain ⟨t55, h34, hm⟩ := bindO hm
  refine kK (S' := [_, _, _]) (vs' := [_]) [1, 0, 2] [0] 0 Y Y Y Y ?_
  refine jd [_] [] Y Y Y Y Y Y Y call146 (fun w hh => ye b00 o.b0_1 o.b0_2 4 pb qa0 na0 ca0 w (HV.callee (S0 := [_]) (vs0 := []) hh (roR hh 0 Y roN)) hna0 hqa0 hla0 h34) (fun l_7 h35 => ?_)
  refine kK (S' := [_, _, _]) (vs' := [_]) [0, 1, 2] [0] 0 Y Y Y Y (jg Y Y (jq (Jt 98 ?_)))
  obtain ⟨o_3, h36, h37⟩ := bindO hm
  refine kf (ι := VL) (fun l_8 => VOK 3 l_8.n l_8.cap (RSa.enc o_3.c10_sands) l_8.sp l_8.q) (fun l_8 => [(0, ptr pb 0), (8, ptr b 0), (10, ptr b_1 0)]) (fun l_8 => [kc pb #[.slice qa0 na0 ca0, .int .i64 o_3.b0_1, .int .u32 o_3.b0_2] 199, kc b_1 #[.int .i64 t15.r0, .int .i64 t18.r0, sL l_2, sL l_8, slv none 0 0] 26, kc b #[.int .i64 0, .int .i64 0, slv none 0 0, slv none 0 0, slv none 0 0] 26]) (fun l_8 => [vL 3 l_2 (RI.enc o.c10_fords), vL 98 l_8 (RSa.enc o_3.c10_sands)]) ?_ ?_
  ·replace hm := h36
   refine jp ?_
   refine ku (ι := VL) hm (fun s_1 l_9 => VOK 3 l_9.n l_9.cap (RSa.enc s_1.c10_sands) l_9.sp l_9.q) (fun s_1 l_9 => [(0, ptr pb 0), (8, ptr b 0), (10, ptr b_1 0), (55, .int .i64 t55.r0), (56, .int .i64 s_1.t56)]) (fun s_1 l_9 => [kc pb #[.slice qa0 na0 ca0, .int .i64 s_1.b0_1, .int .u32 s_1.b0_2] 199, kc b_1 #[.int .i64 t15.r0, .int .i64 t18.r0, sL l_2, sL l_9, slv none 0 0] 26, kc b #[.int .i64 0, .int .i64 0, slv none 0 0, slv none 0 0, slv none 0 0] 26]) (fun s_1 l_9 => [vL 3 l_2 (RI.enc o.c10_fords), vL 98 l_9 (RSa.enc s_1.c10_sands)]) ⟨none, 0, 0, []⟩ (VOK.nil) (sE Y) (hsE [0, 1, 2] [1, 0] 0 Y Y Y Y) (fun s_1 l_9 r_1 hpl hm h40 => ?_)
   have h39 := hpl
   unfold ql at hm
   refine jt (JP Y Y Y (jq (ji ?_)))
   refine jw Y (fun h41 => ?_) (fun h41 => ?_)
   ·replace hm := ifD h41 hm
    refine jx (jb (ji (jp (jt (jg Y Y (qU 0 runUnderlying26 Y sizeOf3 Y Y (qJ 1 isAgg3 Y Y Y Y ?_)))))))
    obtain ⟨t61, h42, hm⟩ := bindO hm
    refine jc Y Y Y (fun _ _ => y7 h42 Y Y) ?_
    obtain ⟨t62, h43, hm⟩ := bindO hm
    refine jd [_] [] Y Y Y Y Y Y Y call146 (fun w hh => ye b00 s_1.b0_1 s_1.b0_2 t61 pb qa0 na0 ca0 w (HV.callee (S0 := [_]) (vs0 := []) hh (roR hh 0 Y roN)) hna0 hqa0 hla0 h43) (fun l_10 h44 => ?_)
    refine kK (S' := [_, _, _]) (vs' := [_, _]) [0, 1, 2] [0, 1] 0 Y Y Y Y (jo Y Y (jq ?_))
    obtain ⟨o_4, h45, h46⟩ := bindO hm
    refine kf (ι := VL) (fun l_11 => VOK 3 l_11.n l_11.cap (RSa.enc o_4.c10_sands) l_11.sp l_11.q) (fun l_11 => [(0, ptr pb 0), (8, ptr b 0), (10, ptr b_1 0), (55, .int .i64 t55.r0), (56, .int .i64 s_1.t56)]) (fun l_11 => [kc pb #[.slice qa0 na0 ca0, .int .i64 o_4.b0_1, .int .u32 o_4.b0_2] 199, kc b_1 #[.int .i64 t15.r0, .int .i64 t18.r0, sL l_2, sL l_11, slv none 0 0] 26, kc b #[.int .i64 0, .int .i64 0, slv none 0 0, slv none 0 0, slv none 0 0] 26]) (fun l_11 => [vL 3 l_2 (RI.enc o.c10_fords), vL 98 l_11 (RSa.enc o_4.c10_sands)]) ?_ ?_
    ·replace hm := h45
     refine qr (some 18) (.free 0 (.hoist 1 (.free 2 (.free 3 (.hoist 4 (.free 5 (.free 6 (.free 7 (.free 12 (.one 8 (.free 9 (.free 10 (.free 11 (.one 13 (.free 14 (.one 15 (.one 16 (.free 17 (.last 18 .done))))))))))))))))))) (HV _ _ [kc b_1 #[.int .i64 t15.r0, .int .i64 t18.r0, sL l_2, sL l_9, slv none 0 0] 26, kc b #[.int .i64 0, .int .i64 0, slv none 0 0, slv none 0 0, slv none 0 0] 26] [vL 3 l_2 (RI.enc o.c10_fords)] _) Y (by decide +kernel) (fun w k hh => hh.draw k) (hsE [1, 2] [0] 0 Y Y Y Y) ?_
     refine KW 3 runUnderlying26 sizeOf23 Y Y Y Y (K8 0 isAgg23 Y Y Y Y Y (zX Y Y Y (KW 0 runUnderlying26 sizeOf3 Y Y Y Y (K8 0 isAgg3 Y Y Y Y Y ?_))))
     obtain ⟨t68, h48, hm⟩ := bindO hm
     refine js Y Y Y Y (fun _ _ => y7 h48 Y Y) (zX Y Y Y (zX Y Y Y (zX Y Y Y (jG Y ?_))))
     obtain ⟨t71, h49, hm⟩ := bindO hm
     refine jd [_] [] Y Y Y Y Y Y Y call146 (fun w hh => ye b00 t62.h0_1 t62.h0_2 4 pb qa0 na0 ca0 w (HV.callee (S0 := [_]) (vs0 := []) hh (roR hh 0 Y roN)) hna0 hqa0 hla0 h49) (fun l_12 h50 => ?_)
     refine kK (S' := [_, _, _]) (vs' := [_, _]) [0, 1, 2] [0, 1] 0 Y Y Y Y (jm (hsE [1, 2] [0] 0 Y Y Y Y) ?_)
     obtain ⟨t72, h51, hm⟩ := bindO hm
     refine js Y Y Y Y (fun _ _ => Ka h51 Y Y) (js Y Y Y Y (fun _ _ => ZU Y Y) (js Y Y Y Y (fun _ _ => kU (vs := [(0, _), (1, _)]) (cells := [_, _]) Y Y) (jG Y ?_)))
     obtain ⟨t76, h52, hm⟩ := bindO hm
     refine jd [_] [] Y Y Y Y Y Y Y call145 (fun w hh => JZ b00 t71.h0_1 t71.h0_2 1 2 pb qa0 na0 ca0 w (HV.callee (S0 := [_]) (vs0 := []) hh (roR hh 0 Y roN)) hna0 hqa0 hla0 h52) (fun l_13 h53 => ?_)
     refine kK (S' := [_, _, _]) (vs' := [_, _]) [0, 1, 2] [0, 1] 0 Y Y Y Y (jm (hsE [1, 2] [0] 0 Y Y Y Y) (js Y Y Y Y (fun _ _ => kU (vs := [(0, _), (1, _)]) (cells := [_, _, _]) Y Y) (jG Y ?_)))
     refine qq RSa [(⟨(⟨t62.r0, (min t68 t72)⟩ : Span), t76.r0⟩ : Sand)] (ps := [(0, _)]) (cells := [_, _, _]) (fun w => runUnderlying23 w) (fun w => sizeOf98 w) (fun w => zeroValue98 w) Y Y Y Y Y Y Y Y (fun L_2 h54 => ?_)
     refine jm (hsE [1, 2] [1] 0 Y Y Y Y) (jG Y ?_)
     obtain ⟨t79, h55, hm⟩ := bindO hm
     refine zA RSa 2 h55 underlying23 Yd Y Y Y Y Y h39 Y Y (vlen RSa h54 Y) (AOK.q (vne h54)) (fun w hh => (hh.vsegA 0 Y h54)) Y (fun L_3 h56 h56n => ?_)
     refine kK (S' := [_, _, _]) (vs' := [_, _, _]) [0, 1, 2] [0, 1, 2] 0 Y Y Y Y (jm (hsE [1, 2] [1] 0 Y Y Y Y) (KW 3 runUnderlying26 sizeOf23 Y Y Y Y (Y5 Y (yf (cs' := #[_, _, _, _, _]) (S' := [_, _, _]) 1 (fun w => sizeOf23 w) Y Y Y Y Y Y Y (Yz (kg ?_))))))
     obtain rfl := sj hm
     exact jj L_3 (h56) (sE Y) (hsE [0, 1, 2] [1, 2] 0 Y Y Y Y)
    intro l_11 hj
    have h47 := hj
    replace hm := h46
    refine jy (jb (je ?_))
    obtain ⟨t81, h57, hm⟩ := bindO hm
    refine JQ h57 Y Y Y (jg Y Y (ju ?_))
    obtain rfl := sj hm
    refine jb ?_
    exact jO _ l_11 Y (h47) (sE Y) (fun w hh => hh)
   replace hm := ifE h41 hm
   refine kQ (jn (jn (jP ?_)))
   obtain rfl := sj hm
   have hbo := h40 _ Y
   subst hbo
   exact jj l_9 (h39) (sE Y) (fun w hh => hh)
  intro l_8 hj
  have h38 := hj
  replace hm := h37
  refine jb (ji ?_)
  refine qr none (.hoist 0 (.free 1 (.hoist 2 (.one 3 (.one 4 (.free 5 .done)))))) (HV _ _ [kc b_1 #[.int .i64 t15.r0, .int .i64 t18.r0, sL l_2, sL l_8, slv none 0 0] 26] [vL 3 l_2 (RI.enc o.c10_fords), vL 98 l_8 (RSa.enc o_3.c10_sands)] _) Y (by decide +kernel) (fun w k hh => hh.draw k) (hsE [1] [0, 1] 0 Y Y Y Y) ?_
  refine jz Y Y Y Y (fun w hh => jF (vs := [_, _, _, _, _]) (isAgg26 w) (sizeOf26 w) Y (hh.cells 0 Y Y)) (zX Y Y Y (jz Y Y Y Y (fun w hh => jF (vs := [_, _, _, _, _]) (isAgg26 w) (sizeOf26 w) Y (hh.cells 0 Y Y)) (jG Y ?_)))
  obtain ⟨t85, h58, hm⟩ := bindO hm
  refine jd [_] [] Y Y Y Y Y Y Y call78 (fun w hh => K3 b00 o_3.b0_1 o_3.b0_2 (⟨t15.r0, t18.r0, o.c10_fords, o_3.c10_sands, []⟩ : Channel) pb qa0 na0 ca0 (qA l_2.q) l_2.n l_2.cap (qA l_8.q) l_8.n l_8.cap none 0 0 w (HV.callee (S0 := [_]) (vs0 := []) hh (roR hh 0 Y (roC (hh.vsepA 0 Y h14) (roC (hh.vsepA 1 Y h38) (roC ⟨segOK.nil, fun hx => absurd Y hx⟩ roN))))) hna0 hqa0 hla0 (vlen RI h14 Y) (AOK.q (vne h14)) (h14).hle (vlen RSa h38 Y) (AOK.q (vne h38)) (h38).hle Y AOK.nil (Nat.le_refl 0) h58) (fun l_14 h59 => ?_)
  obtain ⟨h60, h61⟩ := h59
  refine kK (S' := [_, _, _]) (vs' := [_, _, _]) [0, 1, 2] [0, 1, 2] 0 Y Y Y Y (jm (hsE [1] [1, 2] 0 Y Y Y Y) (jG Y (kz (us := #[_, _, _, _, _]) (cs' := [_, _, _, _, _]) (S' := [_, _, _]) 2 (fun w => sizeOf26 w) Y Y Y Y Y Y Y (jm (hsE [1] [1, 2] 0 Y Y Y Y) (js Y Y Y Y (fun _ _ => kA Y) (kg (jb ?_)))))))
  refine jv (Jt 55 ?_)
  obtain rfl := sj hm
  refine jl Y (fun w hh => (.cell Y (loadVar_agg (vs := [_, _, _, _, _]) (isAgg26 _) (sizeOf26 _) (hh.cells 2 Y Y)) (.tmp Y .nil))) (fun w hh => ⟨(l_2, l_8, ⟨none, 0, 0, []⟩, l_14), rfl, ⟨h14, h38, VOK.nil, h60, h61⟩, hh.se [0] [2, 3, 0, 1] 1 Y Y Y rfl⟩)
structure Jy where
  b0_1 : Int
  b0_2 : Int
  r0 : (List Sight)
end Go.Proofs.Wb

namespace Go.Proofs.Wb
open Go Go.Fw Go.Gx Go.Sb
set_option linter.unusedVariables false
set_option maxRecDepth 100000
theorem canB_self {c : Channel} (r : Right c) (l : List Int) : canB c.sands l l = true := by
  unfold canB
  rw [List.all_eq_true]
  intro i _
  rw [inb_iff]
  have := rchC_bounds (x := l.getD i (-1)) r.reach
  omega
end Go.Proofs.Wb

namespace Go.Proofs.Wb
open Go Go.Fw Go.Gx Go.Sb
set_option linter.unusedVariables false
set_option maxRecDepth 100000
def HOK (l : List Int) (p : Int) : Prop := 0 ≤ p ∧ (p < (l.length : Int) ∨ p = 0)
theorem pick_ok {l : List Int} {p r : Int} (hl : l.length ≤ 9223372036854775807) (hp : HOK l p) : ∃ x, zo l p r = some x ∧ (0 ≤ x.r0 ∧ x.r0 ≤ 32767) ∧ HOK l x.h0_1 := by
  obtain ⟨h0, h1⟩ := hp
  unfold zo
  have e1 : addc p 1 = some (p + 1) := addc_eq (by omega)
  by_cases hlt : p < (l.length : Int)
  · rw [if_pos hlt, ix_eq 0 h0 hlt, e1]
    simp only [Option.bind_some]
    by_cases hge : (l.length : Int) ≤ p + 1
    · rw [if_pos hge]
      exact ⟨_, rfl, Go.Fw.and_bound _ _ rfl, Int.le_refl _, .inr rfl⟩
    · rw [if_neg hge]
      exact ⟨_, rfl, Go.Fw.and_bound _ _ rfl, by simp only; omega, .inl (by simp only; omega)⟩
  · rw [if_neg hlt, e1]
    simp only [Option.bind_some]
    by_cases hge : (l.length : Int) ≤ p + 1
    · rw [if_pos hge]
      exact ⟨_, rfl, Go.Fw.and_bound _ _ rfl, Int.le_refl _, .inr rfl⟩
    · rw [if_neg hge]
      exact ⟨_, rfl, Go.Fw.and_bound _ _ rfl, by simp only; omega, .inl (by simp only; omega)⟩
theorem upto_ok {l : List Int} {p r n : Int} (hl : l.length ≤ 9223372036854775807) (hp : HOK l p) (hn : -1000000 ≤ n ∧ n ≤ 1000000) : ∃ x, kE l p r n = some x ∧ (0 ≤ x.r0 ∧ x.r0 ≤ max 0 n) ∧ HOK l x.h0_1 := by
  obtain ⟨x, hx, hb, hk⟩ := pick_ok (r := r) hl hp
  unfold kE
  rw [hx, Option.bind_some, addc_eq (by omega), Option.bind_some, remc_eq (by omega), Option.bind_some]
  refine ⟨_, rfl, ?_, hk⟩
  have h1 := Int.tmod_nonneg (max 1 (n + 1)) hb.1
  have h2 := Int.tmod_lt_of_pos x.r0 (show 0 < max 1 (n + 1) by omega)
  simp only
  omega
theorem from_ok {l : List Int} {p r lo hi : Int} (hl : l.length ≤ 9223372036854775807) (hp : HOK l p) (hn : (-400000 ≤ lo ∧ lo ≤ 400000) ∧ -400000 ≤ hi ∧ hi ≤ 400000) : ∃ x, yh l p r lo hi = some x ∧ (lo ≤ x.r0 ∧ x.r0 ≤ max lo hi) ∧ HOK l x.h0_1 := by
  unfold yh
  rw [subc_eq (by omega), Option.bind_some]
  obtain ⟨x, hx, hb, hk⟩ := upto_ok (r := r) (n := hi - lo) hl hp (by omega)
  rw [hx, Option.bind_some, addc_eq (by omega), Option.bind_some]
  exact ⟨_, rfl, by simp only; omega, hk⟩
theorem once_ok {l : List Int} {p r n : Int} (hl : l.length ≤ 9223372036854775807) (hp : HOK l p) (hn : -400000 ≤ n ∧ n ≤ 400000) : ∃ x, zk l p r n = some x ∧ HOK l x.h0_1 := by
  unfold zk
  rw [subc_eq (by omega), Option.bind_some]
  obtain ⟨x, hx, hb, hk⟩ := upto_ok (r := r) (n := n - 1) hl hp (by omega)
  rw [hx, Option.bind_some]
  exact ⟨_, rfl, hk⟩
def IsOrd (n : Nat) (l : List Int) : Prop := l.Perm ((List.range n).map fun k : Nat => (k : Int))
theorem ins_ok {l : List Int} {i v : Int} (h0 : 0 ≤ i) (h1 : i ≤ (l.length : Int)) (hl : l.length ≤ 1000) : zp l i [v] = some (l.take i.toNat ++ [v] ++ l.drop i.toNat) := by
  unfold zp
  rw [if_pos ⟨h0, h1, by simp, by simp; omega⟩]
theorem IsOrd.len {n : Nat} {l : List Int} (h : IsOrd n l) : l.length = n := by
  have := List.Perm.length_eq h
  simpa using this
theorem IsOrd.ins {n : Nat} {l : List Int} (h : IsOrd n l) (i : Nat) : IsOrd (n + 1) (l.take i ++ [(n : Int)] ++ l.drop i) := by
  unfold IsOrd
  rw [List.range_succ, List.map_append]
  have e : l.take i ++ [(n : Int)] ++ l.drop i = l.take i ++ (n : Int) :: l.drop i := by simp
  rw [e]
  refine List.perm_middle.trans ?_
  rw [List.take_append_drop]
  refine (List.Perm.cons _ h).trans ?_
  exact (List.perm_append_singleton _ _).symm
theorem order_ok {l : List Int} (hl : l.length ≤ 9223372036854775807) {p r : Int} {n : Nat} (hp : HOK l p) (hn : n ≤ 900) : ∃ x, yU l p r (n : Int) = some x ∧ HOK l x.h0_1 ∧ IsOrd n x.r0 := by
  unfold yU
  have key : ∃ o, iterM FU (ym (n : Int) l) ⟨0, p, r, []⟩ = some o ∧ HOK l o.h0_1 ∧ IsOrd n o.out5 := by
    refine iterM_inv (f := ym (n : Int) l) (fun s => ∃ j : Nat, s.t9 = (j : Int) ∧ j ≤ n ∧ HOK l s.h0_1 ∧ IsOrd j s.out5) (fun s => ((n : Int) - s.t9).toNat) _ (fun s hs => ?_) FU _ (FU_lt (by simp only; omega)) ⟨0, rfl, by omega, hp, List.Perm.refl _⟩
    obtain ⟨j, hj, hjn, hk, ho⟩ := hs
    unfold ym
    rw [hj]
    by_cases hlt : j < n
    · left
      obtain ⟨x, hx, hb, hk2⟩ := upto_ok (r := s.h0_2) (n := (j : Int)) hl hk (by omega)
      have hlen := ho.len
      rw [if_pos (by omega), hx, Option.bind_some, ins_ok hb.1 (by omega) (by omega), Option.bind_some, addc_eq (by omega), Option.bind_some]
      exact ⟨_, rfl, ⟨j + 1, by push_cast; rfl, hlt, hk2, ho.ins _⟩, by simp only; omega⟩
    · right
      rw [if_neg (by omega)]
      have : j = n := by omega
      subst this
      exact ⟨_, rfl, hk, ho⟩
  obtain ⟨o, h1, h2, h3⟩ := key
  rw [h1, Option.bind_some]
  exact ⟨_, rfl, h2, h3⟩
theorem chk_right {c : Channel} (r : Right c) (h8 : c.sights.length ≤ 8) : chk c = 0 := by
  unfold chk
  have h1 : okMany c = true := okMany_iff.2 ⟨r.cells, r.tides, r.fords, r.sands, h8⟩
  have h2 : okLimit c = true := by
    simp only [okLimit, Bool.and_eq_true, List.all_eq_true, inb_iff]
    exact ⟨r.reach, r.after⟩
  have h3 : okMiss c = true := by
    simp only [okMiss, Bool.and_eq_true, List.all_eq_true, inb_iff]
    refine ⟨⟨fun x hx => ?_, fun s hs => ?_⟩, fun s hs => ?_⟩
    · have := r.fcell x hx; omega
    · have := r.span s hs; omega
    · have := r.scell s hs; omega
  have h4 : okOrder c = true := by
    simp only [okOrder, Bool.and_eq_true, List.all_eq_true, decide_eq_true_eq]
    exact ⟨r.up, fun s hs => (r.span s hs).2.2⟩
  rw [if_pos h1, if_pos h2, if_pos h3, if_pos h4]
theorem lawReach_eq {c : Channel} (h : c.sands.length ≤ 100) (x : Int) : k9 c x = some (rchC c.sands x) := by
  unfold k9
  have key := iterM_run (f := qw c x) (fun j => ⟨rchC (c.sands.take j) x, (j : Int)⟩) c.sands.length (b := rchC c.sands x) (fun j hj => ?_) ?_ FU (FU_lt (by omega))
  · simp only [List.take_zero] at key
    rw [show (⟨0, 0⟩ : qv) = ⟨rchC [] x, ((0 : Nat) : Int)⟩ from rfl, key]
    rfl
  · have e : c.sands.take (j + 1) = c.sands.take j ++ [c.sands[j]] := by rw [List.take_append_getElem]
    have hx : c.sands.getD j default = c.sands[j] := by simp [List.getD_eq_getElem?_getD, hj]
    unfold qw
    simp only
    rw [if_pos (by omega), ix_nat default hj, Option.bind_some, hx, e, rchC_snoc, addc_eq (by omega)]
    unfold stepR
    by_cases h1 : c.sands[j].span.lo ≤ x
    · rw [if_pos h1, Option.bind_some]
      by_cases h2 : x ≤ c.sands[j].span.hi
      · rw [if_pos (decide_eq_true h2), if_pos ⟨h1, h2⟩]; rfl
      · rw [if_neg (by simpa using h2), if_neg (fun q => h2 q.2)]; rfl
    · rw [if_neg h1, Option.bind_some, if_neg (by decide), if_neg (fun q => h1 q.1)]; rfl
  · unfold qw
    simp only
    rw [if_neg (by omega), List.take_length]
def freeB (cells : Int) (r0 : List Int) (i : Nat) (v : Int) : Bool := decide (0 ≤ v) && (decide (v < cells) && ((decide (i = 0) || decide (r0.getD (i - 1) (-1) < v)) && (decide (i + 1 = r0.length) || decide (v < r0.getD (i + 1) (-1)))))
theorem cond_eq {v cells : Int} {i : Nat} {r0 : List Int} (hi : i < r0.length) (hn : r0.length ≤ 1000) : (if 0 ≤ v then
 (if v < cells then
 (if (i : Int) = 0 then
 ((subc (r0.length : Int) 1).bind fun t82 =>
 if (i : Int) = t82 then
 (some true) else
 ((addc (i : Int) 1).bind fun t88 =>
 (ix r0 t88).bind fun t89 =>
 some (decide (v < t89)))) else
 ((subc (i : Int) 1).bind fun t72 =>
 (ix r0 t72).bind fun t73 =>
 if t73 < v then
 ((subc (r0.length : Int) 1).bind fun t82_1 =>
 if (i : Int) = t82_1 then
 (some true) else
 ((addc (i : Int) 1).bind fun t88_1 =>
 (ix r0 t88_1).bind fun t89_1 =>
 some (decide (v < t89_1)))) else
 (some false))) else
 (some false)) else
 (some false) : Option Bool) = some (freeB cells r0 i v) := by
  have tail : ((subc (r0.length : Int) 1).bind fun t82 => if (i : Int) = t82 then (some true) else ((addc (i : Int) 1).bind fun t88 => (ix r0 t88).bind fun t89 => some (decide (v < t89)))) = some (decide (i + 1 = r0.length) || decide (v < r0.getD (i + 1) (-1))) := by
    rw [subc_eq (by omega), Option.bind_some]
    by_cases h : i + 1 = r0.length
    · rw [if_pos (by omega), decide_eq_true h, Bool.true_or]
    · rw [if_neg (by omega), addc_eq (by omega), Option.bind_some, show (i : Int) + 1 = ((i + 1 : Nat) : Int) by omega, ix_nat (-1) (by omega), Option.bind_some, decide_eq_false h, Bool.false_or]
  unfold freeB
  by_cases h1 : 0 ≤ v
  · rw [if_pos h1, decide_eq_true h1, Bool.true_and]
    by_cases h2 : v < cells
    · rw [if_pos h2, decide_eq_true h2, Bool.true_and, tail]
      by_cases h3 : i = 0
      · rw [if_pos (by omega), decide_eq_true h3, Bool.true_or, Bool.true_and]
      · rw [if_neg (by omega), subc_eq (by omega), Option.bind_some, show (i : Int) - 1 = ((i - 1 : Nat) : Int) by omega, ix_nat (-1) (by omega), Option.bind_some, decide_eq_false h3, Bool.false_or]
        by_cases h4 : r0.getD (i - 1) (-1) < v
        · rw [if_pos h4, decide_eq_true h4, Bool.true_and]
        · rw [if_neg h4, decide_eq_false h4, Bool.false_and]
    · rw [if_neg h2, decide_eq_false h2, Bool.false_and]
  · rw [if_neg h1, decide_eq_false h1, Bool.false_and]
theorem getD_set {l : List Int} {i j : Nat} {v d : Int} (hi : i < l.length) : (l.set i v).getD j d = if j = i then v else l.getD j d := by
  rw [List.getD_eq_getElem?_getD, List.getElem?_set, List.getD_eq_getElem?_getD]
  by_cases h : i = j
  · subst h; simp [hi]
  · rw [if_neg h, if_neg (fun e => h e.symm)]
theorem row_set {c : Channel} {a b : List Int} (hb : rowB c b = true) (hab : a.length = b.length) (hc : canB c.sands a b = true) {i : Nat} (hi : i < b.length) {v : Int} (hf : freeB c.cells b i v = true) (hv : a.getD i (-1) - rchC c.sands (a.getD i (-1)) ≤ v ∧ v ≤ a.getD i (-1) + rchC c.sands (a.getD i (-1))) : rowB c (b.set i v) = true ∧ canB c.sands a (b.set i v) = true := by
  unfold freeB at hf
  simp only [Bool.and_eq_true, Bool.or_eq_true, decide_eq_true_eq] at hf
  obtain ⟨f1, f2, f3, f4⟩ := hf
  obtain ⟨b1, b2, b3⟩ := rowB_iff.1 hb
  constructor
  · refine rowB_iff.2 ⟨by rw [List.length_set]; exact b1, upB_ix.2 fun j hj => ?_, fun x hx => ?_⟩
    · rw [List.length_set] at hj
      rw [getD_set hi, getD_set hi]
      have hb' := upB_ix.1 b2 j hj
      by_cases h1 : j = i
      · subst h1
        rw [if_pos rfl, if_neg (by omega)]
        rcases f4 with f4 | f4
        · omega
        · exact f4
      · rw [if_neg h1]
        by_cases h2 : j + 1 = i
        · rw [if_pos h2]
          rcases f3 with f3 | f3
          · omega
          · rw [← h2, Nat.add_sub_cancel] at f3; exact f3
        · rw [if_neg h2]; exact hb'
    · rcases List.mem_or_eq_of_mem_set hx with h | h
      · exact b3 x h
      · omega
  · unfold canB at hc ⊢
    rw [List.all_eq_true] at hc ⊢
    intro j hj
    have h0 := hc j hj
    rw [getD_set hi]
    by_cases h1 : j = i
    · subst h1
      rw [if_pos rfl, inb_iff]
      omega
    · rw [if_neg h1]; exact h0
theorem walk_L1 {l : List Int} (hl : l.length ≤ 9223372036854775807) {c : Channel} (r : Right c) {a : List Int} (ha : rowB c a = true) {t : yA} (ho : IsOrd a.length t.r0) {p q : Int} (hp : HOK l p) :
    ∃ o, iterM FU (k3 t a c l) ⟨0, p, q, a⟩ = some o ∧ HOK l o.b0_1 ∧ rowB c o.r0 = true ∧ canB c.sands a o.r0 = true := by
  have hc := r.cells
  have hf := r.fords
  have hs := r.sands
  have hlen := ho.len
  obtain ⟨a1, a2, a3⟩ := rowB_iff.1 ha
  refine iterM_inv (f := k3 t a c l) (fun s => (0 ≤ s.t33 ∧ s.t33 ≤ (t.r0.length : Int)) ∧ HOK l s.b0_1 ∧ rowB c s.r0 = true ∧ canB c.sands a s.r0 = true) (fun s => ((t.r0.length : Int) - s.t33).toNat) _ (fun s hs => ?_) FU _ (FU_lt (by simp only; omega)) ⟨by simp only; omega, hp, ha, canB_self r a⟩
  obtain ⟨h0, hk, hr, hcn⟩ := hs
  obtain ⟨b1, b2, b3⟩ := rowB_iff.1 hr
  unfold k3
  by_cases hlt : s.t33 < (t.r0.length : Int)
  · left
    have hm : t.r0.getD s.t33.toNat 0 ∈ t.r0 := getD_mem (by omega)
    obtain ⟨i, hi, he⟩ := List.mem_map.1 ((List.Perm.mem_iff ho).1 hm)
    have hi' : i < a.length := by simpa using hi
    have h1 := a3 _ (getD_mem (d := -1) hi')
    have h2 := rchC_bounds (x := a.getD i (-1)) r.reach
    obtain ⟨x, hx, hb, hk2⟩ := from_ok (r := s.b0_2) (lo := -rchC c.sands (a.getD i (-1))) (hi := rchC c.sands (a.getD i (-1))) hl hk (by omega)
    have hneg : negc (rchC c.sands (a.getD i (-1))) = some (-rchC c.sands (a.getD i (-1))) := negc_eq (by omega)
    rw [if_pos hlt, ix_eq 0 h0.1 hlt, Option.bind_some, ← he, ix_nat (-1) hi']
    simp only [Option.bind_some]
    rw [lawReach_eq (by omega)]
    simp only [Option.bind_some]
    rw [hneg]
    simp only [Option.bind_some]
    rw [hx]
    simp only [Option.bind_some]
    rw [addc_eq (by omega)]
    simp only [Option.bind_some]
    rw [cond_eq (by omega) (by omega), addc_eq (by omega)]
    simp only [Option.bind_some]
    by_cases hfr : freeB c.cells s.r0 i (a.getD i (-1) + x.r0) = true
    · rw [if_pos hfr, ix_nat (-1) (by omega)]
      simp only [Option.bind_some, Int.toNat_natCast]
      obtain ⟨g1, g2⟩ := row_set hr (by omega) hcn (by omega) hfr (by omega)
      exact ⟨_, rfl, ⟨by simp only; omega, hk2, g1, g2⟩, by simp only; omega⟩
    · rw [if_neg hfr]
      simp only [Option.bind_some]
      exact ⟨_, rfl, ⟨by simp only; omega, hk2, hr, hcn⟩, by simp only; omega⟩
  · right
    rw [if_neg hlt]
    exact ⟨_, rfl, hk, hr, hcn⟩
structure WalkC (c : Channel) (n : Nat) (crs : List (List Int)) : Prop where
  len : crs.length = n + 1
  fst : crs.getD 0 [] = c.fords
  row : ∀ k, k ≤ n → rowB c (crs.getD k []) = true
  can : ∀ k, k < n → canB c.sands (crs.getD k []) (crs.getD (k + 1) []) = true
theorem getD_snoc {α : Type} {l : List α} {x d : α} {k : Nat} : (l ++ [x]).getD k d = if k < l.length then l.getD k d else if k = l.length then x else d := by
  rw [List.getD_eq_getElem?_getD, List.getD_eq_getElem?_getD]
  by_cases h : k < l.length
  · rw [if_pos h, List.getElem?_append_left h]
  · rw [if_neg h]
    by_cases h2 : k = l.length
    · rw [if_pos h2]; subst h2; simp
    · rw [if_neg h2, List.getElem?_eq_none (by simp; omega)]; rfl
theorem WalkC.snoc {c : Channel} {n : Nat} {crs : List (List Int)} (h : WalkC c n crs) {b : List Int} (hb : rowB c b = true) (hc : canB c.sands (crs.getD n []) b = true) : WalkC c (n + 1) (crs ++ [b]) := by
  have hl := h.len
  refine ⟨by simp; omega, ?_, fun k hk => ?_, fun k hk => ?_⟩
  · rw [getD_snoc, if_pos (by omega)]; exact h.fst
  · rw [getD_snoc]
    by_cases h1 : k < crs.length
    · rw [if_pos h1]; exact h.row k (by omega)
    · rw [if_neg h1, if_pos (by omega)]; exact hb
  · rw [getD_snoc, getD_snoc, if_pos (by omega)]
    by_cases h1 : k + 1 < crs.length
    · rw [if_pos h1]; exact h.can k (by omega)
    · rw [if_neg h1, if_pos (by omega)]
      obtain rfl : k = n := by omega
      exact hc
theorem walked_ok {l : List Int} (hl : l.length ≤ 9223372036854775807) {c : Channel} (r : Right c) {p q : Int} (hp : HOK l p) : ∃ x, qx l p q c = some x ∧ HOK l x.b0_1 ∧ WalkC c c.tides.toNat x.r0 := by
  have ht := r.tides
  have hf := r.fords
  have hrow : rowB c c.fords = true := rowB_iff.2 ⟨rfl, r.up, r.fcell⟩
  unfold qx
  rw [Q6 (by omega), Option.bind_some]
  have key : ∃ o, iterM FU (k5 c l) ⟨0, p, q, [c.fords]⟩ = some o ∧ HOK l o.b0_1 ∧ WalkC c c.tides.toNat o.out5 := by
    refine iterM_inv (f := k5 c l) (fun s => (0 ≤ s.t17 ∧ s.t17 ≤ c.tides) ∧ HOK l s.b0_1 ∧ WalkC c s.t17.toNat s.out5) (fun s => (c.tides - s.t17).toNat) _ (fun s hs => ?_) FU _ (FU_lt (by simp only; omega)) ⟨by simp only; omega, hp, ⟨rfl, rfl, fun k hk => ?_, fun k hk => ?_⟩⟩
    · obtain ⟨h0, hk, hw⟩ := hs
      unfold k5
      by_cases hlt : s.t17 < c.tides
      · left
        have hlen := hw.len
        have ha := hw.row s.t17.toNat (Nat.le_refl _)
        have ha' := (rowB_iff.1 ha).1
        rw [if_pos hlt, subc_eq (by omega), Option.bind_some, ix_eq [] (by omega) (by omega), Option.bind_some, show ((s.out5.length : Int) - 1).toNat = s.t17.toNat by omega, Q6 (by omega), Option.bind_some, Q6 (by omega), Option.bind_some]
        obtain ⟨t, h1, h2, h3⟩ := order_ok (r := s.b0_2) (n := (s.out5.getD s.t17.toNat []).length) hl hk (by omega)
        rw [h1, Option.bind_some]
        obtain ⟨o, g1, g2, g3, g4⟩ := walk_L1 (q := t.h0_2) hl r ha h3 h2
        rw [g1, Option.bind_some, appc_eq (by simp; omega), Option.bind_some, addc_eq (by omega), Option.bind_some]
        refine ⟨_, rfl, ⟨by simp only; omega, g2, ?_⟩, by simp only; omega⟩
        have := hw.snoc g3 g4
        simp only
        rw [show (s.t17 + 1).toNat = s.t17.toNat + 1 by omega]
        exact this
      · right
        rw [if_neg hlt]
        refine ⟨_, rfl, hk, ?_⟩
        rw [show c.tides.toNat = s.t17.toNat by omega]
        exact hw
    · have hk0 : k = 0 := by simpa using hk
      subst hk0
      exact hrow
    · simp at hk
  obtain ⟨o, h1, h2, h3⟩ := key
  rw [h1, Option.bind_some]
  exact ⟨_, rfl, h2, h3⟩
end Go.Proofs.Wb

namespace Go.Proofs.Wb
open Go Go.Fw Go.Gx Go.Sb
set_option linter.unusedVariables false
set_option maxRecDepth 100000
structure MadeC (c : Channel) (cells fords tides : Int) : Prop where
  right : Right c
  none : c.sights = []
  cells : 3 ≤ c.cells ∧ c.cells ≤ cells
  fords : (c.fords.length : Int) ≤ fords
  tides : c.tides ≤ tides
theorem upB_snoc {f : List Int} {v : Int} (h : upB f = true) (hv : ∀ x ∈ f, x < v) : upB (f ++ [v]) = true := by
  rw [upB_ix] at *
  intro i hi
  rw [List.length_append, List.length_singleton] at hi
  rw [getD_snoc, getD_snoc, if_pos (by omega)]
  by_cases h1 : i + 1 < f.length
  · rw [if_pos h1]; exact h i h1
  · rw [if_neg h1, if_pos (by omega)]
    exact hv _ (getD_mem (by omega))
theorem made_L0 {l : List Int} (hl : l.length ≤ 9223372036854775807) {t : qC} (ht : 3 ≤ t.r0 ∧ t.r0 ≤ 9) {f : Int} (hf : 1 ≤ f ∧ f ≤ 3) {p q : Int} (hp : HOK l p) :
    ∃ o, iterM FU (qi t f l) ⟨0, p, q, []⟩ = some o ∧ HOK l o.b0_1 ∧ upB o.c10_fords = true ∧ (∀ x ∈ o.c10_fords, 0 ≤ x ∧ x < t.r0) ∧ 1 ≤ o.c10_fords.length ∧ (o.c10_fords.length : Int) ≤ f := by
  refine iterM_inv (f := qi t f l) (fun s => (0 ≤ s.t22 ∧ s.t22 ≤ t.r0) ∧ HOK l s.b0_1 ∧ upB s.c10_fords = true ∧ (∀ x ∈ s.c10_fords, 0 ≤ x ∧ x < s.t22) ∧ (s.c10_fords.length : Int) ≤ f ∧ (s.t22 = t.r0 → 1 ≤ s.c10_fords.length)) (fun s => (t.r0 - s.t22).toNat) _ (fun s hs => ?_) FU _ (FU_lt (by simp only; omega)) ⟨by simp only; omega, hp, rfl, by simp, by simp only; simp; omega, fun h => by simp only at h; omega⟩
  obtain ⟨h0, hk, hu, hx, hlen, hne⟩ := hs
  unfold qi
  by_cases hlt : s.t22 < t.r0
  · left
    rw [if_pos hlt, addc_eq (by omega)]
    -- with this cell
    have yes : ∀ (b1 b2 : Int), HOK l b1 → (s.c10_fords.length : Int) < f → ∃ s', ((appc 8 s.c10_fords [s.t22]).bind fun t51 => some (⟨b1, b2, t51⟩ : q7)).bind (fun o_1 => (some (s.t22 + 1)).bind fun t53 => some (Sum.inl (⟨t53, o_1.b0_1, o_1.b0_2, o_1.c10_fords⟩ : jT) : jT ⊕ q4)) = some (.inl s') ∧ ((0 ≤ s'.t22 ∧ s'.t22 ≤ t.r0) ∧ HOK l s'.b0_1 ∧ upB s'.c10_fords = true ∧ (∀ x ∈ s'.c10_fords, 0 ≤ x ∧ x < s'.t22) ∧ (s'.c10_fords.length : Int) ≤ f ∧ (s'.t22 = t.r0 → 1 ≤ s'.c10_fords.length)) ∧ (t.r0 - s'.t22).toNat < (t.r0 - s.t22).toNat := by
      intro b1 b2 hb hff
      rw [appc_eq (by simp; omega)]
      simp only [Option.bind_some]
      refine ⟨_, rfl, ⟨by simp only; omega, hb, upB_snoc hu (fun x hx' => (hx x hx').2), fun x hx' => ?_, by simp; omega, fun _ => by simp⟩, by simp only; omega⟩
      simp only
      rcases List.mem_append.1 hx' with h | h
      · have := hx x h; omega
      · rw [List.mem_singleton] at h; omega
    have no : ∀ (b1 b2 : Int), HOK l b1 → (s.t22 + 1 = t.r0 → 1 ≤ s.c10_fords.length) → ∃ s', (some (⟨b1, b2, s.c10_fords⟩ : q7)).bind (fun o_1 => (some (s.t22 + 1)).bind fun t53 => some (Sum.inl (⟨t53, o_1.b0_1, o_1.b0_2, o_1.c10_fords⟩ : jT) : jT ⊕ q4)) = some (.inl s') ∧ ((0 ≤ s'.t22 ∧ s'.t22 ≤ t.r0) ∧ HOK l s'.b0_1 ∧ upB s'.c10_fords = true ∧ (∀ x ∈ s'.c10_fords, 0 ≤ x ∧ x < s'.t22) ∧ (s'.c10_fords.length : Int) ≤ f ∧ (s'.t22 = t.r0 → 1 ≤ s'.c10_fords.length)) ∧ (t.r0 - s'.t22).toNat < (t.r0 - s.t22).toNat := by
      intro b1 b2 hb hff
      simp only [Option.bind_some]
      exact ⟨_, rfl, ⟨by simp only; omega, hb, hu, fun x hx' => by have := hx x hx'; simp only; omega, hlen, hff⟩, by simp only; omega⟩
    by_cases h1 : (s.c10_fords.length : Int) < f
    · obtain ⟨x, hx', hk2⟩ := once_ok (r := s.b0_2) (n := 3) hl hk (by omega)
      rw [if_pos h1, hx', Option.bind_some]
      by_cases h2 : x.r0 = true
      · rw [if_pos h2, Option.bind_some, if_pos rfl]
        exact yes _ _ hk2 h1
      · rw [if_neg h2, subc_eq (by omega), Option.bind_some]
        by_cases h3 : s.t22 = t.r0 - 1
        · rw [if_pos h3, Option.bind_some]
          by_cases h4 : (s.c10_fords.length : Int) = 0
          · rw [if_pos (decide_eq_true h4)]
            exact yes _ _ hk2 h1
          · rw [if_neg (by simpa using h4)]
            exact no _ _ hk2 (fun _ => by omega)
        · rw [if_neg h3, Option.bind_some, if_neg Bool.false_ne_true]
          exact no _ _ hk2 (fun q => by omega)
    · rw [if_neg h1, Option.bind_some, if_neg Bool.false_ne_true]
      exact no _ _ hk (fun _ => by omega)
  · right
    rw [if_neg hlt]
    have : s.t22 = t.r0 := by omega
    exact ⟨_, rfl, hk, hu, fun x hx' => by have := hx x hx'; omega, hne this, hlen⟩
theorem made_L1 {l : List Int} (hl : l.length ≤ 9223372036854775807) {t : qC} (ht : 3 ≤ t.r0 ∧ t.r0 ≤ 9) {u : yJ} (hu : 0 ≤ u.r0 ∧ u.r0 ≤ 4) {p q : Int} (hp : HOK l p) :
    ∃ o, iterM FU (ql u t l) ⟨0, p, q, []⟩ = some o ∧ HOK l o.b0_1 ∧ o.c10_sands.length ≤ 4 ∧ ∀ s ∈ o.c10_sands, (1 ≤ s.reach ∧ s.reach ≤ 2) ∧ 0 ≤ s.span.lo ∧ s.span.hi < t.r0 ∧ s.span.lo ≤ s.span.hi := by
  refine iterM_inv (f := ql u t l) (fun s => (0 ≤ s.t56 ∧ s.t56 ≤ u.r0) ∧ HOK l s.b0_1 ∧ (s.c10_sands.length : Int) = s.t56 ∧ ∀ w ∈ s.c10_sands, (1 ≤ w.reach ∧ w.reach ≤ 2) ∧ 0 ≤ w.span.lo ∧ w.span.hi < t.r0 ∧ w.span.lo ≤ w.span.hi) (fun s => (u.r0 - s.t56).toNat) _ (fun s hs => ?_) FU _ (FU_lt (by simp only; omega)) ⟨by simp only; omega, hp, rfl, by simp⟩
  obtain ⟨h0, hk, hlen, hx⟩ := hs
  unfold ql
  by_cases hlt : s.t56 < u.r0
  · left
    rw [if_pos hlt, subc_eq (by omega), Option.bind_some]
    obtain ⟨x, hx1, hb1, hk1⟩ := upto_ok (r := s.b0_2) (n := t.r0 - 1) hl hk (by omega)
    rw [hx1, Option.bind_some, Option.bind_some]
    obtain ⟨y, hy1, hb2, hk2⟩ := upto_ok (r := x.h0_2) (n := 4) hl hk1 (by omega)
    rw [hy1, Option.bind_some, addc_eq (by omega), Option.bind_some]
    obtain ⟨z, hz1, hb3, hk3⟩ := from_ok (r := y.h0_2) (lo := 1) (hi := 2) hl hk2 (by omega)
    rw [hz1, Option.bind_some, appc_eq (by simp; omega), Option.bind_some, Option.bind_some, addc_eq (by omega), Option.bind_some]
    refine ⟨_, rfl, ⟨by simp only; omega, hk3, by simp; omega, fun w hw => ?_⟩, by simp only; omega⟩
    rcases List.mem_append.1 hw with h | h
    · exact hx w h
    · rw [List.mem_singleton] at h
      subst h
      simp only
      omega
  · right
    rw [if_neg hlt]
    exact ⟨_, rfl, hk, by simp only; omega, hx⟩
theorem made_ok {l : List Int} (hl : l.length ≤ 9223372036854775807) {p q cells fords tides : Int} (hp : HOK l p) (hc : 3 ≤ cells ∧ cells ≤ 9) (hf : 1 ≤ fords ∧ fords ≤ 3) (ht : 0 ≤ tides ∧ tides ≤ 4) : ∃ x, qX l p q cells fords tides = some x ∧ HOK l x.b0_1 ∧ MadeC x.r0 cells fords tides ∧ WalkC x.r0 x.r0.tides.toNat x.r1 := by
  unfold qX
  obtain ⟨x, hx, hb, hk⟩ := from_ok (r := q) (lo := 3) (hi := cells) hl hp (by omega)
  rw [hx, Option.bind_some]
  obtain ⟨y, hy, hb2, hk2⟩ := upto_ok (r := x.h0_2) (n := tides) hl hk (by omega)
  rw [hy, Option.bind_some]
  obtain ⟨o, ho, hk3, o1, o2, o3, o4⟩ := made_L0 (q := y.h0_2) (t := x) hl (by omega) hf hk2
  rw [ho, Option.bind_some]
  obtain ⟨u, hu, hb4, hk4⟩ := upto_ok (r := o.b0_2) (n := 4) hl hk3 (by omega)
  rw [hu, Option.bind_some]
  obtain ⟨v, hv, hk5, v1, v2⟩ := made_L1 (q := u.h0_2) (t := x) (u := u) hl (by omega) (by omega) hk4
  rw [hv, Option.bind_some]
  have r : Right ⟨x.r0, y.r0, o.c10_fords, v.c10_sands, []⟩ := ⟨by simp only; omega, by simp only; omega, by simp only; omega, v1, by simp, fun s hs => (v2 s hs).1, by simp, o2, fun s hs => (v2 s hs).2, by simp, o1⟩
  obtain ⟨w, hw, hk6, w1⟩ := walked_ok (q := v.b0_2) hl r hk5
  rw [hw, Option.bind_some]
  exact ⟨_, rfl, hk6, ⟨r, rfl, by simp only; omega, by simp only; omega, by simp only; omega⟩, w1⟩
theorem real_on {c : Channel} (r : Right c) {crs : List (List Int)} (hw : WalkC c c.tides.toNat crs) (hag : ∀ k : Nat, k ≤ c.tides.toNat → agP tt c.sights (k : Int) (crs.getD k []) = true) : ∀ k : Nat, k ≤ c.tides.toNat → onB c k (crs.getD k []) = true := by
  have hc := r.cells
  have hmem : ∀ k, k ≤ c.tides.toNat → crs.getD k [] ∈ LL c := fun k hk => (mem_LL (by omega)).2 (hw.row k hk)
  have fwd : ∀ k : Nat, k ≤ c.tides.toNat → 0 < FcL tt c k (crs.getD k []) := by
    intro k
    induction k with
    | zero => intro hk; rw [FcL, if_pos ⟨hag 0 hk, hw.fst⟩]; omega
    | succ k ih => intro hk; exact FcL_succ_pos.2 ⟨hag (k + 1) hk, _, hmem k (by omega), hw.can k (by omega), ih (by omega)⟩
  have bwd : ∀ j k : Nat, k + j = c.tides.toNat → 0 < R (nxS c) (agS tt c) j (stL k (crs.getD k [])) := by
    intro j
    induction j with
    | zero =>
      intro k hk
      rw [R, agS_stL r (hw.row k (by omega)), if_pos (hag k (by omega))]
      omega
    | succ j ih =>
      intro k hk
      refine R_succ_pos.2 ⟨?_, stL (k + 1) (crs.getD (k + 1) []), ?_, ih (k + 1) (by omega)⟩
      · rw [agS_stL r (hw.row k (by omega))]; exact hag k (by omega)
      · exact (mem_nx_stL r (hw.row k (by omega)) (hw.row (k + 1) (by omega))).2 (hw.can k (by omega))
  intro k hk
  unfold onB
  rw [decide_eq_true (fwd k hk), decide_eq_true (bwd _ k (by omega))]
  rfl
theorem on_cnt {c : Channel} (r : Right c) {l : List Int} (hl : l ∈ LL c) (h : onB c c.tides.toNat l = true) : 0 < cntS tt c := by
  unfold onB at h
  rw [Bool.and_eq_true, decide_eq_true_eq] at h
  rw [cntS_sum r]
  exact sumN_pos.2 ⟨l, hl, h.1⟩
theorem pile_eq (l : List Int) : Q7 l = some ⟨0, 0⟩ := rfl
theorem HOK_zero (l : List Int) : HOK l 0 := ⟨Int.le_refl _, .inr rfl⟩
end Go.Proofs.Wb

namespace Go.Proofs.Wb
open Go Go.Fw Go.Gx Go.Sb
set_option linter.unusedVariables false
set_option maxRecDepth 100000
def cS (c : Channel) (sg : List Sight) : Channel := ⟨c.cells, c.tides, c.fords, c.sands, sg⟩
theorem few_right {c : Channel} (r : Right c) (h : c.sights.length ≤ 8) : Few c := by
  have hf := r.fords
  have hs := r.sands
  exact ⟨by omega, by omega, by omega⟩
theorem WalkC.sights {c : Channel} {n : Nat} {crs : List (List Int)} (h : WalkC c n crs) (sg : List Sight) : WalkC (cS c sg) n crs := ⟨h.len, h.fst, h.row, h.can⟩
end Go.Proofs.Wb

namespace Go.Proofs.Wb
open Go Go.Fw Go.Gx Go.Sb
set_option linter.unusedVariables false
set_option maxRecDepth 100000
theorem where_real {c : Channel} (r : Right c) {k i : Nat} {l : List Int} (hl : l ∈ LL c) (ho : onB c k l = true) (hi : i < c.fords.length) : l.getD i (-1) ∈ whereL c k i := by
  have hc := r.cells
  obtain ⟨h1, h2, h3⟩ := rowB_iff.1 ((mem_LL (by omega)).1 hl)
  have hm := h3 _ (getD_mem (l := l) (i := i) (d := -1) (by omega))
  unfold whereL
  rw [mem_filtL]
  refine ⟨hm.1, by omega, List.any_eq_true.2 ⟨l, hl, ?_⟩⟩
  rw [ho, Bool.true_and, decide_eq_true_eq]
  omega
theorem cells_at {c : Channel} (hF : Few c) (h0 : chk c = 0) (hp : 0 < cntS tt c) {k i : Nat} (hk : (k : Int) ≤ c.tides) (hi : i < c.fords.length) : qI c (k : Int) (i : Int) = some ⟨0, whereL c k i⟩ := by
  rw [Zm hF, if_pos h0, if_pos (inb_iff.2 (by omega)), if_pos (inb_iff.2 (by omega)), if_neg (by omega), Int.toNat_natCast, Int.toNat_natCast]
end Go.Proofs.Wb

namespace Go.Proofs.Wb
open Go Go.Fw Go.Gx Go.Sb
set_option linter.unusedVariables false
set_option maxRecDepth 100000
theorem LL_len2 {c : Channel} (hc : 0 ≤ c.cells) {a b : List Int} (ha : a ∈ LL c) (hb : b ∈ LL c) : a.length = b.length := by
  rw [(rowB_iff.1 ((mem_LL hc).1 ha)).1, (rowB_iff.1 ((mem_LL hc).1 hb)).1]
end Go.Proofs.Wb

namespace Go.Proofs.Wb
open Go Go.Fw Go.Gx Go.Sb
set_option linter.unusedVariables false
def agC (sg : List Sight) (crs : List (List Int)) : Bool := sg.all fun s => decide (s.cell ∈ crs.getD s.after.toNat []) == s.upright
theorem getDm {α : Type} {l : List α} {i : Nat} (d : α) (h : i < l.length) : l.getD i d ∈ l := by
  rw [List.getD_eq_getElem?_getD, List.getElem?_eq_getElem h]
  exact List.getElem_mem _
theorem agC_iff {c : Channel} (r : Right c) {crs : List (List Int)} : agC c.sights crs = true ↔ ∀ k : Nat, k ≤ c.tides.toNat → agP tt c.sights (k : Int) (crs.getD k []) = true := by
  unfold agC
  rw [List.all_eq_true]
  constructor
  · intro h k hk
    rw [agP_iff]
    intro i hi _ ha
    have := h _ (getDm default hi)
    rw [ha] at this
    simpa using this
  · intro h s hs
    have ha := r.after s hs
    obtain ⟨i, hi, e⟩ := List.getElem_of_mem hs
    have e2 : c.sights.getD i default = s := by rw [List.getD_eq_getElem?_getD, List.getElem?_eq_getElem hi, ← e]; rfl
    have := agP_iff.1 (h s.after.toNat (by omega)) i hi rfl (by rw [e2]; omega)
    rw [e2] at this
    simpa using this
theorem walk_on {c : Channel} (r : Right c) {crs : List (List Int)} (hw : WalkC c c.tides.toNat crs) (h : agC c.sights crs = true) : ∀ k : Nat, k ≤ c.tides.toNat → onB c k (crs.getD k []) = true := real_on r hw ((agC_iff r).1 h)
end Go.Proofs.Wb

namespace Go.Proofs.Wb
open Go Go.Fw Go.Gx Go.Sb
set_option linter.unusedVariables false
theorem where_short {c : Channel} (hc : c.cells ≤ 10) (k i : Nat) : (whereL c k i).length ≤ 1000 := by
  have := filtL_len (p := fun x => (LL c).any fun l => onB c k l && decide (l.getD i (-1) = (x : Int))) (k := c.cells.toNat)
  unfold whereL
  omega
section
variable {x : kp} {y : Jy}
end
end Go.Proofs.Wb

namespace Go.Gx
open Go Go.Fw
section
variable {w0 w : World} {M : List Nat} {S : List (Nat × Obj)} {vs : List VR} {ro : List Sg}
theorem VOK.cut {α : Type} (R : Row α) {sz ln cap : Nat} {l : List α} {sp : List Value} {q : Option (Nat × Nat)} {i : Int} (hsz : sz = R.sz) (hs0 : Nat.blt 0 R.sz = true) (hv : VOK sz ln cap (R.enc l) sp q) (hi : 0 ≤ i ∧ i ≤ (l.length : Int)) : VOK sz i.toNat cap (R.enc (l.take i.toNat)) (R.enc (l.drop i.toNat) ++ sp) q := by
  subst hsz
  have hln := vlen R hv hs0
  refine ⟨by rw [R.enc_len, List.length_take, Nat.min_eq_left (by omega)], ?_, by have := hv.hle; omega, hv.hmax, fun h => ?_, hv.hoff⟩
  · rw [← List.append_assoc, ← R.enc_append, List.take_append_drop]; exact hv.hcap
  · have := hv.hnone h
    exact ⟨by omega, this.2⟩
theorem vbl_setE {v v' : VR} (h : v'.bl = v.bl) : ∀ (i : Nat) (vs : List VR), vs[i]? = some v → vbl (vs.set i v') = vbl vs
  | _, [], _ => rfl
  | 0, u :: vs, hu => by
    simp only [List.getElem?_cons_zero, Option.some.injEq] at hu
    subst hu
    simp [vbl, h]
  | i + 1, u :: vs, hu => by
    simp only [List.getElem?_cons_succ] at hu
    simp only [List.set_cons_succ, vbl, vbl_setE h i vs hu]
theorem ZL {α : Type} (R : Row α) (iv : Nat) {n : Nat} {ds : List Deferred} {e : EnvL} {X : Act → World → Prop} {E : TypeId} {sz ln cap : Nat} {l : List α} {sp : List Value} {q : Option (Nat × Nat)} {i : Int} {mo : List (Nat × Obj)} (hsz : sz = R.sz) (hs0 : Nat.blt 0 R.sz = true) (hvi : vs[iv]? = some ⟨E, R.enc l, sp, q, mo⟩) (hv : VOK sz ln cap (R.enc l) sp q) (hi : 0 ≤ i ∧ i ≤ (l.length : Int))
    (h : VOK sz i.toNat cap (R.enc (l.take i.toNat)) (R.enc (l.drop i.toNat) ++ sp) q → G n ds e (HV w0 M S (vs.set iv ⟨E, R.enc (l.take i.toNat), R.enc (l.drop i.toNat) ++ sp, q, mo⟩) ro) X) : G n ds e (HV w0 M S vs ro) X := by
  refine (h (VOK.cut R hsz hs0 hv hi)).pre fun w hh => ?_
  have e1 : vbl (vs.set iv ⟨E, R.enc (l.take i.toNat), R.enc (l.drop i.toNat) ++ sp, q, mo⟩) = vbl vs := vbl_setE (by
    unfold VR.bl
    congr 1
    show vown E _ _ q = vown E _ _ q
    cases q with
    | none => rfl
    | some p =>
      show [(p.1, Obj.cells _ E (0, 0))] = [(p.1, Obj.cells _ E (0, 0))]
      rw [← List.append_assoc, ← R.enc_append, List.take_append_drop]) iv vs hvi
  unfold HV at hh ⊢
  rw [e1]
  exact hh
theorem DRO.rep {α : Type} (k : Nat) {x : List α} {A : AL} (hn : x.length = A.n) (hq : AOK A.n A.a) (hc : A.n ≤ A.cap) : DRO (List.replicate k x) (List.replicate k A) := ⟨by simp, fun j y B hy hB => by
  have h1 := List.eq_of_mem_replicate (List.mem_of_getElem? hy)
  have h2 := List.eq_of_mem_replicate (List.mem_of_getElem? hB)
  subst h1 h2
  exact ⟨hn, hq, hc⟩⟩
end
section
variable {n : Nat} {ds : List Deferred} {e : EnvL} {P : Program} {r : Option Nat} {Q : Exit → Act → World → Prop} {ops : Array Oper} {w0 : World} {M : List Nat} {S : List (Nat × Obj)} {vs : List VR} {ro : List Sg} {rest : List Oper}
end
end Go.Gx

namespace Go.Proofs.Wb
open Go Go.Fw Go.Gx Go.Sb
set_option linter.unusedVariables false
set_option maxHeartbeats 4000000
set_option maxRecDepth 100000
structure J4 where
  r0 : Int
  r1 : Int
def QP (x0 : Int) (y1 : Int) : Option J4 :=
 some (⟨(IntKind.u64.wrap ((IntKind.u64.wrap ((IntKind.u64.wrap ((Int.fdiv x0 (2 ^ min (Int.toNat 32) IntKind.u64.bits)) * (Int.fdiv y1 (2 ^ min (Int.toNat 32) IntKind.u64.bits)))) + (Int.fdiv (IntKind.u64.wrap ((IntKind.u64.wrap ((Int.fdiv x0 (2 ^ min (Int.toNat 32) IntKind.u64.bits)) * (IntKind.u64.wrap (BitVec.ofInt IntKind.u64.bits y1 &&& BitVec.ofInt IntKind.u64.bits 4294967295).toNat))) + (Int.fdiv (IntKind.u64.wrap ((IntKind.u64.wrap (BitVec.ofInt IntKind.u64.bits x0 &&& BitVec.ofInt IntKind.u64.bits 4294967295).toNat) * (IntKind.u64.wrap (BitVec.ofInt IntKind.u64.bits y1 &&& BitVec.ofInt IntKind.u64.bits 4294967295).toNat))) (2 ^ min (Int.toNat 32) IntKind.u64.bits)))) (2 ^ min (Int.toNat 32) IntKind.u64.bits)))) + (Int.fdiv (IntKind.u64.wrap ((IntKind.u64.wrap (BitVec.ofInt IntKind.u64.bits (IntKind.u64.wrap ((IntKind.u64.wrap ((Int.fdiv x0 (2 ^ min (Int.toNat 32) IntKind.u64.bits)) * (IntKind.u64.wrap (BitVec.ofInt IntKind.u64.bits y1 &&& BitVec.ofInt IntKind.u64.bits 4294967295).toNat))) + (Int.fdiv (IntKind.u64.wrap ((IntKind.u64.wrap (BitVec.ofInt IntKind.u64.bits x0 &&& BitVec.ofInt IntKind.u64.bits 4294967295).toNat) * (IntKind.u64.wrap (BitVec.ofInt IntKind.u64.bits y1 &&& BitVec.ofInt IntKind.u64.bits 4294967295).toNat))) (2 ^ min (Int.toNat 32) IntKind.u64.bits)))) &&& BitVec.ofInt IntKind.u64.bits 4294967295).toNat) + (IntKind.u64.wrap ((IntKind.u64.wrap (BitVec.ofInt IntKind.u64.bits x0 &&& BitVec.ofInt IntKind.u64.bits 4294967295).toNat) * (Int.fdiv y1 (2 ^ min (Int.toNat 32) IntKind.u64.bits)))))) (2 ^ min (Int.toNat 32) IntKind.u64.bits)))), (IntKind.u64.wrap (x0 * y1))⟩ : J4)
structure KD where
  r0 : Int
  r1 : Int
def J0 (x0 : Int) (y1 : Int) : Option KD :=
 (QP x0 y1).bind fun t25 =>
 some (⟨t25.r0, t25.r1⟩ : KD)
end Go.Proofs.Wb

namespace Go.Gx
end Go.Gx
namespace Go.Proofs.Wb
open Go Go.Fw Go.Gx Go.Sb
set_option linter.unusedVariables false
theorem mul_one {k : Int} (hk : 0 ≤ k ∧ k ≤ 1000) : J0 (IntKind.u64.wrap 1) (IntKind.u64.wrap k) = some ⟨0, k⟩ := by
  obtain ⟨n, rfl⟩ : ∃ n : Nat, k = (n : Int) := ⟨k.toNat, by omega⟩
  have key : ((List.range 1001).all fun n => decide ((J0 (IntKind.u64.wrap 1) (IntKind.u64.wrap (n : Int))).map (fun r => (r.r0, r.r1)) = some (0, (n : Int)))) = true := by decide +kernel
  have h := (List.all_eq_true.1 key) n (by simp; omega)
  have h := of_decide_eq_true h
  cases hm : J0 (IntKind.u64.wrap 1) (IntKind.u64.wrap (n : Int)) with
  | none => rw [hm] at h; cases h
  | some r =>
    rw [hm] at h
    cases r
    simp only [Option.map_some, Option.some.injEq, Prod.mk.injEq] at h
    obtain ⟨rfl, rfl⟩ := h
    rfl
end Go.Proofs.Wb

namespace Go.Proofs.Wb
open Go Go.Fw Go.Gx Go.Sb
set_option linter.unusedVariables false
def stillC (c : Channel) : List (List Int) := List.replicate (c.tides.toNat + 1) c.fords
theorem still_get {c : Channel} {k : Nat} (h : k ≤ c.tides.toNat) : (stillC c).getD k [] = c.fords := by
  unfold stillC
  rw [List.getD_eq_getElem?_getD, List.getElem?_replicate, if_pos (by omega)]
  rfl
theorem still_walk {c : Channel} (r : Right c) : WalkC c c.tides.toNat (stillC c) := ⟨by unfold stillC; simp, still_get (Nat.zero_le _), fun k hk => by rw [still_get hk]; exact rowB_iff.2 ⟨rfl, r.up, r.fcell⟩, fun k hk => by rw [still_get (by omega), still_get (by omega)]; exact canB_self r _⟩
section
variable {x : kp} {y : Jy}
end
end Go.Proofs.Wb

namespace Go.Proofs.Wb
set_option maxHeartbeats 4000000
set_option maxRecDepth 100000
open Go Go.Fw Go.Gx Go.Sb
open Tryz
set_option linter.unusedVariables false

def kO (y0 : Int) (a11 : (List Int)) : Option Bool :=
 (jK a11 y0).bind fun t6 =>
 some (!t6)
theorem Kj (y0 : Int) (a11 : (List Int)) (rb : Nat) (qa1 : Option Addr) (na1 ca1 : Nat) (w : World) (hw : HV w (keys [] []) [] [] [(rb, 0, [.slice qa1 na1 ca1]), (aB qa1, aO qa1, RI.enc a11)] w)  (hna1 : a11.length = na1) (hqa1 : AOK na1 qa1) (hla1 : na1 ≤ ca1) {res : Bool} (hm : kO y0 a11 = some res) :
    Calls Tryz.prog 66 #[.int .i64 y0, ptr rb 0] w (fun en w' => ∃ l : Unit, en = .returned (.bool res) ∧ (True) ∧ HV w (keys [] []) [] [] [] w') := by
  unfold kO at hm
  refine ya func66 Y ntmps66 Y (e := [(0, _), (1, _)]) Y hw (jt (jo Y Y (k8 (jc Y Y Y (fun w hh => jB (isAgg22 w) Y (segCell (hh.seg 0 Y) 0 Y)) (jg Y Y ?_)))))
  obtain ⟨t6, h1, hm⟩ := bindO hm
  refine jd [] [] Y Y Y Y Y Y Y call64 (fun w hh => qs a11 y0 qa1 na1 ca1 w (HV.callee (S0 := []) (vs0 := []) hh (roR hh 1 Y roN)) hna1 hqa1 hla1 h1) (fun l h2 => ?_)
  refine jc Y Y Y (fun _ _ => yO Y) (jo Y Y (jq (jv ?_)))
  obtain rfl := sj hm
  refine jl Y (fun w hh => (.tmp Y .nil)) (fun w hh => ⟨(), rfl, trivial, hh.se [] [] 2 Y Y Y rfl⟩)
def yr (s0 : (List Int)) (f1_c0 : (List Int)) (s : Int) : Option (Int ⊕ (Unit ⊕ Int)) :=
 if s < (s0.length : Int) then
 ((ix s0 s).bind fun t14 =>
 (kO t14 f1_c0).bind fun t16 =>
 if t16 = true then
 (some (.inr (.inr s))) else
 ((addc s 1).bind fun t18 =>
 some (.inl t18))) else
 (some (.inr (.inl ())))
def q6 (s0 : (List Int)) (f1_c0 : (List Int)) : Option Int :=
 (iterM FU (yr s0 f1_c0) 0).bind fun o =>
 oc o (fun j => some (-1)) (fun r_1 => some r_1)
theorem KU (s0 : (List Int)) (f1_c0 : (List Int)) (qa0 : Option Addr) (na0 ca0 : Nat) (rb : Nat) (qa2 : Option Addr) (na2 ca2 : Nat) (w : World) (hw : HV w (keys [] []) [] [] [(aB qa0, aO qa0, RI.enc s0), (rb, 0, [.slice qa2 na2 ca2]), (aB qa2, aO qa2, RI.enc f1_c0)] w) (hna0 : s0.length = na0) (hqa0 : AOK na0 qa0) (hla0 : na0 ≤ ca0)  (hna2 : f1_c0.length = na2) (hqa2 : AOK na2 qa2) (hla2 : na2 ≤ ca2) {res : Int} (hm : q6 s0 f1_c0 = some res) :
    Calls Tryz.prog 148 #[.slice qa0 na0 ca0, .func (.func 66) #[] #[ptr rb 0]] w (fun en w' => ∃ l : Unit, en = .returned (.int .i64 res) ∧ (True) ∧ HV w (keys [] []) [] [] [] w') := by
  unfold q6 at hm
  refine ya func148 Y ntmps148 Y (e := [(0, _), (1, _)]) Y hw (jt (jo Y Y (jq (ji (jt (jg Y Y (jc Y Y Y (fun w _ => k7 hna0 (runUnderlying22 w) Y) ?_)))))))
  refine jg Y Y (jq ?_)
  obtain ⟨o, h1, h2⟩ := bindO hm
  refine kf (ι := Unit) (fun j => o = .inl j) (fun j => []) (fun j => []) (fun j => []) ?_ ?_
  ·replace hm := h1
   refine jp ?_
   refine ku (ι := Unit) hm (fun s l => True) (fun s l => [(0, .slice qa0 na0 ca0), (1, .func (.func 66) #[] #[ptr rb 0]), (7, .int .i64 (s0.length : Int)), (8, .int .i64 s)]) (fun s l => []) (fun s l => []) () (trivial) (sE Y) (fun w hh => hh) (fun s l r hpl hm h3 => ?_)
   unfold yr at hm
   refine jt (JP Y Y Y (jq (ji ?_)))
   refine jw Y (fun h4 => ?_) (fun h4 => ?_)
   ·replace hm := ifD h4 hm
    refine jx (jb (ji (jp (jt (jg Y Y (jo Y Y (k8 ?_)))))))
    refine jg Y Y (jg Y Y (jg Y Y ?_))
    obtain ⟨t14, h5, hm⟩ := bindO hm
    refine jc Y Y Y (fun w _ => Je h5 (runUnderlying22 w) (sizeOf3 w) Y Y hna0 hqa0) (jc Y Y Y (fun w hh => zH RI 0 h5 (isAgg3 w) Y (hh.seg 0 Y) Y (Nat.add_zero _).symm) ?_)
    obtain ⟨t16, h6, hm⟩ := bindO hm
    refine jd [] [] Y Y Y Y Y Y Y call66 (fun w hh => Kj t14 f1_c0 rb qa2 na2 ca2 w (HV.callee (S0 := []) (vs0 := []) hh (roR hh 1 Y (roR hh 2 Y roN))) hna2 hqa2 hla2 h6) (fun l_1 h7 => ?_)
    refine jq ?_
    refine jw Y (fun h8 => ?_) (fun h8 => ?_)
    ·replace hm := ifT (h8) hm
     refine jt (jg Y Y (jo Y Y (jq (jv (jD (jh (jh ?_)))))))
     refine jD ?_
     obtain rfl := sj hm
     have hbo := h3 _ Y
     subst hbo
     refine jh ?_
     replace hm := ocR h2
     refine jh ?_
     obtain rfl := sj hm
     refine jl Y (fun w hh => (.tmp Y .nil)) (fun w hh => ⟨(), rfl, trivial, hh.se [] [] 3 Y Y Y rfl⟩)
    replace hm := ifN h8 hm
    refine jx (jy (jb (je ?_)))
    obtain ⟨t18, h9, hm⟩ := bindO hm
    refine JQ h9 Y Y Y (jg Y Y (ju ?_))
    obtain rfl := sj hm
    refine jb ?_
    exact jO _ () Y (trivial) (sE Y) (fun w hh => hh)
   replace hm := ifE h4 hm
   refine kQ (jn (jn (jP ?_)))
   obtain rfl := sj hm
   have hbo := h3 _ Y
   subst hbo
   exact jj () (Y) (.nil) (fun w hh => hh)
  intro j hj
  have h10 := hj
  subst h10
  replace hm := ocL h2
  refine jb (jt (jo Y Y (jq (jv ?_))))
  obtain rfl := sj hm
  refine jl Y (fun w hh => (.tmp Y .nil)) (fun w hh => ⟨(), rfl, trivial, hh.se [] [] 3 Y Y Y rfl⟩)
def jQ (s0 : (List Int)) (f1_c0 : (List Int)) : Option Bool :=
 (q6 s0 f1_c0).bind fun t7 =>
 some (decide (0 ≤ t7))
theorem zC (s0 : (List Int)) (f1_c0 : (List Int)) (qa0 : Option Addr) (na0 ca0 : Nat) (rb : Nat) (qa2 : Option Addr) (na2 ca2 : Nat) (w : World) (hw : HV w (keys [] []) [] [] [(aB qa0, aO qa0, RI.enc s0), (rb, 0, [.slice qa2 na2 ca2]), (aB qa2, aO qa2, RI.enc f1_c0)] w) (hna0 : s0.length = na0) (hqa0 : AOK na0 qa0) (hla0 : na0 ≤ ca0)  (hna2 : f1_c0.length = na2) (hqa2 : AOK na2 qa2) (hla2 : na2 ≤ ca2) {res : Bool} (hm : jQ s0 f1_c0 = some res) :
    Calls Tryz.prog 65 #[.slice qa0 na0 ca0, .func (.func 66) #[] #[ptr rb 0]] w (fun en w' => ∃ l : Unit, en = .returned (.bool res) ∧ (True) ∧ HV w (keys [] []) [] [] [] w') := by
  unfold jQ at hm
  refine ya func65 Y ntmps65 Y (e := [(0, _), (1, _)]) Y hw (jt (jo Y Y (k8 (jg Y Y (jg Y Y ?_)))))
  obtain ⟨t7, h1, hm⟩ := bindO hm
  refine jd [] [] Y Y Y Y Y Y Y call148 (fun w hh => KU s0 f1_c0 qa0 na0 ca0 rb qa2 na2 ca2 w (HV.callee (S0 := []) (vs0 := []) hh (roR hh 0 Y (roR hh 1 Y (roR hh 2 Y roN)))) hna0 hqa0 hla0 hna2 hqa2 hla2 h1) (fun l h2 => ?_)
  refine jc Y Y Y (fun _ _ => QL Y Y) (jo Y Y (jq (jv ?_)))
  obtain rfl := sj hm
  refine jl Y (fun w hh => (.tmp Y .nil)) (fun w hh => ⟨(), rfl, trivial, hh.se [] [] 3 Y Y Y rfl⟩)
structure yk where
  bare9 : Channel
  more10 : Channel
def yi : Plan := (.one 1 (.one 3 (.one 6 (.one 7 .done))))
def yn : Plan := (.br (.alt 3 (.one 4 (.one 6 (.one 7 .done))) (.alt 4 (.one 3 (.one 6 (.one 7 .done))) .nil)))
def Kd : Plan := (.br (.alt 1 yn (.alt 4 yi .nil)))
def yl : Plan := (.br (.alt 3 (.one 5 (.one 6 (.one 7 .done))) (.alt 5 (.one 3 (.one 6 (.one 7 .done))) .nil)))
def J2 : Plan := (.br (.alt 1 yl (.alt 5 yi .nil)))
def JW : Plan := (.br (.alt 4 (.one 5 (.one 6 (.one 7 .done))) (.alt 5 (.one 4 (.one 6 (.one 7 .done))) .nil)))
def JX : Plan := (.br (.alt 3 JW (.alt 4 yl (.alt 5 yn .nil))))
def kJ (t128 : Int) (t28 : kp) (s : Int) (o : yk) (t68 : (List Sand)) (t124 : Int) (s_1 : Int) : Option (Int ⊕ (Unit ⊕ Bool)) :=
 if s_1 < t128 then
 ((qI t28.r0 s_1 s).bind fun t136 =>
 (qI (⟨o.more10.cells, o.more10.tides, o.more10.fords, t68, o.more10.sights⟩ : Channel) s_1 s).bind fun t143 =>
 (if t136.r1 = 0 then
 (if t143.r1 = 0 then
 ((k9 t28.r0 t124).bind fun t155 =>
 if t155 = 0 then
 ((Jc t136.r0 [t124]).bind fun t161 =>
 if (!t161) = true then
 (some true) else
 ((jK t136.r0 t124).bind fun t168 =>
 if (!t168) = true then
 (some true) else
 (if 1 < (t68.length : Int) then
 ((jQ t136.r0 t143.r0).bind fun t179 =>
 some t179) else
 (some false)))) else
 ((jK t136.r0 t124).bind fun t168_1 =>
 if (!t168_1) = true then
 (some true) else
 (if 1 < (t68.length : Int) then
 ((jQ t136.r0 t143.r0).bind fun t179_1 =>
 some t179_1) else
 (some false)))) else
 (some true)) else
 (some true)).bind fun o_5 =>
 if o_5 = true then
 (some (.inr (.inr false))) else
 ((addc s_1 1).bind fun t182 =>
 some (.inl t182))) else
 (some (.inr (.inl ())))
def kD (t28 : kp) (o : yk) (t68 : (List Sand)) (s : Int) : Option (Int ⊕ (Unit ⊕ Bool)) :=
 if s < (t28.r0.fords.length : Int) then
 ((ix t28.r0.fords s).bind fun t124 =>
 (addc t28.r0.tides 1).bind fun t128 =>
 (iterM FU (kJ t128 t28 s o t68 t124) 0).bind fun o_4 =>
 oc o_4 (fun j_1 => (addc s 1).bind fun t183 =>
 some (.inl t183)) (fun r_2 => some (.inr (.inr r_2)))) else
 (some (.inr (.inl ())))
def qR (numbers0 : (List Int)) (where1 : Int) (wide2 : Int) : Option Bool :=
 (Q7 numbers0).bind fun t27 =>
 (qX numbers0 t27.t5_1 t27.t5_2 9 3 4).bind fun t28 =>
 ((yb t28.r0).bind fun t32 =>
 (yb t28.r0).bind fun t34 =>
 some (⟨t32, t34⟩ : yk)).bind fun o =>
 (remc (IntKind.i64.wrap where1) t28.r0.cells).bind fun t40 =>
 (if (o.more10.sands.length : Int) = 4 then
 (if (0 : Int) ≤ 0 ∧ 0 ≤ (o.more10.sands.length : Int) then (some (o.more10.sands.take (Int.toNat 0))) else none) else
 (some o.more10.sands)).bind fun o_1 =>
 (subc t28.r0.cells 1).bind fun t54 =>
 (remc (IntKind.i64.wrap wide2) 5).bind fun t58 =>
 (addc t40 t58).bind fun t59 =>
 (remc (IntKind.i64.wrap wide2) 2).bind fun t64 =>
 (addc 1 t64).bind fun t65 =>
 (appc 24 o_1 [(⟨(⟨t40, (min t54 t59)⟩ : Span), t65⟩ : Sand)]).bind fun t68 =>
 (qf (⟨o.bare9.cells, o.bare9.tides, o.bare9.fords, [], o.bare9.sights⟩ : Channel)).bind fun t72 =>
 (qf t28.r0).bind fun t77 =>
 (qf (⟨o.more10.cells, o.more10.tides, o.more10.fords, t68, o.more10.sights⟩ : Channel)).bind fun t82 =>
 (if t72.r1 = 0 then
 (if t77.r1 = 0 then
 (if t82.r1 = 0 then
 (if t72.r0 = 1 then
 (if t77.r0 < 1 then
 (some true) else
 (if t82.r0 < 1 then
 (some true) else
 (if 1 < (t68.length : Int) then
 (some (decide (t82.r0 < t77.r0))) else
 (some false)))) else
 (some true)) else
 (some true)) else
 (some true)) else
 (some true)).bind fun o_2 =>
 if o_2 = true then
 (some false) else
 ((iterM FU (kD t28 o t68) 0).bind fun o_3 =>
 oc o_3 (fun j => (yR).bind fun t184 =>
 some t184) (fun r_3 => some r_3))
theorem KJ (numbers0 : (List Int)) (where1 : Int) (wide2 : Int) (qa0 : Option Addr) (na0 ca0 : Nat) (w : World) (hw : HV w (keys [] []) [] [] [(aB qa0, aO qa0, RU8.enc numbers0)] w) (hna0 : numbers0.length = na0) (hqa0 : AOK na0 qa0) (hla0 : na0 ≤ ca0) {res : Bool} (hm : qR numbers0 where1 wide2 = some res) :
    Calls Tryz.prog 8 #[.slice qa0 na0 ca0, .int .u8 where1, .int .u8 wide2] w (fun en w' => ∃ l : Unit, en = .returned (.bool res) ∧ (True) ∧ HV w (keys [] []) [] [] [] w') := by
  unfold qR at hm
  refine ya func8 Y ntmps8 Y (e := [(0, _), (1, _), (2, _)]) Y hw (jt (jo Y Y (k8 (jg Y Y ?_))))
  obtain ⟨t27, h1, hm⟩ := bindO hm
  refine jd [] [] Y Y Y Y Y Y Y call62 (fun w hh => ZI numbers0 qa0 na0 ca0 w (HV.callee (S0 := []) (vs0 := []) hh (roR hh 0 Y roN)) hna0 hqa0 hla0 h1) (fun l h2 => ?_)
  refine kK (S' := [_]) (vs' := []) [0] [] 0 Y Y Y Y ?_
  obtain ⟨t28, h3, hm⟩ := bindO hm
  refine jd [_] [] Y Y Y Y Y Y Y call61 (fun w hh => Qo numbers0 t27.t5_1 t27.t5_2 9 3 4 l qa0 na0 ca0 w (HV.callee (S0 := [_]) (vs0 := []) hh (roR hh 0 Y roN)) hna0 hqa0 hla0 h3) (fun l_1 h4 => ?_)
  obtain ⟨h5, h6, h7, h8, h9⟩ := h4
  refine kK (S' := [_]) (vs' := [_, _, _, _]) [0] [0, 1, 2, 3] 0 Y Y Y Y (jg Y Y (zf Y Y Y (zf Y Y Y ?_)))
  refine jr (fun w => zeroValue26 w) Y (fun b h10 => ?_)
  refine kz (us := #[_, _, _, _, _]) (cs' := [_, _, _, _, _]) (S' := [_, _]) 0 (fun w => sizeOf26 w) Y Y Y Y Y Y Y (jo Y Y (jq (ji ?_)))
  obtain ⟨o, h11, h12⟩ := bindO hm
  refine kf (ι := Nat × Nat × VL × VL × VL × VL × VL × VL) (fun l_2 => VOK 1 l_2.2.2.1.n l_2.2.2.1.cap (RI.enc o.bare9.fords) l_2.2.2.1.sp l_2.2.2.1.q ∧ VOK 3 l_2.2.2.2.1.n l_2.2.2.2.1.cap (RSa.enc o.bare9.sands) l_2.2.2.2.1.sp l_2.2.2.2.1.q ∧ VOK 3 l_2.2.2.2.2.1.n l_2.2.2.2.2.1.cap (RSi.enc o.bare9.sights) l_2.2.2.2.2.1.sp l_2.2.2.2.2.1.q ∧ VOK 1 l_2.2.2.2.2.2.1.n l_2.2.2.2.2.2.1.cap (RI.enc o.more10.fords) l_2.2.2.2.2.2.1.sp l_2.2.2.2.2.2.1.q ∧ VOK 3 l_2.2.2.2.2.2.2.1.n l_2.2.2.2.2.2.2.1.cap (RSa.enc o.more10.sands) l_2.2.2.2.2.2.2.1.sp l_2.2.2.2.2.2.2.1.q ∧ VOK 3 l_2.2.2.2.2.2.2.2.n l_2.2.2.2.2.2.2.2.cap (RSi.enc o.more10.sights) l_2.2.2.2.2.2.2.2.sp l_2.2.2.2.2.2.2.2.q) (fun l_2 => [(1, .int .u8 where1), (2, .int .u8 wide2), (7, ptr b 0), (9, ptr l_2.1 0), (10, ptr l_2.2.1 0)]) (fun l_2 => [kc b #[.int .i64 t28.r0.cells, .int .i64 t28.r0.tides, sL l_1.1, sL l_1.2.1, sL l_1.2.2.1] 26, kc l #[.slice qa0 na0 ca0, .int .i64 t28.b0_1, .int .u32 t28.b0_2] 199, kc l_2.1 #[.int .i64 o.bare9.cells, .int .i64 o.bare9.tides, sL l_2.2.2.1, sL l_2.2.2.2.1, sL l_2.2.2.2.2.1] 26, kc l_2.2.1 #[.int .i64 o.more10.cells, .int .i64 o.more10.tides, sL l_2.2.2.2.2.2.1, sL l_2.2.2.2.2.2.2.1, sL l_2.2.2.2.2.2.2.2] 26]) (fun l_2 => [vL 3 l_1.1 (RI.enc t28.r0.fords), vL 98 l_1.2.1 (RSa.enc t28.r0.sands), vL 55 l_1.2.2.1 (RSi.enc t28.r0.sights), vL 3 l_2.2.2.1 (RI.enc o.bare9.fords), vL 98 l_2.2.2.2.1 (RSa.enc o.bare9.sands), vL 55 l_2.2.2.2.2.1 (RSi.enc o.bare9.sights), vL 3 l_2.2.2.2.2.2.1 (RI.enc o.more10.fords), vL 98 l_2.2.2.2.2.2.2.1 (RSa.enc o.more10.sands), vL 55 l_2.2.2.2.2.2.2.2 (RSi.enc o.more10.sights)]) ?_ ?_
  ·replace hm := h11
   obtain ⟨t32, h19, hm⟩ := bindO hm
   obtain ⟨t34, h20, hm⟩ := bindO hm
   refine qr none (.hoist 0 (.hoist 2 (.br (.alt 1 JX (.alt 4 J2 (.alt 5 Kd .nil)))))) _ Y (by decide +kernel) (fun w k hh => hh.draw k) (fun w hh => hh) ?_
   refine jz Y Y Y Y (fun w hh => jF (vs := [_, _, _, _, _]) (isAgg26 w) (sizeOf26 w) Y (hh.cells 0 Y Y)) (jz Y Y Y Y (fun w hh => jF (vs := [_, _, _, _, _]) (isAgg26 w) (sizeOf26 w) Y (hh.cells 0 Y Y)) ?_)
   refine yC (.one 7 .done) (fun g => ∀ (b_1 : Nat) (b_2 : Nat) (L : VL) (L_1 : VL) (L_2 : VL) (L_3 : VL) (L_4 : VL) (L_5 : VL), vk 1 L (RI.enc t34.fords) → vk 3 L_1 (RSa.enc t34.sands) → vk 3 L_2 (RSi.enc t34.sights) → vk 1 L_3 (RI.enc t32.fords) → vk 3 L_4 (RSa.enc t32.sands) → vk 3 L_5 (RSi.enc t32.sights) → g [(1, .int .u8 where1), (2, .int .u8 wide2), (7, ptr b 0), (9, ptr b_1 0), (10, ptr b_2 0), (34, .agg #[.int .i64 t34.cells, .int .i64 t34.tides, sL L, sL L_1, sL L_2])] [kc b #[.int .i64 t28.r0.cells, .int .i64 t28.r0.tides, sL l_1.1, sL l_1.2.1, sL l_1.2.2.1] 26, kc l #[.slice qa0 na0 ca0, .int .i64 t28.b0_1, .int .u32 t28.b0_2] 199, kc b_1 #[.int .i64 t32.cells, .int .i64 t32.tides, sL L_3, sL L_4, sL L_5] 26, kc b_2 #[.int .i64 0, .int .i64 0, slv none 0 0, slv none 0 0, slv none 0 0] 26] [vL 3 L (RI.enc t34.fords), vL 98 L_1 (RSa.enc t34.sands), vL 55 L_2 (RSi.enc t34.sights), vL 3 l_1.1 (RI.enc t28.r0.fords), vL 98 l_1.2.1 (RSa.enc t28.r0.sands), vL 55 l_1.2.2.1 (RSi.enc t28.r0.sights), vL 3 L_3 (RI.enc t32.fords), vL 98 L_4 (RSa.enc t32.sands), vL 55 L_5 (RSi.enc t32.sights), ⟨22, RwH.enc l_1.2.2.2.rs, l_1.2.2.2.v.sp, l_1.2.2.2.v.q, dbl 3 RI t28.r1 l_1.2.2.2.rs⟩]) ?_ (fun h27 => ?_)
   ·intro b_1 b_2 L L_1 L_2 L_3 L_4 L_5 h21 h22 h23 h24 h25 h26
    refine jG Y (kz (us := #[_, _, _, _, _]) (cs' := [_, _, _, _, _]) (S' := [_, _, _, _]) 3 (fun w => sizeOf26 w) Y Y Y Y Y Y Y (jm (hsE [0, 1] [3, 4, 5, 9] 0 Y Y Y Y) (kg ?_)))
    obtain rfl := sj hm
    exact jj (b_1, b_2, L_3, L_4, L_5, L, L_1, L_2) (⟨h24, h25, h26, h21, h22, h23⟩) (sE Y) (hsE [0, 1, 2, 3] [3, 4, 5, 6, 7, 8, 0, 1, 2] 0 Y Y Y Y)
   refine yC (.one 6 (.one 7 .done)) (fun g => ∀ (b_3 : Nat) (b_4 : Nat) (L_6 : VL) (L_7 : VL) (L_8 : VL) (L_9 : VL) (L_10 : VL) (L_11 : VL), vk 1 L_6 (RI.enc t32.fords) → vk 3 L_7 (RSa.enc t32.sands) → vk 3 L_8 (RSi.enc t32.sights) → vk 1 L_9 (RI.enc t34.fords) → vk 3 L_10 (RSa.enc t34.sands) → vk 3 L_11 (RSi.enc t34.sights) → g [(1, .int .u8 where1), (2, .int .u8 wide2), (7, ptr b 0), (9, ptr b_3 0), (10, ptr b_4 0), (32, .agg #[.int .i64 t32.cells, .int .i64 t32.tides, sL L_6, sL L_7, sL L_8]), (34, .agg #[.int .i64 t34.cells, .int .i64 t34.tides, sL L_9, sL L_10, sL L_11])] [kc b #[.int .i64 t28.r0.cells, .int .i64 t28.r0.tides, sL l_1.1, sL l_1.2.1, sL l_1.2.2.1] 26, kc l #[.slice qa0 na0 ca0, .int .i64 t28.b0_1, .int .u32 t28.b0_2] 199, kc b_3 #[.int .i64 0, .int .i64 0, slv none 0 0, slv none 0 0, slv none 0 0] 26, kc b_4 #[.int .i64 0, .int .i64 0, slv none 0 0, slv none 0 0, slv none 0 0] 26] [vL 3 L_6 (RI.enc t32.fords), vL 98 L_7 (RSa.enc t32.sands), vL 55 L_8 (RSi.enc t32.sights), vL 3 L_9 (RI.enc t34.fords), vL 98 L_10 (RSa.enc t34.sands), vL 55 L_11 (RSi.enc t34.sights), vL 3 l_1.1 (RI.enc t28.r0.fords), vL 98 l_1.2.1 (RSa.enc t28.r0.sands), vL 55 l_1.2.2.1 (RSi.enc t28.r0.sights), ⟨22, RwH.enc l_1.2.2.2.rs, l_1.2.2.2.v.sp, l_1.2.2.2.v.q, dbl 3 RI t28.r1 l_1.2.2.2.rs⟩]) ?_ (fun h34 => ?_)
   intro b_3 b_4 L_6 L_7 L_8 L_9 L_10 L_11 h28 h29 h30 h31 h32 h33
   refine jG Y (kz (us := #[_, _, _, _, _]) (cs' := [_, _, _, _, _]) (S' := [_, _, _, _]) 2 (fun w => sizeOf26 w) Y Y Y Y Y Y Y (jm (hsE [0, 1] [6, 7, 8, 9] 0 Y Y Y Y) ?_))
   exact yL (h27 b_3 b_4 L_9 L_10 L_11 L_6 L_7 L_8 h31 h32 h33 h28 h29 h30) (sE Y) (hsE [0, 1, 2, 3] [3, 4, 5, 6, 7, 8, 0, 1, 2, 9] 0 Y Y Y Y)
   refine yC (.one 3 (.one 6 (.one 7 .done))) (fun g => ∀ (b_5 : Nat) (b_6 : Nat) (L_12 : VL) (L_13 : VL) (L_14 : VL), vk 1 L_12 (RI.enc t32.fords) → vk 3 L_13 (RSa.enc t32.sands) → vk 3 L_14 (RSi.enc t32.sights) → g [(1, .int .u8 where1), (2, .int .u8 wide2), (7, ptr b 0), (9, ptr b_5 0), (10, ptr b_6 0), (32, .agg #[.int .i64 t32.cells, .int .i64 t32.tides, sL L_12, sL L_13, sL L_14]), (33, .agg #[.int .i64 t28.r0.cells, .int .i64 t28.r0.tides, sL l_1.1, sL l_1.2.1, sL l_1.2.2.1])] [kc b #[.int .i64 t28.r0.cells, .int .i64 t28.r0.tides, sL l_1.1, sL l_1.2.1, sL l_1.2.2.1] 26, kc l #[.slice qa0 na0 ca0, .int .i64 t28.b0_1, .int .u32 t28.b0_2] 199, kc b_5 #[.int .i64 0, .int .i64 0, slv none 0 0, slv none 0 0, slv none 0 0] 26, kc b_6 #[.int .i64 0, .int .i64 0, slv none 0 0, slv none 0 0, slv none 0 0] 26] [vL 3 L_12 (RI.enc t32.fords), vL 98 L_13 (RSa.enc t32.sands), vL 55 L_14 (RSi.enc t32.sights), vL 3 l_1.1 (RI.enc t28.r0.fords), vL 98 l_1.2.1 (RSa.enc t28.r0.sands), vL 55 l_1.2.2.1 (RSi.enc t28.r0.sights), ⟨22, RwH.enc l_1.2.2.2.rs, l_1.2.2.2.v.sp, l_1.2.2.2.v.q, dbl 3 RI t28.r1 l_1.2.2.2.rs⟩]) ?_ (fun h38 => ?_)
   ·intro b_5 b_6 L_12 L_13 L_14 h35 h36 h37
    refine jG Y ?_
    refine jd [] [] Y Y Y Y Y Y Y call20 (fun w hh => qc t28.r0 (qA l_1.1.q) l_1.1.n l_1.1.cap (qA l_1.2.1.q) l_1.2.1.n l_1.2.1.cap (qA l_1.2.2.1.q) l_1.2.2.1.n l_1.2.2.1.cap w (HV.callee (S0 := []) (vs0 := []) hh (roC (hh.vsepA 3 Y h5) (roC (hh.vsepA 4 Y h6) (roC (hh.vsepA 5 Y h7) roN)))) (vlen RI h5 Y) (AOK.q (vne h5)) (h5).hle (vlen RSa h6 Y) (AOK.q (vne h6)) (h6).hle (vlen RSi h7 Y) (AOK.q (vne h7)) (h7).hle h20) (fun l_3 h39 => ?_)
    obtain ⟨h40, h41, h42⟩ := h39
    refine kK (S' := [_, _, _, _]) (vs' := [_, _, _, _, _, _, _, _, _, _]) [0, 1, 2, 3] [0, 1, 2, 3, 4, 5, 6, 7, 8, 9] 0 Y Y Y Y (jm (hsE [0, 1] [6, 7, 8, 9] 0 Y Y Y Y) ?_)
    exact yL (h34 b_5 b_6 L_12 L_13 L_14 l_3.1 l_3.2.1 l_3.2.2 h35 h36 h37 h40 h41 h42) (sE Y) (hsE [0, 1, 2, 3] [3, 4, 5, 0, 1, 2, 6, 7, 8, 9] 0 Y Y Y Y)
   refine yC (.one 4 (.one 6 (.one 7 .done))) (fun g => ∀ (b_7 : Nat) (L_15 : VL) (L_16 : VL) (L_17 : VL) (L_18 : VL) (L_19 : VL) (L_20 : VL), vk 1 L_15 (RI.enc t32.fords) → vk 3 L_16 (RSa.enc t32.sands) → vk 3 L_17 (RSi.enc t32.sights) → vk 1 L_18 (RI.enc t34.fords) → vk 3 L_19 (RSa.enc t34.sands) → vk 3 L_20 (RSi.enc t34.sights) → g [(1, .int .u8 where1), (2, .int .u8 wide2), (7, ptr b 0), (10, ptr b_7 0), (32, .agg #[.int .i64 t32.cells, .int .i64 t32.tides, sL L_15, sL L_16, sL L_17]), (34, .agg #[.int .i64 t34.cells, .int .i64 t34.tides, sL L_18, sL L_19, sL L_20])] [kc b #[.int .i64 t28.r0.cells, .int .i64 t28.r0.tides, sL l_1.1, sL l_1.2.1, sL l_1.2.2.1] 26, kc l #[.slice qa0 na0 ca0, .int .i64 t28.b0_1, .int .u32 t28.b0_2] 199, kc b_7 #[.int .i64 0, .int .i64 0, slv none 0 0, slv none 0 0, slv none 0 0] 26] [vL 3 L_15 (RI.enc t32.fords), vL 98 L_16 (RSa.enc t32.sands), vL 55 L_17 (RSi.enc t32.sights), vL 3 L_18 (RI.enc t34.fords), vL 98 L_19 (RSa.enc t34.sands), vL 55 L_20 (RSi.enc t34.sights), vL 3 l_1.1 (RI.enc t28.r0.fords), vL 98 l_1.2.1 (RSa.enc t28.r0.sands), vL 55 l_1.2.2.1 (RSi.enc t28.r0.sights), ⟨22, RwH.enc l_1.2.2.2.rs, l_1.2.2.2.v.sp, l_1.2.2.2.v.q, dbl 3 RI t28.r1 l_1.2.2.2.rs⟩]) ?_ (fun h49 => ?_)
   intro b_7 L_15 L_16 L_17 L_18 L_19 L_20 h43 h44 h45 h46 h47 h48
   refine jG Y ?_
   refine jr (fun w => zeroValue26 w) Y (fun b_8 h50 => ?_)
   refine jm (hsE [1, 2] [6, 7, 8, 9] 0 Y Y Y Y) ?_
   exact yL (h34 b_8 b_7 L_15 L_16 L_17 L_18 L_19 L_20 h43 h44 h45 h46 h47 h48) (sE Y) (hsE [1, 2, 0, 3] [0, 1, 2, 3, 4, 5, 6, 7, 8, 9] 0 Y Y Y Y)
   refine yC (.one 5 (.one 6 (.one 7 .done))) (fun g => ∀ (b_9 : Nat) (L_21 : VL) (L_22 : VL) (L_23 : VL) (L_24 : VL) (L_25 : VL) (L_26 : VL), vk 1 L_21 (RI.enc t32.fords) → vk 3 L_22 (RSa.enc t32.sands) → vk 3 L_23 (RSi.enc t32.sights) → vk 1 L_24 (RI.enc t34.fords) → vk 3 L_25 (RSa.enc t34.sands) → vk 3 L_26 (RSi.enc t34.sights) → g [(1, .int .u8 where1), (2, .int .u8 wide2), (7, ptr b 0), (9, ptr b_9 0), (32, .agg #[.int .i64 t32.cells, .int .i64 t32.tides, sL L_21, sL L_22, sL L_23]), (34, .agg #[.int .i64 t34.cells, .int .i64 t34.tides, sL L_24, sL L_25, sL L_26])] [kc b #[.int .i64 t28.r0.cells, .int .i64 t28.r0.tides, sL l_1.1, sL l_1.2.1, sL l_1.2.2.1] 26, kc l #[.slice qa0 na0 ca0, .int .i64 t28.b0_1, .int .u32 t28.b0_2] 199, kc b_9 #[.int .i64 0, .int .i64 0, slv none 0 0, slv none 0 0, slv none 0 0] 26] [vL 3 L_21 (RI.enc t32.fords), vL 98 L_22 (RSa.enc t32.sands), vL 55 L_23 (RSi.enc t32.sights), vL 3 L_24 (RI.enc t34.fords), vL 98 L_25 (RSa.enc t34.sands), vL 55 L_26 (RSi.enc t34.sights), vL 3 l_1.1 (RI.enc t28.r0.fords), vL 98 l_1.2.1 (RSa.enc t28.r0.sands), vL 55 l_1.2.2.1 (RSi.enc t28.r0.sights), ⟨22, RwH.enc l_1.2.2.2.rs, l_1.2.2.2.v.sp, l_1.2.2.2.v.q, dbl 3 RI t28.r1 l_1.2.2.2.rs⟩]) ?_ (fun h57 => ?_)
   ·intro b_9 L_21 L_22 L_23 L_24 L_25 L_26 h51 h52 h53 h54 h55 h56
    refine jG Y ?_
    refine jr (fun w => zeroValue26 w) Y (fun b_10 h58 => ?_)
    refine jm (hsE [1, 2] [6, 7, 8, 9] 0 Y Y Y Y) ?_
    exact yL (h34 b_9 b_10 L_21 L_22 L_23 L_24 L_25 L_26 h51 h52 h53 h54 h55 h56) (sE Y) (hsE [1, 2, 3, 0] [0, 1, 2, 3, 4, 5, 6, 7, 8, 9] 0 Y Y Y Y)
   refine yC yi (fun g => ∀ (b_11 : Nat) (b_12 : Nat), g [(1, .int .u8 where1), (2, .int .u8 wide2), (7, ptr b 0), (9, ptr b_11 0), (10, ptr b_12 0), (31, .agg #[.int .i64 t28.r0.cells, .int .i64 t28.r0.tides, sL l_1.1, sL l_1.2.1, sL l_1.2.2.1]), (33, .agg #[.int .i64 t28.r0.cells, .int .i64 t28.r0.tides, sL l_1.1, sL l_1.2.1, sL l_1.2.2.1])] [kc b #[.int .i64 t28.r0.cells, .int .i64 t28.r0.tides, sL l_1.1, sL l_1.2.1, sL l_1.2.2.1] 26, kc l #[.slice qa0 na0 ca0, .int .i64 t28.b0_1, .int .u32 t28.b0_2] 199, kc b_11 #[.int .i64 0, .int .i64 0, slv none 0 0, slv none 0 0, slv none 0 0] 26, kc b_12 #[.int .i64 0, .int .i64 0, slv none 0 0, slv none 0 0, slv none 0 0] 26] [vL 3 l_1.1 (RI.enc t28.r0.fords), vL 98 l_1.2.1 (RSa.enc t28.r0.sands), vL 55 l_1.2.2.1 (RSi.enc t28.r0.sights), ⟨22, RwH.enc l_1.2.2.2.rs, l_1.2.2.2.v.sp, l_1.2.2.2.v.q, dbl 3 RI t28.r1 l_1.2.2.2.rs⟩]) ?_ (fun h59 => ?_)
   intro b_11 b_12
   refine jG Y ?_
   refine jd [] [] Y Y Y Y Y Y Y call20 (fun w hh => qc t28.r0 (qA l_1.1.q) l_1.1.n l_1.1.cap (qA l_1.2.1.q) l_1.2.1.n l_1.2.1.cap (qA l_1.2.2.1.q) l_1.2.2.1.n l_1.2.2.1.cap w (HV.callee (S0 := []) (vs0 := []) hh (roC (hh.vsepA 0 Y h5) (roC (hh.vsepA 1 Y h6) (roC (hh.vsepA 2 Y h7) roN)))) (vlen RI h5 Y) (AOK.q (vne h5)) (h5).hle (vlen RSa h6 Y) (AOK.q (vne h6)) (h6).hle (vlen RSi h7 Y) (AOK.q (vne h7)) (h7).hle h19) (fun l_4 h60 => ?_)
   obtain ⟨h61, h62, h63⟩ := h60
   refine kK (S' := [_, _, _, _]) (vs' := [_, _, _, _, _, _, _]) [0, 1, 2, 3] [0, 1, 2, 3, 4, 5, 6] 0 Y Y Y Y (jm (hsE [0, 1] [3, 4, 5, 6] 0 Y Y Y Y) ?_)
   exact yL (h38 b_11 b_12 l_4.1 l_4.2.1 l_4.2.2 h61 h62 h63) (sE Y) (fun w hh => hh)
   refine yC yn (fun g => ∀ (b_13 : Nat) (L_27 : VL) (L_28 : VL) (L_29 : VL), vk 1 L_27 (RI.enc t32.fords) → vk 3 L_28 (RSa.enc t32.sands) → vk 3 L_29 (RSi.enc t32.sights) → g [(1, .int .u8 where1), (2, .int .u8 wide2), (7, ptr b 0), (10, ptr b_13 0), (32, .agg #[.int .i64 t32.cells, .int .i64 t32.tides, sL L_27, sL L_28, sL L_29]), (33, .agg #[.int .i64 t28.r0.cells, .int .i64 t28.r0.tides, sL l_1.1, sL l_1.2.1, sL l_1.2.2.1])] [kc b #[.int .i64 t28.r0.cells, .int .i64 t28.r0.tides, sL l_1.1, sL l_1.2.1, sL l_1.2.2.1] 26, kc l #[.slice qa0 na0 ca0, .int .i64 t28.b0_1, .int .u32 t28.b0_2] 199, kc b_13 #[.int .i64 0, .int .i64 0, slv none 0 0, slv none 0 0, slv none 0 0] 26] [vL 3 L_27 (RI.enc t32.fords), vL 98 L_28 (RSa.enc t32.sands), vL 55 L_29 (RSi.enc t32.sights), vL 3 l_1.1 (RI.enc t28.r0.fords), vL 98 l_1.2.1 (RSa.enc t28.r0.sands), vL 55 l_1.2.2.1 (RSi.enc t28.r0.sights), ⟨22, RwH.enc l_1.2.2.2.rs, l_1.2.2.2.v.sp, l_1.2.2.2.v.q, dbl 3 RI t28.r1 l_1.2.2.2.rs⟩]) ?_ (fun h67 => ?_)
   ·intro b_13 L_27 L_28 L_29 h64 h65 h66
    refine Yj ?_
    refine yd Y ?_ ?_
    ·refine jd [] [] Y Y Y Y Y Y Y call20 (fun w hh => qc t28.r0 (qA l_1.1.q) l_1.1.n l_1.1.cap (qA l_1.2.1.q) l_1.2.1.n l_1.2.1.cap (qA l_1.2.2.1.q) l_1.2.2.1.n l_1.2.2.1.cap w (HV.callee (S0 := []) (vs0 := []) hh (roC (hh.vsepA 3 Y h5) (roC (hh.vsepA 4 Y h6) (roC (hh.vsepA 5 Y h7) roN)))) (vlen RI h5 Y) (AOK.q (vne h5)) (h5).hle (vlen RSa h6 Y) (AOK.q (vne h6)) (h6).hle (vlen RSi h7 Y) (AOK.q (vne h7)) (h7).hle h20) (fun l_5 h68 => ?_)
     obtain ⟨h69, h70, h71⟩ := h68
     refine kK (S' := [_, _, _]) (vs' := [_, _, _, _, _, _, _, _, _, _]) [0, 1, 2] [0, 1, 2, 3, 4, 5, 6, 7, 8, 9] 0 Y Y Y Y (jm (hsE [0, 1] [6, 7, 8, 9] 0 Y Y Y Y) ?_)
     exact yL (h49 b_13 L_27 L_28 L_29 l_5.1 l_5.2.1 l_5.2.2 h64 h65 h66 h69 h70 h71) (sE Y) (hsE [0, 1, 2] [3, 4, 5, 0, 1, 2, 6, 7, 8, 9] 0 Y Y Y Y)
    refine yd Y ?_ ?_
    refine jr (fun w => zeroValue26 w) Y (fun b_14 h72 => ?_)
    refine jm (hsE [1, 2] [3, 4, 5, 6] 0 Y Y Y Y) ?_
    exact yL (h38 b_14 b_13 L_27 L_28 L_29 h64 h65 h66) (sE Y) (hsE [1, 2, 0, 3] [0, 1, 2, 3, 4, 5, 6] 0 Y Y Y Y)
    exact Ki
   refine yC yl (fun g => ∀ (b_15 : Nat) (L_30 : VL) (L_31 : VL) (L_32 : VL), vk 1 L_30 (RI.enc t32.fords) → vk 3 L_31 (RSa.enc t32.sands) → vk 3 L_32 (RSi.enc t32.sights) → g [(1, .int .u8 where1), (2, .int .u8 wide2), (7, ptr b 0), (9, ptr b_15 0), (32, .agg #[.int .i64 t32.cells, .int .i64 t32.tides, sL L_30, sL L_31, sL L_32]), (33, .agg #[.int .i64 t28.r0.cells, .int .i64 t28.r0.tides, sL l_1.1, sL l_1.2.1, sL l_1.2.2.1])] [kc b #[.int .i64 t28.r0.cells, .int .i64 t28.r0.tides, sL l_1.1, sL l_1.2.1, sL l_1.2.2.1] 26, kc l #[.slice qa0 na0 ca0, .int .i64 t28.b0_1, .int .u32 t28.b0_2] 199, kc b_15 #[.int .i64 0, .int .i64 0, slv none 0 0, slv none 0 0, slv none 0 0] 26] [vL 3 L_30 (RI.enc t32.fords), vL 98 L_31 (RSa.enc t32.sands), vL 55 L_32 (RSi.enc t32.sights), vL 3 l_1.1 (RI.enc t28.r0.fords), vL 98 l_1.2.1 (RSa.enc t28.r0.sands), vL 55 l_1.2.2.1 (RSi.enc t28.r0.sights), ⟨22, RwH.enc l_1.2.2.2.rs, l_1.2.2.2.v.sp, l_1.2.2.2.v.q, dbl 3 RI t28.r1 l_1.2.2.2.rs⟩]) ?_ (fun h76 => ?_)
   intro b_15 L_30 L_31 L_32 h73 h74 h75
   refine Yj ?_
   refine yd Y ?_ ?_
   ·refine jd [] [] Y Y Y Y Y Y Y call20 (fun w hh => qc t28.r0 (qA l_1.1.q) l_1.1.n l_1.1.cap (qA l_1.2.1.q) l_1.2.1.n l_1.2.1.cap (qA l_1.2.2.1.q) l_1.2.2.1.n l_1.2.2.1.cap w (HV.callee (S0 := []) (vs0 := []) hh (roC (hh.vsepA 3 Y h5) (roC (hh.vsepA 4 Y h6) (roC (hh.vsepA 5 Y h7) roN)))) (vlen RI h5 Y) (AOK.q (vne h5)) (h5).hle (vlen RSa h6 Y) (AOK.q (vne h6)) (h6).hle (vlen RSi h7 Y) (AOK.q (vne h7)) (h7).hle h20) (fun l_6 h77 => ?_)
    obtain ⟨h78, h79, h80⟩ := h77
    refine kK (S' := [_, _, _]) (vs' := [_, _, _, _, _, _, _, _, _, _]) [0, 1, 2] [0, 1, 2, 3, 4, 5, 6, 7, 8, 9] 0 Y Y Y Y (jm (hsE [0, 1] [6, 7, 8, 9] 0 Y Y Y Y) ?_)
    exact yL (h57 b_15 L_30 L_31 L_32 l_6.1 l_6.2.1 l_6.2.2 h73 h74 h75 h78 h79 h80) (sE Y) (hsE [0, 1, 2] [3, 4, 5, 0, 1, 2, 6, 7, 8, 9] 0 Y Y Y Y)
   refine yd Y ?_ ?_
   refine jr (fun w => zeroValue26 w) Y (fun b_16 h81 => ?_)
   refine jm (hsE [1, 2] [3, 4, 5, 6] 0 Y Y Y Y) ?_
   exact yL (h38 b_15 b_16 L_30 L_31 L_32 h73 h74 h75) (sE Y) (hsE [1, 2, 3, 0] [0, 1, 2, 3, 4, 5, 6] 0 Y Y Y Y)
   exact Ki
   refine Yj ?_
   refine yd Y ?_ ?_
   ·refine jd [] [] Y Y Y Y Y Y Y call20 (fun w hh => qc t28.r0 (qA l_1.1.q) l_1.1.n l_1.1.cap (qA l_1.2.1.q) l_1.2.1.n l_1.2.1.cap (qA l_1.2.2.1.q) l_1.2.2.1.n l_1.2.2.1.cap w (HV.callee (S0 := []) (vs0 := []) hh (roC (hh.vsepA 0 Y h5) (roC (hh.vsepA 1 Y h6) (roC (hh.vsepA 2 Y h7) roN)))) (vlen RI h5 Y) (AOK.q (vne h5)) (h5).hle (vlen RSa h6 Y) (AOK.q (vne h6)) (h6).hle (vlen RSi h7 Y) (AOK.q (vne h7)) (h7).hle h19) (fun l_7 h82 => ?_)
    obtain ⟨h83, h84, h85⟩ := h82
    refine kK (S' := [_, _]) (vs' := [_, _, _, _, _, _, _]) [0, 1] [0, 1, 2, 3, 4, 5, 6] 0 Y Y Y Y (jm (hsE [0, 1] [3, 4, 5, 6] 0 Y Y Y Y) (Yj ?_))
    refine yd Y ?_ ?_
    ·refine jd [] [] Y Y Y Y Y Y Y call20 (fun w hh => qc t28.r0 (qA l_1.1.q) l_1.1.n l_1.1.cap (qA l_1.2.1.q) l_1.2.1.n l_1.2.1.cap (qA l_1.2.2.1.q) l_1.2.2.1.n l_1.2.2.1.cap w (HV.callee (S0 := []) (vs0 := []) hh (roC (hh.vsepA 3 Y h5) (roC (hh.vsepA 4 Y h6) (roC (hh.vsepA 5 Y h7) roN)))) (vlen RI h5 Y) (AOK.q (vne h5)) (h5).hle (vlen RSa h6 Y) (AOK.q (vne h6)) (h6).hle (vlen RSi h7 Y) (AOK.q (vne h7)) (h7).hle h20) (fun l_8 h86 => ?_)
     obtain ⟨h87, h88, h89⟩ := h86
     refine kK (S' := [_, _]) (vs' := [_, _, _, _, _, _, _, _, _, _]) [0, 1] [0, 1, 2, 3, 4, 5, 6, 7, 8, 9] 0 Y Y Y Y (jm (hsE [0, 1] [6, 7, 8, 9] 0 Y Y Y Y) (Yj ?_))
     refine yd Y ?_ ?_
     ·refine jr (fun w => zeroValue26 w) Y (fun b_17 h90 => ?_)
      refine jm (hsE [1, 2] [6, 7, 8, 9] 0 Y Y Y Y) ?_
      exact yL (h57 b_17 l_7.1 l_7.2.1 l_7.2.2 l_8.1 l_8.2.1 l_8.2.2 h83 h84 h85 h87 h88 h89) (sE Y) (hsE [1, 2, 0] [3, 4, 5, 0, 1, 2, 6, 7, 8, 9] 0 Y Y Y Y)
     refine yd Y ?_ ?_
     refine jr (fun w => zeroValue26 w) Y (fun b_18 h91 => ?_)
     refine jm (hsE [1, 2] [6, 7, 8, 9] 0 Y Y Y Y) ?_
     exact yL (h49 b_18 l_7.1 l_7.2.1 l_7.2.2 l_8.1 l_8.2.1 l_8.2.2 h83 h84 h85 h87 h88 h89) (sE Y) (hsE [1, 2, 0] [3, 4, 5, 0, 1, 2, 6, 7, 8, 9] 0 Y Y Y Y)
     exact Ki
    refine yd Y ?_ ?_
    refine jr (fun w => zeroValue26 w) Y (fun b_19 h92 => ?_)
    refine jm (hsE [1, 2] [3, 4, 5, 6] 0 Y Y Y Y) ?_
    exact yL (h76 b_19 l_7.1 l_7.2.1 l_7.2.2 h83 h84 h85) (sE Y) (hsE [1, 2, 0] [0, 1, 2, 3, 4, 5, 6] 0 Y Y Y Y)
    refine yd Y ?_ ?_
    ·refine jr (fun w => zeroValue26 w) Y (fun b_20 h93 => ?_)
     refine jm (hsE [1, 2] [3, 4, 5, 6] 0 Y Y Y Y) ?_
     exact yL (h67 b_20 l_7.1 l_7.2.1 l_7.2.2 h83 h84 h85) (sE Y) (hsE [1, 2, 0] [0, 1, 2, 3, 4, 5, 6] 0 Y Y Y Y)
    exact Ki
   refine yd Y ?_ ?_
   refine jr (fun w => zeroValue26 w) Y (fun b_21 h94 => ?_)
   refine jm (hsE [1, 2] [0, 1, 2, 3] 0 Y Y Y Y) (Yj ?_)
   refine yd Y ?_ ?_
   ·refine jd [] [] Y Y Y Y Y Y Y call20 (fun w hh => qc t28.r0 (qA l_1.1.q) l_1.1.n l_1.1.cap (qA l_1.2.1.q) l_1.2.1.n l_1.2.1.cap (qA l_1.2.2.1.q) l_1.2.2.1.n l_1.2.2.1.cap w (HV.callee (S0 := []) (vs0 := []) hh (roC (hh.vsepA 0 Y h5) (roC (hh.vsepA 1 Y h6) (roC (hh.vsepA 2 Y h7) roN)))) (vlen RI h5 Y) (AOK.q (vne h5)) (h5).hle (vlen RSa h6 Y) (AOK.q (vne h6)) (h6).hle (vlen RSi h7 Y) (AOK.q (vne h7)) (h7).hle h19) (fun l_9 h95 => ?_)
    obtain ⟨h96, h97, h98⟩ := h95
    refine kK (S' := [_, _, _]) (vs' := [_, _, _, _, _, _, _]) [0, 1, 2] [0, 1, 2, 3, 4, 5, 6] 0 Y Y Y Y (jm (hsE [1, 2] [3, 4, 5, 6] 0 Y Y Y Y) ?_)
    exact yL (h76 b_21 l_9.1 l_9.2.1 l_9.2.2 h96 h97 h98) (sE Y) (hsE [1, 2, 0] [0, 1, 2, 3, 4, 5, 6] 0 Y Y Y Y)
   refine yd Y ?_ ?_
   refine jr (fun w => zeroValue26 w) Y (fun b_22 h99 => ?_)
   refine jm (hsE [2, 3] [0, 1, 2, 3] 0 Y Y Y Y) ?_
   exact yL (h59 b_21 b_22) (sE Y) (hsE [2, 3, 1, 0] [0, 1, 2, 3] 0 Y Y Y Y)
   exact Ki
   refine yd Y ?_ ?_
   ·refine jr (fun w => zeroValue26 w) Y (fun b_23 h100 => ?_)
    refine jm (hsE [1, 2] [0, 1, 2, 3] 0 Y Y Y Y) (Yj ?_)
    refine yd Y ?_ ?_
    ·refine jd [] [] Y Y Y Y Y Y Y call20 (fun w hh => qc t28.r0 (qA l_1.1.q) l_1.1.n l_1.1.cap (qA l_1.2.1.q) l_1.2.1.n l_1.2.1.cap (qA l_1.2.2.1.q) l_1.2.2.1.n l_1.2.2.1.cap w (HV.callee (S0 := []) (vs0 := []) hh (roC (hh.vsepA 0 Y h5) (roC (hh.vsepA 1 Y h6) (roC (hh.vsepA 2 Y h7) roN)))) (vlen RI h5 Y) (AOK.q (vne h5)) (h5).hle (vlen RSa h6 Y) (AOK.q (vne h6)) (h6).hle (vlen RSi h7 Y) (AOK.q (vne h7)) (h7).hle h19) (fun l_10 h101 => ?_)
     obtain ⟨h102, h103, h104⟩ := h101
     refine kK (S' := [_, _, _]) (vs' := [_, _, _, _, _, _, _]) [0, 1, 2] [0, 1, 2, 3, 4, 5, 6] 0 Y Y Y Y (jm (hsE [1, 2] [3, 4, 5, 6] 0 Y Y Y Y) ?_)
     exact yL (h67 b_23 l_10.1 l_10.2.1 l_10.2.2 h102 h103 h104) (sE Y) (hsE [1, 2, 0] [0, 1, 2, 3, 4, 5, 6] 0 Y Y Y Y)
    refine yd Y ?_ ?_
    refine jr (fun w => zeroValue26 w) Y (fun b_24 h105 => ?_)
    refine jm (hsE [2, 3] [0, 1, 2, 3] 0 Y Y Y Y) ?_
    exact yL (h59 b_24 b_23) (sE Y) (hsE [2, 3, 0, 1] [0, 1, 2, 3] 0 Y Y Y Y)
    exact Ki
   exact Ki
  intro l_2 hj
  obtain ⟨h13, h14, h15, h16, h17, h18⟩ := hj
  replace hm := h12
  refine jb (jt (qU 3 runUnderlying26 Y sizeOf23 Y Y (yf (cs' := #[_, _, _, _, _]) (S' := [_, _, _, _]) 2 (fun w => sizeOf23 w) Y Y Y Y Y Y Y (k8 (jg Y Y (jc Y Y Y (fun w _ => YN (runUnderlying5 w) (runUnderlying3 w) Y) (qU 0 runUnderlying26 Y sizeOf3 Y Y ?_)))))))
  refine qJ 0 isAgg3 Y Y Y Y ?_
  obtain ⟨t40, h106, hm⟩ := bindO hm
  refine jc Y Y Y (fun _ _ => Za h106 Y Y) (jo Y Y (jq (ji ?_)))
  obtain ⟨o_1, h107, h108⟩ := bindO hm
  refine kf (ι := VL) (fun l_11 => VOK 3 l_11.n l_11.cap (RSa.enc o_1) l_11.sp l_11.q) (fun l_11 => [(2, .int .u8 wide2), (7, ptr b 0), (9, ptr l_2.1 0), (10, ptr l_2.2.1 0), (11, .int .i64 t40)]) (fun l_11 => [kc b #[.int .i64 t28.r0.cells, .int .i64 t28.r0.tides, sL l_1.1, sL l_1.2.1, sL l_1.2.2.1] 26, kc l #[.slice qa0 na0 ca0, .int .i64 t28.b0_1, .int .u32 t28.b0_2] 199, kc l_2.1 #[.int .i64 o.bare9.cells, .int .i64 o.bare9.tides, sL l_2.2.2.1, slv none 0 0, sL l_2.2.2.2.2.1] 26, kc l_2.2.1 #[.int .i64 o.more10.cells, .int .i64 o.more10.tides, sL l_2.2.2.2.2.2.1, sL l_11, sL l_2.2.2.2.2.2.2.2] 26]) (fun l_11 => [vL 3 l_1.1 (RI.enc t28.r0.fords), vL 98 l_1.2.1 (RSa.enc t28.r0.sands), vL 55 l_1.2.2.1 (RSi.enc t28.r0.sights), vL 3 l_2.2.2.1 (RI.enc o.bare9.fords), vL 55 l_2.2.2.2.2.1 (RSi.enc o.bare9.sights), vL 3 l_2.2.2.2.2.2.1 (RI.enc o.more10.fords), vL 98 l_11 (RSa.enc o_1), vL 55 l_2.2.2.2.2.2.2.2 (RSi.enc o.more10.sights)]) ?_ ?_
  ·replace hm := h107
   refine jt (qU 3 runUnderlying26 Y sizeOf23 Y Y (qJ 3 isAgg23 Y Y Y Y (jc Y Y Y (fun w _ => Jk (vlen RSa h17 Y) (runUnderlying23 w) Y) (jc Y Y Y (fun _ _ => Jd Y Y) (jq ?_)))))
   refine jw Y (fun h110 => ?_) (fun h110 => ?_)
   ·replace hm := ifD h110 hm
    refine je (qU 3 runUnderlying26 Y sizeOf23 Y Y (qJ 3 isAgg23 Y Y Y Y ?_))
    obtain ⟨h111, hm⟩ := ifO hm
    refine jc Y Y Y (fun w _ => Zf (runUnderlying23 w) (sizeOf98 w) Y Y h111.1 (pre_hle (vlen RSa h17 Y) h111 (h17).hle)) (qU 3 runUnderlying26 Y sizeOf23 Y Y ?_)
    refine ZL RSa 7 Y Y Y h17 h111 (fun h112 => ?_)
    refine kK (S' := [_, _, _, _]) (vs' := [_, _, _, _, _, _, _, _, _]) [0, 1, 2, 3] [0, 1, 2, 3, 4, 5, 6, 7, 8] 0 Y Y Y Y (yf (cs' := #[_, _, _, _, _]) (S' := [_, _, _, _]) 3 (fun w => sizeOf23 w) Y Y Y Y Y Y Y (ju ?_))
    obtain rfl := sj hm
    exact jj ⟨l_2.2.2.2.2.2.2.1.q, (Int.toNat 0), l_2.2.2.2.2.2.2.1.cap, (RSa.enc (o.more10.sands.drop (Int.toNat 0)) ++ l_2.2.2.2.2.2.2.1.sp)⟩ (h112) (sE Y) (hsE [0, 1, 2, 3] [0, 1, 2, 3, 5, 6, 7, 8] 0 Y Y Y Y)
   replace hm := ifE h110 hm
   refine jx ?_
   obtain rfl := sj hm
   exact jj l_2.2.2.2.2.2.2.1 (h17) (sE Y) (hsE [0, 1, 2, 3] [0, 1, 2, 3, 5, 6, 7, 8] 0 Y Y Y Y)
  intro l_11 hj
  have h109 := hj
  replace hm := h108
  refine jb (jt (qU 3 runUnderlying26 Y sizeOf23 Y Y (qJ 3 isAgg23 Y Y Y Y (jg Y Y (qU 0 runUnderlying26 Y sizeOf3 Y Y (qJ 0 isAgg3 Y Y Y Y ?_))))))
  obtain ⟨t54, h113, hm⟩ := bindO hm
  refine jc Y Y Y (fun _ _ => y7 h113 Y Y) (jg Y Y (jg Y Y (jc Y Y Y (fun w _ => YN (runUnderlying5 w) (runUnderlying3 w) Y) ?_)))
  obtain ⟨t58, h114, hm⟩ := bindO hm
  refine jc Y Y Y (fun _ _ => Za h114 Y Y) ?_
  obtain ⟨t59, h115, hm⟩ := bindO hm
  refine JQ h115 Y Y Y (jc Y Y Y (fun _ _ => ZU Y Y) (jc Y Y Y (fun _ _ => kU (vs := [(0, _), (1, _)]) (cells := [_, _]) Y Y) (jg Y Y (jc Y Y Y (fun w _ => YN (runUnderlying5 w) (runUnderlying3 w) Y) ?_))))
  obtain ⟨t64, h116, hm⟩ := bindO hm
  refine jc Y Y Y (fun _ _ => Za h116 Y Y) ?_
  obtain ⟨t65, h117, hm⟩ := bindO hm
  refine JQ h117 Y Y Y (jc Y Y Y (fun _ _ => kU (vs := [(0, _), (1, _)]) (cells := [_, _, _]) Y Y) ?_)
  refine qq RSa [(⟨(⟨t40, (min t54 t59)⟩ : Span), t65⟩ : Sand)] (ps := [(0, _)]) (cells := [_, _, _]) (fun w => runUnderlying23 w) (fun w => sizeOf98 w) (fun w => zeroValue98 w) Y Y Y Y Y Y Y Y (fun L_33 h118 => ?_)
  obtain ⟨t68, h119, hm⟩ := bindO hm
  refine zA RSa 7 h119 underlying23 Yd Y Y Y Y Y h109 Y Y (vlen RSa h118 Y) (AOK.q (vne h118)) (fun w hh => (hh.vsegA 0 Y h118)) Y (fun L_34 h120 h120n => ?_)
  refine kK (S' := [_, _, _, _]) (vs' := [_, _, _, _, _, _, _, _, _]) [0, 1, 2, 3] [0, 1, 2, 3, 4, 5, 6, 7, 8] 0 Y Y Y Y (qU 3 runUnderlying26 Y sizeOf23 Y Y (yf (cs' := #[_, _, _, _, _]) (S' := [_, _, _, _]) 3 (fun w => sizeOf23 w) Y Y Y Y Y Y Y (k8 (Jv [_, _, _, _, _] 2 isAgg26 sizeOf26 Y Y Y Y ?_))))
  obtain ⟨t72, h121, hm⟩ := bindO hm
  refine jd [] [] Y Y Y Y Y Y Y call26 (fun w hh => zL (⟨o.bare9.cells, o.bare9.tides, o.bare9.fords, [], o.bare9.sights⟩ : Channel) (qA l_2.2.2.1.q) l_2.2.2.1.n l_2.2.2.1.cap none 0 0 (qA l_2.2.2.2.2.1.q) l_2.2.2.2.2.1.n l_2.2.2.2.2.1.cap w (HV.callee (S0 := []) (vs0 := []) hh (roC (hh.vsepA 4 Y h13) (roC ⟨segOK.nil, fun hx => absurd Y hx⟩ (roC (hh.vsepA 5 Y h15) roN)))) (vlen RI h13 Y) (AOK.q (vne h13)) (h13).hle Y AOK.nil (Nat.le_refl 0) (vlen RSi h15 Y) (AOK.q (vne h15)) (h15).hle h121) (fun l_12 h122 => ?_)
  refine jg Y Y (zf Y Y Y (zf Y Y Y (jo Y Y (jo Y Y (k8 (Jv [_, _, _, _, _] 0 isAgg26 sizeOf26 Y Y Y Y ?_))))))
  obtain ⟨t77, h123, hm⟩ := bindO hm
  refine jd [] [] Y Y Y Y Y Y Y call26 (fun w hh => zL t28.r0 (qA l_1.1.q) l_1.1.n l_1.1.cap (qA l_1.2.1.q) l_1.2.1.n l_1.2.1.cap (qA l_1.2.2.1.q) l_1.2.2.1.n l_1.2.2.1.cap w (HV.callee (S0 := []) (vs0 := []) hh (roC (hh.vsepA 1 Y h5) (roC (hh.vsepA 2 Y h6) (roC (hh.vsepA 3 Y h7) roN)))) (vlen RI h5 Y) (AOK.q (vne h5)) (h5).hle (vlen RSa h6 Y) (AOK.q (vne h6)) (h6).hle (vlen RSi h7 Y) (AOK.q (vne h7)) (h7).hle h123) (fun l_13 h124 => ?_)
  refine jg Y Y (zf Y Y Y (zf Y Y Y (jo Y Y (jo Y Y (k8 (Jv [_, _, _, _, _] 3 isAgg26 sizeOf26 Y Y Y Y ?_))))))
  obtain ⟨t82, h125, hm⟩ := bindO hm
  refine jd [] [] Y Y Y Y Y Y Y call26 (fun w hh => zL (⟨o.more10.cells, o.more10.tides, o.more10.fords, t68, o.more10.sights⟩ : Channel) (qA l_2.2.2.2.2.2.1.q) l_2.2.2.2.2.2.1.n l_2.2.2.2.2.2.1.cap (qA L_34.q) L_34.n L_34.cap (qA l_2.2.2.2.2.2.2.2.q) l_2.2.2.2.2.2.2.2.n l_2.2.2.2.2.2.2.2.cap w (HV.callee (S0 := []) (vs0 := []) hh (roC (hh.vsepA 6 Y h16) (roC (hh.vsepA 7 Y h120) (roC (hh.vsepA 8 Y h18) roN)))) (vlen RI h16 Y) (AOK.q (vne h16)) (h16).hle (vlen RSa h120 Y) (AOK.q (vne h120)) (h120).hle (vlen RSi h18 Y) (AOK.q (vne h18)) (h18).hle h125) (fun l_14 h126 => ?_)
  refine jg Y Y (zf Y Y Y (zf Y Y Y (jo Y Y (jo Y Y (jq (ji (ji ?_)))))))
  obtain ⟨o_2, h127, h128⟩ := bindO hm
  refine kf (ι := Unit) (fun l_15 => True) (fun l_15 => [(7, ptr b 0), (10, ptr l_2.2.1 0), (117, .bool o_2)]) (fun l_15 => [kc b #[.int .i64 t28.r0.cells, .int .i64 t28.r0.tides, sL l_1.1, sL l_1.2.1, sL l_1.2.2.1] 26, kc l #[.slice qa0 na0 ca0, .int .i64 t28.b0_1, .int .u32 t28.b0_2] 199, kc l_2.1 #[.int .i64 o.bare9.cells, .int .i64 o.bare9.tides, sL l_2.2.2.1, slv none 0 0, sL l_2.2.2.2.2.1] 26, kc l_2.2.1 #[.int .i64 o.more10.cells, .int .i64 o.more10.tides, sL l_2.2.2.2.2.2.1, sL L_34, sL l_2.2.2.2.2.2.2.2] 26]) (fun l_15 => [vL 3 l_1.1 (RI.enc t28.r0.fords), vL 98 l_1.2.1 (RSa.enc t28.r0.sands), vL 55 l_1.2.2.1 (RSi.enc t28.r0.sights), vL 3 l_2.2.2.1 (RI.enc o.bare9.fords), vL 55 l_2.2.2.2.2.1 (RSi.enc o.bare9.sights), vL 3 l_2.2.2.2.2.2.1 (RI.enc o.more10.fords), vL 98 L_34 (RSa.enc t68), vL 55 l_2.2.2.2.2.2.2.2 (RSi.enc o.more10.sights)]) ?_ ?_
  ·replace hm := h127
   refine je (jg Y Y (jc Y Y Y (fun _ _ => Jw Y Y) (jg Y Y ?_)))
   refine jJ 87 Y (fun h129 => ?_) (fun h129 => ?_)
   ·replace hm := ifF (of_ndec_true h129) hm
    refine g_k Y Y Y Y (g_k Y Y Y Y (qF Y Y Y (jg Y Y (g_k Y Y Y Y (g_k Y Y Y Y (qF Y Y Y (jg Y Y ?_)))))))
    refine g_k Y Y Y Y (g_k Y Y Y Y (qF Y Y Y (jg Y Y (g_k Y Y Y Y (g_k Y Y Y Y (qF Y Y Y (jg Y Y ?_)))))))
    refine g_k Y Y Y Y (g_k Y Y Y Y (qF Y Y Y (jg Y Y (g_k Y Y Y Y (g_k Y Y Y Y (g_k Y Y Y Y (g_k Y Y Y Y ?_)))))))
    refine g_k Y Y Y Y ?_
    refine jk Y Y Y Y Y ?_
    refine jk Y Y Y Y Y ?_
    refine jk Y Y Y Y Y ?_
    refine g_k Y Y Y Y (qF Y Y Y (ju ?_))
    obtain rfl := sj hm
    exact jj () (trivial) (sE Y) (hsE [0, 1, 2, 3] [1, 2, 3, 4, 5, 6, 7, 8] 0 Y Y Y Y)
   replace hm := ifT (of_ndec_false h129) hm
   refine ja Y Y (jg Y Y (ja Y Y (jc Y Y Y (fun _ _ => Jw Y Y) (yo Y Y Y (jg Y Y ?_)))))
   refine jJ 91 Y (fun h130 => ?_) (fun h130 => ?_)
   ·replace hm := ifF (of_ndec_true h130) hm
    refine g_k Y Y Y Y (g_k Y Y Y Y (qF Y Y Y (jg Y Y (g_k Y Y Y Y (g_k Y Y Y Y (qF Y Y Y (jg Y Y ?_)))))))
    refine g_k Y Y Y Y (g_k Y Y Y Y (qF Y Y Y (jg Y Y (g_k Y Y Y Y (g_k Y Y Y Y (qF Y Y Y (jg Y Y ?_)))))))
    refine g_k Y Y Y Y (g_k Y Y Y Y (g_k Y Y Y Y (g_k Y Y Y Y (g_k Y Y Y Y ?_))))
    refine jk Y Y Y Y Y ?_
    refine jk Y Y Y Y Y ?_
    refine jk Y Y Y Y Y ?_
    refine g_k Y Y Y Y (qF Y Y Y (ju ?_))
    obtain rfl := sj hm
    exact jj () (trivial) (sE Y) (hsE [0, 1, 2, 3] [1, 2, 3, 4, 5, 6, 7, 8] 0 Y Y Y Y)
   replace hm := ifT (of_ndec_false h130) hm
   refine ja Y Y (jg Y Y (ja Y Y (jc Y Y Y (fun _ _ => Jw Y Y) (yo Y Y Y (jg Y Y ?_)))))
   refine jJ 95 Y (fun h131 => ?_) (fun h131 => ?_)
   ·replace hm := ifF (of_ndec_true h131) hm
    refine g_k Y Y Y Y (g_k Y Y Y Y (qF Y Y Y (jg Y Y (g_k Y Y Y Y (g_k Y Y Y Y (qF Y Y Y (jg Y Y ?_)))))))
    refine g_k Y Y Y Y (g_k Y Y Y Y (qF Y Y Y (jg Y Y (g_k Y Y Y Y (g_k Y Y Y Y (g_k Y Y Y Y (g_k Y Y Y Y ?_)))))))
    refine g_k Y Y Y Y ?_
    refine jk Y Y Y Y Y ?_
    refine jk Y Y Y Y Y ?_
    refine jk Y Y Y Y Y ?_
    refine g_k Y Y Y Y (qF Y Y Y (ju ?_))
    obtain rfl := sj hm
    exact jj () (trivial) (sE Y) (hsE [0, 1, 2, 3] [1, 2, 3, 4, 5, 6, 7, 8] 0 Y Y Y Y)
   replace hm := ifT (of_ndec_false h131) hm
   refine ja Y Y (jg Y Y (ja Y Y (jc Y Y Y (fun _ _ => Jw Y Y) (yo Y Y Y (jg Y Y ?_)))))
   refine jJ 99 Y (fun h132 => ?_) (fun h132 => ?_)
   ·replace hm := ifF (of_ndec_true h132) hm
    refine g_k Y Y Y Y (g_k Y Y Y Y (qF Y Y Y (jg Y Y (g_k Y Y Y Y (g_k Y Y Y Y (qF Y Y Y (jg Y Y ?_)))))))
    refine g_k Y Y Y Y (g_k Y Y Y Y (g_k Y Y Y Y (g_k Y Y Y Y (g_k Y Y Y Y ?_))))
    refine jk Y Y Y Y Y ?_
    refine jk Y Y Y Y Y ?_
    refine jk Y Y Y Y Y ?_
    refine g_k Y Y Y Y (qF Y Y Y (ju ?_))
    obtain rfl := sj hm
    exact jj () (trivial) (sE Y) (hsE [0, 1, 2, 3] [1, 2, 3, 4, 5, 6, 7, 8] 0 Y Y Y Y)
   replace hm := ifT (of_ndec_false h132) hm
   refine ja Y Y (jg Y Y (ja Y Y (JP Y Y Y (yo Y Y Y (jg Y Y ?_)))))
   refine jJ 103 Y (fun h133 => ?_) (fun h133 => ?_)
   ·replace hm := ifD h133 hm
    refine g_k Y Y Y Y (g_k Y Y Y Y (qF Y Y Y (jg Y Y (g_k Y Y Y Y (g_k Y Y Y Y (g_k Y Y Y Y (g_k Y Y Y Y ?_)))))))
    refine g_k Y Y Y Y ?_
    refine jk Y Y Y Y Y ?_
    refine jk Y Y Y Y Y ?_
    refine jk Y Y Y Y Y ?_
    refine g_k Y Y Y Y (qF Y Y Y (ju ?_))
    obtain rfl := sj hm
    exact jj () (trivial) (sE Y) (hsE [0, 1, 2, 3] [1, 2, 3, 4, 5, 6, 7, 8] 0 Y Y Y Y)
   replace hm := ifE h133 hm
   refine ja Y Y (jg Y Y (ja Y Y (JP Y Y Y (yo Y Y Y (jg Y Y ?_)))))
   refine jJ 107 Y (fun h134 => ?_) (fun h134 => ?_)
   ·replace hm := ifD h134 hm
    refine g_k Y Y Y Y (g_k Y Y Y Y (g_k Y Y Y Y (g_k Y Y Y Y (g_k Y Y Y Y ?_))))
    refine jk Y Y Y Y Y ?_
    refine jk Y Y Y Y Y ?_
    refine jk Y Y Y Y Y ?_
    refine g_k Y Y Y Y (qF Y Y Y (ju ?_))
    obtain rfl := sj hm
    exact jj () (trivial) (sE Y) (hsE [0, 1, 2, 3] [1, 2, 3, 4, 5, 6, 7, 8] 0 Y Y Y Y)
   replace hm := ifE h134 hm
   refine ja Y Y (qU 3 runUnderlying26 Y sizeOf23 Y Y (ja Y Y (qJ 3 isAgg23 Y Y Y Y (ja Y Y (jc Y Y Y (fun w _ => Jk (vlen RSa h120 Y) (runUnderlying23 w) Y) (ja Y Y (jc Y Y Y (fun _ _ => Yr Y Y) ?_)))))))
   refine ja Y Y (jg Y Y ?_)
   refine jJ 112 Y (fun h135 => ?_) (fun h135 => ?_)
   ·replace hm := ifD h135 hm
    refine ja Y Y (jg Y Y (ja Y Y (jg Y Y (ja Y Y (JP Y Y Y (ja Y Y (qF Y Y Y ?_)))))))
    refine yo Y Y Y (ju ?_)
    obtain rfl := sj hm
    exact jj () (trivial) (sE Y) (hsE [0, 1, 2, 3] [1, 2, 3, 4, 5, 6, 7, 8] 0 Y Y Y Y)
   replace hm := ifE h135 hm
   refine g_k Y Y Y Y (g_k Y Y Y Y (g_k Y Y Y Y (ja Y Y (yo Y Y Y (yo Y Y Y (ju ?_))))))
   obtain rfl := sj hm
   exact jj () (trivial) (sE Y) (hsE [0, 1, 2, 3] [1, 2, 3, 4, 5, 6, 7, 8] 0 Y Y Y Y)
  intro l_15 hj
  replace hm := h128
  refine jb ?_
  refine jw Y (fun h136 => ?_) (fun h136 => ?_)
  ·replace hm := ifT (h136) hm
   refine jt (jo Y Y (jq (jv (jh ?_))))
   obtain rfl := sj hm
   refine jl Y (fun w hh => (.tmp Y .nil)) (fun w hh => ⟨(), rfl, trivial, hh.se [] [] 1 Y Y Y rfl⟩)
  replace hm := ifN h136 hm
  refine jx (jb (ji (jt (qU 2 runUnderlying26 Y sizeOf22 Y Y (qJ 0 isAgg22 Y Y Y Y (jc Y Y Y (fun w _ => Jk (vlen RI h5 Y) (runUnderlying22 w) Y) (jg Y Y ?_)))))))
  refine jq ?_
  obtain ⟨o_3, h137, h138⟩ := bindO hm
  refine kf (ι := Unit) (fun j => o_3 = .inl j) (fun j => []) (fun j => [kc b #[.int .i64 t28.r0.cells, .int .i64 t28.r0.tides, sL l_1.1, sL l_1.2.1, sL l_1.2.2.1] 26, kc l #[.slice qa0 na0 ca0, .int .i64 t28.b0_1, .int .u32 t28.b0_2] 199, kc l_2.1 #[.int .i64 o.bare9.cells, .int .i64 o.bare9.tides, sL l_2.2.2.1, slv none 0 0, sL l_2.2.2.2.2.1] 26, kc l_2.2.1 #[.int .i64 o.more10.cells, .int .i64 o.more10.tides, sL l_2.2.2.2.2.2.1, sL L_34, sL l_2.2.2.2.2.2.2.2] 26]) (fun j => [vL 3 l_1.1 (RI.enc t28.r0.fords), vL 98 l_1.2.1 (RSa.enc t28.r0.sands), vL 55 l_1.2.2.1 (RSi.enc t28.r0.sights), vL 3 l_2.2.2.1 (RI.enc o.bare9.fords), vL 55 l_2.2.2.2.2.1 (RSi.enc o.bare9.sights), vL 3 l_2.2.2.2.2.2.1 (RI.enc o.more10.fords), vL 98 L_34 (RSa.enc t68), vL 55 l_2.2.2.2.2.2.2.2 (RSi.enc o.more10.sights)]) ?_ ?_
  ·replace hm := h137
   refine jp ?_
   refine ku (ι := Unit) hm (fun s l_16 => True) (fun s l_16 => [(7, ptr b 0), (10, ptr l_2.2.1 0), (119, sL l_1.1), (120, .int .i64 (t28.r0.fords.length : Int)), (121, .int .i64 s)]) (fun s l_16 => [kc b #[.int .i64 t28.r0.cells, .int .i64 t28.r0.tides, sL l_1.1, sL l_1.2.1, sL l_1.2.2.1] 26, kc l #[.slice qa0 na0 ca0, .int .i64 t28.b0_1, .int .u32 t28.b0_2] 199, kc l_2.1 #[.int .i64 o.bare9.cells, .int .i64 o.bare9.tides, sL l_2.2.2.1, slv none 0 0, sL l_2.2.2.2.2.1] 26, kc l_2.2.1 #[.int .i64 o.more10.cells, .int .i64 o.more10.tides, sL l_2.2.2.2.2.2.1, sL L_34, sL l_2.2.2.2.2.2.2.2] 26]) (fun s l_16 => [vL 3 l_1.1 (RI.enc t28.r0.fords), vL 98 l_1.2.1 (RSa.enc t28.r0.sands), vL 55 l_1.2.2.1 (RSi.enc t28.r0.sights), vL 3 l_2.2.2.1 (RI.enc o.bare9.fords), vL 55 l_2.2.2.2.2.1 (RSi.enc o.bare9.sights), vL 3 l_2.2.2.2.2.2.1 (RI.enc o.more10.fords), vL 98 L_34 (RSa.enc t68), vL 55 l_2.2.2.2.2.2.2.2 (RSi.enc o.more10.sights)]) () (trivial) (sE Y) (fun w hh => hh) (fun s l_16 r hpl hm h139 => ?_)
   unfold kD at hm
   refine jt (JP Y Y Y (jq (ji ?_)))
   refine jw Y (fun h140 => ?_) (fun h140 => ?_)
   ·replace hm := ifD h140 hm
    refine jx (jb (ji (jp (jt (jg Y Y ?_)))))
    obtain ⟨t124, h141, hm⟩ := bindO hm
    refine jc Y Y Y (fun w _ => J8 h141 (runUnderlying22 w) (sizeOf3 w) Y Y (vlen RI h5 Y) (vne h5)) (jc Y Y Y (fun w hh => zH RI 0 h141 (isAgg3 w) Y (hh.vseg 0 Y h5) Y (Nat.add_zero _).symm) (jo Y Y (jo Y Y (k8 (qU 1 runUnderlying26 Y sizeOf3 Y Y (qJ 0 isAgg3 Y Y Y Y ?_))))))
    obtain ⟨t128, h142, hm⟩ := bindO hm
    refine JQ h142 Y Y Y (jg Y Y (jq ?_))
    obtain ⟨o_4, h143, h144⟩ := bindO hm
    refine kf (ι := Unit) (fun j_1 => o_4 = .inl j_1) (fun j_1 => [(7, ptr b 0), (10, ptr l_2.2.1 0), (119, sL l_1.1), (120, .int .i64 (t28.r0.fords.length : Int)), (121, .int .i64 s)]) (fun j_1 => [kc b #[.int .i64 t28.r0.cells, .int .i64 t28.r0.tides, sL l_1.1, sL l_1.2.1, sL l_1.2.2.1] 26, kc l #[.slice qa0 na0 ca0, .int .i64 t28.b0_1, .int .u32 t28.b0_2] 199, kc l_2.1 #[.int .i64 o.bare9.cells, .int .i64 o.bare9.tides, sL l_2.2.2.1, slv none 0 0, sL l_2.2.2.2.2.1] 26, kc l_2.2.1 #[.int .i64 o.more10.cells, .int .i64 o.more10.tides, sL l_2.2.2.2.2.2.1, sL L_34, sL l_2.2.2.2.2.2.2.2] 26]) (fun j_1 => [vL 3 l_1.1 (RI.enc t28.r0.fords), vL 98 l_1.2.1 (RSa.enc t28.r0.sands), vL 55 l_1.2.2.1 (RSi.enc t28.r0.sights), vL 3 l_2.2.2.1 (RI.enc o.bare9.fords), vL 55 l_2.2.2.2.2.1 (RSi.enc o.bare9.sights), vL 3 l_2.2.2.2.2.2.1 (RI.enc o.more10.fords), vL 98 L_34 (RSa.enc t68), vL 55 l_2.2.2.2.2.2.2.2 (RSi.enc o.more10.sights)]) ?_ ?_
    ·replace hm := h143
     refine jp ?_
     refine ku (ι := Unit) hm (fun s_1 l_17 => True) (fun s_1 l_17 => [(7, ptr b 0), (10, ptr l_2.2.1 0), (18, .int .i64 s), (19, .int .i64 t124), (119, sL l_1.1), (120, .int .i64 (t28.r0.fords.length : Int)), (121, .int .i64 s), (128, .int .i64 t128), (129, .int .i64 s_1)]) (fun s_1 l_17 => [kc b #[.int .i64 t28.r0.cells, .int .i64 t28.r0.tides, sL l_1.1, sL l_1.2.1, sL l_1.2.2.1] 26, kc l #[.slice qa0 na0 ca0, .int .i64 t28.b0_1, .int .u32 t28.b0_2] 199, kc l_2.1 #[.int .i64 o.bare9.cells, .int .i64 o.bare9.tides, sL l_2.2.2.1, slv none 0 0, sL l_2.2.2.2.2.1] 26, kc l_2.2.1 #[.int .i64 o.more10.cells, .int .i64 o.more10.tides, sL l_2.2.2.2.2.2.1, sL L_34, sL l_2.2.2.2.2.2.2.2] 26]) (fun s_1 l_17 => [vL 3 l_1.1 (RI.enc t28.r0.fords), vL 98 l_1.2.1 (RSa.enc t28.r0.sands), vL 55 l_1.2.2.1 (RSi.enc t28.r0.sights), vL 3 l_2.2.2.1 (RI.enc o.bare9.fords), vL 55 l_2.2.2.2.2.1 (RSi.enc o.bare9.sights), vL 3 l_2.2.2.2.2.2.1 (RI.enc o.more10.fords), vL 98 L_34 (RSa.enc t68), vL 55 l_2.2.2.2.2.2.2.2 (RSi.enc o.more10.sights)]) () (trivial) (sE Y) (fun w hh => hh) (fun s_1 l_17 r_1 hpl hm h145 => ?_)
     unfold kJ at hm
     refine jt (JP Y Y Y (jq (ji ?_)))
     refine jw Y (fun h146 => ?_) (fun h146 => ?_)
     ·replace hm := ifD h146 hm
      refine jx (jb (ji (jp (jt (jg Y Y (jo Y Y (k8 ?_)))))))
      refine Jv [_, _, _, _, _] 0 isAgg26 sizeOf26 Y Y Y Y (jg Y Y (jg Y Y ?_))
      obtain ⟨t136, h147, hm⟩ := bindO hm
      refine jd [] [] Y Y Y Y Y Y Y call42 (fun w hh => JI t28.r0 s_1 s (qA l_1.1.q) l_1.1.n l_1.1.cap (qA l_1.2.1.q) l_1.2.1.n l_1.2.1.cap (qA l_1.2.2.1.q) l_1.2.2.1.n l_1.2.2.1.cap w (HV.callee (S0 := []) (vs0 := []) hh (roC (hh.vsepA 0 Y h5) (roC (hh.vsepA 1 Y h6) (roC (hh.vsepA 2 Y h7) roN)))) (vlen RI h5 Y) (AOK.q (vne h5)) (h5).hle (vlen RSa h6 Y) (AOK.q (vne h6)) (h6).hle (vlen RSi h7 Y) (AOK.q (vne h7)) (h7).hle h147) (fun l_18 h148 => ?_)
      have h149 := h148
      refine kK (S' := [_, _, _, _]) (vs' := [_, _, _, _, _, _, _, _, _]) [0, 1, 2, 3] [0, 1, 2, 3, 4, 5, 6, 7, 8] 0 Y Y Y Y (jg Y Y (zf Y Y Y (zf Y Y Y (jo Y Y (jo Y Y (k8 (Jv [_, _, _, _, _] 3 isAgg26 sizeOf26 Y Y Y Y ?_)))))))
      refine jg Y Y (jg Y Y ?_)
      obtain ⟨t143, h150, hm⟩ := bindO hm
      refine jd [] [] Y Y Y Y Y Y Y call42 (fun w hh => JI (⟨o.more10.cells, o.more10.tides, o.more10.fords, t68, o.more10.sights⟩ : Channel) s_1 s (qA l_2.2.2.2.2.2.1.q) l_2.2.2.2.2.2.1.n l_2.2.2.2.2.2.1.cap (qA L_34.q) L_34.n L_34.cap (qA l_2.2.2.2.2.2.2.2.q) l_2.2.2.2.2.2.2.2.n l_2.2.2.2.2.2.2.2.cap w (HV.callee (S0 := []) (vs0 := []) hh (roC (hh.vsepA 6 Y h16) (roC (hh.vsepA 7 Y h120) (roC (hh.vsepA 8 Y h18) roN)))) (vlen RI h16 Y) (AOK.q (vne h16)) (h16).hle (vlen RSa h120 Y) (AOK.q (vne h120)) (h120).hle (vlen RSi h18 Y) (AOK.q (vne h18)) (h18).hle h150) (fun l_19 h151 => ?_)
      have h152 := h151
      refine kK (S' := [_, _, _, _]) (vs' := [_, _, _, _, _, _, _, _, _, _]) [0, 1, 2, 3] [0, 1, 2, 3, 4, 5, 6, 7, 8, 9] 0 Y Y Y Y (jg Y Y (zf Y Y Y (zf Y Y Y ?_)))
      refine jr (fun w => zeroValue22 w) Y (fun b_25 h153 => ?_)
      refine yf (cs' := #[_]) (S' := [_, _, _, _, _]) 0 (fun w => sizeOf22 w) Y Y Y Y Y Y Y (jo Y Y (jq (ji ?_)))
      obtain ⟨o_5, h154, h155⟩ := bindO hm
      refine kf (ι := Unit) (fun l_20 => True) (fun l_20 => [(7, ptr b 0), (10, ptr l_2.2.1 0), (18, .int .i64 s), (19, .int .i64 t124), (119, sL l_1.1), (120, .int .i64 (t28.r0.fords.length : Int)), (121, .int .i64 s), (128, .int .i64 t128), (129, .int .i64 s_1), (181, .bool o_5)]) (fun l_20 => [kc b_25 #[sL l_19] 22, kc b #[.int .i64 t28.r0.cells, .int .i64 t28.r0.tides, sL l_1.1, sL l_1.2.1, sL l_1.2.2.1] 26, kc l #[.slice qa0 na0 ca0, .int .i64 t28.b0_1, .int .u32 t28.b0_2] 199, kc l_2.1 #[.int .i64 o.bare9.cells, .int .i64 o.bare9.tides, sL l_2.2.2.1, slv none 0 0, sL l_2.2.2.2.2.1] 26, kc l_2.2.1 #[.int .i64 o.more10.cells, .int .i64 o.more10.tides, sL l_2.2.2.2.2.2.1, sL L_34, sL l_2.2.2.2.2.2.2.2] 26]) (fun l_20 => [vL 3 l_1.1 (RI.enc t28.r0.fords), vL 3 l_19 (RI.enc t143.r0), vL 98 l_1.2.1 (RSa.enc t28.r0.sands), vL 55 l_1.2.2.1 (RSi.enc t28.r0.sights), vL 3 l_2.2.2.1 (RI.enc o.bare9.fords), vL 55 l_2.2.2.2.2.1 (RSi.enc o.bare9.sights), vL 3 l_2.2.2.2.2.2.1 (RI.enc o.more10.fords), vL 98 L_34 (RSa.enc t68), vL 55 l_2.2.2.2.2.2.2.2 (RSi.enc o.more10.sights)]) ?_ ?_
      ·replace hm := h154
       refine je (jg Y Y (jc Y Y Y (fun _ _ => Jw Y Y) (jg Y Y ?_)))
       refine jJ 148 Y (fun h156 => ?_) (fun h156 => ?_)
       ·replace hm := ifF (of_ndec_true h156) hm
        refine g_k Y Y Y Y (g_k Y Y Y Y (qF Y Y Y (jg Y Y (g_k Y Y Y Y (g_k Y Y Y Y (g_k Y Y Y Y (g_k Y Y Y Y ?_)))))))
        refine g_k Y Y Y Y ?_
        refine jk Y Y Y Y Y ?_
        refine jk Y Y Y Y Y ?_
        refine jk Y Y Y Y Y ?_
        refine jk Y Y Y Y Y ?_
        refine jk Y Y Y Y Y ?_
        refine g_k Y Y Y Y (qF Y Y Y (jg Y Y (g_k Y Y Y Y (g_k Y Y Y Y (g_k Y Y Y Y (g_k Y Y Y Y (qF Y Y Y ?_)))))))
        refine jg Y Y (g_k Y Y Y Y (g_k Y Y Y Y (g_k Y Y Y Y (g_k Y Y Y Y (g_k Y Y Y Y ?_)))))
        refine jk Y Y Y Y Y ?_
        refine jk Y Y Y Y Y ?_
        refine jk Y Y Y Y Y ?_
        refine g_k Y Y Y Y (qF Y Y Y (ju ?_))
        obtain rfl := sj hm
        exact jj () (trivial) (sE Y) (hsE [0, 1, 2, 3, 4] [2, 0, 3, 4, 5, 6, 7, 8, 9] 0 Y Y Y Y)
       replace hm := ifT (of_ndec_false h156) hm
       refine ja Y Y (jg Y Y (ja Y Y (jc Y Y Y (fun _ _ => Jw Y Y) (yo Y Y Y (jg Y Y ?_)))))
       refine jJ 152 Y (fun h157 => ?_) (fun h157 => ?_)
       ·replace hm := ifF (of_ndec_true h157) hm
        refine g_k Y Y Y Y (g_k Y Y Y Y (g_k Y Y Y Y (g_k Y Y Y Y (g_k Y Y Y Y ?_))))
        refine jk Y Y Y Y Y ?_
        refine jk Y Y Y Y Y ?_
        refine jk Y Y Y Y Y ?_
        refine jk Y Y Y Y Y ?_
        refine jk Y Y Y Y Y ?_
        refine g_k Y Y Y Y (qF Y Y Y (jg Y Y (g_k Y Y Y Y (g_k Y Y Y Y (g_k Y Y Y Y (g_k Y Y Y Y (qF Y Y Y ?_)))))))
        refine jg Y Y (g_k Y Y Y Y (g_k Y Y Y Y (g_k Y Y Y Y (g_k Y Y Y Y (g_k Y Y Y Y ?_)))))
        refine jk Y Y Y Y Y ?_
        refine jk Y Y Y Y Y ?_
        refine jk Y Y Y Y Y ?_
        refine g_k Y Y Y Y (qF Y Y Y (ju ?_))
        obtain rfl := sj hm
        exact jj () (trivial) (sE Y) (hsE [0, 1, 2, 3, 4] [2, 0, 3, 4, 5, 6, 7, 8, 9] 0 Y Y Y Y)
       replace hm := ifT (of_ndec_false h157) hm
       refine ja Y Y (Jv [_, _, _, _, _] 1 isAgg26 sizeOf26 Y Y Y Y (ja Y Y (jg Y Y (ja Y Y ?_))))
       obtain ⟨t155, h158, hm⟩ := bindO hm
       refine jd [] [] Y Y Y Y Y Y Y call63 (fun w hh => z7 t28.r0 t124 (qA l_1.1.q) l_1.1.n l_1.1.cap (qA l_1.2.1.q) l_1.2.1.n l_1.2.1.cap (qA l_1.2.2.1.q) l_1.2.2.1.n l_1.2.2.1.cap w (HV.callee (S0 := []) (vs0 := []) hh (roC (hh.vsepA 2 Y h5) (roC (hh.vsepA 3 Y h6) (roC (hh.vsepA 4 Y h7) roN)))) (vlen RI h5 Y) (AOK.q (vne h5)) (h5).hle (vlen RSa h6 Y) (AOK.q (vne h6)) (h6).hle (vlen RSi h7 Y) (AOK.q (vne h7)) (h7).hle h158) (fun l_21 h159 => ?_)
       refine ja Y Y (jc Y Y Y (fun _ _ => Jd Y Y) (ja Y Y (jg Y Y ?_)))
       refine jJ 157 Y (fun h160 => ?_) (fun h160 => ?_)
       ·replace hm := ifD h160 hm
        refine ja Y Y (jg Y Y (ja Y Y (jg Y Y (ja Y Y ?_))))
        refine qq RI [t124] (ps := [(0, _)]) (cells := [_]) (fun w => runUnderlying22 w) (fun w => sizeOf3 w) (fun w => zeroValue3 w) Y Y Y Y Y Y Y Y (fun L_35 h161 => ?_)
        refine ja Y Y ?_
        obtain ⟨t161, h162, hm⟩ := bindO hm
        refine jd [] [] Y Y Y Y Y Y Y call45 (fun w hh => Qi t136.r0 [t124] (qA l_18.q) l_18.n l_18.cap (qA L_35.q) L_35.n L_35.cap w (HV.callee (S0 := []) (vs0 := []) hh (roC (hh.vsepA 2 Y h149) (roC (hh.vsepA 0 Y h161) roN))) (vlen RI h149 Y) (AOK.q (vne h149)) (h149).hle (vlen RI h161 Y) (AOK.q (vne h161)) (h161).hle h162) (fun l_22 h163 => ?_)
        refine ja Y Y (jc Y Y Y (fun _ _ => yO Y) (ja Y Y (qF Y Y Y (yo Y Y Y (jg Y Y ?_)))))
        refine jJ 165 Y (fun h164 => ?_) (fun h164 => ?_)
        ·replace hm := ifT (h164) hm
         refine g_k Y Y Y Y (g_k Y Y Y Y (g_k Y Y Y Y (g_k Y Y Y Y (qF Y Y Y (jg Y Y (g_k Y Y Y Y (g_k Y Y Y Y ?_)))))))
         refine g_k Y Y Y Y (g_k Y Y Y Y (g_k Y Y Y Y ?_))
         refine jk Y Y Y Y Y ?_
         refine jk Y Y Y Y Y ?_
         refine jk Y Y Y Y Y ?_
         refine g_k Y Y Y Y (qF Y Y Y (ju ?_))
         obtain rfl := sj hm
         exact jj () (trivial) (sE Y) (hsE [0, 1, 2, 3, 4] [3, 1, 4, 5, 6, 7, 8, 9, 10] 0 Y Y Y Y)
        replace hm := ifN h164 hm
        refine ja Y Y (jg Y Y (ja Y Y (jg Y Y (ja Y Y ?_))))
        obtain ⟨t168, h165, hm⟩ := bindO hm
        refine jd [] [] Y Y Y Y Y Y Y call64 (fun w hh => qs t136.r0 t124 (qA l_18.q) l_18.n l_18.cap w (HV.callee (S0 := []) (vs0 := []) hh (roC (hh.vsepA 2 Y h149) roN)) (vlen RI h149 Y) (AOK.q (vne h149)) (h149).hle h165) (fun l_23 h166 => ?_)
        refine ja Y Y (jc Y Y Y (fun _ _ => yO Y) (yo Y Y Y (jg Y Y ?_)))
        refine jJ 171 Y (fun h167 => ?_) (fun h167 => ?_)
        ·replace hm := ifT (h167) hm
         refine g_k Y Y Y Y (g_k Y Y Y Y (g_k Y Y Y Y (g_k Y Y Y Y (g_k Y Y Y Y ?_))))
         refine jk Y Y Y Y Y ?_
         refine jk Y Y Y Y Y ?_
         refine jk Y Y Y Y Y ?_
         refine g_k Y Y Y Y (qF Y Y Y (ju ?_))
         obtain rfl := sj hm
         exact jj () (trivial) (sE Y) (hsE [0, 1, 2, 3, 4] [3, 1, 4, 5, 6, 7, 8, 9, 10] 0 Y Y Y Y)
        replace hm := ifN h167 hm
        refine ja Y Y (qU 3 runUnderlying26 Y sizeOf23 Y Y (ja Y Y (qJ 4 isAgg23 Y Y Y Y (ja Y Y (jc Y Y Y (fun w _ => Jk (vlen RSa h120 Y) (runUnderlying23 w) Y) (ja Y Y (jc Y Y Y (fun _ _ => Yr Y Y) ?_)))))))
        refine ja Y Y (jg Y Y ?_)
        refine jJ 176 Y (fun h168 => ?_) (fun h168 => ?_)
        ·replace hm := ifD h168 hm
         refine ja Y Y (jg Y Y (ja Y Y (jc Y Y Y (fun _ _ => kn (u := #[]) (u' := #[_]) Y Y) (ja Y Y ?_))))
         obtain ⟨t179, h169, hm⟩ := bindO hm
         refine jd [] [] Y Y Y Y Y Y Y call65 (fun w hh => zC t136.r0 t143.r0 (qA l_18.q) l_18.n l_18.cap b_25 (qA l_19.q) l_19.n l_19.cap w (HV.callee (S0 := []) (vs0 := []) hh (roC (hh.vsepA 2 Y h149) (roC (bsep (hh.bseg 0 Y)) (roC (hh.vsepA 1 Y h152) roN)))) (vlen RI h149 Y) (AOK.q (vne h149)) (h149).hle (vlen RI h152 Y) (AOK.q (vne h152)) (h152).hle h169) (fun l_24 h170 => ?_)
         refine ja Y Y (qF Y Y Y (yo Y Y Y (ju ?_)))
         obtain rfl := sj hm
         exact jj () (trivial) (sE Y) (hsE [0, 1, 2, 3, 4] [3, 1, 4, 5, 6, 7, 8, 9, 10] 0 Y Y Y Y)
        replace hm := ifE h168 hm
        refine g_k Y Y Y Y (g_k Y Y Y Y (g_k Y Y Y Y (ja Y Y (yo Y Y Y (yo Y Y Y (ju ?_))))))
        obtain rfl := sj hm
        exact jj () (trivial) (sE Y) (hsE [0, 1, 2, 3, 4] [3, 1, 4, 5, 6, 7, 8, 9, 10] 0 Y Y Y Y)
       replace hm := ifE h160 hm
       refine g_k Y Y Y Y (g_k Y Y Y Y (g_k Y Y Y Y (g_k Y Y Y Y (g_k Y Y Y Y (ja Y Y (yo Y Y Y (yo Y Y Y ?_)))))))
       refine jg Y Y (ja Y Y (jg Y Y (ja Y Y (jg Y Y (ja Y Y ?_)))))
       obtain ⟨t168_1, h171, hm⟩ := bindO hm
       refine jd [] [] Y Y Y Y Y Y Y call64 (fun w hh => qs t136.r0 t124 (qA l_18.q) l_18.n l_18.cap w (HV.callee (S0 := []) (vs0 := []) hh (roC (hh.vsepA 1 Y h149) roN)) (vlen RI h149 Y) (AOK.q (vne h149)) (h149).hle h171) (fun l_25 h172 => ?_)
       refine ja Y Y (jc Y Y Y (fun _ _ => yO Y) (yo Y Y Y (jg Y Y ?_)))
       refine jJ 171 Y (fun h173 => ?_) (fun h173 => ?_)
       ·replace hm := ifT (h173) hm
        refine g_k Y Y Y Y (g_k Y Y Y Y (g_k Y Y Y Y (g_k Y Y Y Y (g_k Y Y Y Y ?_))))
        refine jk Y Y Y Y Y ?_
        refine jk Y Y Y Y Y ?_
        refine jk Y Y Y Y Y ?_
        refine g_k Y Y Y Y (qF Y Y Y (ju ?_))
        obtain rfl := sj hm
        exact jj () (trivial) (sE Y) (hsE [0, 1, 2, 3, 4] [2, 0, 3, 4, 5, 6, 7, 8, 9] 0 Y Y Y Y)
       replace hm := ifN h173 hm
       refine ja Y Y (qU 3 runUnderlying26 Y sizeOf23 Y Y (ja Y Y (qJ 4 isAgg23 Y Y Y Y (ja Y Y (jc Y Y Y (fun w _ => Jk (vlen RSa h120 Y) (runUnderlying23 w) Y) (ja Y Y (jc Y Y Y (fun _ _ => Yr Y Y) ?_)))))))
       refine ja Y Y (jg Y Y ?_)
       refine jJ 176 Y (fun h174 => ?_) (fun h174 => ?_)
       ·replace hm := ifD h174 hm
        refine ja Y Y (jg Y Y (ja Y Y (jc Y Y Y (fun _ _ => kn (u := #[]) (u' := #[_]) Y Y) (ja Y Y ?_))))
        obtain ⟨t179_1, h175, hm⟩ := bindO hm
        refine jd [] [] Y Y Y Y Y Y Y call65 (fun w hh => zC t136.r0 t143.r0 (qA l_18.q) l_18.n l_18.cap b_25 (qA l_19.q) l_19.n l_19.cap w (HV.callee (S0 := []) (vs0 := []) hh (roC (hh.vsepA 1 Y h149) (roC (bsep (hh.bseg 0 Y)) (roC (hh.vsepA 0 Y h152) roN)))) (vlen RI h149 Y) (AOK.q (vne h149)) (h149).hle (vlen RI h152 Y) (AOK.q (vne h152)) (h152).hle h175) (fun l_26 h176 => ?_)
        refine ja Y Y (qF Y Y Y (yo Y Y Y (ju ?_)))
        obtain rfl := sj hm
        exact jj () (trivial) (sE Y) (hsE [0, 1, 2, 3, 4] [2, 0, 3, 4, 5, 6, 7, 8, 9] 0 Y Y Y Y)
       replace hm := ifE h174 hm
       refine g_k Y Y Y Y (g_k Y Y Y Y (g_k Y Y Y Y (ja Y Y (yo Y Y Y (yo Y Y Y (ju ?_))))))
       obtain rfl := sj hm
       exact jj () (trivial) (sE Y) (hsE [0, 1, 2, 3, 4] [2, 0, 3, 4, 5, 6, 7, 8, 9] 0 Y Y Y Y)
      intro l_20 hj
      replace hm := h155
      refine jb ?_
      refine jw Y (fun h177 => ?_) (fun h177 => ?_)
      ·replace hm := ifT (h177) hm
       refine jt (jo Y Y (jq (jv (jD (jh (jh (jD ?_)))))))
       obtain rfl := sj hm
       have hbo := h145 _ Y
       subst hbo
       refine jh ?_
       replace hm := ocR h144
       refine jD (jh (jh (jD ?_)))
       obtain rfl := sj hm
       have hbo := h139 _ Y
       subst hbo
       refine jh ?_
       replace hm := ocR h138
       refine jh ?_
       obtain rfl := sj hm
       refine jl Y (fun w hh => (.tmp Y .nil)) (fun w hh => ⟨(), rfl, trivial, hh.se [] [] 1 Y Y Y rfl⟩)
      replace hm := ifN h177 hm
      refine jx (jy (jb (je ?_)))
      obtain ⟨t182, h178, hm⟩ := bindO hm
      refine JQ h178 Y Y Y (jg Y Y (ju ?_))
      obtain rfl := sj hm
      refine jb ?_
      exact jO _ () Y (trivial) (sE Y) (hsE [1, 2, 3, 4] [0, 2, 3, 4, 5, 6, 7, 8] 0 Y Y Y Y)
     replace hm := ifE h146 hm
     refine kQ (jn (jn (jP ?_)))
     obtain rfl := sj hm
     have hbo := h145 _ Y
     subst hbo
     exact jj () (Y) (sE Y) (fun w hh => hh)
    intro j_1 hj
    have h179 := hj
    subst h179
    replace hm := ocL h144
    refine jy (jb (je ?_))
    obtain ⟨t183, h180, hm⟩ := bindO hm
    refine JQ h180 Y Y Y (jg Y Y (ju ?_))
    obtain rfl := sj hm
    refine jb ?_
    exact jO _ () Y (trivial) (sE Y) (fun w hh => hh)
   replace hm := ifE h140 hm
   refine kQ (jn (jn (jP ?_)))
   obtain rfl := sj hm
   have hbo := h139 _ Y
   subst hbo
   exact jj () (Y) (.nil) (fun w hh => hh)
  intro j hj
  have h181 := hj
  subst h181
  replace hm := ocL h138
  refine jb (jt ?_)
  obtain ⟨t184, h182, hm⟩ := bindO hm
  refine jd [] [] Y Y Y Y Y Y Y call19 (fun w hh => Qz  w (HV.callee (S0 := []) (vs0 := []) hh roN)  h182) (fun l_27 h183 => ?_)
  refine jo Y Y (jq (jv ?_))
  obtain rfl := sj hm
  refine jl Y (fun w hh => (.tmp Y .nil)) (fun w hh => ⟨(), rfl, trivial, hh.se [] [] 1 Y Y Y rfl⟩)
end Go.Proofs.Wb

namespace Go.Proofs.Wb
open Go Go.Fw Go.Gx Go.Sb
set_option linter.unusedVariables false
def withSa (c : Channel) (s : List Sand) : Channel := ⟨c.cells, c.tides, c.fords, s, c.sights⟩
theorem rchC_snoc_le {l : List Sand} {s : Sand} (x : Int) : rchC l x ≤ rchC (l ++ [s]) x := by
  rw [rchC_snoc]
  unfold stepR
  split <;> omega
theorem can_mono {s1 s2 : List Sand} (h : ∀ x, rchC s1 x ≤ rchC s2 x) {a b : List Int} (hc : canB s1 a b = true) : canB s2 a b = true := by
  unfold canB at hc ⊢
  rw [List.all_eq_true] at hc ⊢
  intro i hi
  have h1 := inb_iff.1 (hc i hi)
  have h2 := h (a.getD i (-1))
  exact inb_iff.2 ⟨by omega, by omega⟩
theorem LL_sa (c : Channel) (s : List Sand) : LL (withSa c s) = LL c := rfl
theorem FcL_sa {c : Channel} {s : List Sand} (h : ∀ x, rchC c.sands x ≤ rchC s x) : ∀ (k : Nat) (l : List Int), FcL tt c k l ≤ FcL tt (withSa c s) k l
  | 0, l => Nat.le_refl _
  | k + 1, l => by
    have e : (withSa c s).sights = c.sights := rfl
    rw [FcL, FcL, e, LL_sa]
    split
    · refine sumN_le fun a _ => ?_
      have e2 : (withSa c s).sands = s := rfl
      rw [e2]
      by_cases hc : canB c.sands a l = true
      · rw [if_pos hc, if_pos (can_mono h hc)]
        exact FcL_sa h k a
      · rw [if_neg hc]
        exact Nat.zero_le _
    · exact Nat.le_refl _
theorem cnt_sa {c : Channel} {s : List Sand} (r : Right c) (r2 : Right (withSa c s)) (h : ∀ x, rchC c.sands x ≤ rchC s x) : cntS tt c ≤ cntS tt (withSa c s) := by
  rw [cntS_sum r, cntS_sum r2, LL_sa]
  exact sumN_le fun l _ => FcL_sa h _ l
theorem R_sa {c : Channel} {s : List Sand} (r : Right c) (r2 : Right (withSa c s)) (h : ∀ x, rchC c.sands x ≤ rchC s x) : ∀ (j k : Nat) (l : List Int), l ∈ LL c → 0 < R (nxS c) (agS tt c) j (stL k l) → 0 < R (nxS (withSa c s)) (agS tt (withSa c s)) j (stL k l)
  | 0, k, l, hl, hp => hp
  | j + 1, k, l, hl, hp => by
    have hc := r.cells
    have hrow := (mem_LL (by omega)).1 hl
    obtain ⟨h1, m, hm, h2, h3⟩ := (R_stL_pos r hrow).1 hp
    exact (R_stL_pos r2 hrow).2 ⟨h1, m, hm, can_mono h h2, R_sa r r2 h j (k + 1) m hm h3⟩
theorem onB_sa {c : Channel} {s : List Sand} (r : Right c) (r2 : Right (withSa c s)) (h : ∀ x, rchC c.sands x ≤ rchC s x) {k : Nat} {l : List Int} (hl : l ∈ LL c) (ho : onB c k l = true) : onB (withSa c s) k l = true := by
  unfold onB at ho ⊢
  rw [Bool.and_eq_true, decide_eq_true_eq, decide_eq_true_eq] at ho ⊢
  have := FcL_sa h k l
  exact ⟨by omega, R_sa r r2 h _ k l hl ho.2⟩
theorem where_iff {c : Channel} {k i : Nat} {x : Int} : x ∈ whereL c k i ↔ (0 ≤ x ∧ x < (c.cells.toNat : Int)) ∧ ∃ l ∈ LL c, onB c k l = true ∧ l.getD i (-1) = x := by
  unfold whereL
  rw [mem_filtL]
  simp only [List.any_eq_true, Bool.and_eq_true, decide_eq_true_eq]
  constructor
  · rintro ⟨h1, h2, l, hl, ho, e⟩
    exact ⟨⟨h1, h2⟩, l, hl, ho, by omega⟩
  · rintro ⟨⟨h1, h2⟩, l, hl, ho, e⟩
    exact ⟨h1, h2, l, hl, ho, by omega⟩
theorem where_sa {c : Channel} {s : List Sand} (r : Right c) (r2 : Right (withSa c s)) (h : ∀ x, rchC c.sands x ≤ rchC s x) {k i : Nat} {x : Int} (hx : x ∈ whereL c k i) : x ∈ whereL (withSa c s) k i := by
  obtain ⟨h1, l, hl, ho, e⟩ := where_iff.1 hx
  exact where_iff.2 ⟨h1, l, hl, onB_sa r r2 h hl ho, e⟩
theorem can_nil {a b : List Int} (h : a.length = b.length) : canB [] a b = true ↔ a = b := by
  constructor
  · intro hc
    unfold canB at hc
    rw [List.all_eq_true] at hc
    apply List.ext_getElem h
    intro i hi hj
    have := inb_iff.1 (hc i (List.mem_range.2 hi))
    have e : rchC [] (a.getD i (-1)) = 0 := rfl
    rw [e] at this
    simp only [List.getD_eq_getElem?_getD, List.getElem?_eq_getElem hi, List.getElem?_eq_getElem hj, Option.getD_some] at this
    omega
  · rintro rfl
    unfold canB
    rw [List.all_eq_true]
    intro i _
    have e : rchC [] (a.getD i (-1)) = 0 := rfl
    rw [e]
    exact inb_iff.2 ⟨by omega, by omega⟩
theorem sumN_pick {l : List (List Int)} (hn : l.Nodup) {a : List Int} (ha : a ∈ l) (f : List Int → Nat) : sumN l (fun x => if x = a then f x else 0) = f a := by
  rw [← sumN_one hn ha (f a)]
  refine sumN_congr fun x _ => ?_
  by_cases h : x = a
  · rw [if_pos h, if_pos h, h]
  · rw [if_neg h, if_neg h]
theorem agP_none {sg : List Sight} (h : sg = []) (cnt : Nat → Bool) (k : Int) (l : List Int) : agP cnt sg k l = true := by subst h; rfl
theorem FcL_bare {c : Channel} (r : Right c) (hs : c.sands = []) (hg : c.sights = []) : ∀ (k : Nat) (l : List Int), l ∈ LL c → FcL tt c k l = if l = c.fords then 1 else 0
  | 0, l, hl => by
    rw [FcL]
    by_cases h : l = c.fords
    · rw [if_pos ⟨agP_none hg _ _ _, h⟩, if_pos h]
    · rw [if_neg (fun q => h q.2), if_neg h]
  | k + 1, l, hl => by
    have hc := r.cells
    rw [FcL, if_pos (agP_none hg _ _ _), hs]
    rw [sumN_congr (g := fun a => if a = l then FcL tt c k a else 0) (fun a ha => by
      have := can_nil (LL_len2 (by omega) ha hl)
      by_cases h : a = l
      · rw [if_pos (this.2 h), if_pos h]
      · rw [if_neg (fun q => h (this.1 q)), if_neg h]), sumN_pick (LL_nodup c) hl]
    exact FcL_bare r hs hg k l hl
theorem fords_LL {c : Channel} (r : Right c) : c.fords ∈ LL c := (mem_LL (by have := r.cells; omega)).2 (rowB_iff.2 ⟨rfl, r.up, r.fcell⟩)
theorem cnt_bare {c : Channel} (r : Right c) (hs : c.sands = []) (hg : c.sights = []) : cntS tt c = 1 := by
  rw [cntS_sum r, sumN_congr (fun l hl => FcL_bare r hs hg _ l hl)]
  exact sumN_one (LL_nodup c) (fords_LL r) 1
theorem still_on {c : Channel} (r : Right c) (hg : c.sights = []) {k : Nat} (hk : k ≤ c.tides.toNat) : onB c k c.fords = true := by
  have := walk_on r (still_walk r) (by rw [hg]; rfl) k hk
  rw [still_get hk] at this
  exact this
theorem still_pos {c : Channel} (r : Right c) (hg : c.sights = []) : 0 < cntS tt c := on_cnt r (fords_LL r) (still_on r hg (Nat.le_refl _))
theorem FcL_firm {c : Channel} (r : Right c) {i : Nat} (hi : i < c.fords.length) (h0 : rchC c.sands (c.fords.getD i (-1)) = 0) : ∀ (k : Nat) (l : List Int), l ∈ LL c → 0 < FcL tt c k l → l.getD i (-1) = c.fords.getD i (-1)
  | 0, l, hl, hp => by
    rw [FcL] at hp
    split at hp
    · rename_i h; rw [h.2]
    · omega
  | k + 1, l, hl, hp => by
    have hc := r.cells
    obtain ⟨_, a, ha, h1, h2⟩ := FcL_succ_pos.1 hp
    have h3 := FcL_firm r hi h0 k a ha h2
    have hal : a.length = c.fords.length := (rowB_iff.1 ((mem_LL (by omega)).1 ha)).1
    unfold canB at h1
    have h4 := inb_iff.1 ((List.all_eq_true.1 h1) i (List.mem_range.2 (by omega)))
    rw [h3, h0] at h4
    omega
theorem where_firm {c : Channel} (r : Right c) (hg : c.sights = []) {i k : Nat} (hi : i < c.fords.length) (hk : k ≤ c.tides.toNat) : c.fords.getD i (-1) ∈ whereL c k i ∧ (rchC c.sands (c.fords.getD i (-1)) = 0 → whereL c k i = [c.fords.getD i (-1)]) := by
  have hm := where_real r (fords_LL r) (still_on r hg hk) hi
  refine ⟨hm, fun h0 => asc_ext filtL_asc (List.pairwise_singleton _ _) fun x => ?_⟩
  rw [List.mem_singleton]
  constructor
  · intro hx
    obtain ⟨_, l, hl, ho, e⟩ := where_iff.1 hx
    unfold onB at ho
    rw [Bool.and_eq_true, decide_eq_true_eq] at ho
    rw [← e]
    exact FcL_firm r hi h0 k l hl ho.1
  · rintro rfl
    exact hm
theorem any7_eq {l w : List Int} (hl : l.length ≤ 1000) (hw : w.length ≤ 1000) (h : ∀ x ∈ l, x ∈ w) : jQ l w = some false := by
  unfold jQ q6
  have := any_loop l default (fun x => kO x w) (fun x => !decide (x ∈ w)) (by omega) (fun x _ => by unfold kO; rw [KO (by omega)]; rfl) (f := yr l w) (fun s => rfl)
  rw [this]
  congr 1
  rw [List.any_eq_false]
  intro x hx
  simp [h x hx]
theorem BranchFirm_true {l : List Int} (hl : l.length ≤ 9223372036854775807) {a b : Int} (ha : 0 ≤ a ∧ a ≤ 255) (hb : 0 ≤ b ∧ b ≤ 255) : qR l a b = some true := by
  unfold qR
  rw [pile_eq, Option.bind_some, awake_true, Go.Fw.wrap_i64 (z := a) (by omega), Go.Fw.wrap_i64 (z := b) (by omega)]
  obtain ⟨x, h1, _, hM, hW⟩ := made_ok hl (p := 0) (q := 0) (cells := 9) (fords := 3) (tides := 4) (HOK_zero l) (by omega) (by omega) (by omega)
  simp only
  rw [h1, Option.bind_some]
  have r := hM.right
  have hg := hM.none
  have hc := r.cells
  have ht := r.tides
  have hf := r.fords
  have hs4 := r.sands
  have hF : Few x.r0 := few_right r (by rw [hg]; simp)
  have hk0 : chk x.r0 = 0 := chk_right r (by rw [hg]; simp)
  have k1 := Int.tmod_nonneg x.r0.cells ha.1
  have k2 := Int.tmod_lt_of_pos a (show 0 < x.r0.cells by omega)
  have c1 := Int.tmod_nonneg 5 hb.1
  have c2 := Int.tmod_lt_of_pos b (show (0 : Int) < 5 by omega)
  have d1 := Int.tmod_nonneg 2 hb.1
  have d2 := Int.tmod_lt_of_pos b (show (0 : Int) < 2 by omega)
  rw [Own_eq hF, Option.bind_some, Option.bind_some, Option.bind_some, remc_eq (by omega), Option.bind_some, subc_eq (by omega), remc_eq (by omega), remc_eq (by omega)]
  generalize a.tmod x.r0.cells = lo at k1 k2 ⊢
  generalize b.tmod 5 = wd at c1 c2 ⊢
  generalize b.tmod 2 = rc at d1 d2 ⊢
  obtain ⟨S1, e1, e2⟩ : ∃ S1 : List Sand, (if (x.r0.sands.length : Int) = 4 then
 (if (0 : Int) ≤ 0 ∧ 0 ≤ (x.r0.sands.length : Int) then (some (x.r0.sands.take (Int.toNat 0))) else none) else
 (some x.r0.sands)) = some S1 ∧ (S1 = [] ∨ S1 = x.r0.sands ∧ S1.length ≤ 3) := by
    by_cases h4 : (x.r0.sands.length : Int) = 4
    · exact ⟨[], by rw [if_pos h4, if_pos (by omega)]; rfl, .inl rfl⟩
    · exact ⟨x.r0.sands, by rw [if_neg h4], .inr ⟨rfl, by omega⟩⟩
  have hl1 : S1.length ≤ 3 := by
    rcases e2 with rfl | ⟨_, q⟩
    · simp
    · exact q
  dsimp only
  rw [e1, Option.bind_some, Option.bind_some, Option.bind_some, addc_eq (by omega), Option.bind_some, Option.bind_some, addc_eq (by omega), Option.bind_some, appc_eq (by rw [List.length_singleton]; omega), Option.bind_some]
  obtain ⟨S2, hS2⟩ : ∃ S2, S2 = S1 ++ [(⟨⟨lo, min (x.r0.cells - 1) (lo + wd)⟩, 1 + rc⟩ : Sand)] := ⟨_, rfl⟩
  rw [← hS2]
  have hl2 : S2.length = S1.length + 1 := by rw [hS2]; simp
  have hok : ∀ s ∈ S2, (1 ≤ s.reach ∧ s.reach ≤ 2) ∧ 0 ≤ s.span.lo ∧ s.span.hi < x.r0.cells ∧ s.span.lo ≤ s.span.hi := fun s hs => by
    rw [hS2] at hs
    rcases List.mem_append.1 hs with h | h
    · rcases e2 with rfl | ⟨rfl, _⟩
      · cases h
      · exact ⟨r.reach s h, r.span s h⟩
    · rw [List.mem_singleton] at h
      rw [h]
      simp only
      omega
  have r2 : Right (withSa x.r0 S2) := ⟨r.cells, r.tides, r.fords, by show S2.length ≤ 4; omega, r.sights, fun s hs => (hok s hs).1, r.after, r.fcell, fun s hs => (hok s hs).2, r.scell, r.up⟩
  have rB : Right (withSa x.r0 []) := ⟨r.cells, r.tides, r.fords, by show 0 ≤ 4; omega, r.sights, fun s hs => (by cases hs), r.after, r.fcell, fun s hs => (by cases hs), r.scell, r.up⟩
  have hmono : 1 < (S2.length : Int) → ∀ z, rchC x.r0.sands z ≤ rchC S2 z := fun h z => by
    rcases e2 with rfl | ⟨rfl, _⟩
    · rw [hl2] at h; simp at h
    · rw [hS2]; exact rchC_snoc_le z
  have hg0 : x.r0.sights.length ≤ 8 := by rw [hg]; simp
  have hF2 : Few (withSa x.r0 S2) := few_right r2 hg0
  have hk2 : chk (withSa x.r0 S2) = 0 := chk_right r2 hg0
  have hFB : Few (withSa x.r0 []) := few_right rB hg0
  have hkB : chk (withSa x.r0 []) = 0 := chk_right rB hg0
  have p1 : 0 < cntS tt x.r0 := still_pos r hg
  have p2 : 0 < cntS tt (withSa x.r0 S2) := still_pos r2 hg
  have pB : cntS tt (withSa x.r0 []) = 1 := cnt_bare rB rfl hg
  have hcB : (⟨x.r0.cells, x.r0.tides, x.r0.fords, [], x.r0.sights⟩ : Channel) = withSa x.r0 [] := rfl
  have hc2 : (⟨x.r0.cells, x.r0.tides, x.r0.fords, S2, x.r0.sights⟩ : Channel) = withSa x.r0 S2 := rfl
  have key := iterM_any0 (f := kD x ⟨x.r0, x.r0⟩ S2) x.r0.fords.length (fun _ => false) false (fun i hi => ?_) ?_ (N := FU) (FU_lt (by omega))
  · rw [show (List.range x.r0.fords.length).any (fun _ => false) = false from by simp, if_neg Bool.false_ne_true] at key
    rw [hcB, hc2, Qu hFB, if_pos hkB, Option.bind_some, Qu hF, if_pos hk0, Option.bind_some, Qu hF2, if_pos hk2, Option.bind_some, pB]
    dsimp only
    rw [if_pos rfl, if_pos rfl, if_pos rfl, if_pos (show ((1 : Nat) : Int) = 1 from rfl), if_neg (by omega), if_neg (by omega)]
    have hq : (if 1 < (S2.length : Int) then (some (decide (((cntS tt (withSa x.r0 S2) : Nat) : Int) < ((cntS tt x.r0 : Nat) : Int)))) else (some false)) = some false := by
      by_cases h : 1 < (S2.length : Int)
      · have := cnt_sa r r2 (hmono h)
        rw [if_pos h, decide_eq_false (by omega)]
      · rw [if_neg h]
    rw [hq, Option.bind_some, if_neg Bool.false_ne_true, key]
    rfl
  · have hx0 := r.fcell _ (getDm 0 hi)
    have e0 : x.r0.fords.getD i (-1) = x.r0.fords.getD i 0 := by simp [List.getD_eq_getElem?_getD, List.getElem?_eq_getElem hi]
    have k2 := iterM_any0 (f := kJ (x.r0.tides + 1) x (i : Int) ⟨x.r0, x.r0⟩ S2 (x.r0.fords.getD i 0)) (x.r0.tides.toNat + 1) (fun _ => false) false (fun k hk => ?_) ?_ (N := FU) (FU_lt (by omega))
    · rw [show (List.range (x.r0.tides.toNat + 1)).any (fun _ => false) = false from by simp, if_neg Bool.false_ne_true] at k2
      unfold kD
      rw [if_pos (by omega), ix_nat 0 hi, Option.bind_some, addc_eq (by omega), Option.bind_some, k2, Option.bind_some, oc_inl, addc_eq (by omega)]
      rfl
    · obtain ⟨w1, w2⟩ := where_firm r hg (i := i) (k := k) hi (by omega)
      rw [e0] at w1 w2
      have hws := where_short hc.2 k i
      have hws2 := where_short (c := withSa x.r0 S2) hc.2 k i
      have a1 : addc (k : Int) 1 = some ((k : Int) + 1) := addc_eq (by omega)
      have hq : (if 1 < (S2.length : Int) then
 ((jQ (whereL x.r0 k i) (whereL (withSa x.r0 S2) k i)).bind fun t179 =>
 some t179) else
 (some false)) = some false := by
        by_cases h : 1 < (S2.length : Int)
        · rw [if_pos h, any7_eq hws hws2 (fun z hz => where_sa r r2 (hmono h) hz)]
          rfl
        · rw [if_neg h]
      unfold kJ
      rw [if_pos (by omega), cells_at hF hk0 p1 (by omega) hi, Option.bind_some]
      dsimp only
      rw [hc2, cells_at hF2 hk2 p2 (by show (k : Int) ≤ x.r0.tides; omega) hi, Option.bind_some]
      dsimp only
      rw [if_pos rfl, if_pos rfl, lawReach_eq (by omega), Option.bind_some, KO (by omega), decide_eq_true w1]
      by_cases h0 : rchC x.r0.sands (x.r0.fords.getD i 0) = 0
      · rw [if_pos h0, w2 h0, Ze (by simp), Option.bind_some, decide_eq_true rfl, if_neg (by decide), Option.bind_some, if_neg (by decide)]
        rw [w2 h0] at hq
        rw [hq, Option.bind_some, if_neg Bool.false_ne_true, a1]
        rfl
      · rw [if_neg h0, Option.bind_some, if_neg (by decide), hq, Option.bind_some, if_neg Bool.false_ne_true, a1]
        rfl
    · unfold kJ
      rw [if_neg (by omega)]
  · unfold kD
    rw [if_neg (by omega)]
end Go.Proofs.Wb

namespace Go.Gx
open Go Go.Fw Go.RowKit
section
variable {H : Type} {enc : TypeId × Value → H} {P : Program} {w : World} {base : Nat} {sp : Nat → Bool} {held : Bool}
def Opens (enc : TypeId × Value → H) (P : Program) (w : World) (base : Nat) (sp : Nat → Bool) (held : Bool) {α : Type} (R : Row α) (wf : α → Prop) (t : TypeId) : Prop :=
  ∀ fuel cs x, DataW.trod enc P w base sp held fuel t cs = some x → ∃ a, cs = R.cells a ∧ wf a
def u8P (n : Int) : Prop := 0 ≤ n ∧ n ≤ 255
theorem wf_u8P {n : Int} (h : (Lit.int .u8 n).wf = true) : u8P n := by
  simp [Lit.wf, IntKind.min, IntKind.max, IntKind.signed, IntKind.bits] at h
  unfold u8P; omega
theorem opens_u8 {t : TypeId} (ht : P.underlying t = some (.int .u8)) : Opens enc P w base sp held RU8 u8P t := fun fuel cs x h => by
  obtain ⟨n, rfl, _, hw⟩ := DataW.trod_int ht h
  exact ⟨n, rfl, wf_u8P hw⟩
theorem fieldAt {fs : Array Field} {t : TypeId} {fuel : Nat} {cs : List Value} {x : DataW H × List MemPlace} (ht : P.underlying t = some (.struct fs)) (h : DataW.trod enc P w base sp held fuel t cs = some x) {α : Type} {R : Row α} {wf : α → Prop} (i : Nat) {T o k : Nat}
    (hf : (fs[i]?).map (fun fd => (fd.type, fd.offset)) = some (T, o)) (hk : P.cellsOf T = k) (hR : Opens enc P w base sp held R wf T) : ∃ a, (cs.drop o).take k = R.cells a ∧ wf a := by
  obtain ⟨xs, n, rfl, _, hlen, hxl, hx⟩ := DataW.trod_struct ht h
  obtain ⟨fd, hfd, he⟩ : ∃ fd, fs[i]? = some fd ∧ (fd.type, fd.offset) = (T, o) := by
    cases hh : fs[i]? with
    | none => simp [hh] at hf
    | some fd => exact ⟨fd, rfl, by simpa [hh] using hf⟩
  simp only [Prod.mk.injEq] at he
  obtain ⟨rfl, rfl⟩ := he
  have h1 := hx i fd hfd
  rw [hk] at h1
  have hi : i < xs.length := by rw [hxl]; exact (Array.getElem?_eq_some_iff.1 hfd).1
  rw [List.getElem?_eq_getElem hi] at h1
  exact hR _ _ _ h1
structure SlIn {α : Type} (R : Row α) (wf : α → Prop) (w : World) (v : Value) (A : Option Addr) (n c : Nat) (l : List α) : Prop where
  val : v = .slice A n c
  len : l.length = n
  ok : AOK n A
  le : n ≤ c
  max : c ≤ maxLen
  seg : segOK w (aB A, aO A, R.enc l)
  wf : ∀ x, x ∈ l → wf x
theorem choose_list {α : Type} {p : Nat → α → Prop} : ∀ (n : Nat), (∀ i, i < n → ∃ a, p i a) → ∃ l : List α, l.length = n ∧ ∀ i (h : i < l.length), p i l[i]
  | 0, _ => ⟨[], rfl, fun i h => by simp at h⟩
  | n + 1, h => by
    obtain ⟨l, hl, hp⟩ := choose_list n (fun i hi => h i (by omega))
    obtain ⟨a, ha⟩ := h n (by omega)
    refine ⟨l ++ [a], by simp [hl], fun i hi => ?_⟩
    by_cases hil : i < l.length
    · rw [List.getElem_append_left hil]; exact hp i hil
    · have : i = l.length := by simp at hi; omega
      subst this
      rw [List.getElem_append_right (by omega)]
      simp only [Nat.sub_self, List.getElem_cons_zero]
      rw [hl]; exact ha
theorem openSl {α : Type} {R : Row α} {wf : α → Prop} {t e : TypeId} (ht : P.underlying t = some (.slice e)) (hc : P.cellsOf e = R.sz) (hR : Opens enc P w base sp held R wf e) (h0 : Nat.blt 0 R.sz = true)
    {fuel : Nat} {cs : List Value} {x : DataW H × List MemPlace} (h : DataW.trod enc P w base sp held fuel t cs = some x) : ∃ (v : Value) (A : Option Addr) (n c : Nat) (l : List α), cs = [v] ∧ SlIn R wf w v A n c l := by
  have hsz : 0 < R.sz := by simpa using h0
  rcases Go.Deep.open_slice ht h with ⟨rfl, _⟩ | ⟨a, len, cap, m, n, D, Pl, rfl, hb, hl, hm, hmm, _, hi⟩
  · exact ⟨_, none, 0, 0, [], rfl, rfl, rfl, AOK.nil, Nat.le_refl _, Nat.zero_le _, segOK.nil, by simp⟩
  · have hlm : len ≤ m := by rw [hmm]; split <;> omega
    have hcell : ∀ i, i < len → ∃ x : α, (∀ f (hf : f < (R.cells x).length), w.cell? (a.add (i * R.sz + f)) = some (R.cells x)[f]) ∧ wf x := fun i hil => by
      obtain ⟨cs', h1, h2⟩ := hi i (by omega)
      obtain ⟨x, rfl, hw⟩ := hR _ _ _ h2
      obtain ⟨_, _, hat⟩ := World.cells?_some h1
      refine ⟨x, fun f hf => ?_, hw⟩
      have := hat f (by rw [hc, ← R.len x]; exact hf)
      rw [hc] at this
      rw [List.getElem?_eq_getElem hf] at this
      have e : (a.add (i * R.sz)).add f = a.add (i * R.sz + f) := by
        unfold Addr.add
        by_cases h1 : i * R.sz = 0
        · simp [h1]
        · by_cases h2 : f = 0
          · simp [h2]
          · simp [h1, h2, Nat.add_assoc]
      rw [e] at this
      exact this
    obtain ⟨l, hll, hlp⟩ := choose_list len hcell
    have hspot : 0 < len → a.spot = none := fun h0 => by
      obtain ⟨x, hx, _⟩ := hcell 0 h0
      have := World.cell?_spot (hx 0 (by rw [R.len]; exact hsz))
      simpa [Addr.add] using this
    refine ⟨_, some a, len, cap, l, rfl, rfl, hll, fun h0 => ?_, hl, hm, fun j hj => ?_, fun x hx => ?_⟩
    · obtain ⟨b, o, s⟩ := a
      have := hspot h0
      simp only at this
      subst this
      exact ⟨b, o, rfl⟩
    · have hj' : j < l.length * R.sz := by rw [← R.enc_len]; exact hj
      have hpos : 0 < len := by
        rcases Nat.eq_zero_or_pos len with h | h
        · rw [hll, h, Nat.zero_mul] at hj'; omega
        · exact h
      obtain ⟨b, o, s⟩ := a
      have hs := hspot hpos
      simp only at hs
      subst hs
      have hq : j / R.sz < l.length := Nat.div_lt_of_lt_mul (by rw [Nat.mul_comm]; exact hj')
      have hr : j % R.sz < R.sz := Nat.mod_lt _ hsz
      have hd : j / R.sz * R.sz + j % R.sz = j := by rw [Nat.mul_comm]; exact Nat.div_add_mod j R.sz
      have h1 := (hlp (j / R.sz) hq).1 (j % R.sz) (by rw [R.len]; exact hr)
      rw [hd] at h1
      have h2 := R.enc_get l (j / R.sz) (j % R.sz) l[j / R.sz] (List.getElem?_eq_getElem hq) hr
      rw [hd] at h2
      have h3 : (⟨b, o, none⟩ : Addr).add j = ⟨b, o + j, none⟩ := addr_add b o j
      rw [h3] at h1
      simp only [aB, aO, Option.map_some, Option.getD_some]
      rw [h1, ← List.getElem?_eq_getElem, ← h2, List.getElem?_eq_getElem hj]
    · obtain ⟨i, hi', rfl⟩ := List.getElem_of_mem hx
      exact (hlp i hi').2
theorem HV.begin {ro : List Sg} (h : ∀ s, s ∈ ro → segOK w s) : HV w (keys [] []) [] [] ro w :=
  ⟨rfl, rfl, rfl, Nat.le_refl _, fun _ _ _ => rfl, by simp [vbl], by simp [vbl], by simp [vbl], h, by simp [vbl]⟩
theorem segCons {s : Sg} {ro : List Sg} (h : segOK w s) (hr : ∀ t, t ∈ ro → segOK w t) : ∀ t, t ∈ s :: ro → segOK w t := fun t ht => by
  rcases List.mem_cons.1 ht with rfl | ht
  · exact h
  · exact hr t ht
theorem segNil : ∀ t, t ∈ ([] : List Sg) → segOK w t := fun t ht => by cases ht
theorem HV.below {w' : World} (h : HV w (keys [] []) [] [] [] w') : Below w.heap.size w w' := by
  have : Ext [] w w' := HS.toExt h
  exact this.below
end
end Go.Gx

