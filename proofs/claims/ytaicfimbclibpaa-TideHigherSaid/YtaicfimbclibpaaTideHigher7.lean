/- What the functions that the law TideHigher reaches come to, and why it holds: part 7. -/
import Derived.Deep.Slices
import Derived.ChangeArms
import Derived.Below
import Derived.KernelRfl
import Derived.Test.YtaicfimbclibpaaTideHigher6
namespace Go.Gx
/-! ### plain programs: what they come to -/
theorem addc_eq {a b : Int} (h : -9223372036854775808 ≤ a + b ∧ a + b ≤ 9223372036854775807) : addc a b = some (a + b) := if_pos h
theorem subc_eq {a b : Int} (h : -9223372036854775808 ≤ a - b ∧ a - b ≤ 9223372036854775807) : subc a b = some (a - b) := if_pos h
theorem mulc_eq {a b : Int} (h : -9223372036854775808 ≤ a * b ∧ a * b ≤ 9223372036854775807) : mulc a b = some (a * b) := if_pos h
theorem negc_eq {a : Int} (h : -9223372036854775808 ≤ -a ∧ -a ≤ 9223372036854775807) : negc a = some (-a) := if_pos h
theorem quoc_eq {a b : Int} (h0 : b ≠ 0) (h : -9223372036854775808 ≤ a.tdiv b ∧ a.tdiv b ≤ 9223372036854775807) : quoc a b = some (a.tdiv b) := if_pos ⟨h0, h⟩
theorem remc_eq {a b : Int} (h0 : b ≠ 0) : remc a b = some (a.tmod b) := if_pos h0
theorem ix_eq {α : Type} {l : List α} {i : Int} (d : α) (h0 : 0 ≤ i) (h1 : i < l.length) : ix l i = some (l.getD i.toNat d) := by
  unfold ix
  rw [if_neg (by omega), List.getD_eq_getElem?_getD]
  have : i.toNat < l.length := by omega
  simp [this]
theorem ix_nat {α : Type} {l : List α} {k : Nat} (d : α) (h1 : k < l.length) : ix l (k : Int) = some (l.getD k d) := by
  have := ix_eq (l := l) (i := (k : Int)) d (by omega) (by omega)
  simpa using this
theorem appc_eq {α : Type} {b : Nat} {l m : List α} (h : (l.length + m.length) * b ≤ 140737488355328) : appc b l m = some (l ++ m) := if_pos h
theorem makec_eq {α : Type} {b : Nat} {z : α} {n c : Int} (h : 0 ≤ n ∧ n ≤ c ∧ (b : Int) * c ≤ 140737488355328 ∧ c ≤ 140737488355328) : makec b z n c = some (List.replicate n.toNat z) := if_pos h
@[simp] theorem oc_inl {α β γ : Type} (a : α) (f : α → γ) (g : β → γ) : oc (.inl a) f g = f a := rfl
@[simp] theorem oc_inr {α β γ : Type} (b : β) (f : α → γ) (g : β → γ) : oc (.inr b) f g = g b := rfl

theorem iterM_step {σ β : Type} {f : σ → Option (σ ⊕ β)} {s s' : σ} {N : Nat} (h : f s = some (.inl s')) : iterM (N + 1) f s = iterM N f s' := by simp [iterM, h]
theorem iterM_done {σ β : Type} {f : σ → Option (σ ⊕ β)} {s : σ} {b : β} {N : Nat} (h : f s = some (.inr b)) : iterM (N + 1) f s = some b := by simp [iterM, h]
/-- an invariant, and what falls -/
theorem iterM_inv {σ β : Type} {f : σ → Option (σ ⊕ β)} (Inv : σ → Prop) (μ : σ → Nat) (Q : β → Prop)
    (h : ∀ s, Inv s → (∃ s', f s = some (.inl s') ∧ Inv s' ∧ μ s' < μ s) ∨ ∃ b, f s = some (.inr b) ∧ Q b) : ∀ (N : Nat) (s : σ), μ s < N → Inv s → ∃ b, iterM N f s = some b ∧ Q b
  | 0, _, hN, _ => absurd hN (Nat.not_lt_zero _)
  | N + 1, s, hN, hI => by
    rcases h s hI with ⟨s', h1, h2, h3⟩ | ⟨b, h1, h2⟩
    · rw [iterM_step h1]
      exact iterM_inv Inv μ Q h N s' (by omega) h2
    · exact ⟨b, iterM_done h1, h2⟩
/-- a course of states that is known -/
theorem iterM_run {σ β : Type} {f : σ → Option (σ ⊕ β)} (I : Nat → σ) (n : Nat) {b : β} (hs : ∀ k, k < n → f (I k) = some (.inl (I (k + 1)))) (he : f (I n) = some (.inr b)) : ∀ (N : Nat), n < N → iterM N f (I 0) = some b := by
  have key : ∀ (m k N : Nat), k + m = n → m < N → iterM N f (I k) = some b := by
    intro m
    induction m with
    | zero =>
      intro k N hk hN
      obtain ⟨N, rfl⟩ : ∃ N', N = N' + 1 := ⟨N - 1, by omega⟩
      have : k = n := by omega
      subst this
      exact iterM_done he
    | succ m ih =>
      intro k N hk hN
      obtain ⟨N, rfl⟩ : ∃ N', N = N' + 1 := ⟨N - 1, by omega⟩
      rw [iterM_step (hs k (by omega))]
      exact ih (k + 1) N (by omega) (by omega)
  intro N hN
  exact key n 0 N (by omega) hN
/-- a loop that asks of each number whether something is so, and leaves at the first -/
theorem iterM_any {ρ : Type} {f : Int → Option (Int ⊕ (Unit ⊕ ρ))} (i0 : Int) (n : Nat) (bad : Nat → Bool) (e : Nat → ρ) (h1 : ∀ k, k < n → f (i0 + (k : Int)) = some (if bad k then .inr (.inr (e k)) else .inl (i0 + (k : Int) + 1))) (h2 : f (i0 + (n : Int)) = some (.inr (.inl ()))) {N : Nat} (hN : n < N) :
    iterM N f i0 = some (match (List.range n).find? bad with | some k => .inr (e k) | none => .inl ()) := by
  have key : ∀ (m k N : Nat), k + m = n → m < N → (∀ j, j < k → bad j = false) → iterM N f (i0 + (k : Int)) = some (match (List.range n).find? bad with | some k => .inr (e k) | none => .inl ()) := by
    intro m
    induction m with
    | zero =>
      intro k N hk hN hb
      obtain ⟨N, rfl⟩ : ∃ N', N = N' + 1 := ⟨N - 1, by omega⟩
      have : k = n := by omega
      subst this
      rw [iterM_done h2]
      have : (List.range k).find? bad = none := by
        rw [List.find?_eq_none]
        intro x hx
        simp [hb x (by simpa using hx)]
      rw [this]
    | succ m ih =>
      intro k N hk hN hb
      obtain ⟨N, rfl⟩ : ∃ N', N = N' + 1 := ⟨N - 1, by omega⟩
      have hk2 := h1 k (by omega)
      cases hbk : bad k with
      | true =>
        rw [hbk] at hk2
        simp only [if_true] at hk2
        rw [iterM_done hk2]
        have : (List.range n).find? bad = some k := by
          rw [List.find?_range_eq_some]
          exact ⟨hbk, by simp; omega, fun j hj => by simp [hb j hj]⟩
        rw [this]
      | false =>
        rw [hbk] at hk2
        simp only [Bool.false_eq_true, if_false] at hk2
        rw [iterM_step hk2]
        have := ih (k + 1) N (by omega) (by omega) (fun j hj => by
          by_cases hjk : j = k
          · subst hjk; exact hbk
          · exact hb j (by omega))
        rw [show i0 + (k : Int) + 1 = i0 + ((k + 1 : Nat) : Int) by push_cast; omega]
        exact this
  have := key n 0 N (by omega) hN (fun j hj => absurd hj (by omega))
  simpa using this
theorem iterM_any0 {ρ : Type} {f : Int → Option (Int ⊕ (Unit ⊕ ρ))} (n : Nat) (bad : Nat → Bool) (e : ρ) (h1 : ∀ k : Nat, k < n → f (k : Int) = some (if bad k then .inr (.inr e) else .inl ((k : Int) + 1))) (h2 : f (n : Int) = some (.inr (.inl ()))) {N : Nat} (hN : n < N) :
    iterM N f 0 = some (if (List.range n).any bad then .inr e else .inl ()) := by
  have := iterM_any 0 n bad (fun _ => e) (fun k hk => by simpa using h1 k hk) (by simpa using h2) hN
  rw [this]
  cases hf : (List.range n).find? bad with
  | none =>
    have : (List.range n).any bad = false := by
      rw [List.any_eq_false]; intro x hx; simpa using List.find?_eq_none.1 hf x hx
    simp [this]
  | some k =>
    have : (List.range n).any bad = true := List.any_eq_true.2 ⟨k, List.mem_of_find?_eq_some hf, List.find?_some hf⟩
    simp [this]
theorem any_range {α : Type} {l : List α} {d : α} {p : α → Bool} : (List.range l.length).any (fun k => p (l.getD k d)) = l.any p := by
  rw [Bool.eq_iff_iff, List.any_eq_true, List.any_eq_true]
  constructor
  · rintro ⟨k, hk, hp⟩
    have hk' : k < l.length := by simpa using hk
    refine ⟨l[k], List.getElem_mem hk', ?_⟩
    simpa [List.getD_eq_getElem?_getD, hk'] using hp
  · rintro ⟨x, hx, hp⟩
    obtain ⟨k, hk, rfl⟩ := List.getElem_of_mem hx
    exact ⟨k, by simpa using hk, by simpa [List.getD_eq_getElem?_getD, hk] using hp⟩
theorem FU_lt {n : Nat} (h : n < 1000000000000) : n < FU := by unfold FU; omega
end Go.Gx

-- plain: sands that the law makes
namespace Go.Pl
structure TabOK (T : List Water) (at_ : Int) : Prop where
  inc : ∀ i, i + 1 < T.length → (T.getD i default).min < (T.getD (i + 1) default).min
  rg : ∀ i, i < T.length → 0 ≤ (T.getD i default).min ∧ (T.getD i default).min < at_ ∧ 0 ≤ (T.getD i default).h ∧ (T.getD i default).h ≤ 60
theorem TabOK.nil {a : Int} : TabOK [] a := ⟨fun i h => by simp at h, fun i h => by simp at h⟩
theorem getD_snoc {α : Type} {d : α} {l : List α} {x : α} {i : Nat} : (l ++ [x]).getD i d = if i < l.length then l.getD i d else if i = l.length then x else d := by
  simp only [List.getD_eq_getElem?_getD]
  by_cases h : i < l.length
  · rw [List.getElem?_append_left h, if_pos h]
  · rw [List.getElem?_append_right (by omega), if_neg h]
    by_cases h2 : i = l.length
    · subst h2; simp
    · rw [if_neg h2, List.getElem?_eq_none (by simp; omega)]; rfl
theorem TabOK.snoc {T : List Water} {a b h : Int} (k : TabOK T a) (h0 : 0 ≤ a) (hb : a < b) (hh : 0 ≤ h ∧ h ≤ 60) : TabOK (T ++ [⟨a, h⟩]) b := by
  refine ⟨fun i hi => ?_, fun i hi => ?_⟩
  · simp only [List.length_append, List.length_singleton] at hi
    rw [getD_snoc, getD_snoc, if_pos (by omega)]
    by_cases h1 : i + 1 < T.length
    · rw [if_pos h1]; exact k.inc i h1
    · rw [if_neg h1, if_pos (by omega)]
      exact (k.rg i (by omega)).2.1
  · simp only [List.length_append, List.length_singleton] at hi
    rw [getD_snoc]
    by_cases h1 : i < T.length
    · rw [if_pos h1]; have := k.rg i h1; omega
    · rw [if_neg h1, if_pos (by omega)]; simp only; omega
def sillOK (n : Int) (x : Sill) : Prop := (-1 ≤ x.a ∧ x.a < n) ∧ (-1 ≤ x.b ∧ x.b < n) ∧ x.a ≠ x.b ∧ 0 ≤ x.h ∧ x.h ≤ 50
structure MadeOK (pl sl : Int) (s : Sands) : Prop where
  tl : 2 ≤ s.table.length ∧ s.table.length ≤ 4
  tab : ∃ a, TabOK s.table a ∧ a ≤ 140
  lo : -8 ≤ s.wind.lo ∧ s.wind.lo ≤ 0
  hi : 0 ≤ s.wind.hi ∧ s.wind.hi ≤ 8
  fl : 1 ≤ s.floors.length ∧ (s.floors.length : Int) ≤ pl
  flo : ∀ x, x ∈ s.floors → 0 ≤ x ∧ x ≤ 50
  sl : (s.sills.length : Int) ≤ sl
  sil : ∀ x, x ∈ s.sills → sillOK s.floors.length x
theorem mem_getD {α : Type} {d : α} {l : List α} {j : Nat} (h : j < l.length) : l.getD j d ∈ l := by
  simp only [List.getD_eq_getElem?_getD, List.getElem?_eq_getElem h, Option.getD_some]; exact List.getElem_mem h
theorem MadeOK.check {pl sl : Int} {s : Sands} (h : MadeOK pl sl s) (hp : pl ≤ 8) (hs : sl ≤ 16) : check s = 0 := by
  obtain ⟨a, ht, ha⟩ := h.tab
  have h1 := h.tl
  have h2 := h.fl
  have h3 := h.sl
  have e1 : inr s.table.length 2 12 = true := inr_iff.2 (by omega)
  have e2 : inr s.floors.length 1 8 = true := inr_iff.2 (by omega)
  have e3 : decide (16 < (s.sills.length : Int)) = false := by simp; omega
  have e4 : s.table.all bigW = true := all_of_getD (d := default) (fun j hj => by
    have := ht.rg j hj
    simp only [bigW, Bool.and_eq_true, inr_iff]; omega)
  have e5 : inr s.wind.lo (-50) 50 = true := inr_iff.2 (by have := h.lo; omega)
  have e6 : inr s.wind.hi (-50) 50 = true := inr_iff.2 (by have := h.hi; omega)
  have e7 : s.floors.all hgt = true := all_of_getD (d := 0) (fun j hj => by
    have := h.flo _ (mem_getD (d := 0) hj)
    rw [hgt_iff]; omega)
  have e8 : s.sills.all (fun x => hgt x.h) = true := all_of_getD (d := default) (fun j hj => by
    have := (h.sil _ (mem_getD (d := default) hj)).2.2
    rw [hgt_iff]; omega)
  have e9 : ordered s = true := by
    rw [ordered_true (fun i hi => ht.inc i (by omega))]
    have := h.lo; have := h.hi
    simp; omega
  have e10 : s.sills.all (fun x => isEnd s x.a && isEnd s x.b) = true := all_of_getD (d := default) (fun j hj => by
    have := h.sil _ (mem_getD (d := default) hj)
    unfold sillOK at this
    simp only [Bool.and_eq_true, isEnd_iff]
    omega)
  have e11 : s.sills.all (fun x => !decide (x.a = x.b)) = true := all_of_getD (d := default) (fun j hj => by
    have := h.sil _ (mem_getD (d := default) hj)
    simpa using this.2.2.1)
  simp only [Pl.check, e1, e2, e3, e4, e5, e6, e7, e8, e9, e10, e11, Bool.not_true, Bool.or_self, Bool.false_eq_true, if_false]
end Go.Pl

-- plain: what water reaches; the gates, and the law's
namespace Go.Pl
inductive Reach (s : Sands) (h : Int) : Int → Prop
  | sea : Reach s h (-1)
  | step {p q : Int} {x : Sill} : Reach s h p → x ∈ s.sills → (x.a = p ∧ x.b = q ∨ x.b = p ∧ x.a = q) → q ≠ -1 → x.h ≤ h → s.floors.getD q.toNat 0 ≤ h → Reach s h q
theorem Reach.mono {s : Sands} {h k : Int} {q : Int} (r : Reach s h q) (hk : h ≤ k) : Reach s k q := by
  induction r with
  | sea => exact .sea
  | step _ hx hj hq h1 h2 ih => exact .step ih hx hj hq (by omega) (by omega)
/-! the gates are sound -/
def Snd (s : Sands) (g : List Int) : Prop := ∀ j, j < 8 → g.getD j 0 < 1000 → Reach s (g.getD j 0) (j : Nat)
theorem snd_low {s : Sands} (hG : Good s) {p at_ : Int} (hp : at_ < 1000 → Reach s at_ p) {g : List Int} (hg : OKg g) (hs : Snd s g) {x : Sill} (hx : x ∈ s.sills) {q : Int} (hj : x.a = p ∧ x.b = q ∨ x.b = p ∧ x.a = q) (hq : -1 ≤ q) : Snd s (lowAt s at_ x.h g q) := by
  unfold lowAt
  split
  · exact hs
  · rename_i hq1
    intro j hj8 hlt
    rw [getD_set, foldmax2] at hlt ⊢
    split at hlt
    · rename_i hc
      rw [if_pos hc]
      have hjq : (j : Int) = q := by omega
      rcases Int.le_total (g.getD q.toNat 0) (max (max at_ x.h) (s.floors.getD q.toNat 0)) with hle | hle
      · rw [Int.min_eq_left hle] at hlt ⊢
        have := hs j hj8 (by rw [← hc.1]; exact hlt)
        rw [hc.1]; exact this
      · rw [Int.min_eq_right hle] at hlt ⊢
        rw [hjq]
        exact .step ((hp (by omega)).mono (by omega)) hx hj hq1 (by omega) (by omega)
    · rename_i hc
      rw [if_neg hc]
      exact hs j hj8 hlt
theorem snd_lower {s : Sands} (hG : Good s) {p at_ : Int} (ha : 0 ≤ at_) (hp : at_ < 1000 → Reach s at_ p) {g : List Int} (hg : OKg g) (hs : Snd s g) : Snd s (lowerF s p at_ g) := by
  have key : ∀ (l : List Sill), (∀ x ∈ l, x ∈ s.sills) → ∀ g, OKg g → Snd s g → Snd s (l.foldl (lowStep s p at_) g) := by
    intro l
    induction l with
    | nil => intro _ g _ h; exact h
    | cons x l ih =>
      intro hl g hg hs
      have hx := hl x List.mem_cons_self
      obtain ⟨k, hk, hkx⟩ := List.mem_iff_getElem.1 hx
      have e : s.sills.getD k default = x := by simp [List.getD_eq_getElem?_getD, hk, hkx]
      have h1 := hG.sa k hk
      have h2 := hG.sb k hk
      rw [e] at h1 h2
      refine ih (fun y hy => hl y (List.mem_cons_of_mem _ hy)) _ (lowStep_ok hg ha) ?_
      unfold lowStep
      split
      · rename_i h; exact snd_low hG hp hg hs hx (.inl ⟨h, rfl⟩) h2.1
      · split
        · rename_i h; exact snd_low hG hp hg hs hx (.inr ⟨h, rfl⟩) h1.1
        · exact hs
  exact key s.sills (fun _ h => h) g hg hs
theorem snd_round {s : Sands} (hG : Good s) {g : List Int} (hg : OKg g) (hs : Snd s g) : ∀ k, k ≤ 8 → Snd s (roundN s g k) ∧ OKg (roundN s g k) := by
  intro k
  induction k with
  | zero => intro _; exact ⟨snd_lower hG (Int.le_refl 0) (fun _ => .sea) hg hs, (roundN_ok hg).1⟩
  | succ k ih =>
    intro hk
    obtain ⟨h1, h2⟩ := ih (by omega)
    refine ⟨?_, (roundN_ok hg).1⟩
    rw [roundN_succ]
    exact snd_lower hG (h2.lo k) (fun hlt => h1 k (by omega) hlt) h2 h1
theorem gates_snd {s : Sands} (hG : Good s) : Snd s (gatesOf s) := by
  have key : ∀ (k : Nat) (g : List Int), OKg g → Snd s g → Snd s (fixF s k g) := by
    intro k
    induction k with
    | zero => intro g _ h; exact h
    | succ k ih =>
      intro g hg hs
      unfold fixF
      split
      · exact hs
      · have := snd_round hG hg hs s.floors.length (by have := hG.fl; omega)
        exact ih _ this.2 this.1
  refine key _ _ initG_ok (fun j hj hlt => ?_)
  have : ∀ j, j < 8 → (initG 8).getD j 0 = 1000 := by decide
  rw [this j hj] at hlt
  exact absurd hlt (by omega)
/-! … and closed -/
theorem lower_fix {s : Sands} : lowerF s (-1) 0 (gatesOf s) = gatesOf s ∧ ∀ p, p < s.floors.length → lowerF s (p : Nat) ((gatesOf s).getD p 0) (gatesOf s) = gatesOf s := by
  have hf := gates_fixed (s := s)
  have hg := gates_ok (s := s)
  have h1 := lowerF_ok (s := s) (p := -1) hg (Int.le_refl 0)
  have h2 := foldl_le (I := OKg) (f := fun g (p : Nat) => lowerF s (p : Nat) (g.getD p 0) g) (fun g x h => (lowerF_ok h (h.lo x)).1) (fun g x h => (lowerF_ok h (h.lo x)).2) (List.range s.floors.length) _ h1.1
  have h3 : (List.range s.floors.length).foldl (fun g (p : Nat) => lowerF s (p : Nat) (g.getD p 0) g) (lowerF s (-1) 0 (gatesOf s)) = gatesOf s := hf
  rw [h3] at h2
  have e1 : lowerF s (-1) 0 (gatesOf s) = gatesOf s := h1.2.antisymm h2.2
  rw [e1] at h3
  refine ⟨e1, fun p hp => ?_⟩
  exact foldl_fix (I := OKg) (fun g x h => (lowerF_ok h (h.lo x)).1) (fun g x h => (lowerF_ok h (h.lo x)).2) _ _ hg h3 p (List.mem_range.2 hp)
theorem low_le {s : Sands} {p at_ : Int} {g : List Int} (hg : OKg g) (ha : 0 ≤ at_) (hf : lowerF s p at_ g = g) {x : Sill} (hx : x ∈ s.sills) {q : Int} (hj : x.a = p ∧ x.b = q ∨ x.b = p ∧ x.a = q) (hne : x.a ≠ x.b) (hq : 0 ≤ q ∧ q < 8) : g.getD q.toNat 0 ≤ max (max at_ x.h) (s.floors.getD q.toNat 0) := by
  have h1 := foldl_fix (I := OKg) (fun _ _ h => lowStep_ok h ha) (fun _ _ _ => lowStep_le) _ _ hg hf x hx
  have h2 : lowAt s at_ x.h g q = g := by
    unfold lowStep at h1
    rcases hj with ⟨ha, hb⟩ | ⟨hb, ha⟩
    · rw [if_pos ha, hb] at h1; exact h1
    · rw [if_neg (by omega), if_pos hb, ha] at h1; exact h1
  have h3 := congrArg (fun l => l.getD q.toNat 0) h2
  simp only [lowAt] at h3
  rw [if_neg (by omega), getD_set, if_pos ⟨rfl, by rw [hg.len]; omega⟩, foldmax2] at h3
  omega
theorem gates_le {s : Sands} (hG : Good s) {h : Int} (h0 : 0 ≤ h) {q : Int} (r : Reach s h q) : q = -1 ∨ ((0 ≤ q ∧ q < s.floors.length) ∧ (gatesOf s).getD q.toNat 0 ≤ h) := by
  have hfl := hG.fl
  induction r with
  | sea => exact .inl rfl
  | @step p q x r hx hj hq h1 h2 ih =>
    right
    obtain ⟨k, hk, hkx⟩ := List.mem_iff_getElem.1 hx
    have e : s.sills.getD k default = x := by simp [List.getD_eq_getElem?_getD, hk, hkx]
    have ha := hG.sa k hk
    have hb := hG.sb k hk
    have hne := hG.ne k hk
    rw [e] at ha hb hne
    have hqr : 0 ≤ q ∧ q < s.floors.length := by rcases hj with ⟨h3, h4⟩ | ⟨h3, h4⟩ <;> omega
    refine ⟨hqr, ?_⟩
    have hf := lower_fix (s := s)
    rcases ih with rfl | ⟨hp, hle⟩
    · have := low_le gates_ok (Int.le_refl 0) hf.1 hx hj hne (by omega)
      omega
    · have h5 := hf.2 p.toNat (by omega)
      rw [Int.toNat_of_nonneg hp.1] at h5
      have := low_le gates_ok (gates_ok.lo _) h5 hx hj hne (by omega)
      omega
end Go.Pl

-- plain: the law's gates are the gates
namespace Go.Pl
theorem gStep_le {s : Sands} {h : Int} {out : List Int} {y : Sill} : Le (gStep s h out y) out := by
  refine ⟨gStep_length, fun j => ?_⟩
  unfold gStep
  split
  · rw [getD_set]
    split
    · rename_i hq; rw [hq.1]; exact Int.min_le_left _ _
    · exact Int.le_refl _
  · exact Int.le_refl _
theorem foldl_Le {α : Type} {f : List Int → α → List Int} (hf : ∀ o x, Le (f o x) o) : ∀ (l : List α) (o : List Int), Le (l.foldl f o) o
  | [], o => Le.refl o
  | x :: l, o => (foldl_Le hf l (f o x)).trans (hf o x)
def sStep (s : Sands) (h : Int) (o : List Int) (x : Sill) : List Int := (both x).foldl (gStep s h) o
theorem sStep_le {s : Sands} {h : Int} {o : List Int} {x : Sill} : Le (sStep s h o x) o := foldl_Le (fun _ _ => gStep_le) _ _
theorem sillN_all {s : Sands} {h : Int} {out : List Int} : sillN s h out s.sills.length = s.sills.foldl (sStep s h) out := by
  unfold sillN; rw [List.take_length]; rfl
theorem pass_le {s : Sands} {h : Int} {out : List Int} : Le (sillN s h out s.sills.length) out := by rw [sillN_all]; exact foldl_Le (fun _ _ => sStep_le) _ _
/-! sound -/
def LSnd (s : Sands) (h : Int) (out : List Int) : Prop := ∀ j, j < s.floors.length → out.getD j 0 = 1000000 ∨ (0 ≤ out.getD j 0 ∧ out.getD j 0 ≤ h ∧ Reach s (out.getD j 0) (j : Nat))
theorem gStep_snd {s : Sands} {h : Int} (h0 : 0 ≤ h ∧ h ≤ 999) {out : List Int} (hs : LSnd s h out) {x y : Sill} (hx : x ∈ s.sills) (hy : y = x ∨ y = swapS x) (ha : -1 ≤ y.a ∧ y.a < s.floors.length) (hb : -1 ≤ y.b ∧ y.b < s.floors.length) : LSnd s h (gStep s h out y) := by
  unfold gStep
  split
  · rename_i hc
    obtain ⟨c1, c2, c3, c4⟩ := hc
    intro j hj
    rw [getD_set]
    split
    · rename_i hq
      have hjb : (j : Int) = y.b := by omega
      have hra : Reach s h y.a := by
        rcases c4 with c4 | c4
        · rw [c4]; exact .sea
        · rcases Int.lt_or_le y.a 0 with h1 | h1
          · have : y.a = -1 := by omega
            rw [this]; exact .sea
          · have h2 := hs y.a.toNat (by omega)
            rw [Int.toNat_of_nonneg h1] at h2
            rcases h2 with h2 | h2
            · omega
            · exact h2.2.2.mono h2.2.1
      have hrb : Reach s h y.b := by
        refine .step hra hx ?_ c2 ?_ c3
        · rcases hy with rfl | rfl
          · exact .inl ⟨rfl, rfl⟩
          · exact .inr ⟨rfl, rfl⟩
        · rcases hy with rfl | rfl
          · exact c1
          · exact c1
      have hold := hs j hj
      rw [hq.1]
      rcases Int.le_total (out.getD j 0) h with hle | hle
      · rw [Int.min_eq_left hle]; exact hold
      · rw [Int.min_eq_right hle]
        exact .inr ⟨h0.1, Int.le_refl _, by rw [hjb]; exact hrb⟩
    · exact hs j hj
  · exact hs
theorem pass_snd {s : Sands} (hG : Good s) {h : Int} (h0 : 0 ≤ h ∧ h ≤ 999) {out : List Int} (hs : LSnd s h out) : LSnd s h (sillN s h out s.sills.length) := by
  rw [sillN_all]
  have key : ∀ (l : List Sill), (∀ x ∈ l, x ∈ s.sills) → ∀ o, LSnd s h o → LSnd s h (l.foldl (sStep s h) o) := by
    intro l
    induction l with
    | nil => intro _ o h; exact h
    | cons x l ih =>
      intro hl o ho
      have hx := hl x List.mem_cons_self
      obtain ⟨k, hk, hkx⟩ := List.mem_iff_getElem.1 hx
      have e : s.sills.getD k default = x := by simp [List.getD_eq_getElem?_getD, hk, hkx]
      have ha := hG.sa k hk
      have hb := hG.sb k hk
      rw [e] at ha hb
      refine ih (fun y hy => hl y (List.mem_cons_of_mem _ hy)) _ ?_
      exact gStep_snd h0 (gStep_snd h0 ho hx (.inl rfl) ha hb) hx (.inr rfl) hb ha
  exact key s.sills (fun _ h => h) out hs
theorem rounds_snd {s : Sands} (hG : Good s) {h : Int} (h0 : 0 ≤ h ∧ h ≤ 999) {out : List Int} (hs : LSnd s h out) : ∀ r, LSnd s h (roundsN s h out r)
  | 0 => hs
  | r + 1 => pass_snd hG h0 (rounds_snd hG h0 hs r)
theorem heights_snd {s : Sands} (hG : Good s) : ∀ h : Nat, h ≤ 900 → LSnd s h (heightN s (initO s.floors.length s.floors.length) h)
  | 0, _ => fun j hj => .inl (by simp [heightN, initO, List.getD_eq_getElem?_getD, hj])
  | h + 1, hh => by
    have h1 := rounds_snd hG (h := (h : Nat)) (by omega) (heights_snd hG h (by omega)) s.floors.length
    intro j hj
    rcases h1 j hj with h2 | ⟨h2, h3, h4⟩
    · exact .inl h2
    · exact .inr ⟨h2, by push_cast; exact Int.le_trans h3 (by omega), h4⟩
/-! complete -/
theorem gStep_reach {s : Sands} {h : Int} {out : List Int} {y : Sill} (hc : gCond s h out y) (hb : 0 ≤ y.b ∧ y.b < out.length) : (gStep s h out y).getD y.b.toNat 0 ≤ h := by
  unfold gStep
  rw [if_pos hc, getD_set, if_pos ⟨rfl, by omega⟩]
  exact Int.min_le_right _ _
theorem pass_reach {s : Sands} {h : Int} {out : List Int} (hl : out.length = s.floors.length) {x : Sill} (hx : x ∈ s.sills) {p q : Int} (hj : x.a = p ∧ x.b = q ∨ x.b = p ∧ x.a = q) (hq : 0 ≤ q ∧ q < s.floors.length) (h1 : x.h ≤ h) (h2 : s.floors.getD q.toNat 0 ≤ h) (hp : p = -1 ∨ out.getD p.toNat 0 ≤ h) : (sillN s h out s.sills.length).getD q.toNat 0 ≤ h := by
  rw [sillN_all]
  obtain ⟨l1, l2, hs⟩ := List.append_of_mem hx
  rw [hs, List.foldl_append, List.foldl_cons]
  have e1 : Le (l1.foldl (sStep s h) out) out := foldl_Le (fun _ _ => sStep_le) _ _
  refine Int.le_trans ((foldl_Le (fun _ _ => sStep_le) l2 _).le q.toNat) ?_
  generalize l1.foldl (sStep s h) out = o at *
  have hol : o.length = s.floors.length := e1.len.trans hl
  have hpo : p = -1 ∨ o.getD p.toNat 0 ≤ h := hp.imp id (fun h => Int.le_trans (e1.le _) h)
  show (gStep s h (gStep s h o x) (swapS x)).getD q.toNat 0 ≤ h
  rcases hj with ⟨ha, hb⟩ | ⟨hb, ha⟩
  · refine Int.le_trans (gStep_le.le _) ?_
    have := gStep_reach (s := s) (h := h) (out := o) (y := x) ⟨h1, by omega, by rw [hb]; exact h2, by rw [ha]; exact hpo⟩ (by omega)
    rwa [hb] at this
  · have := gStep_reach (s := s) (h := h) (out := gStep s h o x) (y := swapS x) ⟨h1, by show x.a ≠ -1; omega, by show s.floors.getD x.a.toNat 0 ≤ h; rw [ha]; exact h2, by
      have e2 : (swapS x).a = p := hb
      rw [e2]
      exact hpo.imp id (fun h => Int.le_trans (gStep_le.le _) h)⟩ (by rw [gStep_length]; show 0 ≤ x.a ∧ x.a < _; omega)
    have e : (swapS x).b = q := ha
    rwa [e] at this
def cntLe (h : Int) (o : List Int) : Nat := o.countP (fun v => decide (v ≤ h))
theorem cnt_mono {h : Int} : ∀ {a b : List Int}, a.length = b.length → (∀ j, a.getD j 0 ≤ b.getD j 0) → cntLe h b ≤ cntLe h a ∧ ((∃ j, j < b.length ∧ a.getD j 0 ≤ h ∧ h < b.getD j 0) → cntLe h b + 1 ≤ cntLe h a)
  | [], [], _, _ => ⟨Nat.le_refl _, fun ⟨j, hj, _⟩ => by simp at hj⟩
  | [], _ :: _, hl, _ => by simp at hl
  | _ :: _, [], hl, _ => by simp at hl
  | x :: a, y :: b, hl, hle => by
    have ih := cnt_mono (h := h) (a := a) (b := b) (by simpa using hl) (fun j => by simpa using hle (j + 1))
    have hxy : x ≤ y := by simpa using hle 0
    simp only [cntLe, List.countP_cons] at *
    refine ⟨?_, ?_⟩
    · by_cases h1 : y ≤ h
      · have : x ≤ h := by omega
        simp [h1, this]; exact ih.1
      · simp [h1]; split <;> omega
    · rintro ⟨j, hj, h1, h2⟩
      cases j with
      | zero =>
        simp only [List.getD_cons_zero] at h1 h2
        have h3 : ¬ y ≤ h := by omega
        simp [h1, h3]; exact ih.1
      | succ j =>
        simp only [List.getD_cons_succ] at h1 h2
        have := ih.2 ⟨j, by simpa using hj, h1, h2⟩
        by_cases h3 : y ≤ h
        · have : x ≤ h := by omega
          simp [h3, this]; omega
        · simp [h3]; split <;> omega
theorem rounds_len {s : Sands} {h : Int} {out : List Int} {r : Nat} (hl : out.length = s.floors.length) : (roundsN s h out r).length = s.floors.length := roundsN_length.trans hl
theorem closed_reach {s : Sands} (hG : Good s) {h : Int} {o : List Int} (hc : ∀ j, j < s.floors.length → (sillN s h o s.sills.length).getD j 0 ≤ h → o.getD j 0 ≤ h) (hl : o.length = s.floors.length) {q : Int} (r : Reach s h q) : q = -1 ∨ ((0 ≤ q ∧ q < s.floors.length) ∧ o.getD q.toNat 0 ≤ h) := by
  induction r with
  | sea => exact .inl rfl
  | @step p q x r hx hj hq h1 h2 ih =>
    right
    obtain ⟨k, hk, hkx⟩ := List.mem_iff_getElem.1 hx
    have e : s.sills.getD k default = x := by simp [List.getD_eq_getElem?_getD, hk, hkx]
    have ha := hG.sa k hk
    have hb := hG.sb k hk
    rw [e] at ha hb
    have hqr : 0 ≤ q ∧ q < s.floors.length := by rcases hj with ⟨h3, h4⟩ | ⟨h3, h4⟩ <;> omega
    exact ⟨hqr, hc _ (by omega) (pass_reach hl hx hj hqr h1 h2 (ih.imp id (fun h => h.2)))⟩
theorem rounds_all {s : Sands} (hG : Good s) {h : Int} {out : List Int} (hl : out.length = s.floors.length) : ∀ r : Nat, (∀ q, Reach s h q → q = -1 ∨ ((0 ≤ q ∧ q < s.floors.length) ∧ (roundsN s h out r).getD q.toNat 0 ≤ h)) ∨ r ≤ cntLe h (roundsN s h out r) := by
  intro r
  induction r with
  | zero => exact .inr (Nat.zero_le _)
  | succ r ih =>
    have hle : Le (roundsN s h out (r + 1)) (roundsN s h out r) := pass_le
    rcases ih with ih | ih
    · left
      intro q hq
      exact (ih q hq).imp id (fun h => ⟨h.1, Int.le_trans (hle.le _) h.2⟩)
    · have hc := cnt_mono (h := h) hle.len hle.le
      by_cases hn : ∃ j, j < (roundsN s h out r).length ∧ (roundsN s h out (r + 1)).getD j 0 ≤ h ∧ h < (roundsN s h out r).getD j 0
      · right
        have := hc.2 hn
        omega
      · left
        intro q hq
        have := closed_reach hG (o := roundsN s h out r) (fun j hj hlt => by
          rcases Int.lt_or_le h ((roundsN s h out r).getD j 0) with h1 | h1
          · exact absurd ⟨j, by rw [rounds_len hl]; exact hj, hlt, h1⟩ hn
          · exact h1) (rounds_len hl) hq
        exact this.imp id (fun h => ⟨h.1, Int.le_trans (hle.le _) h.2⟩)
theorem cnt_all {h : Int} : ∀ {o : List Int}, o.length ≤ cntLe h o → ∀ j, j < o.length → o.getD j 0 ≤ h
  | [], _, j, hj => by simp at hj
  | x :: o, hc, j, hj => by
    have h1 : cntLe h o ≤ o.length := List.countP_le_length
    simp only [cntLe, List.countP_cons, List.length_cons] at hc h1
    by_cases hx : x ≤ h
    · cases j with
      | zero => simpa using hx
      | succ j =>
        simp [hx] at hc
        simpa using cnt_all (h := h) (o := o) hc j (by simpa using hj)
    · simp [hx] at hc
      omega
theorem rounds_full {s : Sands} (hG : Good s) {h : Int} {out : List Int} (hl : out.length = s.floors.length) {q : Int} (r : Reach s h q) (hq : 0 ≤ q ∧ q < s.floors.length) : (roundsN s h out s.floors.length).getD q.toNat 0 ≤ h := by
  rcases rounds_all hG hl s.floors.length with h1 | h1
  · rcases h1 q r with h2 | h2
    · omega
    · exact h2.2
  · exact cnt_all (by rw [rounds_len hl]; exact h1) q.toNat (by rw [rounds_len hl]; omega)
theorem rounds_le {s : Sands} {h : Int} {out : List Int} : ∀ r, Le (roundsN s h out r) out
  | 0 => Le.refl _
  | r + 1 => (pass_le (s := s)).trans (rounds_le r)
theorem heights_full {s : Sands} (hG : Good s) {q : Int} (hq : 0 ≤ q ∧ q < s.floors.length) {h : Nat} (r : Reach s (h : Nat) q) : ∀ k : Nat, h < k → (heightN s (initO s.floors.length s.floors.length) k).getD q.toNat 0 ≤ h
  | 0, hk => absurd hk (by omega)
  | k + 1, hk => by
    by_cases hkk : h < k
    · exact Int.le_trans ((rounds_le _).le _) (heights_full hG hq r k hkk)
    · have : h = k := by omega
      subst this
      exact rounds_full hG (by rw [heightN_length, initO_length]) r hq
/-- low sands: nothing is higher than 50 -/
theorem reach_low {s : Sands} (hG : Good s) (h1 : ∀ x, x ∈ s.sills → x.h ≤ 50) (h2 : ∀ j, j < s.floors.length → s.floors.getD j 0 ≤ 50) {h : Int} {q : Int} (r : Reach s h q) : Reach s 50 q := by
  induction r with
  | sea => exact .sea
  | @step p q x r hx hj hq h3 h4 ih =>
    refine .step ih hx hj hq (h1 x hx) ?_
    by_cases hl : q.toNat < s.floors.length
    · exact h2 _ hl
    · rw [List.getD_eq_getElem?_getD, List.getElem?_eq_none (by omega)]; decide
theorem lawGates_eq {s : Sands} (hG : Good s) (h1 : ∀ x, x ∈ s.sills → x.h ≤ 50) (h2 : ∀ j, j < s.floors.length → s.floors.getD j 0 ≤ 50) {j : Nat} (hj : j < s.floors.length) :
    (lawGates s).getD j 0 = if (gatesOf s).getD j 0 = 1000 then 1000000 else (gatesOf s).getD j 0 := by
  have hfl := hG.fl
  have hsnd := heights_snd hG 62 (by omega) j hj
  have hg0 := gates_ok (s := s)
  have hlo := hg0.lo j
  have hhi := hg0.hi j
  by_cases hg : (gatesOf s).getD j 0 = 1000
  · rw [if_pos hg]
    rcases hsnd with h3 | ⟨h3, h4, h5⟩
    · exact h3
    · have := gates_le hG h3 h5
      rcases this with h6 | ⟨_, h6⟩
      · omega
      · rw [Int.toNat_natCast, hg] at h6
        exfalso
        have h4' : (heightN s (initO s.floors.length s.floors.length) 62).getD j 0 ≤ 62 := h4
        omega
  · rw [if_neg hg]
    have hr := gates_snd hG j (by omega) (by omega)
    have h50 := gates_le hG (by omega) (reach_low hG h1 h2 hr)
    rcases h50 with h6 | ⟨_, h6⟩
    · omega
    · rw [Int.toNat_natCast] at h6
      have hr' : Reach s (((gatesOf s).getD j 0).toNat : Nat) (j : Nat) := by rw [Int.toNat_of_nonneg hlo]; exact hr
      have hle := heights_full hG (q := (j : Nat)) (by omega) hr' 62 (by omega)
      rw [Int.toNat_natCast, Int.toNat_of_nonneg hlo] at hle
      have hlg : lawGates s = heightN s (initO s.floors.length s.floors.length) 62 := rfl
      rw [hlg]
      rcases hsnd with h7 | ⟨h7, h8, h9⟩
      · omega
      · have := gates_le hG h7 h9
        rcases this with h10 | ⟨_, h10⟩
        · omega
        · rw [Int.toNat_natCast] at h10
          omega
end Go.Pl

-- plain: what is told
namespace Go.Pl
theorem fix_wind {s : Sands} {w : Span} : ∀ (k : Nat) (g : List Int), fixF { s with wind := w } k g = fixF s k g
  | 0, _ => rfl
  | k + 1, g => by
    have e : roundF { s with wind := w } g = roundF s g := rfl
    unfold fixF
    rw [e, fix_wind k]
theorem gates_wind {s : Sands} {w : Span} : gatesOf { s with wind := w } = gatesOf s := fix_wind 8001 _
/-- the gate of a place, and the law's number for it -/
def gateRel (g v : Int) : Prop := (g = 1000 ∧ v = 1000000) ∨ (g ≠ 1000 ∧ v = g)
theorem made_rel {pl sl : Int} {s : Sands} (h : MadeOK pl sl s) (hG : Good s) {j : Nat} (hj : j < s.floors.length) : gateRel ((gatesOf s).getD j 0) ((lawGates s).getD j 0) := by
  have := lawGates_eq hG (fun x hx => (h.sil x hx).2.2.2.2) (fun j hj => (h.flo _ (mem_getD (d := 0) hj)).2) hj
  rw [this]
  unfold gateRel
  split
  · rename_i h1; exact .inl ⟨h1, rfl⟩
  · rename_i h1; exact .inr ⟨h1, rfl⟩
theorem looked_zero {s : Sands} (hc : check s = 0) {gs : List Int} {tr : Int} {l : List Look} (hl : l.length ≤ 6) (h : ∀ x, x ∈ l → lookT s gs tr x) : lookedE s l = 0 := by
  rw [lookedE_look hc (by omega)]
  exact lookE_ok (fun i hi => (h _ (mem_getD hi)).1)
theorem left_told {s : Sands} (hG : Good s) {gs : List Int} (hgl : ∀ j, j < s.floors.length → gateRel ((gatesOf s).getD j 0) (gs.getD j 0)) {tr : Int} (ht : s.wind.lo ≤ tr ∧ tr ≤ s.wind.hi) : ∀ (l : List Look), (∀ x, x ∈ l → lookT s gs tr x) → ∀ (o : Span), (s.wind.lo ≤ o.lo ∧ o.lo ≤ tr) → (tr ≤ o.hi ∧ o.hi ≤ s.wind.hi) → (s.wind.lo ≤ (l.foldl (leftStep s (gatesOf s)) o).lo ∧ (l.foldl (leftStep s (gatesOf s)) o).lo ≤ tr) ∧ (tr ≤ (l.foldl (leftStep s (gatesOf s)) o).hi ∧ (l.foldl (leftStep s (gatesOf s)) o).hi ≤ s.wind.hi)
  | [], _, o, h1, h2 => ⟨h1, h2⟩
  | x :: l, h, o, h1, h2 => by
    have hx := h x List.mem_cons_self
    have hp := isPlace_iff.1 hx.1.2
    have hr := hgl x.place.toNat (by omega)
    have hb := height_tight hG hx.1.1
    have hlo := hG.lo
    have hhi := hG.hi
    have hw := hx.2
    refine left_told hG hgl ht l (fun y hy => h y (List.mem_cons_of_mem _ hy)) _ ?_ ?_
    all_goals
      unfold leftStep mostG
      unfold gateRel at hr
      cases hwet : x.wet with
      | true =>
        rw [hwet] at hw
        have hw' := of_decide_eq_true hw.symm
        simp only [if_true]
        first | omega | (split <;> omega)
      | false =>
        rw [hwet] at hw
        have hw' := of_decide_eq_false hw.symm
        simp only [Bool.false_eq_true, if_false]
        first | omega | (split <;> omega)
theorem looks_told {s : Sands} (hc : check s = 0) (hG : Good s) {gs : List Int} (hgl : ∀ j, j < s.floors.length → gateRel ((gatesOf s).getD j 0) (gs.getD j 0)) {tr : Int} (ht : s.wind.lo ≤ tr ∧ tr ≤ s.wind.hi) {l : List Look} (hl : l.length ≤ 6) (h : ∀ x, x ∈ l → lookT s gs tr x) :
    ∃ w : Span, LooksR s l = (w, 0) ∧ (s.wind.lo ≤ w.lo ∧ w.lo ≤ tr) ∧ (tr ≤ w.hi ∧ w.hi ≤ s.wind.hi) := by
  have h1 := left_told hG hgl ht l h s.wind ⟨Int.le_refl _, ht.1⟩ ⟨ht.2, Int.le_refl _⟩
  refine ⟨leftG s (gatesOf s) l, ?_, h1⟩
  unfold LooksR
  rw [if_neg (by rw [looked_zero hc hl h]; simp), if_neg (by have := h1.1; have := h1.2; unfold leftG; omega)]
theorem wind_check {s : Sands} (hc : check s = 0) {w : Span} (hlo : s.wind.lo ≤ w.lo) (hm : w.lo ≤ w.hi) (hhi : w.hi ≤ s.wind.hi) : check { s with wind := w } = 0 := by
  have hG := good_of_check hc
  have h1 := hG.lo
  have h2 := hG.hi
  have e5 : inr w.lo (-50) 50 = true := inr_iff.2 (by omega)
  have e6 : inr w.hi (-50) 50 = true := inr_iff.2 (by omega)
  have f5 : inr s.wind.lo (-50) 50 = true := inr_iff.2 (by omega)
  have f6 : inr s.wind.hi (-50) 50 = true := inr_iff.2 (by omega)
  have eo : ordered { s with wind := w } = ordered s := by
    rw [ordered_true (s := { s with wind := w }) hG.inc, ordered_true hG.inc]
    have := hG.wind
    simp [hm, this]
  have ei : ∀ p, isEnd { s with wind := w } p = isEnd s p := fun p => rfl
  rw [← hc]
  simp only [Pl.check, e5, e6, f5, f6, eo, ei]
/-- the state, by the law's number -/
theorem state_told {s : Sands} (hG : Good s) {m : Int} (hd : dayF s m = true) {k : Nat} {v : Int} (hr : gateRel ((gatesOf s).getD k 0) v) :
    (stateF s m (k : Nat) = 2 ∧ v < heightF s m + s.wind.lo) ∨ (stateF s m (k : Nat) = 0 ∧ ¬ v < heightF s m + s.wind.hi) ∨ (stateF s m (k : Nat) = 1 ∧ ¬ v < heightF s m + s.wind.lo ∧ v < heightF s m + s.wind.hi) := by
  have hb := height_tight hG hd
  have h1 := hG.lo
  have h2 := hG.hi
  have h3 := hG.wind
  unfold stateF stateG levelF
  rw [Int.toNat_natCast]
  simp only
  unfold gateRel at hr
  split
  · rename_i h4
    right; left
    refine ⟨rfl, ?_⟩
    rcases hr with ⟨h5, h6⟩ | ⟨h5, h6⟩
    · omega
    · omega
  · split
    · left; exact ⟨rfl, by omega⟩
    · right; right; exact ⟨rfl, by omega, by omega⟩
end Go.Pl

namespace Go.Proofs.Wk
open Go Go.Gx Go.Pl
set_option linter.unusedVariables false
/-! ### numbers out of bytes -/
def HOK (l : List Int) (p : Int) : Prop := 0 ≤ p ∧ (p < (l.length : Int) ∨ p = 0)
theorem pick_ok {l : List Int} {p r : Int} (hl : l.length ≤ 9223372036854775807) (hp : HOK l p) : ∃ x, m_laurelkit_Heap_pick l p r = some x ∧ (0 ≤ x.r0 ∧ x.r0 ≤ 32767) ∧ HOK l x.h0_1 := by
  obtain ⟨h0, h1⟩ := hp
  unfold m_laurelkit_Heap_pick
  have e1 : addc p 1 = some (p + 1) := addc_eq (by omega)
  by_cases hlt : p < (l.length : Int)
  · rw [if_pos hlt, ix_eq 0 h0 hlt, e1]
    simp only [Option.bind_some]
    by_cases hge : (l.length : Int) ≤ p + 1
    · rw [if_pos hge]
      refine ⟨_, rfl, Go.Fw.and_bound _ _ rfl, ?_⟩
      exact ⟨Int.le_refl _, .inr rfl⟩
    · rw [if_neg hge]
      refine ⟨_, rfl, Go.Fw.and_bound _ _ rfl, ?_⟩
      exact ⟨by simp only; omega, .inl (by simp only; omega)⟩
  · rw [if_neg hlt, e1]
    simp only [Option.bind_some]
    by_cases hge : (l.length : Int) ≤ p + 1
    · rw [if_pos hge]
      refine ⟨_, rfl, Go.Fw.and_bound _ _ rfl, ?_⟩
      exact ⟨Int.le_refl _, .inr rfl⟩
    · rw [if_neg hge]
      refine ⟨_, rfl, Go.Fw.and_bound _ _ rfl, ?_⟩
      exact ⟨by simp only; omega, .inl (by simp only; omega)⟩
theorem upto_ok {l : List Int} {p r n : Int} (hl : l.length ≤ 9223372036854775807) (hp : HOK l p) (hn : -1000000 ≤ n ∧ n ≤ 1000000) : ∃ x, m_laurelkit_Heap_Upto l p r n = some x ∧ (0 ≤ x.r0 ∧ x.r0 ≤ max 0 n) ∧ HOK l x.h0_1 := by
  obtain ⟨x, hx, hb, hk⟩ := pick_ok (r := r) hl hp
  unfold m_laurelkit_Heap_Upto
  rw [hx]
  simp only [Option.bind_some]
  rw [addc_eq (by omega)]
  simp only [Option.bind_some]
  rw [remc_eq (by omega)]
  simp only [Option.bind_some]
  refine ⟨_, rfl, ?_, hk⟩
  have h1 := Int.tmod_nonneg (max 1 (n + 1)) hb.1
  have h2 := Int.tmod_lt_of_pos x.r0 (show 0 < max 1 (n + 1) by omega)
  simp only
  omega
theorem from_ok {l : List Int} {p r lo hi : Int} (hl : l.length ≤ 9223372036854775807) (hp : HOK l p) (hn : (-400000 ≤ lo ∧ lo ≤ 400000) ∧ -400000 ≤ hi ∧ hi ≤ 400000) : ∃ x, m_laurelkit_Heap_From l p r lo hi = some x ∧ (lo ≤ x.r0 ∧ x.r0 ≤ max lo hi) ∧ HOK l x.h0_1 := by
  unfold m_laurelkit_Heap_From
  rw [subc_eq (by omega)]
  simp only [Option.bind_some]
  obtain ⟨x, hx, hb, hk⟩ := upto_ok (r := r) (n := hi - lo) hl hp (by omega)
  rw [hx]
  simp only [Option.bind_some]
  rw [addc_eq (by omega)]
  simp only [Option.bind_some]
  exact ⟨_, rfl, by simp only; omega, hk⟩
theorem once_ok {l : List Int} {p r n : Int} (hl : l.length ≤ 9223372036854775807) (hp : HOK l p) (hn : -400000 ≤ n ∧ n ≤ 400000) : ∃ x, m_laurelkit_Heap_Once l p r n = some x ∧ HOK l x.h0_1 := by
  unfold m_laurelkit_Heap_Once
  rw [subc_eq (by omega)]
  simp only [Option.bind_some]
  obtain ⟨x, hx, hb, hk⟩ := upto_ok (r := r) (n := n - 1) hl hp (by omega)
  rw [hx]
  simp only [Option.bind_some]
  exact ⟨_, rfl, hk⟩
/-! ### sands out of bytes -/
theorem made_L0 {l : List Int} (hl : l.length ≤ 9223372036854775807) {t : m_laurelkit_Heap_From_R} (ht : 0 ≤ t.r0 ∧ t.r0 ≤ 4) {a p r : Int} (ha : 0 ≤ a ∧ a ≤ 20) (hp : HOK l p) :
    ∃ o, iterM FU (m_laurellaw01_Made_L0 t l) ⟨a, 0, p, r, []⟩ = some o ∧ (∃ e, TabOK o.s7_table e ∧ e ≤ 140) ∧ (o.s7_table.length : Int) = t.r0 ∧ HOK l o.b0_1 := by
  refine iterM_inv (fun s => (0 ≤ s.t23 ∧ s.t23 ≤ t.r0) ∧ (s.s7_table.length : Int) = s.t23 ∧ TabOK s.s7_table s.at8 ∧ (0 ≤ s.at8 ∧ s.at8 ≤ 20 + 30 * s.t23) ∧ HOK l s.b0_1) (fun s => (t.r0 - s.t23).toNat) _ (fun s hs => ?_) FU _ (FU_lt (by simp only; omega)) ⟨⟨Int.le_refl _, ht.1⟩, rfl, TabOK.nil, by simp only; omega, hp⟩
  obtain ⟨h1, h2, h3, h4, h5⟩ := hs
  unfold m_laurellaw01_Made_L0
  by_cases hc : s.t23 < t.r0
  · left
    obtain ⟨x, hx, hxb, hxk⟩ := upto_ok (r := s.b0_2) (n := 60) hl h5 (by omega)
    obtain ⟨y, hy, hyb, hyk⟩ := from_ok (r := x.h0_2) (lo := 1) (hi := 30) hl hxk (by omega)
    have e1 : appc 16 s.s7_table [(⟨s.at8, x.r0⟩ : Water)] = some (s.s7_table ++ [⟨s.at8, x.r0⟩]) := appc_eq (by simp; omega)
    have e2 : addc s.at8 y.r0 = some (s.at8 + y.r0) := addc_eq (by omega)
    have e3 : addc s.t23 1 = some (s.t23 + 1) := addc_eq (by omega)
    simp only [if_pos hc, hx, e1, hy, e2, e3, Option.bind_some]
    refine ⟨_, rfl, ⟨by simp only; omega, by simp; omega, h3.snoc h4.1 (by simp only; omega) (by omega), by simp only; omega, hyk⟩, by simp only; omega⟩
  · right
    rw [if_neg hc]
    exact ⟨_, rfl, ⟨s.at8, h3, by omega⟩, by simp only; omega, h5⟩
theorem made_L1 {l : List Int} (hl : l.length ≤ 9223372036854775807) {t : m_laurelkit_Heap_From_R} (ht : 0 ≤ t.r0 ∧ t.r0 ≤ 8) {p r : Int} (hp : HOK l p) :
    ∃ o, iterM FU (m_laurellaw01_Made_L1 t l) ⟨0, p, r, []⟩ = some o ∧ (∀ x, x ∈ o.s7_floors → 0 ≤ x ∧ x ≤ 50) ∧ (o.s7_floors.length : Int) = t.r0 ∧ HOK l o.b0_1 := by
  refine iterM_inv (fun s => (0 ≤ s.t42 ∧ s.t42 ≤ t.r0) ∧ (s.s7_floors.length : Int) = s.t42 ∧ (∀ x, x ∈ s.s7_floors → 0 ≤ x ∧ x ≤ 50) ∧ HOK l s.b0_1) (fun s => (t.r0 - s.t42).toNat) _ (fun s hs => ?_) FU _ (FU_lt (by simp only; omega)) ⟨⟨Int.le_refl _, ht.1⟩, rfl, (fun x hx => by cases hx), hp⟩
  obtain ⟨h1, h2, h3, h5⟩ := hs
  unfold m_laurellaw01_Made_L1
  by_cases hc : s.t42 < t.r0
  · left
    obtain ⟨x, hx, hxb, hxk⟩ := upto_ok (r := s.b0_2) (n := 50) hl h5 (by omega)
    have e1 : appc 8 s.s7_floors [x.r0] = some (s.s7_floors ++ [x.r0]) := appc_eq (by simp; omega)
    have e3 : addc s.t42 1 = some (s.t42 + 1) := addc_eq (by omega)
    simp only [if_pos hc, hx, e1, e3, Option.bind_some]
    refine ⟨_, rfl, ⟨by simp only; omega, by simp; omega, fun y hy => ?_, hxk⟩, by simp only; omega⟩
    rcases List.mem_append.1 hy with h | h
    · exact h3 y h
    · simp only [List.mem_singleton] at h
      subst h; omega
  · right
    rw [if_neg hc]
    exact ⟨_, rfl, h3, by simp only; omega, h5⟩
theorem made_L2 {l : List Int} (hl : l.length ≤ 9223372036854775807) {t : m_laurelkit_Heap_Upto_R} {sl : Int} (hsl : 0 ≤ sl ∧ sl ≤ 16) (ht : 0 ≤ t.r0 ∧ t.r0 ≤ sl) {o1 : m_laurellaw01_Made_C1} (ho : 1 ≤ o1.s7_floors.length ∧ o1.s7_floors.length ≤ 8) {p r : Int} (hp : HOK l p) :
    ∃ o, iterM FU (m_laurellaw01_Made_L2 t o1 l) ⟨0, p, r, []⟩ = some o ∧ (∀ x, x ∈ o.s7_sills → sillOK (o1.s7_floors.length : Int) x) ∧ (o.s7_sills.length : Int) ≤ t.r0 ∧ HOK l o.b0_1 := by
  refine iterM_inv (fun s => (0 ≤ s.t55 ∧ s.t55 ≤ t.r0) ∧ (s.s7_sills.length : Int) ≤ s.t55 ∧ (∀ x, x ∈ s.s7_sills → sillOK (o1.s7_floors.length : Int) x) ∧ HOK l s.b0_1) (fun s => (t.r0 - s.t55).toNat) _ (fun s hs => ?_) FU _ (FU_lt (by simp only; omega)) ⟨⟨Int.le_refl _, ht.1⟩, by simp, (fun x hx => by cases hx), hp⟩
  obtain ⟨h1, h2, h3, h5⟩ := hs
  unfold m_laurellaw01_Made_L2
  by_cases hc : s.t55 < t.r0
  · left
    have e62 : subc (o1.s7_floors.length : Int) 1 = some ((o1.s7_floors.length : Int) - 1) := subc_eq (by omega)
    have e66 : subc (min s.t55 ((o1.s7_floors.length : Int) - 1)) 1 = some (min s.t55 ((o1.s7_floors.length : Int) - 1) - 1) := subc_eq (by omega)
    obtain ⟨x, hx, hxb, hxk⟩ := from_ok (r := s.b0_2) (lo := -1) (hi := min s.t55 ((o1.s7_floors.length : Int) - 1) - 1) hl h5 (by omega)
    obtain ⟨y, hy, hyb, hyk⟩ := upto_ok (r := x.h0_2) (n := 50) hl hxk (by omega)
    have e110 : addc s.t55 1 = some (s.t55 + 1) := addc_eq (by omega)
    simp only [if_pos hc, e62, e66, hx, hy, e110, Option.bind_some]
    -- the ends
    obtain ⟨c4, hc4, hca, hcb, hck⟩ : ∃ c4 : m_laurellaw01_Made_C4, (if (o1.s7_floors.length : Int) ≤ s.t55 then (m_laurelkit_Heap_From l y.h0_1 y.h0_2 (-1) ((o1.s7_floors.length : Int) - 1)).bind fun t82 => (m_laurelkit_Heap_Upto l t82.h0_1 t82.h0_2 ((o1.s7_floors.length : Int) - 1)).bind fun t88 => some (⟨t82.r0, t88.r0, t88.h0_1, t88.h0_2⟩ : m_laurellaw01_Made_C4) else some (⟨x.r0, min s.t55 ((o1.s7_floors.length : Int) - 1), y.h0_1, y.h0_2⟩ : m_laurellaw01_Made_C4)) = some c4 ∧ (-1 ≤ c4.x11_a ∧ c4.x11_a < o1.s7_floors.length) ∧ (-1 ≤ c4.x11_b ∧ c4.x11_b < o1.s7_floors.length) ∧ HOK l c4.b0_1 := by
      by_cases hf : (o1.s7_floors.length : Int) ≤ s.t55
      · obtain ⟨u, hu, hub, huk⟩ := from_ok (r := y.h0_2) (lo := -1) (hi := (o1.s7_floors.length : Int) - 1) hl hyk (by omega)
        obtain ⟨v, hv, hvb, hvk⟩ := upto_ok (r := u.h0_2) (n := (o1.s7_floors.length : Int) - 1) hl huk (by omega)
        simp only [if_pos hf, hu, hv, Option.bind_some]
        exact ⟨_, rfl, by simp only; omega, by simp only; omega, hvk⟩
      · simp only [if_neg hf]
        exact ⟨_, rfl, by simp only; omega, by simp only; omega, hyk⟩
    rw [hc4]
    simp only [Option.bind_some]
    obtain ⟨z, hz, hzk⟩ := once_ok (r := c4.b0_2) (n := 3) hl hck (by omega)
    rw [hz]
    simp only [Option.bind_some]
    obtain ⟨c5, hc5, hda, hdb, hdk⟩ : ∃ c5 : m_laurellaw01_Made_C5, (if z.r0 = true then some (⟨c4.x11_b, c4.x11_a, z.h0_1, z.h0_2⟩ : m_laurellaw01_Made_C5) else some (⟨c4.x11_a, c4.x11_b, z.h0_1, z.h0_2⟩ : m_laurellaw01_Made_C5)) = some c5 ∧ (-1 ≤ c5.x11_a ∧ c5.x11_a < o1.s7_floors.length) ∧ (-1 ≤ c5.x11_b ∧ c5.x11_b < o1.s7_floors.length) ∧ HOK l c5.b0_1 := by
      cases z.r0 with
      | true => exact ⟨_, rfl, hcb, hca, hzk⟩
      | false => exact ⟨_, rfl, hca, hcb, hzk⟩
    rw [hc5]
    simp only [Option.bind_some]
    by_cases hab : c5.x11_a = c5.x11_b
    · rw [if_pos hab]
      simp only [Option.bind_some]
      exact ⟨_, rfl, ⟨by simp only; omega, by simp only; omega, h3, hdk⟩, by simp only; omega⟩
    · rw [if_neg hab, appc_eq (by simp; omega)]
      simp only [Option.bind_some]
      refine ⟨_, rfl, ⟨by simp only; omega, by simp; omega, fun q hq => ?_, hdk⟩, by simp only; omega⟩
      rcases List.mem_append.1 hq with h | h
      · exact h3 q h
      · simp only [List.mem_singleton] at h
        subst h
        exact ⟨hda, hdb, hab, by simp only; omega⟩
  · right
    rw [if_neg hc]
    exact ⟨_, rfl, h3, by simp only; omega, h5⟩
theorem made_ok {l : List Int} (hl : l.length ≤ 9223372036854775807) {p r pl sl : Int} (hp : HOK l p) (hpl : 1 ≤ pl ∧ pl ≤ 8) (hsl : 0 ≤ sl ∧ sl ≤ 16) :
    ∃ o, m_laurellaw01_Made l p r pl sl = some o ∧ MadeOK pl sl o.r0 ∧ HOK l o.b0_1 := by
  unfold m_laurellaw01_Made
  obtain ⟨a, ha, hab, hak⟩ := upto_ok (r := r) (n := 8) hl hp (by omega)
  have e14 : negc a.r0 = some (-a.r0) := negc_eq (by omega)
  obtain ⟨b, hb, hbb, hbk⟩ := upto_ok (r := a.h0_2) (n := 8) hl hak (by omega)
  obtain ⟨c, hc, hcb, hck⟩ := upto_ok (r := b.h0_2) (n := 20) hl hbk (by omega)
  obtain ⟨d, hd, hdb, hdk⟩ := from_ok (r := c.h0_2) (lo := 2) (hi := 4) hl hck (by omega)
  simp only [ha, e14, hb, hc, hd, Option.bind_some]
  obtain ⟨o, ho, ⟨e, hte, hee⟩, hol, hok⟩ := made_L0 hl (t := d) (by omega) (a := c.r0) (r := d.h0_2) (by omega) hdk
  simp only [ho, Option.bind_some]
  obtain ⟨f, hf, hfb, hfk⟩ := from_ok (r := o.b0_2) (lo := 1) (hi := pl) hl hok (by omega)
  simp only [hf, Option.bind_some]
  obtain ⟨o1, ho1, hof, hofl, hok1⟩ := made_L1 hl (t := f) (by omega) (r := f.h0_2) hfk
  simp only [ho1, Option.bind_some]
  obtain ⟨g, hg, hgb, hgk⟩ := upto_ok (r := o1.b0_2) (n := sl) hl hok1 (by omega)
  simp only [hg, Option.bind_some]
  obtain ⟨o2, ho2, hos, hosl, hok2⟩ := made_L2 hl hsl (t := g) (by omega) (o1 := o1) (by omega) (r := g.h0_2) hgk
  simp only [ho2, Option.bind_some]
  exact ⟨_, rfl, ⟨by simp only; omega, ⟨e, hte, hee⟩, by simp only; omega, by simp only; omega, by simp only; omega, hof, by simp only; omega, hos⟩, hok2⟩
end Go.Proofs.Wk

namespace Go.Proofs.Wk
open Go Go.Gx Go.Pl
set_option linter.unusedVariables false
/-! ### copies -/
theorem dup_water {l : List Water} (h : l.length ≤ 1000) : m_laurelkit_Dup_tideWater l = some l := by
  unfold m_laurelkit_Dup_tideWater
  rw [makec_eq ⟨by omega, by omega, by omega, by omega⟩]
  simp only [Option.bind_some]
  rw [appc_eq (by simp; omega)]
  simp
theorem dup_int {l : List Int} (h : l.length ≤ 1000) : m_laurelkit_Dup_int l = some l := by
  unfold m_laurelkit_Dup_int
  rw [makec_eq ⟨by omega, by omega, by omega, by omega⟩]
  simp only [Option.bind_some]
  rw [appc_eq (by simp; omega)]
  simp
theorem dup_sill {l : List Sill} (h : l.length ≤ 1000) : m_laurelkit_Dup_tideSill l = some l := by
  unfold m_laurelkit_Dup_tideSill
  rw [makec_eq ⟨by omega, by omega, by omega, by omega⟩]
  simp only [Option.bind_some]
  rw [appc_eq (by simp; omega)]
  simp
/-- sands whose lists are short -/
structure Short (s : Sands) : Prop where
  t : s.table.length ≤ 100
  f : s.floors.length ≤ 100
  s : s.sills.length ≤ 100
theorem own_eq {s : Sands} (h : Short s) : m_laurellaw01_Own s = some s := by
  have h1 := h.t
  have h2 := h.f
  have h3 := h.s
  unfold m_laurellaw01_Own
  rw [dup_water (by omega), dup_int (by omega), dup_sill (by omega)]
  rfl
theorem take_snoc {α : Type} {l : List α} {k : Nat} (d : α) (h : k < l.length) : l.take k ++ [l.getD k d] = l.take (k + 1) := by
  rw [List.take_succ_eq_append_getElem h, List.getD_eq_getElem?_getD]
  simp [h]
theorem Good.short {s : Sands} (h : Good s) : Short s := ⟨by have := h.tl; omega, by have := h.fl; omega, by have := h.sl; omega⟩
theorem x_Check_eq {s : Sands} (hs : Short s) : x_Check s = some (check s) := by
  have h1 := hs.t
  have h2 := hs.f
  have h3 := hs.s
  unfold x_Check
  rw [if_pos ⟨by omega, by omega, by omega⟩]
theorem x_Height_eq {s : Sands} {m : Int} (hs : Short s) : x_Height s m = some (HeightR s m) := by
  have h1 := hs.t
  have h2 := hs.f
  have h3 := hs.s
  unfold x_Height
  rw [if_pos ⟨by omega, by omega, by omega⟩]
theorem x_Level_eq {s : Sands} {m : Int} (hs : Short s) : x_Level s m = some (LevelR s m) := by
  have h1 := hs.t
  have h2 := hs.f
  have h3 := hs.s
  unfold x_Level
  rw [if_pos ⟨by omega, by omega, by omega⟩]
theorem x_awake_eq : x_awake = some true := rfl
/-! ### sands that pass -/
theorem check_of_good {s : Sands} (h : Good s) : check s = 0 := by
  have h1 := h.tl
  have h2 := h.fl
  have h3 := h.sl
  have e1 : inr s.table.length 2 12 = true := inr_iff.2 (by omega)
  have e2 : inr s.floors.length 1 8 = true := inr_iff.2 (by omega)
  have e3 : decide (16 < (s.sills.length : Int)) = false := by simp; omega
  have e4 : s.table.all bigW = true := all_of_getD (d := default) (fun j hj => by
    have := h.tab j hj
    simp only [bigW, Bool.and_eq_true, inr_iff]; omega)
  have e5 : inr s.wind.lo (-50) 50 = true := inr_iff.2 (by have := h.lo; omega)
  have e6 : inr s.wind.hi (-50) 50 = true := inr_iff.2 (by have := h.hi; omega)
  have e7 : s.floors.all hgt = true := all_of_getD (d := 0) (fun j hj => by
    have := h.flo j hj
    rw [hgt_iff]; omega)
  have e8 : s.sills.all (fun x => hgt x.h) = true := all_of_getD (d := default) (fun j hj => by
    have := h.sh j hj
    rw [hgt_iff]; omega)
  have e9 : ordered s = true := by
    rw [ordered_true h.inc]
    simp [h.wind]
  have e10 : s.sills.all (fun x => isEnd s x.a && isEnd s x.b) = true := all_of_getD (d := default) (fun j hj => by
    have ha := h.sa j hj
    have hb := h.sb j hj
    simp only [Bool.and_eq_true, isEnd_iff]
    omega)
  have e11 : s.sills.all (fun x => !decide (x.a = x.b)) = true := all_of_getD (d := default) (fun j hj => by
    have := h.ne j hj
    simpa using this)
  unfold check
  rw [e1, e2, e3, e4, e5, e6, e7, e8, e9, e10, e11]
  rfl
/-- the gates hang on floors and sills alone -/
theorem fix_fs {s t : Sands} (hf : s.floors = t.floors) (hs : s.sills = t.sills) : ∀ (k : Nat) (g : List Int), fixF s k g = fixF t k g
  | 0, _ => rfl
  | k + 1, g => by
    have e : roundF s g = roundF t g := by
      cases s; cases t; simp only at hf hs; subst hf hs; rfl
    unfold fixF
    rw [e, fix_fs hf hs k]
theorem gates_fs {s t : Sands} (hf : s.floors = t.floors) (hs : s.sills = t.sills) : gatesOf s = gatesOf t := fix_fs hf hs 8001 _
theorem x_All_eq {s : Sands} {m : Int} (hs : Short s) : x_All s m = some (AllR s m) := by
  have h1 := hs.t
  have h2 := hs.f
  have h3 := hs.s
  unfold x_All
  rw [if_pos ⟨by omega, by omega, by omega⟩]
theorem x_Turn_eq {s : Sands} {p m : Int} (hs : Short s) : x_Turn s p m = some (TurnR s p m) := by
  have h1 := hs.t
  have h2 := hs.f
  have h3 := hs.s
  unfold x_Turn
  rw [if_pos ⟨by omega, by omega, by omega⟩]
theorem x_At_eq {s : Sands} {m p : Int} (hs : Short s) : x_At s m p = some (AtR s m p) := by
  have h1 := hs.t
  have h2 := hs.f
  have h3 := hs.s
  unfold x_At
  rw [if_pos ⟨by omega, by omega, by omega⟩]
theorem x_Gate_eq {s : Sands} {p : Int} (hs : Short s) : x_Gate s p = some (GateR s p) := by
  have h1 := hs.t
  have h2 := hs.f
  have h3 := hs.s
  unfold x_Gate
  rw [if_pos ⟨by omega, by omega, by omega⟩]
theorem MadeOK.good {pl sl : Int} {s : Sands} (h : MadeOK pl sl s) (hp : pl ≤ 8) (hs : sl ≤ 16) : Good s := good_of_check (h.check hp hs)
/-- a minute of the day, out of any number -/
theorem minute_in {s : Sands} (hG : Good s) {k : Int} (hk : 0 ≤ k ∧ k ≤ 255) :
    ∃ t, remc (IntKind.i64.wrap k) (lastM s - firstM s + 1) = some t ∧ firstM s ≤ firstM s + t ∧ firstM s + t ≤ lastM s ∧ 0 ≤ t := by
  have hds := day_span hG
  rw [Go.Fw.wrap_i64 (by omega), remc_eq (by omega)]
  have h1 := Int.tmod_nonneg (lastM s - firstM s + 1) (show (0 : Int) ≤ k by omega)
  have h2 := Int.tmod_lt_of_pos k (show 0 < lastM s - firstM s + 1 by omega)
  exact ⟨_, rfl, by omega, by omega, h1⟩
theorem place_in {s : Sands} (hG : Good s) {k : Int} (hk : 0 ≤ k ∧ k ≤ 255) : ∃ t, remc (IntKind.i64.wrap k) (s.floors.length : Int) = some t ∧ 0 ≤ t ∧ t < s.floors.length := by
  have hfl := hG.fl
  rw [Go.Fw.wrap_i64 (by omega), remc_eq (by omega)]
  have h1 := Int.tmod_nonneg (s.floors.length : Int) (show (0 : Int) ≤ k by omega)
  have h2 := Int.tmod_lt_of_pos k (show 0 < (s.floors.length : Int) by omega)
  exact ⟨_, rfl, h1, h2⟩
theorem lawfirst_eq {s : Sands} (h : 0 < s.table.length) : m_laurellaw01_first s = some (firstM s) := by
  unfold m_laurellaw01_first
  rw [show (0 : Int) = ((0 : Nat) : Int) from rfl, ix_nat default h]
  rfl
theorem lawlast_eq {s : Sands} (hs : Short s) (h : 0 < s.table.length) : m_laurellaw01_last s = some (lastM s) := by
  have h1 := hs.t
  unfold m_laurellaw01_last
  rw [subc_eq (by omega), Option.bind_some, show (s.table.length : Int) - 1 = ((s.table.length - 1 : Nat) : Int) by omega, ix_nat default (by omega)]
  rfl
end Go.Proofs.Wk

namespace Go.Proofs.Wk
open Go Go.Gx Go.Pl
set_option linter.unusedVariables false
/-! ### runs of minutes -/
/-- the runs told so far, and the open one -/
structure SI (p : Int → Bool) (a : Int) (k : Nat) (x : SpanSt) : Prop where
  acc : ∀ y, y ∈ x.acc → a ≤ y.lo ∧ y.lo ≤ y.hi ∧ y.hi + 1 < a + k ∧ (∀ m, y.lo ≤ m → m ≤ y.hi → p m = true) ∧ p (y.hi + 1) = false ∧ (y.lo = a ∨ p (y.lo - 1) = false)
  op : x.op = true → a ≤ x.fr ∧ x.fr < a + k ∧ (∀ m, x.fr ≤ m → m < a + k → p m = true) ∧ (x.fr = a ∨ p (x.fr - 1) = false)
  cov : ∀ m, a ≤ m → m < a + k → p m = true → (∃ y, y ∈ x.acc ∧ y.lo ≤ m ∧ m ≤ y.hi) ∨ (x.op = true ∧ x.fr ≤ m)
  shut : x.op = false → k = 0 ∨ p (a + k - 1) = false
theorem si_n {p : Int → Bool} {a : Int} : ∀ k, SI p a k (spansN p a k)
  | 0 => ⟨fun y hy => by simp [spansN] at hy, fun h => by simp [spansN] at h, fun m h1 h2 => by omega, fun _ => .inl rfl⟩
  | k + 1 => by
    have ih := si_n (p := p) (a := a) k
    rw [spansN_succ]
    generalize hx : spansN p a k = x at ih
    unfold spanStep
    cases hp : p (a + k) with
    | true =>
      cases ho : x.op with
      | false =>
        refine ⟨fun y hy => ?_, fun _ => ?_, fun m h1 h2 h3 => ?_, fun h => by simp at h⟩
        · have := ih.acc y hy; exact ⟨this.1, this.2.1, by omega, this.2.2.2⟩
        · refine ⟨by simp only; omega, by simp only; omega, fun m h1 h2 => ?_, ?_⟩
          · have : m = a + k := by simp only at h1; omega
            rw [this, hp]
          · rcases ih.shut ho with h | h
            · subst h; simp
            · right; exact h
        · by_cases hm : m < a + k
          · rcases ih.cov m h1 hm h3 with h | h
            · exact .inl h
            · rw [ho] at h; exact absurd h.1 (by decide)
          · exact .inr ⟨rfl, by simp only; omega⟩
      | true =>
        refine ⟨fun y hy => ?_, fun _ => ?_, fun m h1 h2 h3 => ?_, fun h => by simp only at h; rw [ho] at h; simp at h⟩
        · have := ih.acc y hy; exact ⟨this.1, this.2.1, by omega, this.2.2.2⟩
        · have := ih.op ho
          refine ⟨this.1, by have := this.2.1; simp only; omega, fun m h1 h2 => ?_, this.2.2.2⟩
          by_cases hm : m < a + k
          · exact this.2.2.1 m h1 hm
          · have : m = a + k := by omega
            rw [this, hp]
        · by_cases hm : m < a + k
          · exact ih.cov m h1 hm h3
          · exact .inr ⟨ho, by have := (ih.op ho).2.1; simp only; omega⟩
    | false =>
      unfold shutF
      cases ho : x.op with
      | false =>
        refine ⟨fun y hy => ?_, fun h => by simp at h, fun m h1 h2 h3 => ?_, fun _ => .inr (by rw [← hp]; congr 1; omega)⟩
        · have := ih.acc y hy; exact ⟨this.1, this.2.1, by omega, this.2.2.2⟩
        · by_cases hm : m < a + k
          · rcases ih.cov m h1 hm h3 with h | h
            · exact .inl h
            · rw [ho] at h; exact absurd h.1 (by decide)
          · have : m = a + k := by omega
            rw [this, hp] at h3; exact absurd h3 (by decide)
      | true =>
        have hop := ih.op ho
        refine ⟨fun y hy => ?_, fun h => by simp at h, fun m h1 h2 h3 => ?_, fun _ => .inr (by rw [← hp]; congr 1; omega)⟩
        · simp only [List.mem_append, List.mem_singleton] at hy
          rcases hy with hy | rfl
          · have := ih.acc y hy; exact ⟨this.1, this.2.1, by omega, this.2.2.2⟩
          · refine ⟨hop.1, by have := hop.2.1; simp only; omega, by simp only; omega, fun m h1 h2 => hop.2.2.1 m h1 (by simp only at h2; omega), ?_, hop.2.2.2⟩
            simp only
            rw [← hp]; congr 1; omega
        · by_cases hm : m < a + k
          · rcases ih.cov m h1 hm h3 with ⟨y, hy, h⟩ | h
            · exact .inl ⟨y, List.mem_append_left _ hy, h⟩
            · exact .inl ⟨_, List.mem_append_right _ List.mem_cons_self, h.2, by simp only; omega⟩
          · have : m = a + k := by omega
            rw [this, hp] at h3; exact absurd h3 (by decide)
/-- the runs of a day are the longest ones, and all of them -/
theorem spans_runs {s : Sands} (hG : Good s) {p : Int → Bool} :
    (∀ y, y ∈ spansF s p → firstM s ≤ y.lo ∧ y.lo ≤ y.hi ∧ y.hi ≤ lastM s ∧ (∀ m, y.lo ≤ m → m ≤ y.hi → p m = true) ∧ (y.hi = lastM s ∨ p (y.hi + 1) = false) ∧ (y.lo = firstM s ∨ p (y.lo - 1) = false)) ∧
    ∀ m, dayF s m = true → p m = true → ∃ y, y ∈ spansF s p ∧ y.lo ≤ m ∧ m ≤ y.hi := by
  have hds := day_span hG
  have hn : ((dayN s : Nat) : Int) = lastM s - firstM s + 1 := by unfold dayN; omega
  have ih := si_n (p := p) (a := firstM s) (dayN s)
  unfold spansF
  generalize spansN p (firstM s) (dayN s) = x at ih
  have key : ∀ y, y ∈ x.acc → firstM s ≤ y.lo ∧ y.lo ≤ y.hi ∧ y.hi ≤ lastM s ∧ (∀ m, y.lo ≤ m → m ≤ y.hi → p m = true) ∧ (y.hi = lastM s ∨ p (y.hi + 1) = false) ∧ (y.lo = firstM s ∨ p (y.lo - 1) = false) := fun y hy => by
    obtain ⟨h1, h2, h3, h4, h5, h6⟩ := ih.acc y hy
    exact ⟨h1, h2, by omega, h4, .inr h5, h6⟩
  unfold shutF
  cases ho : x.op with
  | false =>
    refine ⟨key, fun m hd hp => ?_⟩
    simp only [dayF, inr_iff] at hd
    rcases ih.cov m hd.1 (by omega) hp with h | h
    · exact h
    · rw [ho] at h; exact absurd h.1 (by decide)
  | true =>
    have hop := ih.op ho
    refine ⟨fun y hy => ?_, fun m hd hp => ?_⟩
    · simp only [List.mem_append, List.mem_singleton] at hy
      rcases hy with hy | rfl
      · exact key y hy
      · exact ⟨hop.1, by simp only; omega, by simp only; omega, fun m h1 h2 => hop.2.2.1 m h1 (by simp only at h2; omega), .inl (by simp only; omega), hop.2.2.2⟩
    · simp only [dayF, inr_iff] at hd
      rcases ih.cov m hd.1 (by omega) hp with ⟨y, hy, h⟩ | h
      · exact ⟨y, List.mem_append_left _ hy, h⟩
      · exact ⟨_, List.mem_append_right _ List.mem_cons_self, h.2, by simp only; omega⟩
theorem idxf_holds {α : Type} {p : α → Bool} {l : List α} {d : α} (h : 0 ≤ idxf p l) : p (l.getD (idxf p l).toNat d) = true := by
  unfold idxf at h ⊢
  cases hf : l.findIdx? p with
  | none => rw [hf] at h; exact absurd h (by decide)
  | some i =>
    rw [List.findIdx?_eq_some_iff_getElem] at hf
    obtain ⟨h1, h2, _⟩ := hf
    simpa [List.getD_eq_getElem?_getD, h1] using h2
/-- until when one may stay -/
theorem turn_spec {s : Sands} (hG : Good s) {p m : Int} (hp : isPlace s p = true) (hd : dayF s m = true) (h0 : stateF s m p = 0) :
    ∃ T, TurnR s p m = (T, 0) ∧ m ≤ T ∧ T ≤ lastM s ∧ (∀ k, m ≤ k → k ≤ T → stateF s k p = 0) ∧ (T = lastM s ∨ stateF s (T + 1) p ≠ 0) := by
  obtain ⟨hr, hc⟩ := spans_runs hG (p := isState s p 0)
  obtain ⟨y, hy, hy1, hy2⟩ := hc m hd (by simp [isState, h0])
  have hE : spansE s p 0 = 0 := by
    unfold spansE
    rw [check_of_good hG, hp]
    rfl
  have hi : 0 ≤ idxf (fun x : Span => inr m x.lo x.hi) (spansF s (isState s p 0)) := by
    have := idxf_nonneg (p := fun x : Span => inr m x.lo x.hi) (l := spansF s (isState s p 0))
    have ha : (spansF s (isState s p 0)).any (fun x : Span => inr m x.lo x.hi) = true := List.any_eq_true.2 ⟨y, hy, inr_iff.2 ⟨hy1, hy2⟩⟩
    rw [ha] at this
    exact of_decide_eq_true this
  have hrg := idxf_range (p := fun x : Span => inr m x.lo x.hi) (l := spansF s (isState s p 0))
  unfold TurnR
  rw [hE, hd, if_neg (by simp), if_neg (by simp), if_neg (by omega)]
  have hin := idxf_holds (d := default) (p := fun x : Span => inr m x.lo x.hi) (l := spansF s (isState s p 0)) hi
  generalize idxf (fun x : Span => inr m x.lo x.hi) (spansF s (isState s p 0)) = i at hi hrg hin
  have hm := mem_getD (d := (default : Span)) (l := spansF s (isState s p 0)) (j := i.toNat) (by omega)
  obtain ⟨_, _, h3, h4, h5, _⟩ := hr _ hm
  have hin2 := inr_iff.1 hin
  refine ⟨_, rfl, hin2.2, h3, fun k h1 h2 => ?_, ?_⟩
  · have := h4 k (by omega) h2
    exact of_decide_eq_true this
  · rcases h5 with h5 | h5
    · exact .inl h5
    · exact .inr (of_decide_eq_false h5)
/-! ### the table of ways is whole -/
def joins (x : Sill) (p q : Int) : Prop := x.a = p ∧ x.b = q ∨ x.b = p ∧ x.a = q
theorem hasKey_app {W r : List (Int × List Int)} {q : Int} (h : hasKey W q = true) : hasKey (W ++ r) q = true := by
  unfold hasKey at h ⊢
  rw [List.any_append, h]
  rfl
theorem tryAdd_has {may : Int → Int → Bool} {way : List Int} {W : List (Int × List Int)} {k : Nat} {q : Int} (hm : may k q = true) : hasKey (tryAdd may way W k q) q = true := by
  unfold tryAdd
  by_cases h : hasKey W q = true
  · rw [if_pos h]; exact h
  · rw [if_neg h, if_pos hm]
    unfold hasKey
    simp
theorem procN_has {s : Sands} {may : Int → Int → Bool} (hG : Good s) {W : List (Int × List Int)} {c : Nat} {q : Int} {k : Nat} (hk : k < s.sills.length) (hj : joins (s.sills.getD k default) (W.getD c default).1 q) (hm : may k q = true) : ∀ n, k < n → hasKey (procN s may W c n) q = true
  | 0, h => by omega
  | n + 1, h => by
    rw [procN_succ]
    by_cases hn : k < n
    · obtain ⟨r, hr⟩ := wStep_mono (may := may) (p := (W.getD c default).1) (way := (W.getD c default).2) (W := procN s may W c n) (k := n) (x := s.sills.getD n default)
      rw [hr]
      exact hasKey_app (procN_has hG hk hj hm n hn)
    · obtain rfl : k = n := by omega
      have hne := hG.ne k hk
      unfold wStep
      rcases hj with ⟨h1, h2⟩ | ⟨h1, h2⟩
      · rw [if_pos h1, h2]; exact tryAdd_has hm
      · rw [if_neg (by rw [← h1]; exact hne), if_pos h1, h2]; exact tryAdd_has hm
theorem ways_closed {s : Sands} {may : Int → Int → Bool} (hG : Good s) : ∀ (c j : Nat), j < c → j < (waysN s may c).length → ∀ k, k < s.sills.length → ∀ q, joins (s.sills.getD k default) ((waysN s may c).getD j default).1 q → may k q = true → hasKey (waysN s may c) q = true
  | 0, j, h, _, _, _, _, _, _ => by omega
  | c + 1, j, h, hl, k, hk, q, hj, hm => by
    have e : waysN s may (c + 1) = if c < (waysN s may c).length then procN s may (waysN s may c) c s.sills.length else waysN s may c := rfl
    by_cases hc : c < (waysN s may c).length
    · rw [e, if_pos hc] at hj hl ⊢
      obtain ⟨_, r, hr⟩ := procN_inv (may := may) hG (waysN_inv hG c) hc (Nat.le_refl _)
      by_cases hjc : j < c
      · have hg : (procN s may (waysN s may c) c s.sills.length).getD j default = (waysN s may c).getD j default := by
          rw [hr, List.getD_eq_getElem?_getD, List.getElem?_append_left (by omega), List.getD_eq_getElem?_getD]
        rw [hg] at hj
        rw [hr]
        exact hasKey_app (ways_closed hG c j hjc (by omega) k hk q hj hm)
      · obtain rfl : j = c := by omega
        have hg : (procN s may (waysN s may j) j s.sills.length).getD j default = (waysN s may j).getD j default := by
          rw [hr, List.getD_eq_getElem?_getD, List.getElem?_append_left (by omega), List.getD_eq_getElem?_getD]
        rw [hg] at hj
        exact procN_has hG hk hj hm _ hk
    · rw [e, if_neg hc] at hj hl ⊢
      exact ways_closed hG c j (by omega) hl k hk q hj hm
/-- who is in the table brings in whom he may -/
theorem waysF_closed {s : Sands} {may : Int → Int → Bool} (hG : Good s) {p q : Int} (hp : hasKey (waysF s may) p = true) {k : Nat} (hk : k < s.sills.length) (hj : joins (s.sills.getD k default) p q) (hm : may k q = true) : hasKey (waysF s may) q = true := by
  have hl := (waysN_inv (may := may) hG 9).len
  have hfl := hG.fl
  unfold waysF at hp ⊢
  have hp' := hasKey_iff.1 hp
  obtain ⟨e, he, rfl⟩ := List.mem_map.1 hp'
  obtain ⟨j, hj', rfl⟩ := List.mem_iff_getElem.1 he
  refine ways_closed hG 9 j (by omega) hj' k hk q ?_ hm
  have : (waysN s may 9).getD j default = (waysN s may 9)[j] := by simp [List.getD_eq_getElem?_getD, hj']
  rw [this]
  exact hj
theorem sea_in {s : Sands} {may : Int → Int → Bool} (hG : Good s) : hasKey (waysF s may) (-1) = true := by
  obtain ⟨r, hr⟩ := (waysN_inv (may := may) hG 9).sea
  unfold waysF
  rw [hr]
  simp [hasKey]
/-- what is in the table was allowed -/
theorem ways_keys {s : Sands} {may : Int → Int → Bool} {Q : Int → Prop} (hQ : ∀ k q, may k q = true → Q q) : ∀ c, ∀ e ∈ waysN s may c, e.1 = -1 ∨ Q e.1
  | 0, e, he => by simp [waysN] at he; subst he; exact .inl rfl
  | c + 1, e, he => by
    have ih := ways_keys (s := s) hQ c
    have e1 : waysN s may (c + 1) = if c < (waysN s may c).length then procN s may (waysN s may c) c s.sills.length else waysN s may c := rfl
    rw [e1] at he
    split at he
    · have key : ∀ n, ∀ e ∈ procN s may (waysN s may c) c n, e.1 = -1 ∨ Q e.1 := by
        intro n
        induction n with
        | zero => exact ih
        | succ n ihn =>
          have ht : ∀ q, ∀ e ∈ tryAdd may ((waysN s may c).getD c default).2 (procN s may (waysN s may c) c n) n q, e.1 = -1 ∨ Q e.1 := by
            intro q e he
            unfold tryAdd at he
            split at he
            · exact ihn e he
            · split at he
              · rename_i hm
                rcases List.mem_append.1 he with he | he
                · exact ihn e he
                · simp at he; subst he; exact .inr (hQ _ _ hm)
              · exact ihn e he
          intro e he
          rw [procN_succ] at he
          unfold wStep at he
          split at he
          · exact ht _ e he
          · split at he
            · exact ht _ e he
            · exact ihn e he
      exact key _ e he
    · exact ih e he
end Go.Proofs.Wk

namespace Go.Proofs.Wk
open Go Go.Gx Go.Pl
set_option linter.unusedVariables false
theorem pile_eq' (l : List Int) : m_laurelkit_Pile l = some ⟨0, 0⟩ := rfl
theorem x_Hold_eq {s : Sands} {p : Int} {a b : List Int} (hs : Short s) (ha : a.length ≤ 1000000) (hb : b.length ≤ 1000000) : x_Hold s p a b = some (HoldR s p a b) := by
  have h1 := hs.t
  have h2 := hs.f
  have h3 := hs.s
  unfold x_Hold
  rw [if_pos ⟨by omega, by omega, by omega, ha, hb⟩]
/-- one place's bank, held: what it comes to -/
theorem hold_one {s : Sands} (hG : Good s) {p q : Int} (hp : isPlace s p = true) (hq : isPlace s q = true) :
    HoldR s p [] [q] = if hasKey (waysF s (mayFree [] [q])) p = true then (0, 8) else (s.floors.getD q.toNat 0, 0) := by
  have hc := check_of_good hG
  have e1 : ([q] : List Int).all (isPlace s) = true := by simp [hq]
  have e2 : twiceF ([] : List Int) = false := rfl
  have e3 : twiceF [q] = false := by simp [twiceF, seenN]
  have hE : holdE s p [] [q] = if hasKey (waysF s (mayFree [] [q])) p = true then 8 else 0 := by
    unfold holdE
    rw [if_neg (by rw [hc]; decide), if_neg (by rw [hp, e1]; simp), e2, e3, if_neg (by simp)]
    by_cases h : hasKey (waysF s (mayFree [] [q])) p = true
    · rw [if_pos h, if_pos h]
    · rw [if_neg h, if_neg h]; rfl
  have hq2 := isPlace_iff.1 hq
  have hfl := hG.flo q.toNat (by omega)
  unfold HoldR
  rw [hE]
  by_cases h : hasKey (waysF s (mayFree [] [q])) p = true
  · rw [if_pos h, if_pos (by decide), if_pos h]
  · rw [if_neg h, if_neg (by decide), if_neg h]
    congr 1
    show min (holdS s []) (s.floors.getD q.toNat 0) = _
    unfold holdS
    simp only [List.foldl_nil]
    omega
/-- not in the table that leaves q out: whatever reaches there reaches q -/
theorem reach_over {s : Sands} (hG : Good s) {q : Int} {h r : Int} (hr : Go.Pl.Reach s h r) : hasKey (waysF s (mayFree [] [q])) r = true ∨ Go.Pl.Reach s h q := by
  induction hr with
  | sea => exact .inl (sea_in hG)
  | @step p0 q0 x hp hx hj hq h1 h2 ih =>
    rcases ih with ih | ih
    · by_cases he : q0 = q
      · subst he; exact .inr (.step hp hx hj hq h1 h2)
      · left
        obtain ⟨k, hk, rfl⟩ := List.mem_iff_getElem.1 hx
        have hg : s.sills.getD k default = s.sills[k] := by simp [List.getD_eq_getElem?_getD, hk]
        refine waysF_closed hG ih hk (by rw [hg]; exact hj) ?_
        simp [mayFree, hasI, he]
    · exact .inr ih
theorem own_out {s : Sands} {q : Int} (hq : q ≠ -1) : hasKey (waysF s (mayFree [] [q])) q ≠ true := by
  intro h
  obtain ⟨e, he, rfl⟩ := List.mem_map.1 (hasKey_iff.1 h)
  rcases ways_keys (s := s) (may := mayFree [] [e.1]) (Q := fun x => x ≠ e.1) (fun k x hm => by
    simp [mayFree, hasI] at hm
    exact hm) 9 e he with h1 | h1
  · exact hq h1
  · exact h1 rfl
theorem gateR_good {s : Sands} (hG : Good s) {p : Int} (hp : isPlace s p = true) : GateR s p = if (gatesOf s).getD p.toNat 0 = 1000 then (0, 6) else ((gatesOf s).getD p.toNat 0, 0) := by
  have hE : gatedE s p = if (gatesOf s).getD p.toNat 0 = 1000 then 6 else 0 := by
    unfold gatedE
    rw [check_of_good hG, hp]
    simp
  unfold GateR
  rw [hE]
  by_cases h : (gatesOf s).getD p.toNat 0 = 1000
  · rw [if_pos h, if_pos (by decide), if_pos h]
  · rw [if_neg h, if_neg (by decide), if_neg h]
theorem atR_good {s : Sands} (hG : Good s) {p m : Int} (hp : isPlace s p = true) (hd : dayF s m = true) : AtR s m p = (stateF s m p, 0) := by
  unfold AtR
  rw [check_of_good hG, hp, hd]
  simp
theorem state_gate {s : Sands} (hG : Good s) {a b m : Int} (hab : b ≤ a ∨ a = 1000) (ha : a ≤ 1000) : stateG s a m ≤ stateG s b m := by
  have hw := hG.wind
  unfold stateG
  have : (levelF s m).lo ≤ (levelF s m).hi := by simp only [levelF]; omega
  generalize levelF s m = l at this
  by_cases h1 : a = 1000 ∨ l.hi ≤ a
  · rw [if_pos h1]
    split
    · omega
    · split <;> omega
  · rw [if_neg h1, if_neg (show ¬ (b = 1000 ∨ l.hi ≤ b) by omega)]
    split
    · rw [if_pos (by omega)]; omega
    · split <;> omega
theorem state_nonneg {s : Sands} {m p : Int} : 0 ≤ stateF s m p := by
  unfold stateF stateG
  split
  · omega
  · split <;> omega
end Go.Proofs.Wk

namespace Go.Proofs.Wk
open Go Go.Gx Go.Pl
set_option linter.unusedVariables false
/-! ### other banks, other gates -/
theorem gate_below {s t : Sands} (hs : Good s) (ht : Good t) (hl : t.floors.length = s.floors.length) (hr : ∀ h q, 0 ≤ h → Go.Pl.Reach t h q → Go.Pl.Reach s h q) {j : Nat} (hj : j < s.floors.length) : (gatesOf s).getD j 0 ≤ (gatesOf t).getD j 0 := by
  have hfl := hs.fl
  have k1 := (gates_ok (s := s)).hi j
  have k0 := (gates_ok (s := t)).lo j
  by_cases h : (gatesOf t).getD j 0 < 1000
  · have h1 := gates_snd ht j (by omega) h
    rcases gates_le hs k0 (hr _ _ k0 h1) with h2 | h2
    · omega
    · have : ((j : Nat) : Int).toNat = j := by omega
      rw [this] at h2
      exact h2.2
  · omega
theorem gate_none {s t : Sands} (hs : Good s) (ht : Good t) (hl : t.floors.length = s.floors.length) (hr : ∀ h q, Go.Pl.Reach s h q → Go.Pl.Reach t 999 q) {j : Nat} (hj : j < s.floors.length) (h : (gatesOf t).getD j 0 = 1000) : (gatesOf s).getD j 0 = 1000 := by
  have hfl := hs.fl
  have k1 := (gates_ok (s := s)).hi j
  refine Classical.byContradiction fun hc => ?_
  have h1 := gates_snd hs j (by omega) (by omega)
  rcases gates_le ht (by omega) (hr _ _ h1) with h2 | h2
  · omega
  · have : ((j : Nat) : Int).toNat = j := by omega
    rw [this] at h2
    omega
/-- t's banks are s's, or higher -/
structure Up (s t : Sands) : Prop where
  fl : t.floors.length = s.floors.length
  sl : t.sills.length = s.sills.length
  fh : ∀ j, j < s.floors.length → s.floors.getD j 0 ≤ t.floors.getD j 0
  sa : ∀ j, j < s.sills.length → (t.sills.getD j default).a = (s.sills.getD j default).a
  sb : ∀ j, j < s.sills.length → (t.sills.getD j default).b = (s.sills.getD j default).b
  sh : ∀ j, j < s.sills.length → (s.sills.getD j default).h ≤ (t.sills.getD j default).h
theorem mem_idx {l : List Sill} {x : Sill} (h : x ∈ l) : ∃ k, k < l.length ∧ l.getD k default = x := by
  obtain ⟨k, hk, rfl⟩ := List.mem_iff_getElem.1 h
  exact ⟨k, hk, by simp [List.getD_eq_getElem?_getD, hk]⟩
theorem reach_place {s : Sands} (hs : Good s) {h q : Int} (r : Go.Pl.Reach s h q) : q = -1 ∨ (0 ≤ q ∧ q < s.floors.length) := by
  cases r with
  | sea => exact .inl rfl
  | @step p q x hp hx hj hq h1 h2 =>
    obtain ⟨k, hk, rfl⟩ := mem_idx hx
    have ha := hs.sa k hk
    have hb := hs.sb k hk
    right
    rcases hj with ⟨h3, h4⟩ | ⟨h3, h4⟩ <;> omega
theorem Up.down {s t : Sands} (hu : Up s t) (ht : Good t) {h q : Int} (r : Go.Pl.Reach t h q) : Go.Pl.Reach s h q := by
  induction r with
  | sea => exact .sea
  | @step p q x hp hx hj hq h1 h2 ih =>
    have hpl := reach_place ht (.step hp hx hj hq h1 h2)
    obtain ⟨k, hk, rfl⟩ := mem_idx hx
    have hk' : k < s.sills.length := by have := hu.sl; omega
    have e1 := hu.sa k hk'
    have e2 := hu.sb k hk'
    have e3 := hu.sh k hk'
    have e4 := hu.fh q.toNat (by have := hu.fl; omega)
    refine .step ih (mem_getD (d := (default : Sill)) hk') ?_ hq (by omega) (by omega)
    rw [← e1, ← e2]
    exact hj
theorem Up.up {s t : Sands} (hu : Up s t) (hs : Good s) (ht : Good t) {h q : Int} (r : Go.Pl.Reach s h q) : Go.Pl.Reach t 999 q := by
  induction r with
  | sea => exact .sea
  | @step p q x hp hx hj hq h1 h2 ih =>
    have hpl := reach_place hs (.step hp hx hj hq h1 h2)
    obtain ⟨k, hk, rfl⟩ := mem_idx hx
    have hk' : k < t.sills.length := by have := hu.sl; omega
    have e1 := hu.sa k hk
    have e2 := hu.sb k hk
    have e3 := ht.sh k hk'
    have e4 := ht.flo q.toNat (by have := hu.fl; omega)
    refine .step ih (mem_getD (d := (default : Sill)) hk') ?_ hq (by omega) (by omega)
    rw [e1, e2]
    exact hj
theorem stateG_tw {s t : Sands} (h1 : t.table = s.table) (h2 : t.wind = s.wind) {g m : Int} : stateG t g m = stateG s g m := by
  have : levelF t m = levelF s m := by
    unfold levelF heightF heightAt
    rw [h1, h2]
  unfold stateG
  rw [this]
theorem all_good {s : Sands} (hG : Good s) {m : Int} (hd : dayF s m = true) : AllR s m = ((List.range s.floors.length).map (fun p => stateF s m (p : Nat)), 0) := by
  unfold AllR
  rw [check_of_good hG, hd]
  rfl
theorem ix_all {s : Sands} {m p : Int} (hp : isPlace s p = true) : ix ((List.range s.floors.length).map (fun p => stateF s m (p : Nat))) p = some (stateF s m p) := by
  have h := isPlace_iff.1 hp
  rw [ix_eq 0 h.1 (by simp; omega)]
  congr 1
  have hlt : p.toNat < s.floors.length := by omega
  simp [List.getD_eq_getElem?_getD, hlt]
  congr 1
  omega
/-- a round of the first two loops -/
theorem raise_body {s t : Sands} (hs : Good s) (ht : Good t) (hu : Up s t) (e1 : t.table = s.table) (e2 : t.wind = s.wind) {m p : Int} (hp : isPlace s p = true) (hd : dayF s m = true) {α : Type} (K : Bool → Option α) :
    ((x_Gate s p).bind fun t149 => (x_Gate t p).bind fun t155 =>
      (if t149.2 = t155.2 then
        (if t149.2 = 0 then
          (if t155.1 < t149.1 then (some true) else
            ((ix (AllR t m).1 p).bind fun t176 => (ix (AllR s m).1 p).bind fun t180 => if t180 < t176 then (some true) else (some false)))
        else ((ix (AllR t m).1 p).bind fun t176_1 => (ix (AllR s m).1 p).bind fun t180_1 => if t180_1 < t176_1 then (some true) else (some false)))
      else (some true)).bind K) = K false := by
  have hdt : dayF t m = true := by
    unfold dayF firstM lastM at hd ⊢
    rw [e1]; exact hd
  have hpl := isPlace_iff.1 hp
  have hpt : isPlace t p = true := isPlace_iff.2 (by have := hu.fl; omega)
  have hj : p.toNat < s.floors.length := by omega
  have hle := gate_below hs ht hu.fl (fun h q _ r => hu.down ht r) hj
  have hno := fun h => gate_none hs ht hu.fl (fun h q r => hu.up hs ht r) hj h
  have hhi := (gates_ok (s := s)).hi p.toNat
  have hht := (gates_ok (s := t)).hi p.toNat
  have hst : stateF t m p ≤ stateF s m p := by
    unfold stateF
    rw [stateG_tw e1 e2]
    exact state_gate hs (by omega) hht
  rw [x_Gate_eq (Good.short hs), x_Gate_eq (Good.short ht), gateR_good hs hp, gateR_good ht hpt, all_good hs hd, all_good ht hdt, ix_all hp, ix_all hpt, Option.bind_some, Option.bind_some]
  have hst' : ¬ (stateF s m p < stateF t m p) := by omega
  by_cases h : (gatesOf s).getD p.toNat 0 = 1000
  · rw [if_pos h, if_pos (show (gatesOf t).getD p.toNat 0 = 1000 by omega), if_pos rfl, if_neg (fun h6 => absurd (show (6 : Int) = 0 from h6) (by decide)), Option.bind_some, Option.bind_some, if_neg hst', Option.bind_some]
  · rw [if_neg h, if_neg (fun h2 => h (hno h2)), if_pos rfl, if_pos rfl, if_neg (by show ¬ ((gatesOf t).getD p.toNat 0 < (gatesOf s).getD p.toNat 0); omega), Option.bind_some, Option.bind_some, if_neg hst', Option.bind_some]
/-- a round of the third -/
theorem more_body {s t : Sands} (hs : Good s) (ht : Good t) (hl : t.floors.length = s.floors.length) (hr : ∀ h q, Go.Pl.Reach s h q → Go.Pl.Reach t h q) (e1 : t.table = s.table) (e2 : t.wind = s.wind) {m p : Int} (hp : isPlace s p = true) (hd : dayF s m = true) {α : Type} (K : Bool → Option α) :
    ((x_Gate s p).bind fun t149 => (x_Gate t p).bind fun t155 =>
      (if t149.2 = 0 then
        (if t155.2 = 0 then
          (if t149.1 < t155.1 then (some true) else
            ((ix (AllR t m).1 p).bind fun t203 => (ix (AllR s m).1 p).bind fun t207 => some (decide (t203 < t207))))
        else (some true))
      else ((ix (AllR t m).1 p).bind fun t203_1 => (ix (AllR s m).1 p).bind fun t207_1 => some (decide (t203_1 < t207_1)))).bind K) = K false := by
  have hdt : dayF t m = true := by
    unfold dayF firstM lastM at hd ⊢
    rw [e1]; exact hd
  have hpl := isPlace_iff.1 hp
  have hpt : isPlace t p = true := isPlace_iff.2 (by omega)
  have hj : p.toNat < s.floors.length := by omega
  have hle := gate_below (s := t) (t := s) ht hs hl.symm (fun h q _ r => hr h q r) (j := p.toNat) (by omega)
  have hhi := (gates_ok (s := s)).hi p.toNat
  have hst : stateF s m p ≤ stateF t m p := by
    unfold stateF
    rw [stateG_tw e1 e2]
    exact state_gate hs (by omega) hhi
  have hst' : decide (stateF t m p < stateF s m p) = false := by
    simp only [decide_eq_false_iff_not]
    omega
  rw [x_Gate_eq (Good.short hs), x_Gate_eq (Good.short ht), gateR_good hs hp, gateR_good ht hpt, all_good hs hd, all_good ht hdt, ix_all hp, ix_all hpt, Option.bind_some, Option.bind_some]
  by_cases h : (gatesOf s).getD p.toNat 0 = 1000
  · rw [if_pos h, if_neg (fun h6 => absurd (show (6 : Int) = 0 from h6) (by decide)), Option.bind_some, Option.bind_some, hst', Option.bind_some]
  · rw [if_neg h, if_neg (show ¬ ((gatesOf t).getD p.toNat 0 = 1000) by omega), if_pos rfl, if_pos rfl, if_neg (by show ¬ ((gatesOf s).getD p.toNat 0 < (gatesOf t).getD p.toNat 0); omega), Option.bind_some, Option.bind_some, hst', Option.bind_some]
/-! ### the three sands -/
def sillUp (s : Sands) (i : Nat) (k : Int) : List Sill := s.sills.set i ⟨(s.sills.getD i default).a, (s.sills.getD i default).b, (s.sills.getD i default).h + k⟩
theorem getD_setS {α : Type} {l : List α} {d x : α} {i j : Nat} : (l.set i x).getD j d = if i = j ∧ j < l.length then x else l.getD j d := by
  simp only [List.getD_eq_getElem?_getD, List.getElem?_set]
  by_cases h : i = j
  · subst h
    by_cases h2 : i < l.length
    · simp [h2]
    · simp [h2]
  · simp [h]
theorem sillUp_up {s : Sands} {i : Nat} {k : Int} (hk : 0 ≤ k) : Up s ⟨s.table, s.wind, s.floors, sillUp s i k⟩ := by
  refine ⟨rfl, by simp [sillUp], fun _ _ => Int.le_refl _, fun j hj => ?_, fun j hj => ?_, fun j hj => ?_⟩
  all_goals
    simp only [sillUp]
    rw [getD_setS]
    split
    · rename_i h
      obtain ⟨rfl, _⟩ := h
      first | rfl | (simp only; omega)
    · first | rfl | omega
theorem floorUp_up {s : Sands} {i : Nat} {k : Int} (hk : 0 ≤ k) : Up s ⟨s.table, s.wind, s.floors.set i (s.floors.getD i 0 + k), s.sills⟩ := by
  refine ⟨by simp, rfl, fun j hj => ?_, fun _ _ => rfl, fun _ _ => rfl, fun _ _ => Int.le_refl _⟩
  simp only
  rw [getD_setS]
  split
  · rename_i h
    obtain ⟨rfl, _⟩ := h
    omega
  · omega
theorem made_sh {s : Sands} (hM : MadeOK 6 9 s) : ∀ j, j < s.sills.length → 0 ≤ (s.sills.getD j default).h ∧ (s.sills.getD j default).h ≤ 50 := fun j hj => by
  have := hM.sil _ (mem_getD (d := (default : Sill)) hj)
  exact ⟨this.2.2.2.1, this.2.2.2.2⟩
theorem made_fh {s : Sands} (hM : MadeOK 6 9 s) : ∀ j, j < s.floors.length → 0 ≤ s.floors.getD j 0 ∧ s.floors.getD j 0 ≤ 50 := fun j hj => hM.flo _ (mem_getD (d := (0 : Int)) hj)
theorem sillUp_good {s : Sands} (hM : MadeOK 6 9 s) (hG : Good s) {i : Nat} {k : Int} (hk : 0 ≤ k ∧ k ≤ 29) : Good ⟨s.table, s.wind, s.floors, sillUp s i k⟩ := by
  have hu := sillUp_up (s := s) (i := i) hk.1
  have hl : (sillUp s i k).length = s.sills.length := by simp [sillUp]
  refine ⟨hG.tl, hG.fl, by rw [hl]; exact hG.sl, hG.tab, hG.lo, hG.hi, hG.flo, fun j hj => ?_, hG.inc, hG.wind, fun j hj => ?_, fun j hj => ?_, fun j hj => ?_⟩
  · have hj' : j < s.sills.length := by simpa [sillUp] using hj
    have h1 := made_sh hM j hj'
    simp only [sillUp]
    rw [getD_setS]
    split
    · rename_i h
      obtain ⟨rfl, _⟩ := h
      simp only; omega
    · omega
  · have hj' : j < s.sills.length := by simpa [sillUp] using hj
    have := hu.sa j hj'
    rw [this]; exact hG.sa j hj'
  · have hj' : j < s.sills.length := by simpa [sillUp] using hj
    have := hu.sb j hj'
    rw [this]; exact hG.sb j hj'
  · have hj' : j < s.sills.length := by simpa [sillUp] using hj
    have h1 := hu.sa j hj'
    have h2 := hu.sb j hj'
    rw [h1, h2]; exact hG.ne j hj'
theorem floorUp_good {s : Sands} (hM : MadeOK 6 9 s) (hG : Good s) {i : Nat} {k : Int} (hk : 0 ≤ k ∧ k ≤ 29) : Good ⟨s.table, s.wind, s.floors.set i (s.floors.getD i 0 + k), s.sills⟩ := by
  refine ⟨hG.tl, by simpa using hG.fl, hG.sl, hG.tab, hG.lo, hG.hi, fun j hj => ?_, hG.sh, hG.inc, hG.wind, fun j hj => by simpa using hG.sa j hj, fun j hj => by simpa using hG.sb j hj, hG.ne⟩
  have hj' : j < s.floors.length := by simpa using hj
  have h1 := made_fh hM j hj'
  simp only
  rw [getD_setS]
  split
  · rename_i h
    obtain ⟨rfl, _⟩ := h
    omega
  · omega
theorem more_good {s : Sands} (hM : MadeOK 6 9 s) (hG : Good s) {b h : Int} (hb : 0 ≤ b ∧ b < s.floors.length) (hh : 0 ≤ h ∧ h ≤ 59) : Good ⟨s.table, s.wind, s.floors, s.sills ++ [⟨-1, b, h⟩]⟩ := by
  have hsl := hM.sl
  refine ⟨hG.tl, hG.fl, by simp only [List.length_append, List.length_singleton]; omega, hG.tab, hG.lo, hG.hi, hG.flo, fun j hj => ?_, hG.inc, hG.wind, fun j hj => ?_, fun j hj => ?_, fun j hj => ?_⟩
  all_goals
    simp only [List.length_append, List.length_singleton] at hj
    simp only
    rw [getD_snoc]
    by_cases h1 : j < s.sills.length
    · rw [if_pos h1]
      first | exact hG.sh j h1 | exact hG.sa j h1 | exact hG.sb j h1 | exact hG.ne j h1
    · rw [if_neg h1, if_pos (by omega)]
      simp only
      omega
theorem more_reach {s : Sands} {x : Sill} {h q : Int} (r : Go.Pl.Reach s h q) : Go.Pl.Reach ⟨s.table, s.wind, s.floors, s.sills ++ [x]⟩ h q := by
  induction r with
  | sea => exact .sea
  | step hp hx hj hq h1 h2 ih => exact .step ih (List.mem_append_left _ hx) hj hq h1 h2
end Go.Proofs.Wk

namespace Go.Proofs.Wk
open Go Go.Gx Go.Pl
set_option linter.unusedVariables false
theorem all_snd {s : Sands} (hG : Good s) {m : Int} (hd : dayF s m = true) : (AllR s m).2 = 0 ∧ (AllR s m).1.length = s.floors.length := by
  rw [all_good hG hd]
  simp
theorem loop_past {f : Int → Option (Int ⊕ (Unit ⊕ Bool))} (n : Nat) (h1 : ∀ k : Nat, k < n → f (k : Int) = some (.inl ((k : Int) + 1))) (h2 : f (n : Int) = some (.inr (.inl ()))) (hn : n < 1000000) : iterM FU f 0 = some (.inl ()) := by
  have key := iterM_any0 (f := f) n (fun _ => false) false (fun k hk => by rw [h1 k hk]; rfl) h2 (N := FU) (FU_lt (by omega))
  have : (List.range n).any (fun _ => false) = false := by simp
  rw [key, this, if_neg (by decide)]
/-- the raised sill -/
theorem higher_sill {s : Sands} (hM : MadeOK 6 9 s) {which much : Int} (hw : 0 ≤ which ∧ which ≤ 255) (hm : 0 ≤ much ∧ much ≤ 255) :
    ∃ o1, (if 0 < (s.sills.length : Int) then
      ((remc (IntKind.i64.wrap which) (s.sills.length : Int)).bind fun t47 =>
      (ix s.sills t47).bind fun t48 =>
      (remc (IntKind.i64.wrap much) 30).bind fun t53 =>
      (addc t48.h t53).bind fun t54 =>
      (ix s.sills t47).bind fun t55 =>
      (some (s.sills.set (Int.toNat t47) (⟨t55.a, t55.b, t54⟩ : Sill))).bind fun sill11_sills =>
      some sill11_sills) else
      (some s.sills)) = some o1 ∧ Up s ⟨s.table, s.wind, s.floors, o1⟩ ∧ Good ⟨s.table, s.wind, s.floors, o1⟩ := by
  have hG := MadeOK.good hM (by omega) (by omega)
  have hsl := hM.sl
  have h1 := Int.tmod_nonneg 30 (show (0 : Int) ≤ much by omega)
  have h2 := Int.tmod_lt_of_pos much (show (0 : Int) < 30 by omega)
  by_cases h : 0 < (s.sills.length : Int)
  · rw [if_pos h]
    have h3 := Int.tmod_nonneg (s.sills.length : Int) (show (0 : Int) ≤ which by omega)
    have h4 := Int.tmod_lt_of_pos which h
    rw [Go.Fw.wrap_i64 (by omega), remc_eq (by omega), Option.bind_some]
    generalize which.tmod (s.sills.length : Int) = i at h3 h4
    have hb := made_sh hM i.toNat (by omega)
    rw [ix_eq default h3 h4, Option.bind_some, Go.Fw.wrap_i64 (by omega), remc_eq (by omega), Option.bind_some, addc_eq (by omega), Option.bind_some, Option.bind_some, Option.bind_some]
    exact ⟨_, rfl, sillUp_up (s := s) (i := i.toNat) h1, sillUp_good hM hG (i := i.toNat) ⟨h1, by omega⟩⟩
  · rw [if_neg h]
    exact ⟨_, rfl, ⟨rfl, rfl, fun _ _ => Int.le_refl _, fun _ _ => rfl, fun _ _ => rfl, fun _ _ => Int.le_refl _⟩, hG⟩
theorem day_tw {s t : Sands} (e1 : t.table = s.table) {m : Int} (hd : dayF s m = true) : dayF t m = true := by
  unfold dayF firstM lastM at hd ⊢
  rw [e1]; exact hd
/-- TideHigher is true of all bytes -/
theorem higher_true {l : List Int} {which much when_ : Int} (hl : l.length ≤ 9223372036854775807) (hw : 0 ≤ which ∧ which ≤ 255) (ha : 0 ≤ much ∧ much ≤ 255) (hn : 0 ≤ when_ ∧ when_ ≤ 255) : m_laurellaw01_TideHigher l which much when_ = some true := by
  unfold m_laurellaw01_TideHigher
  obtain ⟨o, ho, hM, _⟩ := made_ok (r := 0) hl (p := 0) ⟨Int.le_refl _, .inr rfl⟩ (pl := 6) (sl := 9) (by omega) (by omega)
  have hG := MadeOK.good hM (by omega) (by omega)
  have hS := Good.short hG
  have htl := hG.tl
  have hfl := hG.fl
  have hds := day_span hG
  have hsl := hM.sl
  rw [pile_eq', Option.bind_some, ho, Option.bind_some, own_eq hS, Option.bind_some, Option.bind_some, Option.bind_some, Option.bind_some]
  dsimp only
  obtain ⟨o1, ho1, hu1, hg1⟩ := higher_sill hM hw ha
  rw [ho1, Option.bind_some]
  obtain ⟨i, hi, hi1, hi2⟩ := place_in hG (k := which) hw
  have hfb := made_fh hM i.toNat (by omega)
  have h1 := Int.tmod_nonneg 30 (show (0 : Int) ≤ much by omega)
  have h2 := Int.tmod_lt_of_pos much (show (0 : Int) < 30 by omega)
  have h3 := Int.tmod_nonneg 60 (show (0 : Int) ≤ much by omega)
  have h4 := Int.tmod_lt_of_pos much (show (0 : Int) < 60 by omega)
  have hmw : IntKind.i64.wrap much = much := Go.Fw.wrap_i64 (by omega)
  rw [hi, Option.bind_some, ix_eq 0 hi1 hi2, Option.bind_some, hmw, remc_eq (b := 30) (by omega), Option.bind_some, addc_eq (by omega), Option.bind_some, Option.bind_some, Option.bind_some, Option.bind_some, remc_eq (b := 60) (by omega), Option.bind_some, appc_eq (by simp only [List.length_singleton]; omega), Option.bind_some]
  obtain ⟨t, ht, ht1, ht2, ht3⟩ := minute_in hG (k := when_) hn
  rw [lawfirst_eq (by omega), Option.bind_some, lawlast_eq hS (by omega), Option.bind_some, Option.bind_some, subc_eq (by omega), Option.bind_some, addc_eq (by omega), Option.bind_some, ht, Option.bind_some, addc_eq (by omega), Option.bind_some]
  have hd : dayF o.r0 (firstM o.r0 + t) = true := by simp only [dayF, inr_iff]; omega
  generalize firstM o.r0 + t = m at hd
  have hu2 := floorUp_up (s := o.r0) (i := i.toNat) h1
  have hg2 := floorUp_good hM hG (i := i.toNat) (k := much.tmod 30) ⟨h1, by omega⟩
  have hg3 := more_good hM hG (b := i) (h := much.tmod 60) ⟨hi1, hi2⟩ ⟨h3, by omega⟩
  have hr3 := fun h q r => more_reach (s := o.r0) (x := ⟨-1, i, much.tmod 60⟩) (h := h) (q := q) r
  generalize e1 : (⟨o.r0.table, o.r0.wind, o.r0.floors, o1⟩ : Sands) = s1 at hu1 hg1
  generalize e2 : (⟨o.r0.table, o.r0.wind, o.r0.floors.set i.toNat (o.r0.floors.getD i.toNat 0 + much.tmod 30), o.r0.sills⟩ : Sands) = s2 at hu2 hg2
  generalize e3 : (⟨o.r0.table, o.r0.wind, o.r0.floors, o.r0.sills ++ [⟨-1, i, much.tmod 60⟩]⟩ : Sands) = s3 at hg3 hr3
  have a1 : s1.table = o.r0.table ∧ s1.wind = o.r0.wind := by rw [← e1]; exact ⟨rfl, rfl⟩
  have a2 : s2.table = o.r0.table ∧ s2.wind = o.r0.wind := by rw [← e2]; exact ⟨rfl, rfl⟩
  have a3 : s3.table = o.r0.table ∧ s3.wind = o.r0.wind ∧ s3.floors.length = o.r0.floors.length := by rw [← e3]; exact ⟨rfl, rfl, rfl⟩
  obtain ⟨b0, b1⟩ := all_snd hG hd
  obtain ⟨c0, c1⟩ := all_snd hg1 (day_tw a1.1 hd)
  obtain ⟨d0, d1⟩ := all_snd hg2 (day_tw a2.1 hd)
  obtain ⟨f0, f1⟩ := all_snd hg3 (day_tw a3.1 hd)
  have g1 := hu1.fl
  have g2 := hu2.fl
  have g3 := a3.2.2
  have L0 : iterM FU (m_laurellaw01_TideHigher_L0 o ⟨o.r0, o.r0, o.r0⟩ o1 (AllR s1 m) (AllR o.r0 m)) 0 = some (.inl ()) := by
    refine loop_past o.r0.floors.length (fun k hk => ?_) ?_ (by omega)
    · unfold m_laurellaw01_TideHigher_L0
      dsimp only
      rw [if_pos (by omega), e1, raise_body hG hg1 hu1 a1.1 a1.2 (isPlace_iff.2 ⟨by omega, by omega⟩) hd, if_neg (by decide), addc_eq (by omega), Option.bind_some]
    · unfold m_laurellaw01_TideHigher_L0
      rw [if_neg (by omega)]
  have L1 : iterM FU (m_laurellaw01_TideHigher_L1 o ⟨o.r0, o.r0, o.r0⟩ (o.r0.floors.set i.toNat (o.r0.floors.getD i.toNat 0 + much.tmod 30)) (AllR s2 m) (AllR o.r0 m)) 0 = some (.inl ()) := by
    refine loop_past o.r0.floors.length (fun k hk => ?_) ?_ (by omega)
    · unfold m_laurellaw01_TideHigher_L1
      dsimp only
      rw [if_pos (by omega), e2, raise_body hG hg2 hu2 a2.1 a2.2 (isPlace_iff.2 ⟨by omega, by omega⟩) hd, if_neg (by decide), addc_eq (by omega), Option.bind_some]
    · unfold m_laurellaw01_TideHigher_L1
      rw [if_neg (by omega)]
  have L2 : iterM FU (m_laurellaw01_TideHigher_L2 o ⟨o.r0, o.r0, o.r0⟩ (o.r0.sills ++ [⟨-1, i, much.tmod 60⟩]) (AllR s3 m) (AllR o.r0 m)) 0 = some (.inl ()) := by
    refine loop_past o.r0.floors.length (fun k hk => ?_) ?_ (by omega)
    · unfold m_laurellaw01_TideHigher_L2
      dsimp only
      rw [if_pos (by omega), e3, more_body hG hg3 g3 hr3 a3.1 a3.2.1 (isPlace_iff.2 ⟨by omega, by omega⟩) hd, if_neg (by decide), addc_eq (by omega), Option.bind_some]
    · unfold m_laurellaw01_TideHigher_L2
      rw [if_neg (by omega)]
  have q0 : (!decide (((AllR o.r0 m).1.length : Int) = (o.r0.floors.length : Int))) = false := by simp [b1]
  have q1 : (!decide (((AllR s1 m).1.length : Int) = ((AllR o.r0 m).1.length : Int))) = false := by simp [b1, c1, g1]
  have q2 : (!decide (((AllR s2 m).1.length : Int) = ((AllR o.r0 m).1.length : Int))) = false := by simp [b1, d1, g2]
  have q3 : (!decide (((AllR s3 m).1.length : Int) = ((AllR o.r0 m).1.length : Int))) = false := by simp [b1, f1, g3]
  rw [x_All_eq hS, Option.bind_some, if_pos b0, q0, Option.bind_some, if_neg (by decide)]
  rw [x_All_eq (Good.short hg1), Option.bind_some, if_pos c0, q1, Option.bind_some, if_neg (by decide), L0, Option.bind_some]
  unfold oc
  simp only
  rw [x_All_eq (Good.short hg2), Option.bind_some, if_pos d0, q2, Option.bind_some, if_neg (by decide), L1, Option.bind_some]
  simp only
  rw [x_All_eq (Good.short hg3), Option.bind_some, if_pos f0, q3, Option.bind_some, if_neg (by decide), L2, Option.bind_some]
  simp only
  rw [x_awake_eq, Option.bind_some]
end Go.Proofs.Wk

namespace Go.Gx
open Go Go.Fw Go.RowKit
/-! ### arguments, as they come in -/
section
variable {H : Type} {enc : TypeId × Value → H} {P : Program} {w : World} {base : Nat} {sp : Nat → Bool} {held : Bool}
/-- what of this type comes in is, cell by cell, a value of this row -/
def Opens (enc : TypeId × Value → H) (P : Program) (w : World) (base : Nat) (sp : Nat → Bool) (held : Bool) {α : Type} (R : Row α) (wf : α → Prop) (t : TypeId) : Prop :=
  ∀ fuel cs x, DataW.trod enc P w base sp held fuel t cs = some x → ∃ a, cs = R.cells a ∧ wf a
def i64P (n : Int) : Prop := -9223372036854775808 ≤ n ∧ n ≤ 9223372036854775807
theorem wf_i64P {n : Int} (h : (Lit.int .i64 n).wf = true) : i64P n := by
  simp [Lit.wf, IntKind.min, IntKind.max, IntKind.signed, IntKind.bits] at h
  unfold i64P; omega
def u8P (n : Int) : Prop := 0 ≤ n ∧ n ≤ 255
theorem wf_u8P {n : Int} (h : (Lit.int .u8 n).wf = true) : u8P n := by
  simp [Lit.wf, IntKind.min, IntKind.max, IntKind.signed, IntKind.bits] at h
  unfold u8P; omega
theorem opens_i64 {t : TypeId} (ht : P.underlying t = some (.int .i64)) : Opens enc P w base sp held RI i64P t := fun fuel cs x h => by
  obtain ⟨n, rfl, _, hw⟩ := DataW.trod_int ht h
  exact ⟨n, rfl, wf_i64P hw⟩
theorem opens_u8 {t : TypeId} (ht : P.underlying t = some (.int .u8)) : Opens enc P w base sp held RU8 u8P t := fun fuel cs x h => by
  obtain ⟨n, rfl, _, hw⟩ := DataW.trod_int ht h
  exact ⟨n, rfl, wf_u8P hw⟩
theorem opens_bool {t : TypeId} (ht : P.underlying t = some .bool) : Opens enc P w base sp held RB (fun _ => True) t := fun fuel cs x h => by
  obtain ⟨b, rfl, _⟩ := DataW.trod_bool ht h
  exact ⟨b, rfl, trivial⟩
/-- a field of a struct, by its cells -/
theorem fieldAt {fs : Array Field} {t : TypeId} {fuel : Nat} {cs : List Value} {x : DataW H × List MemPlace} (ht : P.underlying t = some (.struct fs)) (h : DataW.trod enc P w base sp held fuel t cs = some x) {α : Type} {R : Row α} {wf : α → Prop} (i : Nat) {T o k : Nat}
    (hf : (fs[i]?).map (fun fd => (fd.type, fd.offset)) = some (T, o)) (hk : P.cellsOf T = k) (hR : Opens enc P w base sp held R wf T) : ∃ a, (cs.drop o).take k = R.cells a ∧ wf a := by
  obtain ⟨xs, n, rfl, _, hlen, hxl, hx⟩ := DataW.trod_struct ht h
  obtain ⟨fd, hfd, he⟩ : ∃ fd, fs[i]? = some fd ∧ (fd.type, fd.offset) = (T, o) := by
    cases hh : fs[i]? with
    | none => simp [hh] at hf
    | some fd => exact ⟨fd, rfl, by simpa [hh] using hf⟩
  simp only [Prod.mk.injEq] at he
  obtain ⟨rfl, rfl⟩ := he
  have h1 := hx i fd hfd
  rw [hk] at h1
  have hi : i < xs.length := by rw [hxl]; exact (Array.getElem?_eq_some_iff.1 hfd).1
  rw [List.getElem?_eq_getElem hi] at h1
  exact hR _ _ _ h1
theorem structLen {fs : Array Field} {t : TypeId} {fuel : Nat} {cs : List Value} {x : DataW H × List MemPlace} (ht : P.underlying t = some (.struct fs)) (h : DataW.trod enc P w base sp held fuel t cs = some x) : cs.length = P.cellsOf t := by
  obtain ⟨xs, n, _, _, hlen, _⟩ := DataW.trod_struct ht h
  exact hlen
/-- a slice that came in -/
structure SlIn {α : Type} (R : Row α) (wf : α → Prop) (w : World) (v : Value) (A : Option Addr) (n c : Nat) (l : List α) : Prop where
  val : v = .slice A n c
  len : l.length = n
  ok : AOK n A
  le : n ≤ c
  max : c ≤ maxLen
  seg : segOK w (aB A, aO A, R.enc l)
  wf : ∀ x, x ∈ l → wf x
theorem choose_list {α : Type} {p : Nat → α → Prop} : ∀ (n : Nat), (∀ i, i < n → ∃ a, p i a) → ∃ l : List α, l.length = n ∧ ∀ i (h : i < l.length), p i l[i]
  | 0, _ => ⟨[], rfl, fun i h => by simp at h⟩
  | n + 1, h => by
    obtain ⟨l, hl, hp⟩ := choose_list n (fun i hi => h i (by omega))
    obtain ⟨a, ha⟩ := h n (by omega)
    refine ⟨l ++ [a], by simp [hl], fun i hi => ?_⟩
    by_cases hil : i < l.length
    · rw [List.getElem_append_left hil]; exact hp i hil
    · have : i = l.length := by simp at hi; omega
      subst this
      rw [List.getElem_append_right (by omega)]
      simp only [Nat.sub_self, List.getElem_cons_zero]
      rw [hl]; exact ha
theorem openSl {α : Type} {R : Row α} {wf : α → Prop} {t e : TypeId} (ht : P.underlying t = some (.slice e)) (hc : P.cellsOf e = R.sz) (hR : Opens enc P w base sp held R wf e) (h0 : Nat.blt 0 R.sz = true)
    {fuel : Nat} {cs : List Value} {x : DataW H × List MemPlace} (h : DataW.trod enc P w base sp held fuel t cs = some x) : ∃ (v : Value) (A : Option Addr) (n c : Nat) (l : List α), cs = [v] ∧ SlIn R wf w v A n c l := by
  have hsz : 0 < R.sz := by simpa using h0
  rcases Go.Deep.open_slice ht h with ⟨rfl, _⟩ | ⟨a, len, cap, m, n, D, Pl, rfl, hb, hl, hm, hmm, _, hi⟩
  · exact ⟨_, none, 0, 0, [], rfl, rfl, rfl, AOK.nil, Nat.le_refl _, Nat.zero_le _, segOK.nil, by simp⟩
  · have hlm : len ≤ m := by rw [hmm]; split <;> omega
    have hcell : ∀ i, i < len → ∃ x : α, (∀ f (hf : f < (R.cells x).length), w.cell? (a.add (i * R.sz + f)) = some (R.cells x)[f]) ∧ wf x := fun i hil => by
      obtain ⟨cs', h1, h2⟩ := hi i (by omega)
      obtain ⟨x, rfl, hw⟩ := hR _ _ _ h2
      obtain ⟨_, _, hat⟩ := World.cells?_some h1
      refine ⟨x, fun f hf => ?_, hw⟩
      have := hat f (by rw [hc, ← R.len x]; exact hf)
      rw [hc] at this
      rw [List.getElem?_eq_getElem hf] at this
      have e : (a.add (i * R.sz)).add f = a.add (i * R.sz + f) := by
        unfold Addr.add
        by_cases h1 : i * R.sz = 0
        · simp [h1]
        · by_cases h2 : f = 0
          · simp [h2]
          · simp [h1, h2, Nat.add_assoc]
      rw [e] at this
      exact this
    obtain ⟨l, hll, hlp⟩ := choose_list len hcell
    have hspot : 0 < len → a.spot = none := fun h0 => by
      obtain ⟨x, hx, _⟩ := hcell 0 h0
      have := World.cell?_spot (hx 0 (by rw [R.len]; exact hsz))
      simpa [Addr.add] using this
    refine ⟨_, some a, len, cap, l, rfl, rfl, hll, fun h0 => ?_, hl, hm, fun j hj => ?_, fun x hx => ?_⟩
    · obtain ⟨b, o, s⟩ := a
      have := hspot h0
      simp only at this
      subst this
      exact ⟨b, o, rfl⟩
    · have hj' : j < l.length * R.sz := by rw [← R.enc_len]; exact hj
      have hpos : 0 < len := by
        rcases Nat.eq_zero_or_pos len with h | h
        · rw [hll, h, Nat.zero_mul] at hj'; omega
        · exact h
      obtain ⟨b, o, s⟩ := a
      have hs := hspot hpos
      simp only at hs
      subst hs
      have hq : j / R.sz < l.length := Nat.div_lt_of_lt_mul (by rw [Nat.mul_comm]; exact hj')
      have hr : j % R.sz < R.sz := Nat.mod_lt _ hsz
      have hd : j / R.sz * R.sz + j % R.sz = j := by rw [Nat.mul_comm]; exact Nat.div_add_mod j R.sz
      have h1 := (hlp (j / R.sz) hq).1 (j % R.sz) (by rw [R.len]; exact hr)
      rw [hd] at h1
      have h2 := R.enc_get l (j / R.sz) (j % R.sz) l[j / R.sz] (List.getElem?_eq_getElem hq) hr
      rw [hd] at h2
      have h3 : (⟨b, o, none⟩ : Addr).add j = ⟨b, o + j, none⟩ := addr_add b o j
      rw [h3] at h1
      simp only [aB, aO, Option.map_some, Option.getD_some]
      rw [h1, ← List.getElem?_eq_getElem, ← h2, List.getElem?_eq_getElem hj]
    · obtain ⟨i, hi', rfl⟩ := List.getElem_of_mem hx
      exact (hlp i hi').2
theorem fieldSl {fs : Array Field} {t : TypeId} {fuel : Nat} {cs : List Value} {x : DataW H × List MemPlace} (ht : P.underlying t = some (.struct fs)) (h : DataW.trod enc P w base sp held fuel t cs = some x) {α : Type} {R : Row α} {wf : α → Prop} (i : Nat) {T o e : Nat}
    (hf : (fs[i]?).map (fun fd => (fd.type, fd.offset)) = some (T, o)) (hk : P.cellsOf T = 1) (hT : P.underlying T = some (.slice e)) (hc : P.cellsOf e = R.sz) (hR : Opens enc P w base sp held R wf e) (h0 : Nat.blt 0 R.sz = true) :
    ∃ (v : Value) (A : Option Addr) (n c : Nat) (l : List α), (cs.drop o).take 1 = [v] ∧ SlIn R wf w v A n c l := by
  obtain ⟨xs, m, rfl, _, hlen, hxl, hx⟩ := DataW.trod_struct ht h
  obtain ⟨fd, hfd, he⟩ : ∃ fd, fs[i]? = some fd ∧ (fd.type, fd.offset) = (T, o) := by
    cases hh : fs[i]? with
    | none => simp [hh] at hf
    | some fd => exact ⟨fd, rfl, by simpa [hh] using hf⟩
  simp only [Prod.mk.injEq] at he
  obtain ⟨rfl, rfl⟩ := he
  have h1 := hx i fd hfd
  rw [hk] at h1
  have hi : i < xs.length := by rw [hxl]; exact (Array.getElem?_eq_some_iff.1 hfd).1
  rw [List.getElem?_eq_getElem hi] at h1
  exact openSl hT hc hR h0 h1
theorem HV.begin {ro : List Sg} (h : ∀ s, s ∈ ro → segOK w s) : HV w (keys [] []) [] [] ro w :=
  ⟨rfl, rfl, rfl, Nat.le_refl _, fun _ _ _ => rfl, by simp [vbl], by simp [vbl], by simp [vbl], h, by simp [vbl]⟩
theorem segCons {s : Sg} {ro : List Sg} (h : segOK w s) (hr : ∀ t, t ∈ ro → segOK w t) : ∀ t, t ∈ s :: ro → segOK w t := fun t ht => by
  rcases List.mem_cons.1 ht with rfl | ht
  · exact h
  · exact hr t ht
theorem segNil : ∀ t, t ∈ ([] : List Sg) → segOK w t := fun t ht => by cases ht
theorem HV.below {w' : World} (h : HV w (keys [] []) [] [] [] w') : Below w.heap.size w w' := by
  have : Ext [] w w' := HS.toExt h
  exact this.below
end
end Go.Gx

namespace Go.Proofs.Wk
open Go Go.Fw Go.Gx Go.Pl Go.RowKit
section
variable {H : Type} {enc : TypeId × Value → H} {w : World} {base : Nat} {sp : Nat → Bool} {held : Bool}
theorem list2 {α : Type} {cs : List α} {a b : α} (hl : cs.length = 2) (h0 : (cs.drop 0).take 1 = [a]) (h1 : (cs.drop 1).take 1 = [b]) : cs = [a, b] := by
  match cs, hl with
  | [x, y], _ => simp at h0 h1; simp [h0, h1]
theorem list3 {α : Type} {cs : List α} {a b c : α} (hl : cs.length = 3) (h0 : (cs.drop 0).take 1 = [a]) (h1 : (cs.drop 1).take 1 = [b]) (h2 : (cs.drop 2).take 1 = [c]) : cs = [a, b, c] := by
  match cs, hl with
  | [x, y, z], _ => simp at h0 h1 h2; simp [h0, h1, h2]
theorem list5 {α : Type} {cs : List α} {a b c d e : α} (hl : cs.length = 5) (h0 : (cs.drop 0).take 1 = [a]) (h1 : (cs.drop 1).take 2 = [b, c]) (h2 : (cs.drop 3).take 1 = [d]) (h3 : (cs.drop 4).take 1 = [e]) : cs = [a, b, c, d, e] := by
  match cs, hl with
  | [x, y, z, u, v], _ => simp at h0 h1 h2 h3; simp [h0, h1, h2, h3]
theorem opI : Opens enc Try.prog w base sp held RI i64P 3 := opens_i64 Try.underlying3
theorem opB : Opens enc Try.prog w base sp held RB (fun _ => True) 4 := opens_bool Try.underlying4
set_option maxRecDepth 100000 in
theorem opWater : Opens enc Try.prog w base sp held RW (fun x => i64P x.min ∧ i64P x.h) 68 := fun fuel cs x h => by
  obtain ⟨a, ha, wa⟩ := fieldAt Try.underlying68 h 0 (T := 3) (o := 0) (k := 1) rfl (by kernel_rfl) opI
  obtain ⟨b, hb, wb⟩ := fieldAt Try.underlying68 h 1 (T := 3) (o := 1) (k := 1) rfl (by kernel_rfl) opI
  have hl := structLen Try.underlying68 h
  rw [show Try.prog.cellsOf 68 = 2 by kernel_rfl] at hl
  exact ⟨⟨a, b⟩, list2 hl ha hb, wa, wb⟩
set_option maxRecDepth 100000 in
theorem opSill : Opens enc Try.prog w base sp held RS (fun x => i64P x.a ∧ i64P x.b ∧ i64P x.h) 51 := fun fuel cs x h => by
  obtain ⟨a, ha, wa⟩ := fieldAt Try.underlying51 h 0 (T := 3) (o := 0) (k := 1) rfl (by kernel_rfl) opI
  obtain ⟨b, hb, wb⟩ := fieldAt Try.underlying51 h 1 (T := 3) (o := 1) (k := 1) rfl (by kernel_rfl) opI
  obtain ⟨c, hc, wc⟩ := fieldAt Try.underlying51 h 2 (T := 3) (o := 2) (k := 1) rfl (by kernel_rfl) opI
  have hl := structLen Try.underlying51 h
  rw [show Try.prog.cellsOf 51 = 3 by kernel_rfl] at hl
  exact ⟨⟨a, b, c⟩, list3 hl ha hb hc, wa, wb, wc⟩
set_option maxRecDepth 100000 in
theorem opSpan : Opens enc Try.prog w base sp held RP (fun x => i64P x.lo ∧ i64P x.hi) 25 := fun fuel cs x h => by
  obtain ⟨a, ha, wa⟩ := fieldAt Try.underlying25 h 0 (T := 3) (o := 0) (k := 1) rfl (by kernel_rfl) opI
  obtain ⟨b, hb, wb⟩ := fieldAt Try.underlying25 h 1 (T := 3) (o := 1) (k := 1) rfl (by kernel_rfl) opI
  have hl := structLen Try.underlying25 h
  rw [show Try.prog.cellsOf 25 = 2 by kernel_rfl] at hl
  exact ⟨⟨a, b⟩, list2 hl ha hb, wa, wb⟩
set_option maxRecDepth 100000 in
theorem opLook : Opens enc Try.prog w base sp held RL (fun x => i64P x.min ∧ i64P x.place) 89 := fun fuel cs x h => by
  obtain ⟨a, ha, wa⟩ := fieldAt Try.underlying89 h 0 (T := 3) (o := 0) (k := 1) rfl (by kernel_rfl) opI
  obtain ⟨b, hb, wb⟩ := fieldAt Try.underlying89 h 1 (T := 3) (o := 1) (k := 1) rfl (by kernel_rfl) opI
  obtain ⟨c, hc, _⟩ := fieldAt Try.underlying89 h 2 (T := 4) (o := 2) (k := 1) rfl (by kernel_rfl) opB
  have hl := structLen Try.underlying89 h
  rw [show Try.prog.cellsOf 89 = 3 by kernel_rfl] at hl
  exact ⟨⟨a, b, c⟩, list3 hl ha hb hc, wa, wb⟩
/-- numbers that are numbers of the machine -/
structure WfS (s : Sands) : Prop where
  t : ∀ x, x ∈ s.table → i64P x.min ∧ i64P x.h
  lo : i64P s.wind.lo
  hi : i64P s.wind.hi
  f : ∀ x, x ∈ s.floors → i64P x
  s : ∀ x, x ∈ s.sills → i64P x.a ∧ i64P x.b ∧ i64P x.h
set_option maxRecDepth 100000 in
theorem opSands {fuel : Nat} {cs : List Value} {x : DataW H × List MemPlace} (h : DataW.trod enc Try.prog w base sp held fuel 29 cs = some x) :
    ∃ (s : Sands) (A1 A2 A3 : Option Addr) (n1 c1 n2 c2 n3 c3 : Nat) (v1 v2 v3 : Value), cs = [.slice A1 n1 c1, .int .i64 s.wind.lo, .int .i64 s.wind.hi, .slice A2 n2 c2, .slice A3 n3 c3] ∧
      SlIn RW (fun x => i64P x.min ∧ i64P x.h) w v1 A1 n1 c1 s.table ∧ SlIn RI i64P w v2 A2 n2 c2 s.floors ∧ SlIn RS (fun x => i64P x.a ∧ i64P x.b ∧ i64P x.h) w v3 A3 n3 c3 s.sills ∧ WfS s := by
  obtain ⟨v1, A1, n1, c1, l1, e1, h1⟩ := fieldSl Try.underlying29 h 0 (T := 23) (o := 0) (e := 68) rfl (by kernel_rfl) Try.underlying23 (by kernel_rfl) opWater rfl
  obtain ⟨p, ep, wp⟩ := fieldAt Try.underlying29 h 1 (T := 25) (o := 1) (k := 2) rfl (by kernel_rfl) opSpan
  obtain ⟨v2, A2, n2, c2, l2, e2, h2⟩ := fieldSl Try.underlying29 h 2 (T := 26) (o := 3) (e := 3) rfl (by kernel_rfl) Try.underlying26 (by kernel_rfl) opI rfl
  obtain ⟨v3, A3, n3, c3, l3, e3, h3⟩ := fieldSl Try.underlying29 h 3 (T := 27) (o := 4) (e := 51) rfl (by kernel_rfl) Try.underlying27 (by kernel_rfl) opSill rfl
  have hl := structLen Try.underlying29 h
  rw [show Try.prog.cellsOf 29 = 5 by kernel_rfl] at hl
  have hv1 := h1.val
  have hv2 := h2.val
  have hv3 := h3.val
  subst hv1 hv2 hv3
  exact ⟨⟨l1, p, l2, l3⟩, A1, A2, A3, n1, c1, n2, c2, n3, c3, _, _, _, list5 hl e1 ep e2 e3, h1, h2, h3, h1.wf, wp.1, wp.2, h2.wf, h3.wf⟩
end
end Go.Proofs.Wk
namespace Go.Proofs.Wk
open Go Go.Gx
theorem opU8 {H : Type} {enc : TypeId × Value → H} {w : World} {base : Nat} {sp : Nat → Bool} {held : Bool} : Opens enc Try.prog w base sp held RU8 u8P 5 := opens_u8 Try.underlying5
end Go.Proofs.Wk

