/- What the functions that the law BranchMirrored reaches come to, and why it holds: part 8. -/
import Derived.Test.YtpjnpibgnkgnaaaGreatBranchMirrored7
namespace Go.Proofs.Wb
open Go Go.Fw Go.Gx Go.Sb
set_option linter.unusedVariables false
set_option maxRecDepth 100000
def canB (sa : List Sand) (a b : List Int) : Bool := (List.range a.length).all fun i => inb (b.getD i (-1)) (a.getD i (-1) - rchC sa (a.getD i (-1))) (a.getD i (-1) + rchC sa (a.getD i (-1)))
def rowB (c : Channel) (l : List Int) : Bool := decide (l.length = c.fords.length) && (upB l && l.all fun x => inb x 0 (c.cells - 1))
theorem rowB_iff {c : Channel} {l : List Int} : rowB c l = true ↔ l.length = c.fords.length ∧ upB l = true ∧ ∀ x ∈ l, 0 ≤ x ∧ x < c.cells := by
  unfold rowB
  simp only [Bool.and_eq_true, decide_eq_true_eq, List.all_eq_true, inb_iff]
  constructor
  · rintro ⟨h1, h2, h3⟩; exact ⟨h1, h2, fun x hx => by have := h3 x hx; omega⟩
  · rintro ⟨h1, h2, h3⟩; exact ⟨h1, h2, fun x hx => by have := h3 x hx; omega⟩
theorem getD_mem {l : List Int} {i : Nat} {d : Int} (h : i < l.length) : l.getD i d ∈ l := by
  rw [List.getD_eq_getElem?_getD, List.getElem?_eq_getElem h]
  exact List.getElem_mem h
end Go.Proofs.Wb

namespace Go.Proofs.Wb
open Go Go.Fw Go.Gx Go.Sb
set_option linter.unusedVariables false
set_option maxRecDepth 100000
theorem cGet_mk {l : List Int} {i : Nat} (h : i < 3) : cGet (mkCells l) i = l.getD i (-1) := by
  have : i = 0 ∨ i = 1 ∨ i = 2 := by omega
  rcases this with rfl | rfl | rfl <;> rfl
theorem rch_eq {c : Channel} {x : Int} (h : 0 ≤ x ∧ x < c.cells) : rch (rchL c) x = rchC c.sands x := rchL_get h
theorem nextOK_of {c : Channel} (r : Right c) {a : List Int} (ha : rowB c a = true) {k : Int} (hk : -1000 ≤ k ∧ k ≤ 1000) : nextOK c.cells (rchL c) (c.fords.length : Int) ⟨k, mkCells a⟩ := by
  obtain ⟨h1, h2, h3⟩ := rowB_iff.1 ha
  have hc := r.cells
  have hf := r.fords
  refine ⟨by omega, by omega, hk.1, hk.2, fun i hi => ?_⟩
  rw [Int.toNat_natCast] at hi
  simp only
  rw [cGet_mk (by omega)]
  have h4 := h3 _ (getD_mem (l := a) (i := i) (d := -1) (by omega))
  have h5 := rchC_bounds (x := a.getD i (-1)) r.reach
  rw [rchL_get h4, rchL_len]
  omega
theorem can_iff {c : Channel} (r : Right c) {a l : List Int} (ha : rowB c a = true) (hl : rowB c l = true) : canB c.sands a l = true ↔ CanS c.cells (rchL c) c.fords.length (mkCells a) l := by
  obtain ⟨a1, a2, a3⟩ := rowB_iff.1 ha
  obtain ⟨l1, l2, l3⟩ := rowB_iff.1 hl
  have hf := r.fords
  unfold canB
  simp only [List.all_eq_true, List.mem_range, inb_iff]
  constructor
  · intro h
    refine ⟨l1, fun i hi => l3 _ (getD_mem (by omega)), fun i hi => ?_, fun i hi => upB_ix.1 l2 i (by omega)⟩
    rw [cGet_mk (by omega), rch_eq (a3 _ (getD_mem (by omega)))]
    exact h i (by omega)
  · intro h i hi
    have := h.near i (by omega)
    rw [cGet_mk (by omega), rch_eq (a3 _ (getD_mem (by omega)))] at this
    exact this
end Go.Proofs.Wb

namespace Go.Gx
open Go
theorem afind_none {α β : Type} [DecidableEq α] : ∀ {l : List (α × β)} {k : α} {i : Nat}, afind l k i = none ↔ ∀ p, p ∈ l → p.1 ≠ k
  | [], k, i => by simp [afind]
  | (k', v') :: r, k, i => by
    unfold afind
    by_cases h : k = k'
    · rw [if_pos h]
      constructor
      · intro h2; cases h2
      · intro h2; exact absurd h.symm (h2 (k', v') (by simp))
    · rw [if_neg h, afind_none]
      constructor
      · intro h2 p hp
        rcases List.mem_cons.1 hp with rfl | hp
        · exact fun e => h e.symm
        · exact h2 p hp
      · intro h2 p hp; exact h2 p (List.mem_cons_of_mem _ hp)
theorem aget_val {α β : Type} [DecidableEq α] : ∀ {l : List (α × β)} {k : α} {i : Nat}, (afind l k i).map (·.2) = (l.find? fun p => decide (p.1 = k)).map (·.2)
  | [], k, i => rfl
  | (k', v') :: r, k, i => by
    unfold afind
    by_cases h : k = k'
    · rw [if_pos h, List.find?_cons, decide_eq_true h.symm]; rfl
    · rw [if_neg h, aget_val (i := i + 1), List.find?_cons, decide_eq_false (fun e => h e.symm)]
theorem find_modify {α β : Type} [DecidableEq α] (v : β) (k x : α) : ∀ {l : List (α × β)} {i j : Nat} {v0 : β}, afind l k j = some (i, v0) → ((l.modify (i - j) (fun p => (p.1, v))).find? fun p => decide (p.1 = x)).map (·.2) = if x = k then some v else (l.find? fun p => decide (p.1 = x)).map (·.2)
  | [], i, j, v0, h => by cases h
  | (k', v') :: r, i, j, v0, h => by
    unfold afind at h
    by_cases hk : k = k'
    · rw [if_pos hk] at h
      cases h
      rw [Nat.sub_self, List.modify_zero_cons, List.find?_cons, List.find?_cons]
      subst hk
      by_cases hx : k = x
      · rw [decide_eq_true hx, if_pos hx.symm]; rfl
      · rw [decide_eq_false hx, if_neg (fun e => hx e.symm)]
    · rw [if_neg hk] at h
      have hle := (afind_some h).1
      have e : i - j = (i - (j + 1)) + 1 := by omega
      rw [e, List.modify_succ_cons, List.find?_cons, List.find?_cons]
      have ih := find_modify v k x h
      by_cases hx : k' = x
      · rw [decide_eq_true hx, if_neg (fun e => hk (by rw [← e, hx]))]
      · rw [decide_eq_false hx]; exact ih
theorem aget_aset {α β : Type} [DecidableEq α] (l : List (α × β)) (k x : α) (v : β) : aget (aset l k v) x = if x = k then some v else aget l x := by
  unfold aget aset
  rw [aget_val, aget_val]
  cases h : afind l k 0 with
  | none =>
    simp only
    rw [List.find?_append]
    by_cases hx : x = k
    · subst hx
      have : (l.find? fun p => decide (p.1 = x)) = none := by
        rw [List.find?_eq_none]
        intro p hp
        simpa using afind_none.1 h p hp
      rw [this, if_pos rfl]
      simp
    · rw [if_neg hx]
      have : (List.find? (fun p : α × β => decide (p.1 = x)) [(k, v)]) = none := by
        rw [List.find?_cons, decide_eq_false (fun e => hx e.symm)]; rfl
      rw [this, Option.or_none]
  | some p =>
    obtain ⟨i, v0⟩ := p
    exact find_modify v k x h
end Go.Gx
namespace Go.Proofs.Wb
open Go Go.Fw Go.Gx Go.Sb
set_option linter.unusedVariables false
abbrev ML := List (State × Int)
def fR (M : State → ML → Option (Int × ML)) (x : State) (p : Int × ML) : Option (Int × ML) := (M x p.2).bind fun q => (addc p.1 q.1).bind fun t => some (t, q.2)
structure RestEq (M : Nat → State → ML → Option (Int × ML)) (V : State → Prop) (ag : State → Bool) (nx : State → List State) (T : Int) : Prop where
  eq : ∀ fu s ml, V s → M (fu + 1) s ml = if (aget ml s).isSome = true then some ((aget ml s).getD 0, ml) else if ag s = true then (if s.after = T then some (1, aset ml s 1) else (iterL (fR (M fu)) (nx s) (0, ml)).bind fun p => some (p.1, aset p.2 s p.1)) else some (0, aset ml s 0)
  nxV : ∀ s t, V s → s.after < T → t ∈ nx s → V t ∧ t.after = s.after + 1
  le : ∀ s, V s → s.after ≤ T
  len : ∀ s, (nx s).length ≤ 1000
theorem sum_le {α : Type} (f : α → Nat) (B : Nat) : ∀ (l : List α), (∀ x ∈ l, f x ≤ B) → (l.map f).sum ≤ l.length * B
  | [], _ => by simp
  | x :: l, h => by
    rw [List.map_cons, List.sum_cons, List.length_cons, Nat.succ_mul]
    have h1 := h x List.mem_cons_self
    have h2 := sum_le f B l (fun y hy => h y (List.mem_cons_of_mem _ hy))
    omega
theorem R_le {nx : State → List State} {ag : State → Bool} (h : ∀ s, (nx s).length ≤ 1000) : ∀ k s, R nx ag k s ≤ 1000 ^ k
  | 0, s => by rw [R]; split <;> simp
  | k + 1, s => by
    rw [R]
    split
    · have h1 := sum_le (R nx ag k) (1000 ^ k) (nx s) (fun x _ => R_le h k x)
      have h2 := Nat.mul_le_mul_right (1000 ^ k) (h s)
      rw [Nat.pow_succ, Nat.mul_comm]
      omega
    · exact Nat.zero_le _
section
variable {nx : State → List State} {ag : State → Bool} {T : Int}
def valR (nx : State → List State) (ag : State → Bool) (T : Int) (s : State) : Int := (R nx ag (T - s.after).toNat s : Nat)
def Sound (nx : State → List State) (ag : State → Bool) (T : Int) (ml : ML) : Prop := ∀ x v, aget ml x = some v → v = valR nx ag T x
def Closed (nx : State → List State) (ag : State → Bool) (T : Int) (ml : ML) : Prop := ∀ x, (aget ml x).isSome = true → ag x = true → x.after < T → ∀ t ∈ nx x, (aget ml t).isSome = true
def Grows (ml ml' : ML) : Prop := ∀ x, (aget ml x).isSome = true → (aget ml' x).isSome = true
theorem Grows.trans {a b c : ML} (h : Grows a b) (h' : Grows b c) : Grows a c := fun x hx => h' x (h x hx)
theorem Sound.set {ml : ML} (h : Sound nx ag T ml) {s : State} {v : Int} (hv : v = valR nx ag T s) : Sound nx ag T (aset ml s v) := by
  intro x w hx
  rw [aget_aset] at hx
  split at hx
  · rename_i e; subst e; rw [← Option.some.inj hx]; exact hv
  · exact h x w hx
theorem Grows.set (ml : ML) (s : State) (v : Int) : Grows ml (aset ml s v) := by
  intro x hx
  rw [aget_aset]
  split
  · rfl
  · exact hx
theorem Closed.set {ml : ML} (h : Closed nx ag T ml) {s : State} {v : Int} (hs : ag s = true → s.after < T → ∀ t ∈ nx s, (aget ml t).isSome = true) : Closed nx ag T (aset ml s v) := by
  intro x hx ha hl t ht
  by_cases e : x = s
  · subst e; exact Grows.set ml x v t (hs ha hl t ht)
  · rw [aget_aset, if_neg e] at hx
    exact Grows.set ml s v t (h x hx ha hl t ht)
def Good (nx : State → List State) (ag : State → Bool) (T : Int) (ml : ML) (s : State) (r : Option (Int × ML)) : Prop := ∃ ml', r = some (valR nx ag T s, ml') ∧ Sound nx ag T ml' ∧ Closed nx ag T ml' ∧ Grows ml ml' ∧ (aget ml' s).isSome = true
theorem rest_loop {M : State → ML → Option (Int × ML)} : ∀ (l : List State) (n : Int) (ml : ML), (∀ x ∈ l, ∀ ml, Sound nx ag T ml → Closed nx ag T ml → Good nx ag T ml x (M x ml)) → 0 ≤ n → n + ((l.length : Nat) : Int) * 1000000000000 ≤ 1000000000000000 → (∀ x ∈ l, valR nx ag T x ≤ 1000000000000) → Sound nx ag T ml → Closed nx ag T ml →
    ∃ ml', iterL (fR M) l (n, ml) = some (n + ((l.map fun x => R nx ag (T - x.after).toNat x).sum : Nat), ml') ∧ Sound nx ag T ml' ∧ Closed nx ag T ml' ∧ Grows ml ml' ∧ ∀ x ∈ l, (aget ml' x).isSome = true
  | [], n, ml, _, _, _, _, hS, hC => ⟨ml, by simp [iterL], hS, hC, fun _ h => h, fun x hx => by cases hx⟩
  | x :: l, n, ml, hM, h0, hb, hv, hS, hC => by
    obtain ⟨m1, e1, s1, c1, g1, i1⟩ := hM x List.mem_cons_self ml hS hC
    have hx := hv x List.mem_cons_self
    have hx0 : 0 ≤ valR nx ag T x := Int.natCast_nonneg _
    rw [List.length_cons] at hb
    obtain ⟨m2, e2, s2, c2, g2, i2⟩ := rest_loop l (n + valR nx ag T x) m1 (fun y hy => hM y (List.mem_cons_of_mem _ hy)) (by omega) (by push_cast at hb ⊢; omega) (fun y hy => hv y (List.mem_cons_of_mem _ hy)) s1 c1
    refine ⟨m2, ?_, s2, c2, g1.trans g2, fun y hy => ?_⟩
    · rw [iterL]
      unfold fR
      simp only
      rw [e1, Option.bind_some, addc_eq (by push_cast at hb; omega), Option.bind_some, Option.bind_some]
      have := e2
      unfold fR at this
      rw [this, List.map_cons, List.sum_cons]
      unfold valR
      push_cast
      rw [Int.add_assoc]
    · rcases List.mem_cons.1 hy with rfl | hy
      · exact g2 _ i1
      · exact i2 y hy
theorem rest_spec {M : Nat → State → ML → Option (Int × ML)} {V : State → Prop} (h : RestEq M V ag nx T) (hT : 0 ≤ T ∧ T ≤ 4) : ∀ (k : Nat) (fu : Nat) (s : State) (ml : ML), V s → 0 ≤ s.after → (T - s.after).toNat = k → k < fu → Sound nx ag T ml → Closed nx ag T ml → Good nx ag T ml s (M fu s ml) := by
  intro k
  induction k with
  | zero =>
    intro fu s ml hV h0 hk hf hS hC
    obtain ⟨fu, rfl⟩ : ∃ f, fu = f + 1 := ⟨fu - 1, by omega⟩
    have hle := h.le s hV
    have hl : s.after = T := by omega
    rw [h.eq fu s ml hV]
    by_cases h1 : (aget ml s).isSome = true
    · rw [if_pos h1]
      obtain ⟨v, hv⟩ := Option.isSome_iff_exists.1 h1
      refine ⟨ml, ?_, hS, hC, fun _ h => h, h1⟩
      rw [hv, Option.getD_some, hS s v hv]
    · rw [if_neg h1]
      by_cases h2 : ag s = true
      · rw [if_pos h2, if_pos hl]
        have e : (1 : Int) = valR nx ag T s := by unfold valR; rw [hk, R, if_pos h2]; rfl
        refine ⟨_, ?_, hS.set e, hC.set (fun _ hlt => absurd hlt (by omega)), Grows.set _ _ _, by rw [aget_aset, if_pos rfl]; rfl⟩
        rw [← e]
      · rw [if_neg h2]
        have e : (0 : Int) = valR nx ag T s := by unfold valR; rw [hk, R, if_neg h2]; rfl
        refine ⟨_, ?_, hS.set e, hC.set (fun ha => absurd ha h2), Grows.set _ _ _, by rw [aget_aset, if_pos rfl]; rfl⟩
        rw [← e]
  | succ k ih =>
    intro fu s ml hV h0 hk hf hS hC
    obtain ⟨fu, rfl⟩ : ∃ f, fu = f + 1 := ⟨fu - 1, by omega⟩
    have hl : s.after < T := by omega
    rw [h.eq fu s ml hV]
    by_cases h1 : (aget ml s).isSome = true
    · rw [if_pos h1]
      obtain ⟨v, hv⟩ := Option.isSome_iff_exists.1 h1
      refine ⟨ml, ?_, hS, hC, fun _ h => h, h1⟩
      rw [hv, Option.getD_some, hS s v hv]
    · rw [if_neg h1]
      by_cases h2 : ag s = true
      · rw [if_pos h2, if_neg (by omega)]
        have hlen := h.len s
        have hmx : (1000 : Nat) ^ k ≤ 1000 ^ 4 := Nat.pow_le_pow_right (by omega) (by omega)
        obtain ⟨m2, e2, s2, c2, g2, i2⟩ := rest_loop (M := M fu) (nx s) 0 ml (fun x hx ml hS hC => by
            obtain ⟨v1, v2⟩ := h.nxV s x hV hl hx
            exact ih fu x ml v1 (by omega) (by omega) (by omega) hS hC) (by omega) (by omega) (fun x hx => by
            obtain ⟨v1, v2⟩ := h.nxV s x hV hl hx
            have e3 : (T - x.after).toNat = k := by omega
            unfold valR
            rw [e3]
            have := R_le (nx := nx) (ag := ag) h.len k x
            have : R nx ag k x ≤ 1000000000000 := by
              have e4 : (1000 : Nat) ^ 4 = 1000000000000 := by decide
              omega
            omega) hS hC
        have e : ((0 : Int) + (((nx s).map fun x => R nx ag (T - x.after).toNat x).sum : Nat)) = valR nx ag T s := by
          unfold valR
          rw [hk, R, if_pos h2, Int.zero_add]
          congr 2
          apply List.map_congr_left
          intro x hx
          obtain ⟨v1, v2⟩ := h.nxV s x hV hl hx
          rw [show (T - x.after).toNat = k by omega]
        rw [e2, Option.bind_some, e]
        exact ⟨_, rfl, s2.set rfl, c2.set (fun _ _ => i2), g2.trans (Grows.set _ _ _), by rw [aget_aset, if_pos rfl]; rfl⟩
      · rw [if_neg h2]
        have e : (0 : Int) = valR nx ag T s := by unfold valR; rw [hk, R, if_neg h2]; rfl
        refine ⟨_, ?_, hS.set e, hC.set (fun ha => absurd ha h2), Grows.set _ _ _, by rw [aget_aset, if_pos rfl]; rfl⟩
        rw [← e]
end
end Go.Proofs.Wb

namespace Go.Proofs.Wb
open Go Go.Fw Go.Gx Go.Sb
set_option linter.unusedVariables false
set_option maxRecDepth 100000
theorem iterL_pair {α σ τ : Type} (g : σ → τ) {f : α → σ → Option σ} {f' : α → τ → Option τ} (h : ∀ x s, (f x s).map g = f' x (g s)) : ∀ (l : List α) (s : σ), (iterL f l s).map g = iterL f' l (g s)
  | [], s => rfl
  | x :: l, s => by
    rw [iterL, iterL, ← h]
    cases f x s with
    | none => rfl
    | some s' => exact iterL_pair g h l s'
def VS (c : Channel) (s : State) : Prop := (∃ l, rowB c l = true ∧ s.at_ = mkCells l) ∧ 0 ≤ s.after ∧ s.after ≤ c.tides
def agS (cnt : Nat → Bool) (c : Channel) (s : State) : Bool := agP cnt c.sights s.after (clS c.fords.length s)
def nxS (c : Channel) (s : State) : List State := nextL c.cells (rchL c) (c.fords.length : Int) s
theorem putL_len {n : Nat} {reach : List Int} {a : Cells} : ∀ (m : Nat) (pre : List Int), (putL n reach a m pre).length ≤ n ^ m
  | 0, pre => by simp [putL]
  | m + 1, pre => by
    rw [putL, List.length_flatMap]
    have h := sum_le (fun x : Nat => (if okN reach a pre (x : Int) = true then putL n reach a m (pre ++ [(x : Int)]) else []).length) (n ^ m) (List.range n) (fun x _ => by
      split
      · exact putL_len m _
      · exact Nat.zero_le _)
    rw [List.length_range] at h
    rw [Nat.pow_succ, Nat.mul_comm]
    exact h
theorem nxS_len {c : Channel} (r : Right c) (s : State) : (nxS c s).length ≤ 1000 := by
  have hc := r.cells
  have hf := r.fords
  unfold nxS nextL
  rw [List.length_map]
  refine Nat.le_trans (putL_len _ _) ?_
  have h1 : c.cells.toNat ^ (c.fords.length : Int).toNat ≤ 10 ^ (c.fords.length : Int).toNat := Nat.pow_le_pow_left (by omega) _
  have h2 : 10 ^ (c.fords.length : Int).toNat ≤ 10 ^ 3 := Nat.pow_le_pow_right (by omega) (by omega)
  omega
theorem nxS_mem {c : Channel} (r : Right c) {s t : State} : t ∈ nxS c s ↔ ∃ l, CanS c.cells (rchL c) c.fords.length s.at_ l ∧ t = ⟨s.after + 1, mkCells l⟩ := by
  have hc := r.cells
  unfold nxS
  rw [mem_nextL (by omega), Int.toNat_natCast]
theorem row_of_can {c : Channel} {a : Cells} {l : List Int} (h : CanS c.cells (rchL c) c.fords.length a l) : rowB c l = true := by
  rw [rowB_iff]
  refine ⟨h.len, upB_ix.2 fun i hi => h.up i (by rw [← h.len]; exact hi), fun x hx => ?_⟩
  obtain ⟨i, hi, rfl⟩ := List.getElem_of_mem hx
  have := h.inC i (by rw [← h.len]; exact hi)
  simpa [List.getD_eq_getElem?_getD, hi] using this
theorem nxS_V {c : Channel} (r : Right c) {s t : State} (hs : VS c s) (hl : s.after < c.tides) (ht : t ∈ nxS c s) : VS c t ∧ t.after = s.after + 1 := by
  obtain ⟨l, h1, rfl⟩ := (nxS_mem r).1 ht
  obtain ⟨_, h2, h3⟩ := hs
  exact ⟨⟨⟨l, row_of_can h1, rfl⟩, by simp only; omega, by simp only; omega⟩, rfl⟩
theorem nxS_nodup {c : Channel} (r : Right c) (s : State) : (nxS c s).Nodup := nextL_nodup (by have := r.fords; omega)
theorem VS_next {c : Channel} (r : Right c) {s : State} (h : VS c s) : nextOK c.cells (rchL c) (c.fords.length : Int) s := by
  obtain ⟨⟨l, h1, h2⟩, h3, h4⟩ := h
  have ht := r.tides
  obtain ⟨k, a⟩ := s
  simp only at h2 h3 h4
  subst h2
  exact nextOK_of r h1 (by omega)
def MR (c : Channel) (fu : Nat) (s : State) (ml : ML) : Option (Int × ML) := (jA fu s ml c.cells c.tides c.fords c.sands c.sights (rchL c)).map fun q => (q.r0, q.a11)
theorem restEq_all {c : Channel} (r : Right c) : RestEq (MR c) (VS c) (agS (fun _ => true) c) (nxS c) c.tides where
  eq fu s ml hV := by
    have hf := r.fords
    have hs := r.sights
    unfold MR
    rw [jA]
    unfold yb
    by_cases h1 : (aget ml s).isSome = true
    · rw [if_pos h1, if_pos h1]; rfl
    · rw [if_neg h1, if_neg h1, ZE (by omega) (by omega), Option.bind_some, not_true_if]
      show _ = if agS (fun _ => true) c s = true then _ else _
      unfold agS
      by_cases h2 : agP (fun _ => true) c.sights s.after (clS c.fords.length s) = true
      · rw [if_pos h2, if_pos h2]
        by_cases h3 : s.after = c.tides
        · rw [if_pos h3, if_pos h3]; rfl
        · rw [if_neg h3, if_neg h3]
          unfold kM
          rw [Option.bind_some, if_pos (VS_next r hV)]
          have hp := iterL_pair (fun q : ky => (q.n9, q.a11)) (f := qc (jA fu) c.cells c.tides c.fords c.sands c.sights (rchL c)) (f' := fR (MR c fu)) (fun x q => by
            unfold qc fR MR
            cases jA fu x q.a11 c.cells c.tides c.fords c.sands c.sights (rchL c) with
            | none => rfl
            | some q' =>
              simp only [Option.bind_some, Option.map_some]
              cases addc q.n9 q'.r0 <;> rfl) (nxS c s) ⟨0, ml⟩
          simp only at hp
          show _ = (iterL (fR (MR c fu)) (nxS c s) (0, ml)).bind _
          rw [← hp]
          unfold nxS
          cases iterL (qc (jA fu) c.cells c.tides c.fords c.sands c.sights (rchL c)) (nextL c.cells (rchL c) (c.fords.length : Int) s) ⟨0, ml⟩ <;> rfl
      · rw [if_neg h2, if_neg h2]; rfl
  nxV s t hs hl ht := nxS_V r hs hl ht
  le s hs := hs.2.2
  len s := nxS_len r s
def first (c : Channel) : State := ⟨0, mkCells c.fords⟩
theorem first_V {c : Channel} (r : Right c) : VS c (first c) := ⟨⟨c.fords, rowB_iff.2 ⟨rfl, r.up, r.fcell⟩, rfl⟩, Int.le_refl _, r.tides.1⟩
theorem Y7 {c : Channel} (r : Right c) : ∃ ml, q5 c.cells c.tides c.fords c.sands c.sights (rchL c) = some ml ∧ Sound (nxS c) (agS (fun _ => true) c) c.tides ml ∧ Closed (nxS c) (agS (fun _ => true) c) c.tides ml ∧ (aget ml (first c)).isSome = true := by
  have hf := r.fords
  have ht := r.tides
  unfold q5
  rw [QL (by omega), Option.bind_some]
  obtain ⟨ml, e, s1, c1, _, i1⟩ := rest_spec (restEq_all r) ht (c.tides - (first c).after).toNat FU (first c) [] (first_V r) (Int.le_refl _) rfl (by unfold first FU; simp only; omega) (fun x v hx => by simp [aget, afind] at hx) (fun x hx => by simp [aget, afind] at hx)
  unfold MR at e
  rw [Option.map_eq_some_iff] at e
  obtain ⟨q, e1, e2⟩ := e
  simp only [Prod.mk.injEq] at e2
  refine ⟨ml, ?_, s1, c1, i1⟩
  show (jA FU (first c) [] c.cells c.tides c.fords c.sands c.sights (rchL c)).bind _ = _
  rw [e1, Option.bind_some, e2.2]
def cntS (cnt : Nat → Bool) (c : Channel) : Nat := R (nxS c) (agS cnt c) c.tides.toNat (first c)
theorem ZQ {c : Channel} (r : Right c) : q7 c.cells c.tides c.fords c.sands c.sights (rchL c) = some (cntS (fun _ => true) c : Int) := by
  have hf := r.fords
  unfold q7 JN
  obtain ⟨ml, e, s1, c1, i1⟩ := Y7 r
  rw [Option.bind_some, e, Option.bind_some, QL (by omega), Option.bind_some]
  obtain ⟨v, hv⟩ := Option.isSome_iff_exists.1 i1
  have := s1 _ _ hv
  show some ((aget ml (first c)).getD 0) = _
  rw [hv, Option.getD_some, this]
  unfold valR cntS first
  simp
theorem ZV {c : Channel} (h : Few c) : yc c = some (if chk c = 0 then ⟨(cntS (fun _ => true) c : Int), 0⟩ else ⟨0, chk c⟩) := by
  unfold yc
  rw [YS h, Option.bind_some]
  by_cases h0 : chk c = 0
  · rw [if_pos h0, if_pos h0, oc_inr, ZQ (rightOf h0)]; rfl
  · rw [if_neg h0, if_neg h0, oc_inl]
end Go.Proofs.Wb

namespace Go.Proofs.Wb
open Go Go.Fw Go.Gx Go.Sb
set_option linter.unusedVariables false
set_option maxRecDepth 100000
def stepP (ml : ML) (p : List (State × Bool) × List State) (x : State) : List (State × Bool) × List State := if 0 < (aget ml x).getD 0 ∧ (aget p.1 x).getD false = false then (aset p.1 x true, p.2 ++ [x]) else p
theorem stepP_len (ml : ML) : ∀ (L : List State) (p : List (State × Bool) × List State), (L.foldl (stepP ml) p).2.length ≤ p.2.length + L.length
  | [], p => by simp
  | x :: L, p => by
    rw [List.foldl_cons, List.length_cons]
    have h := stepP_len ml L (stepP ml p x)
    have h2 : (stepP ml p x).2.length ≤ p.2.length + 1 := by
      unfold stepP
      split
      · simp
      · omega
    omega
theorem fit_F2 (ml : ML) : ∀ (L : List State) (p : List (State × Bool) × List State), p.2.length + L.length ≤ 3000000000000 → iterL (qx ml) L ⟨p.1, p.2⟩ = some ⟨(L.foldl (stepP ml) p).1, (L.foldl (stepP ml) p).2⟩
  | [], p, _ => rfl
  | x :: L, p, h => by
    rw [List.length_cons] at h
    rw [iterL, List.foldl_cons]
    have hs : qx ml x ⟨p.1, p.2⟩ = some ⟨(stepP ml p x).1, (stepP ml p x).2⟩ := by
      unfold qx stepP
      simp only
      by_cases h1 : 0 < (aget ml x).getD 0
      · rw [if_pos h1, Option.bind_some]
        by_cases h2 : (aget p.1 x).getD false = false
        · rw [if_pos (by simp [h2]), if_pos ⟨h1, h2⟩, appc_eq (by simp; omega)]
          rfl
        · rw [if_neg (by simpa using h2), if_neg (fun q => h2 q.2)]
      · rw [if_neg h1, Option.bind_some, if_neg (by decide), if_neg (fun q => h1 q.1)]
    have h2 : (stepP ml p x).2.length ≤ p.2.length + 1 := stepP_len ml [x] p
    rw [hs, Option.bind_some]
    exact fit_F2 ml L (stepP ml p x) (by omega)
def Met (p : List (State × Bool) × List State) : Prop := ∀ x, (aget p.1 x).getD false = decide (x ∈ p.2)
theorem stepP_met {ml : ML} {p : List (State × Bool) × List State} {x : State} (h : Met p) : Met (stepP ml p x) ∧ ∀ y, y ∈ (stepP ml p x).2 ↔ y ∈ p.2 ∨ (y = x ∧ 0 < (aget ml y).getD 0) := by
  unfold stepP
  by_cases h1 : 0 < (aget ml x).getD 0 ∧ (aget p.1 x).getD false = false
  · rw [if_pos h1]
    constructor
    · intro y
      simp only
      rw [aget_aset]
      by_cases e : y = x
      · rw [if_pos e]; simp [e]
      · rw [if_neg e, h y]; simp [e]
    · intro y
      simp only [List.mem_append, List.mem_singleton]
      constructor
      · rintro (h2 | rfl)
        · exact .inl h2
        · exact .inr ⟨rfl, h1.1⟩
      · rintro (h2 | ⟨rfl, _⟩)
        · exact .inl h2
        · exact .inr rfl
  · rw [if_neg h1]
    refine ⟨h, fun y => ⟨.inl, ?_⟩⟩
    rintro (h2 | ⟨rfl, h2⟩)
    · exact h2
    · have h3 : ¬ (aget p.1 y).getD false = false := fun q => h1 ⟨h2, q⟩
      rw [h y] at h3
      simpa using h3
theorem foldP_met {ml : ML} : ∀ (L : List State) (p : List (State × Bool) × List State), Met p → Met (L.foldl (stepP ml) p) ∧ ∀ y, y ∈ (L.foldl (stepP ml) p).2 ↔ y ∈ p.2 ∨ (y ∈ L ∧ 0 < (aget ml y).getD 0)
  | [], p, h => ⟨h, fun y => by simp⟩
  | x :: L, p, h => by
    obtain ⟨h1, h2⟩ := stepP_met (ml := ml) (x := x) h
    obtain ⟨h3, h4⟩ := foldP_met L _ h1
    refine ⟨h3, fun y => ?_⟩
    rw [List.foldl_cons, h4 y, h2 y, List.mem_cons]
    constructor
    · rintro ((h | ⟨h, q⟩) | ⟨h, q⟩)
      · exact .inl h
      · exact .inr ⟨.inl h, q⟩
      · exact .inr ⟨.inr h, q⟩
    · rintro (h | ⟨h | h, q⟩)
      · exact .inl (.inl h)
      · exact .inl (.inr ⟨h, q⟩)
      · exact .inr ⟨h, q⟩
def rowP (ml : ML) (nx : State → List State) (l : List State) : List State := ((l.flatMap nx).foldl (stepP ml) ([], [])).2
theorem mem_rowP {ml : ML} {nx : State → List State} {l : List State} {y : State} : y ∈ rowP ml nx l ↔ (∃ s ∈ l, y ∈ nx s) ∧ 0 < (aget ml y).getD 0 := by
  unfold rowP
  rw [(foldP_met (ml := ml) (l.flatMap nx) ([], []) (fun x => by simp [aget, afind])).2 y, List.mem_flatMap]
  simp
theorem flatMap_len {nx : State → List State} (h : ∀ s, (nx s).length ≤ 1000) (l : List State) : (l.flatMap nx).length ≤ l.length * 1000 := by
  rw [List.length_flatMap]
  exact sum_le (fun s => (nx s).length) 1000 l (fun x _ => h x)
theorem rowP_len {ml : ML} {nx : State → List State} (h : ∀ s, (nx s).length ≤ 1000) (l : List State) : (rowP ml nx l).length ≤ l.length * 1000 := by
  have := stepP_len ml (l.flatMap nx) ([], [])
  have := flatMap_len h l
  unfold rowP
  simp only [List.length_nil, Nat.zero_add] at *
  omega
theorem fit_L1 {c : Channel} (r : Right c) (ml : ML) {l : List State} (hl : l.length ≤ 1000000000) (hV : ∀ s ∈ l, VS c s) :
    ∃ met, iterM FU (kS l c.cells c.tides c.fords c.sands c.sights (rchL c) ml) ⟨0, [], []⟩ = some ⟨met, rowP ml (nxS c) l⟩ := by
  refine ⟨((l.flatMap (nxS c)).foldl (stepP ml) ([], [])).1, ?_⟩
  have key := iterM_run (f := kS l c.cells c.tides c.fords c.sands c.sights (rchL c) ml) (fun j => ⟨(j : Int), (((l.take j).flatMap (nxS c)).foldl (stepP ml) ([], [])).1, (((l.take j).flatMap (nxS c)).foldl (stepP ml) ([], [])).2⟩) l.length (b := ⟨((l.flatMap (nxS c)).foldl (stepP ml) ([], [])).1, ((l.flatMap (nxS c)).foldl (stepP ml) ([], [])).2⟩) (fun j hj => ?_) ?_ FU (FU_lt (by omega))
  · exact key
  · have e : l.take (j + 1) = l.take j ++ [l[j]] := by rw [List.take_append_getElem]
    have hx : l.getD j default = l[j] := by simp [List.getD_eq_getElem?_getD, hj]
    unfold kS kM
    simp only
    rw [if_pos (by omega), ix_nat default hj, Option.bind_some, hx, Option.bind_some, if_pos (VS_next r (hV _ (List.getElem_mem hj)))]
    have h1 := stepP_len ml ((l.take j).flatMap (nxS c)) ([], [])
    have h2 := flatMap_len (nxS_len r) (l.take j)
    have h3 := nxS_len r l[j]
    have h4 : (l.take j).length ≤ l.length := by rw [List.length_take]; omega
    have h5 := Nat.mul_le_mul_right 1000 h4
    have hf := fit_F2 ml (nxS c l[j]) (((l.take j).flatMap (nxS c)).foldl (stepP ml) ([], [])) (by simp only [List.length_nil, Nat.zero_add] at h1; omega)
    unfold nxS at hf
    unfold nxS
    rw [hf, Option.bind_some, addc_eq (by omega), Option.bind_some, e, List.flatMap_append, List.foldl_append]
    simp
  · unfold kS
    simp only
    rw [if_neg (by omega), List.take_length]
def lev (c : Channel) (ml : ML) : Nat → List State
  | 0 => [first c]
  | k + 1 => rowP ml (nxS c) (lev c ml k)
theorem lev_len {c : Channel} (r : Right c) (ml : ML) : ∀ k, (lev c ml k).length ≤ 1000 ^ k
  | 0 => by simp [lev]
  | k + 1 => by
    have h := rowP_len (ml := ml) (nxS_len r) (lev c ml k)
    have h2 := Nat.mul_le_mul_right 1000 (lev_len r ml k)
    rw [lev, Nat.pow_succ]
    omega
theorem lev_V {c : Channel} (r : Right c) (ml : ML) : ∀ k : Nat, (k : Int) ≤ c.tides → ∀ s ∈ lev c ml k, VS c s ∧ s.after = (k : Int)
  | 0, _, s, hs => by
    simp only [lev, List.mem_singleton] at hs
    subst hs
    exact ⟨first_V r, rfl⟩
  | k + 1, hk, s, hs => by
    obtain ⟨⟨u, hu, hn⟩, _⟩ := mem_rowP.1 hs
    obtain ⟨h1, h2⟩ := lev_V r ml k (by omega) u hu
    obtain ⟨h3, h4⟩ := nxS_V r h1 (by omega) hn
    exact ⟨h3, by omega⟩
theorem lev_on {c : Channel} (r : Right c) {ml : ML} (hS : Sound (nxS c) (agS (fun _ => true) c) c.tides ml) (hC : Closed (nxS c) (agS (fun _ => true) c) c.tides ml) (hi : (aget ml (first c)).isSome = true) (hp : 0 < cntS (fun _ => true) c) :
    ∀ k : Nat, (k : Int) ≤ c.tides → ∀ t, (t ∈ lev c ml k ↔ On (nxS c) (agS (fun _ => true) c) k c.tides.toNat (first c) t) ∧ (t ∈ lev c ml k → (aget ml t).isSome = true)
  | 0, _, t => by
    constructor
    · rw [lev, List.mem_singleton, on_zero]
      constructor
      · intro h; exact ⟨h, hp⟩
      · exact fun h => h.1
    · intro h
      rw [lev, List.mem_singleton] at h
      rw [h]; exact hi
  | k + 1, hk, t => by
    have ih := lev_on r hS hC hi hp k (by omega)
    have hsome : t ∈ lev c ml (k + 1) → (aget ml t).isSome = true := by
      intro h
      have h2 := (mem_rowP.1 h).2
      cases hq : aget ml t with
      | none => rw [hq] at h2; simp at h2
      | some v => rfl
    refine ⟨?_, hsome⟩
    rw [on_succ (by omega)]
    constructor
    · intro h
      obtain ⟨⟨u, hu, hn⟩, h2⟩ := mem_rowP.1 h
      obtain ⟨v1, v2⟩ := lev_V r ml k (by omega) u hu
      obtain ⟨v3, v4⟩ := nxS_V r v1 (by omega) hn
      refine ⟨u, (ih u).1.1 hu, hn, ?_⟩
      obtain ⟨v, hv⟩ := Option.isSome_iff_exists.1 (hsome h)
      have h3 := hS t v hv
      rw [hv, Option.getD_some, h3] at h2
      unfold valR at h2
      rw [show (c.tides - t.after).toNat = c.tides.toNat - k - 1 by omega] at h2
      omega
    · rintro ⟨u, hu, hn, h2⟩
      have hu' := (ih u).1.2 hu
      obtain ⟨v1, v2⟩ := lev_V r ml k (by omega) u hu'
      obtain ⟨v3, v4⟩ := nxS_V r v1 (by omega) hn
      have hag := R_ag (on_R (by omega) hu)
      have hst := hC u ((ih u).2 hu') hag (by omega) t hn
      obtain ⟨v, hv⟩ := Option.isSome_iff_exists.1 hst
      have h3 := hS t v hv
      refine mem_rowP.2 ⟨⟨u, hu', hn⟩, ?_⟩
      rw [hv, Option.getD_some, h3]
      unfold valR
      rw [show (c.tides - t.after).toNat = c.tides.toNat - k - 1 by omega]
      omega
structure Levs (c : Channel) (L : List (List State)) : Prop where
  len : (L.length : Int) = c.tides + 1
  mem : ∀ k : Nat, (k : Int) ≤ c.tides → ∀ t, t ∈ L.getD k [] ↔ On (nxS c) (agS (fun _ => true) c) k c.tides.toNat (first c) t
  val : ∀ k : Nat, (k : Int) ≤ c.tides → ∀ s ∈ L.getD k [], VS c s ∧ s.after = (k : Int)
  bnd : ∀ k : Nat, (k : Int) ≤ c.tides → (L.getD k []).length ≤ 1000000000000
theorem Zp {c : Channel} (r : Right c) : ∃ L, yf c.cells c.tides c.fords c.sands c.sights (rchL c) = some (if cntS (fun _ => true) c = 0 then .inl () else .inr L) ∧ (cntS (fun _ => true) c ≠ 0 → Levs c L) := by
  have hf := r.fords
  have ht := r.tides
  obtain ⟨ml, e, s1, c1, i1⟩ := Y7 r
  obtain ⟨v, hv⟩ := Option.isSome_iff_exists.1 i1
  have hv2 := s1 _ _ hv
  have hv3 : v = (cntS (fun _ => true) c : Int) := by
    rw [hv2]
    unfold valR cntS first
    simp
  refine ⟨(List.range (c.tides.toNat + 1)).map (lev c ml), ?_, ?_⟩
  · unfold yf JN
    rw [Option.bind_some, e, Option.bind_some, QL (by omega), Option.bind_some]
    show (if (aget ml (first c)).getD 0 = 0 then _ else _) = _
    rw [hv, Option.getD_some, hv3]
    by_cases h0 : cntS (fun _ => true) c = 0
    · rw [if_pos (by omega), if_pos h0]
    · rw [if_neg (by omega), if_neg h0, Option.bind_some]
      have key := iterM_run (f := kU c.tides c.cells c.fords c.sands c.sights (rchL c) ml) (fun j => ⟨(j : Int), (List.range (j + 1)).map (lev c ml)⟩) c.tides.toNat (b := (List.range (c.tides.toNat + 1)).map (lev c ml)) (fun j hj => ?_) ?_ FU (FU_lt (by omega))
      · show (iterM FU (kU c.tides c.cells c.fords c.sands c.sights (rchL c) ml) ⟨((0 : Nat) : Int), (List.range (0 + 1)).map (lev c ml)⟩).bind _ = _
        rw [key]; rfl
      · unfold kU
        simp only
        have hlen := lev_len r ml j
        have hpw : (1000 : Nat) ^ j ≤ 1000 ^ 3 := Nat.pow_le_pow_right (by omega) (by omega)
        have e3 : (1000 : Nat) ^ 3 = 1000000000 := by decide
        obtain ⟨met, hm⟩ := fit_L1 r ml (l := lev c ml j) (by omega) (fun s hs => (lev_V r ml j (by omega) s hs).1)
        rw [if_pos (by omega), range_ix (by omega), Option.bind_some, hm, Option.bind_some, appc_eq (by simp; omega), Option.bind_some, addc_eq (by omega), Option.bind_some, List.range_succ (n := j + 1), List.map_append]
        rfl
      · unfold kU
        simp only
        rw [if_neg (by omega)]
  · intro h0
    have hg : ∀ k : Nat, (k : Int) ≤ c.tides → ((List.range (c.tides.toNat + 1)).map (lev c ml)).getD k [] = lev c ml k := by
      intro k hk
      rw [List.getD_eq_getElem?_getD, List.getElem?_map, List.getElem?_range (by omega)]
      rfl
    refine ⟨by simp; omega, fun k hk t => ?_, fun k hk s hs => ?_, fun k hk => ?_⟩
    · rw [hg k hk]; exact (lev_on r s1 c1 i1 (by omega) k hk t).1
    · rw [hg k hk] at hs; exact lev_V r ml k hk s hs
    · rw [hg k hk]
      have := lev_len r ml k
      have hpw : (1000 : Nat) ^ k ≤ 1000 ^ 4 := Nat.pow_le_pow_right (by omega) (by omega)
      have e4 : (1000 : Nat) ^ 4 = 1000000000000 := by decide
      omega
theorem Q1 {c : Channel} (h : Few c) : ∃ L, qK c = some (if chk c = 0 then (if cntS (fun _ => true) c = 0 then .inl 7 else .inr ⟨c.cells, c.tides, L, rchL c⟩) else .inl (chk c)) ∧ (chk c = 0 → cntS (fun _ => true) c ≠ 0 → Levs c L) := by
  unfold qK
  rw [YS h, Option.bind_some]
  by_cases h0 : chk c = 0
  · have r := rightOf h0
    obtain ⟨L, e, hL⟩ := Zp r
    refine ⟨L, ?_, fun _ h1 => hL h1⟩
    rw [if_pos h0, if_pos h0, oc_inr, e, Option.bind_some]
    by_cases h1 : cntS (fun _ => true) c = 0
    · rw [if_pos h1, if_pos h1, oc_inl]
    · rw [if_neg h1, if_neg h1, oc_inr, if_pos (by have := (hL h1).len; have := r.tides; omega)]
  · exact ⟨[], by rw [if_neg h0, if_neg h0, oc_inl], fun h => absurd h h0⟩
end Go.Proofs.Wb

namespace Go.Proofs.Wb
open Go Go.Fw Go.Gx Go.Sb
set_option linter.unusedVariables false
set_option maxRecDepth 100000
def sumN {α : Type} (l : List α) (f : α → Nat) : Nat := (l.map f).sum
theorem sumN_nil {α : Type} (f : α → Nat) : sumN [] f = 0 := rfl
theorem sumN_cons {α : Type} (x : α) (l : List α) (f : α → Nat) : sumN (x :: l) f = f x + sumN l f := by unfold sumN; rw [List.map_cons, List.sum_cons]
theorem sumN_congr {α : Type} {l : List α} {f g : α → Nat} (h : ∀ x ∈ l, f x = g x) : sumN l f = sumN l g := by unfold sumN; rw [List.map_congr_left h]
theorem sumN_zero {α : Type} {l : List α} {f : α → Nat} (h : ∀ x ∈ l, f x = 0) : sumN l f = 0 := by
  induction l with
  | nil => rfl
  | cons x l ih => rw [sumN_cons, h x List.mem_cons_self, ih (fun y hy => h y (List.mem_cons_of_mem _ hy))]
theorem sumN_add {α : Type} (l : List α) (f g : α → Nat) : sumN l (fun x => f x + g x) = sumN l f + sumN l g := by
  induction l with
  | nil => rfl
  | cons x l ih => rw [sumN_cons, sumN_cons, sumN_cons, ih]; omega
theorem sumN_mul {α : Type} (l : List α) (f : α → Nat) (k : Nat) : sumN l (fun x => f x * k) = sumN l f * k := by
  induction l with
  | nil => simp [sumN]
  | cons x l ih => rw [sumN_cons, sumN_cons, ih, Nat.add_mul]
theorem sumN_mul' {α : Type} (l : List α) (f : α → Nat) (k : Nat) : sumN l (fun x => k * f x) = k * sumN l f := by
  induction l with
  | nil => simp [sumN]
  | cons x l ih => rw [sumN_cons, sumN_cons, ih, Nat.mul_add]
theorem sumN_comm {α β : Type} (l : List α) (m : List β) (f : α → β → Nat) : sumN l (fun x => sumN m fun y => f x y) = sumN m fun y => sumN l fun x => f x y := by
  induction l with
  | nil => rw [sumN_nil, sumN_zero (fun y _ => sumN_nil _)]
  | cons x l ih =>
    rw [sumN_cons, ih, ← sumN_add]
    refine sumN_congr fun y _ => ?_
    rw [sumN_cons]
theorem sumN_pos {α : Type} {l : List α} {f : α → Nat} : 0 < sumN l f ↔ ∃ x ∈ l, 0 < f x := by
  induction l with
  | nil => simp [sumN]
  | cons x l ih =>
    rw [sumN_cons]
    constructor
    · intro h
      by_cases hx : 0 < f x
      · exact ⟨x, List.mem_cons_self, hx⟩
      · obtain ⟨y, hy, h2⟩ := ih.1 (by omega)
        exact ⟨y, List.mem_cons_of_mem _ hy, h2⟩
    · rintro ⟨y, hy, h⟩
      rcases List.mem_cons.1 hy with rfl | hy
      · omega
      · have := ih.2 ⟨y, hy, h⟩; omega
theorem sumN_perm {α : Type} {l m : List α} (h : l.Perm m) (f : α → Nat) : sumN l f = sumN m f := by
  unfold sumN
  exact (h.map f).sum_nat
theorem sumN_map {α β : Type} (l : List α) (g : α → β) (f : β → Nat) : sumN (l.map g) f = sumN l fun x => f (g x) := by unfold sumN; rw [List.map_map]; rfl
theorem sumN_filter {α : Type} (l : List α) (p : α → Bool) (f : α → Nat) : sumN (l.filter p) f = sumN l fun x => if p x = true then f x else 0 := by
  induction l with
  | nil => rfl
  | cons x l ih =>
    rw [List.filter_cons, sumN_cons, ← ih]
    split
    · rw [sumN_cons]
    · rw [Nat.zero_add]
theorem sumN_one {α : Type} [DecidableEq α] {l : List α} (hn : l.Nodup) {a : α} (ha : a ∈ l) (k : Nat) : sumN l (fun x => if x = a then k else 0) = k := by
  induction l with
  | nil => cases ha
  | cons x l ih =>
    obtain ⟨h1, h2⟩ := List.nodup_cons.1 hn
    rw [sumN_cons]
    by_cases hx : x = a
    · subst hx
      rw [if_pos rfl, sumN_zero (fun y hy => if_neg (fun e : y = x => h1 (e ▸ hy)))]
      rfl
    · rw [if_neg hx, ih h2 ((List.mem_cons.1 ha).resolve_left (fun e => hx e.symm)), Nat.zero_add]
def incL (below : Nat) : Nat → Nat → List (List Int)
  | 0, _ => [[]]
  | m + 1, fr => (List.range (below - fr)).flatMap fun d => (incL below m (fr + d + 1)).map (((fr + d : Nat) : Int) :: ·)
theorem mem_incL {below : Nat} : ∀ (m fr : Nat) (l : List Int), l ∈ incL below m fr ↔ l.length = m ∧ upB l = true ∧ ∀ x ∈ l, (fr : Int) ≤ x ∧ x < (below : Int)
  | 0, fr, l => by
    rw [incL, List.mem_singleton]
    constructor
    · rintro rfl; exact ⟨rfl, rfl, fun x hx => by cases hx⟩
    · rintro ⟨h, _⟩; exact List.length_eq_zero_iff.1 h
  | m + 1, fr, l => by
    rw [incL]
    simp only [List.mem_flatMap, List.mem_range, List.mem_map]
    constructor
    · rintro ⟨d, hd, v, hv, rfl⟩
      obtain ⟨h1, h2, h3⟩ := (mem_incL m _ v).1 hv
      refine ⟨by simp [h1], ?_, fun x hx => ?_⟩
      · rw [upB_iff, List.pairwise_cons]
        exact ⟨fun y hy => by have := h3 y hy; push_cast at this ⊢; omega, upB_iff.1 h2⟩
      · rcases List.mem_cons.1 hx with rfl | hx
        · push_cast; omega
        · have := h3 x hx; push_cast at this; omega
    · rintro ⟨h1, h2, h3⟩
      cases l with
      | nil => simp at h1
      | cons y v =>
        have hy := h3 y List.mem_cons_self
        obtain ⟨q1, q2⟩ := List.pairwise_cons.1 (upB_iff.1 h2)
        refine ⟨y.toNat - fr, by omega, v, (mem_incL m _ v).2 ⟨by simpa using h1, upB_iff.2 q2, fun x hx => ?_⟩, ?_⟩
        · have a := q1 x hx
          have b := h3 x (List.mem_cons_of_mem _ hx)
          push_cast
          omega
        · congr 1
          omega
theorem incL_nodup {below : Nat} : ∀ (m fr : Nat), (incL below m fr).Nodup
  | 0, fr => by simp [incL]
  | m + 1, fr => by
    rw [incL]
    refine nodup_flatMap' List.nodup_range (fun d _ => nodup_map' (incL_nodup m _) (fun a _ b _ h => by simpa using h)) ?_
    intro d _ e _ w h1 h2
    obtain ⟨v, _, rfl⟩ := List.mem_map.1 h1
    obtain ⟨v', _, he⟩ := List.mem_map.1 h2
    injection he with he _
    omega
def LL (c : Channel) : List (List Int) := incL c.cells.toNat c.fords.length 0
theorem mem_LL {c : Channel} (hc : 0 ≤ c.cells) {l : List Int} : l ∈ LL c ↔ rowB c l = true := by
  unfold LL
  rw [mem_incL, rowB_iff]
  constructor
  · rintro ⟨h1, h2, h3⟩; exact ⟨h1, h2, fun x hx => by have := h3 x hx; push_cast at this; omega⟩
  · rintro ⟨h1, h2, h3⟩; exact ⟨h1, h2, fun x hx => by have := h3 x hx; push_cast; omega⟩
theorem LL_nodup (c : Channel) : (LL c).Nodup := incL_nodup _ _
def stL (k : Nat) (l : List Int) : State := ⟨(k : Int), mkCells l⟩
theorem nxS_perm {c : Channel} (r : Right c) {k : Nat} {a : List Int} (ha : rowB c a = true) : (nxS c (stL k a)).Perm (((LL c).filter fun l => canB c.sands a l).map (stL (k + 1))) := by
  have hc := r.cells
  have hf := r.fords
  refine (List.perm_ext_iff_of_nodup (nxS_nodup r _) (nodup_map' ((LL_nodup c).filter _) (fun x hx y hy h => ?_))).2 (fun t => ?_)
  · have hx' := (rowB_iff.1 ((mem_LL (by omega)).1 (List.mem_filter.1 hx).1)).1
    have hy' := (rowB_iff.1 ((mem_LL (by omega)).1 (List.mem_filter.1 hy).1)).1
    simp only [stL, State.mk.injEq, true_and] at h
    exact mkCells_inj (by omega) (by omega) h
  · rw [nxS_mem r, List.mem_map]
    constructor
    · rintro ⟨l, h, rfl⟩
      have hr := row_of_can h
      exact ⟨l, List.mem_filter.2 ⟨(mem_LL (by omega)).2 hr, (can_iff r ha hr).2 h⟩, by simp [stL]⟩
    · rintro ⟨l, h, rfl⟩
      obtain ⟨h1, h2⟩ := List.mem_filter.1 h
      exact ⟨l, (can_iff r ha ((mem_LL (by omega)).1 h1)).1 h2, by simp [stL]⟩
def FcL (cnt : Nat → Bool) (c : Channel) : Nat → List Int → Nat
  | 0, l => if agP cnt c.sights 0 l = true ∧ l = c.fords then 1 else 0
  | k + 1, l => if agP cnt c.sights ((k + 1 : Nat) : Int) l = true then sumN (LL c) fun a => if canB c.sands a l = true then FcL cnt c k a else 0 else 0
theorem agS_stL {cnt : Nat → Bool} {c : Channel} (r : Right c) {k : Nat} {l : List Int} (h : rowB c l = true) : agS cnt c (stL k l) = agP cnt c.sights (k : Int) l := by
  have hf := r.fords
  have h1 := (rowB_iff.1 h).1
  unfold agS stL
  simp only
  rw [← h1, clS_mk (by omega)]
theorem R_stL {cnt : Nat → Bool} {c : Channel} (r : Right c) {j k : Nat} {a : List Int} (ha : rowB c a = true) : R (nxS c) (agS cnt c) (j + 1) (stL k a) = if agP cnt c.sights (k : Int) a = true then sumN (LL c) fun l => if canB c.sands a l = true then R (nxS c) (agS cnt c) j (stL (k + 1) l) else 0 else 0 := by
  rw [R, agS_stL r ha]
  by_cases h : agP cnt c.sights (k : Int) a = true
  · rw [if_pos h, if_pos h]
    show sumN (nxS c (stL k a)) _ = _
    rw [sumN_perm (nxS_perm r ha), sumN_map, sumN_filter]
  · rw [if_neg h, if_neg h]
theorem FcL_ag {cnt : Nat → Bool} {c : Channel} {k : Nat} {l : List Int} (h : ¬ agP cnt c.sights (k : Int) l = true) : FcL cnt c k l = 0 := by
  cases k with
  | zero => rw [FcL, if_neg (fun q => h q.1)]
  | succ k => rw [FcL, if_neg h]
theorem FcL_sum {cnt : Nat → Bool} {c : Channel} (r : Right c) : ∀ (k j : Nat), sumN (LL c) (fun l => FcL cnt c k l * R (nxS c) (agS cnt c) j (stL k l)) = R (nxS c) (agS cnt c) (k + j) (first c)
  | 0, j => by
    have hc := r.cells
    have hfr : rowB c c.fords = true := rowB_iff.2 ⟨rfl, r.up, r.fcell⟩
    have e : sumN (LL c) (fun l => FcL cnt c 0 l * R (nxS c) (agS cnt c) j (stL 0 l)) = sumN (LL c) (fun l => if l = c.fords then R (nxS c) (agS cnt c) j (first c) else 0) := by
      refine sumN_congr fun l hl => ?_
      by_cases h : l = c.fords
      · subst h
        rw [if_pos rfl, FcL]
        by_cases h2 : agP cnt c.sights 0 c.fords = true
        · rw [if_pos ⟨h2, rfl⟩, Nat.one_mul]; rfl
        · rw [if_neg (fun q => h2 q.1), Nat.zero_mul]
          have h3 : ¬ 0 < R (nxS c) (agS cnt c) j (first c) := fun q => by
            have := R_ag q
            rw [show first c = stL 0 c.fords from rfl, agS_stL r hfr] at this
            exact h2 this
          omega
      · rw [if_neg h, FcL, if_neg (fun q => h q.2), Nat.zero_mul]
    rw [e, sumN_one (LL_nodup c) ((mem_LL (by omega)).2 hfr), Nat.zero_add]
  | k + 1, j => by
    have hc := r.cells
    have ih := FcL_sum (cnt := cnt) r k (j + 1)
    rw [show k + 1 + j = k + (j + 1) by omega, ← ih]
    have e1 : sumN (LL c) (fun l => FcL cnt c (k + 1) l * R (nxS c) (agS cnt c) j (stL (k + 1) l)) = sumN (LL c) (fun l => sumN (LL c) fun a => (if canB c.sands a l = true then FcL cnt c k a else 0) * R (nxS c) (agS cnt c) j (stL (k + 1) l)) := by
      refine sumN_congr fun l hl => ?_
      rw [sumN_mul, FcL]
      by_cases h : agP cnt c.sights ((k + 1 : Nat) : Int) l = true
      · rw [if_pos h]
      · rw [if_neg h, Nat.zero_mul]
        have h3 : ¬ 0 < R (nxS c) (agS cnt c) j (stL (k + 1) l) := fun q => by
          have := R_ag q
          rw [agS_stL r ((mem_LL (by omega)).1 hl)] at this
          exact h this
        rw [Nat.eq_zero_of_not_pos h3, Nat.mul_zero]
    rw [e1, sumN_comm]
    refine sumN_congr fun a ha => ?_
    rw [R_stL r ((mem_LL (by omega)).1 ha)]
    by_cases h : agP cnt c.sights (k : Int) a = true
    · rw [if_pos h, ← sumN_mul']
      refine sumN_congr fun l _ => ?_
      split
      · rfl
      · rw [Nat.zero_mul, Nat.mul_zero]
    · rw [if_neg h, Nat.mul_zero]
      refine sumN_zero fun l _ => ?_
      rw [FcL_ag h]
      split <;> rw [Nat.zero_mul]
end Go.Proofs.Wb

namespace Go.Proofs.Wb
open Go Go.Fw Go.Gx Go.Sb
set_option linter.unusedVariables false
set_option maxRecDepth 100000
def li (c : Channel) (i : Nat) : List Int := (LL c).getD i []
theorem li_row {c : Channel} (r : Right c) {i : Nat} (h : i < (LL c).length) : rowB c (li c i) = true := by
  have hc := r.cells
  refine (mem_LL (by omega)).1 ?_
  unfold li
  rw [List.getD_eq_getElem?_getD, List.getElem?_eq_getElem h]
  exact List.getElem_mem h
end Go.Proofs.Wb

namespace Go.Proofs.Wb
open Go Go.Fw Go.Gx Go.Sb
set_option linter.unusedVariables false
set_option maxRecDepth 100000
abbrev tt : Nat → Bool := fun _ => true
def onB (c : Channel) (k : Nat) (l : List Int) : Bool := decide (0 < FcL tt c k l) && decide (0 < R (nxS c) (agS tt c) (c.tides.toNat - k) (stL k l))
theorem FcL_succ_pos {c : Channel} {k : Nat} {l : List Int} : 0 < FcL tt c (k + 1) l ↔ agP tt c.sights ((k + 1 : Nat) : Int) l = true ∧ ∃ a ∈ LL c, canB c.sands a l = true ∧ 0 < FcL tt c k a := by
  rw [FcL]
  by_cases h : agP tt c.sights ((k + 1 : Nat) : Int) l = true
  · rw [if_pos h, sumN_pos]
    constructor
    · rintro ⟨a, ha, h2⟩
      split at h2
      · rename_i hc; exact ⟨h, a, ha, hc, h2⟩
      · omega
    · rintro ⟨_, a, ha, hc, h2⟩
      exact ⟨a, ha, by rw [if_pos hc]; exact h2⟩
  · rw [if_neg h]
    constructor
    · intro q; omega
    · rintro ⟨q, _⟩; exact absurd q h
theorem FcL_pos_ag {c : Channel} {k : Nat} {l : List Int} (h : 0 < FcL tt c k l) : agP tt c.sights (k : Int) l = true := by
  cases hq : agP tt c.sights (k : Int) l with
  | true => rfl
  | false => rw [FcL_ag (by rw [hq]; decide)] at h; omega
theorem R_stL_pos {c : Channel} (r : Right c) {j k : Nat} {a : List Int} (ha : rowB c a = true) : 0 < R (nxS c) (agS tt c) (j + 1) (stL k a) ↔ agP tt c.sights (k : Int) a = true ∧ ∃ l ∈ LL c, canB c.sands a l = true ∧ 0 < R (nxS c) (agS tt c) j (stL (k + 1) l) := by
  rw [R_stL r ha]
  by_cases h : agP tt c.sights (k : Int) a = true
  · rw [if_pos h, sumN_pos]
    constructor
    · rintro ⟨l, hl, h2⟩
      split at h2
      · rename_i hc; exact ⟨h, l, hl, hc, h2⟩
      · omega
    · rintro ⟨_, l, hl, hc, h2⟩
      exact ⟨l, hl, by rw [if_pos hc]; exact h2⟩
  · rw [if_neg h]
    constructor
    · intro q; omega
    · rintro ⟨q, _⟩; exact absurd q h
theorem stL_of {c : Channel} (r : Right c) {s : State} {k : Nat} (h : VS c s) (hk : s.after = (k : Int)) : ∃ a ∈ LL c, s = stL k a := by
  have hc := r.cells
  obtain ⟨⟨l, h1, h2⟩, _⟩ := h
  obtain ⟨x, y⟩ := s
  simp only at hk h2
  exact ⟨l, (mem_LL (by omega)).2 h1, by rw [hk, h2]; rfl⟩
theorem mem_nx_stL {c : Channel} (r : Right c) {k : Nat} {a l : List Int} (ha : rowB c a = true) (hl : rowB c l = true) : stL (k + 1) l ∈ nxS c (stL k a) ↔ canB c.sands a l = true := by
  have hf := r.fords
  rw [nxS_mem r, can_iff r ha hl]
  constructor
  · rintro ⟨l', h, e⟩
    simp only [stL, State.mk.injEq] at e
    have := mkCells_inj (l := l) (m := l') (by rw [h.len]; exact (rowB_iff.1 hl).1) (by have := (rowB_iff.1 hl).1; omega) e.2
    rw [this]; exact h
  · intro h
    exact ⟨l, h, by simp [stL]⟩
theorem on_V {c : Channel} (r : Right c) : ∀ (k : Nat), (k : Int) ≤ c.tides → ∀ t, On (nxS c) (agS tt c) k c.tides.toNat (first c) t → VS c t ∧ t.after = (k : Int)
  | 0, _, t, h => by
    obtain ⟨rfl, _⟩ := on_zero.1 h
    exact ⟨first_V r, rfl⟩
  | k + 1, hk, t, h => by
    obtain ⟨u, h1, h2, _⟩ := (on_succ (by omega)).1 h
    obtain ⟨v1, v2⟩ := on_V r k (by omega) u h1
    obtain ⟨v3, v4⟩ := nxS_V r v1 (by omega) h2
    exact ⟨v3, by omega⟩
theorem on_iff {c : Channel} (r : Right c) : ∀ (k : Nat), (k : Int) ≤ c.tides → ∀ l, rowB c l = true → (On (nxS c) (agS tt c) k c.tides.toNat (first c) (stL k l) ↔ onB c k l = true)
  | 0, _, l, hl => by
    have hf := r.fords
    have h1 := (rowB_iff.1 hl).1
    unfold onB
    rw [on_zero, Bool.and_eq_true, decide_eq_true_eq, decide_eq_true_eq, FcL, Nat.sub_zero]
    constructor
    · rintro ⟨e, h2⟩
      have e2 : l = c.fords := by
        simp only [stL, first, State.mk.injEq] at e
        exact mkCells_inj (by omega) (by omega) e.2
      subst e2
      have hag := R_ag h2
      rw [show first c = stL 0 c.fords from rfl, agS_stL r hl] at hag
      exact ⟨by rw [if_pos ⟨hag, rfl⟩]; omega, h2⟩
    · rintro ⟨h2, h3⟩
      split at h2
      · rename_i q
        obtain ⟨_, q⟩ := q
        subst q
        exact ⟨rfl, h3⟩
      · omega
  | k + 1, hk, l, hl => by
    have hc := r.cells
    unfold onB
    rw [on_succ (by omega), Bool.and_eq_true, decide_eq_true_eq, decide_eq_true_eq, FcL_succ_pos, show c.tides.toNat - (k + 1) = c.tides.toNat - k - 1 by omega]
    constructor
    · rintro ⟨u, h1, h2, h3⟩
      obtain ⟨v1, v2⟩ := on_V r k (by omega) u h1
      obtain ⟨a, ha, rfl⟩ := stL_of r v1 v2
      have ha' := (mem_LL (by omega)).1 ha
      have h4 := (on_iff r k (by omega) a ha').1 h1
      unfold onB at h4
      rw [Bool.and_eq_true, decide_eq_true_eq] at h4
      have hag := R_ag h3
      rw [agS_stL r hl] at hag
      exact ⟨⟨hag, a, ha, (mem_nx_stL r ha' hl).1 h2, h4.1⟩, h3⟩
    · rintro ⟨⟨hag, a, ha, h1, h2⟩, h3⟩
      have ha' := (mem_LL (by omega)).1 ha
      refine ⟨stL k a, (on_iff r k (by omega) a ha').2 ?_, (mem_nx_stL r ha' hl).2 h1, h3⟩
      unfold onB
      rw [Bool.and_eq_true, decide_eq_true_eq, decide_eq_true_eq, show c.tides.toNat - k = (c.tides.toNat - k - 1) + 1 by omega, R_stL_pos r ha']
      exact ⟨h2, FcL_pos_ag h2, l, (mem_LL (by omega)).2 hl, h1, h3⟩
theorem onB_step {c : Channel} (r : Right c) {k : Nat} (hk : (k : Int) < c.tides) {a : List Int} (ha : rowB c a = true) (hp : 0 < FcL tt c k a) : onB c k a = (List.range (LL c).length).any fun b => onB c (k + 1) (li c b) && canB c.sands a (li c b) := by
  have hc := r.cells
  have hag := FcL_pos_ag hp
  rw [Bool.eq_iff_iff]
  unfold onB
  rw [Bool.and_eq_true, decide_eq_true_eq, decide_eq_true_eq, show c.tides.toNat - k = (c.tides.toNat - (k + 1)) + 1 by omega, R_stL_pos r ha, List.any_eq_true]
  constructor
  · rintro ⟨_, _, l, hl, h1, h2⟩
    obtain ⟨b, hb, e⟩ := List.getElem_of_mem hl
    have e2 : li c b = l := by unfold li; rw [← e]; simp [List.getD_eq_getElem?_getD, hb]
    refine ⟨b, by simpa using hb, ?_⟩
    rw [e2, Bool.and_eq_true, Bool.and_eq_true, decide_eq_true_eq, decide_eq_true_eq, FcL_succ_pos]
    have hag2 := R_ag h2
    rw [agS_stL r ((mem_LL (by omega)).1 hl)] at hag2
    exact ⟨⟨⟨hag2, a, (mem_LL (by omega)).2 ha, h1, hp⟩, h2⟩, h1⟩
  · rintro ⟨b, hb, h⟩
    have hb' : b < (LL c).length := by simpa using hb
    rw [Bool.and_eq_true, Bool.and_eq_true, decide_eq_true_eq, decide_eq_true_eq] at h
    exact ⟨hp, hag, li c b, (mem_LL (by omega)).2 (li_row r hb'), h.2, h.1.2⟩
end Go.Proofs.Wb

namespace Go.Proofs.Wb
open Go Go.Fw Go.Gx Go.Sb
set_option linter.unusedVariables false
set_option maxRecDepth 100000
theorem asc_ext {l m : List Int} (hl : l.Pairwise (· < ·)) (hm : m.Pairwise (· < ·)) (h : ∀ x, x ∈ l ↔ x ∈ m) : l = m := by
  refine List.Perm.eq_of_pairwise (le := fun x y : Int => x < y) (fun a b _ _ h1 h2 => by omega) hl hm ?_
  exact (List.perm_ext_iff_of_nodup (hl.imp (fun h => by omega)) (hm.imp (fun h => by omega))).2 h
theorem sorted_get {l : List Int} (h : l.Pairwise (· ≤ ·)) {i j : Nat} (hij : i ≤ j) (hj : j < l.length) : l.getD i 0 ≤ l.getD j 0 := by
  rcases Nat.lt_or_eq_of_le hij with h1 | h1
  · have := List.pairwise_iff_getElem.1 h i j (by omega) hj h1
    simpa [List.getD_eq_getElem?_getD, hj, (show i < l.length by omega)] using this
  · subst h1; exact Int.le_refl _
theorem cmp_get {l : List Int} {j : Nat} (hj : j < l.length) : l.toArray[j]! = l.getD j 0 := by
  simp [List.getD_eq_getElem?_getD, hj]
theorem compact_asc {l : List Int} (h : l.Pairwise (· ≤ ·)) : (Go.Lib.compact l).Pairwise (· < ·) := by
  unfold Go.Lib.compact Go.Lib.compactUpTo
  rw [List.pairwise_map, List.pairwise_filter]
  refine List.Pairwise.imp_of_mem ?_ (List.pairwise_lt_range (n := l.length))
  intro i j hi hj hij ki kj
  have hj' : j < l.length := by simpa using hj
  have hi' : i < l.length := by simpa using hi
  rw [cmp_get hi', cmp_get hj']
  have k2 : l.getD j 0 ≠ l.getD (j - 1) 0 := by
    unfold Go.Lib.keeps at kj
    rw [decide_eq_true_eq, cmp_get hj', cmp_get (by omega)] at kj
    exact kj.resolve_left (by omega)
  have h1 := sorted_get h (show i ≤ j - 1 by omega) (by omega)
  have h2 := sorted_get h (show j - 1 ≤ j by omega) hj'
  omega
theorem compact_mem {l : List Int} {x : Int} : x ∈ Go.Lib.compact l ↔ x ∈ l := by
  unfold Go.Lib.compact Go.Lib.compactUpTo
  simp only [List.mem_map, List.mem_filter, List.mem_range]
  constructor
  · rintro ⟨i, ⟨hi, _⟩, rfl⟩
    rw [cmp_get hi]
    exact getD_mem hi
  · intro hx
    obtain ⟨i, hi, rfl⟩ := List.getElem_of_mem hx
    have key : ∀ n i, i ≤ n → (hi : i < l.length) → ∃ j, (j < l.length ∧ Go.Lib.keeps l.toArray j = true) ∧ l.toArray[j]! = l[i] := by
      intro n
      induction n with
      | zero =>
        intro i h0 hi
        obtain rfl : i = 0 := by omega
        exact ⟨0, ⟨hi, by simp [Go.Lib.keeps]⟩, by simp [hi]⟩
      | succ n ih =>
        intro i h0 hi
        by_cases hk : Go.Lib.keeps l.toArray i = true
        · exact ⟨i, ⟨hi, hk⟩, by simp [hi]⟩
        · have h1 : ¬ (i = 0 ∨ l.toArray[i]! ≠ l.toArray[i - 1]!) := by
            intro q
            exact hk (by unfold Go.Lib.keeps; rw [decide_eq_true_eq]; exact q)
          have h2 : i ≠ 0 := fun q => h1 (.inl q)
          have h3 : l.toArray[i]! = l.toArray[i - 1]! := by
            by_cases q : l.toArray[i]! = l.toArray[i - 1]!
            · exact q
            · exact absurd (.inr q) h1
          obtain ⟨j, h4, h5⟩ := ih (i - 1) (by omega) (by omega)
          refine ⟨j, h4, ?_⟩
          rw [h5]
          have e1 : l.toArray[i]! = l[i] := by simp [hi]
          have e2 : l.toArray[i - 1]! = l[i - 1] := by simp [(show i - 1 < l.length by omega)]
          rw [← e1, h3, e2]
    exact key i i (Nat.le_refl _) hi
theorem filtL_asc {p : Nat → Bool} {n : Nat} : (filtL p n).Pairwise (· < ·) := by
  unfold filtL
  rw [List.pairwise_map]
  refine ((List.pairwise_lt_range (n := n)).filter p).imp ?_
  intro a b h
  omega
theorem mem_filtL {p : Nat → Bool} {n : Nat} {x : Int} : x ∈ filtL p n ↔ 0 ≤ x ∧ x < (n : Int) ∧ p x.toNat = true := by
  unfold filtL
  simp only [List.mem_map, List.mem_filter, List.mem_range]
  constructor
  · rintro ⟨i, ⟨hi, hp⟩, rfl⟩
    exact ⟨by omega, by omega, by simpa using hp⟩
  · rintro ⟨h0, h1, hp⟩
    exact ⟨x.toNat, ⟨by omega, hp⟩, by omega⟩
def whereL (c : Channel) (k i : Nat) : List Int := filtL (fun x => (LL c).any fun l => onB c k l && decide (l.getD i (-1) = (x : Int))) c.cells.toNat
theorem lev_iff {c : Channel} (r : Right c) {L : List (List State)} (hL : Levs c L) {k : Nat} (hk : (k : Int) ≤ c.tides) {s : State} : s ∈ L.getD k [] ↔ ∃ l ∈ LL c, s = stL k l ∧ onB c k l = true := by
  have hc := r.cells
  rw [hL.mem k hk]
  constructor
  · intro h
    obtain ⟨v1, v2⟩ := on_V r k hk s h
    obtain ⟨l, hl, rfl⟩ := stL_of r v1 v2
    exact ⟨l, hl, rfl, (on_iff r k hk l ((mem_LL (by omega)).1 hl)).1 h⟩
  · rintro ⟨l, hl, rfl, h⟩
    exact (on_iff r k hk l ((mem_LL (by omega)).1 hl)).2 h
theorem levs_ix {c : Channel} (r : Right c) {L : List (List State)} (hL : Levs c L) {k : Int} (h0 : 0 ≤ k) (hk : k ≤ c.tides) : ix L k = some (L.getD k.toNat []) := ix_eq [] h0 (by have := hL.len; omega)
theorem cells_loop {l : List State} {i : Nat} (hi : i < 3) (hl : l.length ≤ 1000000000000) : iterM FU (yB l (i : Int)) ⟨0, []⟩ = some (l.map fun s => cGet s.at_ i) := by
  have key := iterM_run (f := yB l (i : Int)) (fun j => ⟨(j : Int), (l.take j).map fun s => cGet s.at_ i⟩) l.length (b := l.map fun s => cGet s.at_ i) (fun j hj => ?_) ?_ FU (FU_lt2 (by omega))
  · exact key
  · have e : l.take (j + 1) = l.take j ++ [l[j]] := by rw [List.take_append_getElem]
    have hx : l.getD j default = l[j] := by simp [List.getD_eq_getElem?_getD, hj]
    unfold yB
    simp only
    rw [if_pos (by omega), ix_nat default hj, Option.bind_some, hx, ix3 hi, Option.bind_some, appc_eq (by simp; omega), Option.bind_some, addc_eq (by omega), Option.bind_some, e, List.map_append]
    rfl
  · unfold yB
    simp only
    rw [if_neg (by omega), List.take_length]
theorem whereL_prog {c : Channel} (r : Right c) {L : List (List State)} (hL : Levs c L) {k i : Nat} (hk : (k : Int) ≤ c.tides) (hi : i < c.fords.length) : Go.Lib.compact (sortI ((L.getD k []).map fun s => cGet s.at_ i)) = whereL c k i := by
  have hc := r.cells
  have hf := r.fords
  refine asc_ext (compact_asc (sortI_sorted _)) filtL_asc (fun x => ?_)
  rw [compact_mem, mem_sortI, List.mem_map]
  unfold whereL
  rw [mem_filtL, List.any_eq_true]
  constructor
  · rintro ⟨s, hs, rfl⟩
    obtain ⟨l, hl, rfl, ho⟩ := (lev_iff r hL hk).1 hs
    have hr := rowB_iff.1 ((mem_LL (by omega)).1 hl)
    have e : cGet (stL k l).at_ i = l.getD i (-1) := cGet_mk (by omega)
    have hm := hr.2.2 _ (getD_mem (l := l) (i := i) (d := -1) (by omega))
    rw [e]
    refine ⟨hm.1, by omega, l, hl, ?_⟩
    rw [ho, Bool.true_and, decide_eq_true_eq]
    omega
  · rintro ⟨h0, h1, l, hl, h⟩
    rw [Bool.and_eq_true, decide_eq_true_eq] at h
    refine ⟨stL k l, (lev_iff r hL hk).2 ⟨l, hl, rfl, h.1⟩, ?_⟩
    rw [show cGet (stL k l).at_ i = l.getD i (-1) from cGet_mk (by omega), h.2]
    omega
theorem Ym {c : Channel} (h : Few c) (k i : Int) : ya c k i = some (if chk c = 0 then (if inb k 0 c.tides = true then (if inb i 0 ((c.fords.length : Int) - 1) = true then (if cntS tt c = 0 then ⟨7, []⟩ else ⟨0, whereL c k.toNat i.toNat⟩) else ⟨1, []⟩) else ⟨3, []⟩) else ⟨chk c, []⟩) := by
  unfold ya
  rw [Zb, Option.bind_some]
  by_cases h0 : chk c = 0
  · have r := rightOf h0
    have hf := r.fords
    rw [if_pos h0, if_pos h0, Za, Option.bind_some, not_true_if]
    by_cases h1 : inb k 0 c.tides = true
    · rw [if_pos h1, if_pos h1, subc_eq (by omega), Option.bind_some, Q7, Option.bind_some, not_true_if]
      by_cases h2 : inb i 0 ((c.fords.length : Int) - 1) = true
      · rw [if_pos h2, if_pos h2]
        obtain ⟨L, e, hL⟩ := Q1 h
        rw [e, Option.bind_some, if_pos h0]
        by_cases h3 : cntS tt c = 0
        · rw [if_pos h3, if_pos h3, oc_inl]
        · rw [if_neg h3, if_neg h3, oc_inr]
          have hL' := hL h0 h3
          have k1 := inb_iff.1 h1
          have i1 := inb_iff.1 h2
          rw [levs_ix r hL' k1.1 k1.2, Option.bind_some, show i = ((i.toNat : Nat) : Int) by omega, cells_loop (by omega) (hL'.bnd _ (by omega)), Option.bind_some]
          have hlen := hL'.bnd k.toNat (by omega)
          unfold KB
          rw [if_pos (by rw [List.length_map]; omega), Option.bind_some]
          unfold ym
          rw [if_pos (by rw [sortI_length, List.length_map]; omega), Option.bind_some, whereL_prog r hL' (by omega) (by omega), Int.toNat_natCast]
      · rw [if_neg h2, if_neg h2]
    · rw [if_neg h1, if_neg h1]
  · rw [if_neg h0, if_neg h0]
end Go.Proofs.Wb

namespace Go.Proofs.Wb
open Go Go.Fw Go.Gx Go.Sb
set_option maxRecDepth 100000
theorem awake_true : zh = some true := by decide +kernel
end Go.Proofs.Wb

namespace Go.Proofs.Wb
open Go Go.Fw Go.Gx Go.Sb
set_option linter.unusedVariables false
set_option maxRecDepth 100000
def WideP (c : Channel) : Prop := (10 < c.fords.length ∨ 10 < c.sands.length ∨ 14 < c.sights.length) ∨ c.fords.length = 3 ∨ (8 < c.cells ∧ c.cells ≤ 10)
instance (c : Channel) : Decidable (WideP c) := by unfold WideP; infer_instance
end Go.Proofs.Wb

namespace Go.Proofs.Wb
open Go Go.Fw Go.Gx Go.Sb
set_option linter.unusedVariables false
set_option maxRecDepth 100000
theorem cntS_sum {cnt : Nat → Bool} {c : Channel} (r : Right c) : cntS cnt c = sumN (LL c) (FcL cnt c c.tides.toNat) := by
  have hc := r.cells
  have h := FcL_sum (cnt := cnt) r c.tides.toNat 0
  unfold cntS
  rw [Nat.add_zero] at h
  rw [← h]
  refine sumN_congr fun l hl => ?_
  rw [R, agS_stL r ((mem_LL (by omega)).1 hl)]
  by_cases hag : agP cnt c.sights ((c.tides.toNat : Nat) : Int) l = true
  · rw [if_pos hag, Nat.mul_one]
  · rw [if_neg hag, Nat.mul_zero, FcL_ag hag]
theorem YR {c : Channel} (h : Few c) : yc c = some (if chk c = 0 then ⟨(cntS tt c : Int), 0⟩ else ⟨0, chk c⟩) := ZV h
end Go.Proofs.Wb

namespace Go.Proofs.Wb
open Go Go.Fw Go.Gx Go.Sb
set_option linter.unusedVariables false
set_option maxRecDepth 100000
theorem last_on {c : Channel} (r : Right c) (h : cntS tt c ≠ 0) : ∃ l ∈ LL c, onB c c.tides.toNat l = true := by
  have hc := r.cells
  rw [cntS_sum r] at h
  obtain ⟨l, hl, h2⟩ := sumN_pos.1 (Nat.pos_of_ne_zero h)
  refine ⟨l, hl, ?_⟩
  unfold onB
  rw [decide_eq_true h2, Nat.sub_self, R, agS_stL r ((mem_LL (by omega)).1 hl), if_pos (FcL_pos_ag h2)]
  rfl
theorem lev_ne {c : Channel} (r : Right c) {L : List (List State)} (hL : Levs c L) (h : cntS tt c ≠ 0) : L.getD c.tides.toNat [] ≠ [] := by
  have ht := r.tides
  obtain ⟨l, hl, ho⟩ := last_on r h
  have := (lev_iff r hL (show ((c.tides.toNat : Nat) : Int) ≤ c.tides by omega)).2 ⟨l, hl, rfl, ho⟩
  intro q
  rw [q] at this
  exact absurd this (by simp)
def foMin (d : Int) (l : List Int) : Int := l.foldl min d
def foMax (d : Int) (l : List Int) : Int := l.foldl max d
theorem foMin_spec (d : Int) : ∀ l : List Int, foMin d l ≤ d ∧ (∀ x ∈ l, foMin d l ≤ x) ∧ (foMin d l = d ∨ foMin d l ∈ l) := by
  intro l
  induction l generalizing d with
  | nil => exact ⟨Int.le_refl _, by simp, .inl rfl⟩
  | cons a l ih =>
    obtain ⟨h1, h2, h3⟩ := ih (min d a)
    have e : foMin d (a :: l) = foMin (min d a) l := rfl
    rw [e]
    refine ⟨by omega, fun x hx => ?_, ?_⟩
    · rcases List.mem_cons.1 hx with rfl | hx
      · omega
      · exact h2 x hx
    · rcases h3 with h3 | h3
      · rcases Int.le_total d a with h4 | h4
        · left; rw [h3, Int.min_eq_left h4]
        · right; rw [h3, Int.min_eq_right h4]; simp
      · right; exact List.mem_cons_of_mem _ h3
theorem foMax_spec (d : Int) : ∀ l : List Int, d ≤ foMax d l ∧ (∀ x ∈ l, x ≤ foMax d l) ∧ (foMax d l = d ∨ foMax d l ∈ l) := by
  intro l
  induction l generalizing d with
  | nil => exact ⟨Int.le_refl _, by simp, .inl rfl⟩
  | cons a l ih =>
    obtain ⟨h1, h2, h3⟩ := ih (max d a)
    have e : foMax d (a :: l) = foMax (max d a) l := rfl
    rw [e]
    refine ⟨by omega, fun x hx => ?_, ?_⟩
    · rcases List.mem_cons.1 hx with rfl | hx
      · omega
      · exact h2 x hx
    · rcases h3 with h3 | h3
      · rcases Int.le_total d a with h4 | h4
        · right; rw [h3, Int.max_eq_right h4]; simp
        · left; rw [h3, Int.max_eq_left h4]
      · right; exact List.mem_cons_of_mem _ h3
def loL (l : List Int) : Int := foMin (l.headD 0) l
def hiL (l : List Int) : Int := foMax (l.headD 0) l
theorem loL_spec {l : List Int} (h : l ≠ []) : (∀ x ∈ l, loL l ≤ x) ∧ loL l ∈ l := by
  obtain ⟨h1, h2, h3⟩ := foMin_spec (l.headD 0) l
  refine ⟨h2, ?_⟩
  rcases h3 with h3 | h3
  · unfold loL; rw [h3]
    cases l with
    | nil => exact absurd rfl h
    | cons a l => simp
  · exact h3
theorem hiL_spec {l : List Int} (h : l ≠ []) : (∀ x ∈ l, x ≤ hiL l) ∧ hiL l ∈ l := by
  obtain ⟨h1, h2, h3⟩ := foMax_spec (l.headD 0) l
  refine ⟨h2, ?_⟩
  rcases h3 with h3 | h3
  · unfold hiL; rw [h3]
    cases l with
    | nil => exact absurd rfl h
    | cons a l => simp
  · exact h3
theorem jad (n x : Int) : zs n [x] = some (min n x) := by
  unfold zs
  have key := iterM_run (f := zT [x]) (fun j => ⟨if j = 0 then n else min n x, (j : Int)⟩) 1 (b := min n x) (fun j hj => ?_) ?_ FU (FU_lt (by omega))
  · show (iterM FU (zT [x]) ⟨if (0 : Nat) = 0 then n else min n x, ((0 : Nat) : Int)⟩).bind _ = _
    rw [key]; rfl
  · obtain rfl : j = 0 := by omega
    rfl
  · rfl
end Go.Proofs.Wb

namespace Go.Proofs.Wb
open Go Go.Fw Go.Gx Go.Sb
set_option linter.unusedVariables false
set_option maxRecDepth 100000
def anL (c : Channel) (l : List Int) : Nat := ((List.range c.fords.length).filter fun i => decide (l.getD i (-1) ≠ c.fords.getD i 0)).length
def anS (c : Channel) (s : State) : Nat := ((List.range c.fords.length).filter fun i => decide (cGet s.at_ i ≠ c.fords.getD i 0)).length
theorem anS_stL {c : Channel} (hf : c.fords.length ≤ 3) (k : Nat) (l : List Int) : anS c (stL k l) = anL c l := by
  unfold anS anL
  congr 1
  refine List.filter_congr fun i hi => ?_
  have : i < c.fords.length := by simpa using hi
  rw [show cGet (stL k l).at_ i = l.getD i (-1) from cGet_mk (by omega)]
theorem filt_succ (p : Nat → Bool) (j : Nat) : ((List.range (j + 1)).filter p).length = ((List.range j).filter p).length + if p j = true then 1 else 0 := by
  rw [List.range_succ, List.filter_append, List.length_append]
  by_cases h : p j = true
  · rw [if_pos h]; simp [h]
  · rw [if_neg h]; simp [h]
theorem filt_le (p : Nat → Bool) (j : Nat) : ((List.range j).filter p).length ≤ j := by
  have := List.length_filter_le p (List.range j)
  rwa [List.length_range] at this
theorem Ze {c : Channel} (hf : c.fords.length ≤ 3) (s : State) : qo s c.cells c.tides c.fords c.sands c.sights = some (anS c s : Int) := by
  unfold qo
  have key := iterM_run (f := yi c.fords s) (fun i => ⟨((((List.range i).filter fun i => decide (cGet s.at_ i ≠ c.fords.getD i 0)).length : Nat) : Int), (i : Int)⟩) c.fords.length (b := (anS c s : Int)) (fun i hi => ?_) ?_ FU (FU_lt (by omega))
  · show (iterM FU (yi c.fords s) ⟨((((List.range 0).filter fun i => decide (cGet s.at_ i ≠ c.fords.getD i 0)).length : Nat) : Int), ((0 : Nat) : Int)⟩).bind _ = _
    rw [key]; rfl
  · have hb := filt_le (fun i => decide (cGet s.at_ i ≠ c.fords.getD i 0)) i
    unfold yi
    simp only
    rw [if_pos (by omega), ix_nat 0 hi, Option.bind_some, ix3 (by omega), Option.bind_some, filt_succ]
    by_cases hq : cGet s.at_ i = c.fords.getD i 0
    · rw [if_pos hq, if_neg (by simp only [decide_eq_true_eq]; exact fun q => q hq), Option.bind_some, addc_eq (by omega), Option.bind_some]; rfl
    · rw [if_neg hq, if_pos (by simp only [decide_eq_true_eq]; exact hq), addc_eq (by omega), Option.bind_some, Option.bind_some, addc_eq (by omega), Option.bind_some]; rfl
  · unfold yi
    simp only
    rw [if_neg (by omega)]
    rfl
def anewV (c : Channel) (l : List State) : List Int := l.map fun s => (anS c s : Int)
theorem anew_fold {c : Channel} (hf : c.fords.length ≤ 3) {l : List State} (hl : l.length ≤ 1000000000000) (hn : l ≠ []) : y9 l c.cells c.tides c.fords c.sands c.sights = some ⟨loL (anewV c l), hiL (anewV c l)⟩ := by
  have hlen : 0 < l.length := List.length_pos_iff.2 hn
  have hx : ∀ j (hj : j < l.length), l.getD j default = l[j] := by intro j hj; simp [List.getD_eq_getElem?_getD, hj]
  have h0 := Ze hf l[0]
  have hd : (anewV c l).headD 0 = (anS c l[0] : Int) := by
    cases l with
    | nil => exact absurd rfl hn
    | cons a l => rfl
  unfold y9
  rw [ix_eq default (Int.le_refl 0) (by omega), Option.bind_some, Option.bind_some, show (0 : Int).toNat = 0 from rfl, hx 0 hlen]
  have h0' : qo (⟨l[0].after, (⟨l[0].at_.c0, l[0].at_.c1, l[0].at_.c2⟩ : Cells)⟩ : State) c.cells c.tides c.fords c.sands c.sights = _ := h0
  rw [h0', Option.bind_some, Option.bind_some, Option.bind_some]
  simp only
  have key := iterM_run (f := qM l c.cells c.tides c.fords c.sands c.sights) (fun j => ⟨(j : Int), foMin (anS c l[0] : Int) (anewV c (l.take j)), foMax (anS c l[0] : Int) (anewV c (l.take j))⟩) l.length (b := ⟨loL (anewV c l), hiL (anewV c l)⟩) (fun j hj => ?_) ?_ FU (FU_lt2 (by omega))
  · show (iterM FU (qM l c.cells c.tides c.fords c.sands c.sights) ⟨((0 : Nat) : Int), foMin (anS c l[0] : Int) (anewV c (l.take 0)), foMax (anS c l[0] : Int) (anewV c (l.take 0))⟩).bind _ = _
    rw [key]; rfl
  · have e : l.take (j + 1) = l.take j ++ [l[j]] := by rw [List.take_append_getElem]
    have hj' : qo (⟨l[j].after, (⟨l[j].at_.c0, l[j].at_.c1, l[j].at_.c2⟩ : Cells)⟩ : State) c.cells c.tides c.fords c.sands c.sights = _ := Ze hf l[j]
    unfold qM
    simp only
    rw [if_pos (by omega), ix_nat default hj, Option.bind_some, hx j hj, hj', Option.bind_some, jad, Option.bind_some, Option.bind_some, Option.bind_some, addc_eq (by omega), Option.bind_some, e]
    have ea : anewV c (l.take j ++ [l[j]]) = anewV c (l.take j) ++ [(anS c l[j] : Int)] := by unfold anewV; rw [List.map_append]; rfl
    rw [ea]
    unfold foMin foMax
    rw [List.foldl_append, List.foldl_append]
    rfl
  · unfold qM
    simp only
    rw [if_neg (by omega), List.take_length]
    unfold loL hiL
    rw [hd]
def anewQ (c : Channel) : List Int := ((LL c).filter fun l => onB c c.tides.toNat l).map fun l => (anL c l : Int)
def anewC (c : Channel) : Span := ⟨foMin 9 (anewQ c), foMax (-1) (anewQ c)⟩
theorem anew_prog {c : Channel} (r : Right c) {L : List (List State)} (hL : Levs c L) (h : cntS tt c ≠ 0) : (⟨loL (anewV c (L.getD c.tides.toNat [])), hiL (anewV c (L.getD c.tides.toNat []))⟩ : Span) = anewC c := by
  have ht := r.tides
  have hf := r.fords
  have hn := lev_ne r hL h
  have hne : anewV c (L.getD c.tides.toNat []) ≠ [] := by unfold anewV; simpa using hn
  have hm : ∀ x, x ∈ anewV c (L.getD c.tides.toNat []) ↔ x ∈ anewQ c := by
    intro x
    unfold anewV anewQ
    rw [List.mem_map, List.mem_map]
    constructor
    · rintro ⟨s, hs, rfl⟩
      obtain ⟨l, hl, rfl, ho⟩ := (lev_iff r hL (by omega)).1 hs
      exact ⟨l, List.mem_filter.2 ⟨hl, ho⟩, by rw [anS_stL hf.2]⟩
    · rintro ⟨l, hl, rfl⟩
      obtain ⟨hl, ho⟩ := List.mem_filter.1 hl
      exact ⟨stL c.tides.toNat l, (lev_iff r hL (by omega)).2 ⟨l, hl, rfl, ho⟩, by rw [anS_stL hf.2]⟩
  have hb : ∀ x ∈ anewQ c, 0 ≤ x ∧ x ≤ 3 := by
    intro x hx
    unfold anewQ at hx
    obtain ⟨l, _, rfl⟩ := List.mem_map.1 hx
    have := filt_le (fun i => decide (l.getD i (-1) ≠ c.fords.getD i 0)) c.fords.length
    unfold anL
    omega
  obtain ⟨a1, a2⟩ := loL_spec hne
  obtain ⟨b1, b2⟩ := hiL_spec hne
  obtain ⟨c1, c2, c3⟩ := foMin_spec 9 (anewQ c)
  obtain ⟨d1, d2, d3⟩ := foMax_spec (-1) (anewQ c)
  have a3 := (hm _).1 a2
  have b3 := (hm _).1 b2
  have a4 := hb _ a3
  have b4 := hb _ b3
  have c4 := c2 _ a3
  have d4 := d2 _ b3
  have c5 : foMin 9 (anewQ c) ∈ anewQ c := by
    rcases c3 with h | h
    · omega
    · exact h
  have d5 : foMax (-1) (anewQ c) ∈ anewQ c := by
    rcases d3 with h | h
    · omega
    · exact h
  have a6 := a1 _ ((hm _).2 c5)
  have b6 := b1 _ ((hm _).2 d5)
  unfold anewC
  congr 1 <;> omega
theorem Zt {c : Channel} (h : Few c) : zY c = some (if chk c = 0 then (if cntS tt c = 0 then ⟨⟨0, 0⟩, 7⟩ else ⟨anewC c, 0⟩) else ⟨⟨0, 0⟩, chk c⟩) := by
  unfold zY
  obtain ⟨L, e, hL⟩ := Q1 h
  rw [e, Option.bind_some]
  by_cases h0 : chk c = 0
  · have r := rightOf h0
    have hf := r.fords
    have ht := r.tides
    rw [if_pos h0, if_pos h0]
    by_cases h3 : cntS tt c = 0
    · rw [if_pos h3, if_pos h3, oc_inl]
    · rw [if_neg h3, if_neg h3, oc_inr]
      have hL' := hL h0 h3
      rw [levs_ix r hL' ht.1 (Int.le_refl _), Option.bind_some, anew_fold hf.2 (hL'.bnd _ (by omega)) (lev_ne r hL' h3), Option.bind_some, anew_prog r hL' h3]
  · rw [if_neg h0, if_neg h0, oc_inl]
end Go.Proofs.Wb

namespace Go.Proofs.Wb
open Go Go.Fw Go.Gx Go.Sb
set_option linter.unusedVariables false
set_option maxRecDepth 100000
theorem contains_loop2 {α : Type} {f : Int → Option (Int ⊕ (Unit ⊕ Int))} (l : List α) (d : α) (bad : α → Bool) (hl : l.length ≤ 1000000000000)
    (h : ∀ k : Nat, k < l.length → f (k : Int) = some (if bad (l.getD k d) = true then .inr (.inr (k : Int)) else .inl ((k : Int) + 1))) (he : f (l.length : Int) = some (.inr (.inl ()))) :
    (((iterM FU f 0).bind fun o => oc o (fun _ => (some (-1) : Option Int)) (fun r => some r)).bind fun t => some (decide (0 ≤ t))) = some (l.any bad) := by
  have key := iterM_any (f := f) 0 l.length (fun k => bad (l.getD k d)) (fun k => (k : Int)) (fun k hk => by
    have := h k hk
    rw [Int.zero_add]
    exact this) (by rw [Int.zero_add]; exact he) (N := FU) (FU_lt2 (by omega))
  rw [key]
  cases hf : (List.range l.length).find? (fun k => bad (l.getD k d)) with
  | none =>
    have : l.any bad = false := by
      rw [List.any_eq_false]
      intro x hx
      obtain ⟨i, hi, rfl⟩ := List.getElem_of_mem hx
      have h2 := List.find?_eq_none.1 hf i (by simpa using hi)
      simpa [List.getD_eq_getElem?_getD, hi] using h2
    rw [this]
    rfl
  | some k =>
    have h1 := List.find?_some hf
    have h2 : k < l.length := by simpa using List.mem_of_find?_eq_some hf
    have : l.any bad = true := by
      rw [List.any_eq_true]
      refine ⟨l[k], List.getElem_mem h2, ?_⟩
      simpa [List.getD_eq_getElem?_getD, h2] using h1
    rw [this, Option.bind_some, oc_inr, Option.bind_some, decide_eq_true (show (0 : Int) ≤ (k : Int) by omega)]
theorem YY {l : List State} (hl : l.length ≤ 1000000000000) (v : State) : jM l v = some (decide (v ∈ l)) := by
  unfold jM kL
  rw [contains_loop2 (f := jN l v) l default (fun x => decide (v = x)) hl (fun k hk => ?_) ?_]
  · congr 1
    rw [Bool.eq_iff_iff, List.any_eq_true, decide_eq_true_eq]
    constructor
    · rintro ⟨x, hx, he⟩
      rw [decide_eq_true_eq] at he
      subst he; exact hx
    · intro h
      exact ⟨v, h, by simp⟩
  · unfold jN
    rw [if_neg (by omega)]
  · unfold jN
    rw [if_pos (by omega), ix_nat default hk, Option.bind_some]
    show (if v = l.getD k default then _ else _) = _
    by_cases h : v = l.getD k default
    · rw [if_pos h, if_pos (by simpa using h)]
    · rw [if_neg h, if_neg (by simpa using h), addc_eq (by omega), Option.bind_some]
def mvI (x y : Int) : Int := max (x - y) (y - x)
def sumI (f : Nat → Int) : Nat → Int
  | 0 => 0
  | n + 1 => sumI f n + f n
theorem sumI_bnd {f : Nat → Int} {B : Int} : ∀ n, (∀ i, i < n → 0 ≤ f i ∧ f i ≤ B) → 0 ≤ sumI f n ∧ sumI f n ≤ n * B
  | 0, _ => by simp [sumI]
  | n + 1, h => by
    have h1 := sumI_bnd n (fun i hi => h i (by omega))
    have h2 := h n (by omega)
    rw [sumI, show ((n + 1 : Nat) : Int) * B = n * B + B by rw [Int.natCast_add, Int.add_mul]; simp]
    omega
theorem sumI_congr {f g : Nat → Int} : ∀ n, (∀ i, i < n → f i = g i) → sumI f n = sumI g n
  | 0, _ => rfl
  | n + 1, h => by rw [sumI, sumI, sumI_congr n (fun i hi => h i (by omega)), h n (by omega)]
def movS (s t : State) : Int := sumI (fun i => mvI (cGet s.at_ i) (cGet t.at_ i)) 3
def movL (a b : List Int) : Int := sumI (fun i => mvI (a.getD i (-1)) (b.getD i (-1))) a.length
theorem movS_stL {a b : List Int} (h : a.length = b.length) (h3 : a.length ≤ 3) (j k : Nat) : movS (stL j a) (stL k b) = movL a b := by
  have e : ∀ i, i < 3 → (fun i => mvI (cGet (stL j a).at_ i) (cGet (stL k b).at_ i)) i = (fun i => mvI (a.getD i (-1)) (b.getD i (-1))) i := by
    intro i hi
    show mvI (cGet (mkCells a) i) (cGet (mkCells b) i) = _
    rw [cGet_mk hi, cGet_mk hi]
  unfold movS movL
  rw [sumI_congr 3 e]
  have z : ∀ i, a.length ≤ i → mvI (a.getD i (-1)) (b.getD i (-1)) = 0 := by
    intro i hi
    rw [List.getD_eq_getElem?_getD, List.getD_eq_getElem?_getD, List.getElem?_eq_none hi, List.getElem?_eq_none (by omega)]
    rfl
  have : a.length = 0 ∨ a.length = 1 ∨ a.length = 2 ∨ a.length = 3 := by omega
  rcases this with h | h | h | h <;> rw [h]
  · simp only [sumI, z 0 (by omega), z 1 (by omega), z 2 (by omega)]; rfl
  · simp only [sumI, z 1 (by omega), z 2 (by omega)]; omega
  · simp only [sumI, z 2 (by omega)]; omega
theorem VS_cell {c : Channel} (r : Right c) {s : State} (h : VS c s) {i : Nat} (hi : i < 3) : -1 ≤ cGet s.at_ i ∧ cGet s.at_ i ≤ 10 := by
  obtain ⟨⟨l, h1, h2⟩, _⟩ := h
  have hc := r.cells
  rw [h2, cGet_mk hi]
  by_cases hl : i < l.length
  · have := (rowB_iff.1 h1).2.2 _ (getD_mem (d := -1) hl)
    omega
  · rw [List.getD_eq_getElem?_getD, List.getElem?_eq_none (by omega)]
    simp
theorem movS_bnd {c : Channel} (r : Right c) {s t : State} (hs : VS c s) (ht : VS c t) : 0 ≤ movS s t ∧ movS s t ≤ 33 := by
  have := sumI_bnd (f := fun i => mvI (cGet s.at_ i) (cGet t.at_ i)) (B := 11) 3 (fun i hi => by
    have h1 := VS_cell r hs hi
    have h2 := VS_cell r ht hi
    unfold mvI
    omega)
  unfold movS
  omega
theorem ZS {c : Channel} (r : Right c) {s t : State} (hs : VS c s) (ht : VS c t) : Js s t = some (movS s t) := by
  unfold Js
  have key := iterM_run (f := yC s t) (fun i => ⟨sumI (fun i => mvI (cGet s.at_ i) (cGet t.at_ i)) i, (i : Int)⟩) 3 (b := movS s t) (fun i hi => ?_) ?_ FU (FU_lt (by omega))
  · show (iterM FU (yC s t) ⟨sumI (fun i => mvI (cGet s.at_ i) (cGet t.at_ i)) 0, ((0 : Nat) : Int)⟩).bind _ = _
    rw [key]; rfl
  · have h1 := VS_cell r hs hi
    have h2 := VS_cell r ht hi
    have h3 := sumI_bnd (f := fun i => mvI (cGet s.at_ i) (cGet t.at_ i)) (B := 11) i (fun j hj => by
      have h1 := VS_cell r hs (show j < 3 by omega)
      have h2 := VS_cell r ht (show j < 3 by omega)
      unfold mvI
      omega)
    unfold yC
    simp only
    rw [if_pos (by omega), ix3 hi, Option.bind_some, ix3 hi, Option.bind_some, subc_eq (by omega), Option.bind_some, Option.bind_some, subc_eq (by omega), Option.bind_some, addc_eq (by omega), Option.bind_some, addc_eq (by omega), Option.bind_some]
    rfl
  · unfold yC
    simp only
    rw [if_neg (by omega)]
    rfl
def FV (few : List (State × Int)) (x : State) : Int := (aget few x).getD 0
def stepC (X : List State) (few : List (State × Int)) (s : State) (p : Int × List (State × State)) (x : State) : Int × List (State × State) := if x ∈ X then (if p.1 < 0 ∨ movS s x + FV few x < p.1 then (movS s x + FV few x, aset p.2 s x) else p) else p
theorem calm_F2 {c : Channel} (r : Right c) {L : List (List State)} {k : Nat} (X : List State) (hX : ix L ((k : Int) + 1) = some X) (hXl : X.length ≤ 1000000000000) (hk : k < 100) {s : State} (hs : VS c s) (S : qP) (hSk : S.k10 = (k : Int)) (S1 : yP) (hB : ∀ x ∈ X, VS c x ∧ 0 ≤ FV S1.t27 x ∧ FV S1.t27 x ≤ 1000) : ∀ (xs : List State) (p : Int × List (State × State)),
    iterL (zm S ⟨c.cells, c.tides, L, rchL c⟩ s S1) xs ⟨p.1, p.2⟩ = some ⟨(xs.foldl (stepC X S1.t27 s) p).1, (xs.foldl (stepC X S1.t27 s) p).2⟩
  | [], p => rfl
  | x :: xs, p => by
    rw [iterL, List.foldl_cons]
    have h1 : zm S ⟨c.cells, c.tides, L, rchL c⟩ s S1 x ⟨p.1, p.2⟩ = some ⟨(stepC X S1.t27 s p x).1, (stepC X S1.t27 s p x).2⟩ := by
      unfold zm stepC
      simp only
      rw [hSk, addc_eq (by omega), Option.bind_some, hX, Option.bind_some, YY hXl, Option.bind_some, not_true_if]
      by_cases hx : x ∈ X
      · obtain ⟨b1, b2, b3⟩ := hB x hx
        have hm := movS_bnd r hs b1
        rw [if_pos (by simpa using hx), if_pos hx, ZS r hs b1, Option.bind_some]
        have e : (aget S1.t27 x).getD 0 = FV S1.t27 x := rfl
        rw [e, addc_eq (by omega), Option.bind_some]
        by_cases h0 : p.1 < 0
        · rw [if_pos h0, Option.bind_some, if_pos rfl, if_pos (.inl h0)]; rfl
        · rw [if_neg h0, Option.bind_some]
          by_cases h2 : movS s x + FV S1.t27 x < p.1
          · rw [if_pos (by simpa using h2), if_pos (.inr h2)]; rfl
          · rw [if_neg (by simpa using h2), if_neg (by rintro (q | q); exact h0 q; exact h2 q)]
      · rw [if_neg (by simpa using hx), if_neg hx]
    rw [h1, Option.bind_some]
    exact calm_F2 r X hX hXl hk hs S hSk S1 hB xs _
structure InvC (X : List State) (few : List (State × Int)) (s : State) (to0 : List (State × State)) (P : List State) (p : Int × List (State × State)) : Prop where
  same : ∀ t, t ≠ s → aget p.2 t = aget to0 t
  best : (p.1 = -1 ∧ ∀ y ∈ P, y ∉ X) ∨ (0 ≤ p.1 ∧ (∃ x ∈ P, x ∈ X ∧ aget p.2 s = some x ∧ p.1 = movS s x + FV few x) ∧ ∀ y ∈ P, y ∈ X → p.1 ≤ movS s y + FV few y)
theorem invC_step {X : List State} {few : List (State × Int)} {s : State} {to0 : List (State × State)} (hB : ∀ x ∈ X, 0 ≤ movS s x ∧ 0 ≤ FV few x) {P : List State} {p : Int × List (State × State)} (h : InvC X few s to0 P p) (x : State) : InvC X few s to0 (P ++ [x]) (stepC X few s p x) := by
  obtain ⟨h1, h2⟩ := h
  unfold stepC
  by_cases hx : x ∈ X
  · have hb := hB x hx
    rw [if_pos hx]
    by_cases h3 : p.1 < 0 ∨ movS s x + FV few x < p.1
    · rw [if_pos h3]
      refine ⟨fun t ht => ?_, .inr ⟨by simp only; omega, ⟨x, by simp, hx, ?_, rfl⟩, fun y hy hyX => ?_⟩⟩
      · simp only
        rw [aget_aset, if_neg ht]
        exact h1 t ht
      · simp only
        rw [aget_aset, if_pos rfl]
      · simp only
        rcases List.mem_append.1 hy with hy | hy
        · rcases h2 with ⟨_, h2⟩ | ⟨h4, _, h2⟩
          · exact absurd hyX (h2 y hy)
          · have := h2 y hy hyX
            rcases h3 with h3 | h3 <;> omega
        · rw [List.mem_singleton] at hy
          subst hy
          exact Int.le_refl _
    · rw [if_neg h3]
      refine ⟨h1, ?_⟩
      rcases h2 with ⟨h2, _⟩ | ⟨h4, ⟨z, hz, hzX, h5, h6⟩, h2⟩
      · exact absurd (.inl (by omega)) h3
      · refine .inr ⟨h4, ⟨z, List.mem_append_left _ hz, hzX, h5, h6⟩, fun y hy hyX => ?_⟩
        rcases List.mem_append.1 hy with hy | hy
        · exact h2 y hy hyX
        · rw [List.mem_singleton] at hy
          subst hy
          have : ¬ movS s y + FV few y < p.1 := fun q => h3 (.inr q)
          omega
  · rw [if_neg hx]
    refine ⟨h1, ?_⟩
    have hno : ∀ y ∈ P ++ [x], y ∈ X → y ∈ P := by
      intro y hy hyX
      rcases List.mem_append.1 hy with hy | hy
      · exact hy
      · rw [List.mem_singleton] at hy
        subst hy
        exact absurd hyX hx
    rcases h2 with ⟨h2, h3⟩ | ⟨h4, ⟨z, hz, hzX, h5, h6⟩, h2⟩
    · exact .inl ⟨h2, fun y hy hyX => h3 y (hno y hy hyX) hyX⟩
    · exact .inr ⟨h4, ⟨z, List.mem_append_left _ hz, hzX, h5, h6⟩, fun y hy hyX => h2 y (hno y hy hyX) hyX⟩
theorem invC_fold {X : List State} {few : List (State × Int)} {s : State} {to0 : List (State × State)} (hB : ∀ x ∈ X, 0 ≤ movS s x ∧ 0 ≤ FV few x) : ∀ (xs P : List State) (p : Int × List (State × State)), InvC X few s to0 P p → InvC X few s to0 (P ++ xs) (xs.foldl (stepC X few s) p)
  | [], P, p, h => by rw [List.append_nil]; exact h
  | x :: xs, P, p, h => by
    have := invC_fold hB xs (P ++ [x]) _ (invC_step hB h x)
    rw [List.append_assoc] at this
    exact this
def GoodC (c : Channel) (X : List State) (few : List (State × Int)) (to : List (State × State)) (s : State) : Prop := ∃ x, aget to s = some x ∧ x ∈ nxS c s ∧ x ∈ X ∧ aget few s = some (movS s x + FV few x) ∧ ∀ y ∈ nxS c s, y ∈ X → movS s x + FV few x ≤ movS s y + FV few y
def BndC (c : Channel) (few : List (State × Int)) : Prop := ∀ x, VS c x → 0 ≤ FV few x ∧ FV few x ≤ 33 * (c.tides - x.after)
def stepV (c : Channel) (X : List State) (q : List (State × State) × List (State × Int)) (s : State) : List (State × State) × List (State × Int) := (((nxS c s).foldl (stepC X q.2 s) (-1, q.1)).2, aset q.2 s ((nxS c s).foldl (stepC X q.2 s) (-1, q.1)).1)
structure LvlC (c : Channel) (k : Nat) (X : List State) (q0 : List (State × State) × List (State × Int)) (P : List State) (q : List (State × State) × List (State × Int)) : Prop where
  same : ∀ t : State, t.after ≠ (k : Int) → aget q.1 t = aget q0.1 t ∧ aget q.2 t = aget q0.2 t
  good : ∀ s ∈ P, GoodC c X q.2 q.1 s
  bnd : BndC c q.2
theorem FV_same {few few' : List (State × Int)} {x : State} (h : aget few x = aget few' x) : FV few x = FV few' x := by unfold FV; rw [h]
theorem lvl_step {c : Channel} (r : Right c) {k : Nat} (hk : (k : Int) < c.tides) {X : List State} (hX : ∀ x ∈ X, VS c x ∧ x.after = (k : Int) + 1) {q0 q : List (State × State) × List (State × Int)} {P : List State} (h : LvlC c k X q0 P q) {s : State} (hs : VS c s ∧ s.after = (k : Int)) (hex : ∃ x ∈ nxS c s, x ∈ X) (hP : ∀ t ∈ P, t.after = (k : Int)) : LvlC c k X q0 (P ++ [s]) (stepV c X q s) := by
  obtain ⟨h1, h2, h3⟩ := h
  have hB : ∀ x ∈ X, 0 ≤ movS s x ∧ 0 ≤ FV q.2 x := fun x hx => ⟨(movS_bnd r hs.1 (hX x hx).1).1, (h3 x (hX x hx).1).1⟩
  have inv := invC_fold (to0 := q.1) hB (nxS c s) [] (-1, q.1) ⟨fun _ _ => rfl, .inl ⟨rfl, by simp⟩⟩
  rw [List.nil_append] at inv
  obtain ⟨i1, i2⟩ := inv
  unfold stepV
  generalize (nxS c s).foldl (stepC X q.2 s) (-1, q.1) = p at i1 i2 ⊢
  obtain ⟨x0, hx0, hx0X⟩ := hex
  rcases i2 with ⟨_, i2⟩ | ⟨i3, ⟨x, hx, hxX, i4, i5⟩, i6⟩
  · exact absurd hx0X (i2 x0 hx0)
  have hsX : s ∉ X := fun hq => by have := (hX s hq).2; omega
  have eF : ∀ y : State, y ≠ s → aget (aset q.2 s p.1) y = aget q.2 y := fun y hy => by rw [aget_aset, if_neg hy]
  have eFX : ∀ y ∈ X, FV (aset q.2 s p.1) y = FV q.2 y := fun y hy => FV_same (eF y (fun e => hsX (e ▸ hy)))
  have gs : GoodC c X (aset q.2 s p.1) p.2 s := by
    refine ⟨x, i4, hx, hxX, ?_, fun y hy hyX => ?_⟩
    · rw [aget_aset, if_pos rfl, eFX x hxX, i5]
    · rw [eFX x hxX, eFX y hyX, ← i5]
      exact i6 y hy hyX
  refine ⟨fun t ht => ?_, fun t ht => ?_, fun y hy => ?_⟩
  · have hts : t ≠ s := fun e => ht (e ▸ hs.2)
    simp only
    rw [eF t hts, i1 t hts]
    exact h1 t ht
  · by_cases hts : t = s
    · rw [hts]; exact gs
    · have htP : t ∈ P := by
        rcases List.mem_append.1 ht with ht | ht
        · exact ht
        · exact absurd (List.mem_singleton.1 ht) hts
      obtain ⟨z, z1, z2, z3, z4, z5⟩ := h2 t htP
      refine ⟨z, ?_, z2, z3, ?_, fun y hy hyX => ?_⟩
      · simp only; rw [i1 t hts]; exact z1
      · simp only; rw [eF t hts, eFX z z3]; exact z4
      · simp only; rw [eFX z z3, eFX y hyX]; exact z5 y hy hyX
  · simp only
    by_cases hys : y = s
    · subst hys
      have e : FV (aset q.2 y p.1) y = p.1 := by unfold FV; rw [aget_aset, if_pos rfl]; rfl
      have m := movS_bnd r hs.1 (hX x hxX).1
      have b := h3 x (hX x hxX).1
      have a := (hX x hxX).2
      rw [e]
      omega
    · rw [FV_same (eF y hys)]
      exact h3 y hy
theorem lvl_fold {c : Channel} (r : Right c) {k : Nat} (hk : (k : Int) < c.tides) {X : List State} (hX : ∀ x ∈ X, VS c x ∧ x.after = (k : Int) + 1) {q0 : List (State × State) × List (State × Int)} : ∀ (l P : List State) (q : List (State × State) × List (State × Int)), LvlC c k X q0 P q → (∀ s ∈ l, (VS c s ∧ s.after = (k : Int)) ∧ ∃ x ∈ nxS c s, x ∈ X) → (∀ t ∈ P, t.after = (k : Int)) → LvlC c k X q0 (P ++ l) (l.foldl (stepV c X) q)
  | [], P, q, h, _, _ => by rw [List.append_nil]; exact h
  | s :: l, P, q, h, hl, hP => by
    have h1 := hl s (by simp)
    have := lvl_fold r hk hX l (P ++ [s]) _ (lvl_step r hk hX h h1.1 h1.2 hP) (fun t ht => hl t (List.mem_cons_of_mem _ ht)) (fun t ht => by
      rcases List.mem_append.1 ht with ht | ht
      · exact hP t ht
      · rw [List.mem_singleton] at ht; rw [ht]; exact h1.1.2)
    rw [List.append_assoc] at this
    exact this
theorem lev_next {c : Channel} (r : Right c) {L : List (List State)} (hL : Levs c L) {k : Nat} (hk : (k : Int) < c.tides) {s : State} (hs : s ∈ L.getD k []) : ∃ x ∈ nxS c s, x ∈ L.getD (k + 1) [] := by
  have ht := r.tides
  have h1 := (hL.mem k (by omega) s).1 hs
  have h2 := on_R (by omega) h1
  rw [show c.tides.toNat - k = (c.tides.toNat - k - 1) + 1 by omega, R_succ_pos] at h2
  obtain ⟨_, t, ht1, ht2⟩ := h2
  exact ⟨t, ht1, (hL.mem (k + 1) (by omega) t).2 ((on_succ (by omega)).2 ⟨s, h1, ht1, ht2⟩)⟩
theorem calm_L1 {c : Channel} (r : Right c) {L : List (List State)} (hL : Levs c L) {k : Nat} (hk : (k : Int) < c.tides) (S : qP) (hSk : S.k10 = (k : Int)) (q0 : List (State × State) × List (State × Int)) (hB : BndC c q0.2) :
    iterM FU (yM (L.getD k []) ⟨c.cells, c.tides, L, rchL c⟩ c S) ⟨0, q0.1, q0.2⟩ = some ⟨((L.getD k []).foldl (stepV c (L.getD (k + 1) [])) q0).1, ((L.getD k []).foldl (stepV c (L.getD (k + 1) [])) q0).2⟩ ∧ LvlC c k (L.getD (k + 1) []) q0 (L.getD k []) ((L.getD k []).foldl (stepV c (L.getD (k + 1) [])) q0) := by
  have ht := r.tides
  have hX : ∀ x ∈ L.getD (k + 1) [], VS c x ∧ x.after = (k : Int) + 1 := fun x hx => by
    have := hL.val (k + 1) (by omega) x hx
    exact ⟨this.1, by omega⟩
  have hl : ∀ s ∈ L.getD k [], (VS c s ∧ s.after = (k : Int)) ∧ ∃ x ∈ nxS c s, x ∈ L.getD (k + 1) [] := fun s hs => ⟨hL.val k (by omega) s hs, lev_next r hL hk hs⟩
  have h0 : LvlC c k (L.getD (k + 1) []) q0 [] q0 := ⟨fun _ _ => ⟨rfl, rfl⟩, by simp, hB⟩
  have fin := lvl_fold r hk hX (L.getD k []) [] q0 h0 hl (by simp)
  rw [List.nil_append] at fin
  refine ⟨?_, fin⟩
  have hixX : ix L ((k : Int) + 1) = some (L.getD (k + 1) []) := by
    have := levs_ix r hL (k := (k : Int) + 1) (by omega) (by omega)
    rw [this, show ((k : Int) + 1).toNat = k + 1 by omega]
  have hXl := hL.bnd (k + 1) (by omega)
  have hll := hL.bnd k (by omega)
  generalize L.getD k [] = l at *
  generalize L.getD (k + 1) [] = X at *
  have key := iterM_run (f := yM l ⟨c.cells, c.tides, L, rchL c⟩ c S) (fun j => ⟨(j : Int), ((l.take j).foldl (stepV c X) q0).1, ((l.take j).foldl (stepV c X) q0).2⟩) l.length (b := ⟨(l.foldl (stepV c X) q0).1, (l.foldl (stepV c X) q0).2⟩) (fun j hj => ?_) ?_ FU (FU_lt2 (by omega))
  · exact key
  · have e : l.take (j + 1) = l.take j ++ [l[j]] := by rw [List.take_append_getElem]
    have hx : l.getD j default = l[j] := by simp [List.getD_eq_getElem?_getD, hj]
    have hv := (hl l[j] (List.getElem_mem hj)).1
    have mid := lvl_fold r hk hX (l.take j) [] q0 h0 (fun s hs => hl s (List.mem_of_mem_take hs)) (by simp)
    have hb := mid.bnd
    unfold yM kM
    simp only
    rw [if_pos (by omega), ix_nat default hj, Option.bind_some, hx, Option.bind_some, if_pos (VS_next r hv.1)]
    have hf := calm_F2 r (L := L) X hixX hXl (by omega) hv.1 S hSk ⟨(j : Int), ((l.take j).foldl (stepV c X) q0).1, ((l.take j).foldl (stepV c X) q0).2⟩ (fun x hx => ⟨(hX x hx).1, (hb x (hX x hx).1).1, by have := (hb x (hX x hx).1).2; have := (hX x hx).2; simp only; omega⟩) (nxS c l[j]) (-1, ((l.take j).foldl (stepV c X) q0).1)
    unfold nxS at hf
    simp only at hf
    rw [hf, Option.bind_some, Option.bind_some, addc_eq (by omega), Option.bind_some, e, List.foldl_append]
    rfl
  · unfold yM
    simp only
    rw [if_neg (by omega), List.take_length]
end Go.Proofs.Wb

namespace Go.Proofs.Wb
open Go Go.Fw Go.Gx Go.Sb
set_option linter.unusedVariables false
set_option maxRecDepth 100000
def calmC (c : Channel) (L : List (List State)) : Nat → List (State × State) × List (State × Int)
  | 0 => ([], [])
  | m + 1 => (L.getD (c.tides.toNat - 1 - m) []).foldl (stepV c (L.getD (c.tides.toNat - 1 - m + 1) [])) (calmC c L m)
structure CalmI (c : Channel) (L : List (List State)) (m : Nat) (q : List (State × State) × List (State × Int)) : Prop where
  bnd : BndC c q.2
  good : ∀ k : Nat, c.tides.toNat - m ≤ k → k < c.tides.toNat → ∀ s ∈ L.getD k [], GoodC c (L.getD (k + 1) []) q.2 q.1 s
  last : ∀ s : State, s.after = c.tides → aget q.2 s = none
theorem GoodC.same {c : Channel} {X : List State} {few few' : List (State × Int)} {to to' : List (State × State)} {s : State} (h : GoodC c X few to s) (h1 : aget to' s = aget to s) (h2 : aget few' s = aget few s) (h3 : ∀ x ∈ X, aget few' x = aget few x) : GoodC c X few' to' s := by
  obtain ⟨z, z1, z2, z3, z4, z5⟩ := h
  have e : ∀ x ∈ X, FV few' x = FV few x := fun x hx => FV_same (h3 x hx)
  refine ⟨z, by rw [h1]; exact z1, z2, z3, by rw [h2, e z z3]; exact z4, fun y hy hyX => ?_⟩
  rw [e z z3, e y hyX]
  exact z5 y hy hyX
theorem calmI {c : Channel} (r : Right c) {L : List (List State)} (hL : Levs c L) : ∀ m : Nat, m ≤ c.tides.toNat → CalmI c L m (calmC c L m)
  | 0, _ => ⟨fun x hx => by
      have : FV [] x = 0 := rfl
      obtain ⟨_, _, h⟩ := hx
      show 0 ≤ FV [] x ∧ FV [] x ≤ _
      rw [this]
      omega, fun k h1 h2 => by omega, fun s _ => rfl⟩
  | m + 1, hm => by
    have ih := calmI r hL m (by omega)
    have ht := r.tides
    have hk : ((c.tides.toNat - 1 - m : Nat) : Int) < c.tides := by omega
    obtain ⟨_, lv⟩ := calm_L1 r hL hk ⟨((c.tides.toNat - 1 - m : Nat) : Int), [], []⟩ rfl (calmC c L m) ih.bnd
    have e : calmC c L (m + 1) = (L.getD (c.tides.toNat - 1 - m) []).foldl (stepV c (L.getD (c.tides.toNat - 1 - m + 1) [])) (calmC c L m) := rfl
    rw [e]
    refine ⟨lv.bnd, fun k h1 h2 s hs => ?_, fun s hs => ?_⟩
    · by_cases h3 : k = c.tides.toNat - 1 - m
      · subst h3; exact lv.good s hs
      · have hv := hL.val k (by omega) s hs
        have s1 := lv.same s (by omega)
        refine (ih.good k (by omega) h2 s hs).same s1.1 s1.2 (fun x hx => ?_)
        have hv2 := hL.val (k + 1) (by omega) x hx
        exact (lv.same x (by omega)).2
    · rw [(lv.same s (by omega)).2]
      exact ih.last s hs
def fewC (c : Channel) (L : List (List State)) (s : State) : Int := FV (calmC c L c.tides.toNat).2 s
def pth (c : Channel) (L : List (List State)) : Nat → State
  | 0 => first c
  | j + 1 => (aget (calmC c L c.tides.toNat).1 (pth c L j)).getD ⟨0, ⟨0, 0, 0⟩⟩
theorem first_lev {c : Channel} (r : Right c) {L : List (List State)} (hL : Levs c L) (h : cntS tt c ≠ 0) : first c ∈ L.getD 0 [] := by
  have ht := r.tides
  refine (hL.mem 0 (by omega) _).2 (on_zero.2 ⟨rfl, ?_⟩)
  exact Nat.pos_of_ne_zero h
def crsC (c : Channel) (L : List (List State)) : List (List Int) := (List.range (c.tides.toNat + 1)).map fun j => clS c.fords.length (pth c L j)
theorem Zx {c : Channel} (h : Few c) : ∃ L, zk c = some (if chk c = 0 then (if cntS tt c = 0 then ⟨0, 7, []⟩ else ⟨fewC c L (first c), 0, crsC c L⟩) else ⟨0, chk c, []⟩) ∧ (chk c = 0 → cntS tt c ≠ 0 → Levs c L) := by
  unfold zk
  obtain ⟨L, e, hL⟩ := Q1 h
  refine ⟨L, ?_, hL⟩
  rw [e, Option.bind_some]
  by_cases h0 : chk c = 0
  · have r := rightOf h0
    have hf := r.fords
    have ht := r.tides
    rw [if_pos h0, if_pos h0]
    by_cases h3 : cntS tt c = 0
    · rw [if_pos h3, if_pos h3, oc_inl]
    · rw [if_neg h3, if_neg h3, oc_inr]
      have hL' := hL h0 h3
      have key := iterM_run (f := yR ⟨c.cells, c.tides, L, rchL c⟩ c) (fun m => ⟨c.tides - 1 - (m : Int), (calmC c L m).1, (calmC c L m).2⟩) c.tides.toNat (b := ⟨(calmC c L c.tides.toNat).1, (calmC c L c.tides.toNat).2⟩) (fun m hm => ?_) ?_ FU (FU_lt (by omega))
      · rw [subc_eq (by omega), Option.bind_some]
        have k0 : iterM FU (yR ⟨c.cells, c.tides, L, rchL c⟩ c) ⟨c.tides - 1, [], []⟩ = some ⟨(calmC c L c.tides.toNat).1, (calmC c L c.tides.toNat).2⟩ := by
          have : c.tides - 1 - ((0 : Nat) : Int) = c.tides - 1 := by omega
          rw [← key, this]
          rfl
        rw [k0, Option.bind_some, QL hf.2, Option.bind_some, YT hf.2, Option.bind_some]
        have key2 := iterM_run (f := yn c ⟨c.cells, c.tides, L, rchL c⟩ ⟨(calmC c L c.tides.toNat).1, (calmC c L c.tides.toNat).2⟩) (fun j => ⟨(j : Int), (pth c L j).after, (pth c L j).at_.c0, (pth c L j).at_.c1, (pth c L j).at_.c2, (List.range (j + 1)).map fun j => clS c.fords.length (pth c L j)⟩) c.tides.toNat (b := ⟨(pth c L c.tides.toNat).after, (pth c L c.tides.toNat).at_.c0, (pth c L c.tides.toNat).at_.c1, (pth c L c.tides.toNat).at_.c2, crsC c L⟩) (fun j hj => ?_) ?_ FU (FU_lt (by omega))
        · have k1 : iterM FU (yn c ⟨c.cells, c.tides, L, rchL c⟩ ⟨(calmC c L c.tides.toNat).1, (calmC c L c.tides.toNat).2⟩) ⟨0, (first c).after, (first c).at_.c0, (first c).at_.c1, (first c).at_.c2, [clS c.fords.length (first c)]⟩ = _ := key2
          show ((iterM FU (yn c ⟨c.cells, c.tides, L, rchL c⟩ ⟨(calmC c L c.tides.toNat).1, (calmC c L c.tides.toNat).2⟩) ⟨0, (first c).after, (first c).at_.c0, (first c).at_.c1, (first c).at_.c2, [clS c.fords.length (first c)]⟩).bind _) = _
          rw [k1, Option.bind_some, Option.bind_some]
          rfl
        · unfold yn
          simp only
          rw [if_pos (by omega), YT hf.2, Option.bind_some, appc_eq (by simp; omega), Option.bind_some, addc_eq (by omega), Option.bind_some, List.range_succ (n := j + 1), List.map_append]
          rfl
        · unfold yn
          simp only
          rw [if_neg (by omega)]
          rfl
      · have hI := calmI r hL' m (by omega)
        have ek : c.tides - 1 - (m : Int) = ((c.tides.toNat - 1 - m : Nat) : Int) := by omega
        obtain ⟨run, _⟩ := calm_L1 r hL' (k := c.tides.toNat - 1 - m) (by omega) ⟨((c.tides.toNat - 1 - m : Nat) : Int), (calmC c L m).1, (calmC c L m).2⟩ rfl (calmC c L m) hI.bnd
        unfold yR
        simp only
        rw [ek, if_pos (by omega), levs_ix r hL' (by omega) (by omega), Option.bind_some, Int.toNat_natCast, run, Option.bind_some, subc_eq (by omega), Option.bind_some, show ((c.tides.toNat - 1 - m : Nat) : Int) - 1 = c.tides - 1 - ((m + 1 : Nat) : Int) by omega]
        rfl
      · unfold yR
        simp only
        rw [if_neg (by omega)]
  · rw [if_neg h0, if_neg h0, oc_inl]
theorem lev_row {c : Channel} (r : Right c) {L : List (List State)} (hL : Levs c L) {k : Nat} (hk : (k : Int) ≤ c.tides) {s : State} (hs : s ∈ L.getD k []) : ∃ l ∈ LL c, s = stL k l ∧ onB c k l = true ∧ clS c.fords.length s = l ∧ rowB c l = true := by
  have hc := r.cells
  have hf := r.fords
  obtain ⟨l, hl, rfl, ho⟩ := (lev_iff r hL hk).1 hs
  have hr := (mem_LL (by omega)).1 hl
  have h1 := (rowB_iff.1 hr).1
  refine ⟨l, hl, rfl, ho, ?_, hr⟩
  unfold stL
  rw [← h1, clS_mk (by omega)]
theorem few_last {c : Channel} (r : Right c) {L : List (List State)} (hL : Levs c L) {s : State} (hs : s.after = c.tides) : fewC c L s = 0 := by
  unfold fewC FV
  rw [(calmI r hL c.tides.toNat (Nat.le_refl _)).last s hs]
  rfl
end Go.Proofs.Wb

namespace Go.Proofs.Wb
open Go Go.Fw Go.Gx Go.Sb
set_option linter.unusedVariables false
set_option maxRecDepth 100000
def stMin (ok : Nat → Bool) (val : Nat → Int) (t : Int) (a : Nat) : Int := if ok a = true then (if t < 0 ∨ val a < t then val a else t) else t
def minF (ok : Nat → Bool) (val : Nat → Int) (n : Nat) : Int := (List.range n).foldl (stMin ok val) (-1)
theorem minF_succ (ok : Nat → Bool) (val : Nat → Int) (n : Nat) : minF ok val (n + 1) = stMin ok val (minF ok val n) n := by
  unfold minF
  rw [List.range_succ, List.foldl_append]
  rfl
theorem minF_spec {ok : Nat → Bool} {val : Nat → Int} (hv : ∀ a, ok a = true → 0 ≤ val a) : ∀ n, (minF ok val n = -1 ∧ ∀ a, a < n → ok a = false) ∨ (0 ≤ minF ok val n ∧ (∃ a, a < n ∧ ok a = true ∧ minF ok val n = val a) ∧ ∀ a, a < n → ok a = true → minF ok val n ≤ val a)
  | 0 => .inl ⟨rfl, fun a h => absurd h (by omega)⟩
  | n + 1 => by
    have ih := minF_spec hv n
    rw [minF_succ]
    unfold stMin
    by_cases h : ok n = true
    · have h0 := hv n h
      rw [if_pos h]
      by_cases h2 : minF ok val n < 0 ∨ val n < minF ok val n
      · rw [if_pos h2]
        refine .inr ⟨h0, ⟨n, by omega, h, rfl⟩, fun a ha hok => ?_⟩
        by_cases e : a = n
        · subst e; exact Int.le_refl _
        · rcases ih with ⟨_, i2⟩ | ⟨i1, _, i3⟩
          · rw [i2 a (by omega)] at hok; exact absurd hok (by decide)
          · have := i3 a (by omega) hok
            omega
      · rw [if_neg h2]
        rcases ih with ⟨i1, _⟩ | ⟨i1, ⟨a, a1, a2, a3⟩, i3⟩
        · exact absurd (.inl (by omega)) h2
        · refine .inr ⟨i1, ⟨a, by omega, a2, a3⟩, fun a ha hok => ?_⟩
          by_cases e : a = n
          · subst e
            have : ¬ val a < minF ok val a := fun q => h2 (.inr q)
            omega
          · exact i3 a (by omega) hok
    · rw [if_neg h]
      have hf : ok n = false := by simpa using h
      rcases ih with ⟨i1, i2⟩ | ⟨i1, ⟨a, a1, a2, a3⟩, i3⟩
      · refine .inl ⟨i1, fun a ha => ?_⟩
        by_cases e : a = n
        · rw [e]; exact hf
        · exact i2 a (by omega)
      · refine .inr ⟨i1, ⟨a, by omega, a2, a3⟩, fun a ha hok => ?_⟩
        by_cases e : a = n
        · rw [e, hf] at hok; exact absurd hok (by decide)
        · exact i3 a (by omega) hok
def gC (c : Channel) : Nat → List Int → Int
  | 0, l => if onB c 0 l = true then 0 else -1
  | k + 1, b => if onB c (k + 1) b = true then minF (fun a => decide (0 ≤ gC c k (li c a)) && canB c.sands (li c a) b) (fun a => gC c k (li c a) + movL (li c a) b) (LL c).length else -1
theorem li_of {c : Channel} {l : List Int} (h : l ∈ LL c) : ∃ a, a < (LL c).length ∧ li c a = l := by
  obtain ⟨a, ha, e⟩ := List.getElem_of_mem h
  exact ⟨a, ha, by unfold li; rw [← e]; simp [List.getD_eq_getElem?_getD, ha]⟩
theorem li_mem {c : Channel} {a : Nat} (h : a < (LL c).length) : li c a ∈ LL c := by
  unfold li
  rw [List.getD_eq_getElem?_getD, List.getElem?_eq_getElem h]
  exact List.getElem_mem h
theorem movL_nonneg (a b : List Int) : 0 ≤ movL a b := by
  unfold movL
  have : ∀ n, 0 ≤ sumI (fun i => mvI (a.getD i (-1)) (b.getD i (-1))) n := by
    intro n
    induction n with
    | zero => exact Int.le_refl _
    | succ n ih => rw [sumI]; unfold mvI at *; omega
  exact this _
theorem gC_vals {c : Channel} {k : Nat} {b : List Int} : ∀ a, (decide (0 ≤ gC c k (li c a)) && canB c.sands (li c a) b) = true → 0 ≤ gC c k (li c a) + movL (li c a) b := by
  intro a h
  rw [Bool.and_eq_true, decide_eq_true_eq] at h
  have := movL_nonneg (li c a) b
  omega
theorem gC_off {c : Channel} {k : Nat} {l : List Int} (h : ¬ onB c k l = true) : gC c k l = -1 := by
  cases k with
  | zero => rw [gC, if_neg h]
  | succ k => rw [gC, if_neg h]
theorem onB_from {c : Channel} (r : Right c) {k : Nat} (hk : (k : Int) < c.tides) {b : List Int} (hb : b ∈ LL c) (h : onB c (k + 1) b = true) : ∃ a ∈ LL c, onB c k a = true ∧ canB c.sands a b = true := by
  have hc := r.cells
  have h' := h
  unfold onB at h'
  rw [Bool.and_eq_true, decide_eq_true_eq] at h'
  obtain ⟨_, a, ha, h1, h2⟩ := FcL_succ_pos.1 h'.1
  refine ⟨a, ha, ?_, h1⟩
  rw [onB_step r hk ((mem_LL (by omega)).1 ha) h2, List.any_eq_true]
  obtain ⟨i, hi, e⟩ := li_of hb
  exact ⟨i, by simpa using hi, by rw [e, h, h1]; rfl⟩
theorem gC_on {c : Channel} (r : Right c) : ∀ k : Nat, (k : Int) ≤ c.tides → ∀ l ∈ LL c, onB c k l = true → 0 ≤ gC c k l
  | 0, _, l, _, h => by rw [gC, if_pos h]; exact Int.le_refl _
  | k + 1, hk, l, hl, h => by
    rw [gC, if_pos h]
    obtain ⟨a, ha, h1, h2⟩ := onB_from r (by omega) hl h
    have h3 := gC_on r k (by omega) a ha h1
    obtain ⟨i, hi, e⟩ := li_of ha
    rcases minF_spec (gC_vals (c := c) (k := k) (b := l)) (LL c).length with ⟨_, q⟩ | ⟨q, _⟩
    · have := q i hi
      rw [e, decide_eq_true h3, h2] at this
      exact absurd this (by decide)
    · exact q
theorem gC_step {c : Channel} (r : Right c) {k : Nat} (hk : (k : Int) < c.tides) {b : List Int} (hb : b ∈ LL c) (h : onB c (k + 1) b = true) : (∃ a ∈ LL c, onB c k a = true ∧ canB c.sands a b = true ∧ gC c (k + 1) b = gC c k a + movL a b) ∧ ∀ a ∈ LL c, onB c k a = true → canB c.sands a b = true → gC c (k + 1) b ≤ gC c k a + movL a b := by
  have h0 := gC_on r (k + 1) (by omega) b hb h
  rw [gC, if_pos h] at h0 ⊢
  rcases minF_spec (gC_vals (c := c) (k := k) (b := b)) (LL c).length with ⟨q, _⟩ | ⟨_, ⟨i, i1, i2, i3⟩, q⟩
  · omega
  · constructor
    · rw [Bool.and_eq_true, decide_eq_true_eq] at i2
      refine ⟨li c i, li_mem i1, ?_, i2.2, i3⟩
      cases ho : onB c k (li c i) with
      | true => rfl
      | false =>
        have := gC_off (c := c) (k := k) (l := li c i) (by rw [ho]; decide)
        omega
    · intro a ha h1 h2
      obtain ⟨j, hj, e⟩ := li_of ha
      have h3 := gC_on r k (by omega) a ha h1
      have := q j hj (by rw [e, decide_eq_true h3, h2]; rfl)
      rw [e] at this
      exact this
theorem gC_few {c : Channel} (r : Right c) {L : List (List State)} (hL : Levs c L) (h : cntS tt c ≠ 0) : ∀ k : Nat, (k : Int) ≤ c.tides → (∀ a ∈ LL c, onB c k a = true → fewC c L (first c) ≤ gC c k a + fewC c L (stL k a)) ∧ ∃ a ∈ LL c, onB c k a = true ∧ fewC c L (first c) = gC c k a + fewC c L (stL k a)
  | 0, _ => by
    have ht := r.tides
    obtain ⟨l, hl, e, ho, ec, hr⟩ := lev_row r hL (by omega) (first_lev r hL h)
    have only : ∀ a, onB c 0 a = true → a = c.fords := by
      intro a ha
      unfold onB at ha
      rw [Bool.and_eq_true, decide_eq_true_eq, FcL] at ha
      by_cases q : agP tt c.sights 0 a = true ∧ a = c.fords
      · exact q.2
      · rw [if_neg q] at ha; omega
    have el := only l ho
    constructor
    · intro a ha h1
      have := only a h1
      subst this
      rw [gC, if_pos h1, Int.zero_add]
      exact Int.le_refl _
    · refine ⟨l, hl, ho, ?_⟩
      rw [gC, if_pos ho, Int.zero_add, e]
  | k + 1, hk => by
    have hf := r.fords
    have hc := r.cells
    have ht := r.tides
    obtain ⟨ih1, a, ha, ho, ih2⟩ := gC_few r hL h k (by omega)
    have lo : ∀ x ∈ LL c, onB c (k + 1) x = true → fewC c L (first c) ≤ gC c (k + 1) x + fewC c L (stL (k + 1) x) := by
      intro x hx hox
      obtain ⟨⟨y, hy, hoy, hcy, e⟩, _⟩ := gC_step r (by omega) hx hox
      have h1 := ih1 y hy hoy
      have hyr := (mem_LL (by omega)).1 hy
      have hxr := (mem_LL (by omega)).1 hx
      have hyL := (lev_iff r hL (k := k) (by omega)).2 ⟨y, hy, rfl, hoy⟩
      have hxL := (lev_iff r hL (k := k + 1) (by omega)).2 ⟨x, hx, rfl, hox⟩
      obtain ⟨z, z1, z2, z3, z4, z5⟩ := (calmI r hL c.tides.toNat (Nat.le_refl _)).good k (by omega) (by omega) _ hyL
      have h2 := z5 _ ((mem_nx_stL r hyr hxr).2 hcy) hxL
      have h3 : fewC c L (stL k y) = movS (stL k y) z + FV (calmC c L c.tides.toNat).2 z := by unfold fewC; unfold FV; rw [z4]; rfl
      rw [movS_stL (by rw [(rowB_iff.1 hyr).1, (rowB_iff.1 hxr).1]) (by rw [(rowB_iff.1 hyr).1]; omega)] at h2
      unfold fewC at *
      omega
    refine ⟨lo, ?_⟩
    have har := (mem_LL (by omega)).1 ha
    have haL := (lev_iff r hL (k := k) (by omega)).2 ⟨a, ha, rfl, ho⟩
    obtain ⟨z, z1, z2, z3, z4, z5⟩ := (calmI r hL c.tides.toNat (Nat.le_refl _)).good k (by omega) (by omega) _ haL
    obtain ⟨x, hx, e, hox, _, hxr⟩ := lev_row r hL (by omega) z3
    have h3 : fewC c L (stL k a) = movS (stL k a) z + FV (calmC c L c.tides.toNat).2 z := by unfold fewC; unfold FV; rw [z4]; rfl
    rw [e] at z2 h3
    have hcan := (mem_nx_stL r har hxr).1 z2
    have h4 := (gC_step r (by omega) hx hox).2 a ha ho hcan
    have h5 := lo x hx hox
    rw [movS_stL (by rw [(rowB_iff.1 har).1, (rowB_iff.1 hxr).1]) (by rw [(rowB_iff.1 har).1]; omega)] at h3
    refine ⟨x, hx, hox, ?_⟩
    unfold fewC at *
    omega
def bestC (c : Channel) : Int := minF (fun a => decide (0 ≤ gC c c.tides.toNat (li c a))) (fun a => gC c c.tides.toNat (li c a)) (LL c).length
theorem best_few {c : Channel} (r : Right c) {L : List (List State)} (hL : Levs c L) (h : cntS tt c ≠ 0) : bestC c = fewC c L (first c) := by
  have ht := r.tides
  obtain ⟨h1, a, ha, ho, h2⟩ := gC_few r hL h c.tides.toNat (by omega)
  have hz : ∀ x, fewC c L (stL c.tides.toNat x) = 0 := fun x => few_last r hL (by show ((c.tides.toNat : Nat) : Int) = _; omega)
  have hg := gC_on r c.tides.toNat (by omega) a ha ho
  obtain ⟨i, hi, e⟩ := li_of ha
  rw [hz] at h2
  unfold bestC
  rcases minF_spec (ok := fun a => decide (0 ≤ gC c c.tides.toNat (li c a))) (val := fun a => gC c c.tides.toNat (li c a)) (fun a h => by simpa using h) (LL c).length with ⟨_, q⟩ | ⟨_, ⟨j, j1, j2, j3⟩, q⟩
  · have := q i hi
    rw [e, decide_eq_true hg] at this
    exact absurd this (by decide)
  · have q1 := q i hi (by rw [e, decide_eq_true hg])
    rw [e] at q1
    rw [decide_eq_true_eq] at j2
    have hoj : onB c c.tides.toNat (li c j) = true := by
      cases hq : onB c c.tides.toNat (li c j) with
      | true => rfl
      | false =>
        have := gC_off (c := c) (k := c.tides.toNat) (l := li c j) (by rw [hq]; decide)
        omega
    have h3 := h1 _ (li_mem j1) hoj
    rw [hz] at h3
    omega
end Go.Proofs.Wb

namespace Go.Proofs.Wb
set_option maxHeartbeats 4000000
set_option maxRecDepth 100000
open Go Go.Fw Go.Gx Go.Sb
open Tryz
set_option linter.unusedVariables false

structure Yp where
  t5_1 : Int
  t5_2 : Int
def YK (shells0 : (List Int)) : Option Yp :=
 some (⟨0, 0⟩ : Yp)
theorem jak (shells0 : (List Int)) (qa0 : Option Addr) (na0 ca0 : Nat) (w : World) (hw : HV w (keys [] []) [] [] [(aB qa0, aO qa0, RU8.enc shells0)] w) (hna0 : shells0.length = na0) (hqa0 : AOK na0 qa0) (hla0 : na0 ≤ ca0) {res : Yp} (hm : YK shells0 = some res) :
    Calls Tryz.prog 62 #[.slice qa0 na0 ca0] w (fun en w' => ∃ l : Nat, en = .returned (ptr l 0) ∧ (True) ∧ HV w (keys [] []) [kc l #[.slice qa0 na0 ca0, .int .i64 res.t5_1, .int .u32 res.t5_2] 199] [] [] w') := by
  unfold YK at hm
  refine yv func62 Y ntmps62 Y (e := [(0, _)]) Y hw (jr (jo Y Y (qj (jg Y Y (jc Y Y Y (fun _ _ => kz (vs := [(0, _)]) (cells := [_, _, _]) Y Y) ?_)))))
  refine jL Y Y (fun b h1 => ?_)
  refine jo Y Y (jq (jy ?_))
  obtain rfl := sj hm
  refine jm Y (fun w hh => (.tmp Y .nil)) (fun w hh => ⟨b, rfl, trivial, hh.se [0] [] 1 Y Y Y rfl⟩)
structure Kb where
  r0 : Int
  h0_1 : Int
  h0_2 : Int
structure KY where
  h0_1 : Int
  h0_2 : Int
def zO (h00 : (List Int)) (h01 : Int) (h02 : Int) : Option Kb :=
 (if h01 < (h00.length : Int) then
 ((ix h00 h01).bind fun t29 =>
 some (IntKind.u32.wrap ((IntKind.u32.wrap (40503 * (IntKind.u32.wrap (h02 + 1)))) + (IntKind.u32.wrap (331 * (IntKind.u32.wrap t29)))))) else
 (some (IntKind.u32.wrap (40503 * (IntKind.u32.wrap (h02 + 1)))))).bind fun o =>
 ((addc h01 1).bind fun t38 =>
 if (h00.length : Int) ≤ t38 then
 (some (⟨0, (IntKind.u32.wrap (h02 + 1))⟩ : KY)) else
 (some (⟨t38, h02⟩ : KY))).bind fun o_1 =>
 some (⟨(IntKind.i64.wrap (IntKind.u32.wrap (BitVec.ofInt IntKind.u32.bits (IntKind.u32.wrap (BitVec.ofInt IntKind.u32.bits o ^^^ BitVec.ofInt IntKind.u32.bits (Int.fdiv o (2 ^ min (Int.toNat 9) IntKind.u32.bits))).toNat) &&& BitVec.ofInt IntKind.u32.bits 32767).toNat)), o_1.h0_1, o_1.h0_2⟩ : Kb)
theorem YX (h00 : (List Int)) (h01 : Int) (h02 : Int) (pb : Nat) (qa0 : Option Addr) (na0 ca0 : Nat) (w : World) (hw : HV w (keys [kc pb #[.slice qa0 na0 ca0, .int .i64 h01, .int .u32 h02] 199] []) [kc pb #[.slice qa0 na0 ca0, .int .i64 h01, .int .u32 h02] 199] [] [(aB qa0, aO qa0, RU8.enc h00)] w) (hna0 : h00.length = na0) (hqa0 : AOK na0 qa0) (hla0 : na0 ≤ ca0) {res : Kb} (hm : zO h00 h01 h02 = some res) :
    Calls Tryz.prog 180 #[ptr pb 0] w (fun en w' => ∃ l : Unit, en = .returned (.int .i64 res.r0) ∧ (True) ∧ HV w (keys [kc pb #[.slice qa0 na0 ca0, .int .i64 h01, .int .u32 h02] 199] []) [kc pb #[.slice qa0 na0 ca0, .int .i64 res.h0_1, .int .u32 res.h0_2] 199] [] [] w') := by
  unfold zO at hm
  refine yv func180 Y ntmps180 Y (e := [(0, _)]) Y hw (jr (jo Y Y (qj (jg Y Y (jc Y Y Y (fun _ _ => j5 Y) (qY 2 runUnderlying199 Y sizeOf197 Y Y (qs 0 isAgg197 Y Y Y Y ?_)))))))
  refine jc Y Y Y (fun _ _ => Z3 Y Y) (jc Y Y Y (fun _ _ => jar Y Y) (jo Y Y (jq (ji ?_))))
  obtain ⟨o, h1, h2⟩ := bindO hm
  refine j6 (ι := Unit) (fun l => True) (fun l => [(0, ptr pb 0), (3, .int .u32 o)]) (fun l => [kc pb #[.slice qa0 na0 ca0, .int .i64 h01, .int .u32 h02] 199]) (fun l => []) ?_ ?_
  ·replace hm := h1
   refine ji ?_
   refine qi none (.free 0 (.free 1 (.free 2 (.hoist 3 (.free 4 (.free 5 (.free 6 (.hoist 7 (.free 8 (.free 9 .done)))))))))) _ Y (by decide +kernel) (fun w k hh => hh.draw k) (fun w hh => hh) ?_
   refine zn Y Y Y (jp Y Y Y Y (fun _ _ => j5 Y) (Kf 1 runUnderlying199 sizeOf3 Y Y Y Y (K9 0 isAgg3 Y Y Y Y Y (zn Y Y Y (jp Y Y Y Y (fun _ _ => j5 Y) (Kf 0 runUnderlying199 sizeOf92 Y Y Y Y (K9 0 isAgg92 Y Y Y Y Y ?_)))))))
   refine jp Y Y Y Y (fun w _ => qh hna0 (runUnderlying92 w) Y) (jp Y Y Y Y (fun _ _ => Z4 Y Y) (j4 (ja ?_)))
   refine jv Y (fun h3 => ?_) (fun h3 => ?_)
   ·replace hm := ifD h3 hm
    refine qi none (.free 0 (.free 1 (.free 2 (.free 3 (.hoist 4 (.free 5 (.free 6 (.free 7 (.hoist 8 (.free 9 (.hoist 10 (.free 11 (.free 12 (.free 13 (.free 14 .done))))))))))))))) _ Y (by decide +kernel) (fun w k hh => hh.draw k) (fun w hh => hh) ?_
    refine zn Y Y Y (zn Y Y Y (jp Y Y Y Y (fun _ _ => j5 Y) (Kf 0 runUnderlying199 sizeOf92 Y Y Y Y (K9 0 isAgg92 Y Y Y Y Y (zn Y Y Y (jp Y Y Y Y (fun _ _ => j5 Y) (Kf 1 runUnderlying199 sizeOf3 Y Y Y Y ?_)))))))
    refine K9 0 isAgg3 Y Y Y Y Y ?_
    obtain ⟨t29, h4, hm⟩ := bindO hm
    refine jp Y Y Y Y (fun w _ => zM h4 (runUnderlying92 w) (sizeOf5 w) Y Y hna0 hqa0) (jz Y Y Y Y (fun w hh => ze RU8 0 h4 (isAgg5 w) Y (hh.seg 0 Y) Y (Nat.add_zero _).symm) (jp Y Y Y Y (fun w _ => jan (runUnderlying5 w) (runUnderlying197 w) Y) (jp Y Y Y Y (fun _ _ => jar Y Y) (jp Y Y Y Y (fun _ _ => Z3 Y Y) (jp Y Y Y Y (fun _ _ => kW Y) (j4 ?_))))))
    obtain rfl := sj hm
    exact jk () (trivial) (sE Y) (fun w hh => hh)
   replace hm := ifE h3 hm
   refine ju ?_
   obtain rfl := sj hm
   exact jk () (trivial) (sE Y) (fun w hh => hh)
  intro l hj
  replace hm := h2
  refine ja (ji ?_)
  obtain ⟨o_1, h5, h6⟩ := bindO hm
  refine j6 (ι := Unit) (fun l_1 => True) (fun l_1 => [(3, .int .u32 o)]) (fun l_1 => [kc pb #[.slice qa0 na0 ca0, .int .i64 o_1.h0_1, .int .u32 o_1.h0_2] 199]) (fun l_1 => []) ?_ ?_
  ·replace hm := h5
   refine jr (jg Y Y (jc Y Y Y (fun _ _ => j5 Y) (qY 1 runUnderlying199 Y sizeOf3 Y Y (qs 0 isAgg3 Y Y Y Y ?_))))
   obtain ⟨t38, h7, hm⟩ := bindO hm
   refine J7 h7 Y Y Y (jc Y Y Y (fun _ _ => j5 Y) (qY 1 runUnderlying199 Y sizeOf3 Y Y (yx (cs' := #[_, _, _]) (S' := [_]) 0 (fun w => sizeOf3 w) Y Y Y Y Y Y Y (jq (ji ?_)))))
   refine qi none (.free 0 (.free 1 (.free 2 (.hoist 3 (.free 4 (.free 5 (.free 6 (.hoist 7 (.free 8 (.free 9 .done)))))))))) _ Y (by decide +kernel) (fun w k hh => hh.draw k) (fun w hh => hh) ?_
   refine zn Y Y Y (jp Y Y Y Y (fun _ _ => j5 Y) (Kf 1 runUnderlying199 sizeOf3 Y Y Y Y (K9 0 isAgg3 Y Y Y Y Y (zn Y Y Y (jp Y Y Y Y (fun _ _ => j5 Y) (Kf 0 runUnderlying199 sizeOf92 Y Y Y Y (K9 0 isAgg92 Y Y Y Y Y ?_)))))))
   refine jp Y Y Y Y (fun w _ => qh hna0 (runUnderlying92 w) Y) (jp Y Y Y Y (fun _ _ => Yo Y Y) (j4 (ja ?_)))
   refine jv Y (fun h8 => ?_) (fun h8 => ?_)
   ·replace hm := ifD h8 hm
    refine je (jg Y Y (jg Y Y (jg Y Y (jc Y Y Y (fun _ _ => j5 Y) (qY 2 runUnderlying199 Y sizeOf197 Y Y (qs 0 isAgg197 Y Y Y Y (jc Y Y Y (fun _ _ => Z3 Y Y) ?_)))))))
    refine jc Y Y Y (fun _ _ => j5 Y) (qY 1 runUnderlying199 Y sizeOf3 Y Y (yx (cs' := #[_, _, _]) (S' := [_]) 0 (fun w => sizeOf3 w) Y Y Y Y Y Y Y (jc Y Y Y (fun _ _ => j5 Y) (qY 2 runUnderlying199 Y sizeOf197 Y Y (yx (cs' := #[_, _, _]) (S' := [_]) 0 (fun w => sizeOf197 w) Y Y Y Y Y Y Y (jt ?_))))))
    obtain rfl := sj hm
    exact jk () (trivial) (sE Y) (fun w hh => hh)
   replace hm := ifE h8 hm
   refine ju ?_
   obtain rfl := sj hm
   exact jk () (trivial) (sE Y) (fun w hh => hh)
  intro l_1 hj
  replace hm := h6
  refine ja (jr (jg Y Y (jg Y Y (jc Y Y Y (fun _ _ => jaJ Y Y (by decide)) (jc Y Y Y (fun _ _ => Z1 Y Y Y) (jc Y Y Y (fun _ _ => Z1 Y Y Y) (jc Y Y Y (fun w _ => jan (runUnderlying197 w) (runUnderlying3 w) Y) ?_)))))))
  refine jo Y Y (jq (jy ?_))
  obtain rfl := sj hm
  refine jm Y (fun w hh => (.tmp Y .nil)) (fun w hh => ⟨(), rfl, trivial, hh.se [0] [] 1 Y Y Y rfl⟩)
structure yD where
  r0 : Int
  h0_1 : Int
  h0_2 : Int
def jT (h00 : (List Int)) (h01 : Int) (h02 : Int) (n1 : Int) : Option yD :=
 (zO h00 h01 h02).bind fun t6 =>
 (addc n1 1).bind fun t8 =>
 (remc t6.r0 (max 1 t8)).bind fun t10 =>
 some (⟨t10, t6.h0_1, t6.h0_2⟩ : yD)
theorem ka (h00 : (List Int)) (h01 : Int) (h02 : Int) (n1 : Int) (pb : Nat) (qa0 : Option Addr) (na0 ca0 : Nat) (w : World) (hw : HV w (keys [kc pb #[.slice qa0 na0 ca0, .int .i64 h01, .int .u32 h02] 199] []) [kc pb #[.slice qa0 na0 ca0, .int .i64 h01, .int .u32 h02] 199] [] [(aB qa0, aO qa0, RU8.enc h00)] w) (hna0 : h00.length = na0) (hqa0 : AOK na0 qa0) (hla0 : na0 ≤ ca0) {res : yD} (hm : jT h00 h01 h02 n1 = some res) :
    Calls Tryz.prog 146 #[ptr pb 0, .int .i64 n1] w (fun en w' => ∃ l : Unit, en = .returned (.int .i64 res.r0) ∧ (True) ∧ HV w (keys [kc pb #[.slice qa0 na0 ca0, .int .i64 h01, .int .u32 h02] 199] []) [kc pb #[.slice qa0 na0 ca0, .int .i64 res.h0_1, .int .u32 res.h0_2] 199] [] [] w') := by
  unfold jT at hm
  refine yv func146 Y ntmps146 Y (e := [(0, _), (1, _)]) Y hw (jr (jo Y Y (qj (jg Y Y ?_))))
  obtain ⟨t6, h1, hm⟩ := bindO hm
  refine jd [_] [] Y Y Y Y Y Y Y call180 (fun w hh => YX h00 h01 h02 pb qa0 na0 ca0 w (HV.callee (S0 := [_]) (vs0 := []) hh (roR hh 0 Y roN)) hna0 hqa0 hla0 h1) (fun l h2 => ?_)
  refine kJ (S' := [_]) (vs' := []) [0] [] 0 Y Y Y Y (jg Y Y ?_)
  obtain ⟨t8, h3, hm⟩ := bindO hm
  refine J7 h3 Y Y Y (jc Y Y Y (fun _ _ => Y0 Y Y) ?_)
  obtain ⟨t10, h4, hm⟩ := bindO hm
  refine jc Y Y Y (fun _ _ => jaG h4 Y Y) (jo Y Y (jq (jy ?_)))
  obtain rfl := sj hm
  refine jm Y (fun w hh => (.tmp Y .nil)) (fun w hh => ⟨(), rfl, trivial, hh.se [0] [] 1 Y Y Y rfl⟩)
structure q9 where
  r0 : Int
  h0_1 : Int
  h0_2 : Int
def yI (h00 : (List Int)) (h01 : Int) (h02 : Int) (lo1 : Int) (hi2 : Int) : Option q9 :=
 (subc hi2 lo1).bind fun t11 =>
 (jT h00 h01 h02 t11).bind fun t12 =>
 (addc lo1 t12.r0).bind fun t13 =>
 some (⟨t13, t12.h0_1, t12.h0_2⟩ : q9)
theorem KL (h00 : (List Int)) (h01 : Int) (h02 : Int) (lo1 : Int) (hi2 : Int) (pb : Nat) (qa0 : Option Addr) (na0 ca0 : Nat) (w : World) (hw : HV w (keys [kc pb #[.slice qa0 na0 ca0, .int .i64 h01, .int .u32 h02] 199] []) [kc pb #[.slice qa0 na0 ca0, .int .i64 h01, .int .u32 h02] 199] [] [(aB qa0, aO qa0, RU8.enc h00)] w) (hna0 : h00.length = na0) (hqa0 : AOK na0 qa0) (hla0 : na0 ≤ ca0) {res : q9} (hm : yI h00 h01 h02 lo1 hi2 = some res) :
    Calls Tryz.prog 145 #[ptr pb 0, .int .i64 lo1, .int .i64 hi2] w (fun en w' => ∃ l : Unit, en = .returned (.int .i64 res.r0) ∧ (True) ∧ HV w (keys [kc pb #[.slice qa0 na0 ca0, .int .i64 h01, .int .u32 h02] 199] []) [kc pb #[.slice qa0 na0 ca0, .int .i64 res.h0_1, .int .u32 res.h0_2] 199] [] [] w') := by
  unfold yI at hm
  refine yv func145 Y ntmps145 Y (e := [(0, _), (1, _), (2, _)]) Y hw (jr (jo Y Y (qj (jg Y Y (jg Y Y (jg Y Y (jg Y Y ?_)))))))
  obtain ⟨t11, h1, hm⟩ := bindO hm
  refine jc Y Y Y (fun _ _ => qU h1 Y Y) ?_
  obtain ⟨t12, h2, hm⟩ := bindO hm
  refine jd [_] [] Y Y Y Y Y Y Y call146 (fun w hh => ka h00 h01 h02 t11 pb qa0 na0 ca0 w (HV.callee (S0 := [_]) (vs0 := []) hh (roR hh 0 Y roN)) hna0 hqa0 hla0 h2) (fun l h3 => ?_)
  refine kJ (S' := [_]) (vs' := []) [0] [] 0 Y Y Y Y ?_
  obtain ⟨t13, h4, hm⟩ := bindO hm
  refine J7 h4 Y Y Y (jo Y Y (jq (jy ?_)))
  obtain rfl := sj hm
  refine jm Y (fun w hh => (.tmp Y .nil)) (fun w hh => ⟨(), rfl, trivial, hh.se [0] [] 1 Y Y Y rfl⟩)
structure J9 where
  r0 : Bool
  h0_1 : Int
  h0_2 : Int
def yE (h00 : (List Int)) (h01 : Int) (h02 : Int) (n1 : Int) : Option J9 :=
 (subc n1 1).bind fun t7 =>
 (jT h00 h01 h02 t7).bind fun t8 =>
 some (⟨(decide (t8.r0 = 0)), t8.h0_1, t8.h0_2⟩ : J9)
theorem KC (h00 : (List Int)) (h01 : Int) (h02 : Int) (n1 : Int) (pb : Nat) (qa0 : Option Addr) (na0 ca0 : Nat) (w : World) (hw : HV w (keys [kc pb #[.slice qa0 na0 ca0, .int .i64 h01, .int .u32 h02] 199] []) [kc pb #[.slice qa0 na0 ca0, .int .i64 h01, .int .u32 h02] 199] [] [(aB qa0, aO qa0, RU8.enc h00)] w) (hna0 : h00.length = na0) (hqa0 : AOK na0 qa0) (hla0 : na0 ≤ ca0) {res : J9} (hm : yE h00 h01 h02 n1 = some res) :
    Calls Tryz.prog 68 #[ptr pb 0, .int .i64 n1] w (fun en w' => ∃ l : Unit, en = .returned (.bool res.r0) ∧ (True) ∧ HV w (keys [kc pb #[.slice qa0 na0 ca0, .int .i64 h01, .int .u32 h02] 199] []) [kc pb #[.slice qa0 na0 ca0, .int .i64 res.h0_1, .int .u32 res.h0_2] 199] [] [] w') := by
  unfold yE at hm
  refine yv func68 Y ntmps68 Y (e := [(0, _), (1, _)]) Y hw (jr (jo Y Y (qj (jg Y Y (jg Y Y ?_)))))
  obtain ⟨t7, h1, hm⟩ := bindO hm
  refine jc Y Y Y (fun _ _ => qU h1 Y Y) ?_
  obtain ⟨t8, h2, hm⟩ := bindO hm
  refine jd [_] [] Y Y Y Y Y Y Y call146 (fun w hh => ka h00 h01 h02 t7 pb qa0 na0 ca0 w (HV.callee (S0 := [_]) (vs0 := []) hh (roR hh 0 Y roN)) hna0 hqa0 hla0 h2) (fun l h3 => ?_)
  refine kJ (S' := [_]) (vs' := []) [0] [] 0 Y Y Y Y (jc Y Y Y (fun _ _ => JG Y Y) (jo Y Y (jq (jy ?_))))
  obtain rfl := sj hm
  refine jm Y (fun w hh => (.tmp Y .nil)) (fun w hh => ⟨(), rfl, trivial, hh.se [0] [] 1 Y Y Y rfl⟩)
structure yU where
  h0_1 : Int
  h0_2 : Int
  r0 : (List Int)
structure KG where
  h0_1 : Int
  h0_2 : Int
  out5 : (List Int)
structure zj where
  t9 : Int
  h0_1 : Int
  h0_2 : Int
  out5 : (List Int)
def yF (n1 : Int) (h00 : (List Int)) (s : zj) : Option (zj ⊕ KG) :=
 if s.t9 < (max 0 n1) then
 ((jT h00 s.h0_1 s.h0_2 s.t9).bind fun t15 =>
 (zP s.out5 t15.r0 [s.t9]).bind fun t18 =>
 (addc s.t9 1).bind fun t19 =>
 some (.inl (⟨t19, t15.h0_1, t15.h0_2, t18⟩ : zj))) else
 (some (.inr (⟨s.h0_1, s.h0_2, s.out5⟩ : KG)))
def zo (h00 : (List Int)) (h01 : Int) (h02 : Int) (n1 : Int) : Option yU :=
 (iterM FU (yF n1 h00) (⟨0, h01, h02, []⟩ : zj)).bind fun o =>
 some (⟨o.h0_1, o.h0_2, o.out5⟩ : yU)
theorem Yz (h00 : (List Int)) (h01 : Int) (h02 : Int) (n1 : Int) (pb : Nat) (qa0 : Option Addr) (na0 ca0 : Nat) (w : World) (hw : HV w (keys [kc pb #[.slice qa0 na0 ca0, .int .i64 h01, .int .u32 h02] 199] []) [kc pb #[.slice qa0 na0 ca0, .int .i64 h01, .int .u32 h02] 199] [] [(aB qa0, aO qa0, RU8.enc h00)] w) (hna0 : h00.length = na0) (hqa0 : AOK na0 qa0) (hla0 : na0 ≤ ca0) {res : yU} (hm : zo h00 h01 h02 n1 = some res) :
    Calls Tryz.prog 69 #[ptr pb 0, .int .i64 n1] w (fun en w' => ∃ l : VL, en = .returned (sL l) ∧ (VOK 1 l.n l.cap (RI.enc res.r0) l.sp l.q) ∧ HV w (keys [kc pb #[.slice qa0 na0 ca0, .int .i64 h01, .int .u32 h02] 199] []) [kc pb #[.slice qa0 na0 ca0, .int .i64 res.h0_1, .int .u32 res.h0_2] 199] [vL 3 l (RI.enc res.r0)] [] w') := by
  unfold zo at hm
  refine yv func69 Y ntmps69 Y (e := [(0, _), (1, _)]) Y hw (jr (jc Y Y Y (fun _ _ => yj Y) (qj (jc Y Y Y (fun _ _ => yj Y) (jq (ji (jr ?_)))))))
  refine jg Y Y (jc Y Y Y (fun _ _ => Y0 Y Y) (jg Y Y (jq (JK 3 ?_))))
  obtain ⟨o, h2, h3⟩ := bindO hm
  refine j6 (ι := VL) (fun l => VOK 1 l.n l.cap (RI.enc o.out5) l.sp l.q) (fun l => [(5, sL l)]) (fun l => [kc pb #[.slice qa0 na0 ca0, .int .i64 o.h0_1, .int .u32 o.h0_2] 199]) (fun l => [vL 3 l (RI.enc o.out5)]) ?_ ?_
  ·replace hm := h2
   refine jn ?_
   refine kf (ι := VL) hm (fun s l_1 => VOK 1 l_1.n l_1.cap (RI.enc s.out5) l_1.sp l_1.q) (fun s l_1 => [(0, ptr pb 0), (5, sL l_1), (8, .int .i64 (max 0 n1)), (9, .int .i64 s.t9)]) (fun s l_1 => [kc pb #[.slice qa0 na0 ca0, .int .i64 s.h0_1, .int .u32 s.h0_2] 199]) (fun s l_1 => [vL 3 l_1 (RI.enc s.out5)]) ⟨none, 0, 0, []⟩ (VOK.nil) (sE Y) (fun w hh => hh) (fun s l_1 r hpl hm h6 => ?_)
   have h5 := hpl
   unfold yF at hm
   refine jr (Kk Y Y Y (jq (ji ?_)))
   refine jv Y (fun h7 => ?_) (fun h7 => ?_)
   ·replace hm := ifD h7 hm
    refine ju (ja (ji (jn (jr (jg Y Y (jo Y Y (jq ?_)))))))
    refine je (jg Y Y (jg Y Y (jg Y Y ?_)))
    obtain ⟨t15, h8, hm⟩ := bindO hm
    refine jd [_] [] Y Y Y Y Y Y Y call146 (fun w hh => ka h00 s.h0_1 s.h0_2 s.t9 pb qa0 na0 ca0 w (HV.callee (S0 := [_]) (vs0 := []) hh (roR hh 0 Y roN)) hna0 hqa0 hla0 h8) (fun l_2 h9 => ?_)
    refine kJ (S' := [_]) (vs' := [_]) [0] [0] 0 Y Y Y Y (jg Y Y ?_)
    refine qu RI [s.t9] (ps := [(0, _)]) (cells := [_]) (fun w => runUnderlying22 w) (fun w => sizeOf3 w) (fun w => zeroValue3 w) Y Y Y Y Y Y Y Y (fun L h10 => ?_)
    obtain ⟨t18, h11, hm⟩ := bindO hm
    refine kJ (S' := [_]) (vs' := [_, _]) [0] [1, 0] 0 Y Y Y Y ?_
    refine jd [] [_, _] Y Y Y Y Y Y Y call149 (fun w hh => YA s.out5 t15.r0 [s.t9] ⟨l_1.q, l_1.n, l_1.cap, l_1.sp⟩ ⟨L.q, L.n, L.cap, L.sp⟩ w (HV.callee (S0 := []) (vs0 := [_, _]) hh roN) h5 h10 h11) (fun l_3 h12 => ?_)
    have h13 := h12
    refine kJ (S' := [_]) (vs' := [_, _]) [0] [0, 1] 0 Y Y Y Y (jo Y Y (jt (jw (ja (je ?_)))))
    obtain ⟨t19, h14, hm⟩ := bindO hm
    refine J7 h14 Y Y Y (jg Y Y (jt ?_))
    obtain rfl := sj hm
    refine ja ?_
    exact jH _ l_3 Y (h13) (sE Y) (hsE [0] [0] 0 Y Y Y Y)
   replace hm := ifE h7 hm
   refine kC (jl (jl (jI ?_)))
   obtain rfl := sj hm
   have hbo := h6 _ Y
   subst hbo
   exact jk l_1 (h5) (sE Y) (fun w hh => hh)
  intro l hj
  have h4 := hj
  replace hm := h3
  refine ja (jr (jg Y Y (jo Y Y (jq (jy ?_)))))
  obtain rfl := sj hm
  refine jm Y (fun w hh => (.tmp Y .nil)) (fun w hh => ⟨l, rfl, h4, hh.se [0] [0] 1 Y Y Y rfl⟩)
structure qT where
  r5 : Int
  t11 : Int
def qW (c0 : Channel) (cell1 : Int) (s : qT) : Option (qT ⊕ Int) :=
 if s.t11 < (c0.sands.length : Int) then
 (((ix c0.sands s.t11).bind fun t13 =>
 (if t13.span.lo ≤ cell1 then
 (some (decide (cell1 ≤ t13.span.hi))) else
 (some false)).bind fun o_2 =>
 if o_2 = true then
 (some (max s.r5 t13.reach)) else
 (some s.r5)).bind fun o_1 =>
 (addc s.t11 1).bind fun t31 =>
 some (.inl (⟨o_1, t31⟩ : qT))) else
 (some (.inr s.r5))
def q8 (c0 : Channel) (cell1 : Int) : Option Int :=
 (iterM FU (qW c0 cell1) (⟨0, 0⟩ : qT)).bind fun o =>
 some o
theorem KJ (c0 : Channel) (cell1 : Int) (qa0 : Option Addr) (na0 ca0 : Nat) (qa1 : Option Addr) (na1 ca1 : Nat) (qa2 : Option Addr) (na2 ca2 : Nat) (w : World) (hw : HV w (keys [] []) [] [] [(aB qa0, aO qa0, RI.enc c0.fords), (aB qa1, aO qa1, RSa.enc c0.sands), (aB qa2, aO qa2, RSi.enc c0.sights)] w) (hna0 : c0.fords.length = na0) (hqa0 : AOK na0 qa0) (hla0 : na0 ≤ ca0) (hna1 : c0.sands.length = na1) (hqa1 : AOK na1 qa1) (hla1 : na1 ≤ ca1) (hna2 : c0.sights.length = na2) (hqa2 : AOK na2 qa2) (hla2 : na2 ≤ ca2) {res : Int} (hm : q8 c0 cell1 = some res) :
    Calls Tryz.prog 63 #[.agg #[.int .i64 c0.cells, .int .i64 c0.tides, .slice qa0 na0 ca0, .slice qa1 na1 ca1, .slice qa2 na2 ca2], .int .i64 cell1] w (fun en w' => ∃ l : Unit, en = .returned (.int .i64 res) ∧ (True) ∧ HV w (keys [] []) [] [] [] w') := by
  unfold q8 at hm
  refine yv func63 Y ntmps63 Y (e := [(0, _), (1, _)]) Y hw (jr ?_)
  refine jL Y Y (fun b h1 => ?_)
  refine jo Y Y (qj (jo Y Y (jq (ji (jr (qY 3 runUnderlying26 Y sizeOf23 Y Y (qs 0 isAgg23 Y Y Y Y ?_)))))))
  refine jc Y Y Y (fun w _ => qh hna1 (runUnderlying23 w) Y) (jg Y Y (jq ?_))
  obtain ⟨o, h2, h3⟩ := bindO hm
  refine j6 (ι := Unit) (fun l => True) (fun l => [(5, .int .i64 o)]) (fun l => [kc b #[.int .i64 c0.cells, .int .i64 c0.tides, .slice qa0 na0 ca0, .slice qa1 na1 ca1, .slice qa2 na2 ca2] 26]) (fun l => []) ?_ ?_
  ·replace hm := h2
   refine jn ?_
   refine kf (ι := Unit) hm (fun s l_1 => True) (fun s l_1 => [(1, .int .i64 cell1), (5, .int .i64 s.r5), (9, .slice qa1 na1 ca1), (10, .int .i64 (c0.sands.length : Int)), (11, .int .i64 s.t11)]) (fun s l_1 => [kc b #[.int .i64 c0.cells, .int .i64 c0.tides, .slice qa0 na0 ca0, .slice qa1 na1 ca1, .slice qa2 na2 ca2] 26]) (fun s l_1 => []) () (trivial) (sE Y) (fun w hh => hh) (fun s l_1 r hpl hm h4 => ?_)
   unfold qW at hm
   refine jr (Kk Y Y Y (jq (ji ?_)))
   refine jv Y (fun h5 => ?_) (fun h5 => ?_)
   ·replace hm := ifD h5 hm
    refine ju (ja (ji ?_))
    obtain ⟨o_1, h6, h7⟩ := bindO hm
    refine j6 (ι := Unit) (fun l_2 => True) (fun l_2 => [(1, .int .i64 cell1), (5, .int .i64 o_1), (9, .slice qa1 na1 ca1), (10, .int .i64 (c0.sands.length : Int)), (11, .int .i64 s.t11)]) (fun l_2 => [kc b #[.int .i64 c0.cells, .int .i64 c0.tides, .slice qa0 na0 ca0, .slice qa1 na1 ca1, .slice qa2 na2 ca2] 26]) (fun l_2 => []) ?_ ?_
    ·replace hm := h6
     refine jn (jr ?_)
     obtain ⟨t13, h8, hm⟩ := bindO hm
     refine jc Y Y Y (fun w _ => zM h8 (runUnderlying23 w) (sizeOf98 w) Y Y hna1 hqa1) ?_
     refine jc Y Y Y (fun w hh => Jc RSa 0 [.int .i64 t13.span.lo, .int .i64 t13.span.hi, .int .i64 t13.reach] h8 (isAgg98 w) (sizeOf98 w) Y (hh.seg 1 Y) Y (Nat.add_zero _).symm) ?_
     refine js (fun w => zeroValue98 w) Y (fun b_1 h9 => ?_)
     refine jV (us := #[_, _, _]) (cs' := [_, _, _]) (S' := [_, _]) 0 (fun w => sizeOf98 w) Y Y Y Y Y Y Y (jq (ji ?_))
     obtain ⟨o_2, h10, h11⟩ := bindO hm
     refine j6 (ι := Unit) (fun l_3 => True) (fun l_3 => [(1, .int .i64 cell1), (5, .int .i64 s.r5), (7, ptr b_1 0), (9, .slice qa1 na1 ca1), (10, .int .i64 (c0.sands.length : Int)), (11, .int .i64 s.t11), (26, .bool o_2)]) (fun l_3 => [kc b_1 #[.int .i64 t13.span.lo, .int .i64 t13.span.hi, .int .i64 t13.reach] 98, kc b #[.int .i64 c0.cells, .int .i64 c0.tides, .slice qa0 na0 ca0, .slice qa1 na1 ca1, .slice qa2 na2 ca2] 26]) (fun l_3 => []) ?_ ?_
     ·replace hm := h10
      refine je (qY 0 runUnderlying98 Y sizeOf50 Y Y (qY 0 runUnderlying50 Y sizeOf3 Y Y (qs 0 isAgg3 Y Y Y Y (jg Y Y (jc Y Y Y (fun _ _ => ZD Y Y) (jg Y Y ?_))))))
      refine kb 20 Y (fun h12 => ?_) (fun h12 => ?_)
      ·replace hm := ifD h12 hm
       refine jb Y Y (jg Y Y (jb Y Y (qY 0 runUnderlying98 Y sizeOf50 Y Y (jb Y Y (qY 1 runUnderlying50 Y sizeOf3 Y Y (jb Y Y (qs 0 isAgg3 Y Y Y Y ?_)))))))
       refine jb Y Y (jc Y Y Y (fun _ _ => ZD Y Y) (qV Y Y Y (jt ?_)))
       obtain rfl := sj hm
       exact jk () (trivial) (sE Y) (fun w hh => hh)
      replace hm := ifE h12 hm
      refine g_k Y Y Y Y (g_k Y Y Y Y (g_k Y Y Y Y (g_k Y Y Y Y (g_k Y Y Y Y (y4 Y Y Y (jt ?_))))))
      obtain rfl := sj hm
      exact jk () (trivial) (sE Y) (fun w hh => hh)
     intro l_3 hj
     replace hm := h11
     refine ja ?_
     refine jv Y (fun h13 => ?_) (fun h13 => ?_)
     ·replace hm := ifT (h13) hm
      refine je (jg Y Y (qY 2 runUnderlying98 Y sizeOf3 Y Y (qs 0 isAgg3 Y Y Y Y (jc Y Y Y (fun _ _ => Y0 Y Y) (jo Y Y (jt (jw ?_)))))))
      obtain rfl := sj hm
      exact jk () (trivial) (sE Y) (hsE [1] [] 0 Y Y Y Y)
     replace hm := ifN h13 hm
     refine ju (jw ?_)
     obtain rfl := sj hm
     exact jk () (trivial) (sE Y) (hsE [1] [] 0 Y Y Y Y)
    intro l_2 hj
    replace hm := h7
    refine ja (je ?_)
    obtain ⟨t31, h14, hm⟩ := bindO hm
    refine J7 h14 Y Y Y (jg Y Y (jt ?_))
    obtain rfl := sj hm
    refine ja ?_
    exact jH _ () Y (trivial) (sE Y) (fun w hh => hh)
   replace hm := ifE h5 hm
   refine kC (jl (jl (jI ?_)))
   obtain rfl := sj hm
   have hbo := h4 _ Y
   subst hbo
   exact jk () (trivial) (sE Y) (fun w hh => hh)
  intro l hj
  replace hm := h3
  refine ja (jr (jg Y Y (jo Y Y (jq (jy ?_)))))
  obtain rfl := sj hm
  refine jm Y (fun w hh => (.tmp Y .nil)) (fun w hh => ⟨(), rfl, trivial, hh.se [] [] 3 Y Y Y rfl⟩)
structure za where
  b0_1 : Int
  b0_2 : Int
  r0 : (List (List Int))
structure Jt where
  b0_1 : Int
  b0_2 : Int
  out5 : (List (List Int))
structure ye where
  t17 : Int
  b0_1 : Int
  b0_2 : Int
  out5 : (List (List Int))
structure Jy where
  b0_1 : Int
  b0_2 : Int
  r0 : (List Int)
structure yd where
  t33 : Int
  b0_1 : Int
  b0_2 : Int
  r0 : (List Int)
structure Ju where
  b0_1 : Int
  b0_2 : Int
  r0 : (List Int)
def ql (t31 : yU) (t27 : (List Int)) (c1 : Channel) (b00 : (List Int)) (s_1 : yd) : Option (yd ⊕ Jy) :=
 if s_1.t33 < (t31.r0.length : Int) then
 (((ix t31.r0 s_1.t33).bind fun t35 =>
 (ix t27 t35).bind fun t39 =>
 (ix t27 t35).bind fun t45 =>
 (ix t27 t35).bind fun t52 =>
 (q8 c1 t45).bind fun t47 =>
 (negc t47).bind fun t48 =>
 (q8 c1 t52).bind fun t54 =>
 (yI b00 s_1.b0_1 s_1.b0_2 t48 t54).bind fun t55 =>
 (addc t39 t55.r0).bind fun t56 =>
 (if 0 ≤ t56 then
 (if t56 < c1.cells then
 (if t35 = 0 then
 ((subc (s_1.r0.length : Int) 1).bind fun t82 =>
 if t35 = t82 then
 (some true) else
 ((addc t35 1).bind fun t88 =>
 (ix s_1.r0 t88).bind fun t89 =>
 some (decide (t56 < t89)))) else
 ((subc t35 1).bind fun t72 =>
 (ix s_1.r0 t72).bind fun t73 =>
 if t73 < t56 then
 ((subc (s_1.r0.length : Int) 1).bind fun t82_1 =>
 if t35 = t82_1 then
 (some true) else
 ((addc t35 1).bind fun t88_1 =>
 (ix s_1.r0 t88_1).bind fun t89_1 =>
 some (decide (t56 < t89_1)))) else
 (some false))) else
 (some false)) else
 (some false)).bind fun o_3 =>
 if o_3 = true then
 ((ix s_1.r0 t35).bind fun t97 =>
 (some (s_1.r0.set (Int.toNat t35) t56)).bind fun r0 =>
 some (⟨t55.h0_1, t55.h0_2, r0⟩ : Ju)) else
 (some (⟨t55.h0_1, t55.h0_2, s_1.r0⟩ : Ju))).bind fun o_2 =>
 (addc s_1.t33 1).bind fun t98 =>
 some (.inl (⟨t98, o_2.b0_1, o_2.b0_2, o_2.r0⟩ : yd))) else
 (some (.inr (⟨s_1.b0_1, s_1.b0_2, s_1.r0⟩ : Jy)))
def qm (c1 : Channel) (b00 : (List Int)) (s : ye) : Option (ye ⊕ Jt) :=
 if s.t17 < c1.tides then
 ((subc (s.out5.length : Int) 1).bind fun t22 =>
 (ix s.out5 t22).bind fun t23 =>
 (zL t23).bind fun t25 =>
 (zL t25).bind fun t27 =>
 (zo b00 s.b0_1 s.b0_2 (t25.length : Int)).bind fun t31 =>
 (iterM FU (ql t31 t27 c1 b00) (⟨0, t31.h0_1, t31.h0_2, t25⟩ : yd)).bind fun o_1 =>
 (appc 24 s.out5 [o_1.r0]).bind fun t102 =>
 (addc s.t17 1).bind fun t103 =>
 some (.inl (⟨t103, o_1.b0_1, o_1.b0_2, t102⟩ : ye))) else
 (some (.inr (⟨s.b0_1, s.b0_2, s.out5⟩ : Jt)))
def qS (b00 : (List Int)) (b01 : Int) (b02 : Int) (c1 : Channel) : Option za :=
 (zL c1.fords).bind fun t13 =>
 (iterM FU (qm c1 b00) (⟨0, b01, b02, [t13]⟩ : ye)).bind fun o =>
 some (⟨o.b0_1, o.b0_2, o.out5⟩ : za)
theorem Qu (b00 : (List Int)) (b01 : Int) (b02 : Int) (c1 : Channel) (pb : Nat) (qa0 : Option Addr) (na0 ca0 : Nat) (qa1 : Option Addr) (na1 ca1 : Nat) (qa2 : Option Addr) (na2 ca2 : Nat) (qa3 : Option Addr) (na3 ca3 : Nat) (w : World) (hw : HV w (keys [kc pb #[.slice qa0 na0 ca0, .int .i64 b01, .int .u32 b02] 199] []) [kc pb #[.slice qa0 na0 ca0, .int .i64 b01, .int .u32 b02] 199] [] [(aB qa0, aO qa0, RU8.enc b00), (aB qa1, aO qa1, RI.enc c1.fords), (aB qa2, aO qa2, RSa.enc c1.sands), (aB qa3, aO qa3, RSi.enc c1.sights)] w) (hna0 : b00.length = na0) (hqa0 : AOK na0 qa0) (hla0 : na0 ≤ ca0) (hna1 : c1.fords.length = na1) (hqa1 : AOK na1 qa1) (hla1 : na1 ≤ ca1) (hna2 : c1.sands.length = na2) (hqa2 : AOK na2 qa2) (hla2 : na2 ≤ ca2) (hna3 : c1.sights.length = na3) (hqa3 : AOK na3 qa3) (hla3 : na3 ≤ ca3) {res : za} (hm : qS b00 b01 b02 c1 = some res) :
    Calls Tryz.prog 78 #[ptr pb 0, .agg #[.int .i64 c1.cells, .int .i64 c1.tides, .slice qa1 na1 ca1, .slice qa2 na2 ca2, .slice qa3 na3 ca3]] w (fun en w' => ∃ l : DL, en = .returned (sL l.v) ∧ (VOK 1 l.v.n l.v.cap (RwH.enc l.rs) l.v.sp l.v.q ∧ DOK RI res.r0 l.rs) ∧ HV w (keys [kc pb #[.slice qa0 na0 ca0, .int .i64 b01, .int .u32 b02] 199] []) [kc pb #[.slice qa0 na0 ca0, .int .i64 res.b0_1, .int .u32 res.b0_2] 199] [⟨22, RwH.enc l.rs, l.v.sp, l.v.q, dbl 3 RI res.r0 l.rs⟩] [] w') := by
  unfold qS at hm
  refine yv func78 Y ntmps78 Y (e := [(0, _), (1, _)]) Y hw (jr ?_)
  refine jL Y Y (fun b h3 => ?_)
  refine jc Y Y Y (fun _ _ => yj Y) (qj (qY 2 runUnderlying26 Y sizeOf22 Y Y (qs 0 isAgg22 Y Y Y Y ?_)))
  obtain ⟨t13, h4, hm⟩ := bindO hm
  refine jd [] [] Y Y Y Y Y Y Y call46 (fun w hh => Qp c1.fords qa1 na1 ca1 w (HV.callee (S0 := []) (vs0 := []) hh (roR hh 1 Y roN)) hna1 hqa1 hla1 h4) (fun l h5 => ?_)
  have h6 := h5
  refine kJ (S' := [_, _]) (vs' := [_]) [0, 1] [0] 0 Y Y Y Y ?_
  refine qu RwH [(⟨l.q, l.n, l.cap, l.sp⟩ : VL)] (ps := [(0, _)]) (cells := [_]) (fun w => runUnderlying41 w) (fun w => sizeOf22 w) (fun w => zeroValue22 w) Y Y Y Y Y Y Y Y (fun L h7 => ?_)
  refine Y9 (E2 := 3) RI 1 (Y : _ = ([[]] : List (List Int))) (fun h8 => ?_)
  refine kJ (S' := [_, _]) (vs' := [_, _]) [0, 1] [0, 1] 0 Y Y Y Y ?_
  refine Y8 RI (l' := [t13]) 0 l.n l.cap h8 h6 Y Y (fun h9 => ?_)
  have h10 : DOK RI [t13] [(⟨l.q, l.n, l.cap, l.sp⟩ : VL)] := h9
  refine ZU (S' := [_, _]) (vs' := [⟨22, RwH.enc [(⟨l.q, l.n, l.cap, l.sp⟩ : VL)], L.sp, L.q, dbl 3 RI [t13] [(⟨l.q, l.n, l.cap, l.sp⟩ : VL)]⟩]) [0, 1] [0] 0 (by decide) (by decide) Y Y Y ?_
  refine jo Y Y (jq (ji (jr (qY 1 runUnderlying26 Y sizeOf3 Y Y (qs 0 isAgg3 Y Y Y Y (jg Y Y (jq ?_)))))))
  obtain ⟨o, h11, h12⟩ := bindO hm
  refine j6 (ι := DL) (fun l_1 => VOK 1 l_1.v.n l_1.v.cap (RwH.enc l_1.rs) l_1.v.sp l_1.v.q ∧ DOK RI o.out5 l_1.rs) (fun l_1 => [(5, sL l_1.v)]) (fun l_1 => [kc b #[.int .i64 c1.cells, .int .i64 c1.tides, .slice qa1 na1 ca1, .slice qa2 na2 ca2, .slice qa3 na3 ca3] 26, kc pb #[.slice qa0 na0 ca0, .int .i64 o.b0_1, .int .u32 o.b0_2] 199]) (fun l_1 => [⟨22, RwH.enc l_1.rs, l_1.v.sp, l_1.v.q, dbl 3 RI o.out5 l_1.rs⟩]) ?_ ?_
  ·replace hm := h11
   refine jn ?_
   refine kf (ι := DL) hm (fun s l_2 => VOK 1 l_2.v.n l_2.v.cap (RwH.enc l_2.rs) l_2.v.sp l_2.v.q ∧ DOK RI s.out5 l_2.rs) (fun s l_2 => [(0, ptr pb 0), (3, ptr b 0), (5, sL l_2.v), (16, .int .i64 c1.tides), (17, .int .i64 s.t17)]) (fun s l_2 => [kc b #[.int .i64 c1.cells, .int .i64 c1.tides, .slice qa1 na1 ca1, .slice qa2 na2 ca2, .slice qa3 na3 ca3] 26, kc pb #[.slice qa0 na0 ca0, .int .i64 s.b0_1, .int .u32 s.b0_2] 199]) (fun s l_2 => [⟨22, RwH.enc l_2.rs, l_2.v.sp, l_2.v.q, dbl 3 RI s.out5 l_2.rs⟩]) (⟨⟨L.q, L.n, L.cap, L.sp⟩, [(⟨l.q, l.n, l.cap, l.sp⟩ : VL)]⟩) (⟨h7, h10⟩) (sE Y) (fun w hh => hh) (fun s l_2 r hpl hm h17 => ?_)
   obtain ⟨h15, h16⟩ := hpl
   unfold qm at hm
   refine jr (Kk Y Y Y (jq (ji ?_)))
   refine jv Y (fun h18 => ?_) (fun h18 => ?_)
   ·replace hm := ifD h18 hm
    refine ju (ja (ji (jn (jr (jg Y Y (jg Y Y (jc Y Y Y (fun w _ => zr (Eq.trans (h16).len (vlen RwH h15 Y)) (runUnderlying41 w) Y) ?_)))))))
    obtain ⟨t22, h19, hm⟩ := bindO hm
    refine jc Y Y Y (fun _ _ => qU h19 Y Y) ?_
    obtain ⟨t23, h20, hm⟩ := bindO hm
    obtain ⟨L_1, h21, h22⟩ := (h16).row h20
    refine jc Y Y Y (fun w _ => Jr h21 (runUnderlying41 w) (sizeOf22 w) Y Y (vlen RwH h15 Y) (vne h15)) (jc Y Y Y (fun w hh => ze RwH 0 h21 (isAgg22 w) Y (hh.vseg 0 Y h15) Y (Nat.add_zero _).symm) ?_)
    obtain ⟨t25, h23, hm⟩ := bindO hm
    refine jd [] [] Y Y Y Y Y Y Y call46 (fun w hh => Qp t23 (qA L_1.q) L_1.n L_1.cap w (HV.callee (S0 := []) (vs0 := []) hh (roC (hh.dsepA (S0 := []) (vs0 := []) 0 Y h20 h21 h22) roN)) (vlen RI h22 Y) (AOK.q (vne h22)) (h22).hle h23) (fun l_3 h24 => ?_)
    have h25 := h24
    refine kJ (S' := [_, _]) (vs' := [_, _]) [0, 1] [0, 1] 0 Y Y Y Y (jo Y Y (qj (jg Y Y ?_)))
    obtain ⟨t27, h26, hm⟩ := bindO hm
    refine jd [] [] Y Y Y Y Y Y Y call46 (fun w hh => Qp t25 (qA l_3.q) l_3.n l_3.cap w (HV.callee (S0 := []) (vs0 := []) hh (roC (hh.vsepA 0 Y h25) roN)) (vlen RI h25 Y) (AOK.q (vne h25)) (h25).hle h26) (fun l_4 h27 => ?_)
    have h28 := h27
    refine kJ (S' := [_, _]) (vs' := [_, _, _]) [0, 1] [0, 1, 2] 0 Y Y Y Y (jo Y Y (jq (ji (jr (jg Y Y (jg Y Y (jc Y Y Y (fun w _ => zr (vlen RI h25 Y) (runUnderlying22 w) Y) ?_)))))))
    obtain ⟨t31, h29, hm⟩ := bindO hm
    refine kJ (S' := [_, _]) (vs' := [_, _, _]) [1, 0] [0, 1, 2] 0 Y Y Y Y ?_
    refine jd [_] [] Y Y Y Y Y Y Y call69 (fun w hh => Yz b00 s.b0_1 s.b0_2 (t25.length : Int) pb qa0 na0 ca0 w (HV.callee (S0 := [_]) (vs0 := []) hh (roR hh 0 Y roN)) hna0 hqa0 hla0 h29) (fun l_5 h30 => ?_)
    have h31 := h30
    refine kJ (S' := [_, _]) (vs' := [_, _, _, _]) [0, 1] [0, 1, 2, 3] 0 Y Y Y Y (jc Y Y Y (fun w _ => zr (vlen RI h31 Y) (runUnderlying22 w) Y) (jg Y Y (jq ?_)))
    obtain ⟨o_1, h32, h33⟩ := bindO hm
    refine j6 (ι := Unit) (fun l_6 => VOK 1 l_3.n l_3.cap (RI.enc o_1.r0) l_3.sp l_3.q) (fun l_6 => [(0, ptr pb 0), (3, ptr b 0), (5, sL l_2.v), (6, sL l_3), (16, .int .i64 c1.tides), (17, .int .i64 s.t17)]) (fun l_6 => [kc pb #[.slice qa0 na0 ca0, .int .i64 o_1.b0_1, .int .u32 o_1.b0_2] 199, kc b #[.int .i64 c1.cells, .int .i64 c1.tides, .slice qa1 na1 ca1, .slice qa2 na2 ca2, .slice qa3 na3 ca3] 26]) (fun l_6 => [⟨22, RwH.enc l_2.rs, l_2.v.sp, l_2.v.q, dbl 3 RI s.out5 l_2.rs⟩, vL 3 l_3 (RI.enc o_1.r0)]) ?_ ?_
    ·replace hm := h32
     refine jn ?_
     refine kf (ι := Unit) hm (fun s_1 l_7 => VOK 1 l_3.n l_3.cap (RI.enc s_1.r0) l_3.sp l_3.q) (fun s_1 l_7 => [(0, ptr pb 0), (3, ptr b 0), (5, sL l_2.v), (6, sL l_3), (7, sL l_4), (16, .int .i64 c1.tides), (17, .int .i64 s.t17), (31, sL l_5), (32, .int .i64 (t31.r0.length : Int)), (33, .int .i64 s_1.t33)]) (fun s_1 l_7 => [kc pb #[.slice qa0 na0 ca0, .int .i64 s_1.b0_1, .int .u32 s_1.b0_2] 199, kc b #[.int .i64 c1.cells, .int .i64 c1.tides, .slice qa1 na1 ca1, .slice qa2 na2 ca2, .slice qa3 na3 ca3] 26]) (fun s_1 l_7 => [⟨22, RwH.enc l_2.rs, l_2.v.sp, l_2.v.q, dbl 3 RI s.out5 l_2.rs⟩, vL 3 l_3 (RI.enc s_1.r0), vL 3 l_4 (RI.enc t27), vL 3 l_5 (RI.enc t31.r0)]) () (h25) (sE Y) (hsE [0, 1] [3, 2, 1, 0] 0 Y Y Y Y) (fun s_1 l_7 r_1 hpl hm h36 => ?_)
     have h35 := hpl
     unfold ql at hm
     refine jr (Kk Y Y Y (jq (ji ?_)))
     refine jv Y (fun h37 => ?_) (fun h37 => ?_)
     ·replace hm := ifD h37 hm
      refine ju (ja (ji ?_))
      obtain ⟨o_2, h38, h39⟩ := bindO hm
      refine j6 (ι := Unit) (fun l_8 => VOK 1 l_3.n l_3.cap (RI.enc o_2.r0) l_3.sp l_3.q) (fun l_8 => [(0, ptr pb 0), (3, ptr b 0), (5, sL l_2.v), (6, sL l_3), (7, sL l_4), (16, .int .i64 c1.tides), (17, .int .i64 s.t17), (31, sL l_5), (32, .int .i64 (t31.r0.length : Int)), (33, .int .i64 s_1.t33)]) (fun l_8 => [kc pb #[.slice qa0 na0 ca0, .int .i64 o_2.b0_1, .int .u32 o_2.b0_2] 199, kc b #[.int .i64 c1.cells, .int .i64 c1.tides, .slice qa1 na1 ca1, .slice qa2 na2 ca2, .slice qa3 na3 ca3] 26]) (fun l_8 => [⟨22, RwH.enc l_2.rs, l_2.v.sp, l_2.v.q, dbl 3 RI s.out5 l_2.rs⟩, vL 3 l_3 (RI.enc o_2.r0), vL 3 l_4 (RI.enc t27), vL 3 l_5 (RI.enc t31.r0)]) ?_ ?_
      ·replace hm := h38
       refine jn (jr ?_)
       obtain ⟨t35, h41, hm⟩ := bindO hm
       refine jc Y Y Y (fun w _ => Jr h41 (runUnderlying22 w) (sizeOf3 w) Y Y (vlen RI h31 Y) (vne h31)) (jc Y Y Y (fun w hh => ze RI 0 h41 (isAgg3 w) Y (hh.vseg 3 Y h31) Y (Nat.add_zero _).symm) (jo Y Y (jq (ji ?_))))
       refine qi none (.free 0 (.free 1 (.free 2 (.hoist 3 (.free 4 (.hoist 5 (.free 6 (.free 7 (.free 8 (.hoist 9 (.hoist 12 (.free 13 (.free 14 (.free 15 (.hoist 16 (.one 10 (.free 11 (.one 17 (.one 18 (.free 19 (.free 20 .done))))))))))))))))))))) (HV _ _ [kc b #[.int .i64 c1.cells, .int .i64 c1.tides, .slice qa1 na1 ca1, .slice qa2 na2 ca2, .slice qa3 na3 ca3] 26] [⟨22, RwH.enc l_2.rs, l_2.v.sp, l_2.v.q, dbl 3 RI s.out5 l_2.rs⟩, vL 3 l_3 (RI.enc s_1.r0), vL 3 l_4 (RI.enc t27), vL 3 l_5 (RI.enc t31.r0)] _) Y (by decide +kernel) (fun w k hh => hh.draw k) (hsE [1] [0, 1, 2, 3] 0 Y Y Y Y) ?_
       refine zn Y Y Y (zn Y Y Y ?_)
       obtain ⟨t39, h42, hm⟩ := bindO hm
       refine jp Y Y Y Y (fun w _ => Jr h42 (runUnderlying22 w) (sizeOf3 w) Y Y (vlen RI h28 Y) (vne h28)) (jz Y Y Y Y (fun w hh => ze RI 0 h42 (isAgg3 w) Y (hh.vseg 2 Y h28) Y (Nat.add_zero _).symm) (zn Y Y Y (jz Y Y Y Y (fun w hh => jK (vs := [_, _, _, _, _]) (isAgg26 w) (sizeOf26 w) Y (hh.cells 0 Y Y)) (zn Y Y Y (zn Y Y Y ?_)))))
       obtain ⟨t45, h43, hm⟩ := bindO hm
       refine jp Y Y Y Y (fun w _ => Jr h43 (runUnderlying22 w) (sizeOf3 w) Y Y (vlen RI h28 Y) (vne h28)) (jz Y Y Y Y (fun w hh => ze RI 0 h43 (isAgg3 w) Y (hh.vseg 2 Y h28) Y (Nat.add_zero _).symm) (jz Y Y Y Y (fun w hh => jK (vs := [_, _, _, _, _]) (isAgg26 w) (sizeOf26 w) Y (hh.cells 0 Y Y)) (zn Y Y Y (zn Y Y Y ?_))))
       obtain ⟨t52, h44, hm⟩ := bindO hm
       refine jp Y Y Y Y (fun w _ => Jr h44 (runUnderlying22 w) (sizeOf3 w) Y Y (vlen RI h28 Y) (vne h28)) (jz Y Y Y Y (fun w hh => ze RI 0 h44 (isAgg3 w) Y (hh.vseg 2 Y h28) Y (Nat.add_zero _).symm) (jB Y ?_))
       obtain ⟨t47, h45, hm⟩ := bindO hm
       refine jd [] [] Y Y Y Y Y Y Y call63 (fun w hh => KJ c1 t45 qa1 na1 ca1 qa2 na2 ca2 qa3 na3 ca3 w (HV.callee (S0 := []) (vs0 := []) hh (roR hh 1 Y (roR hh 2 Y (roR hh 3 Y roN)))) hna1 hqa1 hla1 hna2 hqa2 hla2 hna3 hqa3 hla3 h45) (fun l_9 h46 => ?_)
       refine jj (hsE [1] [0, 1, 2, 3] 0 Y Y Y Y) ?_
       obtain ⟨t48, h47, hm⟩ := bindO hm
       refine jp Y Y Y Y (fun _ _ => jaI h47 Y) (jB Y ?_)
       obtain ⟨t54, h48, hm⟩ := bindO hm
       refine jd [] [] Y Y Y Y Y Y Y call63 (fun w hh => KJ c1 t52 qa1 na1 ca1 qa2 na2 ca2 qa3 na3 ca3 w (HV.callee (S0 := []) (vs0 := []) hh (roR hh 1 Y (roR hh 2 Y (roR hh 3 Y roN)))) hna1 hqa1 hla1 hna2 hqa2 hla2 hna3 hqa3 hla3 h48) (fun l_10 h49 => ?_)
       refine jj (hsE [1] [0, 1, 2, 3] 0 Y Y Y Y) (jB Y ?_)
       obtain ⟨t55, h50, hm⟩ := bindO hm
       refine jd [_] [] Y Y Y Y Y Y Y call145 (fun w hh => KL b00 s_1.b0_1 s_1.b0_2 t48 t54 pb qa0 na0 ca0 w (HV.callee (S0 := [_]) (vs0 := []) hh (roR hh 0 Y roN)) hna0 hqa0 hla0 h50) (fun l_11 h51 => ?_)
       refine kJ (S' := [_, _]) (vs' := [_, _, _, _]) [0, 1] [0, 1, 2, 3] 0 Y Y Y Y (jj (hsE [1] [0, 1, 2, 3] 0 Y Y Y Y) ?_)
       obtain ⟨t56, h52, hm⟩ := bindO hm
       refine jp Y Y Y Y (fun _ _ => KE h52 Y Y) (jp Y Y Y Y (fun _ _ => kW Y) (j4 (ja (ji ?_))))
       obtain ⟨o_3, h53, h54⟩ := bindO hm
       refine j6 (ι := Unit) (fun l_12 => True) (fun l_12 => [(0, ptr pb 0), (3, ptr b 0), (5, sL l_2.v), (6, sL l_3), (7, sL l_4), (9, .int .i64 t35), (10, .int .i64 t56), (16, .int .i64 c1.tides), (17, .int .i64 s.t17), (31, sL l_5), (32, .int .i64 (t31.r0.length : Int)), (33, .int .i64 s_1.t33), (93, .bool o_3)]) (fun l_12 => [kc pb #[.slice qa0 na0 ca0, .int .i64 t55.h0_1, .int .u32 t55.h0_2] 199, kc b #[.int .i64 c1.cells, .int .i64 c1.tides, .slice qa1 na1 ca1, .slice qa2 na2 ca2, .slice qa3 na3 ca3] 26]) (fun l_12 => [⟨22, RwH.enc l_2.rs, l_2.v.sp, l_2.v.q, dbl 3 RI s.out5 l_2.rs⟩, vL 3 l_3 (RI.enc s_1.r0), vL 3 l_4 (RI.enc t27), vL 3 l_5 (RI.enc t31.r0)]) ?_ ?_
       ·replace hm := h53
        refine je (jg Y Y (jc Y Y Y (fun _ _ => Yo Y Y) (jg Y Y ?_)))
        refine kb 59 Y (fun h55 => ?_) (fun h55 => ?_)
        ·replace hm := ifD h55 hm
         refine jb Y Y (jg Y Y (jb Y Y (qY 0 runUnderlying26 Y sizeOf3 Y Y (jb Y Y (qs 1 isAgg3 Y Y Y Y (jb Y Y (Kk Y Y Y ?_)))))))
         refine qV Y Y Y (jg Y Y ?_)
         refine kb 65 Y (fun h56 => ?_) (fun h56 => ?_)
         ·replace hm := ifD h56 hm
          refine jb Y Y (jg Y Y (jb Y Y (jc Y Y Y (fun _ _ => JG Y Y) (jb Y Y (jg Y Y ?_)))))
          refine kb 68 Y (fun h57 => ?_) (fun h57 => ?_)
          ·replace hm := ifD h57 hm
           refine g_k Y Y Y Y (g_k Y Y Y Y (g_k Y Y Y Y (g_k Y Y Y Y (g_k Y Y Y Y (g_k Y Y Y Y (g_k Y Y Y Y (jb Y Y ?_)))))))
           refine qV Y Y Y (qV Y Y Y (jg Y Y (jb Y Y (jg Y Y (jb Y Y (jg Y Y (jb Y Y ?_)))))))
           refine jc Y Y Y (fun w _ => zr (vlen RI h35 Y) (runUnderlying22 w) Y) (jb Y Y ?_)
           obtain ⟨t82, h58, hm⟩ := bindO hm
           refine jc Y Y Y (fun _ _ => qU h58 Y Y) (jb Y Y (jc Y Y Y (fun _ _ => JG Y Y) (jb Y Y (jg Y Y ?_))))
           refine kb 84 Y (fun h59 => ?_) (fun h59 => ?_)
           ·replace hm := ifD h59 hm
            refine g_k Y Y Y Y (g_k Y Y Y Y (g_k Y Y Y Y (g_k Y Y Y Y (g_k Y Y Y Y (g_k Y Y Y Y (g_k Y Y Y Y (jb Y Y ?_)))))))
            refine qV Y Y Y (qV Y Y Y (jt ?_))
            obtain rfl := sj hm
            exact jk () (trivial) (sE Y) (fun w hh => hh)
           replace hm := ifE h59 hm
           refine jb Y Y (jg Y Y (jb Y Y (jg Y Y (jb Y Y (jg Y Y (jb Y Y ?_))))))
           obtain ⟨t88, h60, hm⟩ := bindO hm
           refine J7 h60 Y Y Y (jb Y Y ?_)
           obtain ⟨t89, h61, hm⟩ := bindO hm
           refine jc Y Y Y (fun w _ => Jr h61 (runUnderlying22 w) (sizeOf3 w) Y Y (vlen RI h35 Y) (vne h35)) (jb Y Y (jc Y Y Y (fun w hh => ze RI 0 h61 (isAgg3 w) Y (hh.vseg 1 Y h35) Y (Nat.add_zero _).symm) (jb Y Y (Kk Y Y Y (jb Y Y (y4 Y Y Y (qV Y Y Y ?_)))))))
           refine jt ?_
           obtain rfl := sj hm
           exact jk () (trivial) (sE Y) (fun w hh => hh)
          replace hm := ifE h57 hm
          refine jb Y Y (jg Y Y (jb Y Y (jg Y Y (jb Y Y (jg Y Y (jb Y Y ?_))))))
          obtain ⟨t72, h62, hm⟩ := bindO hm
          refine jc Y Y Y (fun _ _ => qU h62 Y Y) (jb Y Y ?_)
          obtain ⟨t73, h63, hm⟩ := bindO hm
          refine jc Y Y Y (fun w _ => Jr h63 (runUnderlying22 w) (sizeOf3 w) Y Y (vlen RI h35 Y) (vne h35)) (jb Y Y (jc Y Y Y (fun w hh => ze RI 0 h63 (isAgg3 w) Y (hh.vseg 1 Y h35) Y (Nat.add_zero _).symm) (jb Y Y (jc Y Y Y (fun _ _ => Zo Y Y) (jb Y Y (y4 Y Y Y (qV Y Y Y ?_)))))))
          refine jg Y Y ?_
          refine kb 78 Y (fun h64 => ?_) (fun h64 => ?_)
          ·replace hm := ifD h64 hm
           refine jb Y Y (jg Y Y (jb Y Y (jg Y Y (jb Y Y (jc Y Y Y (fun w _ => zr (vlen RI h35 Y) (runUnderlying22 w) Y) (jb Y Y ?_))))))
           obtain ⟨t82_1, h65, hm⟩ := bindO hm
           refine jc Y Y Y (fun _ _ => qU h65 Y Y) (jb Y Y (jc Y Y Y (fun _ _ => JG Y Y) (jb Y Y (jg Y Y ?_))))
           refine kb 84 Y (fun h66 => ?_) (fun h66 => ?_)
           ·replace hm := ifD h66 hm
            refine g_k Y Y Y Y (g_k Y Y Y Y (g_k Y Y Y Y (g_k Y Y Y Y (g_k Y Y Y Y (g_k Y Y Y Y (g_k Y Y Y Y (jb Y Y ?_)))))))
            refine qV Y Y Y (qV Y Y Y (jt ?_))
            obtain rfl := sj hm
            exact jk () (trivial) (sE Y) (fun w hh => hh)
           replace hm := ifE h66 hm
           refine jb Y Y (jg Y Y (jb Y Y (jg Y Y (jb Y Y (jg Y Y (jb Y Y ?_))))))
           obtain ⟨t88_1, h67, hm⟩ := bindO hm
           refine J7 h67 Y Y Y (jb Y Y ?_)
           obtain ⟨t89_1, h68, hm⟩ := bindO hm
           refine jc Y Y Y (fun w _ => Jr h68 (runUnderlying22 w) (sizeOf3 w) Y Y (vlen RI h35 Y) (vne h35)) (jb Y Y (jc Y Y Y (fun w hh => ze RI 0 h68 (isAgg3 w) Y (hh.vseg 1 Y h35) Y (Nat.add_zero _).symm) (jb Y Y (Kk Y Y Y (jb Y Y (y4 Y Y Y (qV Y Y Y ?_)))))))
           refine jt ?_
           obtain rfl := sj hm
           exact jk () (trivial) (sE Y) (fun w hh => hh)
          replace hm := ifE h64 hm
          refine g_k Y Y Y Y (g_k Y Y Y Y (g_k Y Y Y Y (g_k Y Y Y Y (g_k Y Y Y Y (g_k Y Y Y Y ?_)))))
          refine jx Y Y Y Y Y ?_
          refine jx Y Y Y Y Y ?_
          refine jx Y Y Y Y Y ?_
          refine jx Y Y Y Y Y ?_
          refine jx Y Y Y Y Y ?_
          refine jx Y Y Y Y Y ?_
          refine jx Y Y Y Y Y ?_
          refine g_k Y Y Y Y (y4 Y Y Y (jt ?_))
          obtain rfl := sj hm
          exact jk () (trivial) (sE Y) (fun w hh => hh)
         replace hm := ifE h56 hm
         refine g_k Y Y Y Y (g_k Y Y Y Y (g_k Y Y Y Y ?_))
         refine jx Y Y Y Y Y ?_
         refine jx Y Y Y Y Y ?_
         refine jx Y Y Y Y Y ?_
         refine jx Y Y Y Y Y ?_
         refine jx Y Y Y Y Y ?_
         refine jx Y Y Y Y Y ?_
         refine jx Y Y Y Y Y ?_
         refine g_k Y Y Y Y (y4 Y Y Y (jg Y Y (g_k Y Y Y Y (g_k Y Y Y Y (g_k Y Y Y Y (g_k Y Y Y Y (g_k Y Y Y Y ?_)))))))
         refine g_k Y Y Y Y ?_
         refine jx Y Y Y Y Y ?_
         refine jx Y Y Y Y Y ?_
         refine jx Y Y Y Y Y ?_
         refine jx Y Y Y Y Y ?_
         refine jx Y Y Y Y Y ?_
         refine jx Y Y Y Y Y ?_
         refine jx Y Y Y Y Y ?_
         refine g_k Y Y Y Y (y4 Y Y Y (jt ?_))
         obtain rfl := sj hm
         exact jk () (trivial) (sE Y) (fun w hh => hh)
        replace hm := ifE h55 hm
        refine g_k Y Y Y Y (g_k Y Y Y Y (g_k Y Y Y Y (g_k Y Y Y Y (y4 Y Y Y (jg Y Y (g_k Y Y Y Y (g_k Y Y Y Y ?_)))))))
        refine g_k Y Y Y Y ?_
        refine jx Y Y Y Y Y ?_
        refine jx Y Y Y Y Y ?_
        refine jx Y Y Y Y Y ?_
        refine jx Y Y Y Y Y ?_
        refine jx Y Y Y Y Y ?_
        refine jx Y Y Y Y Y ?_
        refine jx Y Y Y Y Y ?_
        refine g_k Y Y Y Y (y4 Y Y Y (jg Y Y (g_k Y Y Y Y (g_k Y Y Y Y (g_k Y Y Y Y (g_k Y Y Y Y (g_k Y Y Y Y ?_)))))))
        refine g_k Y Y Y Y ?_
        refine jx Y Y Y Y Y ?_
        refine jx Y Y Y Y Y ?_
        refine jx Y Y Y Y Y ?_
        refine jx Y Y Y Y Y ?_
        refine jx Y Y Y Y Y ?_
        refine jx Y Y Y Y Y ?_
        refine jx Y Y Y Y Y ?_
        refine g_k Y Y Y Y (y4 Y Y Y (jt ?_))
        obtain rfl := sj hm
        exact jk () (trivial) (sE Y) (fun w hh => hh)
       intro l_12 hj
       replace hm := h54
       refine ja ?_
       refine jv Y (fun h69 => ?_) (fun h69 => ?_)
       ·replace hm := ifT (h69) hm
        refine je (jg Y Y (jg Y Y (jg Y Y ?_)))
        obtain ⟨t97, h70, hm⟩ := bindO hm
        refine jc Y Y Y (fun w _ => Jr h70 (runUnderlying22 w) (sizeOf3 w) Y Y (vlen RI h35 Y) (vne h35)) ?_
        obtain ⟨r0, hr0, hm⟩ := bindO hm
        refine Z9 RI 1 0 t56 (fun w => sizeOf3 w) Y Y Y Y h35 Y (Nat.add_zero _).symm Y h70 Y Y (Option.some.inj hr0) (fun h71 => ?_)
        refine kJ (S' := [_, _]) (vs' := [_, _, _, _]) [0, 1] [0, 1, 2, 3] 0 Y Y Y Y (jt (jw ?_))
        obtain rfl := sj hm
        exact jk () (h71) (sE Y) (fun w hh => hh)
       replace hm := ifN h69 hm
       refine ju (jw ?_)
       obtain rfl := sj hm
       exact jk () (h35) (sE Y) (fun w hh => hh)
      intro l_8 hj
      have h40 := hj
      replace hm := h39
      refine ja (je ?_)
      obtain ⟨t98, h72, hm⟩ := bindO hm
      refine J7 h72 Y Y Y (jg Y Y (jt ?_))
      obtain rfl := sj hm
      refine ja ?_
      exact jH _ () Y (h40) (sE Y) (fun w hh => hh)
     replace hm := ifE h37 hm
     refine kC (jl (jl (jI ?_)))
     obtain rfl := sj hm
     have hbo := h36 _ Y
     subst hbo
     exact jk () (h35) (sE Y) (hsE [0, 1] [0, 1] 0 Y Y Y Y)
    intro l_6 hj
    have h34 := hj
    replace hm := h33
    refine ja (je (jg Y Y (jg Y Y ?_)))
    refine qu RwH [(⟨l_3.q, l_3.n, l_3.cap, l_3.sp⟩ : VL)] (ps := [(0, _)]) (cells := [_]) (fun w => runUnderlying41 w) (fun w => sizeOf22 w) (fun w => zeroValue22 w) Y Y Y Y Y Y Y Y (fun L_2 h73 => ?_)
    refine Y9 (E2 := 3) RI 1 (Y : _ = ([[]] : List (List Int))) (fun h74 => ?_)
    refine kJ (S' := [_, _]) (vs' := [_, _, _]) [0, 1] [0, 2, 1] 0 Y Y Y Y ?_
    refine Y8 RI (l' := [o_1.r0]) 0 l_3.n l_3.cap h74 h34 Y Y (fun h75 => ?_)
    have h76 : DOK RI [o_1.r0] [(⟨l_3.q, l_3.n, l_3.cap, l_3.sp⟩ : VL)] := h75
    refine ZU (S' := [_, _]) (vs' := [⟨22, RwH.enc [(⟨l_3.q, l_3.n, l_3.cap, l_3.sp⟩ : VL)], L_2.sp, L_2.q, dbl 3 RI [o_1.r0] [(⟨l_3.q, l_3.n, l_3.cap, l_3.sp⟩ : VL)]⟩, ⟨22, RwH.enc l_2.rs, l_2.v.sp, l_2.v.q, dbl 3 RI s.out5 l_2.rs⟩]) [0, 1] [0, 1] 0 (by decide) (by decide) Y Y Y ?_
    obtain ⟨t102, h77, hm⟩ := bindO hm
    refine Ja RwH 1 (appcL h77 (h16).len (h76).len) underlying41 Z2 Y Y Y Y Y h15 Y Y (vlen RwH h73 Y) (AOK.q (vne h73)) (fun w hh => (hh.vsegA 0 Y h73)) Y (fun L_3 h78 _ => ?_)
    refine kJ (S' := [_, _]) (vs' := [_, _]) [0, 1] [0, 1] 0 Y Y Y Y (kJ (S' := [_, _]) (vs' := [_, _]) [0, 1] [1, 0] 0 Y Y Y Y ?_)
    refine ZB RI h16 h76 (appcO h77).1.symm (fun h79 => ?_)
    refine jo Y Y (jt (jw (ja (je ?_))))
    obtain ⟨t103, h80, hm⟩ := bindO hm
    refine J7 h80 Y Y Y (jg Y Y (jt ?_))
    obtain rfl := sj hm
    refine ja ?_
    exact jH _ (⟨⟨L_3.q, L_3.n, L_3.cap, L_3.sp⟩, (l_2.rs ++ [(⟨l_3.q, l_3.n, l_3.cap, l_3.sp⟩ : VL)])⟩) Y (⟨h78, h79⟩) (sE Y) (hsE [1, 0] [0] 0 Y Y Y Y)
   replace hm := ifE h18 hm
   refine kC (jl (jl (jI ?_)))
   obtain rfl := sj hm
   have hbo := h17 _ Y
   subst hbo
   exact jk l_2 (⟨h15, h16⟩) (sE Y) (fun w hh => hh)
  intro l_1 hj
  obtain ⟨h13, h14⟩ := hj
  replace hm := h12
  refine ja (jr (jg Y Y (jo Y Y (jq (jy ?_)))))
  obtain rfl := sj hm
  refine jm Y (fun w hh => (.tmp Y .nil)) (fun w hh => ⟨l_1, rfl, ⟨h13, h14⟩, hh.se [1] [0] 4 Y Y Y rfl⟩)
structure jU where
  r0 : Channel
  b0_1 : Int
  b0_2 : Int
  r1 : (List (List Int))
structure yy where
  b0_1 : Int
  b0_2 : Int
  c10_fords : (List Int)
structure j7 where
  t22 : Int
  b0_1 : Int
  b0_2 : Int
  c10_fords : (List Int)
structure yw where
  b0_1 : Int
  b0_2 : Int
  c10_fords : (List Int)
structure yt where
  t46 : Bool
  b0_1 : Int
  b0_2 : Int
def qH (t15 : q9) (fords2 : Int) (b00 : (List Int)) (s : j7) : Option (j7 ⊕ yy) :=
 if s.t22 < t15.r0 then
 (((if (s.c10_fords.length : Int) < fords2 then
 ((yE b00 s.b0_1 s.b0_2 3).bind fun t32 =>
 if t32.r0 = true then
 (some (⟨true, t32.h0_1, t32.h0_2⟩ : yt)) else
 ((subc t15.r0 1).bind fun t37 =>
 if s.t22 = t37 then
 (some (⟨(decide ((s.c10_fords.length : Int) = 0)), t32.h0_1, t32.h0_2⟩ : yt)) else
 (some (⟨false, t32.h0_1, t32.h0_2⟩ : yt)))) else
 (some (⟨false, s.b0_1, s.b0_2⟩ : yt))).bind fun o_2 =>
 if o_2.t46 = true then
 ((appc 8 s.c10_fords [s.t22]).bind fun t51 =>
 some (⟨o_2.b0_1, o_2.b0_2, t51⟩ : yw)) else
 (some (⟨o_2.b0_1, o_2.b0_2, s.c10_fords⟩ : yw))).bind fun o_1 =>
 (addc s.t22 1).bind fun t53 =>
 some (.inl (⟨t53, o_1.b0_1, o_1.b0_2, o_1.c10_fords⟩ : j7))) else
 (some (.inr (⟨s.b0_1, s.b0_2, s.c10_fords⟩ : yy)))
structure JU where
  b0_1 : Int
  b0_2 : Int
  c10_sands : (List Sand)
structure yu where
  t56 : Int
  b0_1 : Int
  b0_2 : Int
  c10_sands : (List Sand)
structure Qo where
  b0_1 : Int
  b0_2 : Int
  c10_sands : (List Sand)
def qE (t55 : yD) (t15 : q9) (b00 : (List Int)) (s_1 : yu) : Option (yu ⊕ JU) :=
 if s_1.t56 < t55.r0 then
 ((subc t15.r0 1).bind fun t61 =>
 (jT b00 s_1.b0_1 s_1.b0_2 t61).bind fun t62 =>
 ((subc t15.r0 1).bind fun t68 =>
 (jT b00 t62.h0_1 t62.h0_2 4).bind fun t71 =>
 (addc t62.r0 t71.r0).bind fun t72 =>
 (yI b00 t71.h0_1 t71.h0_2 1 2).bind fun t76 =>
 (appc 24 s_1.c10_sands [(⟨(⟨t62.r0, (min t68 t72)⟩ : Span), t76.r0⟩ : Sand)]).bind fun t79 =>
 some (⟨t76.h0_1, t76.h0_2, t79⟩ : Qo)).bind fun o_4 =>
 (addc s_1.t56 1).bind fun t81 =>
 some (.inl (⟨t81, o_4.b0_1, o_4.b0_2, o_4.c10_sands⟩ : yu))) else
 (some (.inr (⟨s_1.b0_1, s_1.b0_2, s_1.c10_sands⟩ : JU)))
def qO (b00 : (List Int)) (b01 : Int) (b02 : Int) (cells1 : Int) (fords2 : Int) (tides3 : Int) : Option jU :=
 (yI b00 b01 b02 3 cells1).bind fun t15 =>
 (jT b00 t15.h0_1 t15.h0_2 tides3).bind fun t18 =>
 (iterM FU (qH t15 fords2 b00) (⟨0, t18.h0_1, t18.h0_2, []⟩ : j7)).bind fun o =>
 (jT b00 o.b0_1 o.b0_2 4).bind fun t55 =>
 (iterM FU (qE t55 t15 b00) (⟨0, t55.h0_1, t55.h0_2, []⟩ : yu)).bind fun o_3 =>
 (qS b00 o_3.b0_1 o_3.b0_2 (⟨t15.r0, t18.r0, o.c10_fords, o_3.c10_sands, []⟩ : Channel)).bind fun t85 =>
 some (⟨(⟨t15.r0, t18.r0, o.c10_fords, o_3.c10_sands, []⟩ : Channel), t85.b0_1, t85.b0_2, t85.r0⟩ : jU)
theorem QS (b00 : (List Int)) (b01 : Int) (b02 : Int) (cells1 : Int) (fords2 : Int) (tides3 : Int) (pb : Nat) (qa0 : Option Addr) (na0 ca0 : Nat) (w : World) (hw : HV w (keys [kc pb #[.slice qa0 na0 ca0, .int .i64 b01, .int .u32 b02] 199] []) [kc pb #[.slice qa0 na0 ca0, .int .i64 b01, .int .u32 b02] 199] [] [(aB qa0, aO qa0, RU8.enc b00)] w) (hna0 : b00.length = na0) (hqa0 : AOK na0 qa0) (hla0 : na0 ≤ ca0) {res : jU} (hm : qO b00 b01 b02 cells1 fords2 tides3 = some res) :
    Calls Tryz.prog 61 #[ptr pb 0, .int .i64 cells1, .int .i64 fords2, .int .i64 tides3] w (fun en w' => ∃ l : VL × VL × VL × DL, en = .returned (.tuple #[.agg #[.int .i64 res.r0.cells, .int .i64 res.r0.tides, sL l.1, sL l.2.1, sL l.2.2.1], sL l.2.2.2.v]) ∧ (VOK 1 l.1.n l.1.cap (RI.enc res.r0.fords) l.1.sp l.1.q ∧ VOK 3 l.2.1.n l.2.1.cap (RSa.enc res.r0.sands) l.2.1.sp l.2.1.q ∧ VOK 3 l.2.2.1.n l.2.2.1.cap (RSi.enc res.r0.sights) l.2.2.1.sp l.2.2.1.q ∧ VOK 1 l.2.2.2.v.n l.2.2.2.v.cap (RwH.enc l.2.2.2.rs) l.2.2.2.v.sp l.2.2.2.v.q ∧ DOK RI res.r1 l.2.2.2.rs) ∧ HV w (keys [kc pb #[.slice qa0 na0 ca0, .int .i64 b01, .int .u32 b02] 199] []) [kc pb #[.slice qa0 na0 ca0, .int .i64 res.b0_1, .int .u32 res.b0_2] 199] [vL 3 l.1 (RI.enc res.r0.fords), vL 98 l.2.1 (RSa.enc res.r0.sands), vL 55 l.2.2.1 (RSi.enc res.r0.sights), ⟨22, RwH.enc l.2.2.2.rs, l.2.2.2.v.sp, l.2.2.2.v.q, dbl 3 RI res.r1 l.2.2.2.rs⟩] [] w') := by
  unfold qO at hm
  refine yv func61 Y ntmps61 Y (e := [(0, _), (1, _), (2, _), (3, _)]) Y hw (jr ?_)
  refine js (fun w => zeroValue26 w) Y (fun b h6 => ?_)
  refine jc Y Y Y (fun _ _ => yj Y) (qj (jg Y Y (jg Y Y ?_)))
  obtain ⟨t15, h7, hm⟩ := bindO hm
  refine kJ (S' := [_, _]) (vs' := []) [1, 0] [] 0 Y Y Y Y ?_
  refine jd [_] [] Y Y Y Y Y Y Y call145 (fun w hh => KL b00 b01 b02 3 cells1 pb qa0 na0 ca0 w (HV.callee (S0 := [_]) (vs0 := []) hh (roR hh 0 Y roN)) hna0 hqa0 hla0 h7) (fun l h8 => ?_)
  refine kJ (S' := [_, _]) (vs' := []) [0, 1] [] 0 Y Y Y Y (jg Y Y (jg Y Y ?_))
  obtain ⟨t18, h9, hm⟩ := bindO hm
  refine jd [_] [] Y Y Y Y Y Y Y call146 (fun w hh => ka b00 t15.h0_1 t15.h0_2 tides3 pb qa0 na0 ca0 w (HV.callee (S0 := [_]) (vs0 := []) hh (roR hh 0 Y roN)) hna0 hqa0 hla0 h9) (fun l_1 h10 => ?_)
  refine kJ (S' := [_, _]) (vs' := []) [0, 1] [] 0 Y Y Y Y (jc Y Y Y (fun _ _ => kz (vs := [(0, _), (1, _)]) (cells := [_, _, _, _, _]) Y Y) ?_)
  refine js (fun w => zeroValue26 w) Y (fun b_1 h11 => ?_)
  refine jV (us := #[_, _, _, _, _]) (cs' := [_, _, _, _, _]) (S' := [_, _, _]) 0 (fun w => sizeOf26 w) Y Y Y Y Y Y Y (jq (ji (jr (qY 0 runUnderlying26 Y sizeOf3 Y Y (qs 0 isAgg3 Y Y Y Y (jg Y Y (jq ?_)))))))
  refine JK 3 ?_
  obtain ⟨o, h12, h13⟩ := bindO hm
  refine j6 (ι := VL) (fun l_2 => VOK 1 l_2.n l_2.cap (RI.enc o.c10_fords) l_2.sp l_2.q) (fun l_2 => [(0, ptr pb 0), (8, ptr b 0), (10, ptr b_1 0)]) (fun l_2 => [kc b_1 #[.int .i64 t15.r0, .int .i64 t18.r0, sL l_2, slv none 0 0, slv none 0 0] 26, kc pb #[.slice qa0 na0 ca0, .int .i64 o.b0_1, .int .u32 o.b0_2] 199, kc b #[.int .i64 0, .int .i64 0, slv none 0 0, slv none 0 0, slv none 0 0] 26]) (fun l_2 => [vL 3 l_2 (RI.enc o.c10_fords)]) ?_ ?_
  ·replace hm := h12
   refine jn ?_
   refine kf (ι := VL) hm (fun s l_3 => VOK 1 l_3.n l_3.cap (RI.enc s.c10_fords) l_3.sp l_3.q) (fun s l_3 => [(0, ptr pb 0), (2, .int .i64 fords2), (8, ptr b 0), (10, ptr b_1 0), (21, .int .i64 t15.r0), (22, .int .i64 s.t22)]) (fun s l_3 => [kc b_1 #[.int .i64 t15.r0, .int .i64 t18.r0, sL l_3, slv none 0 0, slv none 0 0] 26, kc pb #[.slice qa0 na0 ca0, .int .i64 s.b0_1, .int .u32 s.b0_2] 199, kc b #[.int .i64 0, .int .i64 0, slv none 0 0, slv none 0 0, slv none 0 0] 26]) (fun s l_3 => [vL 3 l_3 (RI.enc s.c10_fords)]) ⟨none, 0, 0, []⟩ (VOK.nil) (sE Y) (fun w hh => hh) (fun s l_3 r hpl hm h16 => ?_)
   have h15 := hpl
   unfold qH at hm
   refine jr (Kk Y Y Y (jq (ji ?_)))
   refine jv Y (fun h17 => ?_) (fun h17 => ?_)
   ·replace hm := ifD h17 hm
    refine ju (ja (ji ?_))
    obtain ⟨o_1, h18, h19⟩ := bindO hm
    refine j6 (ι := VL) (fun l_4 => VOK 1 l_4.n l_4.cap (RI.enc o_1.c10_fords) l_4.sp l_4.q) (fun l_4 => [(0, ptr pb 0), (2, .int .i64 fords2), (8, ptr b 0), (10, ptr b_1 0), (21, .int .i64 t15.r0), (22, .int .i64 s.t22)]) (fun l_4 => [kc b_1 #[.int .i64 t15.r0, .int .i64 t18.r0, sL l_4, slv none 0 0, slv none 0 0] 26, kc pb #[.slice qa0 na0 ca0, .int .i64 o_1.b0_1, .int .u32 o_1.b0_2] 199, kc b #[.int .i64 0, .int .i64 0, slv none 0 0, slv none 0 0, slv none 0 0] 26]) (fun l_4 => [vL 3 l_4 (RI.enc o_1.c10_fords)]) ?_ ?_
    ·replace hm := h18
     refine jn (jr (jg Y Y (jo Y Y (jq (ji ?_)))))
     obtain ⟨o_2, h21, h22⟩ := bindO hm
     refine j6 (ι := Unit) (fun l_5 => True) (fun l_5 => [(0, ptr pb 0), (2, .int .i64 fords2), (8, ptr b 0), (10, ptr b_1 0), (11, .int .i64 s.t22), (21, .int .i64 t15.r0), (22, .int .i64 s.t22), (46, .bool o_2.t46)]) (fun l_5 => [kc b_1 #[.int .i64 t15.r0, .int .i64 t18.r0, sL l_3, slv none 0 0, slv none 0 0] 26, kc pb #[.slice qa0 na0 ca0, .int .i64 o_2.b0_1, .int .u32 o_2.b0_2] 199, kc b #[.int .i64 0, .int .i64 0, slv none 0 0, slv none 0 0, slv none 0 0] 26]) (fun l_5 => [vL 3 l_3 (RI.enc s.c10_fords)]) ?_ ?_
     ·replace hm := h21
      refine je (qY 2 runUnderlying26 Y sizeOf22 Y Y (qs 0 isAgg22 Y Y Y Y (jc Y Y Y (fun w _ => zr (vlen RI h15 Y) (runUnderlying22 w) Y) (jg Y Y (Kk Y Y Y (jg Y Y ?_))))))
      refine kb 30 Y (fun h23 => ?_) (fun h23 => ?_)
      ·replace hm := ifD h23 hm
       refine jb Y Y (jg Y Y (jb Y Y ?_))
       obtain ⟨t32, h24, hm⟩ := bindO hm
       refine kJ (S' := [_, _, _]) (vs' := [_]) [1, 0, 2] [0] 0 Y Y Y Y ?_
       refine jd [_] [] Y Y Y Y Y Y Y call68 (fun w hh => KC b00 s.b0_1 s.b0_2 3 pb qa0 na0 ca0 w (HV.callee (S0 := [_]) (vs0 := []) hh (roR hh 0 Y roN)) hna0 hqa0 hla0 h24) (fun l_6 h25 => ?_)
       refine kJ (S' := [_, _, _]) (vs' := [_]) [0, 1, 2] [0] 0 Y Y Y Y (jb Y Y (jg Y Y ?_))
       refine kb 33 Y (fun h26 => ?_) (fun h26 => ?_)
       ·replace hm := ifT (h26) hm
        refine g_k Y Y Y Y (g_k Y Y Y Y (g_k Y Y Y Y (g_k Y Y Y Y (g_k Y Y Y Y (g_k Y Y Y Y ?_)))))
        refine jx Y Y Y Y Y ?_
        refine jx Y Y Y Y Y ?_
        refine jx Y Y Y Y Y ?_
        refine jx Y Y Y Y Y ?_
        refine g_k Y Y Y Y (jb Y Y (qV Y Y Y (qV Y Y Y (jt ?_))))
        obtain rfl := sj hm
        exact jk () (trivial) (sE Y) (hsE [1, 0, 2] [0] 0 Y Y Y Y)
       replace hm := ifN h26 hm
       refine jb Y Y (jg Y Y (jb Y Y (qY 0 runUnderlying26 Y sizeOf3 Y Y (jb Y Y (qs 1 isAgg3 Y Y Y Y (jb Y Y ?_))))))
       obtain ⟨t37, h27, hm⟩ := bindO hm
       refine jc Y Y Y (fun _ _ => qU h27 Y Y) (jb Y Y (jc Y Y Y (fun _ _ => JG Y Y) (jb Y Y (jg Y Y ?_))))
       refine kb 39 Y (fun h28 => ?_) (fun h28 => ?_)
       ·replace hm := ifD h28 hm
        refine jb Y Y (qY 2 runUnderlying26 Y sizeOf22 Y Y (jb Y Y (qs 1 isAgg22 Y Y Y Y (jb Y Y (jc Y Y Y (fun w _ => zr (vlen RI h15 Y) (runUnderlying22 w) Y) (jb Y Y (jc Y Y Y (fun _ _ => JG Y Y) ?_)))))))
        refine jb Y Y (qV Y Y Y (jb Y Y (y4 Y Y Y (qV Y Y Y (jt ?_)))))
        obtain rfl := sj hm
        exact jk () (trivial) (sE Y) (hsE [1, 0, 2] [0] 0 Y Y Y Y)
       replace hm := ifE h28 hm
       refine g_k Y Y Y Y (g_k Y Y Y Y (g_k Y Y Y Y (g_k Y Y Y Y (jb Y Y (y4 Y Y Y (jb Y Y (y4 Y Y Y ?_)))))))
       refine qV Y Y Y (jt ?_)
       obtain rfl := sj hm
       exact jk () (trivial) (sE Y) (hsE [1, 0, 2] [0] 0 Y Y Y Y)
      replace hm := ifE h23 hm
      refine g_k Y Y Y Y (g_k Y Y Y Y (g_k Y Y Y Y ?_))
      refine jx Y Y Y Y Y ?_
      refine jx Y Y Y Y Y ?_
      refine jx Y Y Y Y Y ?_
      refine jx Y Y Y Y Y ?_
      refine jx Y Y Y Y Y ?_
      refine jx Y Y Y Y Y ?_
      refine jx Y Y Y Y Y ?_
      refine jx Y Y Y Y Y ?_
      refine jx Y Y Y Y Y ?_
      refine jx Y Y Y Y Y ?_
      refine jx Y Y Y Y Y ?_
      refine g_k Y Y Y Y (y4 Y Y Y (jt ?_))
      obtain rfl := sj hm
      exact jk () (trivial) (sE Y) (fun w hh => hh)
     intro l_5 hj
     replace hm := h22
     refine ja ?_
     refine jv Y (fun h29 => ?_) (fun h29 => ?_)
     ·replace hm := ifT (h29) hm
      refine je (qY 2 runUnderlying26 Y sizeOf22 Y Y (qs 0 isAgg22 Y Y Y Y (jg Y Y ?_)))
      refine qu RI [s.t22] (ps := [(0, _)]) (cells := [_]) (fun w => runUnderlying22 w) (fun w => sizeOf3 w) (fun w => zeroValue3 w) Y Y Y Y Y Y Y Y (fun L h30 => ?_)
      obtain ⟨t51, h31, hm⟩ := bindO hm
      refine Ja RI 1 h31 underlying22 QW Y Y Y Y Y h15 Y Y (vlen RI h30 Y) (AOK.q (vne h30)) (fun w hh => (hh.vsegA 0 Y h30)) Y (fun L_1 h32 h32n => ?_)
      refine kJ (S' := [_, _, _]) (vs' := [_, _]) [0, 1, 2] [0, 1] 0 Y Y Y Y (qY 2 runUnderlying26 Y sizeOf22 Y Y (yx (cs' := #[_, _, _, _, _]) (S' := [_, _, _]) 0 (fun w => sizeOf22 w) Y Y Y Y Y Y Y (jt (jw ?_))))
      obtain rfl := sj hm
      exact jk L_1 (h32) (sE Y) (hsE [0, 1, 2] [1] 0 Y Y Y Y)
     replace hm := ifN h29 hm
     refine ju (jw ?_)
     obtain rfl := sj hm
     exact jk l_3 (h15) (sE Y) (fun w hh => hh)
    intro l_4 hj
    have h20 := hj
    replace hm := h19
    refine ja (je ?_)
    obtain ⟨t53, h33, hm⟩ := bindO hm
    refine J7 h33 Y Y Y (jg Y Y (jt ?_))
    obtain rfl := sj hm
    refine ja ?_
    exact jH _ l_4 Y (h20) (sE Y) (fun w hh => hh)
   replace hm := ifE h17 hm
   refine kC (jl (jl (jI ?_)))
   obtain rfl := sj hm
   have hbo := h16 _ Y
   subst hbo
   exact jk l_3 (h15) (sE Y) (fun w hh => hh)
  intro l_2 hj
  have h14 := hj
  replace hm := h13
  refine ja (ji (jr (jg Y Y ?_)))
  obtain ⟨t55, h34, hm⟩ := bindO hm
  refine kJ (S' := [_, _, _]) (vs' := [_]) [1, 0, 2] [0] 0 Y Y Y Y ?_
  refine jd [_] [] Y Y Y Y Y Y Y call146 (fun w hh => ka b00 o.b0_1 o.b0_2 4 pb qa0 na0 ca0 w (HV.callee (S0 := [_]) (vs0 := []) hh (roR hh 0 Y roN)) hna0 hqa0 hla0 h34) (fun l_7 h35 => ?_)
  refine kJ (S' := [_, _, _]) (vs' := [_]) [0, 1, 2] [0] 0 Y Y Y Y (jg Y Y (jq (JK 98 ?_)))
  obtain ⟨o_3, h36, h37⟩ := bindO hm
  refine j6 (ι := VL) (fun l_8 => VOK 3 l_8.n l_8.cap (RSa.enc o_3.c10_sands) l_8.sp l_8.q) (fun l_8 => [(0, ptr pb 0), (8, ptr b 0), (10, ptr b_1 0)]) (fun l_8 => [kc pb #[.slice qa0 na0 ca0, .int .i64 o_3.b0_1, .int .u32 o_3.b0_2] 199, kc b_1 #[.int .i64 t15.r0, .int .i64 t18.r0, sL l_2, sL l_8, slv none 0 0] 26, kc b #[.int .i64 0, .int .i64 0, slv none 0 0, slv none 0 0, slv none 0 0] 26]) (fun l_8 => [vL 3 l_2 (RI.enc o.c10_fords), vL 98 l_8 (RSa.enc o_3.c10_sands)]) ?_ ?_
  ·replace hm := h36
   refine jn ?_
   refine kf (ι := VL) hm (fun s_1 l_9 => VOK 3 l_9.n l_9.cap (RSa.enc s_1.c10_sands) l_9.sp l_9.q) (fun s_1 l_9 => [(0, ptr pb 0), (8, ptr b 0), (10, ptr b_1 0), (55, .int .i64 t55.r0), (56, .int .i64 s_1.t56)]) (fun s_1 l_9 => [kc pb #[.slice qa0 na0 ca0, .int .i64 s_1.b0_1, .int .u32 s_1.b0_2] 199, kc b_1 #[.int .i64 t15.r0, .int .i64 t18.r0, sL l_2, sL l_9, slv none 0 0] 26, kc b #[.int .i64 0, .int .i64 0, slv none 0 0, slv none 0 0, slv none 0 0] 26]) (fun s_1 l_9 => [vL 3 l_2 (RI.enc o.c10_fords), vL 98 l_9 (RSa.enc s_1.c10_sands)]) ⟨none, 0, 0, []⟩ (VOK.nil) (sE Y) (hsE [0, 1, 2] [1, 0] 0 Y Y Y Y) (fun s_1 l_9 r_1 hpl hm h40 => ?_)
   have h39 := hpl
   unfold qE at hm
   refine jr (Kk Y Y Y (jq (ji ?_)))
   refine jv Y (fun h41 => ?_) (fun h41 => ?_)
   ·replace hm := ifD h41 hm
    refine ju (ja (ji (jn (jr (jg Y Y (qY 0 runUnderlying26 Y sizeOf3 Y Y (qs 1 isAgg3 Y Y Y Y ?_)))))))
    obtain ⟨t61, h42, hm⟩ := bindO hm
    refine jc Y Y Y (fun _ _ => qU h42 Y Y) ?_
    obtain ⟨t62, h43, hm⟩ := bindO hm
    refine jd [_] [] Y Y Y Y Y Y Y call146 (fun w hh => ka b00 s_1.b0_1 s_1.b0_2 t61 pb qa0 na0 ca0 w (HV.callee (S0 := [_]) (vs0 := []) hh (roR hh 0 Y roN)) hna0 hqa0 hla0 h43) (fun l_10 h44 => ?_)
    refine kJ (S' := [_, _, _]) (vs' := [_, _]) [0, 1, 2] [0, 1] 0 Y Y Y Y (jo Y Y (jq ?_))
    obtain ⟨o_4, h45, h46⟩ := bindO hm
    refine j6 (ι := VL) (fun l_11 => VOK 3 l_11.n l_11.cap (RSa.enc o_4.c10_sands) l_11.sp l_11.q) (fun l_11 => [(0, ptr pb 0), (8, ptr b 0), (10, ptr b_1 0), (55, .int .i64 t55.r0), (56, .int .i64 s_1.t56)]) (fun l_11 => [kc pb #[.slice qa0 na0 ca0, .int .i64 o_4.b0_1, .int .u32 o_4.b0_2] 199, kc b_1 #[.int .i64 t15.r0, .int .i64 t18.r0, sL l_2, sL l_11, slv none 0 0] 26, kc b #[.int .i64 0, .int .i64 0, slv none 0 0, slv none 0 0, slv none 0 0] 26]) (fun l_11 => [vL 3 l_2 (RI.enc o.c10_fords), vL 98 l_11 (RSa.enc o_4.c10_sands)]) ?_ ?_
    ·replace hm := h45
     refine qi (some 18) (.free 0 (.hoist 1 (.free 2 (.free 3 (.hoist 4 (.free 5 (.free 6 (.free 7 (.free 12 (.one 8 (.free 9 (.free 10 (.free 11 (.one 13 (.free 14 (.one 15 (.one 16 (.free 17 (.last 18 .done))))))))))))))))))) (HV _ _ [kc b_1 #[.int .i64 t15.r0, .int .i64 t18.r0, sL l_2, sL l_9, slv none 0 0] 26, kc b #[.int .i64 0, .int .i64 0, slv none 0 0, slv none 0 0, slv none 0 0] 26] [vL 3 l_2 (RI.enc o.c10_fords)] _) Y (by decide +kernel) (fun w k hh => hh.draw k) (hsE [1, 2] [0] 0 Y Y Y Y) ?_
     refine Kf 3 runUnderlying26 sizeOf23 Y Y Y Y (K9 0 isAgg23 Y Y Y Y Y (zn Y Y Y (Kf 0 runUnderlying26 sizeOf3 Y Y Y Y (K9 0 isAgg3 Y Y Y Y Y ?_))))
     obtain ⟨t68, h48, hm⟩ := bindO hm
     refine jp Y Y Y Y (fun _ _ => qU h48 Y Y) (zn Y Y Y (zn Y Y Y (zn Y Y Y (jB Y ?_))))
     obtain ⟨t71, h49, hm⟩ := bindO hm
     refine jd [_] [] Y Y Y Y Y Y Y call146 (fun w hh => ka b00 t62.h0_1 t62.h0_2 4 pb qa0 na0 ca0 w (HV.callee (S0 := [_]) (vs0 := []) hh (roR hh 0 Y roN)) hna0 hqa0 hla0 h49) (fun l_12 h50 => ?_)
     refine kJ (S' := [_, _, _]) (vs' := [_, _]) [0, 1, 2] [0, 1] 0 Y Y Y Y (jj (hsE [1, 2] [0] 0 Y Y Y Y) ?_)
     obtain ⟨t72, h51, hm⟩ := bindO hm
     refine jp Y Y Y Y (fun _ _ => KE h51 Y Y) (jp Y Y Y Y (fun _ _ => jaO Y Y) (jp Y Y Y Y (fun _ _ => kz (vs := [(0, _), (1, _)]) (cells := [_, _]) Y Y) (jB Y ?_)))
     obtain ⟨t76, h52, hm⟩ := bindO hm
     refine jd [_] [] Y Y Y Y Y Y Y call145 (fun w hh => KL b00 t71.h0_1 t71.h0_2 1 2 pb qa0 na0 ca0 w (HV.callee (S0 := [_]) (vs0 := []) hh (roR hh 0 Y roN)) hna0 hqa0 hla0 h52) (fun l_13 h53 => ?_)
     refine kJ (S' := [_, _, _]) (vs' := [_, _]) [0, 1, 2] [0, 1] 0 Y Y Y Y (jj (hsE [1, 2] [0] 0 Y Y Y Y) (jp Y Y Y Y (fun _ _ => kz (vs := [(0, _), (1, _)]) (cells := [_, _, _]) Y Y) (jB Y ?_)))
     refine qu RSa [(⟨(⟨t62.r0, (min t68 t72)⟩ : Span), t76.r0⟩ : Sand)] (ps := [(0, _)]) (cells := [_, _, _]) (fun w => runUnderlying23 w) (fun w => sizeOf98 w) (fun w => zeroValue98 w) Y Y Y Y Y Y Y Y (fun L_2 h54 => ?_)
     refine jj (hsE [1, 2] [1] 0 Y Y Y Y) (jB Y ?_)
     obtain ⟨t79, h55, hm⟩ := bindO hm
     refine Ja RSa 2 h55 underlying23 Zh Y Y Y Y Y h39 Y Y (vlen RSa h54 Y) (AOK.q (vne h54)) (fun w hh => (hh.vsegA 0 Y h54)) Y (fun L_3 h56 h56n => ?_)
     refine kJ (S' := [_, _, _]) (vs' := [_, _, _]) [0, 1, 2] [0, 1, 2] 0 Y Y Y Y (jj (hsE [1, 2] [1] 0 Y Y Y Y) (Kf 3 runUnderlying26 sizeOf23 Y Y Y Y (YW Y (yx (cs' := #[_, _, _, _, _]) (S' := [_, _, _]) 1 (fun w => sizeOf23 w) Y Y Y Y Y Y Y (QY (j4 ?_))))))
     obtain rfl := sj hm
     exact jk L_3 (h56) (sE Y) (hsE [0, 1, 2] [1, 2] 0 Y Y Y Y)
    intro l_11 hj
    have h47 := hj
    replace hm := h46
    refine jw (ja (je ?_))
    obtain ⟨t81, h57, hm⟩ := bindO hm
    refine J7 h57 Y Y Y (jg Y Y (jt ?_))
    obtain rfl := sj hm
    refine ja ?_
    exact jH _ l_11 Y (h47) (sE Y) (fun w hh => hh)
   replace hm := ifE h41 hm
   refine kC (jl (jl (jI ?_)))
   obtain rfl := sj hm
   have hbo := h40 _ Y
   subst hbo
   exact jk l_9 (h39) (sE Y) (fun w hh => hh)
  intro l_8 hj
  have h38 := hj
  replace hm := h37
  refine ja (ji ?_)
  refine qi none (.hoist 0 (.free 1 (.hoist 2 (.one 3 (.one 4 (.free 5 .done)))))) (HV _ _ [kc b_1 #[.int .i64 t15.r0, .int .i64 t18.r0, sL l_2, sL l_8, slv none 0 0] 26] [vL 3 l_2 (RI.enc o.c10_fords), vL 98 l_8 (RSa.enc o_3.c10_sands)] _) Y (by decide +kernel) (fun w k hh => hh.draw k) (hsE [1] [0, 1] 0 Y Y Y Y) ?_
  refine jz Y Y Y Y (fun w hh => jK (vs := [_, _, _, _, _]) (isAgg26 w) (sizeOf26 w) Y (hh.cells 0 Y Y)) (zn Y Y Y (jz Y Y Y Y (fun w hh => jK (vs := [_, _, _, _, _]) (isAgg26 w) (sizeOf26 w) Y (hh.cells 0 Y Y)) (jB Y ?_)))
  obtain ⟨t85, h58, hm⟩ := bindO hm
  refine jd [_] [] Y Y Y Y Y Y Y call78 (fun w hh => Qu b00 o_3.b0_1 o_3.b0_2 (⟨t15.r0, t18.r0, o.c10_fords, o_3.c10_sands, []⟩ : Channel) pb qa0 na0 ca0 (qA l_2.q) l_2.n l_2.cap (qA l_8.q) l_8.n l_8.cap none 0 0 w (HV.callee (S0 := [_]) (vs0 := []) hh (roR hh 0 Y (roC (hh.vsepA 0 Y h14) (roC (hh.vsepA 1 Y h38) (roC ⟨segOK.nil, fun hx => absurd Y hx⟩ roN))))) hna0 hqa0 hla0 (vlen RI h14 Y) (AOK.q (vne h14)) (h14).hle (vlen RSa h38 Y) (AOK.q (vne h38)) (h38).hle Y AOK.nil (Nat.le_refl 0) h58) (fun l_14 h59 => ?_)
  obtain ⟨h60, h61⟩ := h59
  refine kJ (S' := [_, _, _]) (vs' := [_, _, _]) [0, 1, 2] [0, 1, 2] 0 Y Y Y Y (jj (hsE [1] [1, 2] 0 Y Y Y Y) (jB Y (jV (us := #[_, _, _, _, _]) (cs' := [_, _, _, _, _]) (S' := [_, _, _]) 2 (fun w => sizeOf26 w) Y Y Y Y Y Y Y (jj (hsE [1] [1, 2] 0 Y Y Y Y) (jp Y Y Y Y (fun _ _ => kW Y) (j4 (ja ?_)))))))
  refine jy (JK 55 ?_)
  obtain rfl := sj hm
  refine jm Y (fun w hh => (.cell Y (loadVar_agg (vs := [_, _, _, _, _]) (isAgg26 _) (sizeOf26 _) (hh.cells 2 Y Y)) (.tmp Y .nil))) (fun w hh => ⟨(l_2, l_8, ⟨none, 0, 0, []⟩, l_14), rfl, ⟨h14, h38, VOK.nil, h60, h61⟩, hh.se [0] [2, 3, 0, 1] 1 Y Y Y rfl⟩)
structure qX where
  b0_1 : Int
  b0_2 : Int
  r0 : (List Sight)
structure zi where
  b0_1 : Int
  b0_2 : Int
  out9 : (List Sight)
structure k8 where
  t14 : Int
  b0_1 : Int
  b0_2 : Int
  out9 : (List Sight)
structure Qn where
  s10 : Sight
  b0_1 : Int
  b0_2 : Int
structure JT where
  b0_1 : Int
  b0_2 : Int
  s10_cell : Int
def qI (t13 : yD) (c1 : Channel) (b00 : (List Int)) (course2 : (List (List Int))) (s : k8) : Option (k8 ⊕ zi) :=
 if s.t14 < t13.r0 then
 (((subc c1.cells 1).bind fun t23 =>
 (jT b00 s.b0_1 s.b0_2 c1.tides).bind fun t19 =>
 (jT b00 t19.h0_1 t19.h0_2 t23).bind fun t24 =>
 some (⟨(⟨t19.r0, t24.r0, false⟩ : Sight), t24.h0_1, t24.h0_2⟩ : Qn)).bind fun o_1 =>
 ((yE b00 o_1.b0_1 o_1.b0_2 2).bind fun t27 =>
 if t27.r0 = true then
 ((ix course2 o_1.s10.after).bind fun t31 =>
 (subc (c1.fords.length : Int) 1).bind fun t37 =>
 (jT b00 t27.h0_1 t27.h0_2 t37).bind fun t38 =>
 (ix t31 t38.r0).bind fun t39 =>
 some (⟨t38.h0_1, t38.h0_2, t39⟩ : JT)) else
 (some (⟨t27.h0_1, t27.h0_2, o_1.s10.cell⟩ : JT))).bind fun o_2 =>
 (ix course2 o_1.s10.after).bind fun t45 =>
 (kl t45 o_2.s10_cell).bind fun t49 =>
 (appc 24 s.out9 [(⟨o_1.s10.after, o_2.s10_cell, t49⟩ : Sight)]).bind fun t54 =>
 (addc s.t14 1).bind fun t55 =>
 some (.inl (⟨t55, o_2.b0_1, o_2.b0_2, t54⟩ : k8))) else
 (some (.inr (⟨s.b0_1, s.b0_2, s.out9⟩ : zi)))
def qN (b00 : (List Int)) (b01 : Int) (b02 : Int) (c1 : Channel) (course2 : (List (List Int))) (most3 : Int) : Option qX :=
 (jT b00 b01 b02 most3).bind fun t13 =>
 (iterM FU (qI t13 c1 b00 course2) (⟨0, t13.h0_1, t13.h0_2, []⟩ : k8)).bind fun o =>
 some (⟨o.b0_1, o.b0_2, o.out9⟩ : qX)
theorem QQ (b00 : (List Int)) (b01 : Int) (b02 : Int) (c1 : Channel) (course2 : (List (List Int))) (most3 : Int) (pb : Nat) (qa0 : Option Addr) (na0 ca0 : Nat) (qa1 : Option Addr) (na1 ca1 : Nat) (qa2 : Option Addr) (na2 ca2 : Nat) (qa3 : Option Addr) (na3 ca3 : Nat) (qa4 : Option Addr) (na4 ca4 : Nat) (ar4 : List AL) (w : World) (hw : HV w (keys [kc pb #[.slice qa0 na0 ca0, .int .i64 b01, .int .u32 b02] 199] []) [kc pb #[.slice qa0 na0 ca0, .int .i64 b01, .int .u32 b02] 199] [] [(aB qa0, aO qa0, RU8.enc b00), (aB qa1, aO qa1, RI.enc c1.fords), (aB qa2, aO qa2, RSa.enc c1.sands), (aB qa3, aO qa3, RSi.enc c1.sights), (aB qa4, aO qa4, RwA.enc ar4)] w) (hna0 : b00.length = na0) (hqa0 : AOK na0 qa0) (hla0 : na0 ≤ ca0) (hna1 : c1.fords.length = na1) (hqa1 : AOK na1 qa1) (hla1 : na1 ≤ ca1) (hna2 : c1.sands.length = na2) (hqa2 : AOK na2 qa2) (hla2 : na2 ≤ ca2) (hna3 : c1.sights.length = na3) (hqa3 : AOK na3 qa3) (hla3 : na3 ≤ ca3) (hna4 : course2.length = na4) (hqa4 : AOK na4 qa4) (hla4 : na4 ≤ ca4) (hda4 : DRO course2 ar4) (hTa4 : ∀ t, t ∈ rsg RI course2 ar4 → segOK w t ∧ (t.2.2 ≠ [] → t.1 ∉ keys [kc pb #[.slice qa0 na0 ca0, .int .i64 b01, .int .u32 b02] 199] [])) {res : qX} (hm : qN b00 b01 b02 c1 course2 most3 = some res) :
    Calls Tryz.prog 67 #[ptr pb 0, .agg #[.int .i64 c1.cells, .int .i64 c1.tides, .slice qa1 na1 ca1, .slice qa2 na2 ca2, .slice qa3 na3 ca3], .slice qa4 na4 ca4, .int .i64 most3] w (fun en w' => ∃ l : VL, en = .returned (sL l) ∧ (VOK 3 l.n l.cap (RSi.enc res.r0) l.sp l.q) ∧ HV w (keys [kc pb #[.slice qa0 na0 ca0, .int .i64 b01, .int .u32 b02] 199] []) [kc pb #[.slice qa0 na0 ca0, .int .i64 res.b0_1, .int .u32 res.b0_2] 199] [vL 55 l (RSi.enc res.r0)] [] w') := by
  unfold qN at hm
  refine yv func67 Y ntmps67 Y (e := [(0, _), (1, _), (2, _), (3, _)]) Y hw (jr ?_)
  refine jL Y Y (fun b h2 => ?_)
  refine jc Y Y Y (fun _ _ => yj Y) (qj (jc Y Y Y (fun _ _ => yj Y) (jq (ji (jr (jg Y Y (jg Y Y ?_)))))))
  obtain ⟨t13, h3, hm⟩ := bindO hm
  refine kJ (S' := [_, _]) (vs' := []) [1, 0] [] 0 Y Y Y Y ?_
  refine jd [_] [] Y Y Y Y Y Y Y call146 (fun w hh => ka b00 b01 b02 most3 pb qa0 na0 ca0 w (HV.callee (S0 := [_]) (vs0 := []) hh (roR hh 0 Y roN)) hna0 hqa0 hla0 h3) (fun l h4 => ?_)
  refine kJ (S' := [_, _]) (vs' := []) [0, 1] [] 0 Y Y Y Y (jg Y Y (jq (JK 55 ?_)))
  obtain ⟨o, h5, h6⟩ := bindO hm
  refine j6 (ι := VL) (fun l_1 => VOK 3 l_1.n l_1.cap (RSi.enc o.out9) l_1.sp l_1.q) (fun l_1 => [(9, sL l_1)]) (fun l_1 => [kc pb #[.slice qa0 na0 ca0, .int .i64 o.b0_1, .int .u32 o.b0_2] 199, kc b #[.int .i64 c1.cells, .int .i64 c1.tides, .slice qa1 na1 ca1, .slice qa2 na2 ca2, .slice qa3 na3 ca3] 26]) (fun l_1 => [vL 55 l_1 (RSi.enc o.out9)]) ?_ ?_
  ·replace hm := h5
   refine jn ?_
   refine kf (ι := VL) hm (fun s l_2 => VOK 3 l_2.n l_2.cap (RSi.enc s.out9) l_2.sp l_2.q) (fun s l_2 => [(0, ptr pb 0), (2, .slice qa4 na4 ca4), (5, ptr b 0), (9, sL l_2), (13, .int .i64 t13.r0), (14, .int .i64 s.t14)]) (fun s l_2 => [kc pb #[.slice qa0 na0 ca0, .int .i64 s.b0_1, .int .u32 s.b0_2] 199, kc b #[.int .i64 c1.cells, .int .i64 c1.tides, .slice qa1 na1 ca1, .slice qa2 na2 ca2, .slice qa3 na3 ca3] 26]) (fun s l_2 => [vL 55 l_2 (RSi.enc s.out9)]) ⟨none, 0, 0, []⟩ (VOK.nil) (sE Y) (fun w hh => hh) (fun s l_2 r hpl hm h9 => ?_)
   have h8 := hpl
   unfold qI at hm
   refine jr (Kk Y Y Y (jq (ji ?_)))
   refine jv Y (fun h10 => ?_) (fun h10 => ?_)
   ·replace hm := ifD h10 hm
    refine ju (ja (ji (jn (ji ?_))))
    obtain ⟨o_1, h11, h12⟩ := bindO hm
    refine j6 (ι := Nat) (fun l_3 => True) (fun l_3 => [(0, ptr pb 0), (2, .slice qa4 na4 ca4), (5, ptr b 0), (9, sL l_2), (10, ptr l_3 0), (13, .int .i64 t13.r0), (14, .int .i64 s.t14)]) (fun l_3 => [kc pb #[.slice qa0 na0 ca0, .int .i64 o_1.b0_1, .int .u32 o_1.b0_2] 199, kc b #[.int .i64 c1.cells, .int .i64 c1.tides, .slice qa1 na1 ca1, .slice qa2 na2 ca2, .slice qa3 na3 ca3] 26, kc l_3 #[.int .i64 o_1.s10.after, .int .i64 o_1.s10.cell, .bool o_1.s10.upright] 55]) (fun l_3 => [vL 55 l_2 (RSi.enc s.out9)]) ?_ ?_
    ·replace hm := h11
     obtain ⟨t23, h13, hm⟩ := bindO hm
     obtain ⟨t19, h14, hm⟩ := bindO hm
     obtain ⟨t24, h15, hm⟩ := bindO hm
     refine qi none (.free 0 (.free 1 (.hoist 2 (.free 4 (.free 5 (.hoist 6 (.free 7 (.br (.alt 3 (.br (.alt 8 (.free 9 (.one 10 (.one 11 .done))) (.alt 10 (.one 8 (.free 9 (.one 11 .done))) .nil))) (.alt 10 (.one 3 (.one 8 (.free 9 (.one 11 .done)))) .nil)))))))))) (HV _ _ [kc b #[.int .i64 c1.cells, .int .i64 c1.tides, .slice qa1 na1 ca1, .slice qa2 na2 ca2, .slice qa3 na3 ca3] 26] [vL 55 l_2 (RSi.enc s.out9)] _) Y (by decide +kernel) (fun w k hh => hh.draw k) (hsE [1] [0] 0 Y Y Y Y) ?_
     refine zn Y Y Y (Kf 1 runUnderlying26 sizeOf3 Y Y Y Y (K9 0 isAgg3 Y Y Y Y Y (zn Y Y Y (Kf 0 runUnderlying26 sizeOf3 Y Y Y Y (K9 0 isAgg3 Y Y Y Y Y (jp Y Y Y Y (fun _ _ => qU h13 Y Y) (Yk ?_)))))))
     refine qB Y ?_ ?_
     ·refine jd [_] [] Y Y Y Y Y Y Y call146 (fun w hh => ka b00 s.b0_1 s.b0_2 c1.tides pb qa0 na0 ca0 w (HV.callee (S0 := [_]) (vs0 := []) hh (roR hh 0 Y roN)) hna0 hqa0 hla0 h14) (fun l_4 h16 => ?_)
      refine kJ (S' := [_, _]) (vs' := [_]) [0, 1] [0] 0 Y Y Y Y (jj (hsE [1] [0] 0 Y Y Y Y) (Yk ?_))
      refine qB Y ?_ ?_
      ·refine jd [_] [] Y Y Y Y Y Y Y call146 (fun w hh => ka b00 t19.h0_1 t19.h0_2 t23 pb qa0 na0 ca0 w (HV.callee (S0 := [_]) (vs0 := []) hh (roR hh 0 Y roN)) hna0 hqa0 hla0 h15) (fun l_5 h17 => ?_)
       refine kJ (S' := [_, _]) (vs' := [_]) [0, 1] [0] 0 Y Y Y Y (jj (hsE [1] [0] 0 Y Y Y Y) (jp Y Y Y Y (fun _ _ => kz (vs := [(0, _), (1, _)]) (cells := [_, _, _]) Y Y) (jB Y ?_)))
       refine js (fun w => zeroValue55 w) Y (fun b_1 h18 => ?_)
       refine jj (hsE [2] [0] 0 Y Y Y Y) (jB Y (jV (us := #[_, _, _]) (cs' := [_, _, _]) (S' := [_, _, _]) 0 (fun w => sizeOf55 w) Y Y Y Y Y Y Y (jj (hsE [2] [0] 0 Y Y Y Y) (j4 ?_))))
       obtain rfl := sj hm
       exact jk b_1 (trivial) (sE Y) (hsE [1, 2, 0] [0] 0 Y Y Y Y)
      refine qB Y ?_ ?_
      refine js (fun w => zeroValue55 w) Y (fun b_2 h19 => ?_)
      refine jj (hsE [2] [0] 0 Y Y Y Y) (jB Y (kJ (S' := [_, _, _]) (vs' := [_]) [1, 0, 2] [0] 0 Y Y Y Y ?_))
      refine jd [_] [] Y Y Y Y Y Y Y call146 (fun w hh => ka b00 t19.h0_1 t19.h0_2 t23 pb qa0 na0 ca0 w (HV.callee (S0 := [_]) (vs0 := []) hh (roR hh 0 Y roN)) hna0 hqa0 hla0 h15) (fun l_6 h20 => ?_)
      refine kJ (S' := [_, _, _]) (vs' := [_]) [0, 1, 2] [0] 0 Y Y Y Y (jj (hsE [2] [0] 0 Y Y Y Y) (jp Y Y Y Y (fun _ _ => kz (vs := [(0, _), (1, _)]) (cells := [_, _, _]) Y Y) (jB Y (jV (us := #[_, _, _]) (cs' := [_, _, _]) (S' := [_, _, _]) 1 (fun w => sizeOf55 w) Y Y Y Y Y Y Y (jj (hsE [2] [0] 0 Y Y Y Y) (j4 ?_))))))
      obtain rfl := sj hm
      exact jk b_2 (trivial) (sE Y) (hsE [0, 2, 1] [0] 0 Y Y Y Y)
      exact J5
     refine qB Y ?_ ?_
     refine js (fun w => zeroValue55 w) Y (fun b_3 h21 => ?_)
     refine jj (hsE [2] [0] 0 Y Y Y Y) (jB Y (kJ (S' := [_, _, _]) (vs' := [_]) [1, 0, 2] [0] 0 Y Y Y Y ?_))
     refine jd [_] [] Y Y Y Y Y Y Y call146 (fun w hh => ka b00 s.b0_1 s.b0_2 c1.tides pb qa0 na0 ca0 w (HV.callee (S0 := [_]) (vs0 := []) hh (roR hh 0 Y roN)) hna0 hqa0 hla0 h14) (fun l_7 h22 => ?_)
     refine kJ (S' := [_, _, _]) (vs' := [_]) [0, 1, 2] [0] 0 Y Y Y Y (jj (hsE [2] [0] 0 Y Y Y Y) (jB Y ?_))
     refine jd [_] [] Y Y Y Y Y Y Y call146 (fun w hh => ka b00 t19.h0_1 t19.h0_2 t23 pb qa0 na0 ca0 w (HV.callee (S0 := [_]) (vs0 := []) hh (roR hh 0 Y roN)) hna0 hqa0 hla0 h15) (fun l_8 h23 => ?_)
     refine kJ (S' := [_, _, _]) (vs' := [_]) [0, 1, 2] [0] 0 Y Y Y Y (jj (hsE [2] [0] 0 Y Y Y Y) (jp Y Y Y Y (fun _ _ => kz (vs := [(0, _), (1, _)]) (cells := [_, _, _]) Y Y) (jB Y (jV (us := #[_, _, _]) (cs' := [_, _, _]) (S' := [_, _, _]) 1 (fun w => sizeOf55 w) Y Y Y Y Y Y Y (jj (hsE [2] [0] 0 Y Y Y Y) (j4 ?_))))))
     obtain rfl := sj hm
     exact jk b_3 (trivial) (sE Y) (hsE [0, 2, 1] [0] 0 Y Y Y Y)
     exact J5
    intro l_3 hj
    replace hm := h12
    refine ja (ji ?_)
    obtain ⟨o_2, h24, h25⟩ := bindO hm
    refine j6 (ι := Unit) (fun l_9 => True) (fun l_9 => [(0, ptr pb 0), (2, .slice qa4 na4 ca4), (5, ptr b 0), (9, sL l_2), (10, ptr l_3 0), (13, .int .i64 t13.r0), (14, .int .i64 s.t14)]) (fun l_9 => [kc pb #[.slice qa0 na0 ca0, .int .i64 o_2.b0_1, .int .u32 o_2.b0_2] 199, kc b #[.int .i64 c1.cells, .int .i64 c1.tides, .slice qa1 na1 ca1, .slice qa2 na2 ca2, .slice qa3 na3 ca3] 26, kc l_3 #[.int .i64 o_1.s10.after, .int .i64 o_2.s10_cell, .bool o_1.s10.upright] 55]) (fun l_9 => [vL 55 l_2 (RSi.enc s.out9)]) ?_ ?_
    ·replace hm := h24
     refine jr (jg Y Y ?_)
     obtain ⟨t27, h26, hm⟩ := bindO hm
     refine jd [_] [] Y Y Y Y Y Y Y call68 (fun w hh => KC b00 o_1.b0_1 o_1.b0_2 2 pb qa0 na0 ca0 w (HV.callee (S0 := [_]) (vs0 := []) hh (roR hh 0 Y roN)) hna0 hqa0 hla0 h26) (fun l_10 h27 => ?_)
     refine kJ (S' := [_, _, _]) (vs' := [_]) [0, 1, 2] [0] 0 Y Y Y Y (jq ?_)
     refine jv Y (fun h28 => ?_) (fun h28 => ?_)
     ·replace hm := ifT (h28) hm
      refine qi (some 14) (.free 0 (.free 1 (.hoist 2 (.free 3 (.hoist 4 (.free 5 (.free 6 (.hoist 7 (.free 8 (.free 9 (.one 10 (.free 11 (.hoist 12 (.free 13 (.last 14 .done))))))))))))))) (HV _ _ [kc b #[.int .i64 c1.cells, .int .i64 c1.tides, .slice qa1 na1 ca1, .slice qa2 na2 ca2, .slice qa3 na3 ca3] 26, kc l_3 #[.int .i64 o_1.s10.after, .int .i64 o_1.s10.cell, .bool o_1.s10.upright] 55] [vL 55 l_2 (RSi.enc s.out9)] _) Y (by decide +kernel) (fun w k hh => hh.draw k) (hsE [1, 2] [0] 0 Y Y Y Y) ?_
      refine zn Y Y Y (Kf 0 runUnderlying55 sizeOf3 Y Y Y Y (K9 1 isAgg3 Y Y Y Y Y ?_))
      obtain ⟨t31, h29, hm⟩ := bindO hm
      obtain ⟨A, h30, h31, h32, h33⟩ := (hda4).row h29
      refine jp Y Y Y Y (fun w _ => zM h30 (runUnderlying41 w) (sizeOf22 w) Y Y (Eq.trans (hda4).len.symm hna4) hqa4) (jz Y Y Y Y (fun w hh => ze RwA 0 h30 (isAgg22 w) Y (hh.seg 4 Y) Y (Nat.add_zero _).symm) (zn Y Y Y (Kf 2 runUnderlying26 sizeOf22 Y Y Y Y (K9 0 isAgg22 Y Y Y Y Y (jp Y Y Y Y (fun w _ => qh hna1 (runUnderlying22 w) Y) ?_)))))
      obtain ⟨t37, h34, hm⟩ := bindO hm
      refine jp Y Y Y Y (fun _ _ => qU h34 Y Y) (jB Y ?_)
      obtain ⟨t38, h35, hm⟩ := bindO hm
      refine jd [_] [] Y Y Y Y Y Y Y call146 (fun w hh => ka b00 t27.h0_1 t27.h0_2 t37 pb qa0 na0 ca0 w (HV.callee (S0 := [_]) (vs0 := []) hh (roR hh 0 Y roN)) hna0 hqa0 hla0 h35) (fun l_11 h36 => ?_)
      refine kJ (S' := [_, _, _]) (vs' := [_]) [0, 1, 2] [0] 0 Y Y Y Y (jj (hsE [1, 2] [0] 0 Y Y Y Y) ?_)
      obtain ⟨t39, h37, hm⟩ := bindO hm
      refine jp Y Y Y Y (fun w _ => zM h37 (runUnderlying22 w) (sizeOf3 w) Y Y h31 h32) (jz Y Y Y Y (fun w hh => ze RI 0 h37 (isAgg3 w) Y (hh.oldseg (hTa4 _ (rsg_ix h29 h30))) Y (Nat.add_zero _).symm) (Kf 1 runUnderlying55 sizeOf3 Y Y Y Y (YW Y (yx (cs' := #[_, _, _]) (S' := [_, _, _]) 2 (fun w => sizeOf3 w) Y Y Y Y Y Y Y (QY (j4 ?_))))))
      obtain rfl := sj hm
      exact jk () (trivial) (sE Y) (fun w hh => hh)
     replace hm := ifN h28 hm
     refine ju ?_
     obtain rfl := sj hm
     exact jk () (trivial) (sE Y) (fun w hh => hh)
    intro l_9 hj
    replace hm := h25
    refine ja (ji ?_)
    refine qi (some 9) (.free 0 (.free 1 (.hoist 2 (.free 3 (.hoist 4 (.free 5 (.hoist 6 (.one 7 (.free 8 (.last 9 .done)))))))))) _ Y (by decide +kernel) (fun w k hh => hh.draw k) (fun w hh => hh) ?_
    refine zn Y Y Y (Kf 0 runUnderlying55 sizeOf3 Y Y Y Y (K9 2 isAgg3 Y Y Y Y Y ?_))
    obtain ⟨t45, h38, hm⟩ := bindO hm
    obtain ⟨A_1, h39, h40, h41, h42⟩ := (hda4).row h38
    refine jp Y Y Y Y (fun w _ => zM h39 (runUnderlying41 w) (sizeOf22 w) Y Y (Eq.trans (hda4).len.symm hna4) hqa4) (jz Y Y Y Y (fun w hh => ze RwA 0 h39 (isAgg22 w) Y (hh.seg 4 Y) Y (Nat.add_zero _).symm) (Kf 1 runUnderlying55 sizeOf3 Y Y Y Y (K9 2 isAgg3 Y Y Y Y Y (jB Y ?_))))
    obtain ⟨t49, h43, hm⟩ := bindO hm
    refine jd [] [] Y Y Y Y Y Y Y call64 (fun w hh => y5 t45 o_2.s10_cell A_1.a A_1.n A_1.cap w (HV.callee (S0 := []) (vs0 := []) hh (roC (hh.oldsep (S0 := []) (vs0 := []) (hTa4 _ (rsg_ix h38 h39))) roN)) h40 h41 h42 h43) (fun l_12 h44 => ?_)
    refine jj (fun w hh => hh) (Kf 2 runUnderlying55 sizeOf4 Y Y Y Y (YW Y (yx (cs' := #[_, _, _]) (S' := [_, _, _]) 2 (fun w => sizeOf4 w) Y Y Y Y Y Y Y (QY (j4 (ja (je ?_)))))))
    refine jg Y Y (Jm [_, _, _] 2 isAgg55 sizeOf55 Y Y Y Y ?_)
    refine qu RSi [(⟨o_1.s10.after, o_2.s10_cell, t49⟩ : Sight)] (ps := [(0, _)]) (cells := [_, _, _]) (fun w => runUnderlying24 w) (fun w => sizeOf55 w) (fun w => zeroValue55 w) Y Y Y Y Y Y Y Y (fun L h45 => ?_)
    obtain ⟨t54, h46, hm⟩ := bindO hm
    refine Ja RSi 1 h46 underlying24 YN Y Y Y Y Y h8 Y Y (vlen RSi h45 Y) (AOK.q (vne h45)) (fun w hh => (hh.vsegA 0 Y h45)) Y (fun L_1 h47 h47n => ?_)
    refine kJ (S' := [_, _, _]) (vs' := [_, _]) [0, 1, 2] [0, 1] 0 Y Y Y Y (jo Y Y (jt (jw (ja (je ?_)))))
    obtain ⟨t55, h48, hm⟩ := bindO hm
    refine J7 h48 Y Y Y (jg Y Y (jt ?_))
    obtain rfl := sj hm
    refine ja ?_
    exact jH _ L_1 Y (h47) (sE Y) (hsE [0, 1] [1] 0 Y Y Y Y)
   replace hm := ifE h10 hm
   refine kC (jl (jl (jI ?_)))
   obtain rfl := sj hm
   have hbo := h9 _ Y
   subst hbo
   exact jk l_2 (h8) (sE Y) (fun w hh => hh)
  intro l_1 hj
  have h7 := hj
  replace hm := h6
  refine ja (jr (jg Y Y (jo Y Y (jq (jy ?_)))))
  obtain rfl := sj hm
  refine jm Y (fun w hh => (.tmp Y .nil)) (fun w hh => ⟨l_1, rfl, h7, hh.se [0] [0] 5 Y Y Y rfl⟩)
end Go.Proofs.Wb

namespace Go.Proofs.Wb
set_option maxHeartbeats 4000000
set_option maxRecDepth 100000
open Go Go.Fw Go.Gx Go.Sb
open Tryz
set_option linter.unusedVariables false

structure jE where
  t5_1 : Int
  t5_2 : Int
  r0 : (List Sight)
structure jR where
  t54 : Int
  t5_1 : Int
  t5_2 : Int
  r0 : (List Sight)
structure k7 where
  t5_1 : Int
  t5_2 : Int
  r0 : (List Sight)
structure q3 where
  t65 : Bool
  t5_1 : Int
  t5_2 : Int
def kp (t49 : qX) (turned1 : Int) (numbers0 : (List Int)) (s : jR) : Option (jR ⊕ jE) :=
 if s.t54 < (t49.r0.length : Int) then
 (((if (0 : Int) ≤ s.t54 then (if (IntKind.u8.wrap (BitVec.ofInt IntKind.u8.bits (Int.fdiv turned1 (2 ^ min (Int.toNat s.t54) IntKind.u8.bits)) &&& BitVec.ofInt IntKind.u8.bits 1).toNat) = 1 then
 ((yE numbers0 s.t5_1 s.t5_2 2).bind fun t64 =>
 some (⟨t64.r0, t64.h0_1, t64.h0_2⟩ : q3)) else
 (some (⟨false, s.t5_1, s.t5_2⟩ : q3))) else none).bind fun o_2 =>
 if o_2.t65 = true then
 ((ix s.r0 s.t54).bind fun t72 =>
 (ix s.r0 s.t54).bind fun t76 =>
 (some (s.r0.set (Int.toNat s.t54) (⟨t76.after, t76.cell, (!t72.upright)⟩ : Sight))).bind fun r0 =>
 some (⟨o_2.t5_1, o_2.t5_2, r0⟩ : k7)) else
 (some (⟨o_2.t5_1, o_2.t5_2, s.r0⟩ : k7))).bind fun o_1 =>
 (addc s.t54 1).bind fun t78 =>
 some (.inl (⟨t78, o_1.t5_1, o_1.t5_2, o_1.r0⟩ : jR))) else
 (some (.inr (⟨s.t5_1, s.t5_2, s.r0⟩ : jE)))
structure ku where
  t87 : Int
  r0_fords : (List Int)
def jQ (t43 : jU) (t83 : Int) (s_1 : ku) : Option (ku ⊕ (List Int)) :=
 if s_1.t87 < (t43.r0.fords.length : Int) then
 ((ix t43.r0.fords s_1.t87).bind fun t90 =>
 (subc (t43.r0.fords.length : Int) 1).bind fun t97 =>
 (subc t97 s_1.t87).bind fun t99 =>
 (subc t83 t90).bind fun t102 =>
 (ix s_1.r0_fords t99).bind fun t103 =>
 (some (s_1.r0_fords.set (Int.toNat t99) t102)).bind fun r0_fords =>
 (addc s_1.t87 1).bind fun t104 =>
 some (.inl (⟨t104, r0_fords⟩ : ku))) else
 (some (.inr s_1.r0_fords))
structure k5 where
  t108 : Int
  r0_sands : (List Sand)
def jP (t43 : jU) (t83 : Int) (s_2 : k5) : Option (k5 ⊕ (List Sand)) :=
 if s_2.t108 < (t43.r0.sands.length : Int) then
 ((ix t43.r0.sands s_2.t108).bind fun t111 =>
 (subc t83 t111.span.hi).bind fun t120 =>
 (subc t83 t111.span.lo).bind fun t125 =>
 (ix s_2.r0_sands s_2.t108).bind fun t127 =>
 (some (s_2.r0_sands.set (Int.toNat s_2.t108) (⟨(⟨t120, t125⟩ : Span), t127.reach⟩ : Sand))).bind fun r0_sands =>
 (addc s_2.t108 1).bind fun t129 =>
 some (.inl (⟨t129, r0_sands⟩ : k5))) else
 (some (.inr s_2.r0_sands))
structure k6 where
  t133 : Int
  r0_sights : (List Sight)
def jO (o : jE) (t83 : Int) (s_3 : k6) : Option (k6 ⊕ (List Sight)) :=
 if s_3.t133 < (o.r0.length : Int) then
 ((ix o.r0 s_3.t133).bind fun t136 =>
 (subc t83 t136.cell).bind fun t144 =>
 (ix s_3.r0_sights s_3.t133).bind fun t145 =>
 (some (s_3.r0_sights.set (Int.toNat s_3.t133) (⟨t145.after, t144, t145.upright⟩ : Sight))).bind fun r0_sights =>
 (addc s_3.t133 1).bind fun t147 =>
 some (.inl (⟨t147, r0_sights⟩ : k6))) else
 (some (.inr s_3.r0_sights))
def jF (t242 : qr) (t254 : qr) (t83 : Int) (s_6 : Int) : Option (Int ⊕ (Unit ⊕ Bool)) :=
 if s_6 < (t242.r0.length : Int) then
 ((ix t242.r0 s_6).bind fun t272 =>
 (subc (t254.r0.length : Int) 1).bind fun t277 =>
 (subc t277 s_6).bind fun t279 =>
 (ix t254.r0 t279).bind fun t280 =>
 (subc t83 t272).bind fun t284 =>
 if t280 = t284 then
 ((addc s_6 1).bind fun t286 =>
 some (.inl t286)) else
 (some (.inr (.inr false)))) else
 (some (.inr (.inl ())))
def kt (t43 : jU) (o : jE) (s_4 : Int) (t80 : Channel) (o_3 : (List Int)) (o_4 : (List Sand)) (o_5 : (List Sight)) (t83 : Int) (s_5 : Int) : Option (Int ⊕ (Unit ⊕ Bool)) :=
 if s_5 < (t43.r0.fords.length : Int) then
 ((ya (⟨t43.r0.cells, t43.r0.tides, t43.r0.fords, t43.r0.sands, o.r0⟩ : Channel) s_4 s_5).bind fun t242 =>
 (subc (t43.r0.fords.length : Int) 1).bind fun t251 =>
 (subc t251 s_5).bind fun t253 =>
 (ya (⟨t80.cells, t80.tides, o_3, o_4, o_5⟩ : Channel) s_4 t253).bind fun t254 =>
 (if t242.r1 = t254.r1 then
 (some (!decide ((t242.r0.length : Int) = (t254.r0.length : Int)))) else
 (some true)).bind fun o_9 =>
 if o_9 = true then
 (some (.inr (.inr false))) else
 ((iterM FU (jF t242 t254 t83) 0).bind fun o_10 =>
 oc o_10 (fun j_2 => (addc s_5 1).bind fun t287 =>
 some (.inl t287)) (fun r_7 => some (.inr (.inr r_7))))) else
 (some (.inr (.inl ())))
def ks (t228 : Int) (t43 : jU) (o : jE) (t80 : Channel) (o_3 : (List Int)) (o_4 : (List Sand)) (o_5 : (List Sight)) (t83 : Int) (s_4 : Int) : Option (Int ⊕ (Unit ⊕ Bool)) :=
 if s_4 < t228 then
 ((iterM FU (kt t43 o s_4 t80 o_3 o_4 o_5 t83) 0).bind fun o_8 =>
 oc o_8 (fun j_1 => (addc s_4 1).bind fun t288 =>
 some (.inl t288)) (fun r_8 => some (.inr (.inr r_8)))) else
 (some (.inr (.inl ())))
def qy (numbers0 : (List Int)) (turned1 : Int) : Option Bool :=
 (YK numbers0).bind fun t40 =>
 (qO numbers0 t40.t5_1 t40.t5_2 9 2 3).bind fun t43 =>
 (qN numbers0 t43.b0_1 t43.b0_2 t43.r0 t43.r1 6).bind fun t49 =>
 (iterM FU (kp t49 turned1 numbers0) (⟨0, t49.b0_1, t49.b0_2, t49.r0⟩ : jR)).bind fun o =>
 (yz (⟨t43.r0.cells, t43.r0.tides, t43.r0.fords, t43.r0.sands, o.r0⟩ : Channel)).bind fun t80 =>
 (subc t43.r0.cells 1).bind fun t83 =>
 (iterM FU (jQ t43 t83) (⟨0, t80.fords⟩ : ku)).bind fun o_3 =>
 (iterM FU (jP t43 t83) (⟨0, t80.sands⟩ : k5)).bind fun o_4 =>
 (iterM FU (jO o t83) (⟨0, t80.sights⟩ : k6)).bind fun o_5 =>
 (yc (⟨t43.r0.cells, t43.r0.tides, t43.r0.fords, t43.r0.sands, o.r0⟩ : Channel)).bind fun t150 =>
 (yc (⟨t80.cells, t80.tides, o_3, o_4, o_5⟩ : Channel)).bind fun t155 =>
 (zk (⟨t43.r0.cells, t43.r0.tides, t43.r0.fords, t43.r0.sands, o.r0⟩ : Channel)).bind fun t160 =>
 (zk (⟨t80.cells, t80.tides, o_3, o_4, o_5⟩ : Channel)).bind fun t166 =>
 (zY (⟨t43.r0.cells, t43.r0.tides, t43.r0.fords, t43.r0.sands, o.r0⟩ : Channel)).bind fun t172 =>
 (zY (⟨t80.cells, t80.tides, o_3, o_4, o_5⟩ : Channel)).bind fun t177 =>
 (if t150.r1 = 0 then
 (if t155.r1 = 0 then
 (if t150.r0 = t155.r0 then
 (if t160.r2 = t166.r2 then
 (if t172.r1 = t177.r1 then
 (if t160.r1 = t166.r1 then
 (if t172.r0 = t177.r0 then
 (if (!((decide (t150.r0 = 0)) == (decide (t160.r2 = 7)))) = true then
 (some true) else
 (if 0 < t150.r0 then
 (some (!decide (t160.r2 = 0))) else
 (some false))) else
 (some true)) else
 (some true)) else
 (some true)) else
 (some true)) else
 (some true)) else
 (some true)) else
 (some true)).bind fun o_6 =>
 if o_6 = true then
 (some false) else
 ((addc t43.r0.tides 1).bind fun t228 =>
 (iterM FU (ks t228 t43 o t80 o_3 o_4 o_5 t83) 0).bind fun o_7 =>
 oc o_7 (fun j => (zh).bind fun t289 =>
 some t289) (fun r_9 => some r_9))
theorem Kx (numbers0 : (List Int)) (turned1 : Int) (qa0 : Option Addr) (na0 ca0 : Nat) (w : World) (hw : HV w (keys [] []) [] [] [(aB qa0, aO qa0, RU8.enc numbers0)] w) (hna0 : numbers0.length = na0) (hqa0 : AOK na0 qa0) (hla0 : na0 ≤ ca0) {res : Bool} (hm : qy numbers0 turned1 = some res) :
    Calls Tryz.prog 10 #[.slice qa0 na0 ca0, .int .u8 turned1] w (fun en w' => ∃ l : Unit, en = .returned (.bool res) ∧ (True) ∧ HV w (keys [] []) [] [] [] w') := by
  unfold qy at hm
  refine yv func10 Y ntmps10 Y (e := [(0, _), (1, _)]) Y hw (jr (jo Y Y (qj (jg Y Y ?_))))
  obtain ⟨t40, h1, hm⟩ := bindO hm
  refine jd [] [] Y Y Y Y Y Y Y call62 (fun w hh => jak numbers0 qa0 na0 ca0 w (HV.callee (S0 := []) (vs0 := []) hh (roR hh 0 Y roN)) hna0 hqa0 hla0 h1) (fun l h2 => ?_)
  refine kJ (S' := [_]) (vs' := []) [0] [] 0 Y Y Y Y (jo Y Y (qj (jg Y Y ?_)))
  obtain ⟨t43, h3, hm⟩ := bindO hm
  refine jd [_] [] Y Y Y Y Y Y Y call61 (fun w hh => QS numbers0 t40.t5_1 t40.t5_2 9 2 3 l qa0 na0 ca0 w (HV.callee (S0 := [_]) (vs0 := []) hh (roR hh 0 Y roN)) hna0 hqa0 hla0 h3) (fun l_1 h4 => ?_)
  obtain ⟨h5, h6, h7, h8, h9⟩ := h4
  refine kJ (S' := [_]) (vs' := [_, _, _, _]) [0] [0, 1, 2, 3] 0 Y Y Y Y (jg Y Y (yZ Y Y Y (yZ Y Y Y ?_)))
  refine js (fun w => zeroValue26 w) Y (fun b h10 => ?_)
  refine jV (us := #[_, _, _, _, _]) (cs' := [_, _, _, _, _]) (S' := [_, _]) 0 (fun w => sizeOf26 w) Y Y Y Y Y Y Y (jo Y Y (qj (jg Y Y (Jm [_, _, _, _, _] 0 isAgg26 sizeOf26 Y Y Y Y (jg Y Y ?_)))))
  obtain ⟨t49, h11, hm⟩ := bindO hm
  refine kJ (S' := [_, _]) (vs' := [_, _, _, _]) [1, 0] [0, 1, 2, 3] 0 Y Y Y Y ?_
  refine jd [_] [] Y Y Y Y Y Y Y call67 (fun w hh => QQ numbers0 t43.b0_1 t43.b0_2 t43.r0 t43.r1 6 l qa0 na0 ca0 (qA l_1.1.q) l_1.1.n l_1.1.cap (qA l_1.2.1.q) l_1.2.1.n l_1.2.1.cap (qA l_1.2.2.1.q) l_1.2.2.1.n l_1.2.2.1.cap (qA l_1.2.2.2.v.q) l_1.2.2.2.v.n l_1.2.2.2.v.cap (toAL l_1.2.2.2.rs) w (HV.callee (S0 := [_]) (vs0 := []) hh (roR hh 0 Y (roC (hh.vsepA 0 Y h5) (roC (hh.vsepA 1 Y h6) (roC (hh.vsepA 2 Y h7) (roC (hh.vsepD 3 Y h8) roN)))))) hna0 hqa0 hla0 (vlen RI h5 Y) (AOK.q (vne h5)) (h5).hle (vlen RSa h6 Y) (AOK.q (vne h6)) (h6).hle (vlen RSi h7 Y) (AOK.q (vne h7)) (h7).hle (Eq.trans (h9).len (vlen RwH h8 Y)) (AOK.q (vne h8)) (h8).hle ((h9).toDRO Y) (hh.dsepT 3 Y h9) h11) (fun l_2 h12 => ?_)
  have h13 := h12
  refine kJ (S' := [_, _]) (vs' := [_, _, _, _, _]) [0, 1] [0, 1, 2, 3, 4] 0 Y Y Y Y (qY 4 runUnderlying26 Y sizeOf24 Y Y (yx (cs' := #[_, _, _, _, _]) (S' := [_, _]) 1 (fun w => sizeOf24 w) Y Y Y Y Y Y Y (jq (ji (jr (qY 4 runUnderlying26 Y sizeOf24 Y Y (qs 1 isAgg24 Y Y Y Y ?_)))))))
  refine jc Y Y Y (fun w _ => zr (vlen RSi h13 Y) (runUnderlying24 w) Y) (jg Y Y (jq ?_))
  obtain ⟨o, h14, h15⟩ := bindO hm
  refine j6 (ι := Unit) (fun l_3 => VOK 3 l_2.n l_2.cap (RSi.enc o.r0) l_2.sp l_2.q) (fun l_3 => [(6, ptr b 0)]) (fun l_3 => [kc l #[.slice qa0 na0 ca0, .int .i64 o.t5_1, .int .u32 o.t5_2] 199, kc b #[.int .i64 t43.r0.cells, .int .i64 t43.r0.tides, sL l_1.1, sL l_1.2.1, sL l_2] 26]) (fun l_3 => [vL 3 l_1.1 (RI.enc t43.r0.fords), vL 98 l_1.2.1 (RSa.enc t43.r0.sands), vL 55 l_2 (RSi.enc o.r0)]) ?_ ?_
  ·replace hm := h14
   refine jn ?_
   refine kf (ι := Unit) hm (fun s l_4 => VOK 3 l_2.n l_2.cap (RSi.enc s.r0) l_2.sp l_2.q) (fun s l_4 => [(1, .int .u8 turned1), (5, ptr l 0), (6, ptr b 0), (53, .int .i64 (t49.r0.length : Int)), (54, .int .i64 s.t54)]) (fun s l_4 => [kc l #[.slice qa0 na0 ca0, .int .i64 s.t5_1, .int .u32 s.t5_2] 199, kc b #[.int .i64 t43.r0.cells, .int .i64 t43.r0.tides, sL l_1.1, sL l_1.2.1, sL l_2] 26]) (fun s l_4 => [vL 3 l_1.1 (RI.enc t43.r0.fords), vL 98 l_1.2.1 (RSa.enc t43.r0.sands), vL 55 l_2 (RSi.enc s.r0)]) () (h13) (sE Y) (hsE [0, 1] [1, 2, 0] 0 Y Y Y Y) (fun s l_4 r hpl hm h18 => ?_)
   have h17 := hpl
   unfold kp at hm
   refine jr (Kk Y Y Y (jq (ji ?_)))
   refine jv Y (fun h19 => ?_) (fun h19 => ?_)
   ·replace hm := ifD h19 hm
    refine ju (ja (ji ?_))
    obtain ⟨o_1, h20, h21⟩ := bindO hm
    refine j6 (ι := Unit) (fun l_5 => VOK 3 l_2.n l_2.cap (RSi.enc o_1.r0) l_2.sp l_2.q) (fun l_5 => [(1, .int .u8 turned1), (5, ptr l 0), (6, ptr b 0), (53, .int .i64 (t49.r0.length : Int)), (54, .int .i64 s.t54)]) (fun l_5 => [kc l #[.slice qa0 na0 ca0, .int .i64 o_1.t5_1, .int .u32 o_1.t5_2] 199, kc b #[.int .i64 t43.r0.cells, .int .i64 t43.r0.tides, sL l_1.1, sL l_1.2.1, sL l_2] 26]) (fun l_5 => [vL 3 l_1.1 (RI.enc t43.r0.fords), vL 98 l_1.2.1 (RSa.enc t43.r0.sands), vL 55 l_2 (RSi.enc o_1.r0)]) ?_ ?_
    ·replace hm := h20
     refine jn (jr (jg Y Y (jo Y Y (jq (ji ?_)))))
     obtain ⟨o_2, h23, h24⟩ := bindO hm
     refine j6 (ι := Unit) (fun l_6 => True) (fun l_6 => [(1, .int .u8 turned1), (5, ptr l 0), (6, ptr b 0), (8, .int .i64 s.t54), (53, .int .i64 (t49.r0.length : Int)), (54, .int .i64 s.t54), (65, .bool o_2.t65)]) (fun l_6 => [kc l #[.slice qa0 na0 ca0, .int .i64 o_2.t5_1, .int .u32 o_2.t5_2] 199, kc b #[.int .i64 t43.r0.cells, .int .i64 t43.r0.tides, sL l_1.1, sL l_1.2.1, sL l_2] 26]) (fun l_6 => [vL 3 l_1.1 (RI.enc t43.r0.fords), vL 98 l_1.2.1 (RSa.enc t43.r0.sands), vL 55 l_2 (RSi.enc s.r0)]) ?_ ?_
     ·replace hm := h23
      refine je (jg Y Y (jg Y Y ?_))
      obtain ⟨h25, hm⟩ := ifO hm
      refine jc Y Y Y (fun _ _ => jaJ Y Y h25) (jc Y Y Y (fun _ _ => Z1 Y Y Y) (jc Y Y Y (fun _ _ => JG Y Y) (jg Y Y ?_)))
      refine kb 62 Y (fun h26 => ?_) (fun h26 => ?_)
      ·replace hm := ifD h26 hm
       refine jb Y Y (jg Y Y (jb Y Y ?_))
       obtain ⟨t64, h27, hm⟩ := bindO hm
       refine jd [_] [] Y Y Y Y Y Y Y call68 (fun w hh => KC numbers0 s.t5_1 s.t5_2 2 l qa0 na0 ca0 w (HV.callee (S0 := [_]) (vs0 := []) hh (roR hh 0 Y roN)) hna0 hqa0 hla0 h27) (fun l_7 h28 => ?_)
       refine kJ (S' := [_, _]) (vs' := [_, _, _]) [0, 1] [0, 1, 2] 0 Y Y Y Y (qV Y Y Y (jt ?_))
       obtain rfl := sj hm
       exact jk () (trivial) (sE Y) (fun w hh => hh)
      replace hm := ifE h26 hm
      refine g_k Y Y Y Y (g_k Y Y Y Y (y4 Y Y Y (jt ?_)))
      obtain rfl := sj hm
      exact jk () (trivial) (sE Y) (fun w hh => hh)
     intro l_6 hj
     replace hm := h24
     refine ja ?_
     refine jv Y (fun h29 => ?_) (fun h29 => ?_)
     ·replace hm := ifT (h29) hm
      refine qi (some 12) (.free 0 (.hoist 1 (.free 2 (.free 3 (.hoist 4 (.free 5 (.free 6 (.free 7 (.hoist 8 (.free 9 (.free 10 (.free 11 (.last 12 .done))))))))))))) _ Y (by decide +kernel) (fun w k hh => hh.draw k) (fun w hh => hh) ?_
      refine Kf 4 runUnderlying26 sizeOf24 Y Y Y Y (K9 1 isAgg24 Y Y Y Y Y (zn Y Y Y (Kf 4 runUnderlying26 sizeOf24 Y Y Y Y (K9 1 isAgg24 Y Y Y Y Y (zn Y Y Y ?_)))))
      obtain ⟨t72, h30, hm⟩ := bindO hm
      refine jp Y Y Y Y (fun w _ => Jr h30 (runUnderlying24 w) (sizeOf55 w) Y Y (vlen RSi h17 Y) (vne h17)) (Kf 2 runUnderlying55 sizeOf4 Y Y Y Y (jz Y Y Y Y (fun w hh => ze RSi 2 h30 (isAgg4 w) Y (hh.vseg 2 Y h17) Y Y) (jp Y Y Y Y (fun _ _ => zx Y) ?_)))
      obtain ⟨t76, h31, hm⟩ := bindO hm
      refine jp Y Y Y Y (fun w _ => Jr h31 (runUnderlying24 w) (sizeOf55 w) Y Y (vlen RSi h17 Y) (vne h17)) (Kf 2 runUnderlying55 sizeOf4 Y Y Y Y (YW Y ?_))
      obtain ⟨r0, hr0, hm⟩ := bindO hm
      refine Z9 RSi 2 2 (⟨t76.after, t76.cell, (!t72.upright)⟩ : Sight) (fun w => sizeOf4 w) Y Y Y Y h17 Y Y Y h31 Y Y (Option.some.inj hr0) (fun h32 => ?_)
      refine kJ (S' := [_, _]) (vs' := [_, _, _]) [0, 1] [0, 1, 2] 0 Y Y Y Y (QY (j4 (jw ?_)))
      obtain rfl := sj hm
      exact jk () (h32) (sE Y) (fun w hh => hh)
     replace hm := ifN h29 hm
     refine ju (jw ?_)
     obtain rfl := sj hm
     exact jk () (h17) (sE Y) (fun w hh => hh)
    intro l_5 hj
    have h22 := hj
    replace hm := h21
    refine ja (je ?_)
    obtain ⟨t78, h33, hm⟩ := bindO hm
    refine J7 h33 Y Y Y (jg Y Y (jt ?_))
    obtain rfl := sj hm
    refine ja ?_
    exact jH _ () Y (h22) (sE Y) (fun w hh => hh)
   replace hm := ifE h19 hm
   refine kC (jl (jl (jI ?_)))
   obtain rfl := sj hm
   have hbo := h18 _ Y
   subst hbo
   exact jk () (h17) (sE Y) (fun w hh => hh)
  intro l_3 hj
  have h16 := hj
  replace hm := h15
  refine ja (jr (Jm [_, _, _, _, _] 1 isAgg26 sizeOf26 Y Y Y Y ?_))
  obtain ⟨t80, h34, hm⟩ := bindO hm
  refine jd [] [] Y Y Y Y Y Y Y call20 (fun w hh => Yq (⟨t43.r0.cells, t43.r0.tides, t43.r0.fords, t43.r0.sands, o.r0⟩ : Channel) (qA l_1.1.q) l_1.1.n l_1.1.cap (qA l_1.2.1.q) l_1.2.1.n l_1.2.1.cap (qA l_2.q) l_2.n l_2.cap w (HV.callee (S0 := []) (vs0 := []) hh (roC (hh.vsepA 0 Y h5) (roC (hh.vsepA 1 Y h6) (roC (hh.vsepA 2 Y h16) roN)))) (vlen RI h5 Y) (AOK.q (vne h5)) (h5).hle (vlen RSa h6 Y) (AOK.q (vne h6)) (h6).hle (vlen RSi h16 Y) (AOK.q (vne h16)) (h16).hle h34) (fun l_8 h35 => ?_)
  obtain ⟨h36, h37, h38⟩ := h35
  refine kJ (S' := [_, _]) (vs' := [_, _, _, _, _, _]) [0, 1] [0, 1, 2, 3, 4, 5] 0 Y Y Y Y ?_
  refine js (fun w => zeroValue26 w) Y (fun b_1 h39 => ?_)
  refine jV (us := #[_, _, _, _, _]) (cs' := [_, _, _, _, _]) (S' := [_, _, _]) 0 (fun w => sizeOf26 w) Y Y Y Y Y Y Y (qj (qY 0 runUnderlying26 Y sizeOf3 Y Y (qs 2 isAgg3 Y Y Y Y ?_)))
  obtain ⟨t83, h40, hm⟩ := bindO hm
  refine jc Y Y Y (fun _ _ => qU h40 Y Y) (jo Y Y (jq (ji (jr (qY 2 runUnderlying26 Y sizeOf22 Y Y (qs 2 isAgg22 Y Y Y Y (jc Y Y Y (fun w _ => zr (vlen RI h5 Y) (runUnderlying22 w) Y) ?_)))))))
  refine jg Y Y (jq ?_)
  obtain ⟨o_3, h41, h42⟩ := bindO hm
  refine j6 (ι := Unit) (fun l_9 => VOK 1 l_8.1.n l_8.1.cap (RI.enc o_3) l_8.1.sp l_8.1.q) (fun l_9 => [(6, ptr b 0), (9, ptr b_1 0), (10, .int .i64 t83)]) (fun l_9 => [kc b_1 #[.int .i64 t80.cells, .int .i64 t80.tides, sL l_8.1, sL l_8.2.1, sL l_8.2.2] 26, kc l #[.slice qa0 na0 ca0, .int .i64 o.t5_1, .int .u32 o.t5_2] 199, kc b #[.int .i64 t43.r0.cells, .int .i64 t43.r0.tides, sL l_1.1, sL l_1.2.1, sL l_2] 26]) (fun l_9 => [vL 3 l_8.1 (RI.enc o_3), vL 98 l_8.2.1 (RSa.enc t80.sands), vL 55 l_8.2.2 (RSi.enc t80.sights), vL 3 l_1.1 (RI.enc t43.r0.fords), vL 98 l_1.2.1 (RSa.enc t43.r0.sands), vL 55 l_2 (RSi.enc o.r0)]) ?_ ?_
  ·replace hm := h41
   refine jn ?_
   refine kf (ι := Unit) hm (fun s_1 l_10 => VOK 1 l_8.1.n l_8.1.cap (RI.enc s_1.r0_fords) l_8.1.sp l_8.1.q) (fun s_1 l_10 => [(6, ptr b 0), (9, ptr b_1 0), (10, .int .i64 t83), (85, sL l_1.1), (86, .int .i64 (t43.r0.fords.length : Int)), (87, .int .i64 s_1.t87)]) (fun s_1 l_10 => [kc b_1 #[.int .i64 t80.cells, .int .i64 t80.tides, sL l_8.1, sL l_8.2.1, sL l_8.2.2] 26, kc l #[.slice qa0 na0 ca0, .int .i64 o.t5_1, .int .u32 o.t5_2] 199, kc b #[.int .i64 t43.r0.cells, .int .i64 t43.r0.tides, sL l_1.1, sL l_1.2.1, sL l_2] 26]) (fun s_1 l_10 => [vL 3 l_1.1 (RI.enc t43.r0.fords), vL 3 l_8.1 (RI.enc s_1.r0_fords), vL 98 l_8.2.1 (RSa.enc t80.sands), vL 55 l_8.2.2 (RSi.enc t80.sights), vL 98 l_1.2.1 (RSa.enc t43.r0.sands), vL 55 l_2 (RSi.enc o.r0)]) () (h36) (sE Y) (hsE [0, 1, 2] [3, 0, 1, 2, 4, 5] 0 Y Y Y Y) (fun s_1 l_10 r_1 hpl hm h45 => ?_)
   have h44 := hpl
   unfold jQ at hm
   refine jr (Kk Y Y Y (jq (ji ?_)))
   refine jv Y (fun h46 => ?_) (fun h46 => ?_)
   ·replace hm := ifD h46 hm
    refine ju (ja (ji (jn (jr (jg Y Y ?_)))))
    obtain ⟨t90, h47, hm⟩ := bindO hm
    refine jc Y Y Y (fun w _ => Jr h47 (runUnderlying22 w) (sizeOf3 w) Y Y (vlen RI h5 Y) (vne h5)) (jc Y Y Y (fun w hh => ze RI 0 h47 (isAgg3 w) Y (hh.vseg 0 Y h5) Y (Nat.add_zero _).symm) (jo Y Y (jo Y Y (jq (je (qY 2 runUnderlying26 Y sizeOf22 Y Y (qs 0 isAgg22 Y Y Y Y ?_)))))))
    refine qY 2 runUnderlying26 Y sizeOf22 Y Y (qs 2 isAgg22 Y Y Y Y (jc Y Y Y (fun w _ => zr (vlen RI h5 Y) (runUnderlying22 w) Y) ?_))
    obtain ⟨t97, h48, hm⟩ := bindO hm
    refine jc Y Y Y (fun _ _ => qU h48 Y Y) (jg Y Y ?_)
    obtain ⟨t99, h49, hm⟩ := bindO hm
    refine jc Y Y Y (fun _ _ => qU h49 Y Y) (jg Y Y (jg Y Y ?_))
    obtain ⟨t102, h50, hm⟩ := bindO hm
    refine jc Y Y Y (fun _ _ => qU h50 Y Y) ?_
    obtain ⟨t103, h51, hm⟩ := bindO hm
    refine jc Y Y Y (fun w _ => Jr h51 (runUnderlying22 w) (sizeOf3 w) Y Y (vlen RI h44 Y) (vne h44)) ?_
    obtain ⟨r0_fords, hr0_fords, hm⟩ := bindO hm
    refine Z9 RI 1 0 t102 (fun w => sizeOf3 w) Y Y Y Y h44 Y (Nat.add_zero _).symm Y h51 Y Y (Option.some.inj hr0_fords) (fun h52 => ?_)
    refine kJ (S' := [_, _, _]) (vs' := [_, _, _, _, _, _]) [0, 1, 2] [0, 1, 2, 3, 4, 5] 0 Y Y Y Y (jt (jw (ja (je ?_))))
    obtain ⟨t104, h53, hm⟩ := bindO hm
    refine J7 h53 Y Y Y (jg Y Y (jt ?_))
    obtain rfl := sj hm
    refine ja ?_
    exact jH _ () Y (h52) (sE Y) (fun w hh => hh)
   replace hm := ifE h46 hm
   refine kC (jl (jl (jI ?_)))
   obtain rfl := sj hm
   have hbo := h45 _ Y
   subst hbo
   exact jk () (h44) (sE Y) (hsE [0, 1, 2] [1, 2, 3, 0, 4, 5] 0 Y Y Y Y)
  intro l_9 hj
  have h43 := hj
  replace hm := h42
  refine ja (ji (jr (qY 3 runUnderlying26 Y sizeOf23 Y Y (qs 2 isAgg23 Y Y Y Y (jc Y Y Y (fun w _ => zr (vlen RSa h6 Y) (runUnderlying23 w) Y) (jg Y Y (jq ?_)))))))
  obtain ⟨o_4, h54, h55⟩ := bindO hm
  refine j6 (ι := Unit) (fun l_11 => VOK 3 l_8.2.1.n l_8.2.1.cap (RSa.enc o_4) l_8.2.1.sp l_8.2.1.q) (fun l_11 => [(6, ptr b 0), (9, ptr b_1 0), (10, .int .i64 t83)]) (fun l_11 => [kc b_1 #[.int .i64 t80.cells, .int .i64 t80.tides, sL l_8.1, sL l_8.2.1, sL l_8.2.2] 26, kc l #[.slice qa0 na0 ca0, .int .i64 o.t5_1, .int .u32 o.t5_2] 199, kc b #[.int .i64 t43.r0.cells, .int .i64 t43.r0.tides, sL l_1.1, sL l_1.2.1, sL l_2] 26]) (fun l_11 => [vL 3 l_8.1 (RI.enc o_3), vL 98 l_8.2.1 (RSa.enc o_4), vL 55 l_8.2.2 (RSi.enc t80.sights), vL 3 l_1.1 (RI.enc t43.r0.fords), vL 98 l_1.2.1 (RSa.enc t43.r0.sands), vL 55 l_2 (RSi.enc o.r0)]) ?_ ?_
  ·replace hm := h54
   refine jn ?_
   refine kf (ι := Unit) hm (fun s_2 l_12 => VOK 3 l_8.2.1.n l_8.2.1.cap (RSa.enc s_2.r0_sands) l_8.2.1.sp l_8.2.1.q) (fun s_2 l_12 => [(6, ptr b 0), (9, ptr b_1 0), (10, .int .i64 t83), (106, sL l_1.2.1), (107, .int .i64 (t43.r0.sands.length : Int)), (108, .int .i64 s_2.t108)]) (fun s_2 l_12 => [kc b_1 #[.int .i64 t80.cells, .int .i64 t80.tides, sL l_8.1, sL l_8.2.1, sL l_8.2.2] 26, kc l #[.slice qa0 na0 ca0, .int .i64 o.t5_1, .int .u32 o.t5_2] 199, kc b #[.int .i64 t43.r0.cells, .int .i64 t43.r0.tides, sL l_1.1, sL l_1.2.1, sL l_2] 26]) (fun s_2 l_12 => [vL 98 l_1.2.1 (RSa.enc t43.r0.sands), vL 3 l_8.1 (RI.enc o_3), vL 98 l_8.2.1 (RSa.enc s_2.r0_sands), vL 55 l_8.2.2 (RSi.enc t80.sights), vL 3 l_1.1 (RI.enc t43.r0.fords), vL 55 l_2 (RSi.enc o.r0)]) () (h37) (sE Y) (hsE [0, 1, 2] [4, 0, 1, 2, 3, 5] 0 Y Y Y Y) (fun s_2 l_12 r_2 hpl hm h58 => ?_)
   have h57 := hpl
   unfold jP at hm
   refine jr (Kk Y Y Y (jq (ji ?_)))
   refine jv Y (fun h59 => ?_) (fun h59 => ?_)
   ·replace hm := ifD h59 hm
    refine ju (ja (ji (jn (jr (jg Y Y ?_)))))
    obtain ⟨t111, h60, hm⟩ := bindO hm
    refine jc Y Y Y (fun w _ => Jr h60 (runUnderlying23 w) (sizeOf98 w) Y Y (vlen RSa h6 Y) (vne h6)) ?_
    refine jc Y Y Y (fun w hh => Jc RSa 0 [.int .i64 t111.span.lo, .int .i64 t111.span.hi, .int .i64 t111.reach] h60 (isAgg98 w) (sizeOf98 w) Y (hh.vseg 0 Y h6) Y (Nat.add_zero _).symm) ?_
    refine js (fun w => zeroValue98 w) Y (fun b_2 h61 => ?_)
    refine jo Y Y (jV (us := #[_, _, _]) (cs' := [_, _, _]) (S' := [_, _, _, _]) 0 (fun w => sizeOf98 w) Y Y Y Y Y Y Y (jq (je (qY 3 runUnderlying26 Y sizeOf23 Y Y (qs 1 isAgg23 Y Y Y Y (jg Y Y (jg Y Y ?_)))))))
    refine qY 0 runUnderlying98 Y sizeOf50 Y Y (qY 1 runUnderlying50 Y sizeOf3 Y Y (qs 0 isAgg3 Y Y Y Y ?_))
    obtain ⟨t120, h62, hm⟩ := bindO hm
    refine jc Y Y Y (fun _ _ => qU h62 Y Y) (jg Y Y (qY 0 runUnderlying98 Y sizeOf50 Y Y (qY 0 runUnderlying50 Y sizeOf3 Y Y (qs 0 isAgg3 Y Y Y Y ?_))))
    obtain ⟨t125, h63, hm⟩ := bindO hm
    refine jc Y Y Y (fun _ _ => qU h63 Y Y) (jc Y Y Y (fun _ _ => kz (vs := [(0, _), (1, _)]) (cells := [_, _]) Y Y) ?_)
    obtain ⟨t127, h64, hm⟩ := bindO hm
    refine jc Y Y Y (fun w _ => Jr h64 (runUnderlying23 w) (sizeOf98 w) Y Y (vlen RSa h57 Y) (vne h57)) (qY 0 runUnderlying98 Y sizeOf50 Y Y ?_)
    obtain ⟨r0_sands, hr0_sands, hm⟩ := bindO hm
    refine jaL (us := #[_, _]) RSa 2 0 (⟨(⟨t120, t125⟩ : Span), t127.reach⟩ : Sand) (fun w => sizeOf50 w) Y Y Y h57 Y Y Y Y Y Y h64 Y (Option.some.inj hr0_sands) (fun h65 => ?_)
    refine kJ (S' := [_, _, _, _]) (vs' := [_, _, _, _, _, _]) [0, 1, 2, 3] [0, 1, 2, 3, 4, 5] 0 Y Y Y Y (jt (jw (ja (je ?_))))
    obtain ⟨t129, h66, hm⟩ := bindO hm
    refine J7 h66 Y Y Y (jg Y Y (jt ?_))
    obtain rfl := sj hm
    refine ja ?_
    exact jH _ () Y (h65) (sE Y) (hsE [1, 2, 3] [0, 1, 2, 3, 4, 5] 0 Y Y Y Y)
   replace hm := ifE h59 hm
   refine kC (jl (jl (jI ?_)))
   obtain rfl := sj hm
   have hbo := h58 _ Y
   subst hbo
   exact jk () (h57) (sE Y) (hsE [0, 1, 2] [1, 2, 3, 4, 0, 5] 0 Y Y Y Y)
  intro l_11 hj
  have h56 := hj
  replace hm := h55
  refine ja (ji (jr (qY 4 runUnderlying26 Y sizeOf24 Y Y (qs 2 isAgg24 Y Y Y Y (jc Y Y Y (fun w _ => zr (vlen RSi h16 Y) (runUnderlying24 w) Y) (jg Y Y (jq ?_)))))))
  obtain ⟨o_5, h67, h68⟩ := bindO hm
  refine j6 (ι := Unit) (fun l_13 => VOK 3 l_8.2.2.n l_8.2.2.cap (RSi.enc o_5) l_8.2.2.sp l_8.2.2.q) (fun l_13 => [(6, ptr b 0), (9, ptr b_1 0), (10, .int .i64 t83)]) (fun l_13 => [kc b_1 #[.int .i64 t80.cells, .int .i64 t80.tides, sL l_8.1, sL l_8.2.1, sL l_8.2.2] 26, kc l #[.slice qa0 na0 ca0, .int .i64 o.t5_1, .int .u32 o.t5_2] 199, kc b #[.int .i64 t43.r0.cells, .int .i64 t43.r0.tides, sL l_1.1, sL l_1.2.1, sL l_2] 26]) (fun l_13 => [vL 3 l_8.1 (RI.enc o_3), vL 98 l_8.2.1 (RSa.enc o_4), vL 55 l_8.2.2 (RSi.enc o_5), vL 3 l_1.1 (RI.enc t43.r0.fords), vL 98 l_1.2.1 (RSa.enc t43.r0.sands), vL 55 l_2 (RSi.enc o.r0)]) ?_ ?_
  ·replace hm := h67
   refine jn ?_
   refine kf (ι := Unit) hm (fun s_3 l_14 => VOK 3 l_8.2.2.n l_8.2.2.cap (RSi.enc s_3.r0_sights) l_8.2.2.sp l_8.2.2.q) (fun s_3 l_14 => [(6, ptr b 0), (9, ptr b_1 0), (10, .int .i64 t83), (131, sL l_2), (132, .int .i64 (o.r0.length : Int)), (133, .int .i64 s_3.t133)]) (fun s_3 l_14 => [kc b_1 #[.int .i64 t80.cells, .int .i64 t80.tides, sL l_8.1, sL l_8.2.1, sL l_8.2.2] 26, kc l #[.slice qa0 na0 ca0, .int .i64 o.t5_1, .int .u32 o.t5_2] 199, kc b #[.int .i64 t43.r0.cells, .int .i64 t43.r0.tides, sL l_1.1, sL l_1.2.1, sL l_2] 26]) (fun s_3 l_14 => [vL 55 l_2 (RSi.enc o.r0), vL 3 l_8.1 (RI.enc o_3), vL 98 l_8.2.1 (RSa.enc o_4), vL 55 l_8.2.2 (RSi.enc s_3.r0_sights), vL 3 l_1.1 (RI.enc t43.r0.fords), vL 98 l_1.2.1 (RSa.enc t43.r0.sands)]) () (h38) (sE Y) (hsE [0, 1, 2] [5, 0, 1, 2, 3, 4] 0 Y Y Y Y) (fun s_3 l_14 r_3 hpl hm h71 => ?_)
   have h70 := hpl
   unfold jO at hm
   refine jr (Kk Y Y Y (jq (ji ?_)))
   refine jv Y (fun h72 => ?_) (fun h72 => ?_)
   ·replace hm := ifD h72 hm
    refine ju (ja (ji (jn (jr (jg Y Y ?_)))))
    obtain ⟨t136, h73, hm⟩ := bindO hm
    refine jc Y Y Y (fun w _ => Jr h73 (runUnderlying24 w) (sizeOf55 w) Y Y (vlen RSi h16 Y) (vne h16)) ?_
    refine jc Y Y Y (fun w hh => Jc RSi 0 [.int .i64 t136.after, .int .i64 t136.cell, .bool t136.upright] h73 (isAgg55 w) (sizeOf55 w) Y (hh.vseg 0 Y h16) Y (Nat.add_zero _).symm) ?_
    refine js (fun w => zeroValue55 w) Y (fun b_3 h74 => ?_)
    refine jo Y Y (jV (us := #[_, _, _]) (cs' := [_, _, _]) (S' := [_, _, _, _]) 0 (fun w => sizeOf55 w) Y Y Y Y Y Y Y (jq (je (qY 4 runUnderlying26 Y sizeOf24 Y Y (qs 1 isAgg24 Y Y Y Y (jg Y Y (jg Y Y ?_)))))))
    refine qY 1 runUnderlying55 Y sizeOf3 Y Y (qs 0 isAgg3 Y Y Y Y ?_)
    obtain ⟨t144, h75, hm⟩ := bindO hm
    refine jc Y Y Y (fun _ _ => qU h75 Y Y) ?_
    obtain ⟨t145, h76, hm⟩ := bindO hm
    refine jc Y Y Y (fun w _ => Jr h76 (runUnderlying24 w) (sizeOf55 w) Y Y (vlen RSi h70 Y) (vne h70)) (qY 1 runUnderlying55 Y sizeOf3 Y Y ?_)
    obtain ⟨r0_sights, hr0_sights, hm⟩ := bindO hm
    refine Z9 RSi 3 1 (⟨t145.after, t144, t145.upright⟩ : Sight) (fun w => sizeOf3 w) Y Y Y Y h70 Y Y Y h76 Y Y (Option.some.inj hr0_sights) (fun h77 => ?_)
    refine kJ (S' := [_, _, _, _]) (vs' := [_, _, _, _, _, _]) [0, 1, 2, 3] [0, 1, 2, 3, 4, 5] 0 Y Y Y Y (jt (jw (ja (je ?_))))
    obtain ⟨t147, h78, hm⟩ := bindO hm
    refine J7 h78 Y Y Y (jg Y Y (jt ?_))
    obtain rfl := sj hm
    refine ja ?_
    exact jH _ () Y (h77) (sE Y) (hsE [1, 2, 3] [0, 1, 2, 3, 4, 5] 0 Y Y Y Y)
   replace hm := ifE h72 hm
   refine kC (jl (jl (jI ?_)))
   obtain rfl := sj hm
   have hbo := h71 _ Y
   subst hbo
   exact jk () (h70) (sE Y) (hsE [0, 1, 2] [1, 2, 3, 4, 5, 0] 0 Y Y Y Y)
  intro l_13 hj
  have h69 := hj
  replace hm := h68
  refine ja (jr (Jm [_, _, _, _, _] 2 isAgg26 sizeOf26 Y Y Y Y ?_))
  obtain ⟨t150, h79, hm⟩ := bindO hm
  refine jd [] [] Y Y Y Y Y Y Y call26 (fun w hh => Kg (⟨t43.r0.cells, t43.r0.tides, t43.r0.fords, t43.r0.sands, o.r0⟩ : Channel) (qA l_1.1.q) l_1.1.n l_1.1.cap (qA l_1.2.1.q) l_1.2.1.n l_1.2.1.cap (qA l_2.q) l_2.n l_2.cap w (HV.callee (S0 := []) (vs0 := []) hh (roC (hh.vsepA 3 Y h5) (roC (hh.vsepA 4 Y h6) (roC (hh.vsepA 5 Y h16) roN)))) (vlen RI h5 Y) (AOK.q (vne h5)) (h5).hle (vlen RSa h6 Y) (AOK.q (vne h6)) (h6).hle (vlen RSi h16 Y) (AOK.q (vne h16)) (h16).hle h79) (fun l_15 h80 => ?_)
  refine jg Y Y (yZ Y Y Y (yZ Y Y Y (jo Y Y (jo Y Y (qj (Jm [_, _, _, _, _] 0 isAgg26 sizeOf26 Y Y Y Y ?_))))))
  obtain ⟨t155, h81, hm⟩ := bindO hm
  refine jd [] [] Y Y Y Y Y Y Y call26 (fun w hh => Kg (⟨t80.cells, t80.tides, o_3, o_4, o_5⟩ : Channel) (qA l_8.1.q) l_8.1.n l_8.1.cap (qA l_8.2.1.q) l_8.2.1.n l_8.2.1.cap (qA l_8.2.2.q) l_8.2.2.n l_8.2.2.cap w (HV.callee (S0 := []) (vs0 := []) hh (roC (hh.vsepA 0 Y h43) (roC (hh.vsepA 1 Y h56) (roC (hh.vsepA 2 Y h69) roN)))) (vlen RI h43 Y) (AOK.q (vne h43)) (h43).hle (vlen RSa h56 Y) (AOK.q (vne h56)) (h56).hle (vlen RSi h69 Y) (AOK.q (vne h69)) (h69).hle h81) (fun l_16 h82 => ?_)
  refine jg Y Y (yZ Y Y Y (yZ Y Y Y (jo Y Y (jo Y Y (qj (Jm [_, _, _, _, _] 2 isAgg26 sizeOf26 Y Y Y Y ?_))))))
  obtain ⟨t160, h83, hm⟩ := bindO hm
  refine jd [] [] Y Y Y Y Y Y Y call28 (fun w hh => Qm (⟨t43.r0.cells, t43.r0.tides, t43.r0.fords, t43.r0.sands, o.r0⟩ : Channel) (qA l_1.1.q) l_1.1.n l_1.1.cap (qA l_1.2.1.q) l_1.2.1.n l_1.2.1.cap (qA l_2.q) l_2.n l_2.cap w (HV.callee (S0 := []) (vs0 := []) hh (roC (hh.vsepA 3 Y h5) (roC (hh.vsepA 4 Y h6) (roC (hh.vsepA 5 Y h16) roN)))) (vlen RI h5 Y) (AOK.q (vne h5)) (h5).hle (vlen RSa h6 Y) (AOK.q (vne h6)) (h6).hle (vlen RSi h16 Y) (AOK.q (vne h16)) (h16).hle h83) (fun l_17 h84 => ?_)
  obtain ⟨h85, h86⟩ := h84
  refine kJ (S' := [_, _, _]) (vs' := [_, _, _, _, _, _, _]) [0, 1, 2] [0, 1, 2, 3, 4, 5, 6] 0 Y Y Y Y (jg Y Y (yZ Y Y Y (yZ Y Y Y (yZ Y Y Y (jo Y Y (jo Y Y (jo Y Y ?_)))))))
  refine qj (Jm [_, _, _, _, _] 0 isAgg26 sizeOf26 Y Y Y Y ?_)
  obtain ⟨t166, h87, hm⟩ := bindO hm
  refine jd [] [] Y Y Y Y Y Y Y call28 (fun w hh => Qm (⟨t80.cells, t80.tides, o_3, o_4, o_5⟩ : Channel) (qA l_8.1.q) l_8.1.n l_8.1.cap (qA l_8.2.1.q) l_8.2.1.n l_8.2.1.cap (qA l_8.2.2.q) l_8.2.2.n l_8.2.2.cap w (HV.callee (S0 := []) (vs0 := []) hh (roC (hh.vsepA 1 Y h43) (roC (hh.vsepA 2 Y h56) (roC (hh.vsepA 3 Y h69) roN)))) (vlen RI h43 Y) (AOK.q (vne h43)) (h43).hle (vlen RSa h56 Y) (AOK.q (vne h56)) (h56).hle (vlen RSi h69 Y) (AOK.q (vne h69)) (h69).hle h87) (fun l_18 h88 => ?_)
  obtain ⟨h89, h90⟩ := h88
  refine kJ (S' := [_, _, _]) (vs' := [_, _, _, _, _, _, _, _]) [0, 1, 2] [0, 1, 2, 3, 4, 5, 6, 7] 0 Y Y Y Y (jg Y Y (yZ Y Y Y (yZ Y Y Y (yZ Y Y Y (jo Y Y (jo Y Y (jo Y Y ?_)))))))
  refine qj (Jm [_, _, _, _, _] 2 isAgg26 sizeOf26 Y Y Y Y ?_)
  obtain ⟨t172, h91, hm⟩ := bindO hm
  refine jd [] [] Y Y Y Y Y Y Y call38 (fun w hh => Yi (⟨t43.r0.cells, t43.r0.tides, t43.r0.fords, t43.r0.sands, o.r0⟩ : Channel) (qA l_1.1.q) l_1.1.n l_1.1.cap (qA l_1.2.1.q) l_1.2.1.n l_1.2.1.cap (qA l_2.q) l_2.n l_2.cap w (HV.callee (S0 := []) (vs0 := []) hh (roC (hh.vsepA 5 Y h5) (roC (hh.vsepA 6 Y h6) (roC (hh.vsepA 7 Y h16) roN)))) (vlen RI h5 Y) (AOK.q (vne h5)) (h5).hle (vlen RSa h6 Y) (AOK.q (vne h6)) (h6).hle (vlen RSi h16 Y) (AOK.q (vne h16)) (h16).hle h91) (fun l_19 h92 => ?_)
  refine jg Y Y (yZ Y Y Y (yZ Y Y Y ?_))
  refine js (fun w => zeroValue50 w) Y (fun b_4 h93 => ?_)
  refine jV (us := #[_, _]) (cs' := [_, _]) (S' := [_, _, _, _]) 0 (fun w => sizeOf50 w) Y Y Y Y Y Y Y (jo Y Y (qj (Jm [_, _, _, _, _] 1 isAgg26 sizeOf26 Y Y Y Y ?_)))
  obtain ⟨t177, h94, hm⟩ := bindO hm
  refine jd [] [] Y Y Y Y Y Y Y call38 (fun w hh => Yi (⟨t80.cells, t80.tides, o_3, o_4, o_5⟩ : Channel) (qA l_8.1.q) l_8.1.n l_8.1.cap (qA l_8.2.1.q) l_8.2.1.n l_8.2.1.cap (qA l_8.2.2.q) l_8.2.2.n l_8.2.2.cap w (HV.callee (S0 := []) (vs0 := []) hh (roC (hh.vsepA 2 Y h43) (roC (hh.vsepA 3 Y h56) (roC (hh.vsepA 4 Y h69) roN)))) (vlen RI h43 Y) (AOK.q (vne h43)) (h43).hle (vlen RSa h56 Y) (AOK.q (vne h56)) (h56).hle (vlen RSi h69 Y) (AOK.q (vne h69)) (h69).hle h94) (fun l_20 h95 => ?_)
  refine jg Y Y (yZ Y Y Y (yZ Y Y Y ?_))
  refine js (fun w => zeroValue50 w) Y (fun b_5 h96 => ?_)
  refine jV (us := #[_, _]) (cs' := [_, _]) (S' := [_, _, _, _, _]) 0 (fun w => sizeOf50 w) Y Y Y Y Y Y Y (jo Y Y (jq (ji (ji ?_))))
  obtain ⟨o_6, h97, h98⟩ := bindO hm
  refine j6 (ι := Unit) (fun l_21 => True) (fun l_21 => [(6, ptr b 0), (9, ptr b_1 0), (10, .int .i64 t83), (225, .bool o_6)]) (fun l_21 => [kc b_5 #[.int .i64 t177.r0.lo, .int .i64 t177.r0.hi] 50, kc b_4 #[.int .i64 t172.r0.lo, .int .i64 t172.r0.hi] 50, kc b_1 #[.int .i64 t80.cells, .int .i64 t80.tides, sL l_8.1, sL l_8.2.1, sL l_8.2.2] 26, kc l #[.slice qa0 na0 ca0, .int .i64 o.t5_1, .int .u32 o.t5_2] 199, kc b #[.int .i64 t43.r0.cells, .int .i64 t43.r0.tides, sL l_1.1, sL l_1.2.1, sL l_2] 26]) (fun l_21 => [vL 3 l_8.1 (RI.enc o_3), vL 98 l_8.2.1 (RSa.enc o_4), vL 55 l_8.2.2 (RSi.enc o_5), vL 3 l_1.1 (RI.enc t43.r0.fords), vL 98 l_1.2.1 (RSa.enc t43.r0.sands), vL 55 l_2 (RSi.enc o.r0)]) ?_ ?_
  ·replace hm := h97
   refine je (jg Y Y (jc Y Y Y (fun _ _ => zV Y Y) (jg Y Y ?_)))
   refine kb 182 Y (fun h99 => ?_) (fun h99 => ?_)
   ·replace hm := ifF (of_ndec_true h99) hm
    refine g_k Y Y Y Y (g_k Y Y Y Y (qV Y Y Y (jg Y Y (g_k Y Y Y Y (g_k Y Y Y Y (g_k Y Y Y Y (qV Y Y Y ?_)))))))
    refine jg Y Y (g_k Y Y Y Y (g_k Y Y Y Y (g_k Y Y Y Y (qV Y Y Y (jg Y Y (g_k Y Y Y Y (g_k Y Y Y Y ?_)))))))
    refine g_k Y Y Y Y (qV Y Y Y (jg Y Y (g_k Y Y Y Y (g_k Y Y Y Y (g_k Y Y Y Y (qV Y Y Y (jg Y Y ?_)))))))
    refine g_k Y Y Y Y (g_k Y Y Y Y (g_k Y Y Y Y (qV Y Y Y (jg Y Y (g_k Y Y Y Y (g_k Y Y Y Y (g_k Y Y Y Y ?_)))))))
    refine g_k Y Y Y Y (g_k Y Y Y Y (qV Y Y Y (jg Y Y (g_k Y Y Y Y (g_k Y Y Y Y (g_k Y Y Y Y ?_))))))
    refine jx Y Y Y Y Y ?_
    refine jx Y Y Y Y Y ?_
    refine g_k Y Y Y Y (qV Y Y Y (jt ?_))
    obtain rfl := sj hm
    exact jk () (trivial) (sE Y) (hsE [0, 1, 2, 3, 4] [2, 3, 4, 5, 6, 7] 0 Y Y Y Y)
   replace hm := ifT (of_ndec_false h99) hm
   refine jb Y Y (jg Y Y (jb Y Y (jc Y Y Y (fun _ _ => zV Y Y) (y4 Y Y Y (jg Y Y ?_)))))
   refine kb 186 Y (fun h100 => ?_) (fun h100 => ?_)
   ·replace hm := ifF (of_ndec_true h100) hm
    refine g_k Y Y Y Y (g_k Y Y Y Y (g_k Y Y Y Y (qV Y Y Y (jg Y Y (g_k Y Y Y Y (g_k Y Y Y Y (g_k Y Y Y Y ?_)))))))
    refine qV Y Y Y (jg Y Y (g_k Y Y Y Y (g_k Y Y Y Y (g_k Y Y Y Y (qV Y Y Y (jg Y Y (g_k Y Y Y Y ?_)))))))
    refine g_k Y Y Y Y (g_k Y Y Y Y (qV Y Y Y (jg Y Y (g_k Y Y Y Y (g_k Y Y Y Y (g_k Y Y Y Y (qV Y Y Y ?_)))))))
    refine jg Y Y (g_k Y Y Y Y (g_k Y Y Y Y (g_k Y Y Y Y (g_k Y Y Y Y (g_k Y Y Y Y (qV Y Y Y (jg Y Y ?_)))))))
    refine g_k Y Y Y Y (g_k Y Y Y Y (g_k Y Y Y Y ?_))
    refine jx Y Y Y Y Y ?_
    refine jx Y Y Y Y Y ?_
    refine g_k Y Y Y Y (qV Y Y Y (jt ?_))
    obtain rfl := sj hm
    exact jk () (trivial) (sE Y) (hsE [0, 1, 2, 3, 4] [2, 3, 4, 5, 6, 7] 0 Y Y Y Y)
   replace hm := ifT (of_ndec_false h100) hm
   refine jb Y Y (jg Y Y (jb Y Y (jg Y Y (jb Y Y (jc Y Y Y (fun _ _ => zV Y Y) (y4 Y Y Y (jg Y Y ?_)))))))
   refine kb 191 Y (fun h101 => ?_) (fun h101 => ?_)
   ·replace hm := ifF (of_ndec_true h101) hm
    refine g_k Y Y Y Y (g_k Y Y Y Y (g_k Y Y Y Y (qV Y Y Y (jg Y Y (g_k Y Y Y Y (g_k Y Y Y Y (g_k Y Y Y Y ?_)))))))
    refine qV Y Y Y (jg Y Y (g_k Y Y Y Y (g_k Y Y Y Y (g_k Y Y Y Y (qV Y Y Y (jg Y Y (g_k Y Y Y Y ?_)))))))
    refine g_k Y Y Y Y (g_k Y Y Y Y (qV Y Y Y (jg Y Y (g_k Y Y Y Y (g_k Y Y Y Y (g_k Y Y Y Y (g_k Y Y Y Y ?_)))))))
    refine g_k Y Y Y Y (qV Y Y Y (jg Y Y (g_k Y Y Y Y (g_k Y Y Y Y (g_k Y Y Y Y ?_)))))
    refine jx Y Y Y Y Y ?_
    refine jx Y Y Y Y Y ?_
    refine g_k Y Y Y Y (qV Y Y Y (jt ?_))
    obtain rfl := sj hm
    exact jk () (trivial) (sE Y) (hsE [0, 1, 2, 3, 4] [2, 3, 4, 5, 6, 7] 0 Y Y Y Y)
   replace hm := ifT (of_ndec_false h101) hm
   refine jb Y Y (jg Y Y (jb Y Y (jg Y Y (jb Y Y (jc Y Y Y (fun _ _ => zV Y Y) (y4 Y Y Y (jg Y Y ?_)))))))
   refine kb 196 Y (fun h102 => ?_) (fun h102 => ?_)
   ·replace hm := ifF (of_ndec_true h102) hm
    refine g_k Y Y Y Y (g_k Y Y Y Y (g_k Y Y Y Y (qV Y Y Y (jg Y Y (g_k Y Y Y Y (g_k Y Y Y Y (g_k Y Y Y Y ?_)))))))
    refine qV Y Y Y (jg Y Y (g_k Y Y Y Y (g_k Y Y Y Y (g_k Y Y Y Y (qV Y Y Y (jg Y Y (g_k Y Y Y Y ?_)))))))
    refine g_k Y Y Y Y (g_k Y Y Y Y (g_k Y Y Y Y (g_k Y Y Y Y (qV Y Y Y (jg Y Y (g_k Y Y Y Y (g_k Y Y Y Y ?_)))))))
    refine g_k Y Y Y Y ?_
    refine jx Y Y Y Y Y ?_
    refine jx Y Y Y Y Y ?_
    refine g_k Y Y Y Y (qV Y Y Y (jt ?_))
    obtain rfl := sj hm
    exact jk () (trivial) (sE Y) (hsE [0, 1, 2, 3, 4] [2, 3, 4, 5, 6, 7] 0 Y Y Y Y)
   replace hm := ifT (of_ndec_false h102) hm
   refine jb Y Y (jg Y Y (jb Y Y (jg Y Y (jb Y Y (jc Y Y Y (fun _ _ => zV Y Y) (y4 Y Y Y (jg Y Y ?_)))))))
   refine kb 201 Y (fun h103 => ?_) (fun h103 => ?_)
   ·replace hm := ifF (of_ndec_true h103) hm
    refine g_k Y Y Y Y (g_k Y Y Y Y (g_k Y Y Y Y (qV Y Y Y (jg Y Y (g_k Y Y Y Y (g_k Y Y Y Y (g_k Y Y Y Y ?_)))))))
    refine qV Y Y Y (jg Y Y (g_k Y Y Y Y (g_k Y Y Y Y (g_k Y Y Y Y (g_k Y Y Y Y (g_k Y Y Y Y (qV Y Y Y ?_)))))))
    refine jg Y Y (g_k Y Y Y Y (g_k Y Y Y Y (g_k Y Y Y Y ?_)))
    refine jx Y Y Y Y Y ?_
    refine jx Y Y Y Y Y ?_
    refine g_k Y Y Y Y (qV Y Y Y (jt ?_))
    obtain rfl := sj hm
    exact jk () (trivial) (sE Y) (hsE [0, 1, 2, 3, 4] [2, 3, 4, 5, 6, 7] 0 Y Y Y Y)
   replace hm := ifT (of_ndec_false h103) hm
   refine jb Y Y (jg Y Y (jb Y Y (jg Y Y (jb Y Y (jc Y Y Y (fun _ _ => zV Y Y) (y4 Y Y Y (jg Y Y ?_)))))))
   refine kb 206 Y (fun h104 => ?_) (fun h104 => ?_)
   ·replace hm := ifF (of_ndec_true h104) hm
    refine g_k Y Y Y Y (g_k Y Y Y Y (g_k Y Y Y Y (qV Y Y Y (jg Y Y (g_k Y Y Y Y (g_k Y Y Y Y (g_k Y Y Y Y ?_)))))))
    refine g_k Y Y Y Y (g_k Y Y Y Y (qV Y Y Y (jg Y Y (g_k Y Y Y Y (g_k Y Y Y Y (g_k Y Y Y Y ?_))))))
    refine jx Y Y Y Y Y ?_
    refine jx Y Y Y Y Y ?_
    refine g_k Y Y Y Y (qV Y Y Y (jt ?_))
    obtain rfl := sj hm
    exact jk () (trivial) (sE Y) (hsE [0, 1, 2, 3, 4] [2, 3, 4, 5, 6, 7] 0 Y Y Y Y)
   replace hm := ifT (of_ndec_false h104) hm
   refine jb Y Y (Jm [_, _] 1 isAgg50 sizeOf50 Y Y Y Y (jb Y Y (Jm [_, _] 0 isAgg50 sizeOf50 Y Y Y Y (jb Y Y (jc Y Y Y (fun w _ => ZO (jat t172.r0 t177.r0 w) Z8 Y Y) (y4 Y Y Y (jg Y Y ?_)))))))
   refine kb 211 Y (fun h105 => ?_) (fun h105 => ?_)
   ·replace hm := ifF (of_ndec_true h105) hm
    refine g_k Y Y Y Y (g_k Y Y Y Y (g_k Y Y Y Y (g_k Y Y Y Y (g_k Y Y Y Y (qV Y Y Y (jg Y Y (g_k Y Y Y Y ?_)))))))
    refine g_k Y Y Y Y (g_k Y Y Y Y ?_)
    refine jx Y Y Y Y Y ?_
    refine jx Y Y Y Y Y ?_
    refine g_k Y Y Y Y (qV Y Y Y (jt ?_))
    obtain rfl := sj hm
    exact jk () (trivial) (sE Y) (hsE [0, 1, 2, 3, 4] [2, 3, 4, 5, 6, 7] 0 Y Y Y Y)
   replace hm := ifT (of_ndec_false h105) hm
   refine jb Y Y (jg Y Y (jb Y Y (jc Y Y Y (fun _ _ => JG Y Y) (jb Y Y (jg Y Y (jb Y Y (jc Y Y Y (fun _ _ => JG Y Y) ?_)))))))
   refine jb Y Y (jc Y Y Y (fun w _ => YM (runUnderlying4 w) Y Y) (y4 Y Y Y (jg Y Y ?_)))
   refine kb 218 Y (fun h106 => ?_) (fun h106 => ?_)
   ·replace hm := ifT (h106) hm
    refine g_k Y Y Y Y (g_k Y Y Y Y (g_k Y Y Y Y ?_))
    refine jx Y Y Y Y Y ?_
    refine jx Y Y Y Y Y ?_
    refine g_k Y Y Y Y (qV Y Y Y (jt ?_))
    obtain rfl := sj hm
    exact jk () (trivial) (sE Y) (hsE [0, 1, 2, 3, 4] [2, 3, 4, 5, 6, 7] 0 Y Y Y Y)
   replace hm := ifN h106 hm
   refine jb Y Y (jg Y Y (jb Y Y (jc Y Y Y (fun _ _ => Zo Y Y) (jb Y Y (jg Y Y ?_)))))
   refine kb 221 Y (fun h107 => ?_) (fun h107 => ?_)
   ·replace hm := ifD h107 hm
    refine jb Y Y (jg Y Y (jb Y Y (jc Y Y Y (fun _ _ => zV Y Y) (jb Y Y (qV Y Y Y (y4 Y Y Y (jt ?_)))))))
    obtain rfl := sj hm
    exact jk () (trivial) (sE Y) (hsE [0, 1, 2, 3, 4] [2, 3, 4, 5, 6, 7] 0 Y Y Y Y)
   replace hm := ifE h107 hm
   refine g_k Y Y Y Y (g_k Y Y Y Y (jb Y Y (y4 Y Y Y (y4 Y Y Y (jt ?_)))))
   obtain rfl := sj hm
   exact jk () (trivial) (sE Y) (hsE [0, 1, 2, 3, 4] [2, 3, 4, 5, 6, 7] 0 Y Y Y Y)
  intro l_21 hj
  replace hm := h98
  refine ja ?_
  refine jv Y (fun h108 => ?_) (fun h108 => ?_)
  ·replace hm := ifT (h108) hm
   refine jr (jo Y Y (jq (jy (jh ?_))))
   obtain rfl := sj hm
   refine jm Y (fun w hh => (.tmp Y .nil)) (fun w hh => ⟨(), rfl, trivial, hh.se [] [] 1 Y Y Y rfl⟩)
  replace hm := ifN h108 hm
  refine ju (ja (ji (jr (qY 1 runUnderlying26 Y sizeOf3 Y Y (qs 4 isAgg3 Y Y Y Y ?_)))))
  obtain ⟨t228, h109, hm⟩ := bindO hm
  refine J7 h109 Y Y Y (jg Y Y (jq ?_))
  obtain ⟨o_7, h110, h111⟩ := bindO hm
  refine j6 (ι := Unit) (fun j => o_7 = .inl j) (fun j => []) (fun j => [kc b_5 #[.int .i64 t177.r0.lo, .int .i64 t177.r0.hi] 50, kc b_4 #[.int .i64 t172.r0.lo, .int .i64 t172.r0.hi] 50, kc b_1 #[.int .i64 t80.cells, .int .i64 t80.tides, sL l_8.1, sL l_8.2.1, sL l_8.2.2] 26, kc l #[.slice qa0 na0 ca0, .int .i64 o.t5_1, .int .u32 o.t5_2] 199, kc b #[.int .i64 t43.r0.cells, .int .i64 t43.r0.tides, sL l_1.1, sL l_1.2.1, sL l_2] 26]) (fun j => [vL 3 l_8.1 (RI.enc o_3), vL 98 l_8.2.1 (RSa.enc o_4), vL 55 l_8.2.2 (RSi.enc o_5), vL 3 l_1.1 (RI.enc t43.r0.fords), vL 98 l_1.2.1 (RSa.enc t43.r0.sands), vL 55 l_2 (RSi.enc o.r0)]) ?_ ?_
  ·replace hm := h110
   refine jn ?_
   refine kf (ι := Unit) hm (fun s_4 l_22 => True) (fun s_4 l_22 => [(6, ptr b 0), (9, ptr b_1 0), (10, .int .i64 t83), (228, .int .i64 t228), (229, .int .i64 s_4)]) (fun s_4 l_22 => [kc b_5 #[.int .i64 t177.r0.lo, .int .i64 t177.r0.hi] 50, kc b_4 #[.int .i64 t172.r0.lo, .int .i64 t172.r0.hi] 50, kc b_1 #[.int .i64 t80.cells, .int .i64 t80.tides, sL l_8.1, sL l_8.2.1, sL l_8.2.2] 26, kc l #[.slice qa0 na0 ca0, .int .i64 o.t5_1, .int .u32 o.t5_2] 199, kc b #[.int .i64 t43.r0.cells, .int .i64 t43.r0.tides, sL l_1.1, sL l_1.2.1, sL l_2] 26]) (fun s_4 l_22 => [vL 3 l_8.1 (RI.enc o_3), vL 98 l_8.2.1 (RSa.enc o_4), vL 55 l_8.2.2 (RSi.enc o_5), vL 3 l_1.1 (RI.enc t43.r0.fords), vL 98 l_1.2.1 (RSa.enc t43.r0.sands), vL 55 l_2 (RSi.enc o.r0)]) () (trivial) (sE Y) (fun w hh => hh) (fun s_4 l_22 r_4 hpl hm h112 => ?_)
   unfold ks at hm
   refine jr (Kk Y Y Y (jq (ji ?_)))
   refine jv Y (fun h113 => ?_) (fun h113 => ?_)
   ·replace hm := ifD h113 hm
    refine ju (ja (ji (jn (jr (jg Y Y (jo Y Y (qj ?_)))))))
    refine qY 2 runUnderlying26 Y sizeOf22 Y Y (qs 4 isAgg22 Y Y Y Y (jc Y Y Y (fun w _ => zr (vlen RI h5 Y) (runUnderlying22 w) Y) (jg Y Y (jq ?_))))
    obtain ⟨o_8, h114, h115⟩ := bindO hm
    refine j6 (ι := Unit) (fun j_1 => o_8 = .inl j_1) (fun j_1 => [(6, ptr b 0), (9, ptr b_1 0), (10, .int .i64 t83), (228, .int .i64 t228), (229, .int .i64 s_4)]) (fun j_1 => [kc b_5 #[.int .i64 t177.r0.lo, .int .i64 t177.r0.hi] 50, kc b_4 #[.int .i64 t172.r0.lo, .int .i64 t172.r0.hi] 50, kc b_1 #[.int .i64 t80.cells, .int .i64 t80.tides, sL l_8.1, sL l_8.2.1, sL l_8.2.2] 26, kc l #[.slice qa0 na0 ca0, .int .i64 o.t5_1, .int .u32 o.t5_2] 199, kc b #[.int .i64 t43.r0.cells, .int .i64 t43.r0.tides, sL l_1.1, sL l_1.2.1, sL l_2] 26]) (fun j_1 => [vL 3 l_8.1 (RI.enc o_3), vL 98 l_8.2.1 (RSa.enc o_4), vL 55 l_8.2.2 (RSi.enc o_5), vL 3 l_1.1 (RI.enc t43.r0.fords), vL 98 l_1.2.1 (RSa.enc t43.r0.sands), vL 55 l_2 (RSi.enc o.r0)]) ?_ ?_
    ·replace hm := h114
     refine jn ?_
     refine kf (ι := Unit) hm (fun s_5 l_23 => True) (fun s_5 l_23 => [(6, ptr b 0), (9, ptr b_1 0), (10, .int .i64 t83), (31, .int .i64 s_4), (228, .int .i64 t228), (229, .int .i64 s_4), (234, .int .i64 (t43.r0.fords.length : Int)), (235, .int .i64 s_5)]) (fun s_5 l_23 => [kc b_5 #[.int .i64 t177.r0.lo, .int .i64 t177.r0.hi] 50, kc b_4 #[.int .i64 t172.r0.lo, .int .i64 t172.r0.hi] 50, kc b_1 #[.int .i64 t80.cells, .int .i64 t80.tides, sL l_8.1, sL l_8.2.1, sL l_8.2.2] 26, kc l #[.slice qa0 na0 ca0, .int .i64 o.t5_1, .int .u32 o.t5_2] 199, kc b #[.int .i64 t43.r0.cells, .int .i64 t43.r0.tides, sL l_1.1, sL l_1.2.1, sL l_2] 26]) (fun s_5 l_23 => [vL 3 l_8.1 (RI.enc o_3), vL 98 l_8.2.1 (RSa.enc o_4), vL 55 l_8.2.2 (RSi.enc o_5), vL 3 l_1.1 (RI.enc t43.r0.fords), vL 98 l_1.2.1 (RSa.enc t43.r0.sands), vL 55 l_2 (RSi.enc o.r0)]) () (trivial) (sE Y) (fun w hh => hh) (fun s_5 l_23 r_5 hpl hm h116 => ?_)
     unfold kt at hm
     refine jr (Kk Y Y Y (jq (ji ?_)))
     refine jv Y (fun h117 => ?_) (fun h117 => ?_)
     ·replace hm := ifD h117 hm
      refine ju (ja (ji (jn (jr (jg Y Y (jo Y Y (qj ?_)))))))
      refine Jm [_, _, _, _, _] 4 isAgg26 sizeOf26 Y Y Y Y (jg Y Y (jg Y Y ?_))
      obtain ⟨t242, h118, hm⟩ := bindO hm
      refine jd [] [] Y Y Y Y Y Y Y call42 (fun w hh => Ki (⟨t43.r0.cells, t43.r0.tides, t43.r0.fords, t43.r0.sands, o.r0⟩ : Channel) s_4 s_5 (qA l_1.1.q) l_1.1.n l_1.1.cap (qA l_1.2.1.q) l_1.2.1.n l_1.2.1.cap (qA l_2.q) l_2.n l_2.cap w (HV.callee (S0 := []) (vs0 := []) hh (roC (hh.vsepA 3 Y h5) (roC (hh.vsepA 4 Y h6) (roC (hh.vsepA 5 Y h16) roN)))) (vlen RI h5 Y) (AOK.q (vne h5)) (h5).hle (vlen RSa h6 Y) (AOK.q (vne h6)) (h6).hle (vlen RSi h16 Y) (AOK.q (vne h16)) (h16).hle h118) (fun l_24 h119 => ?_)
      have h120 := h119
      refine kJ (S' := [_, _, _, _, _]) (vs' := [_, _, _, _, _, _, _]) [0, 1, 2, 3, 4] [0, 1, 2, 3, 4, 5, 6] 0 Y Y Y Y (jg Y Y (yZ Y Y Y (yZ Y Y Y (jo Y Y (jo Y Y (qj (Jm [_, _, _, _, _] 2 isAgg26 sizeOf26 Y Y Y Y ?_)))))))
      refine jg Y Y (qY 2 runUnderlying26 Y sizeOf22 Y Y (qs 4 isAgg22 Y Y Y Y (jc Y Y Y (fun w _ => zr (vlen RI h5 Y) (runUnderlying22 w) Y) ?_)))
      obtain ⟨t251, h121, hm⟩ := bindO hm
      refine jc Y Y Y (fun _ _ => qU h121 Y Y) (jg Y Y ?_)
      obtain ⟨t253, h122, hm⟩ := bindO hm
      refine jc Y Y Y (fun _ _ => qU h122 Y Y) ?_
      obtain ⟨t254, h123, hm⟩ := bindO hm
      refine jd [] [] Y Y Y Y Y Y Y call42 (fun w hh => Ki (⟨t80.cells, t80.tides, o_3, o_4, o_5⟩ : Channel) s_4 t253 (qA l_8.1.q) l_8.1.n l_8.1.cap (qA l_8.2.1.q) l_8.2.1.n l_8.2.1.cap (qA l_8.2.2.q) l_8.2.2.n l_8.2.2.cap w (HV.callee (S0 := []) (vs0 := []) hh (roC (hh.vsepA 1 Y h43) (roC (hh.vsepA 2 Y h56) (roC (hh.vsepA 3 Y h69) roN)))) (vlen RI h43 Y) (AOK.q (vne h43)) (h43).hle (vlen RSa h56 Y) (AOK.q (vne h56)) (h56).hle (vlen RSi h69 Y) (AOK.q (vne h69)) (h69).hle h123) (fun l_25 h124 => ?_)
      have h125 := h124
      refine kJ (S' := [_, _, _, _, _]) (vs' := [_, _, _, _, _, _, _, _]) [0, 1, 2, 3, 4] [0, 1, 2, 3, 4, 5, 6, 7] 0 Y Y Y Y (jg Y Y (yZ Y Y Y (yZ Y Y Y (jo Y Y (jo Y Y (jq (ji ?_)))))))
      refine ji ?_
      obtain ⟨o_9, h126, h127⟩ := bindO hm
      refine j6 (ι := Unit) (fun l_26 => True) (fun l_26 => [(6, ptr b 0), (9, ptr b_1 0), (10, .int .i64 t83), (31, .int .i64 s_4), (33, sL l_24), (35, sL l_25), (228, .int .i64 t228), (229, .int .i64 s_4), (234, .int .i64 (t43.r0.fords.length : Int)), (235, .int .i64 s_5), (266, .bool o_9)]) (fun l_26 => [kc b_5 #[.int .i64 t177.r0.lo, .int .i64 t177.r0.hi] 50, kc b_4 #[.int .i64 t172.r0.lo, .int .i64 t172.r0.hi] 50, kc b_1 #[.int .i64 t80.cells, .int .i64 t80.tides, sL l_8.1, sL l_8.2.1, sL l_8.2.2] 26, kc l #[.slice qa0 na0 ca0, .int .i64 o.t5_1, .int .u32 o.t5_2] 199, kc b #[.int .i64 t43.r0.cells, .int .i64 t43.r0.tides, sL l_1.1, sL l_1.2.1, sL l_2] 26]) (fun l_26 => [vL 3 l_24 (RI.enc t242.r0), vL 3 l_25 (RI.enc t254.r0), vL 3 l_8.1 (RI.enc o_3), vL 98 l_8.2.1 (RSa.enc o_4), vL 55 l_8.2.2 (RSi.enc o_5), vL 3 l_1.1 (RI.enc t43.r0.fords), vL 98 l_1.2.1 (RSa.enc t43.r0.sands), vL 55 l_2 (RSi.enc o.r0)]) ?_ ?_
      ·replace hm := h126
       refine je (jg Y Y (jg Y Y (jc Y Y Y (fun _ _ => zV Y Y) (jg Y Y ?_))))
       refine kb 260 Y (fun h128 => ?_) (fun h128 => ?_)
       ·replace hm := ifF (of_ndec_true h128) hm
        refine g_k Y Y Y Y (g_k Y Y Y Y (g_k Y Y Y Y (g_k Y Y Y Y (g_k Y Y Y Y (qV Y Y Y (jt ?_))))))
        obtain rfl := sj hm
        exact jk () (trivial) (sE Y) (hsE [0, 1, 2, 3, 4] [1, 0, 2, 3, 4, 5, 6, 7] 0 Y Y Y Y)
       replace hm := ifT (of_ndec_false h128) hm
       refine jb Y Y (jg Y Y (jb Y Y (jc Y Y Y (fun w _ => zr (vlen RI h120 Y) (runUnderlying22 w) Y) (jb Y Y (jg Y Y (jb Y Y (jc Y Y Y (fun w _ => zr (vlen RI h125 Y) (runUnderlying22 w) Y) ?_)))))))
       refine jb Y Y (jc Y Y Y (fun _ _ => zV Y Y) (y4 Y Y Y (jt ?_)))
       obtain rfl := sj hm
       exact jk () (trivial) (sE Y) (hsE [0, 1, 2, 3, 4] [1, 0, 2, 3, 4, 5, 6, 7] 0 Y Y Y Y)
      intro l_26 hj
      replace hm := h127
      refine ja ?_
      refine jv Y (fun h129 => ?_) (fun h129 => ?_)
      ·replace hm := ifT (h129) hm
       refine jr (jo Y Y (jq (jy (jh (jC (jh (jh ?_)))))))
       refine jC ?_
       obtain rfl := sj hm
       have hbo := h116 _ Y
       subst hbo
       refine jh ?_
       replace hm := ocR h115
       refine jC (jh (jh (jC ?_)))
       obtain rfl := sj hm
       have hbo := h112 _ Y
       subst hbo
       refine jh ?_
       replace hm := ocR h111
       refine jh ?_
       obtain rfl := sj hm
       refine jm Y (fun w hh => (.tmp Y .nil)) (fun w hh => ⟨(), rfl, trivial, hh.se [] [] 1 Y Y Y rfl⟩)
      replace hm := ifN h129 hm
      refine ju (ja (jr (jg Y Y (jc Y Y Y (fun w _ => zr (vlen RI h120 Y) (runUnderlying22 w) Y) (jg Y Y (jq ?_))))))
      obtain ⟨o_10, h130, h131⟩ := bindO hm
      refine j6 (ι := Unit) (fun j_2 => o_10 = .inl j_2) (fun j_2 => [(6, ptr b 0), (9, ptr b_1 0), (10, .int .i64 t83), (31, .int .i64 s_4), (228, .int .i64 t228), (229, .int .i64 s_4), (234, .int .i64 (t43.r0.fords.length : Int)), (235, .int .i64 s_5)]) (fun j_2 => [kc b_5 #[.int .i64 t177.r0.lo, .int .i64 t177.r0.hi] 50, kc b_4 #[.int .i64 t172.r0.lo, .int .i64 t172.r0.hi] 50, kc b_1 #[.int .i64 t80.cells, .int .i64 t80.tides, sL l_8.1, sL l_8.2.1, sL l_8.2.2] 26, kc l #[.slice qa0 na0 ca0, .int .i64 o.t5_1, .int .u32 o.t5_2] 199, kc b #[.int .i64 t43.r0.cells, .int .i64 t43.r0.tides, sL l_1.1, sL l_1.2.1, sL l_2] 26]) (fun j_2 => [vL 3 l_8.1 (RI.enc o_3), vL 98 l_8.2.1 (RSa.enc o_4), vL 55 l_8.2.2 (RSi.enc o_5), vL 3 l_1.1 (RI.enc t43.r0.fords), vL 98 l_1.2.1 (RSa.enc t43.r0.sands), vL 55 l_2 (RSi.enc o.r0)]) ?_ ?_
      ·replace hm := h130
       refine jn ?_
       refine kf (ι := Unit) hm (fun s_6 l_27 => True) (fun s_6 l_27 => [(6, ptr b 0), (9, ptr b_1 0), (10, .int .i64 t83), (31, .int .i64 s_4), (35, sL l_25), (228, .int .i64 t228), (229, .int .i64 s_4), (234, .int .i64 (t43.r0.fords.length : Int)), (235, .int .i64 s_5), (267, sL l_24), (268, .int .i64 (t242.r0.length : Int)), (269, .int .i64 s_6)]) (fun s_6 l_27 => [kc b_5 #[.int .i64 t177.r0.lo, .int .i64 t177.r0.hi] 50, kc b_4 #[.int .i64 t172.r0.lo, .int .i64 t172.r0.hi] 50, kc b_1 #[.int .i64 t80.cells, .int .i64 t80.tides, sL l_8.1, sL l_8.2.1, sL l_8.2.2] 26, kc l #[.slice qa0 na0 ca0, .int .i64 o.t5_1, .int .u32 o.t5_2] 199, kc b #[.int .i64 t43.r0.cells, .int .i64 t43.r0.tides, sL l_1.1, sL l_1.2.1, sL l_2] 26]) (fun s_6 l_27 => [vL 3 l_25 (RI.enc t254.r0), vL 3 l_24 (RI.enc t242.r0), vL 3 l_8.1 (RI.enc o_3), vL 98 l_8.2.1 (RSa.enc o_4), vL 55 l_8.2.2 (RSi.enc o_5), vL 3 l_1.1 (RI.enc t43.r0.fords), vL 98 l_1.2.1 (RSa.enc t43.r0.sands), vL 55 l_2 (RSi.enc o.r0)]) () (trivial) (sE Y) (hsE [0, 1, 2, 3, 4] [1, 0, 2, 3, 4, 5, 6, 7] 0 Y Y Y Y) (fun s_6 l_27 r_6 hpl hm h132 => ?_)
       unfold jF at hm
       refine jr (Kk Y Y Y (jq (ji ?_)))
       refine jv Y (fun h133 => ?_) (fun h133 => ?_)
       ·replace hm := ifD h133 hm
        refine ju (ja (ji (jn (jr (jg Y Y ?_)))))
        obtain ⟨t272, h134, hm⟩ := bindO hm
        refine jc Y Y Y (fun w _ => Jr h134 (runUnderlying22 w) (sizeOf3 w) Y Y (vlen RI h120 Y) (vne h120)) (jc Y Y Y (fun w hh => ze RI 0 h134 (isAgg3 w) Y (hh.vseg 1 Y h120) Y (Nat.add_zero _).symm) (jo Y Y (jo Y Y (qj (jg Y Y (jg Y Y (jc Y Y Y (fun w _ => zr (vlen RI h125 Y) (runUnderlying22 w) Y) ?_)))))))
        obtain ⟨t277, h135, hm⟩ := bindO hm
        refine jc Y Y Y (fun _ _ => qU h135 Y Y) (jg Y Y ?_)
        obtain ⟨t279, h136, hm⟩ := bindO hm
        refine jc Y Y Y (fun _ _ => qU h136 Y Y) ?_
        obtain ⟨t280, h137, hm⟩ := bindO hm
        refine jc Y Y Y (fun w _ => Jr h137 (runUnderlying22 w) (sizeOf3 w) Y Y (vlen RI h125 Y) (vne h125)) (jc Y Y Y (fun w hh => ze RI 0 h137 (isAgg3 w) Y (hh.vseg 0 Y h125) Y (Nat.add_zero _).symm) (jg Y Y (jg Y Y ?_)))
        obtain ⟨t284, h138, hm⟩ := bindO hm
        refine jc Y Y Y (fun _ _ => qU h138 Y Y) (jc Y Y Y (fun _ _ => zV Y Y) (jq ?_))
        refine jv Y (fun h139 => ?_) (fun h139 => ?_)
        ·replace hm := ifF (of_ndec_true h139) hm
         refine jr (jo Y Y (jq (jy (jC (jh (jh (jC ?_)))))))
         obtain rfl := sj hm
         have hbo := h132 _ Y
         subst hbo
         refine jh ?_
         replace hm := ocR h131
         refine jC (jh (jh (jC ?_)))
         obtain rfl := sj hm
         have hbo := h116 _ Y
         subst hbo
         refine jh ?_
         replace hm := ocR h115
         refine jC (jh (jh (jC ?_)))
         obtain rfl := sj hm
         have hbo := h112 _ Y
         subst hbo
         refine jh ?_
         replace hm := ocR h111
         refine jh ?_
         obtain rfl := sj hm
         refine jm Y (fun w hh => (.tmp Y .nil)) (fun w hh => ⟨(), rfl, trivial, hh.se [] [] 1 Y Y Y rfl⟩)
        replace hm := ifT (of_ndec_false h139) hm
        refine ju (jw (ja (je ?_)))
        obtain ⟨t286, h140, hm⟩ := bindO hm
        refine J7 h140 Y Y Y (jg Y Y (jt ?_))
        obtain rfl := sj hm
        refine ja ?_
        exact jH _ () Y (trivial) (sE Y) (fun w hh => hh)
       replace hm := ifE h133 hm
       refine kC (jl (jl (jI ?_)))
       obtain rfl := sj hm
       have hbo := h132 _ Y
       subst hbo
       exact jk () (Y) (sE Y) (hsE [0, 1, 2, 3, 4] [2, 3, 4, 5, 6, 7] 0 Y Y Y Y)
      intro j_2 hj
      have h141 := hj
      subst h141
      replace hm := ocL h131
      refine jw (ja (je ?_))
      obtain ⟨t287, h142, hm⟩ := bindO hm
      refine J7 h142 Y Y Y (jg Y Y (jt ?_))
      obtain rfl := sj hm
      refine ja ?_
      exact jH _ () Y (trivial) (sE Y) (fun w hh => hh)
     replace hm := ifE h117 hm
     refine kC (jl (jl (jI ?_)))
     obtain rfl := sj hm
     have hbo := h116 _ Y
     subst hbo
     exact jk () (Y) (sE Y) (fun w hh => hh)
    intro j_1 hj
    have h143 := hj
    subst h143
    replace hm := ocL h115
    refine jw (ja (je ?_))
    obtain ⟨t288, h144, hm⟩ := bindO hm
    refine J7 h144 Y Y Y (jg Y Y (jt ?_))
    obtain rfl := sj hm
    refine ja ?_
    exact jH _ () Y (trivial) (sE Y) (fun w hh => hh)
   replace hm := ifE h113 hm
   refine kC (jl (jl (jI ?_)))
   obtain rfl := sj hm
   have hbo := h112 _ Y
   subst hbo
   exact jk () (Y) (.nil) (fun w hh => hh)
  intro j hj
  have h145 := hj
  subst h145
  replace hm := ocL h111
  refine ja (jr ?_)
  obtain ⟨t289, h146, hm⟩ := bindO hm
  refine jd [] [] Y Y Y Y Y Y Y call19 (fun w hh => Q0  w (HV.callee (S0 := []) (vs0 := []) hh roN)  h146) (fun l_28 h147 => ?_)
  refine jo Y Y (jq (jy ?_))
  obtain rfl := sj hm
  refine jm Y (fun w hh => (.tmp Y .nil)) (fun w hh => ⟨(), rfl, trivial, hh.se [] [] 1 Y Y Y rfl⟩)
end Go.Proofs.Wb

namespace Go.Proofs.Wb
open Go Go.Fw Go.Gx Go.Sb
set_option linter.unusedVariables false
set_option maxRecDepth 100000
theorem canB_self {c : Channel} (r : Right c) (l : List Int) : canB c.sands l l = true := by
  unfold canB
  rw [List.all_eq_true]
  intro i _
  rw [inb_iff]
  have := rchC_bounds (x := l.getD i (-1)) r.reach
  omega
end Go.Proofs.Wb

