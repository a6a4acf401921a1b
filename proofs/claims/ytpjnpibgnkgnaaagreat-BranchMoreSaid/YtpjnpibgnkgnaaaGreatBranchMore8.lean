/- What the functions that the law BranchMore reaches come to, and why it holds: part 8. -/
import Derived.Test.YtpjnpibgnkgnaaaGreatBranchMore7
namespace Go.Proofs.Wb
open Go Go.Fw Go.Gx Go.Sb
set_option linter.unusedVariables false
set_option maxRecDepth 100000
theorem ZB : ∀ {l : List Int}, l.length ≤ 3 → JM l = some (mkCells l)
  | [], _ => by decide +kernel
  | [a], _ => rfl
  | [a, b], _ => rfl
  | [a, b, c], _ => rfl
  | a :: b :: c :: d :: l, h => absurd h (by simp)
def clS (nf : Nat) (s : State) : List Int := [s.at_.c0, s.at_.c1, s.at_.c2].take nf
theorem clS_mk {l : List Int} {k : Int} (h : l.length ≤ 3) : clS l.length ⟨k, mkCells l⟩ = l := by
  unfold clS mkCells
  match l, h with
  | [], _ => rfl
  | [a], _ => rfl
  | [a, b], _ => rfl
  | [a, b, c], _ => rfl
  | a :: b :: c :: d :: l, h => exact absurd h (by simp)
theorem YR {d0 d1 : Int} {f : List Int} {a : List Sand} {b : List Sight} {r : List Int} (h : f.length ≤ 3) (s : State) : km d0 d1 f a b r s = some (clS f.length s) := by
  unfold km
  rw [if_pos (by simp; omega), Int.toNat_natCast, Ym (by simp; omega)]
  rfl
theorem yy {l : List Int} (hl : l.length < 1000000) (v : Int) : jy l v = some (decide (v ∈ l)) := by
  unfold jy zX
  rw [contains_loop (f := yt l v) l 0 (fun x => decide (v = x)) (by omega) (fun k hk => ?_) ?_]
  · congr 1
    rw [Bool.eq_iff_iff, List.any_eq_true, decide_eq_true_eq]
    constructor
    · rintro ⟨x, hx, he⟩
      rw [decide_eq_true_eq] at he
      subst he; exact hx
    · intro h; exact ⟨v, h, by simp⟩
  · unfold yt
    rw [if_neg (by omega)]
  · unfold yt
    rw [if_pos (by omega), ix_nat 0 hk, Option.bind_some, addc_eq (by omega), Option.bind_some]
    by_cases h : v = l.getD k 0
    · rw [if_pos h, if_pos (by simpa using h)]
    · rw [if_neg h, if_neg (by simpa using h)]
def offS (k : Int) (l : List Int) (x : Sight) : Bool := decide (x.after = k) && !(decide (x.cell ∈ l) == x.upright)
def agP (cnt : Nat → Bool) (sg : List Sight) (k : Int) (l : List Int) : Bool := !(List.range sg.length).any fun i => cnt i && offS k l (sg.getD i default)
theorem agP_iff {cnt : Nat → Bool} {sg : List Sight} {k : Int} {l : List Int} : agP cnt sg k l = true ↔ ∀ i, i < sg.length → cnt i = true → (sg.getD i default).after = k → (decide ((sg.getD i default).cell ∈ l) = (sg.getD i default).upright) := by
  unfold agP
  rw [Bool.not_eq_true', List.any_eq_false]
  simp only [List.mem_range, offS, Bool.and_eq_true, decide_eq_true_eq, Bool.not_eq_true', not_and, Bool.not_eq_false, beq_iff_eq]
theorem Zz {d0 d1 : Int} {f : List Int} {a : List Sand} {sg : List Sight} {r : List Int} (h : f.length ≤ 3) (hs : sg.length ≤ 100) (s : State) : yx d0 d1 f a sg r s = some (agP (fun _ => true) sg s.after (clS f.length s)) := by
  unfold yx
  rw [iterM_any0 (f := qE sg s d0 d1 f a r) sg.length (fun k => offS s.after (clS f.length s) (sg.getD k default)) false (fun k hk => ?_) ?_ (FU_lt (by omega)), Option.bind_some]
  · unfold agP
    simp only [Bool.true_and]
    cases (List.range sg.length).any fun k => offS s.after (clS f.length s) (sg.getD k default) <;> rfl
  · unfold qE
    rw [if_neg (by omega)]
  · unfold qE Kb
    rw [if_pos (by omega), ix_nat default hk, Option.bind_some, YR h, Option.bind_some, if_pos rfl, Option.bind_some, yy (by unfold clS; simp; omega), Option.bind_some, addc_eq (by omega)]
    unfold offS
    by_cases h1 : (sg.getD k default).after = s.after
    · rw [if_pos h1, Option.bind_some, decide_eq_true h1, Bool.true_and]
      split <;> rfl
    · rw [if_neg h1, Option.bind_some, decide_eq_false h1, Bool.false_and]
      rfl
theorem Yq {d0 d1 : Int} {f : List Int} {a : List Sand} {b : List Sight} {r : List Int} (h : f.length ≤ 3) : jI d0 d1 f a b r = some ⟨0, mkCells f⟩ := by
  unfold jI
  rw [ZB h]; rfl
end Go.Proofs.Wb

namespace Go.Proofs.Wb
open Go Go.Fw Go.Gx Go.Sb
set_option linter.unusedVariables false
set_option maxRecDepth 100000
def canB (sa : List Sand) (a b : List Int) : Bool := (List.range a.length).all fun i => inb (b.getD i (-1)) (a.getD i (-1) - rchC sa (a.getD i (-1))) (a.getD i (-1) + rchC sa (a.getD i (-1)))
def rowB (c : Channel) (l : List Int) : Bool := decide (l.length = c.fords.length) && (upB l && l.all fun x => inb x 0 (c.cells - 1))
theorem rowB_iff {c : Channel} {l : List Int} : rowB c l = true ↔ l.length = c.fords.length ∧ upB l = true ∧ ∀ x ∈ l, 0 ≤ x ∧ x < c.cells := by
  unfold rowB
  simp only [Bool.and_eq_true, decide_eq_true_eq, List.all_eq_true, inb_iff]
  constructor
  · rintro ⟨h1, h2, h3⟩; exact ⟨h1, h2, fun x hx => by have := h3 x hx; omega⟩
  · rintro ⟨h1, h2, h3⟩; exact ⟨h1, h2, fun x hx => by have := h3 x hx; omega⟩
theorem getD_mem {l : List Int} {i : Nat} {d : Int} (h : i < l.length) : l.getD i d ∈ l := by
  rw [List.getD_eq_getElem?_getD, List.getElem?_eq_getElem h]
  exact List.getElem_mem h
end Go.Proofs.Wb

namespace Go.Proofs.Wb
open Go Go.Fw Go.Gx Go.Sb
set_option linter.unusedVariables false
set_option maxRecDepth 100000
theorem cGet_mk {l : List Int} {i : Nat} (h : i < 3) : cGet (mkCells l) i = l.getD i (-1) := by
  have : i = 0 ∨ i = 1 ∨ i = 2 := by omega
  rcases this with rfl | rfl | rfl <;> rfl
theorem rch_eq {c : Channel} {x : Int} (h : 0 ≤ x ∧ x < c.cells) : rch (rchL c) x = rchC c.sands x := rchL_get h
theorem nextOK_of {c : Channel} (r : Right c) {a : List Int} (ha : rowB c a = true) {k : Int} (hk : -1000 ≤ k ∧ k ≤ 1000) : nextOK c.cells (rchL c) (c.fords.length : Int) ⟨k, mkCells a⟩ := by
  obtain ⟨h1, h2, h3⟩ := rowB_iff.1 ha
  have hc := r.cells
  have hf := r.fords
  refine ⟨by omega, by omega, hk.1, hk.2, fun i hi => ?_⟩
  rw [Int.toNat_natCast] at hi
  simp only
  rw [cGet_mk (by omega)]
  have h4 := h3 _ (getD_mem (l := a) (i := i) (d := -1) (by omega))
  have h5 := rchC_bounds (x := a.getD i (-1)) r.reach
  rw [rchL_get h4, rchL_len]
  omega
theorem can_iff {c : Channel} (r : Right c) {a l : List Int} (ha : rowB c a = true) (hl : rowB c l = true) : canB c.sands a l = true ↔ CanS c.cells (rchL c) c.fords.length (mkCells a) l := by
  obtain ⟨a1, a2, a3⟩ := rowB_iff.1 ha
  obtain ⟨l1, l2, l3⟩ := rowB_iff.1 hl
  have hf := r.fords
  unfold canB
  simp only [List.all_eq_true, List.mem_range, inb_iff]
  constructor
  · intro h
    refine ⟨l1, fun i hi => l3 _ (getD_mem (by omega)), fun i hi => ?_, fun i hi => upB_ix.1 l2 i (by omega)⟩
    rw [cGet_mk (by omega), rch_eq (a3 _ (getD_mem (by omega)))]
    exact h i (by omega)
  · intro h i hi
    have := h.near i (by omega)
    rw [cGet_mk (by omega), rch_eq (a3 _ (getD_mem (by omega)))] at this
    exact this
end Go.Proofs.Wb

namespace Go.Gx
open Go
theorem afind_none {α β : Type} [DecidableEq α] : ∀ {l : List (α × β)} {k : α} {i : Nat}, afind l k i = none ↔ ∀ p, p ∈ l → p.1 ≠ k
  | [], k, i => by simp [afind]
  | (k', v') :: r, k, i => by
    unfold afind
    by_cases h : k = k'
    · rw [if_pos h]
      constructor
      · intro h2; cases h2
      · intro h2; exact absurd h.symm (h2 (k', v') (by simp))
    · rw [if_neg h, afind_none]
      constructor
      · intro h2 p hp
        rcases List.mem_cons.1 hp with rfl | hp
        · exact fun e => h e.symm
        · exact h2 p hp
      · intro h2 p hp; exact h2 p (List.mem_cons_of_mem _ hp)
theorem aget_val {α β : Type} [DecidableEq α] : ∀ {l : List (α × β)} {k : α} {i : Nat}, (afind l k i).map (·.2) = (l.find? fun p => decide (p.1 = k)).map (·.2)
  | [], k, i => rfl
  | (k', v') :: r, k, i => by
    unfold afind
    by_cases h : k = k'
    · rw [if_pos h, List.find?_cons, decide_eq_true h.symm]; rfl
    · rw [if_neg h, aget_val (i := i + 1), List.find?_cons, decide_eq_false (fun e => h e.symm)]
theorem find_modify {α β : Type} [DecidableEq α] (v : β) (k x : α) : ∀ {l : List (α × β)} {i j : Nat} {v0 : β}, afind l k j = some (i, v0) → ((l.modify (i - j) (fun p => (p.1, v))).find? fun p => decide (p.1 = x)).map (·.2) = if x = k then some v else (l.find? fun p => decide (p.1 = x)).map (·.2)
  | [], i, j, v0, h => by cases h
  | (k', v') :: r, i, j, v0, h => by
    unfold afind at h
    by_cases hk : k = k'
    · rw [if_pos hk] at h
      cases h
      rw [Nat.sub_self, List.modify_zero_cons, List.find?_cons, List.find?_cons]
      subst hk
      by_cases hx : k = x
      · rw [decide_eq_true hx, if_pos hx.symm]; rfl
      · rw [decide_eq_false hx, if_neg (fun e => hx e.symm)]
    · rw [if_neg hk] at h
      have hle := (afind_some h).1
      have e : i - j = (i - (j + 1)) + 1 := by omega
      rw [e, List.modify_succ_cons, List.find?_cons, List.find?_cons]
      have ih := find_modify v k x h
      by_cases hx : k' = x
      · rw [decide_eq_true hx, if_neg (fun e => hk (by rw [← e, hx]))]
      · rw [decide_eq_false hx]; exact ih
theorem aget_aset {α β : Type} [DecidableEq α] (l : List (α × β)) (k x : α) (v : β) : aget (aset l k v) x = if x = k then some v else aget l x := by
  unfold aget aset
  rw [aget_val, aget_val]
  cases h : afind l k 0 with
  | none =>
    simp only
    rw [List.find?_append]
    by_cases hx : x = k
    · subst hx
      have : (l.find? fun p => decide (p.1 = x)) = none := by
        rw [List.find?_eq_none]
        intro p hp
        simpa using afind_none.1 h p hp
      rw [this, if_pos rfl]
      simp
    · rw [if_neg hx]
      have : (List.find? (fun p : α × β => decide (p.1 = x)) [(k, v)]) = none := by
        rw [List.find?_cons, decide_eq_false (fun e => hx e.symm)]; rfl
      rw [this, Option.or_none]
  | some p =>
    obtain ⟨i, v0⟩ := p
    exact find_modify v k x h
end Go.Gx
namespace Go.Proofs.Wb
open Go Go.Fw Go.Gx Go.Sb
set_option linter.unusedVariables false
abbrev ML := List (State × Int)
def fR (M : State → ML → Option (Int × ML)) (x : State) (p : Int × ML) : Option (Int × ML) := (M x p.2).bind fun q => (addc p.1 q.1).bind fun t => some (t, q.2)
structure RestEq (M : Nat → State → ML → Option (Int × ML)) (V : State → Prop) (ag : State → Bool) (nx : State → List State) (T : Int) : Prop where
  eq : ∀ fu s ml, V s → M (fu + 1) s ml = if (aget ml s).isSome = true then some ((aget ml s).getD 0, ml) else if ag s = true then (if s.after = T then some (1, aset ml s 1) else (iterL (fR (M fu)) (nx s) (0, ml)).bind fun p => some (p.1, aset p.2 s p.1)) else some (0, aset ml s 0)
  nxV : ∀ s t, V s → s.after < T → t ∈ nx s → V t ∧ t.after = s.after + 1
  le : ∀ s, V s → s.after ≤ T
  len : ∀ s, (nx s).length ≤ 1000
theorem sum_le {α : Type} (f : α → Nat) (B : Nat) : ∀ (l : List α), (∀ x ∈ l, f x ≤ B) → (l.map f).sum ≤ l.length * B
  | [], _ => by simp
  | x :: l, h => by
    rw [List.map_cons, List.sum_cons, List.length_cons, Nat.succ_mul]
    have h1 := h x List.mem_cons_self
    have h2 := sum_le f B l (fun y hy => h y (List.mem_cons_of_mem _ hy))
    omega
theorem R_le {nx : State → List State} {ag : State → Bool} (h : ∀ s, (nx s).length ≤ 1000) : ∀ k s, R nx ag k s ≤ 1000 ^ k
  | 0, s => by rw [R]; split <;> simp
  | k + 1, s => by
    rw [R]
    split
    · have h1 := sum_le (R nx ag k) (1000 ^ k) (nx s) (fun x _ => R_le h k x)
      have h2 := Nat.mul_le_mul_right (1000 ^ k) (h s)
      rw [Nat.pow_succ, Nat.mul_comm]
      omega
    · exact Nat.zero_le _
section
variable {nx : State → List State} {ag : State → Bool} {T : Int}
def valR (nx : State → List State) (ag : State → Bool) (T : Int) (s : State) : Int := (R nx ag (T - s.after).toNat s : Nat)
def Sound (nx : State → List State) (ag : State → Bool) (T : Int) (ml : ML) : Prop := ∀ x v, aget ml x = some v → v = valR nx ag T x
def Closed (nx : State → List State) (ag : State → Bool) (T : Int) (ml : ML) : Prop := ∀ x, (aget ml x).isSome = true → ag x = true → x.after < T → ∀ t ∈ nx x, (aget ml t).isSome = true
def Grows (ml ml' : ML) : Prop := ∀ x, (aget ml x).isSome = true → (aget ml' x).isSome = true
theorem Grows.trans {a b c : ML} (h : Grows a b) (h' : Grows b c) : Grows a c := fun x hx => h' x (h x hx)
theorem Sound.set {ml : ML} (h : Sound nx ag T ml) {s : State} {v : Int} (hv : v = valR nx ag T s) : Sound nx ag T (aset ml s v) := by
  intro x w hx
  rw [aget_aset] at hx
  split at hx
  · rename_i e; subst e; rw [← Option.some.inj hx]; exact hv
  · exact h x w hx
theorem Grows.set (ml : ML) (s : State) (v : Int) : Grows ml (aset ml s v) := by
  intro x hx
  rw [aget_aset]
  split
  · rfl
  · exact hx
theorem Closed.set {ml : ML} (h : Closed nx ag T ml) {s : State} {v : Int} (hs : ag s = true → s.after < T → ∀ t ∈ nx s, (aget ml t).isSome = true) : Closed nx ag T (aset ml s v) := by
  intro x hx ha hl t ht
  by_cases e : x = s
  · subst e; exact Grows.set ml x v t (hs ha hl t ht)
  · rw [aget_aset, if_neg e] at hx
    exact Grows.set ml s v t (h x hx ha hl t ht)
def Good (nx : State → List State) (ag : State → Bool) (T : Int) (ml : ML) (s : State) (r : Option (Int × ML)) : Prop := ∃ ml', r = some (valR nx ag T s, ml') ∧ Sound nx ag T ml' ∧ Closed nx ag T ml' ∧ Grows ml ml' ∧ (aget ml' s).isSome = true
theorem rest_loop {M : State → ML → Option (Int × ML)} : ∀ (l : List State) (n : Int) (ml : ML), (∀ x ∈ l, ∀ ml, Sound nx ag T ml → Closed nx ag T ml → Good nx ag T ml x (M x ml)) → 0 ≤ n → n + ((l.length : Nat) : Int) * 1000000000000 ≤ 1000000000000000 → (∀ x ∈ l, valR nx ag T x ≤ 1000000000000) → Sound nx ag T ml → Closed nx ag T ml →
    ∃ ml', iterL (fR M) l (n, ml) = some (n + ((l.map fun x => R nx ag (T - x.after).toNat x).sum : Nat), ml') ∧ Sound nx ag T ml' ∧ Closed nx ag T ml' ∧ Grows ml ml' ∧ ∀ x ∈ l, (aget ml' x).isSome = true
  | [], n, ml, _, _, _, _, hS, hC => ⟨ml, by simp [iterL], hS, hC, fun _ h => h, fun x hx => by cases hx⟩
  | x :: l, n, ml, hM, h0, hb, hv, hS, hC => by
    obtain ⟨m1, e1, s1, c1, g1, i1⟩ := hM x List.mem_cons_self ml hS hC
    have hx := hv x List.mem_cons_self
    have hx0 : 0 ≤ valR nx ag T x := Int.natCast_nonneg _
    rw [List.length_cons] at hb
    obtain ⟨m2, e2, s2, c2, g2, i2⟩ := rest_loop l (n + valR nx ag T x) m1 (fun y hy => hM y (List.mem_cons_of_mem _ hy)) (by omega) (by push_cast at hb ⊢; omega) (fun y hy => hv y (List.mem_cons_of_mem _ hy)) s1 c1
    refine ⟨m2, ?_, s2, c2, g1.trans g2, fun y hy => ?_⟩
    · rw [iterL]
      unfold fR
      simp only
      rw [e1, Option.bind_some, addc_eq (by push_cast at hb; omega), Option.bind_some, Option.bind_some]
      have := e2
      unfold fR at this
      rw [this, List.map_cons, List.sum_cons]
      unfold valR
      push_cast
      rw [Int.add_assoc]
    · rcases List.mem_cons.1 hy with rfl | hy
      · exact g2 _ i1
      · exact i2 y hy
theorem rest_spec {M : Nat → State → ML → Option (Int × ML)} {V : State → Prop} (h : RestEq M V ag nx T) (hT : 0 ≤ T ∧ T ≤ 4) : ∀ (k : Nat) (fu : Nat) (s : State) (ml : ML), V s → 0 ≤ s.after → (T - s.after).toNat = k → k < fu → Sound nx ag T ml → Closed nx ag T ml → Good nx ag T ml s (M fu s ml) := by
  intro k
  induction k with
  | zero =>
    intro fu s ml hV h0 hk hf hS hC
    obtain ⟨fu, rfl⟩ : ∃ f, fu = f + 1 := ⟨fu - 1, by omega⟩
    have hle := h.le s hV
    have hl : s.after = T := by omega
    rw [h.eq fu s ml hV]
    by_cases h1 : (aget ml s).isSome = true
    · rw [if_pos h1]
      obtain ⟨v, hv⟩ := Option.isSome_iff_exists.1 h1
      refine ⟨ml, ?_, hS, hC, fun _ h => h, h1⟩
      rw [hv, Option.getD_some, hS s v hv]
    · rw [if_neg h1]
      by_cases h2 : ag s = true
      · rw [if_pos h2, if_pos hl]
        have e : (1 : Int) = valR nx ag T s := by unfold valR; rw [hk, R, if_pos h2]; rfl
        refine ⟨_, ?_, hS.set e, hC.set (fun _ hlt => absurd hlt (by omega)), Grows.set _ _ _, by rw [aget_aset, if_pos rfl]; rfl⟩
        rw [← e]
      · rw [if_neg h2]
        have e : (0 : Int) = valR nx ag T s := by unfold valR; rw [hk, R, if_neg h2]; rfl
        refine ⟨_, ?_, hS.set e, hC.set (fun ha => absurd ha h2), Grows.set _ _ _, by rw [aget_aset, if_pos rfl]; rfl⟩
        rw [← e]
  | succ k ih =>
    intro fu s ml hV h0 hk hf hS hC
    obtain ⟨fu, rfl⟩ : ∃ f, fu = f + 1 := ⟨fu - 1, by omega⟩
    have hl : s.after < T := by omega
    rw [h.eq fu s ml hV]
    by_cases h1 : (aget ml s).isSome = true
    · rw [if_pos h1]
      obtain ⟨v, hv⟩ := Option.isSome_iff_exists.1 h1
      refine ⟨ml, ?_, hS, hC, fun _ h => h, h1⟩
      rw [hv, Option.getD_some, hS s v hv]
    · rw [if_neg h1]
      by_cases h2 : ag s = true
      · rw [if_pos h2, if_neg (by omega)]
        have hlen := h.len s
        have hmx : (1000 : Nat) ^ k ≤ 1000 ^ 4 := Nat.pow_le_pow_right (by omega) (by omega)
        obtain ⟨m2, e2, s2, c2, g2, i2⟩ := rest_loop (M := M fu) (nx s) 0 ml (fun x hx ml hS hC => by
            obtain ⟨v1, v2⟩ := h.nxV s x hV hl hx
            exact ih fu x ml v1 (by omega) (by omega) (by omega) hS hC) (by omega) (by omega) (fun x hx => by
            obtain ⟨v1, v2⟩ := h.nxV s x hV hl hx
            have e3 : (T - x.after).toNat = k := by omega
            unfold valR
            rw [e3]
            have := R_le (nx := nx) (ag := ag) h.len k x
            have : R nx ag k x ≤ 1000000000000 := by
              have e4 : (1000 : Nat) ^ 4 = 1000000000000 := by decide
              omega
            omega) hS hC
        have e : ((0 : Int) + (((nx s).map fun x => R nx ag (T - x.after).toNat x).sum : Nat)) = valR nx ag T s := by
          unfold valR
          rw [hk, R, if_pos h2, Int.zero_add]
          congr 2
          apply List.map_congr_left
          intro x hx
          obtain ⟨v1, v2⟩ := h.nxV s x hV hl hx
          rw [show (T - x.after).toNat = k by omega]
        rw [e2, Option.bind_some, e]
        exact ⟨_, rfl, s2.set rfl, c2.set (fun _ _ => i2), g2.trans (Grows.set _ _ _), by rw [aget_aset, if_pos rfl]; rfl⟩
      · rw [if_neg h2]
        have e : (0 : Int) = valR nx ag T s := by unfold valR; rw [hk, R, if_neg h2]; rfl
        refine ⟨_, ?_, hS.set e, hC.set (fun ha => absurd ha h2), Grows.set _ _ _, by rw [aget_aset, if_pos rfl]; rfl⟩
        rw [← e]
end
end Go.Proofs.Wb

namespace Go.Proofs.Wb
open Go Go.Fw Go.Gx Go.Sb
set_option linter.unusedVariables false
set_option maxRecDepth 100000
theorem iterL_pair {α σ τ : Type} (g : σ → τ) {f : α → σ → Option σ} {f' : α → τ → Option τ} (h : ∀ x s, (f x s).map g = f' x (g s)) : ∀ (l : List α) (s : σ), (iterL f l s).map g = iterL f' l (g s)
  | [], s => rfl
  | x :: l, s => by
    rw [iterL, iterL, ← h]
    cases f x s with
    | none => rfl
    | some s' => exact iterL_pair g h l s'
def VS (c : Channel) (s : State) : Prop := (∃ l, rowB c l = true ∧ s.at_ = mkCells l) ∧ 0 ≤ s.after ∧ s.after ≤ c.tides
def agS (cnt : Nat → Bool) (c : Channel) (s : State) : Bool := agP cnt c.sights s.after (clS c.fords.length s)
def nxS (c : Channel) (s : State) : List State := nextL c.cells (rchL c) (c.fords.length : Int) s
theorem putL_len {n : Nat} {reach : List Int} {a : Cells} : ∀ (m : Nat) (pre : List Int), (putL n reach a m pre).length ≤ n ^ m
  | 0, pre => by simp [putL]
  | m + 1, pre => by
    rw [putL, List.length_flatMap]
    have h := sum_le (fun x : Nat => (if okN reach a pre (x : Int) = true then putL n reach a m (pre ++ [(x : Int)]) else []).length) (n ^ m) (List.range n) (fun x _ => by
      split
      · exact putL_len m _
      · exact Nat.zero_le _)
    rw [List.length_range] at h
    rw [Nat.pow_succ, Nat.mul_comm]
    exact h
theorem nxS_len {c : Channel} (r : Right c) (s : State) : (nxS c s).length ≤ 1000 := by
  have hc := r.cells
  have hf := r.fords
  unfold nxS nextL
  rw [List.length_map]
  refine Nat.le_trans (putL_len _ _) ?_
  have h1 : c.cells.toNat ^ (c.fords.length : Int).toNat ≤ 10 ^ (c.fords.length : Int).toNat := Nat.pow_le_pow_left (by omega) _
  have h2 : 10 ^ (c.fords.length : Int).toNat ≤ 10 ^ 3 := Nat.pow_le_pow_right (by omega) (by omega)
  omega
theorem nxS_mem {c : Channel} (r : Right c) {s t : State} : t ∈ nxS c s ↔ ∃ l, CanS c.cells (rchL c) c.fords.length s.at_ l ∧ t = ⟨s.after + 1, mkCells l⟩ := by
  have hc := r.cells
  unfold nxS
  rw [mem_nextL (by omega), Int.toNat_natCast]
theorem row_of_can {c : Channel} {a : Cells} {l : List Int} (h : CanS c.cells (rchL c) c.fords.length a l) : rowB c l = true := by
  rw [rowB_iff]
  refine ⟨h.len, upB_ix.2 fun i hi => h.up i (by rw [← h.len]; exact hi), fun x hx => ?_⟩
  obtain ⟨i, hi, rfl⟩ := List.getElem_of_mem hx
  have := h.inC i (by rw [← h.len]; exact hi)
  simpa [List.getD_eq_getElem?_getD, hi] using this
theorem nxS_V {c : Channel} (r : Right c) {s t : State} (hs : VS c s) (hl : s.after < c.tides) (ht : t ∈ nxS c s) : VS c t ∧ t.after = s.after + 1 := by
  obtain ⟨l, h1, rfl⟩ := (nxS_mem r).1 ht
  obtain ⟨_, h2, h3⟩ := hs
  exact ⟨⟨⟨l, row_of_can h1, rfl⟩, by simp only; omega, by simp only; omega⟩, rfl⟩
theorem nxS_nodup {c : Channel} (r : Right c) (s : State) : (nxS c s).Nodup := nextL_nodup (by have := r.fords; omega)
theorem VS_next {c : Channel} (r : Right c) {s : State} (h : VS c s) : nextOK c.cells (rchL c) (c.fords.length : Int) s := by
  obtain ⟨⟨l, h1, h2⟩, h3, h4⟩ := h
  have ht := r.tides
  obtain ⟨k, a⟩ := s
  simp only at h2 h3 h4
  subst h2
  exact nextOK_of r h1 (by omega)
def MR (c : Channel) (fu : Nat) (s : State) (ml : ML) : Option (Int × ML) := (jD fu s ml c.cells c.tides c.fords c.sands c.sights (rchL c)).map fun q => (q.r0, q.a11)
theorem restEq_all {c : Channel} (r : Right c) : RestEq (MR c) (VS c) (agS (fun _ => true) c) (nxS c) c.tides where
  eq fu s ml hV := by
    have hf := r.fords
    have hs := r.sights
    unfold MR
    rw [jD]
    unfold ya
    by_cases h1 : (aget ml s).isSome = true
    · rw [if_pos h1, if_pos h1]; rfl
    · rw [if_neg h1, if_neg h1, Zz (by omega) (by omega), Option.bind_some, not_true_if]
      show _ = if agS (fun _ => true) c s = true then _ else _
      unfold agS
      by_cases h2 : agP (fun _ => true) c.sights s.after (clS c.fords.length s) = true
      · rw [if_pos h2, if_pos h2]
        by_cases h3 : s.after = c.tides
        · rw [if_pos h3, if_pos h3]; rfl
        · rw [if_neg h3, if_neg h3]
          unfold qe
          rw [Option.bind_some, if_pos (VS_next r hV)]
          have hp := iterL_pair (fun q : kq => (q.n9, q.a11)) (f := qb (jD fu) c.cells c.tides c.fords c.sands c.sights (rchL c)) (f' := fR (MR c fu)) (fun x q => by
            unfold qb fR MR
            cases jD fu x q.a11 c.cells c.tides c.fords c.sands c.sights (rchL c) with
            | none => rfl
            | some q' =>
              simp only [Option.bind_some, Option.map_some]
              cases addc q.n9 q'.r0 <;> rfl) (nxS c s) ⟨0, ml⟩
          simp only at hp
          show _ = (iterL (fR (MR c fu)) (nxS c s) (0, ml)).bind _
          rw [← hp]
          unfold nxS
          cases iterL (qb (jD fu) c.cells c.tides c.fords c.sands c.sights (rchL c)) (nextL c.cells (rchL c) (c.fords.length : Int) s) ⟨0, ml⟩ <;> rfl
      · rw [if_neg h2, if_neg h2]; rfl
  nxV s t hs hl ht := nxS_V r hs hl ht
  le s hs := hs.2.2
  len s := nxS_len r s
def first (c : Channel) : State := ⟨0, mkCells c.fords⟩
theorem first_V {c : Channel} (r : Right c) : VS c (first c) := ⟨⟨c.fords, rowB_iff.2 ⟨rfl, r.up, r.fcell⟩, rfl⟩, Int.le_refl _, r.tides.1⟩
theorem Y3 {c : Channel} (r : Right c) : ∃ ml, qZ c.cells c.tides c.fords c.sands c.sights (rchL c) = some ml ∧ Sound (nxS c) (agS (fun _ => true) c) c.tides ml ∧ Closed (nxS c) (agS (fun _ => true) c) c.tides ml ∧ (aget ml (first c)).isSome = true := by
  have hf := r.fords
  have ht := r.tides
  unfold qZ
  rw [Yq (by omega), Option.bind_some]
  obtain ⟨ml, e, s1, c1, _, i1⟩ := rest_spec (restEq_all r) ht (c.tides - (first c).after).toNat FU (first c) [] (first_V r) (Int.le_refl _) rfl (by unfold first FU; simp only; omega) (fun x v hx => by simp [aget, afind] at hx) (fun x hx => by simp [aget, afind] at hx)
  unfold MR at e
  rw [Option.map_eq_some_iff] at e
  obtain ⟨q, e1, e2⟩ := e
  simp only [Prod.mk.injEq] at e2
  refine ⟨ml, ?_, s1, c1, i1⟩
  show (jD FU (first c) [] c.cells c.tides c.fords c.sands c.sights (rchL c)).bind _ = _
  rw [e1, Option.bind_some, e2.2]
def cntS (cnt : Nat → Bool) (c : Channel) : Nat := R (nxS c) (agS cnt c) c.tides.toNat (first c)
theorem ZK {c : Channel} (r : Right c) : q8 c.cells c.tides c.fords c.sands c.sights (rchL c) = some (cntS (fun _ => true) c : Int) := by
  have hf := r.fords
  unfold q8 JF
  obtain ⟨ml, e, s1, c1, i1⟩ := Y3 r
  rw [Option.bind_some, e, Option.bind_some, Yq (by omega), Option.bind_some]
  obtain ⟨v, hv⟩ := Option.isSome_iff_exists.1 i1
  have := s1 _ _ hv
  show some ((aget ml (first c)).getD 0) = _
  rw [hv, Option.getD_some, this]
  unfold valR cntS first
  simp
theorem ZQ {c : Channel} (h : Few c) : qz c = some (if chk c = 0 then ⟨(cntS (fun _ => true) c : Int), 0⟩ else ⟨0, chk c⟩) := by
  unfold qz
  rw [YM h, Option.bind_some]
  by_cases h0 : chk c = 0
  · rw [if_pos h0, if_pos h0, oc_inr, ZK (rightOf h0)]; rfl
  · rw [if_neg h0, if_neg h0, oc_inl]
end Go.Proofs.Wb

namespace Go.Proofs.Wb
open Go Go.Fw Go.Gx Go.Sb
set_option linter.unusedVariables false
set_option maxRecDepth 100000
def stepP (ml : ML) (p : List (State × Bool) × List State) (x : State) : List (State × Bool) × List State := if 0 < (aget ml x).getD 0 ∧ (aget p.1 x).getD false = false then (aset p.1 x true, p.2 ++ [x]) else p
theorem stepP_len (ml : ML) : ∀ (L : List State) (p : List (State × Bool) × List State), (L.foldl (stepP ml) p).2.length ≤ p.2.length + L.length
  | [], p => by simp
  | x :: L, p => by
    rw [List.foldl_cons, List.length_cons]
    have h := stepP_len ml L (stepP ml p x)
    have h2 : (stepP ml p x).2.length ≤ p.2.length + 1 := by
      unfold stepP
      split
      · simp
      · omega
    omega
theorem fit_F2 (ml : ML) : ∀ (L : List State) (p : List (State × Bool) × List State), p.2.length + L.length ≤ 3000000000000 → iterL (qt ml) L ⟨p.1, p.2⟩ = some ⟨(L.foldl (stepP ml) p).1, (L.foldl (stepP ml) p).2⟩
  | [], p, _ => rfl
  | x :: L, p, h => by
    rw [List.length_cons] at h
    rw [iterL, List.foldl_cons]
    have hs : qt ml x ⟨p.1, p.2⟩ = some ⟨(stepP ml p x).1, (stepP ml p x).2⟩ := by
      unfold qt stepP
      simp only
      by_cases h1 : 0 < (aget ml x).getD 0
      · rw [if_pos h1, Option.bind_some]
        by_cases h2 : (aget p.1 x).getD false = false
        · rw [if_pos (by simp [h2]), if_pos ⟨h1, h2⟩, appc_eq (by simp; omega)]
          rfl
        · rw [if_neg (by simpa using h2), if_neg (fun q => h2 q.2)]
      · rw [if_neg h1, Option.bind_some, if_neg (by decide), if_neg (fun q => h1 q.1)]
    have h2 : (stepP ml p x).2.length ≤ p.2.length + 1 := stepP_len ml [x] p
    rw [hs, Option.bind_some]
    exact fit_F2 ml L (stepP ml p x) (by omega)
def Met (p : List (State × Bool) × List State) : Prop := ∀ x, (aget p.1 x).getD false = decide (x ∈ p.2)
theorem stepP_met {ml : ML} {p : List (State × Bool) × List State} {x : State} (h : Met p) : Met (stepP ml p x) ∧ ∀ y, y ∈ (stepP ml p x).2 ↔ y ∈ p.2 ∨ (y = x ∧ 0 < (aget ml y).getD 0) := by
  unfold stepP
  by_cases h1 : 0 < (aget ml x).getD 0 ∧ (aget p.1 x).getD false = false
  · rw [if_pos h1]
    constructor
    · intro y
      simp only
      rw [aget_aset]
      by_cases e : y = x
      · rw [if_pos e]; simp [e]
      · rw [if_neg e, h y]; simp [e]
    · intro y
      simp only [List.mem_append, List.mem_singleton]
      constructor
      · rintro (h2 | rfl)
        · exact .inl h2
        · exact .inr ⟨rfl, h1.1⟩
      · rintro (h2 | ⟨rfl, _⟩)
        · exact .inl h2
        · exact .inr rfl
  · rw [if_neg h1]
    refine ⟨h, fun y => ⟨.inl, ?_⟩⟩
    rintro (h2 | ⟨rfl, h2⟩)
    · exact h2
    · have h3 : ¬ (aget p.1 y).getD false = false := fun q => h1 ⟨h2, q⟩
      rw [h y] at h3
      simpa using h3
theorem foldP_met {ml : ML} : ∀ (L : List State) (p : List (State × Bool) × List State), Met p → Met (L.foldl (stepP ml) p) ∧ ∀ y, y ∈ (L.foldl (stepP ml) p).2 ↔ y ∈ p.2 ∨ (y ∈ L ∧ 0 < (aget ml y).getD 0)
  | [], p, h => ⟨h, fun y => by simp⟩
  | x :: L, p, h => by
    obtain ⟨h1, h2⟩ := stepP_met (ml := ml) (x := x) h
    obtain ⟨h3, h4⟩ := foldP_met L _ h1
    refine ⟨h3, fun y => ?_⟩
    rw [List.foldl_cons, h4 y, h2 y, List.mem_cons]
    constructor
    · rintro ((h | ⟨h, q⟩) | ⟨h, q⟩)
      · exact .inl h
      · exact .inr ⟨.inl h, q⟩
      · exact .inr ⟨.inr h, q⟩
    · rintro (h | ⟨h | h, q⟩)
      · exact .inl (.inl h)
      · exact .inl (.inr ⟨h, q⟩)
      · exact .inr ⟨h, q⟩
def rowP (ml : ML) (nx : State → List State) (l : List State) : List State := ((l.flatMap nx).foldl (stepP ml) ([], [])).2
theorem mem_rowP {ml : ML} {nx : State → List State} {l : List State} {y : State} : y ∈ rowP ml nx l ↔ (∃ s ∈ l, y ∈ nx s) ∧ 0 < (aget ml y).getD 0 := by
  unfold rowP
  rw [(foldP_met (ml := ml) (l.flatMap nx) ([], []) (fun x => by simp [aget, afind])).2 y, List.mem_flatMap]
  simp
theorem flatMap_len {nx : State → List State} (h : ∀ s, (nx s).length ≤ 1000) (l : List State) : (l.flatMap nx).length ≤ l.length * 1000 := by
  rw [List.length_flatMap]
  exact sum_le (fun s => (nx s).length) 1000 l (fun x _ => h x)
theorem rowP_len {ml : ML} {nx : State → List State} (h : ∀ s, (nx s).length ≤ 1000) (l : List State) : (rowP ml nx l).length ≤ l.length * 1000 := by
  have := stepP_len ml (l.flatMap nx) ([], [])
  have := flatMap_len h l
  unfold rowP
  simp only [List.length_nil, Nat.zero_add] at *
  omega
theorem fit_L1 {c : Channel} (r : Right c) (ml : ML) {l : List State} (hl : l.length ≤ 1000000000) (hV : ∀ s ∈ l, VS c s) :
    ∃ met, iterM FU (kK l c.cells c.tides c.fords c.sands c.sights (rchL c) ml) ⟨0, [], []⟩ = some ⟨met, rowP ml (nxS c) l⟩ := by
  refine ⟨((l.flatMap (nxS c)).foldl (stepP ml) ([], [])).1, ?_⟩
  have key := iterM_run (f := kK l c.cells c.tides c.fords c.sands c.sights (rchL c) ml) (fun j => ⟨(j : Int), (((l.take j).flatMap (nxS c)).foldl (stepP ml) ([], [])).1, (((l.take j).flatMap (nxS c)).foldl (stepP ml) ([], [])).2⟩) l.length (b := ⟨((l.flatMap (nxS c)).foldl (stepP ml) ([], [])).1, ((l.flatMap (nxS c)).foldl (stepP ml) ([], [])).2⟩) (fun j hj => ?_) ?_ FU (FU_lt (by omega))
  · exact key
  · have e : l.take (j + 1) = l.take j ++ [l[j]] := by rw [List.take_append_getElem]
    have hx : l.getD j default = l[j] := by simp [List.getD_eq_getElem?_getD, hj]
    unfold kK qe
    simp only
    rw [if_pos (by omega), ix_nat default hj, Option.bind_some, hx, Option.bind_some, if_pos (VS_next r (hV _ (List.getElem_mem hj)))]
    have h1 := stepP_len ml ((l.take j).flatMap (nxS c)) ([], [])
    have h2 := flatMap_len (nxS_len r) (l.take j)
    have h3 := nxS_len r l[j]
    have h4 : (l.take j).length ≤ l.length := by rw [List.length_take]; omega
    have h5 := Nat.mul_le_mul_right 1000 h4
    have hf := fit_F2 ml (nxS c l[j]) (((l.take j).flatMap (nxS c)).foldl (stepP ml) ([], [])) (by simp only [List.length_nil, Nat.zero_add] at h1; omega)
    unfold nxS at hf
    unfold nxS
    rw [hf, Option.bind_some, addc_eq (by omega), Option.bind_some, e, List.flatMap_append, List.foldl_append]
    simp
  · unfold kK
    simp only
    rw [if_neg (by omega), List.take_length]
def lev (c : Channel) (ml : ML) : Nat → List State
  | 0 => [first c]
  | k + 1 => rowP ml (nxS c) (lev c ml k)
theorem lev_len {c : Channel} (r : Right c) (ml : ML) : ∀ k, (lev c ml k).length ≤ 1000 ^ k
  | 0 => by simp [lev]
  | k + 1 => by
    have h := rowP_len (ml := ml) (nxS_len r) (lev c ml k)
    have h2 := Nat.mul_le_mul_right 1000 (lev_len r ml k)
    rw [lev, Nat.pow_succ]
    omega
theorem lev_V {c : Channel} (r : Right c) (ml : ML) : ∀ k : Nat, (k : Int) ≤ c.tides → ∀ s ∈ lev c ml k, VS c s ∧ s.after = (k : Int)
  | 0, _, s, hs => by
    simp only [lev, List.mem_singleton] at hs
    subst hs
    exact ⟨first_V r, rfl⟩
  | k + 1, hk, s, hs => by
    obtain ⟨⟨u, hu, hn⟩, _⟩ := mem_rowP.1 hs
    obtain ⟨h1, h2⟩ := lev_V r ml k (by omega) u hu
    obtain ⟨h3, h4⟩ := nxS_V r h1 (by omega) hn
    exact ⟨h3, by omega⟩
theorem lev_on {c : Channel} (r : Right c) {ml : ML} (hS : Sound (nxS c) (agS (fun _ => true) c) c.tides ml) (hC : Closed (nxS c) (agS (fun _ => true) c) c.tides ml) (hi : (aget ml (first c)).isSome = true) (hp : 0 < cntS (fun _ => true) c) :
    ∀ k : Nat, (k : Int) ≤ c.tides → ∀ t, (t ∈ lev c ml k ↔ On (nxS c) (agS (fun _ => true) c) k c.tides.toNat (first c) t) ∧ (t ∈ lev c ml k → (aget ml t).isSome = true)
  | 0, _, t => by
    constructor
    · rw [lev, List.mem_singleton, on_zero]
      constructor
      · intro h; exact ⟨h, hp⟩
      · exact fun h => h.1
    · intro h
      rw [lev, List.mem_singleton] at h
      rw [h]; exact hi
  | k + 1, hk, t => by
    have ih := lev_on r hS hC hi hp k (by omega)
    have hsome : t ∈ lev c ml (k + 1) → (aget ml t).isSome = true := by
      intro h
      have h2 := (mem_rowP.1 h).2
      cases hq : aget ml t with
      | none => rw [hq] at h2; simp at h2
      | some v => rfl
    refine ⟨?_, hsome⟩
    rw [on_succ (by omega)]
    constructor
    · intro h
      obtain ⟨⟨u, hu, hn⟩, h2⟩ := mem_rowP.1 h
      obtain ⟨v1, v2⟩ := lev_V r ml k (by omega) u hu
      obtain ⟨v3, v4⟩ := nxS_V r v1 (by omega) hn
      refine ⟨u, (ih u).1.1 hu, hn, ?_⟩
      obtain ⟨v, hv⟩ := Option.isSome_iff_exists.1 (hsome h)
      have h3 := hS t v hv
      rw [hv, Option.getD_some, h3] at h2
      unfold valR at h2
      rw [show (c.tides - t.after).toNat = c.tides.toNat - k - 1 by omega] at h2
      omega
    · rintro ⟨u, hu, hn, h2⟩
      have hu' := (ih u).1.2 hu
      obtain ⟨v1, v2⟩ := lev_V r ml k (by omega) u hu'
      obtain ⟨v3, v4⟩ := nxS_V r v1 (by omega) hn
      have hag := R_ag (on_R (by omega) hu)
      have hst := hC u ((ih u).2 hu') hag (by omega) t hn
      obtain ⟨v, hv⟩ := Option.isSome_iff_exists.1 hst
      have h3 := hS t v hv
      refine mem_rowP.2 ⟨⟨u, hu', hn⟩, ?_⟩
      rw [hv, Option.getD_some, h3]
      unfold valR
      rw [show (c.tides - t.after).toNat = c.tides.toNat - k - 1 by omega]
      omega
structure Levs (c : Channel) (L : List (List State)) : Prop where
  len : (L.length : Int) = c.tides + 1
  mem : ∀ k : Nat, (k : Int) ≤ c.tides → ∀ t, t ∈ L.getD k [] ↔ On (nxS c) (agS (fun _ => true) c) k c.tides.toNat (first c) t
  val : ∀ k : Nat, (k : Int) ≤ c.tides → ∀ s ∈ L.getD k [], VS c s ∧ s.after = (k : Int)
  bnd : ∀ k : Nat, (k : Int) ≤ c.tides → (L.getD k []).length ≤ 1000000000000
theorem Zn {c : Channel} (r : Right c) : ∃ L, yf c.cells c.tides c.fords c.sands c.sights (rchL c) = some (if cntS (fun _ => true) c = 0 then .inl () else .inr L) ∧ (cntS (fun _ => true) c ≠ 0 → Levs c L) := by
  have hf := r.fords
  have ht := r.tides
  obtain ⟨ml, e, s1, c1, i1⟩ := Y3 r
  obtain ⟨v, hv⟩ := Option.isSome_iff_exists.1 i1
  have hv2 := s1 _ _ hv
  have hv3 : v = (cntS (fun _ => true) c : Int) := by
    rw [hv2]
    unfold valR cntS first
    simp
  refine ⟨(List.range (c.tides.toNat + 1)).map (lev c ml), ?_, ?_⟩
  · unfold yf JF
    rw [Option.bind_some, e, Option.bind_some, Yq (by omega), Option.bind_some]
    show (if (aget ml (first c)).getD 0 = 0 then _ else _) = _
    rw [hv, Option.getD_some, hv3]
    by_cases h0 : cntS (fun _ => true) c = 0
    · rw [if_pos (by omega), if_pos h0]
    · rw [if_neg (by omega), if_neg h0, Option.bind_some]
      have key := iterM_run (f := kL c.tides c.cells c.fords c.sands c.sights (rchL c) ml) (fun j => ⟨(j : Int), (List.range (j + 1)).map (lev c ml)⟩) c.tides.toNat (b := (List.range (c.tides.toNat + 1)).map (lev c ml)) (fun j hj => ?_) ?_ FU (FU_lt (by omega))
      · show (iterM FU (kL c.tides c.cells c.fords c.sands c.sights (rchL c) ml) ⟨((0 : Nat) : Int), (List.range (0 + 1)).map (lev c ml)⟩).bind _ = _
        rw [key]; rfl
      · unfold kL
        simp only
        have hlen := lev_len r ml j
        have hpw : (1000 : Nat) ^ j ≤ 1000 ^ 3 := Nat.pow_le_pow_right (by omega) (by omega)
        have e3 : (1000 : Nat) ^ 3 = 1000000000 := by decide
        obtain ⟨met, hm⟩ := fit_L1 r ml (l := lev c ml j) (by omega) (fun s hs => (lev_V r ml j (by omega) s hs).1)
        rw [if_pos (by omega), range_ix (by omega), Option.bind_some, hm, Option.bind_some, appc_eq (by simp; omega), Option.bind_some, addc_eq (by omega), Option.bind_some, List.range_succ (n := j + 1), List.map_append]
        rfl
      · unfold kL
        simp only
        rw [if_neg (by omega)]
  · intro h0
    have hg : ∀ k : Nat, (k : Int) ≤ c.tides → ((List.range (c.tides.toNat + 1)).map (lev c ml)).getD k [] = lev c ml k := by
      intro k hk
      rw [List.getD_eq_getElem?_getD, List.getElem?_map, List.getElem?_range (by omega)]
      rfl
    refine ⟨by simp; omega, fun k hk t => ?_, fun k hk s hs => ?_, fun k hk => ?_⟩
    · rw [hg k hk]; exact (lev_on r s1 c1 i1 (by omega) k hk t).1
    · rw [hg k hk] at hs; exact lev_V r ml k hk s hs
    · rw [hg k hk]
      have := lev_len r ml k
      have hpw : (1000 : Nat) ^ k ≤ 1000 ^ 4 := Nat.pow_le_pow_right (by omega) (by omega)
      have e4 : (1000 : Nat) ^ 4 = 1000000000000 := by decide
      omega
theorem Qo {c : Channel} (h : Few c) : ∃ L, ql c = some (if chk c = 0 then (if cntS (fun _ => true) c = 0 then .inl 7 else .inr ⟨c.cells, c.tides, L, rchL c⟩) else .inl (chk c)) ∧ (chk c = 0 → cntS (fun _ => true) c ≠ 0 → Levs c L) := by
  unfold ql
  rw [YM h, Option.bind_some]
  by_cases h0 : chk c = 0
  · have r := rightOf h0
    obtain ⟨L, e, hL⟩ := Zn r
    refine ⟨L, ?_, fun _ h1 => hL h1⟩
    rw [if_pos h0, if_pos h0, oc_inr, e, Option.bind_some]
    by_cases h1 : cntS (fun _ => true) c = 0
    · rw [if_pos h1, if_pos h1, oc_inl]
    · rw [if_neg h1, if_neg h1, oc_inr, if_pos (by have := (hL h1).len; have := r.tides; omega)]
  · exact ⟨[], by rw [if_neg h0, if_neg h0, oc_inl], fun h => absurd h h0⟩
end Go.Proofs.Wb

namespace Go.Proofs.Wb
open Go Go.Fw Go.Gx Go.Sb
set_option linter.unusedVariables false
set_option maxRecDepth 100000
def sumN {α : Type} (l : List α) (f : α → Nat) : Nat := (l.map f).sum
theorem sumN_nil {α : Type} (f : α → Nat) : sumN [] f = 0 := rfl
theorem sumN_cons {α : Type} (x : α) (l : List α) (f : α → Nat) : sumN (x :: l) f = f x + sumN l f := by unfold sumN; rw [List.map_cons, List.sum_cons]
theorem sumN_congr {α : Type} {l : List α} {f g : α → Nat} (h : ∀ x ∈ l, f x = g x) : sumN l f = sumN l g := by unfold sumN; rw [List.map_congr_left h]
theorem sumN_zero {α : Type} {l : List α} {f : α → Nat} (h : ∀ x ∈ l, f x = 0) : sumN l f = 0 := by
  induction l with
  | nil => rfl
  | cons x l ih => rw [sumN_cons, h x List.mem_cons_self, ih (fun y hy => h y (List.mem_cons_of_mem _ hy))]
theorem sumN_add {α : Type} (l : List α) (f g : α → Nat) : sumN l (fun x => f x + g x) = sumN l f + sumN l g := by
  induction l with
  | nil => rfl
  | cons x l ih => rw [sumN_cons, sumN_cons, sumN_cons, ih]; omega
theorem sumN_mul {α : Type} (l : List α) (f : α → Nat) (k : Nat) : sumN l (fun x => f x * k) = sumN l f * k := by
  induction l with
  | nil => simp [sumN]
  | cons x l ih => rw [sumN_cons, sumN_cons, ih, Nat.add_mul]
theorem sumN_mul' {α : Type} (l : List α) (f : α → Nat) (k : Nat) : sumN l (fun x => k * f x) = k * sumN l f := by
  induction l with
  | nil => simp [sumN]
  | cons x l ih => rw [sumN_cons, sumN_cons, ih, Nat.mul_add]
theorem sumN_comm {α β : Type} (l : List α) (m : List β) (f : α → β → Nat) : sumN l (fun x => sumN m fun y => f x y) = sumN m fun y => sumN l fun x => f x y := by
  induction l with
  | nil => rw [sumN_nil, sumN_zero (fun y _ => sumN_nil _)]
  | cons x l ih =>
    rw [sumN_cons, ih, ← sumN_add]
    refine sumN_congr fun y _ => ?_
    rw [sumN_cons]
theorem sumN_pos {α : Type} {l : List α} {f : α → Nat} : 0 < sumN l f ↔ ∃ x ∈ l, 0 < f x := by
  induction l with
  | nil => simp [sumN]
  | cons x l ih =>
    rw [sumN_cons]
    constructor
    · intro h
      by_cases hx : 0 < f x
      · exact ⟨x, List.mem_cons_self, hx⟩
      · obtain ⟨y, hy, h2⟩ := ih.1 (by omega)
        exact ⟨y, List.mem_cons_of_mem _ hy, h2⟩
    · rintro ⟨y, hy, h⟩
      rcases List.mem_cons.1 hy with rfl | hy
      · omega
      · have := ih.2 ⟨y, hy, h⟩; omega
theorem sumN_perm {α : Type} {l m : List α} (h : l.Perm m) (f : α → Nat) : sumN l f = sumN m f := by
  unfold sumN
  exact (h.map f).sum_nat
theorem sumN_map {α β : Type} (l : List α) (g : α → β) (f : β → Nat) : sumN (l.map g) f = sumN l fun x => f (g x) := by unfold sumN; rw [List.map_map]; rfl
theorem sumN_filter {α : Type} (l : List α) (p : α → Bool) (f : α → Nat) : sumN (l.filter p) f = sumN l fun x => if p x = true then f x else 0 := by
  induction l with
  | nil => rfl
  | cons x l ih =>
    rw [List.filter_cons, sumN_cons, ← ih]
    split
    · rw [sumN_cons]
    · rw [Nat.zero_add]
theorem sumN_one {α : Type} [DecidableEq α] {l : List α} (hn : l.Nodup) {a : α} (ha : a ∈ l) (k : Nat) : sumN l (fun x => if x = a then k else 0) = k := by
  induction l with
  | nil => cases ha
  | cons x l ih =>
    obtain ⟨h1, h2⟩ := List.nodup_cons.1 hn
    rw [sumN_cons]
    by_cases hx : x = a
    · subst hx
      rw [if_pos rfl, sumN_zero (fun y hy => if_neg (fun e : y = x => h1 (e ▸ hy)))]
      rfl
    · rw [if_neg hx, ih h2 ((List.mem_cons.1 ha).resolve_left (fun e => hx e.symm)), Nat.zero_add]
def incL (below : Nat) : Nat → Nat → List (List Int)
  | 0, _ => [[]]
  | m + 1, fr => (List.range (below - fr)).flatMap fun d => (incL below m (fr + d + 1)).map (((fr + d : Nat) : Int) :: ·)
theorem mem_incL {below : Nat} : ∀ (m fr : Nat) (l : List Int), l ∈ incL below m fr ↔ l.length = m ∧ upB l = true ∧ ∀ x ∈ l, (fr : Int) ≤ x ∧ x < (below : Int)
  | 0, fr, l => by
    rw [incL, List.mem_singleton]
    constructor
    · rintro rfl; exact ⟨rfl, rfl, fun x hx => by cases hx⟩
    · rintro ⟨h, _⟩; exact List.length_eq_zero_iff.1 h
  | m + 1, fr, l => by
    rw [incL]
    simp only [List.mem_flatMap, List.mem_range, List.mem_map]
    constructor
    · rintro ⟨d, hd, v, hv, rfl⟩
      obtain ⟨h1, h2, h3⟩ := (mem_incL m _ v).1 hv
      refine ⟨by simp [h1], ?_, fun x hx => ?_⟩
      · rw [upB_iff, List.pairwise_cons]
        exact ⟨fun y hy => by have := h3 y hy; push_cast at this ⊢; omega, upB_iff.1 h2⟩
      · rcases List.mem_cons.1 hx with rfl | hx
        · push_cast; omega
        · have := h3 x hx; push_cast at this; omega
    · rintro ⟨h1, h2, h3⟩
      cases l with
      | nil => simp at h1
      | cons y v =>
        have hy := h3 y List.mem_cons_self
        obtain ⟨q1, q2⟩ := List.pairwise_cons.1 (upB_iff.1 h2)
        refine ⟨y.toNat - fr, by omega, v, (mem_incL m _ v).2 ⟨by simpa using h1, upB_iff.2 q2, fun x hx => ?_⟩, ?_⟩
        · have a := q1 x hx
          have b := h3 x (List.mem_cons_of_mem _ hx)
          push_cast
          omega
        · congr 1
          omega
theorem incL_nodup {below : Nat} : ∀ (m fr : Nat), (incL below m fr).Nodup
  | 0, fr => by simp [incL]
  | m + 1, fr => by
    rw [incL]
    refine nodup_flatMap' List.nodup_range (fun d _ => nodup_map' (incL_nodup m _) (fun a _ b _ h => by simpa using h)) ?_
    intro d _ e _ w h1 h2
    obtain ⟨v, _, rfl⟩ := List.mem_map.1 h1
    obtain ⟨v', _, he⟩ := List.mem_map.1 h2
    injection he with he _
    omega
theorem incL_len {below : Nat} : ∀ (m fr : Nat), (incL below m fr).length ≤ below ^ m
  | 0, fr => by simp [incL]
  | m + 1, fr => by
    rw [incL, List.length_flatMap]
    have h := sum_le (fun d => ((incL below m (fr + d + 1)).map (((fr + d : Nat) : Int) :: ·)).length) (below ^ m) (List.range (below - fr)) (fun d _ => by rw [List.length_map]; exact incL_len m _)
    rw [List.length_range] at h
    have h2 := Nat.mul_le_mul_right (below ^ m) (show below - fr ≤ below by omega)
    rw [Nat.pow_succ, Nat.mul_comm]
    omega
def LL (c : Channel) : List (List Int) := incL c.cells.toNat c.fords.length 0
theorem mem_LL {c : Channel} (hc : 0 ≤ c.cells) {l : List Int} : l ∈ LL c ↔ rowB c l = true := by
  unfold LL
  rw [mem_incL, rowB_iff]
  constructor
  · rintro ⟨h1, h2, h3⟩; exact ⟨h1, h2, fun x hx => by have := h3 x hx; push_cast at this; omega⟩
  · rintro ⟨h1, h2, h3⟩; exact ⟨h1, h2, fun x hx => by have := h3 x hx; push_cast; omega⟩
theorem LL_nodup (c : Channel) : (LL c).Nodup := incL_nodup _ _
theorem LL_len {c : Channel} (r : Right c) : (LL c).length ≤ 1000 := by
  have hc := r.cells
  have hf := r.fords
  refine Nat.le_trans (incL_len _ _) ?_
  have h1 : c.cells.toNat ^ c.fords.length ≤ 10 ^ c.fords.length := Nat.pow_le_pow_left (by omega) _
  have h2 : 10 ^ c.fords.length ≤ 10 ^ 3 := Nat.pow_le_pow_right (by omega) (by omega)
  omega
def stL (k : Nat) (l : List Int) : State := ⟨(k : Int), mkCells l⟩
theorem nxS_perm {c : Channel} (r : Right c) {k : Nat} {a : List Int} (ha : rowB c a = true) : (nxS c (stL k a)).Perm (((LL c).filter fun l => canB c.sands a l).map (stL (k + 1))) := by
  have hc := r.cells
  have hf := r.fords
  refine (List.perm_ext_iff_of_nodup (nxS_nodup r _) (nodup_map' ((LL_nodup c).filter _) (fun x hx y hy h => ?_))).2 (fun t => ?_)
  · have hx' := (rowB_iff.1 ((mem_LL (by omega)).1 (List.mem_filter.1 hx).1)).1
    have hy' := (rowB_iff.1 ((mem_LL (by omega)).1 (List.mem_filter.1 hy).1)).1
    simp only [stL, State.mk.injEq, true_and] at h
    exact mkCells_inj (by omega) (by omega) h
  · rw [nxS_mem r, List.mem_map]
    constructor
    · rintro ⟨l, h, rfl⟩
      have hr := row_of_can h
      exact ⟨l, List.mem_filter.2 ⟨(mem_LL (by omega)).2 hr, (can_iff r ha hr).2 h⟩, by simp [stL]⟩
    · rintro ⟨l, h, rfl⟩
      obtain ⟨h1, h2⟩ := List.mem_filter.1 h
      exact ⟨l, (can_iff r ha ((mem_LL (by omega)).1 h1)).1 h2, by simp [stL]⟩
def FcL (cnt : Nat → Bool) (c : Channel) : Nat → List Int → Nat
  | 0, l => if agP cnt c.sights 0 l = true ∧ l = c.fords then 1 else 0
  | k + 1, l => if agP cnt c.sights ((k + 1 : Nat) : Int) l = true then sumN (LL c) fun a => if canB c.sands a l = true then FcL cnt c k a else 0 else 0
theorem agS_stL {cnt : Nat → Bool} {c : Channel} (r : Right c) {k : Nat} {l : List Int} (h : rowB c l = true) : agS cnt c (stL k l) = agP cnt c.sights (k : Int) l := by
  have hf := r.fords
  have h1 := (rowB_iff.1 h).1
  unfold agS stL
  simp only
  rw [← h1, clS_mk (by omega)]
theorem R_stL {cnt : Nat → Bool} {c : Channel} (r : Right c) {j k : Nat} {a : List Int} (ha : rowB c a = true) : R (nxS c) (agS cnt c) (j + 1) (stL k a) = if agP cnt c.sights (k : Int) a = true then sumN (LL c) fun l => if canB c.sands a l = true then R (nxS c) (agS cnt c) j (stL (k + 1) l) else 0 else 0 := by
  rw [R, agS_stL r ha]
  by_cases h : agP cnt c.sights (k : Int) a = true
  · rw [if_pos h, if_pos h]
    show sumN (nxS c (stL k a)) _ = _
    rw [sumN_perm (nxS_perm r ha), sumN_map, sumN_filter]
  · rw [if_neg h, if_neg h]
theorem FcL_ag {cnt : Nat → Bool} {c : Channel} {k : Nat} {l : List Int} (h : ¬ agP cnt c.sights (k : Int) l = true) : FcL cnt c k l = 0 := by
  cases k with
  | zero => rw [FcL, if_neg (fun q => h q.1)]
  | succ k => rw [FcL, if_neg h]
theorem FcL_sum {cnt : Nat → Bool} {c : Channel} (r : Right c) : ∀ (k j : Nat), sumN (LL c) (fun l => FcL cnt c k l * R (nxS c) (agS cnt c) j (stL k l)) = R (nxS c) (agS cnt c) (k + j) (first c)
  | 0, j => by
    have hc := r.cells
    have hfr : rowB c c.fords = true := rowB_iff.2 ⟨rfl, r.up, r.fcell⟩
    have e : sumN (LL c) (fun l => FcL cnt c 0 l * R (nxS c) (agS cnt c) j (stL 0 l)) = sumN (LL c) (fun l => if l = c.fords then R (nxS c) (agS cnt c) j (first c) else 0) := by
      refine sumN_congr fun l hl => ?_
      by_cases h : l = c.fords
      · subst h
        rw [if_pos rfl, FcL]
        by_cases h2 : agP cnt c.sights 0 c.fords = true
        · rw [if_pos ⟨h2, rfl⟩, Nat.one_mul]; rfl
        · rw [if_neg (fun q => h2 q.1), Nat.zero_mul]
          have h3 : ¬ 0 < R (nxS c) (agS cnt c) j (first c) := fun q => by
            have := R_ag q
            rw [show first c = stL 0 c.fords from rfl, agS_stL r hfr] at this
            exact h2 this
          omega
      · rw [if_neg h, FcL, if_neg (fun q => h q.2), Nat.zero_mul]
    rw [e, sumN_one (LL_nodup c) ((mem_LL (by omega)).2 hfr), Nat.zero_add]
  | k + 1, j => by
    have hc := r.cells
    have ih := FcL_sum (cnt := cnt) r k (j + 1)
    rw [show k + 1 + j = k + (j + 1) by omega, ← ih]
    have e1 : sumN (LL c) (fun l => FcL cnt c (k + 1) l * R (nxS c) (agS cnt c) j (stL (k + 1) l)) = sumN (LL c) (fun l => sumN (LL c) fun a => (if canB c.sands a l = true then FcL cnt c k a else 0) * R (nxS c) (agS cnt c) j (stL (k + 1) l)) := by
      refine sumN_congr fun l hl => ?_
      rw [sumN_mul, FcL]
      by_cases h : agP cnt c.sights ((k + 1 : Nat) : Int) l = true
      · rw [if_pos h]
      · rw [if_neg h, Nat.zero_mul]
        have h3 : ¬ 0 < R (nxS c) (agS cnt c) j (stL (k + 1) l) := fun q => by
          have := R_ag q
          rw [agS_stL r ((mem_LL (by omega)).1 hl)] at this
          exact h this
        rw [Nat.eq_zero_of_not_pos h3, Nat.mul_zero]
    rw [e1, sumN_comm]
    refine sumN_congr fun a ha => ?_
    rw [R_stL r ((mem_LL (by omega)).1 ha)]
    by_cases h : agP cnt c.sights (k : Int) a = true
    · rw [if_pos h, ← sumN_mul']
      refine sumN_congr fun l _ => ?_
      split
      · rfl
      · rw [Nat.zero_mul, Nat.mul_zero]
    · rw [if_neg h, Nat.mul_zero]
      refine sumN_zero fun l _ => ?_
      rw [FcL_ag h]
      split <;> rw [Nat.zero_mul]
end Go.Proofs.Wb

namespace Go.Proofs.Wb
open Go Go.Fw Go.Gx Go.Sb
set_option linter.unusedVariables false
set_option maxRecDepth 100000
theorem FcL_le {cnt : Nat → Bool} {c : Channel} (r : Right c) : ∀ k l, FcL cnt c k l ≤ 1000 ^ k
  | 0, l => by rw [FcL]; split <;> simp
  | k + 1, l => by
    rw [FcL]
    split
    · have h1 := sum_le (fun a => if canB c.sands a l = true then FcL cnt c k a else 0) (1000 ^ k) (LL c) (fun a _ => by
        split
        · exact FcL_le r k a
        · exact Nat.zero_le _)
      have h2 := Nat.mul_le_mul_right (1000 ^ k) (LL_len r)
      unfold sumN
      rw [Nat.pow_succ, Nat.mul_comm]
      omega
    · exact Nat.zero_le _
theorem FcL_bnd {cnt : Nat → Bool} {c : Channel} (r : Right c) {k : Nat} (hk : k ≤ 4) (l : List Int) : FcL cnt c k l ≤ 1000000000000 := by
  have h := FcL_le (cnt := cnt) r k l
  have h2 : (1000 : Nat) ^ k ≤ 1000 ^ 4 := Nat.pow_le_pow_right (by omega) hk
  have e4 : (1000 : Nat) ^ 4 = 1000000000000 := by decide
  omega
def li (c : Channel) (i : Nat) : List Int := (LL c).getD i []
theorem sumN_li {c : Channel} (f : List Int → Nat) : sumN (LL c) f = sumN (List.range (LL c).length) fun i => f (li c i) := by
  rw [show (fun i => f (li c i)) = fun i => f ((LL c).getD i []) from rfl, ← sumN_map (List.range (LL c).length) (fun i => (LL c).getD i []) f, range_getD]
theorem sumN_range_le (f : Nat → Nat) (B n : Nat) (h : ∀ i, f i ≤ B) : sumN (List.range n) f ≤ n * B := by
  have := sum_le f B (List.range n) (fun x _ => h x)
  rw [List.length_range] at this
  exact this
end Go.Proofs.Wb

namespace Go.Proofs.Wb
open Go Go.Fw Go.Gx Go.Sb
set_option linter.unusedVariables false
set_option maxRecDepth 100000
abbrev tt : Nat → Bool := fun _ => true
def onB (c : Channel) (k : Nat) (l : List Int) : Bool := decide (0 < FcL tt c k l) && decide (0 < R (nxS c) (agS tt c) (c.tides.toNat - k) (stL k l))
theorem FcL_succ_pos {c : Channel} {k : Nat} {l : List Int} : 0 < FcL tt c (k + 1) l ↔ agP tt c.sights ((k + 1 : Nat) : Int) l = true ∧ ∃ a ∈ LL c, canB c.sands a l = true ∧ 0 < FcL tt c k a := by
  rw [FcL]
  by_cases h : agP tt c.sights ((k + 1 : Nat) : Int) l = true
  · rw [if_pos h, sumN_pos]
    constructor
    · rintro ⟨a, ha, h2⟩
      split at h2
      · rename_i hc; exact ⟨h, a, ha, hc, h2⟩
      · omega
    · rintro ⟨_, a, ha, hc, h2⟩
      exact ⟨a, ha, by rw [if_pos hc]; exact h2⟩
  · rw [if_neg h]
    constructor
    · intro q; omega
    · rintro ⟨q, _⟩; exact absurd q h
theorem FcL_pos_ag {c : Channel} {k : Nat} {l : List Int} (h : 0 < FcL tt c k l) : agP tt c.sights (k : Int) l = true := by
  cases hq : agP tt c.sights (k : Int) l with
  | true => rfl
  | false => rw [FcL_ag (by rw [hq]; decide)] at h; omega
theorem R_stL_pos {c : Channel} (r : Right c) {j k : Nat} {a : List Int} (ha : rowB c a = true) : 0 < R (nxS c) (agS tt c) (j + 1) (stL k a) ↔ agP tt c.sights (k : Int) a = true ∧ ∃ l ∈ LL c, canB c.sands a l = true ∧ 0 < R (nxS c) (agS tt c) j (stL (k + 1) l) := by
  rw [R_stL r ha]
  by_cases h : agP tt c.sights (k : Int) a = true
  · rw [if_pos h, sumN_pos]
    constructor
    · rintro ⟨l, hl, h2⟩
      split at h2
      · rename_i hc; exact ⟨h, l, hl, hc, h2⟩
      · omega
    · rintro ⟨_, l, hl, hc, h2⟩
      exact ⟨l, hl, by rw [if_pos hc]; exact h2⟩
  · rw [if_neg h]
    constructor
    · intro q; omega
    · rintro ⟨q, _⟩; exact absurd q h
theorem stL_of {c : Channel} (r : Right c) {s : State} {k : Nat} (h : VS c s) (hk : s.after = (k : Int)) : ∃ a ∈ LL c, s = stL k a := by
  have hc := r.cells
  obtain ⟨⟨l, h1, h2⟩, _⟩ := h
  obtain ⟨x, y⟩ := s
  simp only at hk h2
  exact ⟨l, (mem_LL (by omega)).2 h1, by rw [hk, h2]; rfl⟩
theorem mem_nx_stL {c : Channel} (r : Right c) {k : Nat} {a l : List Int} (ha : rowB c a = true) (hl : rowB c l = true) : stL (k + 1) l ∈ nxS c (stL k a) ↔ canB c.sands a l = true := by
  have hf := r.fords
  rw [nxS_mem r, can_iff r ha hl]
  constructor
  · rintro ⟨l', h, e⟩
    simp only [stL, State.mk.injEq] at e
    have := mkCells_inj (l := l) (m := l') (by rw [h.len]; exact (rowB_iff.1 hl).1) (by have := (rowB_iff.1 hl).1; omega) e.2
    rw [this]; exact h
  · intro h
    exact ⟨l, h, by simp [stL]⟩
theorem on_V {c : Channel} (r : Right c) : ∀ (k : Nat), (k : Int) ≤ c.tides → ∀ t, On (nxS c) (agS tt c) k c.tides.toNat (first c) t → VS c t ∧ t.after = (k : Int)
  | 0, _, t, h => by
    obtain ⟨rfl, _⟩ := on_zero.1 h
    exact ⟨first_V r, rfl⟩
  | k + 1, hk, t, h => by
    obtain ⟨u, h1, h2, _⟩ := (on_succ (by omega)).1 h
    obtain ⟨v1, v2⟩ := on_V r k (by omega) u h1
    obtain ⟨v3, v4⟩ := nxS_V r v1 (by omega) h2
    exact ⟨v3, by omega⟩
theorem on_iff {c : Channel} (r : Right c) : ∀ (k : Nat), (k : Int) ≤ c.tides → ∀ l, rowB c l = true → (On (nxS c) (agS tt c) k c.tides.toNat (first c) (stL k l) ↔ onB c k l = true)
  | 0, _, l, hl => by
    have hf := r.fords
    have h1 := (rowB_iff.1 hl).1
    unfold onB
    rw [on_zero, Bool.and_eq_true, decide_eq_true_eq, decide_eq_true_eq, FcL, Nat.sub_zero]
    constructor
    · rintro ⟨e, h2⟩
      have e2 : l = c.fords := by
        simp only [stL, first, State.mk.injEq] at e
        exact mkCells_inj (by omega) (by omega) e.2
      subst e2
      have hag := R_ag h2
      rw [show first c = stL 0 c.fords from rfl, agS_stL r hl] at hag
      exact ⟨by rw [if_pos ⟨hag, rfl⟩]; omega, h2⟩
    · rintro ⟨h2, h3⟩
      split at h2
      · rename_i q
        obtain ⟨_, q⟩ := q
        subst q
        exact ⟨rfl, h3⟩
      · omega
  | k + 1, hk, l, hl => by
    have hc := r.cells
    unfold onB
    rw [on_succ (by omega), Bool.and_eq_true, decide_eq_true_eq, decide_eq_true_eq, FcL_succ_pos, show c.tides.toNat - (k + 1) = c.tides.toNat - k - 1 by omega]
    constructor
    · rintro ⟨u, h1, h2, h3⟩
      obtain ⟨v1, v2⟩ := on_V r k (by omega) u h1
      obtain ⟨a, ha, rfl⟩ := stL_of r v1 v2
      have ha' := (mem_LL (by omega)).1 ha
      have h4 := (on_iff r k (by omega) a ha').1 h1
      unfold onB at h4
      rw [Bool.and_eq_true, decide_eq_true_eq] at h4
      have hag := R_ag h3
      rw [agS_stL r hl] at hag
      exact ⟨⟨hag, a, ha, (mem_nx_stL r ha' hl).1 h2, h4.1⟩, h3⟩
    · rintro ⟨⟨hag, a, ha, h1, h2⟩, h3⟩
      have ha' := (mem_LL (by omega)).1 ha
      refine ⟨stL k a, (on_iff r k (by omega) a ha').2 ?_, (mem_nx_stL r ha' hl).2 h1, h3⟩
      unfold onB
      rw [Bool.and_eq_true, decide_eq_true_eq, decide_eq_true_eq, show c.tides.toNat - k = (c.tides.toNat - k - 1) + 1 by omega, R_stL_pos r ha']
      exact ⟨h2, FcL_pos_ag h2, l, (mem_LL (by omega)).2 hl, h1, h3⟩
end Go.Proofs.Wb

namespace Go.Proofs.Wb
open Go Go.Fw Go.Gx Go.Sb
set_option linter.unusedVariables false
set_option maxRecDepth 100000
theorem asc_ext {l m : List Int} (hl : l.Pairwise (· < ·)) (hm : m.Pairwise (· < ·)) (h : ∀ x, x ∈ l ↔ x ∈ m) : l = m := by
  refine List.Perm.eq_of_pairwise (le := fun x y : Int => x < y) (fun a b _ _ h1 h2 => by omega) hl hm ?_
  exact (List.perm_ext_iff_of_nodup (hl.imp (fun h => by omega)) (hm.imp (fun h => by omega))).2 h
theorem sorted_get {l : List Int} (h : l.Pairwise (· ≤ ·)) {i j : Nat} (hij : i ≤ j) (hj : j < l.length) : l.getD i 0 ≤ l.getD j 0 := by
  rcases Nat.lt_or_eq_of_le hij with h1 | h1
  · have := List.pairwise_iff_getElem.1 h i j (by omega) hj h1
    simpa [List.getD_eq_getElem?_getD, hj, (show i < l.length by omega)] using this
  · subst h1; exact Int.le_refl _
theorem cmp_get {l : List Int} {j : Nat} (hj : j < l.length) : l.toArray[j]! = l.getD j 0 := by
  simp [List.getD_eq_getElem?_getD, hj]
theorem compact_asc {l : List Int} (h : l.Pairwise (· ≤ ·)) : (Go.Lib.compact l).Pairwise (· < ·) := by
  unfold Go.Lib.compact Go.Lib.compactUpTo
  rw [List.pairwise_map, List.pairwise_filter]
  refine List.Pairwise.imp_of_mem ?_ (List.pairwise_lt_range (n := l.length))
  intro i j hi hj hij ki kj
  have hj' : j < l.length := by simpa using hj
  have hi' : i < l.length := by simpa using hi
  rw [cmp_get hi', cmp_get hj']
  have k2 : l.getD j 0 ≠ l.getD (j - 1) 0 := by
    unfold Go.Lib.keeps at kj
    rw [decide_eq_true_eq, cmp_get hj', cmp_get (by omega)] at kj
    exact kj.resolve_left (by omega)
  have h1 := sorted_get h (show i ≤ j - 1 by omega) (by omega)
  have h2 := sorted_get h (show j - 1 ≤ j by omega) hj'
  omega
theorem compact_mem {l : List Int} {x : Int} : x ∈ Go.Lib.compact l ↔ x ∈ l := by
  unfold Go.Lib.compact Go.Lib.compactUpTo
  simp only [List.mem_map, List.mem_filter, List.mem_range]
  constructor
  · rintro ⟨i, ⟨hi, _⟩, rfl⟩
    rw [cmp_get hi]
    exact getD_mem hi
  · intro hx
    obtain ⟨i, hi, rfl⟩ := List.getElem_of_mem hx
    have key : ∀ n i, i ≤ n → (hi : i < l.length) → ∃ j, (j < l.length ∧ Go.Lib.keeps l.toArray j = true) ∧ l.toArray[j]! = l[i] := by
      intro n
      induction n with
      | zero =>
        intro i h0 hi
        obtain rfl : i = 0 := by omega
        exact ⟨0, ⟨hi, by simp [Go.Lib.keeps]⟩, by simp [hi]⟩
      | succ n ih =>
        intro i h0 hi
        by_cases hk : Go.Lib.keeps l.toArray i = true
        · exact ⟨i, ⟨hi, hk⟩, by simp [hi]⟩
        · have h1 : ¬ (i = 0 ∨ l.toArray[i]! ≠ l.toArray[i - 1]!) := by
            intro q
            exact hk (by unfold Go.Lib.keeps; rw [decide_eq_true_eq]; exact q)
          have h2 : i ≠ 0 := fun q => h1 (.inl q)
          have h3 : l.toArray[i]! = l.toArray[i - 1]! := by
            by_cases q : l.toArray[i]! = l.toArray[i - 1]!
            · exact q
            · exact absurd (.inr q) h1
          obtain ⟨j, h4, h5⟩ := ih (i - 1) (by omega) (by omega)
          refine ⟨j, h4, ?_⟩
          rw [h5]
          have e1 : l.toArray[i]! = l[i] := by simp [hi]
          have e2 : l.toArray[i - 1]! = l[i - 1] := by simp [(show i - 1 < l.length by omega)]
          rw [← e1, h3, e2]
    exact key i i (Nat.le_refl _) hi
theorem filtL_asc {p : Nat → Bool} {n : Nat} : (filtL p n).Pairwise (· < ·) := by
  unfold filtL
  rw [List.pairwise_map]
  refine ((List.pairwise_lt_range (n := n)).filter p).imp ?_
  intro a b h
  omega
theorem mem_filtL {p : Nat → Bool} {n : Nat} {x : Int} : x ∈ filtL p n ↔ 0 ≤ x ∧ x < (n : Int) ∧ p x.toNat = true := by
  unfold filtL
  simp only [List.mem_map, List.mem_filter, List.mem_range]
  constructor
  · rintro ⟨i, ⟨hi, hp⟩, rfl⟩
    exact ⟨by omega, by omega, by simpa using hp⟩
  · rintro ⟨h0, h1, hp⟩
    exact ⟨x.toNat, ⟨by omega, hp⟩, by omega⟩
def whereL (c : Channel) (k i : Nat) : List Int := filtL (fun x => (LL c).any fun l => onB c k l && decide (l.getD i (-1) = (x : Int))) c.cells.toNat
def sureL (c : Channel) (k : Nat) : List Int := filtL (fun x => (LL c).all fun l => !onB c k l || decide ((x : Int) ∈ l)) c.cells.toNat
def bareL (c : Channel) (k : Nat) : List Int := filtL (fun x => (LL c).all fun l => !onB c k l || !decide ((x : Int) ∈ l)) c.cells.toNat
theorem lev_iff {c : Channel} (r : Right c) {L : List (List State)} (hL : Levs c L) {k : Nat} (hk : (k : Int) ≤ c.tides) {s : State} : s ∈ L.getD k [] ↔ ∃ l ∈ LL c, s = stL k l ∧ onB c k l = true := by
  have hc := r.cells
  rw [hL.mem k hk]
  constructor
  · intro h
    obtain ⟨v1, v2⟩ := on_V r k hk s h
    obtain ⟨l, hl, rfl⟩ := stL_of r v1 v2
    exact ⟨l, hl, rfl, (on_iff r k hk l ((mem_LL (by omega)).1 hl)).1 h⟩
  · rintro ⟨l, hl, rfl, h⟩
    exact (on_iff r k hk l ((mem_LL (by omega)).1 hl)).2 h
theorem levs_ix {c : Channel} (r : Right c) {L : List (List State)} (hL : Levs c L) {k : Int} (h0 : 0 ≤ k) (hk : k ≤ c.tides) : ix L k = some (L.getD k.toNat []) := ix_eq [] h0 (by have := hL.len; omega)
theorem cells_loop {l : List State} {i : Nat} (hi : i < 3) (hl : l.length ≤ 1000000000000) : iterM FU (yJ l (i : Int)) ⟨0, []⟩ = some (l.map fun s => cGet s.at_ i) := by
  have key := iterM_run (f := yJ l (i : Int)) (fun j => ⟨(j : Int), (l.take j).map fun s => cGet s.at_ i⟩) l.length (b := l.map fun s => cGet s.at_ i) (fun j hj => ?_) ?_ FU (FU_lt2 (by omega))
  · exact key
  · have e : l.take (j + 1) = l.take j ++ [l[j]] := by rw [List.take_append_getElem]
    have hx : l.getD j default = l[j] := by simp [List.getD_eq_getElem?_getD, hj]
    unfold yJ
    simp only
    rw [if_pos (by omega), ix_nat default hj, Option.bind_some, hx, ix3 hi, Option.bind_some, appc_eq (by simp; omega), Option.bind_some, addc_eq (by omega), Option.bind_some, e, List.map_append]
    rfl
  · unfold yJ
    simp only
    rw [if_neg (by omega), List.take_length]
theorem whereL_prog {c : Channel} (r : Right c) {L : List (List State)} (hL : Levs c L) {k i : Nat} (hk : (k : Int) ≤ c.tides) (hi : i < c.fords.length) : Go.Lib.compact (sortI ((L.getD k []).map fun s => cGet s.at_ i)) = whereL c k i := by
  have hc := r.cells
  have hf := r.fords
  refine asc_ext (compact_asc (sortI_sorted _)) filtL_asc (fun x => ?_)
  rw [compact_mem, mem_sortI, List.mem_map]
  unfold whereL
  rw [mem_filtL, List.any_eq_true]
  constructor
  · rintro ⟨s, hs, rfl⟩
    obtain ⟨l, hl, rfl, ho⟩ := (lev_iff r hL hk).1 hs
    have hr := rowB_iff.1 ((mem_LL (by omega)).1 hl)
    have e : cGet (stL k l).at_ i = l.getD i (-1) := cGet_mk (by omega)
    have hm := hr.2.2 _ (getD_mem (l := l) (i := i) (d := -1) (by omega))
    rw [e]
    refine ⟨hm.1, by omega, l, hl, ?_⟩
    rw [ho, Bool.true_and, decide_eq_true_eq]
    omega
  · rintro ⟨h0, h1, l, hl, h⟩
    rw [Bool.and_eq_true, decide_eq_true_eq] at h
    refine ⟨stL k l, (lev_iff r hL hk).2 ⟨l, hl, rfl, h.1⟩, ?_⟩
    rw [show cGet (stL k l).at_ i = l.getD i (-1) from cGet_mk (by omega), h.2]
    omega
theorem ZO {c : Channel} (h : Few c) (k i : Int) : q9 c k i = some (if chk c = 0 then (if inb k 0 c.tides = true then (if inb i 0 ((c.fords.length : Int) - 1) = true then (if cntS tt c = 0 then ⟨7, []⟩ else ⟨0, whereL c k.toNat i.toNat⟩) else ⟨1, []⟩) else ⟨3, []⟩) else ⟨chk c, []⟩) := by
  unfold q9
  rw [Qc, Option.bind_some]
  by_cases h0 : chk c = 0
  · have r := rightOf h0
    have hf := r.fords
    rw [if_pos h0, if_pos h0, Qb, Option.bind_some, not_true_if]
    by_cases h1 : inb k 0 c.tides = true
    · rw [if_pos h1, if_pos h1, subc_eq (by omega), Option.bind_some, Q8, Option.bind_some, not_true_if]
      by_cases h2 : inb i 0 ((c.fords.length : Int) - 1) = true
      · rw [if_pos h2, if_pos h2]
        obtain ⟨L, e, hL⟩ := Qo h
        rw [e, Option.bind_some, if_pos h0]
        by_cases h3 : cntS tt c = 0
        · rw [if_pos h3, if_pos h3, oc_inl]
        · rw [if_neg h3, if_neg h3, oc_inr]
          have hL' := hL h0 h3
          have k1 := inb_iff.1 h1
          have i1 := inb_iff.1 h2
          rw [levs_ix r hL' k1.1 k1.2, Option.bind_some, show i = ((i.toNat : Nat) : Int) by omega, cells_loop (by omega) (hL'.bnd _ (by omega)), Option.bind_some]
          have hlen := hL'.bnd k.toNat (by omega)
          unfold Km
          rw [if_pos (by rw [List.length_map]; omega), Option.bind_some]
          unfold yp
          rw [if_pos (by rw [sortI_length, List.length_map]; omega), Option.bind_some, whereL_prog r hL' (by omega) (by omega), Int.toNat_natCast]
      · rw [if_neg h2, if_neg h2]
    · rw [if_neg h1, if_neg h1]
  · rw [if_neg h0, if_neg h0]
end Go.Proofs.Wb

namespace Go.Proofs.Wb
open Go Go.Fw Go.Gx Go.Sb
set_option linter.unusedVariables false
set_option maxRecDepth 100000
def cntX (c : Channel) (l : List State) (x : Nat) : Nat := (l.filter fun s => decide ((x : Int) ∈ clS c.fords.length s)).length
theorem cntX_all {c : Channel} {l : List State} {x : Nat} : decide ((cntX c l x : Int) = (l.length : Int)) = l.all fun s => decide ((x : Int) ∈ clS c.fords.length s) := by
  unfold cntX
  rw [Bool.eq_iff_iff, decide_eq_true_eq, List.all_eq_true]
  have := List.length_filter_eq_length_iff (l := l) (p := fun s => decide ((x : Int) ∈ clS c.fords.length s))
  rw [← this]
  omega
theorem cntX_none {c : Channel} {l : List State} {x : Nat} : decide ((cntX c l x : Int) = 0) = l.all fun s => !decide ((x : Int) ∈ clS c.fords.length s) := by
  unfold cntX
  rw [Bool.eq_iff_iff, decide_eq_true_eq, List.all_eq_true]
  constructor
  · intro h s hs
    have h2 : l.filter (fun s => decide ((x : Int) ∈ clS c.fords.length s)) = [] := List.length_eq_zero_iff.1 (by omega)
    have h3 := List.filter_eq_nil_iff.1 h2 s hs
    cases hq : decide ((x : Int) ∈ clS c.fords.length s) with
    | true => exact absurd hq h3
    | false => rfl
  · intro h
    have : l.filter (fun s => decide ((x : Int) ∈ clS c.fords.length s)) = [] := by
      rw [List.filter_eq_nil_iff]
      intro s hs hq
      have := h s hs
      rw [hq] at this
      exact absurd this (by decide)
    rw [this]
    rfl
theorem filled_row {c : Channel} (r : Right c) {L : List (List State)} (hL : Levs c L) {k : Nat} (hk : (k : Int) ≤ c.tides) (q : List Int → Bool) : ((L.getD k []).all fun s => q (clS c.fords.length s)) = (LL c).all fun l => !onB c k l || q l := by
  have hc := r.cells
  have hf := r.fords
  have hcl : ∀ l, l ∈ LL c → clS c.fords.length (stL k l) = l := by
    intro l hl
    have h1 := (rowB_iff.1 ((mem_LL (by omega)).1 hl)).1
    unfold stL
    rw [← h1, clS_mk (by omega)]
  rw [Bool.eq_iff_iff, List.all_eq_true, List.all_eq_true]
  constructor
  · intro h l hl
    cases ho : onB c k l with
    | false => rfl
    | true =>
      have := h (stL k l) ((lev_iff r hL hk).2 ⟨l, hl, rfl, ho⟩)
      rw [hcl l hl] at this
      exact this
  · intro h s hs
    obtain ⟨l, hl, rfl, ho⟩ := (lev_iff r hL hk).1 hs
    have := h l hl
    rw [ho] at this
    rw [hcl l hl]
    exact this
theorem filled_L1 {c : Channel} (r : Right c) (L : List (List State)) {l : List State} (hl : l.length ≤ 1000000000000) (x : Nat) (o : List Int) : iterM FU (yo l ⟨c.cells, c.tides, L, rchL c⟩ c ⟨(x : Int), o⟩) ⟨0, 0⟩ = some (cntX c l x : Int) := by
  have hf := r.fords
  have key := iterM_run (f := yo l ⟨c.cells, c.tides, L, rchL c⟩ c ⟨(x : Int), o⟩) (fun j => ⟨(cntX c (l.take j) x : Int), (j : Int)⟩) l.length (b := (cntX c l x : Int)) (fun j hj => ?_) ?_ FU (FU_lt2 (by omega))
  · exact key
  · have e : l.take (j + 1) = l.take j ++ [l[j]] := by rw [List.take_append_getElem]
    have hx : l.getD j default = l[j] := by simp [List.getD_eq_getElem?_getD, hj]
    have hb : cntX c (l.take j) x ≤ l.length := by
      unfold cntX
      have := List.length_filter_le (fun s => decide ((x : Int) ∈ clS c.fords.length s)) (l.take j)
      rw [List.length_take] at this
      omega
    have e2 : cntX c (l.take (j + 1)) x = cntX c (l.take j) x + if decide ((x : Int) ∈ clS c.fords.length l[j]) = true then 1 else 0 := by
      unfold cntX
      rw [e, List.filter_append, List.length_append, List.filter_cons, List.filter_nil]
      split <;> rfl
    unfold yo
    simp only
    rw [if_pos (by omega), ix_nat default hj, Option.bind_some, hx, YR (by omega), Option.bind_some, yy (by unfold clS; simp; omega), Option.bind_some, e2]
    cases decide ((x : Int) ∈ clS c.fords.length l[j]) with
    | true => rw [if_pos rfl, if_pos rfl, addc_eq (by omega), Option.bind_some, Option.bind_some, addc_eq (by omega), Option.bind_some]; rfl
    | false => rw [if_neg (by decide), if_neg (by decide), Option.bind_some, addc_eq (by omega), Option.bind_some]; rfl
  · unfold yo
    simp only
    rw [if_neg (by omega), List.take_length]
theorem filled_1_L1 {c : Channel} (r : Right c) (L : List (List State)) {l : List State} (hl : l.length ≤ 1000000000000) (x : Nat) (o : List Int) : iterM FU (qL l ⟨c.cells, c.tides, L, rchL c⟩ c ⟨(x : Int), o⟩) ⟨0, 0⟩ = some (cntX c l x : Int) := by
  have hf := r.fords
  have key := iterM_run (f := qL l ⟨c.cells, c.tides, L, rchL c⟩ c ⟨(x : Int), o⟩) (fun j => ⟨(cntX c (l.take j) x : Int), (j : Int)⟩) l.length (b := (cntX c l x : Int)) (fun j hj => ?_) ?_ FU (FU_lt2 (by omega))
  · exact key
  · have e : l.take (j + 1) = l.take j ++ [l[j]] := by rw [List.take_append_getElem]
    have hx : l.getD j default = l[j] := by simp [List.getD_eq_getElem?_getD, hj]
    have hb : cntX c (l.take j) x ≤ l.length := by
      unfold cntX
      have := List.length_filter_le (fun s => decide ((x : Int) ∈ clS c.fords.length s)) (l.take j)
      rw [List.length_take] at this
      omega
    have e2 : cntX c (l.take (j + 1)) x = cntX c (l.take j) x + if decide ((x : Int) ∈ clS c.fords.length l[j]) = true then 1 else 0 := by
      unfold cntX
      rw [e, List.filter_append, List.length_append, List.filter_cons, List.filter_nil]
      split <;> rfl
    unfold qL
    simp only
    rw [if_pos (by omega), ix_nat default hj, Option.bind_some, hx, YR (by omega), Option.bind_some, yy (by unfold clS; simp; omega), Option.bind_some, e2]
    cases decide ((x : Int) ∈ clS c.fords.length l[j]) with
    | true => rw [if_pos rfl, if_pos rfl, addc_eq (by omega), Option.bind_some, Option.bind_some, addc_eq (by omega), Option.bind_some]; rfl
    | false => rw [if_neg (by decide), if_neg (by decide), Option.bind_some, addc_eq (by omega), Option.bind_some]; rfl
  · unfold qL
    simp only
    rw [if_neg (by omega), List.take_length]
theorem ZX {c : Channel} (h : Few c) (k : Int) : zq c k = some (if chk c = 0 then (if inb k 0 c.tides = true then (if cntS tt c = 0 then ⟨7, []⟩ else ⟨0, sureL c k.toNat⟩) else ⟨3, []⟩) else ⟨chk c, []⟩) := by
  unfold zq JL
  rw [Qc, Option.bind_some]
  by_cases h0 : chk c = 0
  · have r := rightOf h0
    have hc := r.cells
    rw [if_pos h0, if_pos h0, Qb, Option.bind_some, not_true_if]
    by_cases h1 : inb k 0 c.tides = true
    · rw [if_pos h1, if_pos h1]
      obtain ⟨L, e, hL⟩ := Qo h
      rw [e, Option.bind_some, if_pos h0]
      by_cases h3 : cntS tt c = 0
      · rw [if_pos h3, if_pos h3, oc_inl]; rfl
      · rw [if_neg h3, if_neg h3, oc_inr]
        have hL' := hL h0 h3
        have k1 := inb_iff.1 h1
        have hlen := hL'.bnd k.toNat (by omega)
        have hkk : ((k.toNat : Nat) : Int) = k := by omega
        have key := iterM_run (f := yi c ⟨c.cells, c.tides, L, rchL c⟩ k) (fun x => ⟨(x : Int), filtL (fun x => (LL c).all fun l => !onB c k.toNat l || decide ((x : Int) ∈ l)) x⟩) c.cells.toNat (b := sureL c k.toNat) (fun x hx => ?_) ?_ FU (FU_lt (by omega))
        · show ((iterM FU (yi c ⟨c.cells, c.tides, L, rchL c⟩ k) ⟨((0 : Nat) : Int), filtL (fun x => (LL c).all fun l => !onB c k.toNat l || decide ((x : Int) ∈ l)) 0⟩).bind _).bind _ = _
          rw [key]; rfl
        · have hfl := filtL_len (p := fun x => (LL c).all fun l => !onB c k.toNat l || decide ((x : Int) ∈ l)) (k := x)
          unfold yi
          simp only
          rw [if_pos (by omega), levs_ix r hL' k1.1 k1.2, Option.bind_some, filled_L1 r L hlen, Option.bind_some, Option.bind_some]
          unfold JY
          rw [Option.bind_some, cntX_all, filled_row r hL' (by omega) (fun l => decide ((x : Int) ∈ l)), filtL_succ]
          cases ((LL c).all fun l => !onB c k.toNat l || decide ((x : Int) ∈ l)) with
          | true => rw [if_pos rfl, if_pos rfl, appc_eq (by rw [List.length_singleton]; omega), Option.bind_some, Option.bind_some, addc_eq (by omega), Option.bind_some]; rfl
          | false => rw [if_neg (by decide), if_neg (by decide), Option.bind_some, addc_eq (by omega), Option.bind_some]; rfl
        · unfold yi
          simp only
          rw [if_neg (by omega)]
          rfl
    · rw [if_neg h1, if_neg h1]; rfl
  · rw [if_neg h0, if_neg h0]; rfl
theorem Z3 {c : Channel} (h : Few c) (k : Int) : zs c k = some (if chk c = 0 then (if inb k 0 c.tides = true then (if cntS tt c = 0 then ⟨7, []⟩ else ⟨0, bareL c k.toNat⟩) else ⟨3, []⟩) else ⟨chk c, []⟩) := by
  unfold zs z2
  rw [Qc, Option.bind_some]
  by_cases h0 : chk c = 0
  · have r := rightOf h0
    have hc := r.cells
    rw [if_pos h0, if_pos h0, Qb, Option.bind_some, not_true_if]
    by_cases h1 : inb k 0 c.tides = true
    · rw [if_pos h1, if_pos h1]
      obtain ⟨L, e, hL⟩ := Qo h
      rw [e, Option.bind_some, if_pos h0]
      by_cases h3 : cntS tt c = 0
      · rw [if_pos h3, if_pos h3, oc_inl]; rfl
      · rw [if_neg h3, if_neg h3, oc_inr]
        have hL' := hL h0 h3
        have k1 := inb_iff.1 h1
        have hlen := hL'.bnd k.toNat (by omega)
        have hkk : ((k.toNat : Nat) : Int) = k := by omega
        have key := iterM_run (f := qN c ⟨c.cells, c.tides, L, rchL c⟩ k) (fun x => ⟨(x : Int), filtL (fun x => (LL c).all fun l => !onB c k.toNat l || !decide ((x : Int) ∈ l)) x⟩) c.cells.toNat (b := bareL c k.toNat) (fun x hx => ?_) ?_ FU (FU_lt (by omega))
        · show ((iterM FU (qN c ⟨c.cells, c.tides, L, rchL c⟩ k) ⟨((0 : Nat) : Int), filtL (fun x => (LL c).all fun l => !onB c k.toNat l || !decide ((x : Int) ∈ l)) 0⟩).bind _).bind _ = _
          rw [key]; rfl
        · have hfl := filtL_len (p := fun x => (LL c).all fun l => !onB c k.toNat l || !decide ((x : Int) ∈ l)) (k := x)
          unfold qN
          simp only
          rw [if_pos (by omega), levs_ix r hL' k1.1 k1.2, Option.bind_some, filled_1_L1 r L hlen, Option.bind_some, Option.bind_some]
          unfold J0
          rw [Option.bind_some, cntX_none, filled_row r hL' (by omega) (fun l => !decide ((x : Int) ∈ l)), filtL_succ]
          cases ((LL c).all fun l => !onB c k.toNat l || !decide ((x : Int) ∈ l)) with
          | true => rw [if_pos rfl, if_pos rfl, appc_eq (by rw [List.length_singleton]; omega), Option.bind_some, Option.bind_some, addc_eq (by omega), Option.bind_some]; rfl
          | false => rw [if_neg (by decide), if_neg (by decide), Option.bind_some, addc_eq (by omega), Option.bind_some]; rfl
        · unfold qN
          simp only
          rw [if_neg (by omega)]
          rfl
    · rw [if_neg h1, if_neg h1]; rfl
  · rw [if_neg h0, if_neg h0]; rfl
end Go.Proofs.Wb

namespace Go.Proofs.Wb
open Go Go.Fw Go.Gx Go.Sb
set_option maxRecDepth 100000
theorem awake_true : zp = some true := by decide +kernel
end Go.Proofs.Wb

namespace Go.Proofs.Wb
open Go Go.Fw Go.Gx Go.Sb
set_option linter.unusedVariables false
set_option maxRecDepth 100000
theorem ZR {c : Channel} (h : Few c) (s : Sight) : qh c s = some { c with sights := c.sights ++ [s] } := by
  obtain ⟨h1, h2, h3⟩ := h
  unfold qh kY
  rw [Ym (by omega), Option.bind_some, appc_eq (by simp; omega), Option.bind_some, Option.bind_some, addc_eq (by omega), Option.bind_some, makec_eq (by omega), Option.bind_some, if_pos (by simp), Option.bind_some]
  have e : (List.replicate (c.sights.length : Int).toNat (⟨0, 0, false⟩ : Sight)).drop c.sights.length = [] := List.drop_eq_nil_of_le (by simp)
  rw [e, List.append_nil, appc_eq (by simp; omega), Option.bind_some]
  rfl
def zeroC : Channel := ⟨0, 0, [], [], []⟩
theorem Z0 {c : Channel} (h : Few c) (s : Sight) : zr c s = some (if chk c = 0 then (if c.sights.length = 8 then ⟨zeroC, 2⟩ else if inb s.after 0 c.tides = true then (if inb s.cell 0 (c.cells - 1) = true then ⟨{ c with sights := c.sights ++ [s] }, 0⟩ else ⟨zeroC, 1⟩) else ⟨zeroC, 3⟩) else ⟨zeroC, chk c⟩) := by
  unfold zr
  rw [Qc, Option.bind_some]
  by_cases h0 : chk c = 0
  · have r := rightOf h0
    have hc := r.cells
    rw [if_pos h0, if_pos h0]
    by_cases h1 : c.sights.length = 8
    · rw [if_pos (by omega), if_pos h1]; rfl
    · rw [if_neg (by omega), if_neg h1, Qb, Option.bind_some, not_true_if]
      by_cases h2 : inb s.after 0 c.tides = true
      · rw [if_pos h2, if_pos h2, QF (by omega), Option.bind_some, not_true_if]
        by_cases h3 : inb s.cell 0 (c.cells - 1) = true
        · rw [if_pos h3, if_pos h3, ZR h, Option.bind_some]
        · rw [if_neg h3, if_neg h3]; rfl
      · rw [if_neg h2, if_neg h2]; rfl
  · rw [if_neg h0, if_neg h0]; rfl
end Go.Proofs.Wb

namespace Go.Proofs.Wb
open Go Go.Fw Go.Gx Go.Sb
set_option linter.unusedVariables false
set_option maxRecDepth 100000
def WideP (c : Channel) : Prop := (10 < c.fords.length ∨ 10 < c.sands.length ∨ 14 < c.sights.length) ∨ c.fords.length = 3 ∨ (8 < c.cells ∧ c.cells ≤ 10)
instance (c : Channel) : Decidable (WideP c) := by unfold WideP; infer_instance
end Go.Proofs.Wb

namespace Go.Proofs.Wb
open Go Go.Fw Go.Gx Go.Sb
set_option linter.unusedVariables false
set_option maxRecDepth 100000
def knownC (c : Channel) (s : Sight) : Channel := { c with sights := c.sights ++ [s] }
theorem agP_snoc {sg : List Sight} {s : Sight} {k : Int} {l : List Int} : agP tt (sg ++ [s]) k l = (agP tt sg k l && !offS k l s) := by
  unfold agP
  rw [List.length_append, List.length_singleton, List.range_succ, List.any_append]
  have e1 : ((List.range sg.length).any fun i => tt i && offS k l ((sg ++ [s]).getD i default)) = (List.range sg.length).any fun i => tt i && offS k l (sg.getD i default) := by
    rw [Bool.eq_iff_iff, List.any_eq_true, List.any_eq_true]
    constructor
    · rintro ⟨i, hi, h⟩
      have hi' : i < sg.length := by simpa using hi
      refine ⟨i, hi, ?_⟩
      rw [List.getD_eq_getElem?_getD, List.getElem?_append_left hi', ← List.getD_eq_getElem?_getD] at h
      exact h
    · rintro ⟨i, hi, h⟩
      have hi' : i < sg.length := by simpa using hi
      refine ⟨i, hi, ?_⟩
      rw [List.getD_eq_getElem?_getD, List.getElem?_append_left hi', ← List.getD_eq_getElem?_getD]
      exact h
  rw [e1]
  simp [Bool.not_or]
theorem FcL_known {c : Channel} {s : Sight} : ∀ (k : Nat) (l : List Int), (k : Int) < s.after → FcL tt (knownC c s) k l = FcL tt c k l
  | 0, l, h => by
    have e : agP tt (knownC c s).sights 0 l = agP tt c.sights 0 l := by
      show agP tt (c.sights ++ [s]) 0 l = _
      rw [agP_snoc]
      have : offS 0 l s = false := by unfold offS; rw [decide_eq_false (by omega)]; rfl
      rw [this]; simp
    rw [FcL, FcL, e]; rfl
  | k + 1, l, h => by
    have e : agP tt (knownC c s).sights ((k + 1 : Nat) : Int) l = agP tt c.sights ((k + 1 : Nat) : Int) l := by
      show agP tt (c.sights ++ [s]) _ l = _
      rw [agP_snoc]
      have : offS ((k + 1 : Nat) : Int) l s = false := by unfold offS; rw [decide_eq_false (by omega)]; rfl
      rw [this]; simp
    rw [FcL, FcL, e]
    congr 1
    show sumN (LL c) _ = _
    refine sumN_congr fun a _ => ?_
    rw [FcL_known k a (by omega)]
    rfl
theorem FcL_knownT {c : Channel} {s : Sight} {k : Nat} {l : List Int} (h : s.after = (k : Int)) : FcL tt (knownC c s) k l = if offS (k : Int) l s = true then 0 else FcL tt c k l := by
  have e : agP tt (knownC c s).sights (k : Int) l = (agP tt c.sights (k : Int) l && !offS (k : Int) l s) := agP_snoc
  cases ho : offS (k : Int) l s with
  | true =>
    rw [if_pos rfl, FcL_ag]
    rw [e, ho]
    simp
  | false =>
    rw [if_neg (by decide)]
    rw [ho, Bool.not_false, Bool.and_true] at e
    cases k with
    | zero =>
      rw [FcL, FcL]
      have e' : agP tt (knownC c s).sights 0 l = agP tt c.sights 0 l := e
      rw [e']; rfl
    | succ k =>
      rw [FcL, FcL, e]
      congr 1
      show sumN (LL c) _ = _
      refine sumN_congr fun a _ => ?_
      rw [FcL_known k a (by omega)]
      rfl
theorem cntS_sum {cnt : Nat → Bool} {c : Channel} (r : Right c) : cntS cnt c = sumN (LL c) (FcL cnt c c.tides.toNat) := by
  have hc := r.cells
  have h := FcL_sum (cnt := cnt) r c.tides.toNat 0
  unfold cntS
  rw [Nat.add_zero] at h
  rw [← h]
  refine sumN_congr fun l hl => ?_
  rw [R, agS_stL r ((mem_LL (by omega)).1 hl)]
  by_cases hag : agP cnt c.sights ((c.tides.toNat : Nat) : Int) l = true
  · rw [if_pos hag, Nat.mul_one]
  · rw [if_neg hag, Nat.mul_zero, FcL_ag hag]
theorem right_known {c : Channel} (r : Right c) (hs : c.sights.length ≤ 8) {s : Sight} (ha : 0 ≤ s.after ∧ s.after ≤ c.tides) (hx : 0 ≤ s.cell ∧ s.cell < c.cells) : Right (knownC c s) where
  cells := r.cells
  tides := r.tides
  fords := r.fords
  sands := r.sands
  sights := by show (c.sights ++ [s]).length ≤ 20; simp; omega
  reach := r.reach
  after := by
    intro t ht
    have ht' : t ∈ c.sights ++ [s] := ht
    rcases List.mem_append.1 ht' with h | h
    · exact r.after t h
    · rw [List.mem_singleton] at h; rw [h]; exact ha
  fcell := r.fcell
  span := r.span
  scell := by
    intro t ht
    have ht' : t ∈ c.sights ++ [s] := ht
    rcases List.mem_append.1 ht' with h | h
    · exact r.scell t h
    · rw [List.mem_singleton] at h; rw [h]; exact hx
  up := r.up
theorem cntS_bnd {c : Channel} (r : Right c) : cntS tt c ≤ 1000000000000000 := by
  have ht := r.tides
  rw [cntS_sum r, sumN_li]
  have h := sumN_range_le (fun i => FcL tt c c.tides.toNat (li c i)) 1000000000000 (LL c).length (fun i => FcL_bnd r (by omega) _)
  have h2 := Nat.mul_le_mul_right 1000000000000 (LL_len r)
  omega
theorem Q2 {c : Channel} (h : Few c) : qz c = some (if chk c = 0 then ⟨(cntS tt c : Int), 0⟩ else ⟨0, chk c⟩) := ZQ h
end Go.Proofs.Wb

namespace Go.Proofs.Wb
open Go Go.Fw Go.Gx Go.Sb
set_option linter.unusedVariables false
set_option maxRecDepth 100000
theorem mem_whereL {c : Channel} (r : Right c) {L : List (List State)} (hL : Levs c L) {k i : Nat} (hk : (k : Int) ≤ c.tides) (hi : i < c.fords.length) {x : Int} : x ∈ whereL c k i ↔ ∃ s ∈ L.getD k [], cGet s.at_ i = x := by
  rw [← whereL_prog r hL hk hi, compact_mem, mem_sortI, List.mem_map]
theorem last_on {c : Channel} (r : Right c) (h : cntS tt c ≠ 0) : ∃ l ∈ LL c, onB c c.tides.toNat l = true := by
  have hc := r.cells
  rw [cntS_sum r] at h
  obtain ⟨l, hl, h2⟩ := sumN_pos.1 (Nat.pos_of_ne_zero h)
  refine ⟨l, hl, ?_⟩
  unfold onB
  rw [decide_eq_true h2, Nat.sub_self, R, agS_stL r ((mem_LL (by omega)).1 hl), if_pos (FcL_pos_ag h2)]
  rfl
theorem lev_ne {c : Channel} (r : Right c) {L : List (List State)} (hL : Levs c L) (h : cntS tt c ≠ 0) : L.getD c.tides.toNat [] ≠ [] := by
  have ht := r.tides
  obtain ⟨l, hl, ho⟩ := last_on r h
  have := (lev_iff r hL (show ((c.tides.toNat : Nat) : Int) ≤ c.tides by omega)).2 ⟨l, hl, rfl, ho⟩
  intro q
  rw [q] at this
  exact absurd this (by simp)
def cntF (l : List State) (i : Nat) (f : Int) : Nat := (l.filter fun s => decide (cGet s.at_ i = f)).length
theorem cntF_le (l : List State) (i : Nat) (f : Int) : cntF l i f ≤ l.length := List.length_filter_le _ _
theorem cntF_zero {l : List State} {i : Nat} {f : Int} : cntF l i f = 0 ↔ ¬ ∃ s ∈ l, cGet s.at_ i = f := by
  unfold cntF
  rw [List.length_eq_zero_iff, List.filter_eq_nil_iff]
  simp
theorem cntF_all {l : List State} {i : Nat} {f : Int} : cntF l i f = l.length ↔ ∀ s ∈ l, cGet s.at_ i = f := by
  unfold cntF
  rw [List.length_filter_eq_length_iff]
  simp
theorem asc_one {l : List Int} (h : l.Pairwise (· < ·)) {f : Int} (hf : f ∈ l) : l.length = 1 ↔ ∀ x ∈ l, x = f := by
  constructor
  · intro h1 x hx
    obtain ⟨a, rfl⟩ := List.length_eq_one_iff.1 h1
    simp only [List.mem_singleton] at hf hx
    omega
  · intro h1
    cases l with
    | nil => exact absurd hf (by simp)
    | cons a l =>
      cases l with
      | nil => rfl
      | cons b l =>
        have h2 := h1 a (by simp)
        have h3 := h1 b (by simp)
        have h4 := (List.pairwise_cons.1 h).1 b (by simp)
        omega
def fateI (c : Channel) (i : Nat) : Int := if c.fords.getD i 0 ∈ whereL c c.tides.toNat i then (if (whereL c c.tides.toNat i).length = 1 then 1 else 0) else 2
theorem fate_prog {c : Channel} (r : Right c) {L : List (List State)} (hL : Levs c L) {i : Nat} (hi : i < c.fords.length) (hn : L.getD c.tides.toNat [] ≠ []) : (if cntF (L.getD c.tides.toNat []) i (c.fords.getD i 0) = 0 then (2 : Int) else if cntF (L.getD c.tides.toNat []) i (c.fords.getD i 0) = (L.getD c.tides.toNat []).length then 1 else 0) = fateI c i := by
  have ht := r.tides
  have hm := fun x => mem_whereL r hL (k := c.tides.toNat) (i := i) (x := x) (by omega) hi
  have hs : (whereL c c.tides.toNat i).Pairwise (· < ·) := filtL_asc
  unfold fateI
  by_cases h1 : c.fords.getD i 0 ∈ whereL c c.tides.toNat i
  · have h0 : ¬ cntF (L.getD c.tides.toNat []) i (c.fords.getD i 0) = 0 := fun q => cntF_zero.1 q ((hm _).1 h1)
    rw [if_neg h0, if_pos h1]
    have e : (cntF (L.getD c.tides.toNat []) i (c.fords.getD i 0) = (L.getD c.tides.toNat []).length) ↔ (whereL c c.tides.toNat i).length = 1 := by
      rw [cntF_all, asc_one hs h1]
      constructor
      · intro h x hx
        obtain ⟨s, hs, rfl⟩ := (hm x).1 hx
        exact h s hs
      · intro h s hs
        exact h _ ((hm _).2 ⟨s, hs, rfl⟩)
    by_cases h2 : (whereL c c.tides.toNat i).length = 1
    · rw [if_pos h2, if_pos (e.2 h2)]
    · rw [if_neg h2, if_neg (fun q => h2 (e.1 q))]
  · rw [if_neg h1, if_pos (cntF_zero.2 (fun q => h1 ((hm _).2 q)))]
theorem fates_L1 {l : List State} (hl : l.length ≤ 1000000000000) {i : Nat} (hi : i < 3) (o : List Int) (f : Int) : iterM FU (yI l ⟨(i : Int), o⟩ f) ⟨0, 0⟩ = some (cntF l i f : Int) := by
  have key := iterM_run (f := yI l ⟨(i : Int), o⟩ f) (fun j => ⟨(cntF (l.take j) i f : Int), (j : Int)⟩) l.length (b := (cntF l i f : Int)) (fun j hj => ?_) ?_ FU (FU_lt2 (by omega))
  · exact key
  · have e : l.take (j + 1) = l.take j ++ [l[j]] := by rw [List.take_append_getElem]
    have hx : l.getD j default = l[j] := by simp [List.getD_eq_getElem?_getD, hj]
    have hb : cntF (l.take j) i f ≤ l.length := by
      have := cntF_le (l.take j) i f
      rw [List.length_take] at this
      omega
    have e2 : cntF (l.take (j + 1)) i f = cntF (l.take j) i f + if cGet l[j].at_ i = f then 1 else 0 := by
      unfold cntF
      rw [e, List.filter_append, List.length_append, List.filter_cons, List.filter_nil]
      by_cases hq : cGet l[j].at_ i = f
      · simp [hq]
      · simp [hq]
    unfold yI
    simp only
    rw [if_pos (by omega), ix_nat default hj, Option.bind_some, hx, ix3 hi, Option.bind_some, e2]
    by_cases hq : cGet l[j].at_ i = f
    · rw [if_pos hq, if_pos hq, addc_eq (by omega), Option.bind_some, Option.bind_some, addc_eq (by omega), Option.bind_some]; rfl
    · rw [if_neg hq, if_neg hq, Option.bind_some, addc_eq (by omega), Option.bind_some]; rfl
  · unfold yI
    simp only
    rw [if_neg (by omega), List.take_length]
def fatesL (c : Channel) : List Int := (List.range c.fords.length).map (fateI c)
theorem Y4 {c : Channel} (h : Few c) : za c = some (if chk c = 0 then (if cntS tt c = 0 then ⟨7, []⟩ else ⟨0, fatesL c⟩) else ⟨chk c, []⟩) := by
  unfold za
  obtain ⟨L, e, hL⟩ := Qo h
  rw [e, Option.bind_some]
  by_cases h0 : chk c = 0
  · have r := rightOf h0
    have hf := r.fords
    have ht := r.tides
    rw [if_pos h0, if_pos h0]
    by_cases h3 : cntS tt c = 0
    · rw [if_pos h3, if_pos h3, oc_inl]
    · rw [if_neg h3, if_neg h3, oc_inr]
      have hL' := hL h0 h3
      have hlen := hL'.bnd c.tides.toNat (by omega)
      have hn := lev_ne r hL' h3
      have key := iterM_run (f := yK c ⟨c.cells, c.tides, L, rchL c⟩) (fun i => ⟨(i : Int), (List.range i).map (fateI c)⟩) c.fords.length (b := fatesL c) (fun i hi => ?_) ?_ FU (FU_lt (by omega))
      · show (iterM FU (yK c ⟨c.cells, c.tides, L, rchL c⟩) ⟨((0 : Nat) : Int), (List.range 0).map (fateI c)⟩).bind _ = _
        rw [key]; rfl
      · unfold yK
        simp only
        have hfp := fate_prog r hL' hi hn
        have hix := levs_ix r hL' ht.1 (Int.le_refl _)
        have hcl := cntF_le (L.getD c.tides.toNat []) i (c.fords.getD i 0)
        rw [if_pos (by omega), ix_nat 0 hi, Option.bind_some, hix, Option.bind_some, fates_L1 hlen (by omega), Option.bind_some, show (List.range (i + 1)).map (fateI c) = (List.range i).map (fateI c) ++ [fateI c i] by simp [List.range_succ], ← hfp]
        by_cases h1 : cntF (L.getD c.tides.toNat []) i (c.fords.getD i 0) = 0
        · rw [if_pos (by omega), appc_eq (by simp; omega), Option.bind_some, Option.bind_some, addc_eq (by omega), Option.bind_some]
          rw [if_pos h1]
          rfl
        · rw [if_neg (by omega), Option.bind_some]
          by_cases h2 : cntF (L.getD c.tides.toNat []) i (c.fords.getD i 0) = (L.getD c.tides.toNat []).length
          · rw [if_pos (by omega), appc_eq (by simp; omega), Option.bind_some, Option.bind_some, addc_eq (by omega), Option.bind_some]
            rw [if_neg h1, if_pos h2]
            rfl
          · rw [if_neg (by omega), appc_eq (by simp; omega), Option.bind_some, Option.bind_some, addc_eq (by omega), Option.bind_some]
            rw [if_neg h1, if_neg h2]
            rfl
      · unfold yK
        simp only
        rw [if_neg (by omega)]
        rfl
  · rw [if_neg h0, if_neg h0, oc_inl]
end Go.Proofs.Wb

namespace Go.Proofs.Wb
open Go Go.Fw Go.Gx Go.Sb
set_option linter.unusedVariables false
set_option maxRecDepth 100000
theorem fatesL_len (c : Channel) : (fatesL c).length = c.fords.length := by unfold fatesL; simp
end Go.Proofs.Wb

namespace Go.Proofs.Wb
set_option maxHeartbeats 4000000
set_option maxRecDepth 100000
open Go Go.Fw Go.Gx Go.Sb
open Tryz
set_option linter.unusedVariables false

structure Yn where
  t5_1 : Int
  t5_2 : Int
def YG (shells0 : (List Int)) : Option Yn :=
 some (⟨0, 0⟩ : Yn)
theorem jae (shells0 : (List Int)) (qa0 : Option Addr) (na0 ca0 : Nat) (w : World) (hw : HV w (keys [] []) [] [] [(aB qa0, aO qa0, RU8.enc shells0)] w) (hna0 : shells0.length = na0) (hqa0 : AOK na0 qa0) (hla0 : na0 ≤ ca0) {res : Yn} (hm : YG shells0 = some res) :
    Calls Tryz.prog 62 #[.slice qa0 na0 ca0] w (fun en w' => ∃ l : Nat, en = .returned (ptr l 0) ∧ (True) ∧ HV w (keys [] []) [kc l #[.slice qa0 na0 ca0, .int .i64 res.t5_1, .int .u32 res.t5_2] 199] [] [] w') := by
  unfold YG at hm
  refine yb func62 Y ntmps62 Y (e := [(0, _)]) Y hw (jp (jm Y Y (kE (jg Y Y (jc Y Y Y (fun _ _ => kw (vs := [(0, _)]) (cells := [_, _, _]) Y Y) ?_)))))
  refine jH Y Y (fun b h1 => ?_)
  refine jm Y Y (jo (jw ?_))
  obtain rfl := sj hm
  refine jk Y (fun w hh => (.tmp Y .nil)) (fun w hh => ⟨b, rfl, trivial, hh.se [0] [] 1 Y Y Y rfl⟩)
structure J9 where
  r0 : Int
  h0_1 : Int
  h0_2 : Int
structure KX where
  h0_1 : Int
  h0_2 : Int
def zR (h00 : (List Int)) (h01 : Int) (h02 : Int) : Option J9 :=
 (if h01 < (h00.length : Int) then
 ((ix h00 h01).bind fun t29 =>
 some (IntKind.u32.wrap ((IntKind.u32.wrap (40503 * (IntKind.u32.wrap (h02 + 1)))) + (IntKind.u32.wrap (331 * (IntKind.u32.wrap t29)))))) else
 (some (IntKind.u32.wrap (40503 * (IntKind.u32.wrap (h02 + 1)))))).bind fun o =>
 ((addc h01 1).bind fun t38 =>
 if (h00.length : Int) ≤ t38 then
 (some (⟨0, (IntKind.u32.wrap (h02 + 1))⟩ : KX)) else
 (some (⟨t38, h02⟩ : KX))).bind fun o_1 =>
 some (⟨(IntKind.i64.wrap (IntKind.u32.wrap (BitVec.ofInt IntKind.u32.bits (IntKind.u32.wrap (BitVec.ofInt IntKind.u32.bits o ^^^ BitVec.ofInt IntKind.u32.bits (Int.fdiv o (2 ^ min (Int.toNat 9) IntKind.u32.bits))).toNat) &&& BitVec.ofInt IntKind.u32.bits 32767).toNat)), o_1.h0_1, o_1.h0_2⟩ : J9)
theorem YQ (h00 : (List Int)) (h01 : Int) (h02 : Int) (pb : Nat) (qa0 : Option Addr) (na0 ca0 : Nat) (w : World) (hw : HV w (keys [kc pb #[.slice qa0 na0 ca0, .int .i64 h01, .int .u32 h02] 199] []) [kc pb #[.slice qa0 na0 ca0, .int .i64 h01, .int .u32 h02] 199] [] [(aB qa0, aO qa0, RU8.enc h00)] w) (hna0 : h00.length = na0) (hqa0 : AOK na0 qa0) (hla0 : na0 ≤ ca0) {res : J9} (hm : zR h00 h01 h02 = some res) :
    Calls Tryz.prog 180 #[ptr pb 0] w (fun en w' => ∃ l : Unit, en = .returned (.int .i64 res.r0) ∧ (True) ∧ HV w (keys [kc pb #[.slice qa0 na0 ca0, .int .i64 h01, .int .u32 h02] 199] []) [kc pb #[.slice qa0 na0 ca0, .int .i64 res.h0_1, .int .u32 res.h0_2] 199] [] [] w') := by
  unfold zR at hm
  refine yb func180 Y ntmps180 Y (e := [(0, _)]) Y hw (jp (jm Y Y (kE (jg Y Y (jc Y Y Y (fun _ _ => jW Y) (yr 2 runUnderlying199 Y sizeOf197 Y Y (qP 0 isAgg197 Y Y Y Y ?_)))))))
  refine jc Y Y Y (fun _ _ => Z5 Y Y) (jc Y Y Y (fun _ _ => jal Y Y) (jm Y Y (jo (ji ?_))))
  obtain ⟨o, h1, h2⟩ := bindO hm
  refine jQ (ι := Unit) (fun l => True) (fun l => [(0, ptr pb 0), (3, .int .u32 o)]) (fun l => [kc pb #[.slice qa0 na0 ca0, .int .i64 h01, .int .u32 h02] 199]) (fun l => []) ?_ ?_
  ·replace hm := h1
   refine ji ?_
   refine qr none (.free 0 (.free 1 (.free 2 (.hoist 3 (.free 4 (.free 5 (.free 6 (.hoist 7 (.free 8 (.free 9 .done)))))))))) _ Y (by decide +kernel) (fun w k hh => hh.draw k) (fun w hh => hh) ?_
   refine zQ Y Y Y (jq Y Y Y Y (fun _ _ => jW Y) (KD 1 runUnderlying199 sizeOf3 Y Y Y Y (Qa 0 isAgg3 Y Y Y Y Y (zQ Y Y Y (jq Y Y Y Y (fun _ _ => jW Y) (KD 0 runUnderlying199 sizeOf92 Y Y Y Y (Qa 0 isAgg92 Y Y Y Y Y ?_)))))))
   refine jq Y Y Y Y (fun w _ => qd hna0 (runUnderlying92 w) Y) (jq Y Y Y Y (fun _ _ => Z2 Y Y) (ka (ja ?_)))
   refine js Y (fun h3 => ?_) (fun h3 => ?_)
   ·replace hm := ifD h3 hm
    refine qr none (.free 0 (.free 1 (.free 2 (.free 3 (.hoist 4 (.free 5 (.free 6 (.free 7 (.hoist 8 (.free 9 (.hoist 10 (.free 11 (.free 12 (.free 13 (.free 14 .done))))))))))))))) _ Y (by decide +kernel) (fun w k hh => hh.draw k) (fun w hh => hh) ?_
    refine zQ Y Y Y (zQ Y Y Y (jq Y Y Y Y (fun _ _ => jW Y) (KD 0 runUnderlying199 sizeOf92 Y Y Y Y (Qa 0 isAgg92 Y Y Y Y Y (zQ Y Y Y (jq Y Y Y Y (fun _ _ => jW Y) (KD 1 runUnderlying199 sizeOf3 Y Y Y Y ?_)))))))
    refine Qa 0 isAgg3 Y Y Y Y Y ?_
    obtain ⟨t29, h4, hm⟩ := bindO hm
    refine jq Y Y Y Y (fun w _ => zP h4 (runUnderlying92 w) (sizeOf5 w) Y Y hna0 hqa0) (jA Y Y Y Y (fun w hh => yU RU8 0 h4 (isAgg5 w) Y (hh.seg 0 Y) Y (Nat.add_zero _).symm) (jq Y Y Y Y (fun w _ => ZH (runUnderlying5 w) (runUnderlying197 w) Y) (jq Y Y Y Y (fun _ _ => jal Y Y) (jq Y Y Y Y (fun _ _ => Z5 Y Y) (jq Y Y Y Y (fun _ _ => kM Y) (ka ?_))))))
    obtain rfl := sj hm
    exact jj () (trivial) (sE Y) (fun w hh => hh)
   replace hm := ifE h3 hm
   refine ju ?_
   obtain rfl := sj hm
   exact jj () (trivial) (sE Y) (fun w hh => hh)
  intro l hj
  replace hm := h2
  refine ja (ji ?_)
  obtain ⟨o_1, h5, h6⟩ := bindO hm
  refine jQ (ι := Unit) (fun l_1 => True) (fun l_1 => [(3, .int .u32 o)]) (fun l_1 => [kc pb #[.slice qa0 na0 ca0, .int .i64 o_1.h0_1, .int .u32 o_1.h0_2] 199]) (fun l_1 => []) ?_ ?_
  ·replace hm := h5
   refine jp (jg Y Y (jc Y Y Y (fun _ _ => jW Y) (yr 1 runUnderlying199 Y sizeOf3 Y Y (qP 0 isAgg3 Y Y Y Y ?_))))
   obtain ⟨t38, h7, hm⟩ := bindO hm
   refine JI h7 Y Y Y (jc Y Y Y (fun _ _ => jW Y) (yr 1 runUnderlying199 Y sizeOf3 Y Y (yg (cs' := #[_, _, _]) (S' := [_]) 0 (fun w => sizeOf3 w) Y Y Y Y Y Y Y (jo (ji ?_)))))
   refine qr none (.free 0 (.free 1 (.free 2 (.hoist 3 (.free 4 (.free 5 (.free 6 (.hoist 7 (.free 8 (.free 9 .done)))))))))) _ Y (by decide +kernel) (fun w k hh => hh.draw k) (fun w hh => hh) ?_
   refine zQ Y Y Y (jq Y Y Y Y (fun _ _ => jW Y) (KD 1 runUnderlying199 sizeOf3 Y Y Y Y (Qa 0 isAgg3 Y Y Y Y Y (zQ Y Y Y (jq Y Y Y Y (fun _ _ => jW Y) (KD 0 runUnderlying199 sizeOf92 Y Y Y Y (Qa 0 isAgg92 Y Y Y Y Y ?_)))))))
   refine jq Y Y Y Y (fun w _ => qd hna0 (runUnderlying92 w) Y) (jq Y Y Y Y (fun _ _ => QT Y Y) (ka (ja ?_)))
   refine js Y (fun h8 => ?_) (fun h8 => ?_)
   ·replace hm := ifD h8 hm
    refine jh (jg Y Y (jg Y Y (jg Y Y (jc Y Y Y (fun _ _ => jW Y) (yr 2 runUnderlying199 Y sizeOf197 Y Y (qP 0 isAgg197 Y Y Y Y (jc Y Y Y (fun _ _ => Z5 Y Y) ?_)))))))
    refine jc Y Y Y (fun _ _ => jW Y) (yr 1 runUnderlying199 Y sizeOf3 Y Y (yg (cs' := #[_, _, _]) (S' := [_]) 0 (fun w => sizeOf3 w) Y Y Y Y Y Y Y (jc Y Y Y (fun _ _ => jW Y) (yr 2 runUnderlying199 Y sizeOf197 Y Y (yg (cs' := #[_, _, _]) (S' := [_]) 0 (fun w => sizeOf197 w) Y Y Y Y Y Y Y (jt ?_))))))
    obtain rfl := sj hm
    exact jj () (trivial) (sE Y) (fun w hh => hh)
   replace hm := ifE h8 hm
   refine ju ?_
   obtain rfl := sj hm
   exact jj () (trivial) (sE Y) (fun w hh => hh)
  intro l_1 hj
  replace hm := h6
  refine ja (jp (jg Y Y (jg Y Y (jc Y Y Y (fun _ _ => jaT Y Y (by decide)) (jc Y Y Y (fun _ _ => jaq Y Y Y) (jc Y Y Y (fun _ _ => jaq Y Y Y) (jc Y Y Y (fun w _ => ZH (runUnderlying197 w) (runUnderlying3 w) Y) ?_)))))))
  refine jm Y Y (jo (jw ?_))
  obtain rfl := sj hm
  refine jk Y (fun w hh => (.tmp Y .nil)) (fun w hh => ⟨(), rfl, trivial, hh.se [0] [] 1 Y Y Y rfl⟩)
structure yH where
  r0 : Int
  h0_1 : Int
  h0_2 : Int
def jO (h00 : (List Int)) (h01 : Int) (h02 : Int) (n1 : Int) : Option yH :=
 (zR h00 h01 h02).bind fun t6 =>
 (addc n1 1).bind fun t8 =>
 (remc t6.r0 (max 1 t8)).bind fun t10 =>
 some (⟨t10, t6.h0_1, t6.h0_2⟩ : yH)
theorem jZ (h00 : (List Int)) (h01 : Int) (h02 : Int) (n1 : Int) (pb : Nat) (qa0 : Option Addr) (na0 ca0 : Nat) (w : World) (hw : HV w (keys [kc pb #[.slice qa0 na0 ca0, .int .i64 h01, .int .u32 h02] 199] []) [kc pb #[.slice qa0 na0 ca0, .int .i64 h01, .int .u32 h02] 199] [] [(aB qa0, aO qa0, RU8.enc h00)] w) (hna0 : h00.length = na0) (hqa0 : AOK na0 qa0) (hla0 : na0 ≤ ca0) {res : yH} (hm : jO h00 h01 h02 n1 = some res) :
    Calls Tryz.prog 146 #[ptr pb 0, .int .i64 n1] w (fun en w' => ∃ l : Unit, en = .returned (.int .i64 res.r0) ∧ (True) ∧ HV w (keys [kc pb #[.slice qa0 na0 ca0, .int .i64 h01, .int .u32 h02] 199] []) [kc pb #[.slice qa0 na0 ca0, .int .i64 res.h0_1, .int .u32 res.h0_2] 199] [] [] w') := by
  unfold jO at hm
  refine yb func146 Y ntmps146 Y (e := [(0, _), (1, _)]) Y hw (jp (jm Y Y (kE (jg Y Y ?_))))
  obtain ⟨t6, h1, hm⟩ := bindO hm
  refine jd [_] [] Y Y Y Y Y Y Y call180 (fun w hh => YQ h00 h01 h02 pb qa0 na0 ca0 w (HV.callee (S0 := [_]) (vs0 := []) hh (roR hh 0 Y roN)) hna0 hqa0 hla0 h1) (fun l h2 => ?_)
  refine kt (S' := [_]) (vs' := []) [0] [] 0 Y Y Y Y (jg Y Y ?_)
  obtain ⟨t8, h3, hm⟩ := bindO hm
  refine JI h3 Y Y Y (jc Y Y Y (fun _ _ => Zi Y Y) ?_)
  obtain ⟨t10, h4, hm⟩ := bindO hm
  refine jc Y Y Y (fun _ _ => Z1 h4 Y Y) (jm Y Y (jo (jw ?_)))
  obtain rfl := sj hm
  refine jk Y (fun w hh => (.tmp Y .nil)) (fun w hh => ⟨(), rfl, trivial, hh.se [0] [] 1 Y Y Y rfl⟩)
structure q7 where
  r0 : Int
  h0_1 : Int
  h0_2 : Int
def yO (h00 : (List Int)) (h01 : Int) (h02 : Int) (lo1 : Int) (hi2 : Int) : Option q7 :=
 (subc hi2 lo1).bind fun t11 =>
 (jO h00 h01 h02 t11).bind fun t12 =>
 (addc lo1 t12.r0).bind fun t13 =>
 some (⟨t13, t12.h0_1, t12.h0_2⟩ : q7)
theorem Kx (h00 : (List Int)) (h01 : Int) (h02 : Int) (lo1 : Int) (hi2 : Int) (pb : Nat) (qa0 : Option Addr) (na0 ca0 : Nat) (w : World) (hw : HV w (keys [kc pb #[.slice qa0 na0 ca0, .int .i64 h01, .int .u32 h02] 199] []) [kc pb #[.slice qa0 na0 ca0, .int .i64 h01, .int .u32 h02] 199] [] [(aB qa0, aO qa0, RU8.enc h00)] w) (hna0 : h00.length = na0) (hqa0 : AOK na0 qa0) (hla0 : na0 ≤ ca0) {res : q7} (hm : yO h00 h01 h02 lo1 hi2 = some res) :
    Calls Tryz.prog 145 #[ptr pb 0, .int .i64 lo1, .int .i64 hi2] w (fun en w' => ∃ l : Unit, en = .returned (.int .i64 res.r0) ∧ (True) ∧ HV w (keys [kc pb #[.slice qa0 na0 ca0, .int .i64 h01, .int .u32 h02] 199] []) [kc pb #[.slice qa0 na0 ca0, .int .i64 res.h0_1, .int .u32 res.h0_2] 199] [] [] w') := by
  unfold yO at hm
  refine yb func145 Y ntmps145 Y (e := [(0, _), (1, _), (2, _)]) Y hw (jp (jm Y Y (kE (jg Y Y (jg Y Y (jg Y Y (jg Y Y ?_)))))))
  obtain ⟨t11, h1, hm⟩ := bindO hm
  refine jc Y Y Y (fun _ _ => zx h1 Y Y) ?_
  obtain ⟨t12, h2, hm⟩ := bindO hm
  refine jd [_] [] Y Y Y Y Y Y Y call146 (fun w hh => jZ h00 h01 h02 t11 pb qa0 na0 ca0 w (HV.callee (S0 := [_]) (vs0 := []) hh (roR hh 0 Y roN)) hna0 hqa0 hla0 h2) (fun l h3 => ?_)
  refine kt (S' := [_]) (vs' := []) [0] [] 0 Y Y Y Y ?_
  obtain ⟨t13, h4, hm⟩ := bindO hm
  refine JI h4 Y Y Y (jm Y Y (jo (jw ?_)))
  obtain rfl := sj hm
  refine jk Y (fun w hh => (.tmp Y .nil)) (fun w hh => ⟨(), rfl, trivial, hh.se [0] [] 1 Y Y Y rfl⟩)
structure J4 where
  r0 : Bool
  h0_1 : Int
  h0_2 : Int
def zk (h00 : (List Int)) (h01 : Int) (h02 : Int) (n1 : Int) : Option J4 :=
 (subc n1 1).bind fun t7 =>
 (jO h00 h01 h02 t7).bind fun t8 =>
 some (⟨(decide (t8.r0 = 0)), t8.h0_1, t8.h0_2⟩ : J4)
theorem QJ (h00 : (List Int)) (h01 : Int) (h02 : Int) (n1 : Int) (pb : Nat) (qa0 : Option Addr) (na0 ca0 : Nat) (w : World) (hw : HV w (keys [kc pb #[.slice qa0 na0 ca0, .int .i64 h01, .int .u32 h02] 199] []) [kc pb #[.slice qa0 na0 ca0, .int .i64 h01, .int .u32 h02] 199] [] [(aB qa0, aO qa0, RU8.enc h00)] w) (hna0 : h00.length = na0) (hqa0 : AOK na0 qa0) (hla0 : na0 ≤ ca0) {res : J4} (hm : zk h00 h01 h02 n1 = some res) :
    Calls Tryz.prog 68 #[ptr pb 0, .int .i64 n1] w (fun en w' => ∃ l : Unit, en = .returned (.bool res.r0) ∧ (True) ∧ HV w (keys [kc pb #[.slice qa0 na0 ca0, .int .i64 h01, .int .u32 h02] 199] []) [kc pb #[.slice qa0 na0 ca0, .int .i64 res.h0_1, .int .u32 res.h0_2] 199] [] [] w') := by
  unfold zk at hm
  refine yb func68 Y ntmps68 Y (e := [(0, _), (1, _)]) Y hw (jp (jm Y Y (kE (jg Y Y (jg Y Y ?_)))))
  obtain ⟨t7, h1, hm⟩ := bindO hm
  refine jc Y Y Y (fun _ _ => zx h1 Y Y) ?_
  obtain ⟨t8, h2, hm⟩ := bindO hm
  refine jd [_] [] Y Y Y Y Y Y Y call146 (fun w hh => jZ h00 h01 h02 t7 pb qa0 na0 ca0 w (HV.callee (S0 := [_]) (vs0 := []) hh (roR hh 0 Y roN)) hna0 hqa0 hla0 h2) (fun l h3 => ?_)
  refine kt (S' := [_]) (vs' := []) [0] [] 0 Y Y Y Y (jc Y Y Y (fun _ _ => JE Y Y) (jm Y Y (jo (jw ?_))))
  obtain rfl := sj hm
  refine jk Y (fun w hh => (.tmp Y .nil)) (fun w hh => ⟨(), rfl, trivial, hh.se [0] [] 1 Y Y Y rfl⟩)
structure y8 where
  h0_1 : Int
  h0_2 : Int
  r0 : (List Int)
structure Kr where
  h0_1 : Int
  h0_2 : Int
  out5 : (List Int)
structure zt where
  t9 : Int
  h0_1 : Int
  h0_2 : Int
  out5 : (List Int)
def yN (n1 : Int) (h00 : (List Int)) (s : zt) : Option (zt ⊕ Kr) :=
 if s.t9 < (max 0 n1) then
 ((jO h00 s.h0_1 s.h0_2 s.t9).bind fun t15 =>
 (zV s.out5 t15.r0 [s.t9]).bind fun t18 =>
 (addc s.t9 1).bind fun t19 =>
 some (.inl (⟨t19, t15.h0_1, t15.h0_2, t18⟩ : zt))) else
 (some (.inr (⟨s.h0_1, s.h0_2, s.out5⟩ : Kr)))
def zz (h00 : (List Int)) (h01 : Int) (h02 : Int) (n1 : Int) : Option y8 :=
 (iterM FU (yN n1 h00) (⟨0, h01, h02, []⟩ : zt)).bind fun o =>
 some (⟨o.h0_1, o.h0_2, o.out5⟩ : y8)
theorem YD (h00 : (List Int)) (h01 : Int) (h02 : Int) (n1 : Int) (pb : Nat) (qa0 : Option Addr) (na0 ca0 : Nat) (w : World) (hw : HV w (keys [kc pb #[.slice qa0 na0 ca0, .int .i64 h01, .int .u32 h02] 199] []) [kc pb #[.slice qa0 na0 ca0, .int .i64 h01, .int .u32 h02] 199] [] [(aB qa0, aO qa0, RU8.enc h00)] w) (hna0 : h00.length = na0) (hqa0 : AOK na0 qa0) (hla0 : na0 ≤ ca0) {res : y8} (hm : zz h00 h01 h02 n1 = some res) :
    Calls Tryz.prog 69 #[ptr pb 0, .int .i64 n1] w (fun en w' => ∃ l : VL, en = .returned (sL l) ∧ (VOK 1 l.n l.cap (RI.enc res.r0) l.sp l.q) ∧ HV w (keys [kc pb #[.slice qa0 na0 ca0, .int .i64 h01, .int .u32 h02] 199] []) [kc pb #[.slice qa0 na0 ca0, .int .i64 res.h0_1, .int .u32 res.h0_2] 199] [vL 3 l (RI.enc res.r0)] [] w') := by
  unfold zz at hm
  refine yb func69 Y ntmps69 Y (e := [(0, _), (1, _)]) Y hw (jp (jc Y Y Y (fun _ _ => qc Y) (kE (jc Y Y Y (fun _ _ => qc Y) (jo (ji (jp ?_)))))))
  refine jg Y Y (jc Y Y Y (fun _ _ => Zi Y Y) (jg Y Y (jo (qw 3 ?_))))
  obtain ⟨o, h2, h3⟩ := bindO hm
  refine jQ (ι := VL) (fun l => VOK 1 l.n l.cap (RI.enc o.out5) l.sp l.q) (fun l => [(5, sL l)]) (fun l => [kc pb #[.slice qa0 na0 ca0, .int .i64 o.h0_1, .int .u32 o.h0_2] 199]) (fun l => [vL 3 l (RI.enc o.out5)]) ?_ ?_
  ·replace hm := h2
   refine jn ?_
   refine jY (ι := VL) hm (fun s l_1 => VOK 1 l_1.n l_1.cap (RI.enc s.out5) l_1.sp l_1.q) (fun s l_1 => [(0, ptr pb 0), (5, sL l_1), (8, .int .i64 (max 0 n1)), (9, .int .i64 s.t9)]) (fun s l_1 => [kc pb #[.slice qa0 na0 ca0, .int .i64 s.h0_1, .int .u32 s.h0_2] 199]) (fun s l_1 => [vL 3 l_1 (RI.enc s.out5)]) ⟨none, 0, 0, []⟩ (VOK.nil) (sE Y) (fun w hh => hh) (fun s l_1 r hpl hm h6 => ?_)
   have h5 := hpl
   unfold yN at hm
   refine jp (J2 Y Y Y (jo (ji ?_)))
   refine js Y (fun h7 => ?_) (fun h7 => ?_)
   ·replace hm := ifD h7 hm
    refine ju (ja (ji (jn (jp (jg Y Y (jm Y Y (jo ?_)))))))
    refine jh (jg Y Y (jg Y Y (jg Y Y ?_)))
    obtain ⟨t15, h8, hm⟩ := bindO hm
    refine jd [_] [] Y Y Y Y Y Y Y call146 (fun w hh => jZ h00 s.h0_1 s.h0_2 s.t9 pb qa0 na0 ca0 w (HV.callee (S0 := [_]) (vs0 := []) hh (roR hh 0 Y roN)) hna0 hqa0 hla0 h8) (fun l_2 h9 => ?_)
    refine kt (S' := [_]) (vs' := [_]) [0] [0] 0 Y Y Y Y (jg Y Y ?_)
    refine qx RI [s.t9] (ps := [(0, _)]) (cells := [_]) (fun w => runUnderlying22 w) (fun w => sizeOf3 w) (fun w => zeroValue3 w) Y Y Y Y Y Y Y Y (fun L h10 => ?_)
    obtain ⟨t18, h11, hm⟩ := bindO hm
    refine kt (S' := [_]) (vs' := [_, _]) [0] [1, 0] 0 Y Y Y Y ?_
    refine jd [] [_, _] Y Y Y Y Y Y Y call149 (fun w hh => YA s.out5 t15.r0 [s.t9] ⟨l_1.q, l_1.n, l_1.cap, l_1.sp⟩ ⟨L.q, L.n, L.cap, L.sp⟩ w (HV.callee (S0 := []) (vs0 := [_, _]) hh roN) h5 h10 h11) (fun l_3 h12 => ?_)
    have h13 := h12
    refine kt (S' := [_]) (vs' := [_, _]) [0] [0, 1] 0 Y Y Y Y (jm Y Y (jt (jx (ja (jh ?_)))))
    obtain ⟨t19, h14, hm⟩ := bindO hm
    refine JI h14 Y Y Y (jg Y Y (jt ?_))
    obtain rfl := sj hm
    refine ja ?_
    exact jE _ l_3 Y (h13) (sE Y) (hsE [0] [0] 0 Y Y Y Y)
   replace hm := ifE h7 hm
   refine kn (jl (jl (jG ?_)))
   obtain rfl := sj hm
   have hbo := h6 _ Y
   subst hbo
   exact jj l_1 (h5) (sE Y) (fun w hh => hh)
  intro l hj
  have h4 := hj
  replace hm := h3
  refine ja (jp (jg Y Y (jm Y Y (jo (jw ?_)))))
  obtain rfl := sj hm
  refine jk Y (fun w hh => (.tmp Y .nil)) (fun w hh => ⟨l, rfl, h4, hh.se [0] [0] 1 Y Y Y rfl⟩)
structure qV where
  r5 : Int
  t11 : Int
def qW (c0 : Channel) (cell1 : Int) (s : qV) : Option (qV ⊕ Int) :=
 if s.t11 < (c0.sands.length : Int) then
 (((ix c0.sands s.t11).bind fun t13 =>
 (if t13.span.lo ≤ cell1 then
 (some (decide (cell1 ≤ t13.span.hi))) else
 (some false)).bind fun o_2 =>
 if o_2 = true then
 (some (max s.r5 t13.reach)) else
 (some s.r5)).bind fun o_1 =>
 (addc s.t11 1).bind fun t31 =>
 some (.inl (⟨o_1, t31⟩ : qV))) else
 (some (.inr s.r5))
def q6 (c0 : Channel) (cell1 : Int) : Option Int :=
 (iterM FU (qW c0 cell1) (⟨0, 0⟩ : qV)).bind fun o =>
 some o
theorem KC (c0 : Channel) (cell1 : Int) (qa0 : Option Addr) (na0 ca0 : Nat) (qa1 : Option Addr) (na1 ca1 : Nat) (qa2 : Option Addr) (na2 ca2 : Nat) (w : World) (hw : HV w (keys [] []) [] [] [(aB qa0, aO qa0, RI.enc c0.fords), (aB qa1, aO qa1, RSa.enc c0.sands), (aB qa2, aO qa2, RSi.enc c0.sights)] w) (hna0 : c0.fords.length = na0) (hqa0 : AOK na0 qa0) (hla0 : na0 ≤ ca0) (hna1 : c0.sands.length = na1) (hqa1 : AOK na1 qa1) (hla1 : na1 ≤ ca1) (hna2 : c0.sights.length = na2) (hqa2 : AOK na2 qa2) (hla2 : na2 ≤ ca2) {res : Int} (hm : q6 c0 cell1 = some res) :
    Calls Tryz.prog 63 #[.agg #[.int .i64 c0.cells, .int .i64 c0.tides, .slice qa0 na0 ca0, .slice qa1 na1 ca1, .slice qa2 na2 ca2], .int .i64 cell1] w (fun en w' => ∃ l : Unit, en = .returned (.int .i64 res) ∧ (True) ∧ HV w (keys [] []) [] [] [] w') := by
  unfold q6 at hm
  refine yb func63 Y ntmps63 Y (e := [(0, _), (1, _)]) Y hw (jp ?_)
  refine jH Y Y (fun b h1 => ?_)
  refine jm Y Y (kE (jm Y Y (jo (ji (jp (yr 3 runUnderlying26 Y sizeOf23 Y Y (qP 0 isAgg23 Y Y Y Y ?_)))))))
  refine jc Y Y Y (fun w _ => qd hna1 (runUnderlying23 w) Y) (jg Y Y (jo ?_))
  obtain ⟨o, h2, h3⟩ := bindO hm
  refine jQ (ι := Unit) (fun l => True) (fun l => [(5, .int .i64 o)]) (fun l => [kc b #[.int .i64 c0.cells, .int .i64 c0.tides, .slice qa0 na0 ca0, .slice qa1 na1 ca1, .slice qa2 na2 ca2] 26]) (fun l => []) ?_ ?_
  ·replace hm := h2
   refine jn ?_
   refine jY (ι := Unit) hm (fun s l_1 => True) (fun s l_1 => [(1, .int .i64 cell1), (5, .int .i64 s.r5), (9, .slice qa1 na1 ca1), (10, .int .i64 (c0.sands.length : Int)), (11, .int .i64 s.t11)]) (fun s l_1 => [kc b #[.int .i64 c0.cells, .int .i64 c0.tides, .slice qa0 na0 ca0, .slice qa1 na1 ca1, .slice qa2 na2 ca2] 26]) (fun s l_1 => []) () (trivial) (sE Y) (fun w hh => hh) (fun s l_1 r hpl hm h4 => ?_)
   unfold qW at hm
   refine jp (J2 Y Y Y (jo (ji ?_)))
   refine js Y (fun h5 => ?_) (fun h5 => ?_)
   ·replace hm := ifD h5 hm
    refine ju (ja (ji ?_))
    obtain ⟨o_1, h6, h7⟩ := bindO hm
    refine jQ (ι := Unit) (fun l_2 => True) (fun l_2 => [(1, .int .i64 cell1), (5, .int .i64 o_1), (9, .slice qa1 na1 ca1), (10, .int .i64 (c0.sands.length : Int)), (11, .int .i64 s.t11)]) (fun l_2 => [kc b #[.int .i64 c0.cells, .int .i64 c0.tides, .slice qa0 na0 ca0, .slice qa1 na1 ca1, .slice qa2 na2 ca2] 26]) (fun l_2 => []) ?_ ?_
    ·replace hm := h6
     refine jn (jp ?_)
     obtain ⟨t13, h8, hm⟩ := bindO hm
     refine jc Y Y Y (fun w _ => zP h8 (runUnderlying23 w) (sizeOf98 w) Y Y hna1 hqa1) ?_
     refine jc Y Y Y (fun w hh => JT RSa 0 [.int .i64 t13.span.lo, .int .i64 t13.span.hi, .int .i64 t13.reach] h8 (isAgg98 w) (sizeOf98 w) Y (hh.seg 1 Y) Y (Nat.add_zero _).symm) ?_
     refine jv (fun w => zeroValue98 w) Y (fun b_1 h9 => ?_)
     refine j5 (us := #[_, _, _]) (cs' := [_, _, _]) (S' := [_, _]) 0 (fun w => sizeOf98 w) Y Y Y Y Y Y Y (jo (ji ?_))
     obtain ⟨o_2, h10, h11⟩ := bindO hm
     refine jQ (ι := Unit) (fun l_3 => True) (fun l_3 => [(1, .int .i64 cell1), (5, .int .i64 s.r5), (7, ptr b_1 0), (9, .slice qa1 na1 ca1), (10, .int .i64 (c0.sands.length : Int)), (11, .int .i64 s.t11), (26, .bool o_2)]) (fun l_3 => [kc b_1 #[.int .i64 t13.span.lo, .int .i64 t13.span.hi, .int .i64 t13.reach] 98, kc b #[.int .i64 c0.cells, .int .i64 c0.tides, .slice qa0 na0 ca0, .slice qa1 na1 ca1, .slice qa2 na2 ca2] 26]) (fun l_3 => []) ?_ ?_
     ·replace hm := h10
      refine jh (yr 0 runUnderlying98 Y sizeOf50 Y Y (yr 0 runUnderlying50 Y sizeOf3 Y Y (qP 0 isAgg3 Y Y Y Y (jg Y Y (jc Y Y Y (fun _ _ => Zw Y Y) (jg Y Y ?_))))))
      refine jL 20 Y (fun h12 => ?_) (fun h12 => ?_)
      ·replace hm := ifD h12 hm
       refine jb Y Y (jg Y Y (jb Y Y (yr 0 runUnderlying98 Y sizeOf50 Y Y (jb Y Y (yr 1 runUnderlying50 Y sizeOf3 Y Y (jb Y Y (qP 0 isAgg3 Y Y Y Y ?_)))))))
       refine jb Y Y (jc Y Y Y (fun _ _ => Zw Y Y) (qq Y Y Y (jt ?_)))
       obtain rfl := sj hm
       exact jj () (trivial) (sE Y) (fun w hh => hh)
      replace hm := ifE h12 hm
      refine g_k Y Y Y Y (g_k Y Y Y Y (g_k Y Y Y Y (g_k Y Y Y Y (g_k Y Y Y Y (yS Y Y Y (jt ?_))))))
      obtain rfl := sj hm
      exact jj () (trivial) (sE Y) (fun w hh => hh)
     intro l_3 hj
     replace hm := h11
     refine ja ?_
     refine js Y (fun h13 => ?_) (fun h13 => ?_)
     ·replace hm := ifT (h13) hm
      refine jh (jg Y Y (yr 2 runUnderlying98 Y sizeOf3 Y Y (qP 0 isAgg3 Y Y Y Y (jc Y Y Y (fun _ _ => Zi Y Y) (jm Y Y (jt (jx ?_)))))))
      obtain rfl := sj hm
      exact jj () (trivial) (sE Y) (hsE [1] [] 0 Y Y Y Y)
     replace hm := ifN h13 hm
     refine ju (jx ?_)
     obtain rfl := sj hm
     exact jj () (trivial) (sE Y) (hsE [1] [] 0 Y Y Y Y)
    intro l_2 hj
    replace hm := h7
    refine ja (jh ?_)
    obtain ⟨t31, h14, hm⟩ := bindO hm
    refine JI h14 Y Y Y (jg Y Y (jt ?_))
    obtain rfl := sj hm
    refine ja ?_
    exact jE _ () Y (trivial) (sE Y) (fun w hh => hh)
   replace hm := ifE h5 hm
   refine kn (jl (jl (jG ?_)))
   obtain rfl := sj hm
   have hbo := h4 _ Y
   subst hbo
   exact jj () (trivial) (sE Y) (fun w hh => hh)
  intro l hj
  replace hm := h3
  refine ja (jp (jg Y Y (jm Y Y (jo (jw ?_)))))
  obtain rfl := sj hm
  refine jk Y (fun w hh => (.tmp Y .nil)) (fun w hh => ⟨(), rfl, trivial, hh.se [] [] 3 Y Y Y rfl⟩)
structure zj where
  b0_1 : Int
  b0_2 : Int
  r0 : (List (List Int))
structure Jk where
  b0_1 : Int
  b0_2 : Int
  out5 : (List (List Int))
structure yd where
  t17 : Int
  b0_1 : Int
  b0_2 : Int
  out5 : (List (List Int))
structure Jj where
  b0_1 : Int
  b0_2 : Int
  r0 : (List Int)
structure yc where
  t33 : Int
  b0_1 : Int
  b0_2 : Int
  r0 : (List Int)
structure Jp where
  b0_1 : Int
  b0_2 : Int
  r0 : (List Int)
def qo (t31 : y8) (t27 : (List Int)) (c1 : Channel) (b00 : (List Int)) (s_1 : yc) : Option (yc ⊕ Jj) :=
 if s_1.t33 < (t31.r0.length : Int) then
 (((ix t31.r0 s_1.t33).bind fun t35 =>
 (ix t27 t35).bind fun t39 =>
 (ix t27 t35).bind fun t45 =>
 (ix t27 t35).bind fun t52 =>
 (q6 c1 t45).bind fun t47 =>
 (negc t47).bind fun t48 =>
 (q6 c1 t52).bind fun t54 =>
 (yO b00 s_1.b0_1 s_1.b0_2 t48 t54).bind fun t55 =>
 (addc t39 t55.r0).bind fun t56 =>
 (if 0 ≤ t56 then
 (if t56 < c1.cells then
 (if t35 = 0 then
 ((subc (s_1.r0.length : Int) 1).bind fun t82 =>
 if t35 = t82 then
 (some true) else
 ((addc t35 1).bind fun t88 =>
 (ix s_1.r0 t88).bind fun t89 =>
 some (decide (t56 < t89)))) else
 ((subc t35 1).bind fun t72 =>
 (ix s_1.r0 t72).bind fun t73 =>
 if t73 < t56 then
 ((subc (s_1.r0.length : Int) 1).bind fun t82_1 =>
 if t35 = t82_1 then
 (some true) else
 ((addc t35 1).bind fun t88_1 =>
 (ix s_1.r0 t88_1).bind fun t89_1 =>
 some (decide (t56 < t89_1)))) else
 (some false))) else
 (some false)) else
 (some false)).bind fun o_3 =>
 if o_3 = true then
 ((ix s_1.r0 t35).bind fun t97 =>
 (some (s_1.r0.set (Int.toNat t35) t56)).bind fun r0 =>
 some (⟨t55.h0_1, t55.h0_2, r0⟩ : Jp)) else
 (some (⟨t55.h0_1, t55.h0_2, s_1.r0⟩ : Jp))).bind fun o_2 =>
 (addc s_1.t33 1).bind fun t98 =>
 some (.inl (⟨t98, o_2.b0_1, o_2.b0_2, o_2.r0⟩ : yc))) else
 (some (.inr (⟨s_1.b0_1, s_1.b0_2, s_1.r0⟩ : Jj)))
def qm (c1 : Channel) (b00 : (List Int)) (s : yd) : Option (yd ⊕ Jk) :=
 if s.t17 < c1.tides then
 ((subc (s.out5.length : Int) 1).bind fun t22 =>
 (ix s.out5 t22).bind fun t23 =>
 (Jz t23).bind fun t25 =>
 (Jz t25).bind fun t27 =>
 (zz b00 s.b0_1 s.b0_2 (t25.length : Int)).bind fun t31 =>
 (iterM FU (qo t31 t27 c1 b00) (⟨0, t31.h0_1, t31.h0_2, t25⟩ : yc)).bind fun o_1 =>
 (appc 24 s.out5 [o_1.r0]).bind fun t102 =>
 (addc s.t17 1).bind fun t103 =>
 some (.inl (⟨t103, o_1.b0_1, o_1.b0_2, t102⟩ : yd))) else
 (some (.inr (⟨s.b0_1, s.b0_2, s.out5⟩ : Jk)))
def qX (b00 : (List Int)) (b01 : Int) (b02 : Int) (c1 : Channel) : Option zj :=
 (Jz c1.fords).bind fun t13 =>
 (iterM FU (qm c1 b00) (⟨0, b01, b02, [t13]⟩ : yd)).bind fun o =>
 some (⟨o.b0_1, o.b0_2, o.out5⟩ : zj)
theorem Qz (b00 : (List Int)) (b01 : Int) (b02 : Int) (c1 : Channel) (pb : Nat) (qa0 : Option Addr) (na0 ca0 : Nat) (qa1 : Option Addr) (na1 ca1 : Nat) (qa2 : Option Addr) (na2 ca2 : Nat) (qa3 : Option Addr) (na3 ca3 : Nat) (w : World) (hw : HV w (keys [kc pb #[.slice qa0 na0 ca0, .int .i64 b01, .int .u32 b02] 199] []) [kc pb #[.slice qa0 na0 ca0, .int .i64 b01, .int .u32 b02] 199] [] [(aB qa0, aO qa0, RU8.enc b00), (aB qa1, aO qa1, RI.enc c1.fords), (aB qa2, aO qa2, RSa.enc c1.sands), (aB qa3, aO qa3, RSi.enc c1.sights)] w) (hna0 : b00.length = na0) (hqa0 : AOK na0 qa0) (hla0 : na0 ≤ ca0) (hna1 : c1.fords.length = na1) (hqa1 : AOK na1 qa1) (hla1 : na1 ≤ ca1) (hna2 : c1.sands.length = na2) (hqa2 : AOK na2 qa2) (hla2 : na2 ≤ ca2) (hna3 : c1.sights.length = na3) (hqa3 : AOK na3 qa3) (hla3 : na3 ≤ ca3) {res : zj} (hm : qX b00 b01 b02 c1 = some res) :
    Calls Tryz.prog 78 #[ptr pb 0, .agg #[.int .i64 c1.cells, .int .i64 c1.tides, .slice qa1 na1 ca1, .slice qa2 na2 ca2, .slice qa3 na3 ca3]] w (fun en w' => ∃ l : DL, en = .returned (sL l.v) ∧ (VOK 1 l.v.n l.v.cap (RwH.enc l.rs) l.v.sp l.v.q ∧ DOK RI res.r0 l.rs) ∧ HV w (keys [kc pb #[.slice qa0 na0 ca0, .int .i64 b01, .int .u32 b02] 199] []) [kc pb #[.slice qa0 na0 ca0, .int .i64 res.b0_1, .int .u32 res.b0_2] 199] [⟨22, RwH.enc l.rs, l.v.sp, l.v.q, dbl 3 RI res.r0 l.rs⟩] [] w') := by
  unfold qX at hm
  refine yb func78 Y ntmps78 Y (e := [(0, _), (1, _)]) Y hw (jp ?_)
  refine jH Y Y (fun b h3 => ?_)
  refine jc Y Y Y (fun _ _ => qc Y) (kE (yr 2 runUnderlying26 Y sizeOf22 Y Y (qP 0 isAgg22 Y Y Y Y ?_)))
  obtain ⟨t13, h4, hm⟩ := bindO hm
  refine jd [] [] Y Y Y Y Y Y Y call46 (fun w hh => QZ c1.fords qa1 na1 ca1 w (HV.callee (S0 := []) (vs0 := []) hh (roR hh 1 Y roN)) hna1 hqa1 hla1 h4) (fun l h5 => ?_)
  have h6 := h5
  refine kt (S' := [_, _]) (vs' := [_]) [0, 1] [0] 0 Y Y Y Y ?_
  refine qx RwH [(⟨l.q, l.n, l.cap, l.sp⟩ : VL)] (ps := [(0, _)]) (cells := [_]) (fun w => runUnderlying41 w) (fun w => sizeOf22 w) (fun w => zeroValue22 w) Y Y Y Y Y Y Y Y (fun L h7 => ?_)
  refine Y5 (E2 := 3) RI 1 (Y : _ = ([[]] : List (List Int))) (fun h8 => ?_)
  refine kt (S' := [_, _]) (vs' := [_, _]) [0, 1] [0, 1] 0 Y Y Y Y ?_
  refine Y2 RI (l' := [t13]) 0 l.n l.cap h8 h6 Y Y (fun h9 => ?_)
  have h10 : DOK RI [t13] [(⟨l.q, l.n, l.cap, l.sp⟩ : VL)] := h9
  refine ZN (S' := [_, _]) (vs' := [⟨22, RwH.enc [(⟨l.q, l.n, l.cap, l.sp⟩ : VL)], L.sp, L.q, dbl 3 RI [t13] [(⟨l.q, l.n, l.cap, l.sp⟩ : VL)]⟩]) [0, 1] [0] 0 (by decide) (by decide) Y Y Y ?_
  refine jm Y Y (jo (ji (jp (yr 1 runUnderlying26 Y sizeOf3 Y Y (qP 0 isAgg3 Y Y Y Y (jg Y Y (jo ?_)))))))
  obtain ⟨o, h11, h12⟩ := bindO hm
  refine jQ (ι := DL) (fun l_1 => VOK 1 l_1.v.n l_1.v.cap (RwH.enc l_1.rs) l_1.v.sp l_1.v.q ∧ DOK RI o.out5 l_1.rs) (fun l_1 => [(5, sL l_1.v)]) (fun l_1 => [kc b #[.int .i64 c1.cells, .int .i64 c1.tides, .slice qa1 na1 ca1, .slice qa2 na2 ca2, .slice qa3 na3 ca3] 26, kc pb #[.slice qa0 na0 ca0, .int .i64 o.b0_1, .int .u32 o.b0_2] 199]) (fun l_1 => [⟨22, RwH.enc l_1.rs, l_1.v.sp, l_1.v.q, dbl 3 RI o.out5 l_1.rs⟩]) ?_ ?_
  ·replace hm := h11
   refine jn ?_
   refine jY (ι := DL) hm (fun s l_2 => VOK 1 l_2.v.n l_2.v.cap (RwH.enc l_2.rs) l_2.v.sp l_2.v.q ∧ DOK RI s.out5 l_2.rs) (fun s l_2 => [(0, ptr pb 0), (3, ptr b 0), (5, sL l_2.v), (16, .int .i64 c1.tides), (17, .int .i64 s.t17)]) (fun s l_2 => [kc b #[.int .i64 c1.cells, .int .i64 c1.tides, .slice qa1 na1 ca1, .slice qa2 na2 ca2, .slice qa3 na3 ca3] 26, kc pb #[.slice qa0 na0 ca0, .int .i64 s.b0_1, .int .u32 s.b0_2] 199]) (fun s l_2 => [⟨22, RwH.enc l_2.rs, l_2.v.sp, l_2.v.q, dbl 3 RI s.out5 l_2.rs⟩]) (⟨⟨L.q, L.n, L.cap, L.sp⟩, [(⟨l.q, l.n, l.cap, l.sp⟩ : VL)]⟩) (⟨h7, h10⟩) (sE Y) (fun w hh => hh) (fun s l_2 r hpl hm h17 => ?_)
   obtain ⟨h15, h16⟩ := hpl
   unfold qm at hm
   refine jp (J2 Y Y Y (jo (ji ?_)))
   refine js Y (fun h18 => ?_) (fun h18 => ?_)
   ·replace hm := ifD h18 hm
    refine ju (ja (ji (jn (jp (jg Y Y (jg Y Y (jc Y Y Y (fun w _ => zu (Eq.trans (h16).len (vlen RwH h15 Y)) (runUnderlying41 w) Y) ?_)))))))
    obtain ⟨t22, h19, hm⟩ := bindO hm
    refine jc Y Y Y (fun _ _ => zx h19 Y Y) ?_
    obtain ⟨t23, h20, hm⟩ := bindO hm
    obtain ⟨L_1, h21, h22⟩ := (h16).row h20
    refine jc Y Y Y (fun w _ => Jx h21 (runUnderlying41 w) (sizeOf22 w) Y Y (vlen RwH h15 Y) (vne h15)) (jc Y Y Y (fun w hh => yU RwH 0 h21 (isAgg22 w) Y (hh.vseg 0 Y h15) Y (Nat.add_zero _).symm) ?_)
    obtain ⟨t25, h23, hm⟩ := bindO hm
    refine jd [] [] Y Y Y Y Y Y Y call46 (fun w hh => QZ t23 (qA L_1.q) L_1.n L_1.cap w (HV.callee (S0 := []) (vs0 := []) hh (roC (hh.dsepA (S0 := []) (vs0 := []) 0 Y h20 h21 h22) roN)) (vlen RI h22 Y) (AOK.q (vne h22)) (h22).hle h23) (fun l_3 h24 => ?_)
    have h25 := h24
    refine kt (S' := [_, _]) (vs' := [_, _]) [0, 1] [0, 1] 0 Y Y Y Y (jm Y Y (kE (jg Y Y ?_)))
    obtain ⟨t27, h26, hm⟩ := bindO hm
    refine jd [] [] Y Y Y Y Y Y Y call46 (fun w hh => QZ t25 (qA l_3.q) l_3.n l_3.cap w (HV.callee (S0 := []) (vs0 := []) hh (roC (hh.vsepA 0 Y h25) roN)) (vlen RI h25 Y) (AOK.q (vne h25)) (h25).hle h26) (fun l_4 h27 => ?_)
    have h28 := h27
    refine kt (S' := [_, _]) (vs' := [_, _, _]) [0, 1] [0, 1, 2] 0 Y Y Y Y (jm Y Y (jo (ji (jp (jg Y Y (jg Y Y (jc Y Y Y (fun w _ => zu (vlen RI h25 Y) (runUnderlying22 w) Y) ?_)))))))
    obtain ⟨t31, h29, hm⟩ := bindO hm
    refine kt (S' := [_, _]) (vs' := [_, _, _]) [1, 0] [0, 1, 2] 0 Y Y Y Y ?_
    refine jd [_] [] Y Y Y Y Y Y Y call69 (fun w hh => YD b00 s.b0_1 s.b0_2 (t25.length : Int) pb qa0 na0 ca0 w (HV.callee (S0 := [_]) (vs0 := []) hh (roR hh 0 Y roN)) hna0 hqa0 hla0 h29) (fun l_5 h30 => ?_)
    have h31 := h30
    refine kt (S' := [_, _]) (vs' := [_, _, _, _]) [0, 1] [0, 1, 2, 3] 0 Y Y Y Y (jc Y Y Y (fun w _ => zu (vlen RI h31 Y) (runUnderlying22 w) Y) (jg Y Y (jo ?_)))
    obtain ⟨o_1, h32, h33⟩ := bindO hm
    refine jQ (ι := Unit) (fun l_6 => VOK 1 l_3.n l_3.cap (RI.enc o_1.r0) l_3.sp l_3.q) (fun l_6 => [(0, ptr pb 0), (3, ptr b 0), (5, sL l_2.v), (6, sL l_3), (16, .int .i64 c1.tides), (17, .int .i64 s.t17)]) (fun l_6 => [kc pb #[.slice qa0 na0 ca0, .int .i64 o_1.b0_1, .int .u32 o_1.b0_2] 199, kc b #[.int .i64 c1.cells, .int .i64 c1.tides, .slice qa1 na1 ca1, .slice qa2 na2 ca2, .slice qa3 na3 ca3] 26]) (fun l_6 => [⟨22, RwH.enc l_2.rs, l_2.v.sp, l_2.v.q, dbl 3 RI s.out5 l_2.rs⟩, vL 3 l_3 (RI.enc o_1.r0)]) ?_ ?_
    ·replace hm := h32
     refine jn ?_
     refine jY (ι := Unit) hm (fun s_1 l_7 => VOK 1 l_3.n l_3.cap (RI.enc s_1.r0) l_3.sp l_3.q) (fun s_1 l_7 => [(0, ptr pb 0), (3, ptr b 0), (5, sL l_2.v), (6, sL l_3), (7, sL l_4), (16, .int .i64 c1.tides), (17, .int .i64 s.t17), (31, sL l_5), (32, .int .i64 (t31.r0.length : Int)), (33, .int .i64 s_1.t33)]) (fun s_1 l_7 => [kc pb #[.slice qa0 na0 ca0, .int .i64 s_1.b0_1, .int .u32 s_1.b0_2] 199, kc b #[.int .i64 c1.cells, .int .i64 c1.tides, .slice qa1 na1 ca1, .slice qa2 na2 ca2, .slice qa3 na3 ca3] 26]) (fun s_1 l_7 => [⟨22, RwH.enc l_2.rs, l_2.v.sp, l_2.v.q, dbl 3 RI s.out5 l_2.rs⟩, vL 3 l_3 (RI.enc s_1.r0), vL 3 l_4 (RI.enc t27), vL 3 l_5 (RI.enc t31.r0)]) () (h25) (sE Y) (hsE [0, 1] [3, 2, 1, 0] 0 Y Y Y Y) (fun s_1 l_7 r_1 hpl hm h36 => ?_)
     have h35 := hpl
     unfold qo at hm
     refine jp (J2 Y Y Y (jo (ji ?_)))
     refine js Y (fun h37 => ?_) (fun h37 => ?_)
     ·replace hm := ifD h37 hm
      refine ju (ja (ji ?_))
      obtain ⟨o_2, h38, h39⟩ := bindO hm
      refine jQ (ι := Unit) (fun l_8 => VOK 1 l_3.n l_3.cap (RI.enc o_2.r0) l_3.sp l_3.q) (fun l_8 => [(0, ptr pb 0), (3, ptr b 0), (5, sL l_2.v), (6, sL l_3), (7, sL l_4), (16, .int .i64 c1.tides), (17, .int .i64 s.t17), (31, sL l_5), (32, .int .i64 (t31.r0.length : Int)), (33, .int .i64 s_1.t33)]) (fun l_8 => [kc pb #[.slice qa0 na0 ca0, .int .i64 o_2.b0_1, .int .u32 o_2.b0_2] 199, kc b #[.int .i64 c1.cells, .int .i64 c1.tides, .slice qa1 na1 ca1, .slice qa2 na2 ca2, .slice qa3 na3 ca3] 26]) (fun l_8 => [⟨22, RwH.enc l_2.rs, l_2.v.sp, l_2.v.q, dbl 3 RI s.out5 l_2.rs⟩, vL 3 l_3 (RI.enc o_2.r0), vL 3 l_4 (RI.enc t27), vL 3 l_5 (RI.enc t31.r0)]) ?_ ?_
      ·replace hm := h38
       refine jn (jp ?_)
       obtain ⟨t35, h41, hm⟩ := bindO hm
       refine jc Y Y Y (fun w _ => Jx h41 (runUnderlying22 w) (sizeOf3 w) Y Y (vlen RI h31 Y) (vne h31)) (jc Y Y Y (fun w hh => yU RI 0 h41 (isAgg3 w) Y (hh.vseg 3 Y h31) Y (Nat.add_zero _).symm) (jm Y Y (jo (ji ?_))))
       refine qr none (.free 0 (.free 1 (.free 2 (.hoist 3 (.free 4 (.hoist 5 (.free 6 (.free 7 (.free 8 (.hoist 9 (.hoist 12 (.free 13 (.free 14 (.free 15 (.hoist 16 (.one 10 (.free 11 (.one 17 (.one 18 (.free 19 (.free 20 .done))))))))))))))))))))) (HV _ _ [kc b #[.int .i64 c1.cells, .int .i64 c1.tides, .slice qa1 na1 ca1, .slice qa2 na2 ca2, .slice qa3 na3 ca3] 26] [⟨22, RwH.enc l_2.rs, l_2.v.sp, l_2.v.q, dbl 3 RI s.out5 l_2.rs⟩, vL 3 l_3 (RI.enc s_1.r0), vL 3 l_4 (RI.enc t27), vL 3 l_5 (RI.enc t31.r0)] _) Y (by decide +kernel) (fun w k hh => hh.draw k) (hsE [1] [0, 1, 2, 3] 0 Y Y Y Y) ?_
       refine zQ Y Y Y (zQ Y Y Y ?_)
       obtain ⟨t39, h42, hm⟩ := bindO hm
       refine jq Y Y Y Y (fun w _ => Jx h42 (runUnderlying22 w) (sizeOf3 w) Y Y (vlen RI h28 Y) (vne h28)) (jA Y Y Y Y (fun w hh => yU RI 0 h42 (isAgg3 w) Y (hh.vseg 2 Y h28) Y (Nat.add_zero _).symm) (zQ Y Y Y (jA Y Y Y Y (fun w hh => jP (vs := [_, _, _, _, _]) (isAgg26 w) (sizeOf26 w) Y (hh.cells 0 Y Y)) (zQ Y Y Y (zQ Y Y Y ?_)))))
       obtain ⟨t45, h43, hm⟩ := bindO hm
       refine jq Y Y Y Y (fun w _ => Jx h43 (runUnderlying22 w) (sizeOf3 w) Y Y (vlen RI h28 Y) (vne h28)) (jA Y Y Y Y (fun w hh => yU RI 0 h43 (isAgg3 w) Y (hh.vseg 2 Y h28) Y (Nat.add_zero _).symm) (jA Y Y Y Y (fun w hh => jP (vs := [_, _, _, _, _]) (isAgg26 w) (sizeOf26 w) Y (hh.cells 0 Y Y)) (zQ Y Y Y (zQ Y Y Y ?_))))
       obtain ⟨t52, h44, hm⟩ := bindO hm
       refine jq Y Y Y Y (fun w _ => Jx h44 (runUnderlying22 w) (sizeOf3 w) Y Y (vlen RI h28 Y) (vne h28)) (jA Y Y Y Y (fun w hh => yU RI 0 h44 (isAgg3 w) Y (hh.vseg 2 Y h28) Y (Nat.add_zero _).symm) (jK Y ?_))
       obtain ⟨t47, h45, hm⟩ := bindO hm
       refine jd [] [] Y Y Y Y Y Y Y call63 (fun w hh => KC c1 t45 qa1 na1 ca1 qa2 na2 ca2 qa3 na3 ca3 w (HV.callee (S0 := []) (vs0 := []) hh (roR hh 1 Y (roR hh 2 Y (roR hh 3 Y roN)))) hna1 hqa1 hla1 hna2 hqa2 hla2 hna3 hqa3 hla3 h45) (fun l_9 h46 => ?_)
       refine jr (hsE [1] [0, 1, 2, 3] 0 Y Y Y Y) ?_
       obtain ⟨t48, h47, hm⟩ := bindO hm
       refine jq Y Y Y Y (fun _ _ => jaI h47 Y) (jK Y ?_)
       obtain ⟨t54, h48, hm⟩ := bindO hm
       refine jd [] [] Y Y Y Y Y Y Y call63 (fun w hh => KC c1 t52 qa1 na1 ca1 qa2 na2 ca2 qa3 na3 ca3 w (HV.callee (S0 := []) (vs0 := []) hh (roR hh 1 Y (roR hh 2 Y (roR hh 3 Y roN)))) hna1 hqa1 hla1 hna2 hqa2 hla2 hna3 hqa3 hla3 h48) (fun l_10 h49 => ?_)
       refine jr (hsE [1] [0, 1, 2, 3] 0 Y Y Y Y) (jK Y ?_)
       obtain ⟨t55, h50, hm⟩ := bindO hm
       refine jd [_] [] Y Y Y Y Y Y Y call145 (fun w hh => Kx b00 s_1.b0_1 s_1.b0_2 t48 t54 pb qa0 na0 ca0 w (HV.callee (S0 := [_]) (vs0 := []) hh (roR hh 0 Y roN)) hna0 hqa0 hla0 h50) (fun l_11 h51 => ?_)
       refine kt (S' := [_, _]) (vs' := [_, _, _, _]) [0, 1] [0, 1, 2, 3] 0 Y Y Y Y (jr (hsE [1] [0, 1, 2, 3] 0 Y Y Y Y) ?_)
       obtain ⟨t56, h52, hm⟩ := bindO hm
       refine jq Y Y Y Y (fun _ _ => Kk h52 Y Y) (jq Y Y Y Y (fun _ _ => kM Y) (ka (ja (ji ?_))))
       obtain ⟨o_3, h53, h54⟩ := bindO hm
       refine jQ (ι := Unit) (fun l_12 => True) (fun l_12 => [(0, ptr pb 0), (3, ptr b 0), (5, sL l_2.v), (6, sL l_3), (7, sL l_4), (9, .int .i64 t35), (10, .int .i64 t56), (16, .int .i64 c1.tides), (17, .int .i64 s.t17), (31, sL l_5), (32, .int .i64 (t31.r0.length : Int)), (33, .int .i64 s_1.t33), (93, .bool o_3)]) (fun l_12 => [kc pb #[.slice qa0 na0 ca0, .int .i64 t55.h0_1, .int .u32 t55.h0_2] 199, kc b #[.int .i64 c1.cells, .int .i64 c1.tides, .slice qa1 na1 ca1, .slice qa2 na2 ca2, .slice qa3 na3 ca3] 26]) (fun l_12 => [⟨22, RwH.enc l_2.rs, l_2.v.sp, l_2.v.q, dbl 3 RI s.out5 l_2.rs⟩, vL 3 l_3 (RI.enc s_1.r0), vL 3 l_4 (RI.enc t27), vL 3 l_5 (RI.enc t31.r0)]) ?_ ?_
       ·replace hm := h53
        refine jh (jg Y Y (jc Y Y Y (fun _ _ => QT Y Y) (jg Y Y ?_)))
        refine jL 59 Y (fun h55 => ?_) (fun h55 => ?_)
        ·replace hm := ifD h55 hm
         refine jb Y Y (jg Y Y (jb Y Y (yr 0 runUnderlying26 Y sizeOf3 Y Y (jb Y Y (qP 1 isAgg3 Y Y Y Y (jb Y Y (J2 Y Y Y ?_)))))))
         refine qq Y Y Y (jg Y Y ?_)
         refine jL 65 Y (fun h56 => ?_) (fun h56 => ?_)
         ·replace hm := ifD h56 hm
          refine jb Y Y (jg Y Y (jb Y Y (jc Y Y Y (fun _ _ => JE Y Y) (jb Y Y (jg Y Y ?_)))))
          refine jL 68 Y (fun h57 => ?_) (fun h57 => ?_)
          ·replace hm := ifD h57 hm
           refine g_k Y Y Y Y (g_k Y Y Y Y (g_k Y Y Y Y (g_k Y Y Y Y (g_k Y Y Y Y (g_k Y Y Y Y (g_k Y Y Y Y (jb Y Y ?_)))))))
           refine qq Y Y Y (qq Y Y Y (jg Y Y (jb Y Y (jg Y Y (jb Y Y (jg Y Y (jb Y Y ?_)))))))
           refine jc Y Y Y (fun w _ => zu (vlen RI h35 Y) (runUnderlying22 w) Y) (jb Y Y ?_)
           obtain ⟨t82, h58, hm⟩ := bindO hm
           refine jc Y Y Y (fun _ _ => zx h58 Y Y) (jb Y Y (jc Y Y Y (fun _ _ => JE Y Y) (jb Y Y (jg Y Y ?_))))
           refine jL 84 Y (fun h59 => ?_) (fun h59 => ?_)
           ·replace hm := ifD h59 hm
            refine g_k Y Y Y Y (g_k Y Y Y Y (g_k Y Y Y Y (g_k Y Y Y Y (g_k Y Y Y Y (g_k Y Y Y Y (g_k Y Y Y Y (jb Y Y ?_)))))))
            refine qq Y Y Y (qq Y Y Y (jt ?_))
            obtain rfl := sj hm
            exact jj () (trivial) (sE Y) (fun w hh => hh)
           replace hm := ifE h59 hm
           refine jb Y Y (jg Y Y (jb Y Y (jg Y Y (jb Y Y (jg Y Y (jb Y Y ?_))))))
           obtain ⟨t88, h60, hm⟩ := bindO hm
           refine JI h60 Y Y Y (jb Y Y ?_)
           obtain ⟨t89, h61, hm⟩ := bindO hm
           refine jc Y Y Y (fun w _ => Jx h61 (runUnderlying22 w) (sizeOf3 w) Y Y (vlen RI h35 Y) (vne h35)) (jb Y Y (jc Y Y Y (fun w hh => yU RI 0 h61 (isAgg3 w) Y (hh.vseg 1 Y h35) Y (Nat.add_zero _).symm) (jb Y Y (J2 Y Y Y (jb Y Y (yS Y Y Y (qq Y Y Y ?_)))))))
           refine jt ?_
           obtain rfl := sj hm
           exact jj () (trivial) (sE Y) (fun w hh => hh)
          replace hm := ifE h57 hm
          refine jb Y Y (jg Y Y (jb Y Y (jg Y Y (jb Y Y (jg Y Y (jb Y Y ?_))))))
          obtain ⟨t72, h62, hm⟩ := bindO hm
          refine jc Y Y Y (fun _ _ => zx h62 Y Y) (jb Y Y ?_)
          obtain ⟨t73, h63, hm⟩ := bindO hm
          refine jc Y Y Y (fun w _ => Jx h63 (runUnderlying22 w) (sizeOf3 w) Y Y (vlen RI h35 Y) (vne h35)) (jb Y Y (jc Y Y Y (fun w hh => yU RI 0 h63 (isAgg3 w) Y (hh.vseg 1 Y h35) Y (Nat.add_zero _).symm) (jb Y Y (jc Y Y Y (fun _ _ => Zr Y Y) (jb Y Y (yS Y Y Y (qq Y Y Y ?_)))))))
          refine jg Y Y ?_
          refine jL 78 Y (fun h64 => ?_) (fun h64 => ?_)
          ·replace hm := ifD h64 hm
           refine jb Y Y (jg Y Y (jb Y Y (jg Y Y (jb Y Y (jc Y Y Y (fun w _ => zu (vlen RI h35 Y) (runUnderlying22 w) Y) (jb Y Y ?_))))))
           obtain ⟨t82_1, h65, hm⟩ := bindO hm
           refine jc Y Y Y (fun _ _ => zx h65 Y Y) (jb Y Y (jc Y Y Y (fun _ _ => JE Y Y) (jb Y Y (jg Y Y ?_))))
           refine jL 84 Y (fun h66 => ?_) (fun h66 => ?_)
           ·replace hm := ifD h66 hm
            refine g_k Y Y Y Y (g_k Y Y Y Y (g_k Y Y Y Y (g_k Y Y Y Y (g_k Y Y Y Y (g_k Y Y Y Y (g_k Y Y Y Y (jb Y Y ?_)))))))
            refine qq Y Y Y (qq Y Y Y (jt ?_))
            obtain rfl := sj hm
            exact jj () (trivial) (sE Y) (fun w hh => hh)
           replace hm := ifE h66 hm
           refine jb Y Y (jg Y Y (jb Y Y (jg Y Y (jb Y Y (jg Y Y (jb Y Y ?_))))))
           obtain ⟨t88_1, h67, hm⟩ := bindO hm
           refine JI h67 Y Y Y (jb Y Y ?_)
           obtain ⟨t89_1, h68, hm⟩ := bindO hm
           refine jc Y Y Y (fun w _ => Jx h68 (runUnderlying22 w) (sizeOf3 w) Y Y (vlen RI h35 Y) (vne h35)) (jb Y Y (jc Y Y Y (fun w hh => yU RI 0 h68 (isAgg3 w) Y (hh.vseg 1 Y h35) Y (Nat.add_zero _).symm) (jb Y Y (J2 Y Y Y (jb Y Y (yS Y Y Y (qq Y Y Y ?_)))))))
           refine jt ?_
           obtain rfl := sj hm
           exact jj () (trivial) (sE Y) (fun w hh => hh)
          replace hm := ifE h64 hm
          refine g_k Y Y Y Y (g_k Y Y Y Y (g_k Y Y Y Y (g_k Y Y Y Y (g_k Y Y Y Y (g_k Y Y Y Y ?_)))))
          refine jB Y Y Y Y Y ?_
          refine jB Y Y Y Y Y ?_
          refine jB Y Y Y Y Y ?_
          refine jB Y Y Y Y Y ?_
          refine jB Y Y Y Y Y ?_
          refine jB Y Y Y Y Y ?_
          refine jB Y Y Y Y Y ?_
          refine g_k Y Y Y Y (yS Y Y Y (jt ?_))
          obtain rfl := sj hm
          exact jj () (trivial) (sE Y) (fun w hh => hh)
         replace hm := ifE h56 hm
         refine g_k Y Y Y Y (g_k Y Y Y Y (g_k Y Y Y Y ?_))
         refine jB Y Y Y Y Y ?_
         refine jB Y Y Y Y Y ?_
         refine jB Y Y Y Y Y ?_
         refine jB Y Y Y Y Y ?_
         refine jB Y Y Y Y Y ?_
         refine jB Y Y Y Y Y ?_
         refine jB Y Y Y Y Y ?_
         refine g_k Y Y Y Y (yS Y Y Y (jg Y Y (g_k Y Y Y Y (g_k Y Y Y Y (g_k Y Y Y Y (g_k Y Y Y Y (g_k Y Y Y Y ?_)))))))
         refine g_k Y Y Y Y ?_
         refine jB Y Y Y Y Y ?_
         refine jB Y Y Y Y Y ?_
         refine jB Y Y Y Y Y ?_
         refine jB Y Y Y Y Y ?_
         refine jB Y Y Y Y Y ?_
         refine jB Y Y Y Y Y ?_
         refine jB Y Y Y Y Y ?_
         refine g_k Y Y Y Y (yS Y Y Y (jt ?_))
         obtain rfl := sj hm
         exact jj () (trivial) (sE Y) (fun w hh => hh)
        replace hm := ifE h55 hm
        refine g_k Y Y Y Y (g_k Y Y Y Y (g_k Y Y Y Y (g_k Y Y Y Y (yS Y Y Y (jg Y Y (g_k Y Y Y Y (g_k Y Y Y Y ?_)))))))
        refine g_k Y Y Y Y ?_
        refine jB Y Y Y Y Y ?_
        refine jB Y Y Y Y Y ?_
        refine jB Y Y Y Y Y ?_
        refine jB Y Y Y Y Y ?_
        refine jB Y Y Y Y Y ?_
        refine jB Y Y Y Y Y ?_
        refine jB Y Y Y Y Y ?_
        refine g_k Y Y Y Y (yS Y Y Y (jg Y Y (g_k Y Y Y Y (g_k Y Y Y Y (g_k Y Y Y Y (g_k Y Y Y Y (g_k Y Y Y Y ?_)))))))
        refine g_k Y Y Y Y ?_
        refine jB Y Y Y Y Y ?_
        refine jB Y Y Y Y Y ?_
        refine jB Y Y Y Y Y ?_
        refine jB Y Y Y Y Y ?_
        refine jB Y Y Y Y Y ?_
        refine jB Y Y Y Y Y ?_
        refine jB Y Y Y Y Y ?_
        refine g_k Y Y Y Y (yS Y Y Y (jt ?_))
        obtain rfl := sj hm
        exact jj () (trivial) (sE Y) (fun w hh => hh)
       intro l_12 hj
       replace hm := h54
       refine ja ?_
       refine js Y (fun h69 => ?_) (fun h69 => ?_)
       ·replace hm := ifT (h69) hm
        refine jh (jg Y Y (jg Y Y (jg Y Y ?_)))
        obtain ⟨t97, h70, hm⟩ := bindO hm
        refine jc Y Y Y (fun w _ => Jx h70 (runUnderlying22 w) (sizeOf3 w) Y Y (vlen RI h35 Y) (vne h35)) ?_
        obtain ⟨r0, hr0, hm⟩ := bindO hm
        refine jaE RI 1 0 t56 (fun w => sizeOf3 w) Y Y Y Y h35 Y (Nat.add_zero _).symm Y h70 Y Y (Option.some.inj hr0) (fun h71 => ?_)
        refine kt (S' := [_, _]) (vs' := [_, _, _, _]) [0, 1] [0, 1, 2, 3] 0 Y Y Y Y (jt (jx ?_))
        obtain rfl := sj hm
        exact jj () (h71) (sE Y) (fun w hh => hh)
       replace hm := ifN h69 hm
       refine ju (jx ?_)
       obtain rfl := sj hm
       exact jj () (h35) (sE Y) (fun w hh => hh)
      intro l_8 hj
      have h40 := hj
      replace hm := h39
      refine ja (jh ?_)
      obtain ⟨t98, h72, hm⟩ := bindO hm
      refine JI h72 Y Y Y (jg Y Y (jt ?_))
      obtain rfl := sj hm
      refine ja ?_
      exact jE _ () Y (h40) (sE Y) (fun w hh => hh)
     replace hm := ifE h37 hm
     refine kn (jl (jl (jG ?_)))
     obtain rfl := sj hm
     have hbo := h36 _ Y
     subst hbo
     exact jj () (h35) (sE Y) (hsE [0, 1] [0, 1] 0 Y Y Y Y)
    intro l_6 hj
    have h34 := hj
    replace hm := h33
    refine ja (jh (jg Y Y (jg Y Y ?_)))
    refine qx RwH [(⟨l_3.q, l_3.n, l_3.cap, l_3.sp⟩ : VL)] (ps := [(0, _)]) (cells := [_]) (fun w => runUnderlying41 w) (fun w => sizeOf22 w) (fun w => zeroValue22 w) Y Y Y Y Y Y Y Y (fun L_2 h73 => ?_)
    refine Y5 (E2 := 3) RI 1 (Y : _ = ([[]] : List (List Int))) (fun h74 => ?_)
    refine kt (S' := [_, _]) (vs' := [_, _, _]) [0, 1] [0, 2, 1] 0 Y Y Y Y ?_
    refine Y2 RI (l' := [o_1.r0]) 0 l_3.n l_3.cap h74 h34 Y Y (fun h75 => ?_)
    have h76 : DOK RI [o_1.r0] [(⟨l_3.q, l_3.n, l_3.cap, l_3.sp⟩ : VL)] := h75
    refine ZN (S' := [_, _]) (vs' := [⟨22, RwH.enc [(⟨l_3.q, l_3.n, l_3.cap, l_3.sp⟩ : VL)], L_2.sp, L_2.q, dbl 3 RI [o_1.r0] [(⟨l_3.q, l_3.n, l_3.cap, l_3.sp⟩ : VL)]⟩, ⟨22, RwH.enc l_2.rs, l_2.v.sp, l_2.v.q, dbl 3 RI s.out5 l_2.rs⟩]) [0, 1] [0, 1] 0 (by decide) (by decide) Y Y Y ?_
    obtain ⟨t102, h77, hm⟩ := bindO hm
    refine Jb RwH 1 (appcL h77 (h16).len (h76).len) underlying41 ZV Y Y Y Y Y h15 Y Y (vlen RwH h73 Y) (AOK.q (vne h73)) (fun w hh => (hh.vsegA 0 Y h73)) Y (fun L_3 h78 _ => ?_)
    refine kt (S' := [_, _]) (vs' := [_, _]) [0, 1] [0, 1] 0 Y Y Y Y (kt (S' := [_, _]) (vs' := [_, _]) [0, 1] [1, 0] 0 Y Y Y Y ?_)
    refine Zy RI h16 h76 (appcO h77).1.symm (fun h79 => ?_)
    refine jm Y Y (jt (jx (ja (jh ?_))))
    obtain ⟨t103, h80, hm⟩ := bindO hm
    refine JI h80 Y Y Y (jg Y Y (jt ?_))
    obtain rfl := sj hm
    refine ja ?_
    exact jE _ (⟨⟨L_3.q, L_3.n, L_3.cap, L_3.sp⟩, (l_2.rs ++ [(⟨l_3.q, l_3.n, l_3.cap, l_3.sp⟩ : VL)])⟩) Y (⟨h78, h79⟩) (sE Y) (hsE [1, 0] [0] 0 Y Y Y Y)
   replace hm := ifE h18 hm
   refine kn (jl (jl (jG ?_)))
   obtain rfl := sj hm
   have hbo := h17 _ Y
   subst hbo
   exact jj l_2 (⟨h15, h16⟩) (sE Y) (fun w hh => hh)
  intro l_1 hj
  obtain ⟨h13, h14⟩ := hj
  replace hm := h12
  refine ja (jp (jg Y Y (jm Y Y (jo (jw ?_)))))
  obtain rfl := sj hm
  refine jk Y (fun w hh => (.tmp Y .nil)) (fun w hh => ⟨l_1, rfl, ⟨h13, h14⟩, hh.se [1] [0] 4 Y Y Y rfl⟩)
structure qf where
  r0 : Channel
  b0_1 : Int
  b0_2 : Int
  r1 : (List (List Int))
structure yF where
  b0_1 : Int
  b0_2 : Int
  c10_fords : (List Int)
structure j4 where
  t22 : Int
  b0_1 : Int
  b0_2 : Int
  c10_fords : (List Int)
structure yA where
  b0_1 : Int
  b0_2 : Int
  c10_fords : (List Int)
structure yz where
  t46 : Bool
  b0_1 : Int
  b0_2 : Int
def qH (t15 : q7) (fords2 : Int) (b00 : (List Int)) (s : j4) : Option (j4 ⊕ yF) :=
 if s.t22 < t15.r0 then
 (((if (s.c10_fords.length : Int) < fords2 then
 ((zk b00 s.b0_1 s.b0_2 3).bind fun t32 =>
 if t32.r0 = true then
 (some (⟨true, t32.h0_1, t32.h0_2⟩ : yz)) else
 ((subc t15.r0 1).bind fun t37 =>
 if s.t22 = t37 then
 (some (⟨(decide ((s.c10_fords.length : Int) = 0)), t32.h0_1, t32.h0_2⟩ : yz)) else
 (some (⟨false, t32.h0_1, t32.h0_2⟩ : yz)))) else
 (some (⟨false, s.b0_1, s.b0_2⟩ : yz))).bind fun o_2 =>
 if o_2.t46 = true then
 ((appc 8 s.c10_fords [s.t22]).bind fun t51 =>
 some (⟨o_2.b0_1, o_2.b0_2, t51⟩ : yA)) else
 (some (⟨o_2.b0_1, o_2.b0_2, s.c10_fords⟩ : yA))).bind fun o_1 =>
 (addc s.t22 1).bind fun t53 =>
 some (.inl (⟨t53, o_1.b0_1, o_1.b0_2, o_1.c10_fords⟩ : j4))) else
 (some (.inr (⟨s.b0_1, s.b0_2, s.c10_fords⟩ : yF)))
structure JZ where
  b0_1 : Int
  b0_2 : Int
  c10_sands : (List Sand)
structure yD where
  t56 : Int
  b0_1 : Int
  b0_2 : Int
  c10_sands : (List Sand)
structure Qi where
  b0_1 : Int
  b0_2 : Int
  c10_sands : (List Sand)
def qK (t55 : yH) (t15 : q7) (b00 : (List Int)) (s_1 : yD) : Option (yD ⊕ JZ) :=
 if s_1.t56 < t55.r0 then
 ((subc t15.r0 1).bind fun t61 =>
 (jO b00 s_1.b0_1 s_1.b0_2 t61).bind fun t62 =>
 ((subc t15.r0 1).bind fun t68 =>
 (jO b00 t62.h0_1 t62.h0_2 4).bind fun t71 =>
 (addc t62.r0 t71.r0).bind fun t72 =>
 (yO b00 t71.h0_1 t71.h0_2 1 2).bind fun t76 =>
 (appc 24 s_1.c10_sands [(⟨(⟨t62.r0, (min t68 t72)⟩ : Span), t76.r0⟩ : Sand)]).bind fun t79 =>
 some (⟨t76.h0_1, t76.h0_2, t79⟩ : Qi)).bind fun o_4 =>
 (addc s_1.t56 1).bind fun t81 =>
 some (.inl (⟨t81, o_4.b0_1, o_4.b0_2, o_4.c10_sands⟩ : yD))) else
 (some (.inr (⟨s_1.b0_1, s_1.b0_2, s_1.c10_sands⟩ : JZ)))
def qM (b00 : (List Int)) (b01 : Int) (b02 : Int) (cells1 : Int) (fords2 : Int) (tides3 : Int) : Option qf :=
 (yO b00 b01 b02 3 cells1).bind fun t15 =>
 (jO b00 t15.h0_1 t15.h0_2 tides3).bind fun t18 =>
 (iterM FU (qH t15 fords2 b00) (⟨0, t18.h0_1, t18.h0_2, []⟩ : j4)).bind fun o =>
 (jO b00 o.b0_1 o.b0_2 4).bind fun t55 =>
 (iterM FU (qK t55 t15 b00) (⟨0, t55.h0_1, t55.h0_2, []⟩ : yD)).bind fun o_3 =>
 (qX b00 o_3.b0_1 o_3.b0_2 (⟨t15.r0, t18.r0, o.c10_fords, o_3.c10_sands, []⟩ : Channel)).bind fun t85 =>
 some (⟨(⟨t15.r0, t18.r0, o.c10_fords, o_3.c10_sands, []⟩ : Channel), t85.b0_1, t85.b0_2, t85.r0⟩ : qf)
theorem QR (b00 : (List Int)) (b01 : Int) (b02 : Int) (cells1 : Int) (fords2 : Int) (tides3 : Int) (pb : Nat) (qa0 : Option Addr) (na0 ca0 : Nat) (w : World) (hw : HV w (keys [kc pb #[.slice qa0 na0 ca0, .int .i64 b01, .int .u32 b02] 199] []) [kc pb #[.slice qa0 na0 ca0, .int .i64 b01, .int .u32 b02] 199] [] [(aB qa0, aO qa0, RU8.enc b00)] w) (hna0 : b00.length = na0) (hqa0 : AOK na0 qa0) (hla0 : na0 ≤ ca0) {res : qf} (hm : qM b00 b01 b02 cells1 fords2 tides3 = some res) :
    Calls Tryz.prog 61 #[ptr pb 0, .int .i64 cells1, .int .i64 fords2, .int .i64 tides3] w (fun en w' => ∃ l : VL × VL × VL × DL, en = .returned (.tuple #[.agg #[.int .i64 res.r0.cells, .int .i64 res.r0.tides, sL l.1, sL l.2.1, sL l.2.2.1], sL l.2.2.2.v]) ∧ (VOK 1 l.1.n l.1.cap (RI.enc res.r0.fords) l.1.sp l.1.q ∧ VOK 3 l.2.1.n l.2.1.cap (RSa.enc res.r0.sands) l.2.1.sp l.2.1.q ∧ VOK 3 l.2.2.1.n l.2.2.1.cap (RSi.enc res.r0.sights) l.2.2.1.sp l.2.2.1.q ∧ VOK 1 l.2.2.2.v.n l.2.2.2.v.cap (RwH.enc l.2.2.2.rs) l.2.2.2.v.sp l.2.2.2.v.q ∧ DOK RI res.r1 l.2.2.2.rs) ∧ HV w (keys [kc pb #[.slice qa0 na0 ca0, .int .i64 b01, .int .u32 b02] 199] []) [kc pb #[.slice qa0 na0 ca0, .int .i64 res.b0_1, .int .u32 res.b0_2] 199] [vL 3 l.1 (RI.enc res.r0.fords), vL 98 l.2.1 (RSa.enc res.r0.sands), vL 55 l.2.2.1 (RSi.enc res.r0.sights), ⟨22, RwH.enc l.2.2.2.rs, l.2.2.2.v.sp, l.2.2.2.v.q, dbl 3 RI res.r1 l.2.2.2.rs⟩] [] w') := by
  unfold qM at hm
  refine yb func61 Y ntmps61 Y (e := [(0, _), (1, _), (2, _), (3, _)]) Y hw (jp ?_)
  refine jv (fun w => zeroValue26 w) Y (fun b h6 => ?_)
  refine jc Y Y Y (fun _ _ => qc Y) (kE (jg Y Y (jg Y Y ?_)))
  obtain ⟨t15, h7, hm⟩ := bindO hm
  refine kt (S' := [_, _]) (vs' := []) [1, 0] [] 0 Y Y Y Y ?_
  refine jd [_] [] Y Y Y Y Y Y Y call145 (fun w hh => Kx b00 b01 b02 3 cells1 pb qa0 na0 ca0 w (HV.callee (S0 := [_]) (vs0 := []) hh (roR hh 0 Y roN)) hna0 hqa0 hla0 h7) (fun l h8 => ?_)
  refine kt (S' := [_, _]) (vs' := []) [0, 1] [] 0 Y Y Y Y (jg Y Y (jg Y Y ?_))
  obtain ⟨t18, h9, hm⟩ := bindO hm
  refine jd [_] [] Y Y Y Y Y Y Y call146 (fun w hh => jZ b00 t15.h0_1 t15.h0_2 tides3 pb qa0 na0 ca0 w (HV.callee (S0 := [_]) (vs0 := []) hh (roR hh 0 Y roN)) hna0 hqa0 hla0 h9) (fun l_1 h10 => ?_)
  refine kt (S' := [_, _]) (vs' := []) [0, 1] [] 0 Y Y Y Y (jc Y Y Y (fun _ _ => kw (vs := [(0, _), (1, _)]) (cells := [_, _, _, _, _]) Y Y) ?_)
  refine jv (fun w => zeroValue26 w) Y (fun b_1 h11 => ?_)
  refine j5 (us := #[_, _, _, _, _]) (cs' := [_, _, _, _, _]) (S' := [_, _, _]) 0 (fun w => sizeOf26 w) Y Y Y Y Y Y Y (jo (ji (jp (yr 0 runUnderlying26 Y sizeOf3 Y Y (qP 0 isAgg3 Y Y Y Y (jg Y Y (jo ?_)))))))
  refine qw 3 ?_
  obtain ⟨o, h12, h13⟩ := bindO hm
  refine jQ (ι := VL) (fun l_2 => VOK 1 l_2.n l_2.cap (RI.enc o.c10_fords) l_2.sp l_2.q) (fun l_2 => [(0, ptr pb 0), (8, ptr b 0), (10, ptr b_1 0)]) (fun l_2 => [kc b_1 #[.int .i64 t15.r0, .int .i64 t18.r0, sL l_2, slv none 0 0, slv none 0 0] 26, kc pb #[.slice qa0 na0 ca0, .int .i64 o.b0_1, .int .u32 o.b0_2] 199, kc b #[.int .i64 0, .int .i64 0, slv none 0 0, slv none 0 0, slv none 0 0] 26]) (fun l_2 => [vL 3 l_2 (RI.enc o.c10_fords)]) ?_ ?_
  ·replace hm := h12
   refine jn ?_
   refine jY (ι := VL) hm (fun s l_3 => VOK 1 l_3.n l_3.cap (RI.enc s.c10_fords) l_3.sp l_3.q) (fun s l_3 => [(0, ptr pb 0), (2, .int .i64 fords2), (8, ptr b 0), (10, ptr b_1 0), (21, .int .i64 t15.r0), (22, .int .i64 s.t22)]) (fun s l_3 => [kc b_1 #[.int .i64 t15.r0, .int .i64 t18.r0, sL l_3, slv none 0 0, slv none 0 0] 26, kc pb #[.slice qa0 na0 ca0, .int .i64 s.b0_1, .int .u32 s.b0_2] 199, kc b #[.int .i64 0, .int .i64 0, slv none 0 0, slv none 0 0, slv none 0 0] 26]) (fun s l_3 => [vL 3 l_3 (RI.enc s.c10_fords)]) ⟨none, 0, 0, []⟩ (VOK.nil) (sE Y) (fun w hh => hh) (fun s l_3 r hpl hm h16 => ?_)
   have h15 := hpl
   unfold qH at hm
   refine jp (J2 Y Y Y (jo (ji ?_)))
   refine js Y (fun h17 => ?_) (fun h17 => ?_)
   ·replace hm := ifD h17 hm
    refine ju (ja (ji ?_))
    obtain ⟨o_1, h18, h19⟩ := bindO hm
    refine jQ (ι := VL) (fun l_4 => VOK 1 l_4.n l_4.cap (RI.enc o_1.c10_fords) l_4.sp l_4.q) (fun l_4 => [(0, ptr pb 0), (2, .int .i64 fords2), (8, ptr b 0), (10, ptr b_1 0), (21, .int .i64 t15.r0), (22, .int .i64 s.t22)]) (fun l_4 => [kc b_1 #[.int .i64 t15.r0, .int .i64 t18.r0, sL l_4, slv none 0 0, slv none 0 0] 26, kc pb #[.slice qa0 na0 ca0, .int .i64 o_1.b0_1, .int .u32 o_1.b0_2] 199, kc b #[.int .i64 0, .int .i64 0, slv none 0 0, slv none 0 0, slv none 0 0] 26]) (fun l_4 => [vL 3 l_4 (RI.enc o_1.c10_fords)]) ?_ ?_
    ·replace hm := h18
     refine jn (jp (jg Y Y (jm Y Y (jo (ji ?_)))))
     obtain ⟨o_2, h21, h22⟩ := bindO hm
     refine jQ (ι := Unit) (fun l_5 => True) (fun l_5 => [(0, ptr pb 0), (2, .int .i64 fords2), (8, ptr b 0), (10, ptr b_1 0), (11, .int .i64 s.t22), (21, .int .i64 t15.r0), (22, .int .i64 s.t22), (46, .bool o_2.t46)]) (fun l_5 => [kc b_1 #[.int .i64 t15.r0, .int .i64 t18.r0, sL l_3, slv none 0 0, slv none 0 0] 26, kc pb #[.slice qa0 na0 ca0, .int .i64 o_2.b0_1, .int .u32 o_2.b0_2] 199, kc b #[.int .i64 0, .int .i64 0, slv none 0 0, slv none 0 0, slv none 0 0] 26]) (fun l_5 => [vL 3 l_3 (RI.enc s.c10_fords)]) ?_ ?_
     ·replace hm := h21
      refine jh (yr 2 runUnderlying26 Y sizeOf22 Y Y (qP 0 isAgg22 Y Y Y Y (jc Y Y Y (fun w _ => zu (vlen RI h15 Y) (runUnderlying22 w) Y) (jg Y Y (J2 Y Y Y (jg Y Y ?_))))))
      refine jL 30 Y (fun h23 => ?_) (fun h23 => ?_)
      ·replace hm := ifD h23 hm
       refine jb Y Y (jg Y Y (jb Y Y ?_))
       obtain ⟨t32, h24, hm⟩ := bindO hm
       refine kt (S' := [_, _, _]) (vs' := [_]) [1, 0, 2] [0] 0 Y Y Y Y ?_
       refine jd [_] [] Y Y Y Y Y Y Y call68 (fun w hh => QJ b00 s.b0_1 s.b0_2 3 pb qa0 na0 ca0 w (HV.callee (S0 := [_]) (vs0 := []) hh (roR hh 0 Y roN)) hna0 hqa0 hla0 h24) (fun l_6 h25 => ?_)
       refine kt (S' := [_, _, _]) (vs' := [_]) [0, 1, 2] [0] 0 Y Y Y Y (jb Y Y (jg Y Y ?_))
       refine jL 33 Y (fun h26 => ?_) (fun h26 => ?_)
       ·replace hm := ifT (h26) hm
        refine g_k Y Y Y Y (g_k Y Y Y Y (g_k Y Y Y Y (g_k Y Y Y Y (g_k Y Y Y Y (g_k Y Y Y Y ?_)))))
        refine jB Y Y Y Y Y ?_
        refine jB Y Y Y Y Y ?_
        refine jB Y Y Y Y Y ?_
        refine jB Y Y Y Y Y ?_
        refine g_k Y Y Y Y (jb Y Y (qq Y Y Y (qq Y Y Y (jt ?_))))
        obtain rfl := sj hm
        exact jj () (trivial) (sE Y) (hsE [1, 0, 2] [0] 0 Y Y Y Y)
       replace hm := ifN h26 hm
       refine jb Y Y (jg Y Y (jb Y Y (yr 0 runUnderlying26 Y sizeOf3 Y Y (jb Y Y (qP 1 isAgg3 Y Y Y Y (jb Y Y ?_))))))
       obtain ⟨t37, h27, hm⟩ := bindO hm
       refine jc Y Y Y (fun _ _ => zx h27 Y Y) (jb Y Y (jc Y Y Y (fun _ _ => JE Y Y) (jb Y Y (jg Y Y ?_))))
       refine jL 39 Y (fun h28 => ?_) (fun h28 => ?_)
       ·replace hm := ifD h28 hm
        refine jb Y Y (yr 2 runUnderlying26 Y sizeOf22 Y Y (jb Y Y (qP 1 isAgg22 Y Y Y Y (jb Y Y (jc Y Y Y (fun w _ => zu (vlen RI h15 Y) (runUnderlying22 w) Y) (jb Y Y (jc Y Y Y (fun _ _ => JE Y Y) ?_)))))))
        refine jb Y Y (qq Y Y Y (jb Y Y (yS Y Y Y (qq Y Y Y (jt ?_)))))
        obtain rfl := sj hm
        exact jj () (trivial) (sE Y) (hsE [1, 0, 2] [0] 0 Y Y Y Y)
       replace hm := ifE h28 hm
       refine g_k Y Y Y Y (g_k Y Y Y Y (g_k Y Y Y Y (g_k Y Y Y Y (jb Y Y (yS Y Y Y (jb Y Y (yS Y Y Y ?_)))))))
       refine qq Y Y Y (jt ?_)
       obtain rfl := sj hm
       exact jj () (trivial) (sE Y) (hsE [1, 0, 2] [0] 0 Y Y Y Y)
      replace hm := ifE h23 hm
      refine g_k Y Y Y Y (g_k Y Y Y Y (g_k Y Y Y Y ?_))
      refine jB Y Y Y Y Y ?_
      refine jB Y Y Y Y Y ?_
      refine jB Y Y Y Y Y ?_
      refine jB Y Y Y Y Y ?_
      refine jB Y Y Y Y Y ?_
      refine jB Y Y Y Y Y ?_
      refine jB Y Y Y Y Y ?_
      refine jB Y Y Y Y Y ?_
      refine jB Y Y Y Y Y ?_
      refine jB Y Y Y Y Y ?_
      refine jB Y Y Y Y Y ?_
      refine g_k Y Y Y Y (yS Y Y Y (jt ?_))
      obtain rfl := sj hm
      exact jj () (trivial) (sE Y) (fun w hh => hh)
     intro l_5 hj
     replace hm := h22
     refine ja ?_
     refine js Y (fun h29 => ?_) (fun h29 => ?_)
     ·replace hm := ifT (h29) hm
      refine jh (yr 2 runUnderlying26 Y sizeOf22 Y Y (qP 0 isAgg22 Y Y Y Y (jg Y Y ?_)))
      refine qx RI [s.t22] (ps := [(0, _)]) (cells := [_]) (fun w => runUnderlying22 w) (fun w => sizeOf3 w) (fun w => zeroValue3 w) Y Y Y Y Y Y Y Y (fun L h30 => ?_)
      obtain ⟨t51, h31, hm⟩ := bindO hm
      refine Jb RI 1 h31 underlying22 Qw Y Y Y Y Y h15 Y Y (vlen RI h30 Y) (AOK.q (vne h30)) (fun w hh => (hh.vsegA 0 Y h30)) Y (fun L_1 h32 h32n => ?_)
      refine kt (S' := [_, _, _]) (vs' := [_, _]) [0, 1, 2] [0, 1] 0 Y Y Y Y (yr 2 runUnderlying26 Y sizeOf22 Y Y (yg (cs' := #[_, _, _, _, _]) (S' := [_, _, _]) 0 (fun w => sizeOf22 w) Y Y Y Y Y Y Y (jt (jx ?_))))
      obtain rfl := sj hm
      exact jj L_1 (h32) (sE Y) (hsE [0, 1, 2] [1] 0 Y Y Y Y)
     replace hm := ifN h29 hm
     refine ju (jx ?_)
     obtain rfl := sj hm
     exact jj l_3 (h15) (sE Y) (fun w hh => hh)
    intro l_4 hj
    have h20 := hj
    replace hm := h19
    refine ja (jh ?_)
    obtain ⟨t53, h33, hm⟩ := bindO hm
    refine JI h33 Y Y Y (jg Y Y (jt ?_))
    obtain rfl := sj hm
    refine ja ?_
    exact jE _ l_4 Y (h20) (sE Y) (fun w hh => hh)
   replace hm := ifE h17 hm
   refine kn (jl (jl (jG ?_)))
   obtain rfl := sj hm
   have hbo := h16 _ Y
   subst hbo
   exact jj l_3 (h15) (sE Y) (fun w hh => hh)
  intro l_2 hj
  have h14 := hj
  replace hm := h13
  refine ja (ji (jp (jg Y Y ?_)))
  obtain ⟨t55, h34, hm⟩ := bindO hm
  refine kt (S' := [_, _, _]) (vs' := [_]) [1, 0, 2] [0] 0 Y Y Y Y ?_
  refine jd [_] [] Y Y Y Y Y Y Y call146 (fun w hh => jZ b00 o.b0_1 o.b0_2 4 pb qa0 na0 ca0 w (HV.callee (S0 := [_]) (vs0 := []) hh (roR hh 0 Y roN)) hna0 hqa0 hla0 h34) (fun l_7 h35 => ?_)
  refine kt (S' := [_, _, _]) (vs' := [_]) [0, 1, 2] [0] 0 Y Y Y Y (jg Y Y (jo (qw 98 ?_)))
  obtain ⟨o_3, h36, h37⟩ := bindO hm
  refine jQ (ι := VL) (fun l_8 => VOK 3 l_8.n l_8.cap (RSa.enc o_3.c10_sands) l_8.sp l_8.q) (fun l_8 => [(0, ptr pb 0), (8, ptr b 0), (10, ptr b_1 0)]) (fun l_8 => [kc pb #[.slice qa0 na0 ca0, .int .i64 o_3.b0_1, .int .u32 o_3.b0_2] 199, kc b_1 #[.int .i64 t15.r0, .int .i64 t18.r0, sL l_2, sL l_8, slv none 0 0] 26, kc b #[.int .i64 0, .int .i64 0, slv none 0 0, slv none 0 0, slv none 0 0] 26]) (fun l_8 => [vL 3 l_2 (RI.enc o.c10_fords), vL 98 l_8 (RSa.enc o_3.c10_sands)]) ?_ ?_
  ·replace hm := h36
   refine jn ?_
   refine jY (ι := VL) hm (fun s_1 l_9 => VOK 3 l_9.n l_9.cap (RSa.enc s_1.c10_sands) l_9.sp l_9.q) (fun s_1 l_9 => [(0, ptr pb 0), (8, ptr b 0), (10, ptr b_1 0), (55, .int .i64 t55.r0), (56, .int .i64 s_1.t56)]) (fun s_1 l_9 => [kc pb #[.slice qa0 na0 ca0, .int .i64 s_1.b0_1, .int .u32 s_1.b0_2] 199, kc b_1 #[.int .i64 t15.r0, .int .i64 t18.r0, sL l_2, sL l_9, slv none 0 0] 26, kc b #[.int .i64 0, .int .i64 0, slv none 0 0, slv none 0 0, slv none 0 0] 26]) (fun s_1 l_9 => [vL 3 l_2 (RI.enc o.c10_fords), vL 98 l_9 (RSa.enc s_1.c10_sands)]) ⟨none, 0, 0, []⟩ (VOK.nil) (sE Y) (hsE [0, 1, 2] [1, 0] 0 Y Y Y Y) (fun s_1 l_9 r_1 hpl hm h40 => ?_)
   have h39 := hpl
   unfold qK at hm
   refine jp (J2 Y Y Y (jo (ji ?_)))
   refine js Y (fun h41 => ?_) (fun h41 => ?_)
   ·replace hm := ifD h41 hm
    refine ju (ja (ji (jn (jp (jg Y Y (yr 0 runUnderlying26 Y sizeOf3 Y Y (qP 1 isAgg3 Y Y Y Y ?_)))))))
    obtain ⟨t61, h42, hm⟩ := bindO hm
    refine jc Y Y Y (fun _ _ => zx h42 Y Y) ?_
    obtain ⟨t62, h43, hm⟩ := bindO hm
    refine jd [_] [] Y Y Y Y Y Y Y call146 (fun w hh => jZ b00 s_1.b0_1 s_1.b0_2 t61 pb qa0 na0 ca0 w (HV.callee (S0 := [_]) (vs0 := []) hh (roR hh 0 Y roN)) hna0 hqa0 hla0 h43) (fun l_10 h44 => ?_)
    refine kt (S' := [_, _, _]) (vs' := [_, _]) [0, 1, 2] [0, 1] 0 Y Y Y Y (jm Y Y (jo ?_))
    obtain ⟨o_4, h45, h46⟩ := bindO hm
    refine jQ (ι := VL) (fun l_11 => VOK 3 l_11.n l_11.cap (RSa.enc o_4.c10_sands) l_11.sp l_11.q) (fun l_11 => [(0, ptr pb 0), (8, ptr b 0), (10, ptr b_1 0), (55, .int .i64 t55.r0), (56, .int .i64 s_1.t56)]) (fun l_11 => [kc pb #[.slice qa0 na0 ca0, .int .i64 o_4.b0_1, .int .u32 o_4.b0_2] 199, kc b_1 #[.int .i64 t15.r0, .int .i64 t18.r0, sL l_2, sL l_11, slv none 0 0] 26, kc b #[.int .i64 0, .int .i64 0, slv none 0 0, slv none 0 0, slv none 0 0] 26]) (fun l_11 => [vL 3 l_2 (RI.enc o.c10_fords), vL 98 l_11 (RSa.enc o_4.c10_sands)]) ?_ ?_
    ·replace hm := h45
     refine qr (some 18) (.free 0 (.hoist 1 (.free 2 (.free 3 (.hoist 4 (.free 5 (.free 6 (.free 7 (.free 12 (.one 8 (.free 9 (.free 10 (.free 11 (.one 13 (.free 14 (.one 15 (.one 16 (.free 17 (.last 18 .done))))))))))))))))))) (HV _ _ [kc b_1 #[.int .i64 t15.r0, .int .i64 t18.r0, sL l_2, sL l_9, slv none 0 0] 26, kc b #[.int .i64 0, .int .i64 0, slv none 0 0, slv none 0 0, slv none 0 0] 26] [vL 3 l_2 (RI.enc o.c10_fords)] _) Y (by decide +kernel) (fun w k hh => hh.draw k) (hsE [1, 2] [0] 0 Y Y Y Y) ?_
     refine KD 3 runUnderlying26 sizeOf23 Y Y Y Y (Qa 0 isAgg23 Y Y Y Y Y (zQ Y Y Y (KD 0 runUnderlying26 sizeOf3 Y Y Y Y (Qa 0 isAgg3 Y Y Y Y Y ?_))))
     obtain ⟨t68, h48, hm⟩ := bindO hm
     refine jq Y Y Y Y (fun _ _ => zx h48 Y Y) (zQ Y Y Y (zQ Y Y Y (zQ Y Y Y (jK Y ?_))))
     obtain ⟨t71, h49, hm⟩ := bindO hm
     refine jd [_] [] Y Y Y Y Y Y Y call146 (fun w hh => jZ b00 t62.h0_1 t62.h0_2 4 pb qa0 na0 ca0 w (HV.callee (S0 := [_]) (vs0 := []) hh (roR hh 0 Y roN)) hna0 hqa0 hla0 h49) (fun l_12 h50 => ?_)
     refine kt (S' := [_, _, _]) (vs' := [_, _]) [0, 1, 2] [0, 1] 0 Y Y Y Y (jr (hsE [1, 2] [0] 0 Y Y Y Y) ?_)
     obtain ⟨t72, h51, hm⟩ := bindO hm
     refine jq Y Y Y Y (fun _ _ => Kk h51 Y Y) (jq Y Y Y Y (fun _ _ => jaJ Y Y) (jq Y Y Y Y (fun _ _ => kw (vs := [(0, _), (1, _)]) (cells := [_, _]) Y Y) (jK Y ?_)))
     obtain ⟨t76, h52, hm⟩ := bindO hm
     refine jd [_] [] Y Y Y Y Y Y Y call145 (fun w hh => Kx b00 t71.h0_1 t71.h0_2 1 2 pb qa0 na0 ca0 w (HV.callee (S0 := [_]) (vs0 := []) hh (roR hh 0 Y roN)) hna0 hqa0 hla0 h52) (fun l_13 h53 => ?_)
     refine kt (S' := [_, _, _]) (vs' := [_, _]) [0, 1, 2] [0, 1] 0 Y Y Y Y (jr (hsE [1, 2] [0] 0 Y Y Y Y) (jq Y Y Y Y (fun _ _ => kw (vs := [(0, _), (1, _)]) (cells := [_, _, _]) Y Y) (jK Y ?_)))
     refine qx RSa [(⟨(⟨t62.r0, (min t68 t72)⟩ : Span), t76.r0⟩ : Sand)] (ps := [(0, _)]) (cells := [_, _, _]) (fun w => runUnderlying23 w) (fun w => sizeOf98 w) (fun w => zeroValue98 w) Y Y Y Y Y Y Y Y (fun L_2 h54 => ?_)
     refine jr (hsE [1, 2] [1] 0 Y Y Y Y) (jK Y ?_)
     obtain ⟨t79, h55, hm⟩ := bindO hm
     refine Jb RSa 2 h55 underlying23 Z8 Y Y Y Y Y h39 Y Y (vlen RSa h54 Y) (AOK.q (vne h54)) (fun w hh => (hh.vsegA 0 Y h54)) Y (fun L_3 h56 h56n => ?_)
     refine kt (S' := [_, _, _]) (vs' := [_, _, _]) [0, 1, 2] [0, 1, 2] 0 Y Y Y Y (jr (hsE [1, 2] [1] 0 Y Y Y Y) (KD 3 runUnderlying26 sizeOf23 Y Y Y Y (YS Y (yg (cs' := #[_, _, _, _, _]) (S' := [_, _, _]) 1 (fun w => sizeOf23 w) Y Y Y Y Y Y Y (Q6 (ka ?_))))))
     obtain rfl := sj hm
     exact jj L_3 (h56) (sE Y) (hsE [0, 1, 2] [1, 2] 0 Y Y Y Y)
    intro l_11 hj
    have h47 := hj
    replace hm := h46
    refine jx (ja (jh ?_))
    obtain ⟨t81, h57, hm⟩ := bindO hm
    refine JI h57 Y Y Y (jg Y Y (jt ?_))
    obtain rfl := sj hm
    refine ja ?_
    exact jE _ l_11 Y (h47) (sE Y) (fun w hh => hh)
   replace hm := ifE h41 hm
   refine kn (jl (jl (jG ?_)))
   obtain rfl := sj hm
   have hbo := h40 _ Y
   subst hbo
   exact jj l_9 (h39) (sE Y) (fun w hh => hh)
  intro l_8 hj
  have h38 := hj
  replace hm := h37
  refine ja (ji ?_)
  refine qr none (.hoist 0 (.free 1 (.hoist 2 (.one 3 (.one 4 (.free 5 .done)))))) (HV _ _ [kc b_1 #[.int .i64 t15.r0, .int .i64 t18.r0, sL l_2, sL l_8, slv none 0 0] 26] [vL 3 l_2 (RI.enc o.c10_fords), vL 98 l_8 (RSa.enc o_3.c10_sands)] _) Y (by decide +kernel) (fun w k hh => hh.draw k) (hsE [1] [0, 1] 0 Y Y Y Y) ?_
  refine jA Y Y Y Y (fun w hh => jP (vs := [_, _, _, _, _]) (isAgg26 w) (sizeOf26 w) Y (hh.cells 0 Y Y)) (zQ Y Y Y (jA Y Y Y Y (fun w hh => jP (vs := [_, _, _, _, _]) (isAgg26 w) (sizeOf26 w) Y (hh.cells 0 Y Y)) (jK Y ?_)))
  obtain ⟨t85, h58, hm⟩ := bindO hm
  refine jd [_] [] Y Y Y Y Y Y Y call78 (fun w hh => Qz b00 o_3.b0_1 o_3.b0_2 (⟨t15.r0, t18.r0, o.c10_fords, o_3.c10_sands, []⟩ : Channel) pb qa0 na0 ca0 (qA l_2.q) l_2.n l_2.cap (qA l_8.q) l_8.n l_8.cap none 0 0 w (HV.callee (S0 := [_]) (vs0 := []) hh (roR hh 0 Y (roC (hh.vsepA 0 Y h14) (roC (hh.vsepA 1 Y h38) (roC ⟨segOK.nil, fun hx => absurd Y hx⟩ roN))))) hna0 hqa0 hla0 (vlen RI h14 Y) (AOK.q (vne h14)) (h14).hle (vlen RSa h38 Y) (AOK.q (vne h38)) (h38).hle Y AOK.nil (Nat.le_refl 0) h58) (fun l_14 h59 => ?_)
  obtain ⟨h60, h61⟩ := h59
  refine kt (S' := [_, _, _]) (vs' := [_, _, _]) [0, 1, 2] [0, 1, 2] 0 Y Y Y Y (jr (hsE [1] [1, 2] 0 Y Y Y Y) (jK Y (j5 (us := #[_, _, _, _, _]) (cs' := [_, _, _, _, _]) (S' := [_, _, _]) 2 (fun w => sizeOf26 w) Y Y Y Y Y Y Y (jr (hsE [1] [1, 2] 0 Y Y Y Y) (jq Y Y Y Y (fun _ _ => kM Y) (ka (ja ?_)))))))
  refine jw (qw 55 ?_)
  obtain rfl := sj hm
  refine jk Y (fun w hh => (.cell Y (loadVar_agg (vs := [_, _, _, _, _]) (isAgg26 _) (sizeOf26 _) (hh.cells 2 Y Y)) (.tmp Y .nil))) (fun w hh => ⟨(l_2, l_8, ⟨none, 0, 0, []⟩, l_14), rfl, ⟨h14, h38, VOK.nil, h60, h61⟩, hh.se [0] [2, 3, 0, 1] 1 Y Y Y rfl⟩)
structure qg where
  b0_1 : Int
  b0_2 : Int
  r0 : (List Sight)
structure zn where
  b0_1 : Int
  b0_2 : Int
  out9 : (List Sight)
structure kX where
  t14 : Int
  b0_1 : Int
  b0_2 : Int
  out9 : (List Sight)
structure Qk where
  s10 : Sight
  b0_1 : Int
  b0_2 : Int
structure JP where
  b0_1 : Int
  b0_2 : Int
  s10_cell : Int
def qB (t13 : yH) (c1 : Channel) (b00 : (List Int)) (course2 : (List (List Int))) (s : kX) : Option (kX ⊕ zn) :=
 if s.t14 < t13.r0 then
 (((subc c1.cells 1).bind fun t23 =>
 (jO b00 s.b0_1 s.b0_2 c1.tides).bind fun t19 =>
 (jO b00 t19.h0_1 t19.h0_2 t23).bind fun t24 =>
 some (⟨(⟨t19.r0, t24.r0, false⟩ : Sight), t24.h0_1, t24.h0_2⟩ : Qk)).bind fun o_1 =>
 ((zk b00 o_1.b0_1 o_1.b0_2 2).bind fun t27 =>
 if t27.r0 = true then
 ((ix course2 o_1.s10.after).bind fun t31 =>
 (subc (c1.fords.length : Int) 1).bind fun t37 =>
 (jO b00 t27.h0_1 t27.h0_2 t37).bind fun t38 =>
 (ix t31 t38.r0).bind fun t39 =>
 some (⟨t38.h0_1, t38.h0_2, t39⟩ : JP)) else
 (some (⟨t27.h0_1, t27.h0_2, o_1.s10.cell⟩ : JP))).bind fun o_2 =>
 (ix course2 o_1.s10.after).bind fun t45 =>
 (jy t45 o_2.s10_cell).bind fun t49 =>
 (appc 24 s.out9 [(⟨o_1.s10.after, o_2.s10_cell, t49⟩ : Sight)]).bind fun t54 =>
 (addc s.t14 1).bind fun t55 =>
 some (.inl (⟨t55, o_2.b0_1, o_2.b0_2, t54⟩ : kX))) else
 (some (.inr (⟨s.b0_1, s.b0_2, s.out9⟩ : zn)))
def qO (b00 : (List Int)) (b01 : Int) (b02 : Int) (c1 : Channel) (course2 : (List (List Int))) (most3 : Int) : Option qg :=
 (jO b00 b01 b02 most3).bind fun t13 =>
 (iterM FU (qB t13 c1 b00 course2) (⟨0, t13.h0_1, t13.h0_2, []⟩ : kX)).bind fun o =>
 some (⟨o.b0_1, o.b0_2, o.out9⟩ : qg)
theorem QW (b00 : (List Int)) (b01 : Int) (b02 : Int) (c1 : Channel) (course2 : (List (List Int))) (most3 : Int) (pb : Nat) (qa0 : Option Addr) (na0 ca0 : Nat) (qa1 : Option Addr) (na1 ca1 : Nat) (qa2 : Option Addr) (na2 ca2 : Nat) (qa3 : Option Addr) (na3 ca3 : Nat) (qa4 : Option Addr) (na4 ca4 : Nat) (ar4 : List AL) (w : World) (hw : HV w (keys [kc pb #[.slice qa0 na0 ca0, .int .i64 b01, .int .u32 b02] 199] []) [kc pb #[.slice qa0 na0 ca0, .int .i64 b01, .int .u32 b02] 199] [] [(aB qa0, aO qa0, RU8.enc b00), (aB qa1, aO qa1, RI.enc c1.fords), (aB qa2, aO qa2, RSa.enc c1.sands), (aB qa3, aO qa3, RSi.enc c1.sights), (aB qa4, aO qa4, RwA.enc ar4)] w) (hna0 : b00.length = na0) (hqa0 : AOK na0 qa0) (hla0 : na0 ≤ ca0) (hna1 : c1.fords.length = na1) (hqa1 : AOK na1 qa1) (hla1 : na1 ≤ ca1) (hna2 : c1.sands.length = na2) (hqa2 : AOK na2 qa2) (hla2 : na2 ≤ ca2) (hna3 : c1.sights.length = na3) (hqa3 : AOK na3 qa3) (hla3 : na3 ≤ ca3) (hna4 : course2.length = na4) (hqa4 : AOK na4 qa4) (hla4 : na4 ≤ ca4) (hda4 : DRO course2 ar4) (hTa4 : ∀ t, t ∈ rsg RI course2 ar4 → segOK w t ∧ (t.2.2 ≠ [] → t.1 ∉ keys [kc pb #[.slice qa0 na0 ca0, .int .i64 b01, .int .u32 b02] 199] [])) {res : qg} (hm : qO b00 b01 b02 c1 course2 most3 = some res) :
    Calls Tryz.prog 67 #[ptr pb 0, .agg #[.int .i64 c1.cells, .int .i64 c1.tides, .slice qa1 na1 ca1, .slice qa2 na2 ca2, .slice qa3 na3 ca3], .slice qa4 na4 ca4, .int .i64 most3] w (fun en w' => ∃ l : VL, en = .returned (sL l) ∧ (VOK 3 l.n l.cap (RSi.enc res.r0) l.sp l.q) ∧ HV w (keys [kc pb #[.slice qa0 na0 ca0, .int .i64 b01, .int .u32 b02] 199] []) [kc pb #[.slice qa0 na0 ca0, .int .i64 res.b0_1, .int .u32 res.b0_2] 199] [vL 55 l (RSi.enc res.r0)] [] w') := by
  unfold qO at hm
  refine yb func67 Y ntmps67 Y (e := [(0, _), (1, _), (2, _), (3, _)]) Y hw (jp ?_)
  refine jH Y Y (fun b h2 => ?_)
  refine jc Y Y Y (fun _ _ => qc Y) (kE (jc Y Y Y (fun _ _ => qc Y) (jo (ji (jp (jg Y Y (jg Y Y ?_)))))))
  obtain ⟨t13, h3, hm⟩ := bindO hm
  refine kt (S' := [_, _]) (vs' := []) [1, 0] [] 0 Y Y Y Y ?_
  refine jd [_] [] Y Y Y Y Y Y Y call146 (fun w hh => jZ b00 b01 b02 most3 pb qa0 na0 ca0 w (HV.callee (S0 := [_]) (vs0 := []) hh (roR hh 0 Y roN)) hna0 hqa0 hla0 h3) (fun l h4 => ?_)
  refine kt (S' := [_, _]) (vs' := []) [0, 1] [] 0 Y Y Y Y (jg Y Y (jo (qw 55 ?_)))
  obtain ⟨o, h5, h6⟩ := bindO hm
  refine jQ (ι := VL) (fun l_1 => VOK 3 l_1.n l_1.cap (RSi.enc o.out9) l_1.sp l_1.q) (fun l_1 => [(9, sL l_1)]) (fun l_1 => [kc pb #[.slice qa0 na0 ca0, .int .i64 o.b0_1, .int .u32 o.b0_2] 199, kc b #[.int .i64 c1.cells, .int .i64 c1.tides, .slice qa1 na1 ca1, .slice qa2 na2 ca2, .slice qa3 na3 ca3] 26]) (fun l_1 => [vL 55 l_1 (RSi.enc o.out9)]) ?_ ?_
  ·replace hm := h5
   refine jn ?_
   refine jY (ι := VL) hm (fun s l_2 => VOK 3 l_2.n l_2.cap (RSi.enc s.out9) l_2.sp l_2.q) (fun s l_2 => [(0, ptr pb 0), (2, .slice qa4 na4 ca4), (5, ptr b 0), (9, sL l_2), (13, .int .i64 t13.r0), (14, .int .i64 s.t14)]) (fun s l_2 => [kc pb #[.slice qa0 na0 ca0, .int .i64 s.b0_1, .int .u32 s.b0_2] 199, kc b #[.int .i64 c1.cells, .int .i64 c1.tides, .slice qa1 na1 ca1, .slice qa2 na2 ca2, .slice qa3 na3 ca3] 26]) (fun s l_2 => [vL 55 l_2 (RSi.enc s.out9)]) ⟨none, 0, 0, []⟩ (VOK.nil) (sE Y) (fun w hh => hh) (fun s l_2 r hpl hm h9 => ?_)
   have h8 := hpl
   unfold qB at hm
   refine jp (J2 Y Y Y (jo (ji ?_)))
   refine js Y (fun h10 => ?_) (fun h10 => ?_)
   ·replace hm := ifD h10 hm
    refine ju (ja (ji (jn (ji ?_))))
    obtain ⟨o_1, h11, h12⟩ := bindO hm
    refine jQ (ι := Nat) (fun l_3 => True) (fun l_3 => [(0, ptr pb 0), (2, .slice qa4 na4 ca4), (5, ptr b 0), (9, sL l_2), (10, ptr l_3 0), (13, .int .i64 t13.r0), (14, .int .i64 s.t14)]) (fun l_3 => [kc pb #[.slice qa0 na0 ca0, .int .i64 o_1.b0_1, .int .u32 o_1.b0_2] 199, kc b #[.int .i64 c1.cells, .int .i64 c1.tides, .slice qa1 na1 ca1, .slice qa2 na2 ca2, .slice qa3 na3 ca3] 26, kc l_3 #[.int .i64 o_1.s10.after, .int .i64 o_1.s10.cell, .bool o_1.s10.upright] 55]) (fun l_3 => [vL 55 l_2 (RSi.enc s.out9)]) ?_ ?_
    ·replace hm := h11
     obtain ⟨t23, h13, hm⟩ := bindO hm
     obtain ⟨t19, h14, hm⟩ := bindO hm
     obtain ⟨t24, h15, hm⟩ := bindO hm
     refine qr none (.free 0 (.free 1 (.hoist 2 (.free 4 (.free 5 (.hoist 6 (.free 7 (.br (.alt 3 (.br (.alt 8 (.free 9 (.one 10 (.one 11 .done))) (.alt 10 (.one 8 (.free 9 (.one 11 .done))) .nil))) (.alt 10 (.one 3 (.one 8 (.free 9 (.one 11 .done)))) .nil)))))))))) (HV _ _ [kc b #[.int .i64 c1.cells, .int .i64 c1.tides, .slice qa1 na1 ca1, .slice qa2 na2 ca2, .slice qa3 na3 ca3] 26] [vL 55 l_2 (RSi.enc s.out9)] _) Y (by decide +kernel) (fun w k hh => hh.draw k) (hsE [1] [0] 0 Y Y Y Y) ?_
     refine zQ Y Y Y (KD 1 runUnderlying26 sizeOf3 Y Y Y Y (Qa 0 isAgg3 Y Y Y Y Y (zQ Y Y Y (KD 0 runUnderlying26 sizeOf3 Y Y Y Y (Qa 0 isAgg3 Y Y Y Y Y (jq Y Y Y Y (fun _ _ => zx h13 Y Y) (Zl ?_)))))))
     refine zM Y ?_ ?_
     ·refine jd [_] [] Y Y Y Y Y Y Y call146 (fun w hh => jZ b00 s.b0_1 s.b0_2 c1.tides pb qa0 na0 ca0 w (HV.callee (S0 := [_]) (vs0 := []) hh (roR hh 0 Y roN)) hna0 hqa0 hla0 h14) (fun l_4 h16 => ?_)
      refine kt (S' := [_, _]) (vs' := [_]) [0, 1] [0] 0 Y Y Y Y (jr (hsE [1] [0] 0 Y Y Y Y) (Zl ?_))
      refine zM Y ?_ ?_
      ·refine jd [_] [] Y Y Y Y Y Y Y call146 (fun w hh => jZ b00 t19.h0_1 t19.h0_2 t23 pb qa0 na0 ca0 w (HV.callee (S0 := [_]) (vs0 := []) hh (roR hh 0 Y roN)) hna0 hqa0 hla0 h15) (fun l_5 h17 => ?_)
       refine kt (S' := [_, _]) (vs' := [_]) [0, 1] [0] 0 Y Y Y Y (jr (hsE [1] [0] 0 Y Y Y Y) (jq Y Y Y Y (fun _ _ => kw (vs := [(0, _), (1, _)]) (cells := [_, _, _]) Y Y) (jK Y ?_)))
       refine jv (fun w => zeroValue55 w) Y (fun b_1 h18 => ?_)
       refine jr (hsE [2] [0] 0 Y Y Y Y) (jK Y (j5 (us := #[_, _, _]) (cs' := [_, _, _]) (S' := [_, _, _]) 0 (fun w => sizeOf55 w) Y Y Y Y Y Y Y (jr (hsE [2] [0] 0 Y Y Y Y) (ka ?_))))
       obtain rfl := sj hm
       exact jj b_1 (trivial) (sE Y) (hsE [1, 2, 0] [0] 0 Y Y Y Y)
      refine zM Y ?_ ?_
      refine jv (fun w => zeroValue55 w) Y (fun b_2 h19 => ?_)
      refine jr (hsE [2] [0] 0 Y Y Y Y) (jK Y (kt (S' := [_, _, _]) (vs' := [_]) [1, 0, 2] [0] 0 Y Y Y Y ?_))
      refine jd [_] [] Y Y Y Y Y Y Y call146 (fun w hh => jZ b00 t19.h0_1 t19.h0_2 t23 pb qa0 na0 ca0 w (HV.callee (S0 := [_]) (vs0 := []) hh (roR hh 0 Y roN)) hna0 hqa0 hla0 h15) (fun l_6 h20 => ?_)
      refine kt (S' := [_, _, _]) (vs' := [_]) [0, 1, 2] [0] 0 Y Y Y Y (jr (hsE [2] [0] 0 Y Y Y Y) (jq Y Y Y Y (fun _ _ => kw (vs := [(0, _), (1, _)]) (cells := [_, _, _]) Y Y) (jK Y (j5 (us := #[_, _, _]) (cs' := [_, _, _]) (S' := [_, _, _]) 1 (fun w => sizeOf55 w) Y Y Y Y Y Y Y (jr (hsE [2] [0] 0 Y Y Y Y) (ka ?_))))))
      obtain rfl := sj hm
      exact jj b_2 (trivial) (sE Y) (hsE [0, 2, 1] [0] 0 Y Y Y Y)
      exact QE
     refine zM Y ?_ ?_
     refine jv (fun w => zeroValue55 w) Y (fun b_3 h21 => ?_)
     refine jr (hsE [2] [0] 0 Y Y Y Y) (jK Y (kt (S' := [_, _, _]) (vs' := [_]) [1, 0, 2] [0] 0 Y Y Y Y ?_))
     refine jd [_] [] Y Y Y Y Y Y Y call146 (fun w hh => jZ b00 s.b0_1 s.b0_2 c1.tides pb qa0 na0 ca0 w (HV.callee (S0 := [_]) (vs0 := []) hh (roR hh 0 Y roN)) hna0 hqa0 hla0 h14) (fun l_7 h22 => ?_)
     refine kt (S' := [_, _, _]) (vs' := [_]) [0, 1, 2] [0] 0 Y Y Y Y (jr (hsE [2] [0] 0 Y Y Y Y) (jK Y ?_))
     refine jd [_] [] Y Y Y Y Y Y Y call146 (fun w hh => jZ b00 t19.h0_1 t19.h0_2 t23 pb qa0 na0 ca0 w (HV.callee (S0 := [_]) (vs0 := []) hh (roR hh 0 Y roN)) hna0 hqa0 hla0 h15) (fun l_8 h23 => ?_)
     refine kt (S' := [_, _, _]) (vs' := [_]) [0, 1, 2] [0] 0 Y Y Y Y (jr (hsE [2] [0] 0 Y Y Y Y) (jq Y Y Y Y (fun _ _ => kw (vs := [(0, _), (1, _)]) (cells := [_, _, _]) Y Y) (jK Y (j5 (us := #[_, _, _]) (cs' := [_, _, _]) (S' := [_, _, _]) 1 (fun w => sizeOf55 w) Y Y Y Y Y Y Y (jr (hsE [2] [0] 0 Y Y Y Y) (ka ?_))))))
     obtain rfl := sj hm
     exact jj b_3 (trivial) (sE Y) (hsE [0, 2, 1] [0] 0 Y Y Y Y)
     exact QE
    intro l_3 hj
    replace hm := h12
    refine ja (ji ?_)
    obtain ⟨o_2, h24, h25⟩ := bindO hm
    refine jQ (ι := Unit) (fun l_9 => True) (fun l_9 => [(0, ptr pb 0), (2, .slice qa4 na4 ca4), (5, ptr b 0), (9, sL l_2), (10, ptr l_3 0), (13, .int .i64 t13.r0), (14, .int .i64 s.t14)]) (fun l_9 => [kc pb #[.slice qa0 na0 ca0, .int .i64 o_2.b0_1, .int .u32 o_2.b0_2] 199, kc b #[.int .i64 c1.cells, .int .i64 c1.tides, .slice qa1 na1 ca1, .slice qa2 na2 ca2, .slice qa3 na3 ca3] 26, kc l_3 #[.int .i64 o_1.s10.after, .int .i64 o_2.s10_cell, .bool o_1.s10.upright] 55]) (fun l_9 => [vL 55 l_2 (RSi.enc s.out9)]) ?_ ?_
    ·replace hm := h24
     refine jp (jg Y Y ?_)
     obtain ⟨t27, h26, hm⟩ := bindO hm
     refine jd [_] [] Y Y Y Y Y Y Y call68 (fun w hh => QJ b00 o_1.b0_1 o_1.b0_2 2 pb qa0 na0 ca0 w (HV.callee (S0 := [_]) (vs0 := []) hh (roR hh 0 Y roN)) hna0 hqa0 hla0 h26) (fun l_10 h27 => ?_)
     refine kt (S' := [_, _, _]) (vs' := [_]) [0, 1, 2] [0] 0 Y Y Y Y (jo ?_)
     refine js Y (fun h28 => ?_) (fun h28 => ?_)
     ·replace hm := ifT (h28) hm
      refine qr (some 14) (.free 0 (.free 1 (.hoist 2 (.free 3 (.hoist 4 (.free 5 (.free 6 (.hoist 7 (.free 8 (.free 9 (.one 10 (.free 11 (.hoist 12 (.free 13 (.last 14 .done))))))))))))))) (HV _ _ [kc b #[.int .i64 c1.cells, .int .i64 c1.tides, .slice qa1 na1 ca1, .slice qa2 na2 ca2, .slice qa3 na3 ca3] 26, kc l_3 #[.int .i64 o_1.s10.after, .int .i64 o_1.s10.cell, .bool o_1.s10.upright] 55] [vL 55 l_2 (RSi.enc s.out9)] _) Y (by decide +kernel) (fun w k hh => hh.draw k) (hsE [1, 2] [0] 0 Y Y Y Y) ?_
      refine zQ Y Y Y (KD 0 runUnderlying55 sizeOf3 Y Y Y Y (Qa 1 isAgg3 Y Y Y Y Y ?_))
      obtain ⟨t31, h29, hm⟩ := bindO hm
      obtain ⟨A, h30, h31, h32, h33⟩ := (hda4).row h29
      refine jq Y Y Y Y (fun w _ => zP h30 (runUnderlying41 w) (sizeOf22 w) Y Y (Eq.trans (hda4).len.symm hna4) hqa4) (jA Y Y Y Y (fun w hh => yU RwA 0 h30 (isAgg22 w) Y (hh.seg 4 Y) Y (Nat.add_zero _).symm) (zQ Y Y Y (KD 2 runUnderlying26 sizeOf22 Y Y Y Y (Qa 0 isAgg22 Y Y Y Y Y (jq Y Y Y Y (fun w _ => qd hna1 (runUnderlying22 w) Y) ?_)))))
      obtain ⟨t37, h34, hm⟩ := bindO hm
      refine jq Y Y Y Y (fun _ _ => zx h34 Y Y) (jK Y ?_)
      obtain ⟨t38, h35, hm⟩ := bindO hm
      refine jd [_] [] Y Y Y Y Y Y Y call146 (fun w hh => jZ b00 t27.h0_1 t27.h0_2 t37 pb qa0 na0 ca0 w (HV.callee (S0 := [_]) (vs0 := []) hh (roR hh 0 Y roN)) hna0 hqa0 hla0 h35) (fun l_11 h36 => ?_)
      refine kt (S' := [_, _, _]) (vs' := [_]) [0, 1, 2] [0] 0 Y Y Y Y (jr (hsE [1, 2] [0] 0 Y Y Y Y) ?_)
      obtain ⟨t39, h37, hm⟩ := bindO hm
      refine jq Y Y Y Y (fun w _ => zP h37 (runUnderlying22 w) (sizeOf3 w) Y Y h31 h32) (jA Y Y Y Y (fun w hh => yU RI 0 h37 (isAgg3 w) Y (hh.oldseg (hTa4 _ (rsg_ix h29 h30))) Y (Nat.add_zero _).symm) (KD 1 runUnderlying55 sizeOf3 Y Y Y Y (YS Y (yg (cs' := #[_, _, _]) (S' := [_, _, _]) 2 (fun w => sizeOf3 w) Y Y Y Y Y Y Y (Q6 (ka ?_))))))
      obtain rfl := sj hm
      exact jj () (trivial) (sE Y) (fun w hh => hh)
     replace hm := ifN h28 hm
     refine ju ?_
     obtain rfl := sj hm
     exact jj () (trivial) (sE Y) (fun w hh => hh)
    intro l_9 hj
    replace hm := h25
    refine ja (ji ?_)
    refine qr (some 9) (.free 0 (.free 1 (.hoist 2 (.free 3 (.hoist 4 (.free 5 (.hoist 6 (.one 7 (.free 8 (.last 9 .done)))))))))) _ Y (by decide +kernel) (fun w k hh => hh.draw k) (fun w hh => hh) ?_
    refine zQ Y Y Y (KD 0 runUnderlying55 sizeOf3 Y Y Y Y (Qa 2 isAgg3 Y Y Y Y Y ?_))
    obtain ⟨t45, h38, hm⟩ := bindO hm
    obtain ⟨A_1, h39, h40, h41, h42⟩ := (hda4).row h38
    refine jq Y Y Y Y (fun w _ => zP h39 (runUnderlying41 w) (sizeOf22 w) Y Y (Eq.trans (hda4).len.symm hna4) hqa4) (jA Y Y Y Y (fun w hh => yU RwA 0 h39 (isAgg22 w) Y (hh.seg 4 Y) Y (Nat.add_zero _).symm) (KD 1 runUnderlying55 sizeOf3 Y Y Y Y (Qa 2 isAgg3 Y Y Y Y Y (jK Y ?_))))
    obtain ⟨t49, h43, hm⟩ := bindO hm
    refine jd [] [] Y Y Y Y Y Y Y call64 (fun w hh => jJ t45 o_2.s10_cell A_1.a A_1.n A_1.cap w (HV.callee (S0 := []) (vs0 := []) hh (roC (hh.oldsep (S0 := []) (vs0 := []) (hTa4 _ (rsg_ix h38 h39))) roN)) h40 h41 h42 h43) (fun l_12 h44 => ?_)
    refine jr (fun w hh => hh) (KD 2 runUnderlying55 sizeOf4 Y Y Y Y (YS Y (yg (cs' := #[_, _, _]) (S' := [_, _, _]) 2 (fun w => sizeOf4 w) Y Y Y Y Y Y Y (Q6 (ka (ja (jh ?_)))))))
    refine jg Y Y (zf [_, _, _] 2 isAgg55 sizeOf55 Y Y Y Y ?_)
    refine qx RSi [(⟨o_1.s10.after, o_2.s10_cell, t49⟩ : Sight)] (ps := [(0, _)]) (cells := [_, _, _]) (fun w => runUnderlying24 w) (fun w => sizeOf55 w) (fun w => zeroValue55 w) Y Y Y Y Y Y Y Y (fun L h45 => ?_)
    obtain ⟨t54, h46, hm⟩ := bindO hm
    refine Jb RSi 1 h46 underlying24 Zv Y Y Y Y Y h8 Y Y (vlen RSi h45 Y) (AOK.q (vne h45)) (fun w hh => (hh.vsegA 0 Y h45)) Y (fun L_1 h47 h47n => ?_)
    refine kt (S' := [_, _, _]) (vs' := [_, _]) [0, 1, 2] [0, 1] 0 Y Y Y Y (jm Y Y (jt (jx (ja (jh ?_)))))
    obtain ⟨t55, h48, hm⟩ := bindO hm
    refine JI h48 Y Y Y (jg Y Y (jt ?_))
    obtain rfl := sj hm
    refine ja ?_
    exact jE _ L_1 Y (h47) (sE Y) (hsE [0, 1] [1] 0 Y Y Y Y)
   replace hm := ifE h10 hm
   refine kn (jl (jl (jG ?_)))
   obtain rfl := sj hm
   have hbo := h9 _ Y
   subst hbo
   exact jj l_2 (h8) (sE Y) (fun w hh => hh)
  intro l_1 hj
  have h7 := hj
  replace hm := h6
  refine ja (jp (jg Y Y (jm Y Y (jo (jw ?_)))))
  obtain rfl := sj hm
  refine jk Y (fun w hh => (.tmp Y .nil)) (fun w hh => ⟨l_1, rfl, h7, hh.se [0] [0] 5 Y Y Y rfl⟩)
end Go.Proofs.Wb

namespace Go.Proofs.Wb
set_option maxHeartbeats 4000000
set_option maxRecDepth 100000
open Go Go.Fw Go.Gx Go.Sb
open Tryz
set_option linter.unusedVariables false

def qU (x0 : Int) (a11 : (List Int)) : Option Bool :=
 (jy a11 x0).bind fun t6 =>
 some (!t6)
theorem KG (x0 : Int) (a11 : (List Int)) (rb : Nat) (qa1 : Option Addr) (na1 ca1 : Nat) (w : World) (hw : HV w (keys [] []) [] [] [(rb, 0, [.slice qa1 na1 ca1]), (aB qa1, aO qa1, RI.enc a11)] w)  (hna1 : a11.length = na1) (hqa1 : AOK na1 qa1) (hla1 : na1 ≤ ca1) {res : Bool} (hm : qU x0 a11 = some res) :
    Calls Tryz.prog 75 #[.int .i64 x0, ptr rb 0] w (fun en w' => ∃ l : Unit, en = .returned (.bool res) ∧ (True) ∧ HV w (keys [] []) [] [] [] w') := by
  unfold qU at hm
  refine yb func75 Y ntmps75 Y (e := [(0, _), (1, _)]) Y hw (jp (jm Y Y (kE (jc Y Y Y (fun w hh => jC (isAgg22 w) Y (segCell (hh.seg 0 Y) 0 Y)) (jg Y Y ?_)))))
  obtain ⟨t6, h1, hm⟩ := bindO hm
  refine jd [] [] Y Y Y Y Y Y Y call64 (fun w hh => jJ a11 x0 qa1 na1 ca1 w (HV.callee (S0 := []) (vs0 := []) hh (roR hh 1 Y roN)) hna1 hqa1 hla1 h1) (fun l h2 => ?_)
  refine jc Y Y Y (fun _ _ => y9 Y) (jm Y Y (jo (jw ?_)))
  obtain rfl := sj hm
  refine jk Y (fun w hh => (.tmp Y .nil)) (fun w hh => ⟨(), rfl, trivial, hh.se [] [] 2 Y Y Y rfl⟩)
def qa (s0 : (List Int)) (f1_c0 : (List Int)) (s : Int) : Option (Int ⊕ (Unit ⊕ Int)) :=
 if s < (s0.length : Int) then
 ((ix s0 s).bind fun t14 =>
 (qU t14 f1_c0).bind fun t16 =>
 if t16 = true then
 (some (.inr (.inr s))) else
 ((addc s 1).bind fun t18 =>
 some (.inl t18))) else
 (some (.inr (.inl ())))
def yB (s0 : (List Int)) (f1_c0 : (List Int)) : Option Int :=
 (iterM FU (qa s0 f1_c0) 0).bind fun o =>
 oc o (fun j => some (-1)) (fun r_1 => some r_1)
theorem Qr (s0 : (List Int)) (f1_c0 : (List Int)) (qa0 : Option Addr) (na0 ca0 : Nat) (rb : Nat) (qa2 : Option Addr) (na2 ca2 : Nat) (w : World) (hw : HV w (keys [] []) [] [] [(aB qa0, aO qa0, RI.enc s0), (rb, 0, [.slice qa2 na2 ca2]), (aB qa2, aO qa2, RI.enc f1_c0)] w) (hna0 : s0.length = na0) (hqa0 : AOK na0 qa0) (hla0 : na0 ≤ ca0)  (hna2 : f1_c0.length = na2) (hqa2 : AOK na2 qa2) (hla2 : na2 ≤ ca2) {res : Int} (hm : yB s0 f1_c0 = some res) :
    Calls Tryz.prog 148 #[.slice qa0 na0 ca0, .func (.func 75) #[] #[ptr rb 0]] w (fun en w' => ∃ l : Unit, en = .returned (.int .i64 res) ∧ (True) ∧ HV w (keys [] []) [] [] [] w') := by
  unfold yB at hm
  refine yb func148 Y ntmps148 Y (e := [(0, _), (1, _)]) Y hw (jp (jm Y Y (jo (ji (jp (jg Y Y (jc Y Y Y (fun w _ => qd hna0 (runUnderlying22 w) Y) ?_)))))))
  refine jg Y Y (jo ?_)
  obtain ⟨o, h1, h2⟩ := bindO hm
  refine jQ (ι := Unit) (fun j => o = .inl j) (fun j => []) (fun j => []) (fun j => []) ?_ ?_
  ·replace hm := h1
   refine jn ?_
   refine jY (ι := Unit) hm (fun s l => True) (fun s l => [(0, .slice qa0 na0 ca0), (1, .func (.func 75) #[] #[ptr rb 0]), (7, .int .i64 (s0.length : Int)), (8, .int .i64 s)]) (fun s l => []) (fun s l => []) () (trivial) (sE Y) (fun w hh => hh) (fun s l r hpl hm h3 => ?_)
   unfold qa at hm
   refine jp (J2 Y Y Y (jo (ji ?_)))
   refine js Y (fun h4 => ?_) (fun h4 => ?_)
   ·replace hm := ifD h4 hm
    refine ju (ja (ji (jn (jp (jg Y Y (jm Y Y (kE ?_)))))))
    refine jg Y Y (jg Y Y (jg Y Y ?_))
    obtain ⟨t14, h5, hm⟩ := bindO hm
    refine jc Y Y Y (fun w _ => zP h5 (runUnderlying22 w) (sizeOf3 w) Y Y hna0 hqa0) (jc Y Y Y (fun w hh => yU RI 0 h5 (isAgg3 w) Y (hh.seg 0 Y) Y (Nat.add_zero _).symm) ?_)
    obtain ⟨t16, h6, hm⟩ := bindO hm
    refine jd [] [] Y Y Y Y Y Y Y call75 (fun w hh => KG t14 f1_c0 rb qa2 na2 ca2 w (HV.callee (S0 := []) (vs0 := []) hh (roR hh 1 Y (roR hh 2 Y roN))) hna2 hqa2 hla2 h6) (fun l_1 h7 => ?_)
    refine jo ?_
    refine js Y (fun h8 => ?_) (fun h8 => ?_)
    ·replace hm := ifT (h8) hm
     refine jp (jg Y Y (jm Y Y (jo (jw (jz (je (je ?_)))))))
     refine jz ?_
     obtain rfl := sj hm
     have hbo := h3 _ Y
     subst hbo
     refine je ?_
     replace hm := ocR h2
     refine je ?_
     obtain rfl := sj hm
     refine jk Y (fun w hh => (.tmp Y .nil)) (fun w hh => ⟨(), rfl, trivial, hh.se [] [] 3 Y Y Y rfl⟩)
    replace hm := ifN h8 hm
    refine ju (jx (ja (jh ?_)))
    obtain ⟨t18, h9, hm⟩ := bindO hm
    refine JI h9 Y Y Y (jg Y Y (jt ?_))
    obtain rfl := sj hm
    refine ja ?_
    exact jE _ () Y (trivial) (sE Y) (fun w hh => hh)
   replace hm := ifE h4 hm
   refine kn (jl (jl (jG ?_)))
   obtain rfl := sj hm
   have hbo := h3 _ Y
   subst hbo
   exact jj () (Y) (.nil) (fun w hh => hh)
  intro j hj
  have h10 := hj
  subst h10
  replace hm := ocL h2
  refine ja (jp (jm Y Y (jo (jw ?_))))
  obtain rfl := sj hm
  refine jk Y (fun w hh => (.tmp Y .nil)) (fun w hh => ⟨(), rfl, trivial, hh.se [] [] 3 Y Y Y rfl⟩)
def k6 (s0 : (List Int)) (f1_c0 : (List Int)) : Option Bool :=
 (yB s0 f1_c0).bind fun t7 =>
 some (decide (0 ≤ t7))
theorem KO (s0 : (List Int)) (f1_c0 : (List Int)) (qa0 : Option Addr) (na0 ca0 : Nat) (rb : Nat) (qa2 : Option Addr) (na2 ca2 : Nat) (w : World) (hw : HV w (keys [] []) [] [] [(aB qa0, aO qa0, RI.enc s0), (rb, 0, [.slice qa2 na2 ca2]), (aB qa2, aO qa2, RI.enc f1_c0)] w) (hna0 : s0.length = na0) (hqa0 : AOK na0 qa0) (hla0 : na0 ≤ ca0)  (hna2 : f1_c0.length = na2) (hqa2 : AOK na2 qa2) (hla2 : na2 ≤ ca2) {res : Bool} (hm : k6 s0 f1_c0 = some res) :
    Calls Tryz.prog 65 #[.slice qa0 na0 ca0, .func (.func 75) #[] #[ptr rb 0]] w (fun en w' => ∃ l : Unit, en = .returned (.bool res) ∧ (True) ∧ HV w (keys [] []) [] [] [] w') := by
  unfold k6 at hm
  refine yb func65 Y ntmps65 Y (e := [(0, _), (1, _)]) Y hw (jp (jm Y Y (kE (jg Y Y (jg Y Y ?_)))))
  obtain ⟨t7, h1, hm⟩ := bindO hm
  refine jd [] [] Y Y Y Y Y Y Y call148 (fun w hh => Qr s0 f1_c0 qa0 na0 ca0 rb qa2 na2 ca2 w (HV.callee (S0 := []) (vs0 := []) hh (roR hh 0 Y (roR hh 1 Y (roR hh 2 Y roN)))) hna0 hqa0 hla0 hna2 hqa2 hla2 h1) (fun l h2 => ?_)
  refine jc Y Y Y (fun _ _ => QT Y Y) (jm Y Y (jo (jw ?_)))
  obtain rfl := sj hm
  refine jk Y (fun w hh => (.tmp Y .nil)) (fun w hh => ⟨(), rfl, trivial, hh.se [] [] 3 Y Y Y rfl⟩)
def qT (x0 : Int) (a11 : (List Int)) : Option Bool :=
 (jy a11 x0).bind fun t6 =>
 some (!t6)
theorem KL (x0 : Int) (a11 : (List Int)) (rb : Nat) (qa1 : Option Addr) (na1 ca1 : Nat) (w : World) (hw : HV w (keys [] []) [] [] [(rb, 0, [.slice qa1 na1 ca1]), (aB qa1, aO qa1, RI.enc a11)] w)  (hna1 : a11.length = na1) (hqa1 : AOK na1 qa1) (hla1 : na1 ≤ ca1) {res : Bool} (hm : qT x0 a11 = some res) :
    Calls Tryz.prog 76 #[.int .i64 x0, ptr rb 0] w (fun en w' => ∃ l : Unit, en = .returned (.bool res) ∧ (True) ∧ HV w (keys [] []) [] [] [] w') := by
  unfold qT at hm
  refine yb func76 Y ntmps76 Y (e := [(0, _), (1, _)]) Y hw (jp (jm Y Y (kE (jc Y Y Y (fun w hh => jC (isAgg22 w) Y (segCell (hh.seg 0 Y) 0 Y)) (jg Y Y ?_)))))
  obtain ⟨t6, h1, hm⟩ := bindO hm
  refine jd [] [] Y Y Y Y Y Y Y call64 (fun w hh => jJ a11 x0 qa1 na1 ca1 w (HV.callee (S0 := []) (vs0 := []) hh (roR hh 1 Y roN)) hna1 hqa1 hla1 h1) (fun l h2 => ?_)
  refine jc Y Y Y (fun _ _ => y9 Y) (jm Y Y (jo (jw ?_)))
  obtain rfl := sj hm
  refine jk Y (fun w hh => (.tmp Y .nil)) (fun w hh => ⟨(), rfl, trivial, hh.se [] [] 2 Y Y Y rfl⟩)
def k9 (s0 : (List Int)) (f1_c0 : (List Int)) (s : Int) : Option (Int ⊕ (Unit ⊕ Int)) :=
 if s < (s0.length : Int) then
 ((ix s0 s).bind fun t14 =>
 (qT t14 f1_c0).bind fun t16 =>
 if t16 = true then
 (some (.inr (.inr s))) else
 ((addc s 1).bind fun t18 =>
 some (.inl t18))) else
 (some (.inr (.inl ())))
def yE (s0 : (List Int)) (f1_c0 : (List Int)) : Option Int :=
 (iterM FU (k9 s0 f1_c0) 0).bind fun o =>
 oc o (fun j => some (-1)) (fun r_1 => some r_1)
theorem Qm (s0 : (List Int)) (f1_c0 : (List Int)) (qa0 : Option Addr) (na0 ca0 : Nat) (rb : Nat) (qa2 : Option Addr) (na2 ca2 : Nat) (w : World) (hw : HV w (keys [] []) [] [] [(aB qa0, aO qa0, RI.enc s0), (rb, 0, [.slice qa2 na2 ca2]), (aB qa2, aO qa2, RI.enc f1_c0)] w) (hna0 : s0.length = na0) (hqa0 : AOK na0 qa0) (hla0 : na0 ≤ ca0)  (hna2 : f1_c0.length = na2) (hqa2 : AOK na2 qa2) (hla2 : na2 ≤ ca2) {res : Int} (hm : yE s0 f1_c0 = some res) :
    Calls Tryz.prog 148 #[.slice qa0 na0 ca0, .func (.func 76) #[] #[ptr rb 0]] w (fun en w' => ∃ l : Unit, en = .returned (.int .i64 res) ∧ (True) ∧ HV w (keys [] []) [] [] [] w') := by
  unfold yE at hm
  refine yb func148 Y ntmps148 Y (e := [(0, _), (1, _)]) Y hw (jp (jm Y Y (jo (ji (jp (jg Y Y (jc Y Y Y (fun w _ => qd hna0 (runUnderlying22 w) Y) ?_)))))))
  refine jg Y Y (jo ?_)
  obtain ⟨o, h1, h2⟩ := bindO hm
  refine jQ (ι := Unit) (fun j => o = .inl j) (fun j => []) (fun j => []) (fun j => []) ?_ ?_
  ·replace hm := h1
   refine jn ?_
   refine jY (ι := Unit) hm (fun s l => True) (fun s l => [(0, .slice qa0 na0 ca0), (1, .func (.func 76) #[] #[ptr rb 0]), (7, .int .i64 (s0.length : Int)), (8, .int .i64 s)]) (fun s l => []) (fun s l => []) () (trivial) (sE Y) (fun w hh => hh) (fun s l r hpl hm h3 => ?_)
   unfold k9 at hm
   refine jp (J2 Y Y Y (jo (ji ?_)))
   refine js Y (fun h4 => ?_) (fun h4 => ?_)
   ·replace hm := ifD h4 hm
    refine ju (ja (ji (jn (jp (jg Y Y (jm Y Y (kE ?_)))))))
    refine jg Y Y (jg Y Y (jg Y Y ?_))
    obtain ⟨t14, h5, hm⟩ := bindO hm
    refine jc Y Y Y (fun w _ => zP h5 (runUnderlying22 w) (sizeOf3 w) Y Y hna0 hqa0) (jc Y Y Y (fun w hh => yU RI 0 h5 (isAgg3 w) Y (hh.seg 0 Y) Y (Nat.add_zero _).symm) ?_)
    obtain ⟨t16, h6, hm⟩ := bindO hm
    refine jd [] [] Y Y Y Y Y Y Y call76 (fun w hh => KL t14 f1_c0 rb qa2 na2 ca2 w (HV.callee (S0 := []) (vs0 := []) hh (roR hh 1 Y (roR hh 2 Y roN))) hna2 hqa2 hla2 h6) (fun l_1 h7 => ?_)
    refine jo ?_
    refine js Y (fun h8 => ?_) (fun h8 => ?_)
    ·replace hm := ifT (h8) hm
     refine jp (jg Y Y (jm Y Y (jo (jw (jz (je (je ?_)))))))
     refine jz ?_
     obtain rfl := sj hm
     have hbo := h3 _ Y
     subst hbo
     refine je ?_
     replace hm := ocR h2
     refine je ?_
     obtain rfl := sj hm
     refine jk Y (fun w hh => (.tmp Y .nil)) (fun w hh => ⟨(), rfl, trivial, hh.se [] [] 3 Y Y Y rfl⟩)
    replace hm := ifN h8 hm
    refine ju (jx (ja (jh ?_)))
    obtain ⟨t18, h9, hm⟩ := bindO hm
    refine JI h9 Y Y Y (jg Y Y (jt ?_))
    obtain rfl := sj hm
    refine ja ?_
    exact jE _ () Y (trivial) (sE Y) (fun w hh => hh)
   replace hm := ifE h4 hm
   refine kn (jl (jl (jG ?_)))
   obtain rfl := sj hm
   have hbo := h3 _ Y
   subst hbo
   exact jj () (Y) (.nil) (fun w hh => hh)
  intro j hj
  have h10 := hj
  subst h10
  replace hm := ocL h2
  refine ja (jp (jm Y Y (jo (jw ?_))))
  obtain rfl := sj hm
  refine jk Y (fun w hh => (.tmp Y .nil)) (fun w hh => ⟨(), rfl, trivial, hh.se [] [] 3 Y Y Y rfl⟩)
def k8 (s0 : (List Int)) (f1_c0 : (List Int)) : Option Bool :=
 (yE s0 f1_c0).bind fun t7 =>
 some (decide (0 ≤ t7))
theorem KF (s0 : (List Int)) (f1_c0 : (List Int)) (qa0 : Option Addr) (na0 ca0 : Nat) (rb : Nat) (qa2 : Option Addr) (na2 ca2 : Nat) (w : World) (hw : HV w (keys [] []) [] [] [(aB qa0, aO qa0, RI.enc s0), (rb, 0, [.slice qa2 na2 ca2]), (aB qa2, aO qa2, RI.enc f1_c0)] w) (hna0 : s0.length = na0) (hqa0 : AOK na0 qa0) (hla0 : na0 ≤ ca0)  (hna2 : f1_c0.length = na2) (hqa2 : AOK na2 qa2) (hla2 : na2 ≤ ca2) {res : Bool} (hm : k8 s0 f1_c0 = some res) :
    Calls Tryz.prog 65 #[.slice qa0 na0 ca0, .func (.func 76) #[] #[ptr rb 0]] w (fun en w' => ∃ l : Unit, en = .returned (.bool res) ∧ (True) ∧ HV w (keys [] []) [] [] [] w') := by
  unfold k8 at hm
  refine yb func65 Y ntmps65 Y (e := [(0, _), (1, _)]) Y hw (jp (jm Y Y (kE (jg Y Y (jg Y Y ?_)))))
  obtain ⟨t7, h1, hm⟩ := bindO hm
  refine jd [] [] Y Y Y Y Y Y Y call148 (fun w hh => Qm s0 f1_c0 qa0 na0 ca0 rb qa2 na2 ca2 w (HV.callee (S0 := []) (vs0 := []) hh (roR hh 0 Y (roR hh 1 Y (roR hh 2 Y roN)))) hna0 hqa0 hla0 hna2 hqa2 hla2 h1) (fun l h2 => ?_)
  refine jc Y Y Y (fun _ _ => QT Y Y) (jm Y Y (jo (jw ?_)))
  obtain rfl := sj hm
  refine jk Y (fun w hh => (.tmp Y .nil)) (fun w hh => ⟨(), rfl, trivial, hh.se [] [] 3 Y Y Y rfl⟩)
def qR (x0 : Int) (a11 : (List Int)) (a22 : (List (List Int))) (a33 : Int) : Option Bool :=
 ((jy a11 x0).bind fun t8 =>
 if (!t8) = true then
 (some true) else
 ((ix a22 a33).bind fun t13 =>
 (jy t13 x0).bind fun t16 =>
 some t16)).bind fun o =>
 some o
theorem KJ (x0 : Int) (a11 : (List Int)) (a22 : (List (List Int))) (a33 : Int) (rb : Nat) (qa1 : Option Addr) (na1 ca1 : Nat) (rb_1 : Nat) (qa3 : Option Addr) (na3 ca3 : Nat) (ar3 : List AL) (rb_2 : Nat) (w : World) (hw : HV w (keys [] []) [] [] [(rb, 0, [.slice qa1 na1 ca1]), (aB qa1, aO qa1, RI.enc a11), (rb_1, 0, [.slice qa3 na3 ca3]), (aB qa3, aO qa3, RwA.enc ar3), (rb_2, 0, [.int .i64 a33])] w)  (hna1 : a11.length = na1) (hqa1 : AOK na1 qa1) (hla1 : na1 ≤ ca1)  (hna3 : a22.length = na3) (hqa3 : AOK na3 qa3) (hla3 : na3 ≤ ca3) (hda3 : DRO a22 ar3) (hTa3 : ∀ t, t ∈ rsg RI a22 ar3 → segOK w t ∧ (t.2.2 ≠ [] → t.1 ∉ keys [] []))  {res : Bool} (hm : qR x0 a11 a22 a33 = some res) :
    Calls Tryz.prog 77 #[.int .i64 x0, ptr rb 0, ptr rb_1 0, ptr rb_2 0] w (fun en w' => ∃ l : Unit, en = .returned (.bool res) ∧ (True) ∧ HV w (keys [] []) [] [] [] w') := by
  unfold qR at hm
  refine yb func77 Y ntmps77 Y (e := [(0, _), (1, _), (2, _), (3, _)]) Y hw (jp (jm Y Y (jo (ji ?_))))
  obtain ⟨o, h1, h2⟩ := bindO hm
  refine jQ (ι := Unit) (fun l => True) (fun l => [(5, .bool o)]) (fun l => []) (fun l => []) ?_ ?_
  ·replace hm := h1
   refine jh (jc Y Y Y (fun w hh => jC (isAgg22 w) Y (segCell (hh.seg 0 Y) 0 Y)) (jg Y Y ?_))
   obtain ⟨t8, h3, hm⟩ := bindO hm
   refine jd [] [] Y Y Y Y Y Y Y call64 (fun w hh => jJ a11 x0 qa1 na1 ca1 w (HV.callee (S0 := []) (vs0 := []) hh (roR hh 1 Y roN)) hna1 hqa1 hla1 h3) (fun l_1 h4 => ?_)
   refine jc Y Y Y (fun _ _ => y9 Y) (jg Y Y ?_)
   refine jL 10 Y (fun h5 => ?_) (fun h5 => ?_)
   ·replace hm := ifT (h5) hm
    refine g_k Y Y Y Y (g_k Y Y Y Y (g_k Y Y Y Y (g_k Y Y Y Y (g_k Y Y Y Y (g_k Y Y Y Y (qq Y Y Y (jm Y Y ?_)))))))
    refine jt ?_
    obtain rfl := sj hm
    exact jj () (trivial) (sE Y) (fun w hh => hh)
   replace hm := ifN h5 hm
   refine jb Y Y (jc Y Y Y (fun w hh => jC (isAgg41 w) Y (segCell (hh.seg 2 Y) 0 Y)) (jb Y Y (jc Y Y Y (fun w hh => jC (isAgg3 w) Y (segCell (hh.seg 4 Y) 0 Y)) (jb Y Y ?_))))
   obtain ⟨t13, h6, hm⟩ := bindO hm
   obtain ⟨A, h7, h8, h9, h10⟩ := (hda3).row h6
   refine jc Y Y Y (fun w _ => zP h7 (runUnderlying41 w) (sizeOf22 w) Y Y (Eq.trans (hda3).len.symm hna3) hqa3) (jb Y Y (jc Y Y Y (fun w hh => yU RwA 0 h7 (isAgg22 w) Y (hh.seg 3 Y) Y (Nat.add_zero _).symm) (jb Y Y (jg Y Y (jb Y Y ?_)))))
   obtain ⟨t16, h11, hm⟩ := bindO hm
   refine jd [] [] Y Y Y Y Y Y Y call64 (fun w hh => jJ t13 x0 A.a A.n A.cap w (HV.callee (S0 := []) (vs0 := []) hh (roC (hh.oldsep (S0 := []) (vs0 := []) (hTa3 _ (rsg_ix h6 h7))) roN)) h8 h9 h10 h11) (fun l_2 h12 => ?_)
   refine yS Y Y Y (jm Y Y (jt ?_))
   obtain rfl := sj hm
   exact jj () (trivial) (sE Y) (fun w hh => hh)
  intro l hj
  replace hm := h2
  refine ja (jw ?_)
  obtain rfl := sj hm
  refine jk Y (fun w hh => (.tmp Y .nil)) (fun w hh => ⟨(), rfl, trivial, hh.se [] [] 5 Y Y Y rfl⟩)
def k3 (s0 : (List Int)) (f1_c0 : (List Int)) (f1_c1 : (List (List Int))) (f1_c2 : Int) (s : Int) : Option (Int ⊕ (Unit ⊕ Int)) :=
 if s < (s0.length : Int) then
 ((ix s0 s).bind fun t14 =>
 (qR t14 f1_c0 f1_c1 f1_c2).bind fun t16 =>
 if t16 = true then
 (some (.inr (.inr s))) else
 ((addc s 1).bind fun t18 =>
 some (.inl t18))) else
 (some (.inr (.inl ())))
def yC (s0 : (List Int)) (f1_c0 : (List Int)) (f1_c1 : (List (List Int))) (f1_c2 : Int) : Option Int :=
 (iterM FU (k3 s0 f1_c0 f1_c1 f1_c2) 0).bind fun o =>
 oc o (fun j => some (-1)) (fun r_1 => some r_1)
theorem Qn (s0 : (List Int)) (f1_c0 : (List Int)) (f1_c1 : (List (List Int))) (f1_c2 : Int) (qa0 : Option Addr) (na0 ca0 : Nat) (rb : Nat) (qa2 : Option Addr) (na2 ca2 : Nat) (rb_1 : Nat) (qa4 : Option Addr) (na4 ca4 : Nat) (ar4 : List AL) (rb_2 : Nat) (w : World) (hw : HV w (keys [] []) [] [] [(aB qa0, aO qa0, RI.enc s0), (rb, 0, [.slice qa2 na2 ca2]), (aB qa2, aO qa2, RI.enc f1_c0), (rb_1, 0, [.slice qa4 na4 ca4]), (aB qa4, aO qa4, RwA.enc ar4), (rb_2, 0, [.int .i64 f1_c2])] w) (hna0 : s0.length = na0) (hqa0 : AOK na0 qa0) (hla0 : na0 ≤ ca0)  (hna2 : f1_c0.length = na2) (hqa2 : AOK na2 qa2) (hla2 : na2 ≤ ca2)  (hna4 : f1_c1.length = na4) (hqa4 : AOK na4 qa4) (hla4 : na4 ≤ ca4) (hda4 : DRO f1_c1 ar4) (hTa4 : ∀ t, t ∈ rsg RI f1_c1 ar4 → segOK w t ∧ (t.2.2 ≠ [] → t.1 ∉ keys [] []))  {res : Int} (hm : yC s0 f1_c0 f1_c1 f1_c2 = some res) :
    Calls Tryz.prog 148 #[.slice qa0 na0 ca0, .func (.func 77) #[] #[ptr rb 0, ptr rb_1 0, ptr rb_2 0]] w (fun en w' => ∃ l : Unit, en = .returned (.int .i64 res) ∧ (True) ∧ HV w (keys [] []) [] [] [] w') := by
  unfold yC at hm
  refine yb func148 Y ntmps148 Y (e := [(0, _), (1, _)]) Y hw (jp (jm Y Y (jo (ji (jp (jg Y Y (jc Y Y Y (fun w _ => qd hna0 (runUnderlying22 w) Y) ?_)))))))
  refine jg Y Y (jo ?_)
  obtain ⟨o, h1, h2⟩ := bindO hm
  refine jQ (ι := Unit) (fun j => o = .inl j) (fun j => []) (fun j => []) (fun j => []) ?_ ?_
  ·replace hm := h1
   refine jn ?_
   refine jY (ι := Unit) hm (fun s l => True) (fun s l => [(0, .slice qa0 na0 ca0), (1, .func (.func 77) #[] #[ptr rb 0, ptr rb_1 0, ptr rb_2 0]), (7, .int .i64 (s0.length : Int)), (8, .int .i64 s)]) (fun s l => []) (fun s l => []) () (trivial) (sE Y) (fun w hh => hh) (fun s l r hpl hm h3 => ?_)
   unfold k3 at hm
   refine jp (J2 Y Y Y (jo (ji ?_)))
   refine js Y (fun h4 => ?_) (fun h4 => ?_)
   ·replace hm := ifD h4 hm
    refine ju (ja (ji (jn (jp (jg Y Y (jm Y Y (kE ?_)))))))
    refine jg Y Y (jg Y Y (jg Y Y ?_))
    obtain ⟨t14, h5, hm⟩ := bindO hm
    refine jc Y Y Y (fun w _ => zP h5 (runUnderlying22 w) (sizeOf3 w) Y Y hna0 hqa0) (jc Y Y Y (fun w hh => yU RI 0 h5 (isAgg3 w) Y (hh.seg 0 Y) Y (Nat.add_zero _).symm) ?_)
    obtain ⟨t16, h6, hm⟩ := bindO hm
    refine jd [] [] Y Y Y Y Y Y Y call77 (fun w hh => KJ t14 f1_c0 f1_c1 f1_c2 rb qa2 na2 ca2 rb_1 qa4 na4 ca4 ar4 rb_2 w (HV.callee (S0 := []) (vs0 := []) hh (roR hh 1 Y (roR hh 2 Y (roR hh 3 Y (roR hh 4 Y (roR hh 5 Y roN)))))) hna2 hqa2 hla2 hna4 hqa4 hla4 hda4 (hh.oldT (S0 := []) (vs0 := []) hTa4) h6) (fun l_1 h7 => ?_)
    refine jo ?_
    refine js Y (fun h8 => ?_) (fun h8 => ?_)
    ·replace hm := ifT (h8) hm
     refine jp (jg Y Y (jm Y Y (jo (jw (jz (je (je ?_)))))))
     refine jz ?_
     obtain rfl := sj hm
     have hbo := h3 _ Y
     subst hbo
     refine je ?_
     replace hm := ocR h2
     refine je ?_
     obtain rfl := sj hm
     refine jk Y (fun w hh => (.tmp Y .nil)) (fun w hh => ⟨(), rfl, trivial, hh.se [] [] 6 Y Y Y rfl⟩)
    replace hm := ifN h8 hm
    refine ju (jx (ja (jh ?_)))
    obtain ⟨t18, h9, hm⟩ := bindO hm
    refine JI h9 Y Y Y (jg Y Y (jt ?_))
    obtain rfl := sj hm
    refine ja ?_
    exact jE _ () Y (trivial) (sE Y) (fun w hh => hh)
   replace hm := ifE h4 hm
   refine kn (jl (jl (jG ?_)))
   obtain rfl := sj hm
   have hbo := h3 _ Y
   subst hbo
   exact jj () (Y) (.nil) (fun w hh => hh)
  intro j hj
  have h10 := hj
  subst h10
  replace hm := ocL h2
  refine ja (jp (jm Y Y (jo (jw ?_))))
  obtain rfl := sj hm
  refine jk Y (fun w hh => (.tmp Y .nil)) (fun w hh => ⟨(), rfl, trivial, hh.se [] [] 6 Y Y Y rfl⟩)
def k7 (s0 : (List Int)) (f1_c0 : (List Int)) (f1_c1 : (List (List Int))) (f1_c2 : Int) : Option Bool :=
 (yC s0 f1_c0 f1_c1 f1_c2).bind fun t7 =>
 some (decide (0 ≤ t7))
theorem KI (s0 : (List Int)) (f1_c0 : (List Int)) (f1_c1 : (List (List Int))) (f1_c2 : Int) (qa0 : Option Addr) (na0 ca0 : Nat) (rb : Nat) (qa2 : Option Addr) (na2 ca2 : Nat) (rb_1 : Nat) (qa4 : Option Addr) (na4 ca4 : Nat) (ar4 : List AL) (rb_2 : Nat) (w : World) (hw : HV w (keys [] []) [] [] [(aB qa0, aO qa0, RI.enc s0), (rb, 0, [.slice qa2 na2 ca2]), (aB qa2, aO qa2, RI.enc f1_c0), (rb_1, 0, [.slice qa4 na4 ca4]), (aB qa4, aO qa4, RwA.enc ar4), (rb_2, 0, [.int .i64 f1_c2])] w) (hna0 : s0.length = na0) (hqa0 : AOK na0 qa0) (hla0 : na0 ≤ ca0)  (hna2 : f1_c0.length = na2) (hqa2 : AOK na2 qa2) (hla2 : na2 ≤ ca2)  (hna4 : f1_c1.length = na4) (hqa4 : AOK na4 qa4) (hla4 : na4 ≤ ca4) (hda4 : DRO f1_c1 ar4) (hTa4 : ∀ t, t ∈ rsg RI f1_c1 ar4 → segOK w t ∧ (t.2.2 ≠ [] → t.1 ∉ keys [] []))  {res : Bool} (hm : k7 s0 f1_c0 f1_c1 f1_c2 = some res) :
    Calls Tryz.prog 65 #[.slice qa0 na0 ca0, .func (.func 77) #[] #[ptr rb 0, ptr rb_1 0, ptr rb_2 0]] w (fun en w' => ∃ l : Unit, en = .returned (.bool res) ∧ (True) ∧ HV w (keys [] []) [] [] [] w') := by
  unfold k7 at hm
  refine yb func65 Y ntmps65 Y (e := [(0, _), (1, _)]) Y hw (jp (jm Y Y (kE (jg Y Y (jg Y Y ?_)))))
  obtain ⟨t7, h1, hm⟩ := bindO hm
  refine jd [] [] Y Y Y Y Y Y Y call148 (fun w hh => Qn s0 f1_c0 f1_c1 f1_c2 qa0 na0 ca0 rb qa2 na2 ca2 rb_1 qa4 na4 ca4 ar4 rb_2 w (HV.callee (S0 := []) (vs0 := []) hh (roR hh 0 Y (roR hh 1 Y (roR hh 2 Y (roR hh 3 Y (roR hh 4 Y (roR hh 5 Y roN))))))) hna0 hqa0 hla0 hna2 hqa2 hla2 hna4 hqa4 hla4 hda4 (hh.oldT (S0 := []) (vs0 := []) hTa4) h1) (fun l h2 => ?_)
  refine jc Y Y Y (fun _ _ => QT Y Y) (jm Y Y (jo (jw ?_)))
  obtain rfl := sj hm
  refine jk Y (fun w hh => (.tmp Y .nil)) (fun w hh => ⟨(), rfl, trivial, hh.se [] [] 6 Y Y Y rfl⟩)
def kO (t192 : Int) (t43 : qf) (t49 : qg) (s : Int) (t75 : qi) (s_1 : Int) : Option (Int ⊕ (Unit ⊕ Bool)) :=
 if s_1 < t192 then
 ((q9 (⟨t43.r0.cells, t43.r0.tides, t43.r0.fords, t43.r0.sands, t49.r0⟩ : Channel) s_1 s).bind fun t200 =>
 (q9 t75.r0 s_1 s).bind fun t207 =>
 (if t200.r1 = 0 then
 (if t207.r1 = 0 then
 ((k6 t207.r0 t200.r0).bind fun t219 =>
 some t219) else
 (some true)) else
 (some true)).bind fun o_5 =>
 if o_5 = true then
 (some (.inr (.inr false))) else
 ((addc s_1 1).bind fun t221 =>
 some (.inl t221))) else
 (some (.inr (.inl ())))
def kU (t144 : yZ) (t149 : yZ) (t43 : qf) (t49 : qg) (t75 : qi) (s : Int) : Option (Int ⊕ (Unit ⊕ Bool)) :=
 if s < (t144.r0.length : Int) then
 ((ix t144.r0 s).bind fun t178 =>
 (if t178 = 0 then
 (some false) else
 ((ix t149.r0 s).bind fun t185 =>
 some (!decide (t185 = t178)))).bind fun o_3 =>
 if o_3 = true then
 (some (.inr (.inr false))) else
 ((addc t43.r0.tides 1).bind fun t192 =>
 (iterM FU (kO t192 t43 t49 s t75) 0).bind fun o_4 =>
 oc o_4 (fun j_1 => (addc s 1).bind fun t222 =>
 some (.inl t222)) (fun r_2 => some (.inr (.inr r_2))))) else
 (some (.inr (.inl ())))
def kQ (t225 : Int) (t43 : qf) (t49 : qg) (t75 : qi) (s_2 : Int) : Option (Int ⊕ (Unit ⊕ Bool)) :=
 if s_2 < t225 then
 ((zq (⟨t43.r0.cells, t43.r0.tides, t43.r0.fords, t43.r0.sands, t49.r0⟩ : Channel) s_2).bind fun t232 =>
 (zq t75.r0 s_2).bind fun t238 =>
 (zs (⟨t43.r0.cells, t43.r0.tides, t43.r0.fords, t43.r0.sands, t49.r0⟩ : Channel) s_2).bind fun t244 =>
 (zs t75.r0 s_2).bind fun t250 =>
 (if t232.r1 = 0 then
 (if t238.r1 = 0 then
 (if t244.r1 = 0 then
 (if t250.r1 = 0 then
 ((k8 t232.r0 t238.r0).bind fun t270 =>
 if t270 = true then
 (some true) else
 ((k7 t244.r0 t250.r0 t43.r1 s_2).bind fun t275 =>
 some t275)) else
 (some true)) else
 (some true)) else
 (some true)) else
 (some true)).bind fun o_7 =>
 if o_7 = true then
 (some (.inr (.inr false))) else
 ((addc s_2 1).bind fun t277 =>
 some (.inl t277))) else
 (some (.inr (.inl ())))
def yn (numbers0 : (List Int)) (after1 : Int) (cell2 : Int) : Option Bool :=
 (YG numbers0).bind fun t40 =>
 (qM numbers0 t40.t5_1 t40.t5_2 9 2 3).bind fun t43 =>
 (qO numbers0 t43.b0_1 t43.b0_2 t43.r0 t43.r1 5).bind fun t49 =>
 (addc t43.r0.tides 1).bind fun t55 =>
 (remc (IntKind.i64.wrap after1) t55).bind fun t56 =>
 (remc (IntKind.i64.wrap cell2) t43.r0.cells).bind fun t61 =>
 (ix t43.r1 t56).bind fun t66 =>
 (jy t66 t61).bind fun t70 =>
 (zr (⟨t43.r0.cells, t43.r0.tides, t43.r0.fords, t43.r0.sands, t49.r0⟩ : Channel) (⟨t56, t61, t70⟩ : Sight)).bind fun t75 =>
 (zr (⟨t43.r0.cells, t43.r0.tides, t43.r0.fords, t43.r0.sands, t49.r0⟩ : Channel) (⟨t56, t61, (!t70)⟩ : Sight)).bind fun t85 =>
 (qz (⟨t43.r0.cells, t43.r0.tides, t43.r0.fords, t43.r0.sands, t49.r0⟩ : Channel)).bind fun t90 =>
 (qz t75.r0).bind fun t95 =>
 (qz t85.r0).bind fun t100 =>
 (if t75.r1 = 0 then
 (if t85.r1 = 0 then
 (if t90.r1 = 0 then
 (if t95.r1 = 0 then
 (if t100.r1 = 0 then
 (if t95.r0 < 1 then
 (some true) else
 ((addc t95.r0 t100.r0).bind fun t128 =>
 if t128 = t90.r0 then
 ((addc (t49.r0.length : Int) 1).bind fun t139 =>
 some (!decide ((t75.r0.sights.length : Int) = t139))) else
 (some true))) else
 (some true)) else
 (some true)) else
 (some true)) else
 (some true)) else
 (some true)).bind fun o =>
 if o = true then
 (some false) else
 ((za (⟨t43.r0.cells, t43.r0.tides, t43.r0.fords, t43.r0.sands, t49.r0⟩ : Channel)).bind fun t144 =>
 (za t75.r0).bind fun t149 =>
 (if t144.r1 = 0 then
 (if t149.r1 = 0 then
 (if (t144.r0.length : Int) = (t43.r0.fords.length : Int) then
 (some (!decide ((t149.r0.length : Int) = (t144.r0.length : Int)))) else
 (some true)) else
 (some true)) else
 (some true)).bind fun o_1 =>
 if o_1 = true then
 (some false) else
 ((iterM FU (kU t144 t149 t43 t49 t75) 0).bind fun o_2 =>
 oc o_2 (fun j => (addc t43.r0.tides 1).bind fun t225 =>
 (iterM FU (kQ t225 t43 t49 t75) 0).bind fun o_6 =>
 oc o_6 (fun j_2 => (zp).bind fun t278 =>
 some t278) (fun r_4 => some r_4)) (fun r_5 => some r_5)))
theorem Qh (numbers0 : (List Int)) (after1 : Int) (cell2 : Int) (qa0 : Option Addr) (na0 ca0 : Nat) (w : World) (hw : HV w (keys [] []) [] [] [(aB qa0, aO qa0, RU8.enc numbers0)] w) (hna0 : numbers0.length = na0) (hqa0 : AOK na0 qa0) (hla0 : na0 ≤ ca0) {res : Bool} (hm : yn numbers0 after1 cell2 = some res) :
    Calls Tryz.prog 14 #[.slice qa0 na0 ca0, .int .u8 after1, .int .u8 cell2] w (fun en w' => ∃ l : Unit, en = .returned (.bool res) ∧ (True) ∧ HV w (keys [] []) [] [] [] w') := by
  unfold yn at hm
  refine yb func14 Y ntmps14 Y (e := [(0, _), (1, _), (2, _)]) Y hw (jp (jm Y Y (kE (jg Y Y ?_))))
  obtain ⟨t40, h1, hm⟩ := bindO hm
  refine jd [] [] Y Y Y Y Y Y Y call62 (fun w hh => jae numbers0 qa0 na0 ca0 w (HV.callee (S0 := []) (vs0 := []) hh (roR hh 0 Y roN)) hna0 hqa0 hla0 h1) (fun l h2 => ?_)
  refine kt (S' := [_]) (vs' := []) [0] [] 0 Y Y Y Y (jm Y Y (kE (jg Y Y ?_)))
  obtain ⟨t43, h3, hm⟩ := bindO hm
  refine jd [_] [] Y Y Y Y Y Y Y call61 (fun w hh => QR numbers0 t40.t5_1 t40.t5_2 9 2 3 l qa0 na0 ca0 w (HV.callee (S0 := [_]) (vs0 := []) hh (roR hh 0 Y roN)) hna0 hqa0 hla0 h3) (fun l_1 h4 => ?_)
  obtain ⟨h5, h6, h7, h8, h9⟩ := h4
  refine kt (S' := [_]) (vs' := [_, _, _, _]) [0] [0, 1, 2, 3] 0 Y Y Y Y (jg Y Y (yk Y Y Y (yk Y Y Y ?_)))
  refine jv (fun w => zeroValue26 w) Y (fun b h10 => ?_)
  refine jv (fun w => zeroValue41 w) Y (fun b_1 h11 => ?_)
  refine j5 (us := #[_, _, _, _, _]) (cs' := [_, _, _, _, _]) (S' := [_, _, _]) 1 (fun w => sizeOf26 w) Y Y Y Y Y Y Y (yg (cs' := #[_]) (S' := [_, _, _]) 0 (fun w => sizeOf41 w) Y Y Y Y Y Y Y (kE (jg Y Y (zf [_, _, _, _, _] 1 isAgg26 sizeOf26 Y Y Y Y (qP 0 isAgg41 Y Y Y Y ?_)))))
  obtain ⟨t49, h12, hm⟩ := bindO hm
  refine kt (S' := [_, _, _]) (vs' := [_, _, _, _]) [2, 0, 1] [0, 1, 2, 3] 0 Y Y Y Y ?_
  refine jd [_] [] Y Y Y Y Y Y Y call67 (fun w hh => QW numbers0 t43.b0_1 t43.b0_2 t43.r0 t43.r1 5 l qa0 na0 ca0 (qA l_1.1.q) l_1.1.n l_1.1.cap (qA l_1.2.1.q) l_1.2.1.n l_1.2.1.cap (qA l_1.2.2.1.q) l_1.2.2.1.n l_1.2.2.1.cap (qA l_1.2.2.2.v.q) l_1.2.2.2.v.n l_1.2.2.2.v.cap (toAL l_1.2.2.2.rs) w (HV.callee (S0 := [_]) (vs0 := []) hh (roR hh 0 Y (roC (hh.vsepA 0 Y h5) (roC (hh.vsepA 1 Y h6) (roC (hh.vsepA 2 Y h7) (roC (hh.vsepD 3 Y h8) roN)))))) hna0 hqa0 hla0 (vlen RI h5 Y) (AOK.q (vne h5)) (h5).hle (vlen RSa h6 Y) (AOK.q (vne h6)) (h6).hle (vlen RSi h7 Y) (AOK.q (vne h7)) (h7).hle (Eq.trans (h9).len (vlen RwH h8 Y)) (AOK.q (vne h8)) (h8).hle ((h9).toDRO Y) (hh.dsepT 3 Y h9) h12) (fun l_2 h13 => ?_)
  have h14 := h13
  refine kt (S' := [_, _, _]) (vs' := [_, _, _, _, _]) [0, 1, 2] [0, 1, 2, 3, 4] 0 Y Y Y Y (yr 4 runUnderlying26 Y sizeOf24 Y Y (yg (cs' := #[_, _, _, _, _]) (S' := [_, _, _]) 2 (fun w => sizeOf24 w) Y Y Y Y Y Y Y (jo (ji ?_))))
  refine qr none (.free 0 (.free 1 (.free 2 (.hoist 3 (.free 4 (.free 5 (.free 6 (.free 7 (.free 8 (.hoist 9 (.free 10 (.free 11 (.one 12 (.one 13 .done)))))))))))))) _ Y (by decide +kernel) (fun w k hh => hh.draw k) (fun w hh => hh) ?_
  refine zQ Y Y Y (jq Y Y Y Y (fun w _ => ZH (runUnderlying5 w) (runUnderlying3 w) Y) (KD 1 runUnderlying26 sizeOf3 Y Y Y Y (Qa 2 isAgg3 Y Y Y Y Y ?_)))
  obtain ⟨t55, h15, hm⟩ := bindO hm
  refine jq Y Y Y Y (fun _ _ => Kk h15 Y Y) ?_
  obtain ⟨t56, h16, hm⟩ := bindO hm
  refine jq Y Y Y Y (fun _ _ => Z1 h16 Y Y) (zQ Y Y Y (jq Y Y Y Y (fun w _ => ZH (runUnderlying5 w) (runUnderlying3 w) Y) (KD 0 runUnderlying26 sizeOf3 Y Y Y Y (Qa 2 isAgg3 Y Y Y Y Y ?_))))
  obtain ⟨t61, h17, hm⟩ := bindO hm
  refine jq Y Y Y Y (fun _ _ => Z1 h17 Y Y) (jq Y Y Y Y (fun _ _ => kw (vs := [(0, _), (1, _)]) (cells := [_, _, _]) Y Y) (jK Y ?_))
  refine jv (fun w => zeroValue55 w) Y (fun b_2 h18 => ?_)
  refine jr (hsE [1, 2, 3] [0, 1, 2, 3, 4] 0 Y Y Y Y) (jK Y (j5 (us := #[_, _, _]) (cs' := [_, _, _]) (S' := [_, _, _, _]) 0 (fun w => sizeOf55 w) Y Y Y Y Y Y Y (jr (hsE [1, 2, 3] [0, 1, 2, 3, 4] 0 Y Y Y Y) (ka (ja (ji ?_))))))
  refine qr (some 9) (.hoist 0 (.free 1 (.hoist 2 (.free 3 (.hoist 4 (.free 5 (.hoist 6 (.one 7 (.free 8 (.last 9 .done)))))))))) _ Y (by decide +kernel) (fun w k hh => hh.draw k) (fun w hh => hh) ?_
  refine Qa 2 isAgg41 Y Y Y Y Y (KD 0 runUnderlying55 sizeOf3 Y Y Y Y (Qa 0 isAgg3 Y Y Y Y Y ?_))
  obtain ⟨t66, h19, hm⟩ := bindO hm
  obtain ⟨L, h20, h21⟩ := (h9).row h19
  refine jq Y Y Y Y (fun w _ => Jx h20 (runUnderlying41 w) (sizeOf22 w) Y Y (vlen RwH h8 Y) (vne h8)) (jA Y Y Y Y (fun w hh => yU RwH 0 h20 (isAgg22 w) Y (hh.vseg 4 Y h8) Y (Nat.add_zero _).symm) (KD 1 runUnderlying55 sizeOf3 Y Y Y Y (Qa 0 isAgg3 Y Y Y Y Y (jK Y ?_))))
  obtain ⟨t70, h22, hm⟩ := bindO hm
  refine jd [] [] Y Y Y Y Y Y Y call64 (fun w hh => jJ t66 t61 (qA L.q) L.n L.cap w (HV.callee (S0 := []) (vs0 := []) hh (roC (hh.dsepA (S0 := []) (vs0 := []) 4 Y h19 h20 h21) roN)) (vlen RI h21 Y) (AOK.q (vne h21)) (h21).hle h22) (fun l_3 h23 => ?_)
  refine jr (fun w hh => hh) (KD 2 runUnderlying55 sizeOf4 Y Y Y Y (YS Y (yg (cs' := #[_, _, _]) (S' := [_, _, _, _]) 0 (fun w => sizeOf4 w) Y Y Y Y Y Y Y (Q6 (ka (ja (jp ?_)))))))
  refine zf [_, _, _, _, _] 3 isAgg26 sizeOf26 Y Y Y Y (zf [_, _, _] 0 isAgg55 sizeOf55 Y Y Y Y ?_)
  obtain ⟨t75, h24, hm⟩ := bindO hm
  refine jd [] [] Y Y Y Y Y Y Y call59 (fun w hh => Yk (⟨t43.r0.cells, t43.r0.tides, t43.r0.fords, t43.r0.sands, t49.r0⟩ : Channel) (⟨t56, t61, t70⟩ : Sight) (qA l_1.1.q) l_1.1.n l_1.1.cap (qA l_1.2.1.q) l_1.2.1.n l_1.2.1.cap (qA l_2.q) l_2.n l_2.cap w (HV.callee (S0 := []) (vs0 := []) hh (roC (hh.vsepA 1 Y h5) (roC (hh.vsepA 2 Y h6) (roC (hh.vsepA 0 Y h14) roN)))) (vlen RI h5 Y) (AOK.q (vne h5)) (h5).hle (vlen RSa h6 Y) (AOK.q (vne h6)) (h6).hle (vlen RSi h14 Y) (AOK.q (vne h14)) (h14).hle h24) (fun l_4 h25 => ?_)
  obtain ⟨h26, h27, h28⟩ := h25
  refine kt (S' := [_, _, _, _]) (vs' := [_, _, _, _, _, _, _, _]) [0, 1, 2, 3] [0, 1, 2, 3, 4, 5, 6, 7] 0 Y Y Y Y (jg Y Y (yk Y Y Y (yk Y Y Y ?_)))
  refine jv (fun w => zeroValue26 w) Y (fun b_3 h29 => ?_)
  refine j5 (us := #[_, _, _, _, _]) (cs' := [_, _, _, _, _]) (S' := [_, _, _, _, _]) 0 (fun w => sizeOf26 w) Y Y Y Y Y Y Y (jm Y Y (kE (yr 2 runUnderlying55 Y sizeOf4 Y Y (qP 1 isAgg4 Y Y Y Y (jc Y Y Y (fun _ _ => y9 Y) (yr 2 runUnderlying55 Y sizeOf4 Y Y (yg (cs' := #[_, _, _]) (S' := [_, _, _, _, _]) 1 (fun w => sizeOf4 w) Y Y Y Y Y Y Y ?_)))))))
  refine kE (zf [_, _, _, _, _] 4 isAgg26 sizeOf26 Y Y Y Y (zf [_, _, _] 1 isAgg55 sizeOf55 Y Y Y Y ?_))
  obtain ⟨t85, h30, hm⟩ := bindO hm
  refine jd [] [] Y Y Y Y Y Y Y call59 (fun w hh => Yk (⟨t43.r0.cells, t43.r0.tides, t43.r0.fords, t43.r0.sands, t49.r0⟩ : Channel) (⟨t56, t61, (!t70)⟩ : Sight) (qA l_1.1.q) l_1.1.n l_1.1.cap (qA l_1.2.1.q) l_1.2.1.n l_1.2.1.cap (qA l_2.q) l_2.n l_2.cap w (HV.callee (S0 := []) (vs0 := []) hh (roC (hh.vsepA 4 Y h5) (roC (hh.vsepA 5 Y h6) (roC (hh.vsepA 3 Y h14) roN)))) (vlen RI h5 Y) (AOK.q (vne h5)) (h5).hle (vlen RSa h6 Y) (AOK.q (vne h6)) (h6).hle (vlen RSi h14 Y) (AOK.q (vne h14)) (h14).hle h30) (fun l_5 h31 => ?_)
  obtain ⟨h32, h33, h34⟩ := h31
  refine kt (S' := [_, _, _, _, _]) (vs' := [_, _, _, _, _, _, _, _, _, _, _]) [0, 1, 2, 3, 4] [0, 1, 2, 3, 4, 5, 6, 7, 8, 9, 10] 0 Y Y Y Y (jg Y Y (yk Y Y Y (yk Y Y Y ?_)))
  refine jv (fun w => zeroValue26 w) Y (fun b_4 h35 => ?_)
  refine j5 (us := #[_, _, _, _, _]) (cs' := [_, _, _, _, _]) (S' := [_, _, _, _, _, _]) 0 (fun w => sizeOf26 w) Y Y Y Y Y Y Y (jm Y Y (kE (zf [_, _, _, _, _] 5 isAgg26 sizeOf26 Y Y Y Y ?_)))
  obtain ⟨t90, h36, hm⟩ := bindO hm
  refine jd [] [] Y Y Y Y Y Y Y call26 (fun w hh => Jo (⟨t43.r0.cells, t43.r0.tides, t43.r0.fords, t43.r0.sands, t49.r0⟩ : Channel) (qA l_1.1.q) l_1.1.n l_1.1.cap (qA l_1.2.1.q) l_1.2.1.n l_1.2.1.cap (qA l_2.q) l_2.n l_2.cap w (HV.callee (S0 := []) (vs0 := []) hh (roC (hh.vsepA 7 Y h5) (roC (hh.vsepA 8 Y h6) (roC (hh.vsepA 6 Y h14) roN)))) (vlen RI h5 Y) (AOK.q (vne h5)) (h5).hle (vlen RSa h6 Y) (AOK.q (vne h6)) (h6).hle (vlen RSi h14 Y) (AOK.q (vne h14)) (h14).hle h36) (fun l_6 h37 => ?_)
  refine jg Y Y (yk Y Y Y (yk Y Y Y (jm Y Y (jm Y Y (kE (zf [_, _, _, _, _] 1 isAgg26 sizeOf26 Y Y Y Y ?_))))))
  obtain ⟨t95, h38, hm⟩ := bindO hm
  refine jd [] [] Y Y Y Y Y Y Y call26 (fun w hh => Jo t75.r0 (qA l_4.1.q) l_4.1.n l_4.1.cap (qA l_4.2.1.q) l_4.2.1.n l_4.2.1.cap (qA l_4.2.2.q) l_4.2.2.n l_4.2.2.cap w (HV.callee (S0 := []) (vs0 := []) hh (roC (hh.vsepA 3 Y h26) (roC (hh.vsepA 4 Y h27) (roC (hh.vsepA 5 Y h28) roN)))) (vlen RI h26 Y) (AOK.q (vne h26)) (h26).hle (vlen RSa h27 Y) (AOK.q (vne h27)) (h27).hle (vlen RSi h28 Y) (AOK.q (vne h28)) (h28).hle h38) (fun l_7 h39 => ?_)
  refine jg Y Y (yk Y Y Y (yk Y Y Y (jm Y Y (jm Y Y (kE (zf [_, _, _, _, _] 0 isAgg26 sizeOf26 Y Y Y Y ?_))))))
  obtain ⟨t100, h40, hm⟩ := bindO hm
  refine jd [] [] Y Y Y Y Y Y Y call26 (fun w hh => Jo t85.r0 (qA l_5.1.q) l_5.1.n l_5.1.cap (qA l_5.2.1.q) l_5.2.1.n l_5.2.1.cap (qA l_5.2.2.q) l_5.2.2.n l_5.2.2.cap w (HV.callee (S0 := []) (vs0 := []) hh (roC (hh.vsepA 0 Y h32) (roC (hh.vsepA 1 Y h33) (roC (hh.vsepA 2 Y h34) roN)))) (vlen RI h32 Y) (AOK.q (vne h32)) (h32).hle (vlen RSa h33 Y) (AOK.q (vne h33)) (h33).hle (vlen RSi h34 Y) (AOK.q (vne h34)) (h34).hle h40) (fun l_8 h41 => ?_)
  refine jg Y Y (yk Y Y Y (yk Y Y Y (jm Y Y (jm Y Y (jo (ji (ji ?_)))))))
  obtain ⟨o, h42, h43⟩ := bindO hm
  refine jQ (ι := Unit) (fun l_9 => True) (fun l_9 => [(8, ptr b 0), (9, ptr b_1 0), (11, ptr b_3 0), (141, .bool o)]) (fun l_9 => [kc b_4 #[.int .i64 t85.r0.cells, .int .i64 t85.r0.tides, sL l_5.1, sL l_5.2.1, sL l_5.2.2] 26, kc b_3 #[.int .i64 t75.r0.cells, .int .i64 t75.r0.tides, sL l_4.1, sL l_4.2.1, sL l_4.2.2] 26, kc b_2 #[.int .i64 t56, .int .i64 t61, .bool (!t70)] 55, kc l #[.slice qa0 na0 ca0, .int .i64 t49.b0_1, .int .u32 t49.b0_2] 199, kc b_1 #[sL l_1.2.2.2.v] 41, kc b #[.int .i64 t43.r0.cells, .int .i64 t43.r0.tides, sL l_1.1, sL l_1.2.1, sL l_2] 26]) (fun l_9 => [vL 3 l_5.1 (RI.enc t85.r0.fords), vL 98 l_5.2.1 (RSa.enc t85.r0.sands), vL 55 l_5.2.2 (RSi.enc t85.r0.sights), vL 3 l_4.1 (RI.enc t75.r0.fords), vL 98 l_4.2.1 (RSa.enc t75.r0.sands), vL 55 l_4.2.2 (RSi.enc t75.r0.sights), ⟨22, RwH.enc l_1.2.2.2.rs, l_1.2.2.2.v.sp, l_1.2.2.2.v.q, dbl 3 RI t43.r1 l_1.2.2.2.rs⟩, vL 3 l_1.1 (RI.enc t43.r0.fords), vL 98 l_1.2.1 (RSa.enc t43.r0.sands), vL 55 l_2 (RSi.enc t49.r0)]) ?_ ?_
  ·replace hm := h42
   refine jh (jg Y Y (jc Y Y Y (fun _ _ => yQ Y Y) (jg Y Y ?_)))
   refine jL 105 Y (fun h44 => ?_) (fun h44 => ?_)
   ·replace hm := ifF (of_ndec_true h44) hm
    refine g_k Y Y Y Y (g_k Y Y Y Y (qq Y Y Y (jg Y Y (g_k Y Y Y Y (g_k Y Y Y Y (qq Y Y Y (jg Y Y ?_)))))))
    refine g_k Y Y Y Y (g_k Y Y Y Y (qq Y Y Y (jg Y Y (g_k Y Y Y Y (g_k Y Y Y Y (qq Y Y Y (jg Y Y ?_)))))))
    refine g_k Y Y Y Y (g_k Y Y Y Y (qq Y Y Y (jg Y Y (g_k Y Y Y Y (g_k Y Y Y Y (g_k Y Y Y Y (g_k Y Y Y Y ?_)))))))
    refine g_k Y Y Y Y (qq Y Y Y (jg Y Y (g_k Y Y Y Y (g_k Y Y Y Y (g_k Y Y Y Y (g_k Y Y Y Y (g_k Y Y Y Y ?_)))))))
    refine g_k Y Y Y Y (g_k Y Y Y Y (g_k Y Y Y Y (qq Y Y Y (jt ?_))))
    obtain rfl := sj hm
    exact jj () (trivial) (sE Y) (hsE [0, 1, 2, 3, 4, 5] [0, 1, 2, 3, 4, 5, 10, 7, 8, 6] 0 Y Y Y Y)
   replace hm := ifT (of_ndec_false h44) hm
   refine jb Y Y (jg Y Y (jb Y Y (jc Y Y Y (fun _ _ => yQ Y Y) (yS Y Y Y (jg Y Y ?_)))))
   refine jL 109 Y (fun h45 => ?_) (fun h45 => ?_)
   ·replace hm := ifF (of_ndec_true h45) hm
    refine g_k Y Y Y Y (g_k Y Y Y Y (qq Y Y Y (jg Y Y (g_k Y Y Y Y (g_k Y Y Y Y (qq Y Y Y (jg Y Y ?_)))))))
    refine g_k Y Y Y Y (g_k Y Y Y Y (qq Y Y Y (jg Y Y (g_k Y Y Y Y (g_k Y Y Y Y (qq Y Y Y (jg Y Y ?_)))))))
    refine g_k Y Y Y Y (g_k Y Y Y Y (g_k Y Y Y Y (g_k Y Y Y Y (g_k Y Y Y Y (qq Y Y Y (jg Y Y (g_k Y Y Y Y ?_)))))))
    refine g_k Y Y Y Y (g_k Y Y Y Y (g_k Y Y Y Y (g_k Y Y Y Y (g_k Y Y Y Y (g_k Y Y Y Y (g_k Y Y Y Y (qq Y Y Y ?_)))))))
    refine jt ?_
    obtain rfl := sj hm
    exact jj () (trivial) (sE Y) (hsE [0, 1, 2, 3, 4, 5] [0, 1, 2, 3, 4, 5, 10, 7, 8, 6] 0 Y Y Y Y)
   replace hm := ifT (of_ndec_false h45) hm
   refine jb Y Y (jg Y Y (jb Y Y (jc Y Y Y (fun _ _ => yQ Y Y) (yS Y Y Y (jg Y Y ?_)))))
   refine jL 113 Y (fun h46 => ?_) (fun h46 => ?_)
   ·replace hm := ifF (of_ndec_true h46) hm
    refine g_k Y Y Y Y (g_k Y Y Y Y (qq Y Y Y (jg Y Y (g_k Y Y Y Y (g_k Y Y Y Y (qq Y Y Y (jg Y Y ?_)))))))
    refine g_k Y Y Y Y (g_k Y Y Y Y (qq Y Y Y (jg Y Y (g_k Y Y Y Y (g_k Y Y Y Y (g_k Y Y Y Y (g_k Y Y Y Y ?_)))))))
    refine g_k Y Y Y Y (qq Y Y Y (jg Y Y (g_k Y Y Y Y (g_k Y Y Y Y (g_k Y Y Y Y (g_k Y Y Y Y (g_k Y Y Y Y ?_)))))))
    refine g_k Y Y Y Y (g_k Y Y Y Y (g_k Y Y Y Y (qq Y Y Y (jt ?_))))
    obtain rfl := sj hm
    exact jj () (trivial) (sE Y) (hsE [0, 1, 2, 3, 4, 5] [0, 1, 2, 3, 4, 5, 10, 7, 8, 6] 0 Y Y Y Y)
   replace hm := ifT (of_ndec_false h46) hm
   refine jb Y Y (jg Y Y (jb Y Y (jc Y Y Y (fun _ _ => yQ Y Y) (yS Y Y Y (jg Y Y ?_)))))
   refine jL 117 Y (fun h47 => ?_) (fun h47 => ?_)
   ·replace hm := ifF (of_ndec_true h47) hm
    refine g_k Y Y Y Y (g_k Y Y Y Y (qq Y Y Y (jg Y Y (g_k Y Y Y Y (g_k Y Y Y Y (qq Y Y Y (jg Y Y ?_)))))))
    refine g_k Y Y Y Y (g_k Y Y Y Y (g_k Y Y Y Y (g_k Y Y Y Y (g_k Y Y Y Y (qq Y Y Y (jg Y Y (g_k Y Y Y Y ?_)))))))
    refine g_k Y Y Y Y (g_k Y Y Y Y (g_k Y Y Y Y (g_k Y Y Y Y (g_k Y Y Y Y (g_k Y Y Y Y (g_k Y Y Y Y (qq Y Y Y ?_)))))))
    refine jt ?_
    obtain rfl := sj hm
    exact jj () (trivial) (sE Y) (hsE [0, 1, 2, 3, 4, 5] [0, 1, 2, 3, 4, 5, 10, 7, 8, 6] 0 Y Y Y Y)
   replace hm := ifT (of_ndec_false h47) hm
   refine jb Y Y (jg Y Y (jb Y Y (jc Y Y Y (fun _ _ => yQ Y Y) (yS Y Y Y (jg Y Y ?_)))))
   refine jL 121 Y (fun h48 => ?_) (fun h48 => ?_)
   ·replace hm := ifF (of_ndec_true h48) hm
    refine g_k Y Y Y Y (g_k Y Y Y Y (qq Y Y Y (jg Y Y (g_k Y Y Y Y (g_k Y Y Y Y (g_k Y Y Y Y (g_k Y Y Y Y ?_)))))))
    refine g_k Y Y Y Y (qq Y Y Y (jg Y Y (g_k Y Y Y Y (g_k Y Y Y Y (g_k Y Y Y Y (g_k Y Y Y Y (g_k Y Y Y Y ?_)))))))
    refine g_k Y Y Y Y (g_k Y Y Y Y (g_k Y Y Y Y (qq Y Y Y (jt ?_))))
    obtain rfl := sj hm
    exact jj () (trivial) (sE Y) (hsE [0, 1, 2, 3, 4, 5] [0, 1, 2, 3, 4, 5, 10, 7, 8, 6] 0 Y Y Y Y)
   replace hm := ifT (of_ndec_false h48) hm
   refine jb Y Y (jg Y Y (jb Y Y (J2 Y Y Y (yS Y Y Y (jg Y Y ?_)))))
   refine jL 125 Y (fun h49 => ?_) (fun h49 => ?_)
   ·replace hm := ifD h49 hm
    refine g_k Y Y Y Y (g_k Y Y Y Y (g_k Y Y Y Y (g_k Y Y Y Y (g_k Y Y Y Y (qq Y Y Y (jg Y Y (g_k Y Y Y Y ?_)))))))
    refine g_k Y Y Y Y (g_k Y Y Y Y (g_k Y Y Y Y (g_k Y Y Y Y (g_k Y Y Y Y (g_k Y Y Y Y (g_k Y Y Y Y (qq Y Y Y ?_)))))))
    refine jt ?_
    obtain rfl := sj hm
    exact jj () (trivial) (sE Y) (hsE [0, 1, 2, 3, 4, 5] [0, 1, 2, 3, 4, 5, 10, 7, 8, 6] 0 Y Y Y Y)
   replace hm := ifE h49 hm
   refine jb Y Y (jg Y Y (jb Y Y (jg Y Y (jb Y Y ?_))))
   obtain ⟨t128, h50, hm⟩ := bindO hm
   refine JI h50 Y Y Y (jb Y Y (jg Y Y (jb Y Y (jc Y Y Y (fun _ _ => yQ Y Y) (yS Y Y Y (jg Y Y ?_))))))
   refine jL 132 Y (fun h51 => ?_) (fun h51 => ?_)
   ·replace hm := ifF (of_ndec_true h51) hm
    refine g_k Y Y Y Y (g_k Y Y Y Y (g_k Y Y Y Y (g_k Y Y Y Y (g_k Y Y Y Y (g_k Y Y Y Y (g_k Y Y Y Y (g_k Y Y Y Y ?_)))))))
    refine qq Y Y Y (jt ?_)
    obtain rfl := sj hm
    exact jj () (trivial) (sE Y) (hsE [0, 1, 2, 3, 4, 5] [0, 1, 2, 3, 4, 5, 10, 7, 8, 6] 0 Y Y Y Y)
   replace hm := ifT (of_ndec_false h51) hm
   refine jb Y Y (yr 4 runUnderlying26 Y sizeOf24 Y Y (jb Y Y (qP 1 isAgg24 Y Y Y Y (jb Y Y (jc Y Y Y (fun w _ => zu (vlen RSi h28 Y) (runUnderlying24 w) Y) (jb Y Y (yr 4 runUnderlying26 Y sizeOf24 Y Y ?_)))))))
   refine jb Y Y (qP 5 isAgg24 Y Y Y Y (jb Y Y (jc Y Y Y (fun w _ => zu (vlen RSi h14 Y) (runUnderlying24 w) Y) (jb Y Y ?_))))
   obtain ⟨t139, h52, hm⟩ := bindO hm
   refine JI h52 Y Y Y (jb Y Y (jc Y Y Y (fun _ _ => yQ Y Y) (yS Y Y Y (jt ?_))))
   obtain rfl := sj hm
   exact jj () (trivial) (sE Y) (hsE [0, 1, 2, 3, 4, 5] [0, 1, 2, 3, 4, 5, 10, 7, 8, 6] 0 Y Y Y Y)
  intro l_9 hj
  replace hm := h43
  refine ja ?_
  refine js Y (fun h53 => ?_) (fun h53 => ?_)
  ·replace hm := ifT (h53) hm
   refine jp (jm Y Y (jo (jw (je ?_))))
   obtain rfl := sj hm
   refine jk Y (fun w hh => (.tmp Y .nil)) (fun w hh => ⟨(), rfl, trivial, hh.se [] [] 1 Y Y Y rfl⟩)
  replace hm := ifN h53 hm
  refine ju (ja (jp (zf [_, _, _, _, _] 5 isAgg26 sizeOf26 Y Y Y Y ?_)))
  obtain ⟨t144, h54, hm⟩ := bindO hm
  refine jd [] [] Y Y Y Y Y Y Y call36 (fun w hh => K4 (⟨t43.r0.cells, t43.r0.tides, t43.r0.fords, t43.r0.sands, t49.r0⟩ : Channel) (qA l_1.1.q) l_1.1.n l_1.1.cap (qA l_1.2.1.q) l_1.2.1.n l_1.2.1.cap (qA l_2.q) l_2.n l_2.cap w (HV.callee (S0 := []) (vs0 := []) hh (roC (hh.vsepA 7 Y h5) (roC (hh.vsepA 8 Y h6) (roC (hh.vsepA 9 Y h14) roN)))) (vlen RI h5 Y) (AOK.q (vne h5)) (h5).hle (vlen RSa h6 Y) (AOK.q (vne h6)) (h6).hle (vlen RSi h14 Y) (AOK.q (vne h14)) (h14).hle h54) (fun l_10 h55 => ?_)
  have h56 := h55
  refine kt (S' := [_, _, _, _, _, _]) (vs' := [_, _, _, _, _, _, _, _, _, _, _]) [0, 1, 2, 3, 4, 5] [0, 1, 2, 3, 4, 5, 6, 7, 8, 9, 10] 0 Y Y Y Y (jg Y Y (yk Y Y Y (yk Y Y Y (jm Y Y (jm Y Y (kE (zf [_, _, _, _, _] 1 isAgg26 sizeOf26 Y Y Y Y ?_)))))))
  obtain ⟨t149, h57, hm⟩ := bindO hm
  refine jd [] [] Y Y Y Y Y Y Y call36 (fun w hh => K4 t75.r0 (qA l_4.1.q) l_4.1.n l_4.1.cap (qA l_4.2.1.q) l_4.2.1.n l_4.2.1.cap (qA l_4.2.2.q) l_4.2.2.n l_4.2.2.cap w (HV.callee (S0 := []) (vs0 := []) hh (roC (hh.vsepA 4 Y h26) (roC (hh.vsepA 5 Y h27) (roC (hh.vsepA 6 Y h28) roN)))) (vlen RI h26 Y) (AOK.q (vne h26)) (h26).hle (vlen RSa h27 Y) (AOK.q (vne h27)) (h27).hle (vlen RSi h28 Y) (AOK.q (vne h28)) (h28).hle h57) (fun l_11 h58 => ?_)
  have h59 := h58
  refine kt (S' := [_, _, _, _, _, _]) (vs' := [_, _, _, _, _, _, _, _, _, _, _, _]) [0, 1, 2, 3, 4, 5] [0, 1, 2, 3, 4, 5, 6, 7, 8, 9, 10, 11] 0 Y Y Y Y (jg Y Y (yk Y Y Y (yk Y Y Y (jm Y Y (jm Y Y (jo (ji ?_)))))))
  refine ji ?_
  obtain ⟨o_1, h60, h61⟩ := bindO hm
  refine jQ (ι := Unit) (fun l_12 => True) (fun l_12 => [(8, ptr b 0), (9, ptr b_1 0), (11, ptr b_3 0), (21, sL l_10), (22, sL l_11), (172, .bool o_1)]) (fun l_12 => [kc b_4 #[.int .i64 t85.r0.cells, .int .i64 t85.r0.tides, sL l_5.1, sL l_5.2.1, sL l_5.2.2] 26, kc b_3 #[.int .i64 t75.r0.cells, .int .i64 t75.r0.tides, sL l_4.1, sL l_4.2.1, sL l_4.2.2] 26, kc b_2 #[.int .i64 t56, .int .i64 t61, .bool (!t70)] 55, kc l #[.slice qa0 na0 ca0, .int .i64 t49.b0_1, .int .u32 t49.b0_2] 199, kc b_1 #[sL l_1.2.2.2.v] 41, kc b #[.int .i64 t43.r0.cells, .int .i64 t43.r0.tides, sL l_1.1, sL l_1.2.1, sL l_2] 26]) (fun l_12 => [vL 66 l_10 (RI.enc t144.r0), vL 66 l_11 (RI.enc t149.r0), vL 3 l_5.1 (RI.enc t85.r0.fords), vL 98 l_5.2.1 (RSa.enc t85.r0.sands), vL 55 l_5.2.2 (RSi.enc t85.r0.sights), vL 3 l_4.1 (RI.enc t75.r0.fords), vL 98 l_4.2.1 (RSa.enc t75.r0.sands), vL 55 l_4.2.2 (RSi.enc t75.r0.sights), ⟨22, RwH.enc l_1.2.2.2.rs, l_1.2.2.2.v.sp, l_1.2.2.2.v.q, dbl 3 RI t43.r1 l_1.2.2.2.rs⟩, vL 3 l_1.1 (RI.enc t43.r0.fords), vL 98 l_1.2.1 (RSa.enc t43.r0.sands), vL 55 l_2 (RSi.enc t49.r0)]) ?_ ?_
  ·replace hm := h60
   refine jh (jg Y Y (jc Y Y Y (fun _ _ => yQ Y Y) (jg Y Y ?_)))
   refine jL 154 Y (fun h62 => ?_) (fun h62 => ?_)
   ·replace hm := ifF (of_ndec_true h62) hm
    refine g_k Y Y Y Y (g_k Y Y Y Y (qq Y Y Y (jg Y Y (g_k Y Y Y Y (g_k Y Y Y Y (g_k Y Y Y Y (g_k Y Y Y Y ?_)))))))
    refine g_k Y Y Y Y (g_k Y Y Y Y (qq Y Y Y (jg Y Y (g_k Y Y Y Y (g_k Y Y Y Y (g_k Y Y Y Y (g_k Y Y Y Y ?_)))))))
    refine g_k Y Y Y Y (qq Y Y Y (jt ?_))
    obtain rfl := sj hm
    exact jj () (trivial) (sE Y) (hsE [0, 1, 2, 3, 4, 5] [1, 0, 2, 3, 4, 5, 6, 7, 8, 9, 10, 11] 0 Y Y Y Y)
   replace hm := ifT (of_ndec_false h62) hm
   refine jb Y Y (jg Y Y (jb Y Y (jc Y Y Y (fun _ _ => yQ Y Y) (yS Y Y Y (jg Y Y ?_)))))
   refine jL 158 Y (fun h63 => ?_) (fun h63 => ?_)
   ·replace hm := ifF (of_ndec_true h63) hm
    refine g_k Y Y Y Y (g_k Y Y Y Y (g_k Y Y Y Y (g_k Y Y Y Y (g_k Y Y Y Y (g_k Y Y Y Y (qq Y Y Y (jg Y Y ?_)))))))
    refine g_k Y Y Y Y (g_k Y Y Y Y (g_k Y Y Y Y (g_k Y Y Y Y (g_k Y Y Y Y (qq Y Y Y (jt ?_))))))
    obtain rfl := sj hm
    exact jj () (trivial) (sE Y) (hsE [0, 1, 2, 3, 4, 5] [1, 0, 2, 3, 4, 5, 6, 7, 8, 9, 10, 11] 0 Y Y Y Y)
   replace hm := ifT (of_ndec_false h63) hm
   refine jb Y Y (jg Y Y (jb Y Y (jc Y Y Y (fun w _ => zu (vlen RI h56 Y) (runUnderlying58 w) Y) (jb Y Y (yr 2 runUnderlying26 Y sizeOf22 Y Y (jb Y Y (qP 5 isAgg22 Y Y Y Y ?_)))))))
   refine jb Y Y (jc Y Y Y (fun w _ => zu (vlen RI h5 Y) (runUnderlying22 w) Y) (jb Y Y (jc Y Y Y (fun _ _ => yQ Y Y) (yS Y Y Y (jg Y Y ?_)))))
   refine jL 166 Y (fun h64 => ?_) (fun h64 => ?_)
   ·replace hm := ifF (of_ndec_true h64) hm
    refine g_k Y Y Y Y (g_k Y Y Y Y (g_k Y Y Y Y (g_k Y Y Y Y (g_k Y Y Y Y (qq Y Y Y (jt ?_))))))
    obtain rfl := sj hm
    exact jj () (trivial) (sE Y) (hsE [0, 1, 2, 3, 4, 5] [1, 0, 2, 3, 4, 5, 6, 7, 8, 9, 10, 11] 0 Y Y Y Y)
   replace hm := ifT (of_ndec_false h64) hm
   refine jb Y Y (jg Y Y (jb Y Y (jc Y Y Y (fun w _ => zu (vlen RI h59 Y) (runUnderlying58 w) Y) (jb Y Y (jg Y Y (jb Y Y (jc Y Y Y (fun w _ => zu (vlen RI h56 Y) (runUnderlying58 w) Y) ?_)))))))
   refine jb Y Y (jc Y Y Y (fun _ _ => yQ Y Y) (yS Y Y Y (jt ?_)))
   obtain rfl := sj hm
   exact jj () (trivial) (sE Y) (hsE [0, 1, 2, 3, 4, 5] [1, 0, 2, 3, 4, 5, 6, 7, 8, 9, 10, 11] 0 Y Y Y Y)
  intro l_12 hj
  replace hm := h61
  refine ja ?_
  refine js Y (fun h65 => ?_) (fun h65 => ?_)
  ·replace hm := ifT (h65) hm
   refine jp (jm Y Y (jo (jw (je ?_))))
   obtain rfl := sj hm
   refine jk Y (fun w hh => (.tmp Y .nil)) (fun w hh => ⟨(), rfl, trivial, hh.se [] [] 1 Y Y Y rfl⟩)
  replace hm := ifN h65 hm
  refine ju (ja (ji (jp (jg Y Y (jc Y Y Y (fun w _ => zu (vlen RI h56 Y) (runUnderlying58 w) Y) (jg Y Y (jo ?_)))))))
  obtain ⟨o_2, h66, h67⟩ := bindO hm
  refine jQ (ι := Unit) (fun j => o_2 = .inl j) (fun j => [(8, ptr b 0), (9, ptr b_1 0), (11, ptr b_3 0)]) (fun j => [kc b_4 #[.int .i64 t85.r0.cells, .int .i64 t85.r0.tides, sL l_5.1, sL l_5.2.1, sL l_5.2.2] 26, kc b_3 #[.int .i64 t75.r0.cells, .int .i64 t75.r0.tides, sL l_4.1, sL l_4.2.1, sL l_4.2.2] 26, kc b_2 #[.int .i64 t56, .int .i64 t61, .bool (!t70)] 55, kc l #[.slice qa0 na0 ca0, .int .i64 t49.b0_1, .int .u32 t49.b0_2] 199, kc b_1 #[sL l_1.2.2.2.v] 41, kc b #[.int .i64 t43.r0.cells, .int .i64 t43.r0.tides, sL l_1.1, sL l_1.2.1, sL l_2] 26]) (fun j => [vL 3 l_5.1 (RI.enc t85.r0.fords), vL 98 l_5.2.1 (RSa.enc t85.r0.sands), vL 55 l_5.2.2 (RSi.enc t85.r0.sights), vL 3 l_4.1 (RI.enc t75.r0.fords), vL 98 l_4.2.1 (RSa.enc t75.r0.sands), vL 55 l_4.2.2 (RSi.enc t75.r0.sights), ⟨22, RwH.enc l_1.2.2.2.rs, l_1.2.2.2.v.sp, l_1.2.2.2.v.q, dbl 3 RI t43.r1 l_1.2.2.2.rs⟩, vL 3 l_1.1 (RI.enc t43.r0.fords), vL 98 l_1.2.1 (RSa.enc t43.r0.sands), vL 55 l_2 (RSi.enc t49.r0)]) ?_ ?_
  ·replace hm := h66
   refine jn ?_
   refine jY (ι := Unit) hm (fun s l_13 => True) (fun s l_13 => [(8, ptr b 0), (9, ptr b_1 0), (11, ptr b_3 0), (22, sL l_11), (173, sL l_10), (174, .int .i64 (t144.r0.length : Int)), (175, .int .i64 s)]) (fun s l_13 => [kc b_4 #[.int .i64 t85.r0.cells, .int .i64 t85.r0.tides, sL l_5.1, sL l_5.2.1, sL l_5.2.2] 26, kc b_3 #[.int .i64 t75.r0.cells, .int .i64 t75.r0.tides, sL l_4.1, sL l_4.2.1, sL l_4.2.2] 26, kc b_2 #[.int .i64 t56, .int .i64 t61, .bool (!t70)] 55, kc l #[.slice qa0 na0 ca0, .int .i64 t49.b0_1, .int .u32 t49.b0_2] 199, kc b_1 #[sL l_1.2.2.2.v] 41, kc b #[.int .i64 t43.r0.cells, .int .i64 t43.r0.tides, sL l_1.1, sL l_1.2.1, sL l_2] 26]) (fun s l_13 => [vL 66 l_11 (RI.enc t149.r0), vL 66 l_10 (RI.enc t144.r0), vL 3 l_5.1 (RI.enc t85.r0.fords), vL 98 l_5.2.1 (RSa.enc t85.r0.sands), vL 55 l_5.2.2 (RSi.enc t85.r0.sights), vL 3 l_4.1 (RI.enc t75.r0.fords), vL 98 l_4.2.1 (RSa.enc t75.r0.sands), vL 55 l_4.2.2 (RSi.enc t75.r0.sights), ⟨22, RwH.enc l_1.2.2.2.rs, l_1.2.2.2.v.sp, l_1.2.2.2.v.q, dbl 3 RI t43.r1 l_1.2.2.2.rs⟩, vL 3 l_1.1 (RI.enc t43.r0.fords), vL 98 l_1.2.1 (RSa.enc t43.r0.sands), vL 55 l_2 (RSi.enc t49.r0)]) () (trivial) (sE Y) (hsE [0, 1, 2, 3, 4, 5] [1, 0, 2, 3, 4, 5, 6, 7, 8, 9, 10, 11] 0 Y Y Y Y) (fun s l_13 r hpl hm h68 => ?_)
   unfold kU at hm
   refine jp (J2 Y Y Y (jo (ji ?_)))
   refine js Y (fun h69 => ?_) (fun h69 => ?_)
   ·replace hm := ifD h69 hm
    refine ju (ja (ji (jn (jp (jg Y Y ?_)))))
    obtain ⟨t178, h70, hm⟩ := bindO hm
    refine jc Y Y Y (fun w _ => Jx h70 (runUnderlying58 w) (sizeOf66 w) Y Y (vlen RI h56 Y) (vne h56)) (jc Y Y Y (fun w hh => yU RI 0 h70 (isAgg66 w) Y (hh.vseg 1 Y h56) Y (Nat.add_zero _).symm) (jm Y Y (jm Y Y (jo (ji (ji ?_))))))
    obtain ⟨o_3, h71, h72⟩ := bindO hm
    refine jQ (ι := Unit) (fun l_14 => True) (fun l_14 => [(8, ptr b 0), (9, ptr b_1 0), (11, ptr b_3 0), (22, sL l_11), (23, .int .i64 s), (173, sL l_10), (174, .int .i64 (t144.r0.length : Int)), (175, .int .i64 s), (189, .bool o_3)]) (fun l_14 => [kc b_4 #[.int .i64 t85.r0.cells, .int .i64 t85.r0.tides, sL l_5.1, sL l_5.2.1, sL l_5.2.2] 26, kc b_3 #[.int .i64 t75.r0.cells, .int .i64 t75.r0.tides, sL l_4.1, sL l_4.2.1, sL l_4.2.2] 26, kc b_2 #[.int .i64 t56, .int .i64 t61, .bool (!t70)] 55, kc l #[.slice qa0 na0 ca0, .int .i64 t49.b0_1, .int .u32 t49.b0_2] 199, kc b_1 #[sL l_1.2.2.2.v] 41, kc b #[.int .i64 t43.r0.cells, .int .i64 t43.r0.tides, sL l_1.1, sL l_1.2.1, sL l_2] 26]) (fun l_14 => [vL 66 l_11 (RI.enc t149.r0), vL 66 l_10 (RI.enc t144.r0), vL 3 l_5.1 (RI.enc t85.r0.fords), vL 98 l_5.2.1 (RSa.enc t85.r0.sands), vL 55 l_5.2.2 (RSi.enc t85.r0.sights), vL 3 l_4.1 (RI.enc t75.r0.fords), vL 98 l_4.2.1 (RSa.enc t75.r0.sands), vL 55 l_4.2.2 (RSi.enc t75.r0.sights), ⟨22, RwH.enc l_1.2.2.2.rs, l_1.2.2.2.v.sp, l_1.2.2.2.v.q, dbl 3 RI t43.r1 l_1.2.2.2.rs⟩, vL 3 l_1.1 (RI.enc t43.r0.fords), vL 98 l_1.2.1 (RSa.enc t43.r0.sands), vL 55 l_2 (RSi.enc t49.r0)]) ?_ ?_
    ·replace hm := h71
     refine jh (jg Y Y (jc Y Y Y (fun _ _ => yQ Y Y) (jg Y Y ?_)))
     refine jL 182 Y (fun h73 => ?_) (fun h73 => ?_)
     ·replace hm := ifF (of_ndec_true h73) hm
      refine jb Y Y (jg Y Y (jb Y Y (jg Y Y (jb Y Y ?_))))
      obtain ⟨t185, h74, hm⟩ := bindO hm
      refine jc Y Y Y (fun w _ => Jx h74 (runUnderlying58 w) (sizeOf66 w) Y Y (vlen RI h59 Y) (vne h59)) (jb Y Y (jc Y Y Y (fun w hh => yU RI 0 h74 (isAgg66 w) Y (hh.vseg 0 Y h59) Y (Nat.add_zero _).symm) (jb Y Y (jg Y Y (jb Y Y (jc Y Y Y (fun _ _ => yQ Y Y) (qq Y Y Y ?_)))))))
      refine jt ?_
      obtain rfl := sj hm
      exact jj () (trivial) (sE Y) (fun w hh => hh)
     replace hm := ifT (of_ndec_false h73) hm
     refine g_k Y Y Y Y (g_k Y Y Y Y (g_k Y Y Y Y (g_k Y Y Y Y (g_k Y Y Y Y (g_k Y Y Y Y (yS Y Y Y (jt ?_)))))))
     obtain rfl := sj hm
     exact jj () (trivial) (sE Y) (fun w hh => hh)
    intro l_14 hj
    replace hm := h72
    refine ja ?_
    refine js Y (fun h75 => ?_) (fun h75 => ?_)
    ·replace hm := ifT (h75) hm
     refine jp (jm Y Y (jo (jw (je (jz (je (je ?_)))))))
     refine jz ?_
     obtain rfl := sj hm
     have hbo := h68 _ Y
     subst hbo
     refine je ?_
     replace hm := ocR h67
     refine je ?_
     obtain rfl := sj hm
     refine jk Y (fun w hh => (.tmp Y .nil)) (fun w hh => ⟨(), rfl, trivial, hh.se [] [] 1 Y Y Y rfl⟩)
    replace hm := ifN h75 hm
    refine ju (ja (jp (yr 1 runUnderlying26 Y sizeOf3 Y Y (qP 5 isAgg3 Y Y Y Y ?_))))
    obtain ⟨t192, h76, hm⟩ := bindO hm
    refine JI h76 Y Y Y (jg Y Y (jo ?_))
    obtain ⟨o_4, h77, h78⟩ := bindO hm
    refine jQ (ι := Unit) (fun j_1 => o_4 = .inl j_1) (fun j_1 => [(8, ptr b 0), (9, ptr b_1 0), (11, ptr b_3 0), (22, sL l_11), (173, sL l_10), (174, .int .i64 (t144.r0.length : Int)), (175, .int .i64 s)]) (fun j_1 => [kc b_4 #[.int .i64 t85.r0.cells, .int .i64 t85.r0.tides, sL l_5.1, sL l_5.2.1, sL l_5.2.2] 26, kc b_3 #[.int .i64 t75.r0.cells, .int .i64 t75.r0.tides, sL l_4.1, sL l_4.2.1, sL l_4.2.2] 26, kc b_2 #[.int .i64 t56, .int .i64 t61, .bool (!t70)] 55, kc l #[.slice qa0 na0 ca0, .int .i64 t49.b0_1, .int .u32 t49.b0_2] 199, kc b_1 #[sL l_1.2.2.2.v] 41, kc b #[.int .i64 t43.r0.cells, .int .i64 t43.r0.tides, sL l_1.1, sL l_1.2.1, sL l_2] 26]) (fun j_1 => [vL 66 l_11 (RI.enc t149.r0), vL 66 l_10 (RI.enc t144.r0), vL 3 l_5.1 (RI.enc t85.r0.fords), vL 98 l_5.2.1 (RSa.enc t85.r0.sands), vL 55 l_5.2.2 (RSi.enc t85.r0.sights), vL 3 l_4.1 (RI.enc t75.r0.fords), vL 98 l_4.2.1 (RSa.enc t75.r0.sands), vL 55 l_4.2.2 (RSi.enc t75.r0.sights), ⟨22, RwH.enc l_1.2.2.2.rs, l_1.2.2.2.v.sp, l_1.2.2.2.v.q, dbl 3 RI t43.r1 l_1.2.2.2.rs⟩, vL 3 l_1.1 (RI.enc t43.r0.fords), vL 98 l_1.2.1 (RSa.enc t43.r0.sands), vL 55 l_2 (RSi.enc t49.r0)]) ?_ ?_
    ·replace hm := h77
     refine jn ?_
     refine jY (ι := Unit) hm (fun s_1 l_15 => True) (fun s_1 l_15 => [(8, ptr b 0), (9, ptr b_1 0), (11, ptr b_3 0), (22, sL l_11), (23, .int .i64 s), (173, sL l_10), (174, .int .i64 (t144.r0.length : Int)), (175, .int .i64 s), (192, .int .i64 t192), (193, .int .i64 s_1)]) (fun s_1 l_15 => [kc b_4 #[.int .i64 t85.r0.cells, .int .i64 t85.r0.tides, sL l_5.1, sL l_5.2.1, sL l_5.2.2] 26, kc b_3 #[.int .i64 t75.r0.cells, .int .i64 t75.r0.tides, sL l_4.1, sL l_4.2.1, sL l_4.2.2] 26, kc b_2 #[.int .i64 t56, .int .i64 t61, .bool (!t70)] 55, kc l #[.slice qa0 na0 ca0, .int .i64 t49.b0_1, .int .u32 t49.b0_2] 199, kc b_1 #[sL l_1.2.2.2.v] 41, kc b #[.int .i64 t43.r0.cells, .int .i64 t43.r0.tides, sL l_1.1, sL l_1.2.1, sL l_2] 26]) (fun s_1 l_15 => [vL 66 l_11 (RI.enc t149.r0), vL 66 l_10 (RI.enc t144.r0), vL 3 l_5.1 (RI.enc t85.r0.fords), vL 98 l_5.2.1 (RSa.enc t85.r0.sands), vL 55 l_5.2.2 (RSi.enc t85.r0.sights), vL 3 l_4.1 (RI.enc t75.r0.fords), vL 98 l_4.2.1 (RSa.enc t75.r0.sands), vL 55 l_4.2.2 (RSi.enc t75.r0.sights), ⟨22, RwH.enc l_1.2.2.2.rs, l_1.2.2.2.v.sp, l_1.2.2.2.v.q, dbl 3 RI t43.r1 l_1.2.2.2.rs⟩, vL 3 l_1.1 (RI.enc t43.r0.fords), vL 98 l_1.2.1 (RSa.enc t43.r0.sands), vL 55 l_2 (RSi.enc t49.r0)]) () (trivial) (sE Y) (fun w hh => hh) (fun s_1 l_15 r_1 hpl hm h79 => ?_)
     unfold kO at hm
     refine jp (J2 Y Y Y (jo (ji ?_)))
     refine js Y (fun h80 => ?_) (fun h80 => ?_)
     ·replace hm := ifD h80 hm
      refine ju (ja (ji (jn (jp (jg Y Y (jm Y Y (kE ?_)))))))
      refine zf [_, _, _, _, _] 5 isAgg26 sizeOf26 Y Y Y Y (jg Y Y (jg Y Y ?_))
      obtain ⟨t200, h81, hm⟩ := bindO hm
      refine jd [] [] Y Y Y Y Y Y Y call42 (fun w hh => Kc (⟨t43.r0.cells, t43.r0.tides, t43.r0.fords, t43.r0.sands, t49.r0⟩ : Channel) s_1 s (qA l_1.1.q) l_1.1.n l_1.1.cap (qA l_1.2.1.q) l_1.2.1.n l_1.2.1.cap (qA l_2.q) l_2.n l_2.cap w (HV.callee (S0 := []) (vs0 := []) hh (roC (hh.vsepA 9 Y h5) (roC (hh.vsepA 10 Y h6) (roC (hh.vsepA 11 Y h14) roN)))) (vlen RI h5 Y) (AOK.q (vne h5)) (h5).hle (vlen RSa h6 Y) (AOK.q (vne h6)) (h6).hle (vlen RSi h14 Y) (AOK.q (vne h14)) (h14).hle h81) (fun l_16 h82 => ?_)
      have h83 := h82
      refine kt (S' := [_, _, _, _, _, _]) (vs' := [_, _, _, _, _, _, _, _, _, _, _, _, _]) [0, 1, 2, 3, 4, 5] [0, 1, 2, 3, 4, 5, 6, 7, 8, 9, 10, 11, 12] 0 Y Y Y Y ?_
      refine jg Y Y (yk Y Y Y (yk Y Y Y ?_))
      refine jv (fun w => zeroValue22 w) Y (fun b_5 h84 => ?_)
      refine yg (cs' := #[_]) (S' := [_, _, _, _, _, _, _]) 0 (fun w => sizeOf22 w) Y Y Y Y Y Y Y (jm Y Y (kE (zf [_, _, _, _, _] 2 isAgg26 sizeOf26 Y Y Y Y (jg Y Y (jg Y Y ?_)))))
      obtain ⟨t207, h85, hm⟩ := bindO hm
      refine jd [] [] Y Y Y Y Y Y Y call42 (fun w hh => Kc t75.r0 s_1 s (qA l_4.1.q) l_4.1.n l_4.1.cap (qA l_4.2.1.q) l_4.2.1.n l_4.2.1.cap (qA l_4.2.2.q) l_4.2.2.n l_4.2.2.cap w (HV.callee (S0 := []) (vs0 := []) hh (roC (hh.vsepA 6 Y h26) (roC (hh.vsepA 7 Y h27) (roC (hh.vsepA 8 Y h28) roN)))) (vlen RI h26 Y) (AOK.q (vne h26)) (h26).hle (vlen RSa h27 Y) (AOK.q (vne h27)) (h27).hle (vlen RSi h28 Y) (AOK.q (vne h28)) (h28).hle h85) (fun l_17 h86 => ?_)
      have h87 := h86
      refine kt (S' := [_, _, _, _, _, _, _]) (vs' := [_, _, _, _, _, _, _, _, _, _, _, _, _, _]) [0, 1, 2, 3, 4, 5, 6] [0, 1, 2, 3, 4, 5, 6, 7, 8, 9, 10, 11, 12, 13] 0 Y Y Y Y ?_
      refine jg Y Y (yk Y Y Y (yk Y Y Y (jm Y Y (jm Y Y (jo (ji ?_))))))
      obtain ⟨o_5, h88, h89⟩ := bindO hm
      refine jQ (ι := Unit) (fun l_18 => True) (fun l_18 => [(8, ptr b 0), (9, ptr b_1 0), (11, ptr b_3 0), (22, sL l_11), (23, .int .i64 s), (173, sL l_10), (174, .int .i64 (t144.r0.length : Int)), (175, .int .i64 s), (192, .int .i64 t192), (193, .int .i64 s_1), (220, .bool o_5)]) (fun l_18 => [kc b_5 #[sL l_16] 22, kc b_4 #[.int .i64 t85.r0.cells, .int .i64 t85.r0.tides, sL l_5.1, sL l_5.2.1, sL l_5.2.2] 26, kc b_3 #[.int .i64 t75.r0.cells, .int .i64 t75.r0.tides, sL l_4.1, sL l_4.2.1, sL l_4.2.2] 26, kc b_2 #[.int .i64 t56, .int .i64 t61, .bool (!t70)] 55, kc l #[.slice qa0 na0 ca0, .int .i64 t49.b0_1, .int .u32 t49.b0_2] 199, kc b_1 #[sL l_1.2.2.2.v] 41, kc b #[.int .i64 t43.r0.cells, .int .i64 t43.r0.tides, sL l_1.1, sL l_1.2.1, sL l_2] 26]) (fun l_18 => [vL 66 l_11 (RI.enc t149.r0), vL 66 l_10 (RI.enc t144.r0), vL 3 l_16 (RI.enc t200.r0), vL 3 l_5.1 (RI.enc t85.r0.fords), vL 98 l_5.2.1 (RSa.enc t85.r0.sands), vL 55 l_5.2.2 (RSi.enc t85.r0.sights), vL 3 l_4.1 (RI.enc t75.r0.fords), vL 98 l_4.2.1 (RSa.enc t75.r0.sands), vL 55 l_4.2.2 (RSi.enc t75.r0.sights), ⟨22, RwH.enc l_1.2.2.2.rs, l_1.2.2.2.v.sp, l_1.2.2.2.v.q, dbl 3 RI t43.r1 l_1.2.2.2.rs⟩, vL 3 l_1.1 (RI.enc t43.r0.fords), vL 98 l_1.2.1 (RSa.enc t43.r0.sands), vL 55 l_2 (RSi.enc t49.r0)]) ?_ ?_
      ·replace hm := h88
       refine jh (jg Y Y (jc Y Y Y (fun _ _ => yQ Y Y) (jg Y Y ?_)))
       refine jL 212 Y (fun h90 => ?_) (fun h90 => ?_)
       ·replace hm := ifF (of_ndec_true h90) hm
        refine g_k Y Y Y Y (g_k Y Y Y Y (qq Y Y Y (jg Y Y (g_k Y Y Y Y (g_k Y Y Y Y (g_k Y Y Y Y (qq Y Y Y ?_)))))))
        refine jt ?_
        obtain rfl := sj hm
        exact jj () (trivial) (sE Y) (hsE [0, 1, 2, 3, 4, 5, 6] [2, 3, 1, 4, 5, 6, 7, 8, 9, 10, 11, 12, 13] 0 Y Y Y Y)
       replace hm := ifT (of_ndec_false h90) hm
       refine jb Y Y (jg Y Y (jb Y Y (jc Y Y Y (fun _ _ => yQ Y Y) (yS Y Y Y (jg Y Y ?_)))))
       refine jL 216 Y (fun h91 => ?_) (fun h91 => ?_)
       ·replace hm := ifF (of_ndec_true h91) hm
        refine g_k Y Y Y Y (g_k Y Y Y Y (g_k Y Y Y Y (qq Y Y Y (jt ?_))))
        obtain rfl := sj hm
        exact jj () (trivial) (sE Y) (hsE [0, 1, 2, 3, 4, 5, 6] [2, 3, 1, 4, 5, 6, 7, 8, 9, 10, 11, 12, 13] 0 Y Y Y Y)
       replace hm := ifT (of_ndec_false h91) hm
       refine jb Y Y (jg Y Y (jb Y Y (jc Y Y Y (fun _ _ => kr (u := #[]) (u' := #[_]) Y Y) (jb Y Y ?_))))
       obtain ⟨t219, h92, hm⟩ := bindO hm
       refine jd [] [] Y Y Y Y Y Y Y call65 (fun w hh => KO t207.r0 t200.r0 (qA l_17.q) l_17.n l_17.cap b_5 (qA l_16.q) l_16.n l_16.cap w (HV.callee (S0 := []) (vs0 := []) hh (roC (hh.vsepA 0 Y h87) (roC (bsep (hh.bseg 0 Y)) (roC (hh.vsepA 1 Y h83) roN)))) (vlen RI h87 Y) (AOK.q (vne h87)) (h87).hle (vlen RI h83 Y) (AOK.q (vne h83)) (h83).hle h92) (fun l_19 h93 => ?_)
       refine yS Y Y Y (jt ?_)
       obtain rfl := sj hm
       exact jj () (trivial) (sE Y) (hsE [0, 1, 2, 3, 4, 5, 6] [2, 3, 1, 4, 5, 6, 7, 8, 9, 10, 11, 12, 13] 0 Y Y Y Y)
      intro l_18 hj
      replace hm := h89
      refine ja ?_
      refine js Y (fun h94 => ?_) (fun h94 => ?_)
      ·replace hm := ifT (h94) hm
       refine jp (jm Y Y (jo (jw (jz (je (je (jz ?_)))))))
       obtain rfl := sj hm
       have hbo := h79 _ Y
       subst hbo
       refine je ?_
       replace hm := ocR h78
       refine jz (je (je (jz ?_)))
       obtain rfl := sj hm
       have hbo := h68 _ Y
       subst hbo
       refine je ?_
       replace hm := ocR h67
       refine je ?_
       obtain rfl := sj hm
       refine jk Y (fun w hh => (.tmp Y .nil)) (fun w hh => ⟨(), rfl, trivial, hh.se [] [] 1 Y Y Y rfl⟩)
      replace hm := ifN h94 hm
      refine ju (jx (ja (jh ?_)))
      obtain ⟨t221, h95, hm⟩ := bindO hm
      refine JI h95 Y Y Y (jg Y Y (jt ?_))
      obtain rfl := sj hm
      refine ja ?_
      exact jE _ () Y (trivial) (sE Y) (hsE [1, 2, 3, 4, 5, 6] [0, 1, 3, 4, 5, 6, 7, 8, 9, 10, 11, 12] 0 Y Y Y Y)
     replace hm := ifE h80 hm
     refine kn (jl (jl (jG ?_)))
     obtain rfl := sj hm
     have hbo := h79 _ Y
     subst hbo
     exact jj () (Y) (sE Y) (fun w hh => hh)
    intro j_1 hj
    have h96 := hj
    subst h96
    replace hm := ocL h78
    refine jx (ja (jh ?_))
    obtain ⟨t222, h97, hm⟩ := bindO hm
    refine JI h97 Y Y Y (jg Y Y (jt ?_))
    obtain rfl := sj hm
    refine ja ?_
    exact jE _ () Y (trivial) (sE Y) (fun w hh => hh)
   replace hm := ifE h69 hm
   refine kn (jl (jl (jG ?_)))
   obtain rfl := sj hm
   have hbo := h68 _ Y
   subst hbo
   exact jj () (Y) (sE Y) (hsE [0, 1, 2, 3, 4, 5] [2, 3, 4, 5, 6, 7, 8, 9, 10, 11] 0 Y Y Y Y)
  intro j hj
  have h98 := hj
  subst h98
  replace hm := ocL h67
  refine ja (ji (jp (yr 1 runUnderlying26 Y sizeOf3 Y Y (qP 5 isAgg3 Y Y Y Y ?_))))
  obtain ⟨t225, h99, hm⟩ := bindO hm
  refine JI h99 Y Y Y (jg Y Y (jo ?_))
  obtain ⟨o_6, h100, h101⟩ := bindO hm
  refine jQ (ι := Unit) (fun j_2 => o_6 = .inl j_2) (fun j_2 => []) (fun j_2 => [kc b_4 #[.int .i64 t85.r0.cells, .int .i64 t85.r0.tides, sL l_5.1, sL l_5.2.1, sL l_5.2.2] 26, kc b_3 #[.int .i64 t75.r0.cells, .int .i64 t75.r0.tides, sL l_4.1, sL l_4.2.1, sL l_4.2.2] 26, kc b_2 #[.int .i64 t56, .int .i64 t61, .bool (!t70)] 55, kc l #[.slice qa0 na0 ca0, .int .i64 t49.b0_1, .int .u32 t49.b0_2] 199, kc b_1 #[sL l_1.2.2.2.v] 41, kc b #[.int .i64 t43.r0.cells, .int .i64 t43.r0.tides, sL l_1.1, sL l_1.2.1, sL l_2] 26]) (fun j_2 => [vL 3 l_5.1 (RI.enc t85.r0.fords), vL 98 l_5.2.1 (RSa.enc t85.r0.sands), vL 55 l_5.2.2 (RSi.enc t85.r0.sights), vL 3 l_4.1 (RI.enc t75.r0.fords), vL 98 l_4.2.1 (RSa.enc t75.r0.sands), vL 55 l_4.2.2 (RSi.enc t75.r0.sights), ⟨22, RwH.enc l_1.2.2.2.rs, l_1.2.2.2.v.sp, l_1.2.2.2.v.q, dbl 3 RI t43.r1 l_1.2.2.2.rs⟩, vL 3 l_1.1 (RI.enc t43.r0.fords), vL 98 l_1.2.1 (RSa.enc t43.r0.sands), vL 55 l_2 (RSi.enc t49.r0)]) ?_ ?_
  ·replace hm := h100
   refine jn ?_
   refine jY (ι := Unit) hm (fun s_2 l_20 => True) (fun s_2 l_20 => [(8, ptr b 0), (9, ptr b_1 0), (11, ptr b_3 0), (225, .int .i64 t225), (226, .int .i64 s_2)]) (fun s_2 l_20 => [kc b_4 #[.int .i64 t85.r0.cells, .int .i64 t85.r0.tides, sL l_5.1, sL l_5.2.1, sL l_5.2.2] 26, kc b_3 #[.int .i64 t75.r0.cells, .int .i64 t75.r0.tides, sL l_4.1, sL l_4.2.1, sL l_4.2.2] 26, kc b_2 #[.int .i64 t56, .int .i64 t61, .bool (!t70)] 55, kc l #[.slice qa0 na0 ca0, .int .i64 t49.b0_1, .int .u32 t49.b0_2] 199, kc b_1 #[sL l_1.2.2.2.v] 41, kc b #[.int .i64 t43.r0.cells, .int .i64 t43.r0.tides, sL l_1.1, sL l_1.2.1, sL l_2] 26]) (fun s_2 l_20 => [vL 3 l_5.1 (RI.enc t85.r0.fords), vL 98 l_5.2.1 (RSa.enc t85.r0.sands), vL 55 l_5.2.2 (RSi.enc t85.r0.sights), vL 3 l_4.1 (RI.enc t75.r0.fords), vL 98 l_4.2.1 (RSa.enc t75.r0.sands), vL 55 l_4.2.2 (RSi.enc t75.r0.sights), ⟨22, RwH.enc l_1.2.2.2.rs, l_1.2.2.2.v.sp, l_1.2.2.2.v.q, dbl 3 RI t43.r1 l_1.2.2.2.rs⟩, vL 3 l_1.1 (RI.enc t43.r0.fords), vL 98 l_1.2.1 (RSa.enc t43.r0.sands), vL 55 l_2 (RSi.enc t49.r0)]) () (trivial) (sE Y) (fun w hh => hh) (fun s_2 l_20 r_3 hpl hm h102 => ?_)
   unfold kQ at hm
   refine jp (J2 Y Y Y (jo (ji ?_)))
   refine js Y (fun h103 => ?_) (fun h103 => ?_)
   ·replace hm := ifD h103 hm
    refine ju (ja (ji (jn (jp (jg Y Y ?_)))))
    refine jv (fun w => zeroValue3 w) Y (fun b_6 h104 => ?_)
    refine yg (cs' := #[_]) (S' := [_, _, _, _, _, _, _]) 0 (fun w => sizeOf3 w) Y Y Y Y Y Y Y (kE (zf [_, _, _, _, _] 6 isAgg26 sizeOf26 Y Y Y Y (qP 0 isAgg3 Y Y Y Y ?_)))
    obtain ⟨t232, h105, hm⟩ := bindO hm
    refine jd [] [] Y Y Y Y Y Y Y call43 (fun w hh => Yg (⟨t43.r0.cells, t43.r0.tides, t43.r0.fords, t43.r0.sands, t49.r0⟩ : Channel) s_2 (qA l_1.1.q) l_1.1.n l_1.1.cap (qA l_1.2.1.q) l_1.2.1.n l_1.2.1.cap (qA l_2.q) l_2.n l_2.cap w (HV.callee (S0 := []) (vs0 := []) hh (roC (hh.vsepA 7 Y h5) (roC (hh.vsepA 8 Y h6) (roC (hh.vsepA 9 Y h14) roN)))) (vlen RI h5 Y) (AOK.q (vne h5)) (h5).hle (vlen RSa h6 Y) (AOK.q (vne h6)) (h6).hle (vlen RSi h14 Y) (AOK.q (vne h14)) (h14).hle h105) (fun l_21 h106 => ?_)
    have h107 := h106
    refine kt (S' := [_, _, _, _, _, _, _]) (vs' := [_, _, _, _, _, _, _, _, _, _, _]) [0, 1, 2, 3, 4, 5, 6] [0, 1, 2, 3, 4, 5, 6, 7, 8, 9, 10] 0 Y Y Y Y (jg Y Y (yk Y Y Y (yk Y Y Y (jm Y Y (jm Y Y (kE (zf [_, _, _, _, _] 2 isAgg26 sizeOf26 Y Y Y Y ?_)))))))
    refine qP 0 isAgg3 Y Y Y Y ?_
    obtain ⟨t238, h108, hm⟩ := bindO hm
    refine jd [] [] Y Y Y Y Y Y Y call43 (fun w hh => Yg t75.r0 s_2 (qA l_4.1.q) l_4.1.n l_4.1.cap (qA l_4.2.1.q) l_4.2.1.n l_4.2.1.cap (qA l_4.2.2.q) l_4.2.2.n l_4.2.2.cap w (HV.callee (S0 := []) (vs0 := []) hh (roC (hh.vsepA 4 Y h26) (roC (hh.vsepA 5 Y h27) (roC (hh.vsepA 6 Y h28) roN)))) (vlen RI h26 Y) (AOK.q (vne h26)) (h26).hle (vlen RSa h27 Y) (AOK.q (vne h27)) (h27).hle (vlen RSi h28 Y) (AOK.q (vne h28)) (h28).hle h108) (fun l_22 h109 => ?_)
    have h110 := h109
    refine kt (S' := [_, _, _, _, _, _, _]) (vs' := [_, _, _, _, _, _, _, _, _, _, _, _]) [0, 1, 2, 3, 4, 5, 6] [0, 1, 2, 3, 4, 5, 6, 7, 8, 9, 10, 11] 0 Y Y Y Y (jg Y Y (yk Y Y Y (yk Y Y Y ?_)))
    refine jv (fun w => zeroValue22 w) Y (fun b_7 h111 => ?_)
    refine yg (cs' := #[_]) (S' := [_, _, _, _, _, _, _, _]) 0 (fun w => sizeOf22 w) Y Y Y Y Y Y Y (jm Y Y (kE (zf [_, _, _, _, _] 7 isAgg26 sizeOf26 Y Y Y Y (qP 1 isAgg3 Y Y Y Y ?_))))
    obtain ⟨t244, h112, hm⟩ := bindO hm
    refine jd [] [] Y Y Y Y Y Y Y call44 (fun w hh => Yd (⟨t43.r0.cells, t43.r0.tides, t43.r0.fords, t43.r0.sands, t49.r0⟩ : Channel) s_2 (qA l_1.1.q) l_1.1.n l_1.1.cap (qA l_1.2.1.q) l_1.2.1.n l_1.2.1.cap (qA l_2.q) l_2.n l_2.cap w (HV.callee (S0 := []) (vs0 := []) hh (roC (hh.vsepA 9 Y h5) (roC (hh.vsepA 10 Y h6) (roC (hh.vsepA 11 Y h14) roN)))) (vlen RI h5 Y) (AOK.q (vne h5)) (h5).hle (vlen RSa h6 Y) (AOK.q (vne h6)) (h6).hle (vlen RSi h14 Y) (AOK.q (vne h14)) (h14).hle h112) (fun l_23 h113 => ?_)
    have h114 := h113
    refine kt (S' := [_, _, _, _, _, _, _, _]) (vs' := [_, _, _, _, _, _, _, _, _, _, _, _, _]) [0, 1, 2, 3, 4, 5, 6, 7] [0, 1, 2, 3, 4, 5, 6, 7, 8, 9, 10, 11, 12] 0 Y Y Y Y ?_
    refine jg Y Y (yk Y Y Y (yk Y Y Y (jm Y Y (jm Y Y (kE (zf [_, _, _, _, _] 3 isAgg26 sizeOf26 Y Y Y Y (qP 1 isAgg3 Y Y Y Y ?_)))))))
    obtain ⟨t250, h115, hm⟩ := bindO hm
    refine jd [] [] Y Y Y Y Y Y Y call44 (fun w hh => Yd t75.r0 s_2 (qA l_4.1.q) l_4.1.n l_4.1.cap (qA l_4.2.1.q) l_4.2.1.n l_4.2.1.cap (qA l_4.2.2.q) l_4.2.2.n l_4.2.2.cap w (HV.callee (S0 := []) (vs0 := []) hh (roC (hh.vsepA 6 Y h26) (roC (hh.vsepA 7 Y h27) (roC (hh.vsepA 8 Y h28) roN)))) (vlen RI h26 Y) (AOK.q (vne h26)) (h26).hle (vlen RSa h27 Y) (AOK.q (vne h27)) (h27).hle (vlen RSi h28 Y) (AOK.q (vne h28)) (h28).hle h115) (fun l_24 h116 => ?_)
    have h117 := h116
    refine kt (S' := [_, _, _, _, _, _, _, _]) (vs' := [_, _, _, _, _, _, _, _, _, _, _, _, _, _]) [0, 1, 2, 3, 4, 5, 6, 7] [0, 1, 2, 3, 4, 5, 6, 7, 8, 9, 10, 11, 12, 13] 0 Y Y Y Y ?_
    refine jg Y Y (yk Y Y Y (yk Y Y Y ?_))
    refine jv (fun w => zeroValue22 w) Y (fun b_8 h118 => ?_)
    refine yg (cs' := #[_]) (S' := [_, _, _, _, _, _, _, _, _]) 0 (fun w => sizeOf22 w) Y Y Y Y Y Y Y (jm Y Y (jo (ji ?_)))
    obtain ⟨o_7, h119, h120⟩ := bindO hm
    refine jQ (ι := Unit) (fun l_25 => True) (fun l_25 => [(8, ptr b 0), (9, ptr b_1 0), (11, ptr b_3 0), (225, .int .i64 t225), (226, .int .i64 s_2), (276, .bool o_7)]) (fun l_25 => [kc b_8 #[sL l_24] 22, kc b_7 #[sL l_22] 22, kc b_6 #[.int .i64 s_2] 3, kc b_4 #[.int .i64 t85.r0.cells, .int .i64 t85.r0.tides, sL l_5.1, sL l_5.2.1, sL l_5.2.2] 26, kc b_3 #[.int .i64 t75.r0.cells, .int .i64 t75.r0.tides, sL l_4.1, sL l_4.2.1, sL l_4.2.2] 26, kc b_2 #[.int .i64 t56, .int .i64 t61, .bool (!t70)] 55, kc l #[.slice qa0 na0 ca0, .int .i64 t49.b0_1, .int .u32 t49.b0_2] 199, kc b_1 #[sL l_1.2.2.2.v] 41, kc b #[.int .i64 t43.r0.cells, .int .i64 t43.r0.tides, sL l_1.1, sL l_1.2.1, sL l_2] 26]) (fun l_25 => [vL 3 l_24 (RI.enc t250.r0), vL 3 l_22 (RI.enc t238.r0), vL 3 l_5.1 (RI.enc t85.r0.fords), vL 98 l_5.2.1 (RSa.enc t85.r0.sands), vL 55 l_5.2.2 (RSi.enc t85.r0.sights), vL 3 l_4.1 (RI.enc t75.r0.fords), vL 98 l_4.2.1 (RSa.enc t75.r0.sands), vL 55 l_4.2.2 (RSi.enc t75.r0.sights), ⟨22, RwH.enc l_1.2.2.2.rs, l_1.2.2.2.v.sp, l_1.2.2.2.v.q, dbl 3 RI t43.r1 l_1.2.2.2.rs⟩, vL 3 l_1.1 (RI.enc t43.r0.fords), vL 98 l_1.2.1 (RSa.enc t43.r0.sands), vL 55 l_2 (RSi.enc t49.r0)]) ?_ ?_
    ·replace hm := h119
     refine jh (jg Y Y (jc Y Y Y (fun _ _ => yQ Y Y) (jg Y Y ?_)))
     refine jL 255 Y (fun h121 => ?_) (fun h121 => ?_)
     ·replace hm := ifF (of_ndec_true h121) hm
      refine g_k Y Y Y Y (g_k Y Y Y Y (qq Y Y Y (jg Y Y (g_k Y Y Y Y (g_k Y Y Y Y (qq Y Y Y (jg Y Y ?_)))))))
      refine g_k Y Y Y Y (g_k Y Y Y Y (qq Y Y Y (jg Y Y (g_k Y Y Y Y (g_k Y Y Y Y (g_k Y Y Y Y (qq Y Y Y ?_)))))))
      refine jg Y Y (g_k Y Y Y Y (g_k Y Y Y Y (g_k Y Y Y Y (qq Y Y Y (jt ?_)))))
      obtain rfl := sj hm
      exact jj () (trivial) (sE Y) (hsE [0, 1, 2, 3, 4, 5, 6, 7, 8] [0, 2, 4, 5, 6, 7, 8, 9, 10, 11, 12, 13] 0 Y Y Y Y)
     replace hm := ifT (of_ndec_false h121) hm
     refine jb Y Y (jg Y Y (jb Y Y (jc Y Y Y (fun _ _ => yQ Y Y) (yS Y Y Y (jg Y Y ?_)))))
     refine jL 259 Y (fun h122 => ?_) (fun h122 => ?_)
     ·replace hm := ifF (of_ndec_true h122) hm
      refine g_k Y Y Y Y (g_k Y Y Y Y (qq Y Y Y (jg Y Y (g_k Y Y Y Y (g_k Y Y Y Y (qq Y Y Y (jg Y Y ?_)))))))
      refine g_k Y Y Y Y (g_k Y Y Y Y (g_k Y Y Y Y (qq Y Y Y (jg Y Y (g_k Y Y Y Y (g_k Y Y Y Y (g_k Y Y Y Y ?_)))))))
      refine qq Y Y Y (jt ?_)
      obtain rfl := sj hm
      exact jj () (trivial) (sE Y) (hsE [0, 1, 2, 3, 4, 5, 6, 7, 8] [0, 2, 4, 5, 6, 7, 8, 9, 10, 11, 12, 13] 0 Y Y Y Y)
     replace hm := ifT (of_ndec_false h122) hm
     refine jb Y Y (jg Y Y (jb Y Y (jc Y Y Y (fun _ _ => yQ Y Y) (yS Y Y Y (jg Y Y ?_)))))
     refine jL 263 Y (fun h123 => ?_) (fun h123 => ?_)
     ·replace hm := ifF (of_ndec_true h123) hm
      refine g_k Y Y Y Y (g_k Y Y Y Y (qq Y Y Y (jg Y Y (g_k Y Y Y Y (g_k Y Y Y Y (g_k Y Y Y Y (qq Y Y Y ?_)))))))
      refine jg Y Y (g_k Y Y Y Y (g_k Y Y Y Y (g_k Y Y Y Y (qq Y Y Y (jt ?_)))))
      obtain rfl := sj hm
      exact jj () (trivial) (sE Y) (hsE [0, 1, 2, 3, 4, 5, 6, 7, 8] [0, 2, 4, 5, 6, 7, 8, 9, 10, 11, 12, 13] 0 Y Y Y Y)
     replace hm := ifT (of_ndec_false h123) hm
     refine jb Y Y (jg Y Y (jb Y Y (jc Y Y Y (fun _ _ => yQ Y Y) (yS Y Y Y (jg Y Y ?_)))))
     refine jL 267 Y (fun h124 => ?_) (fun h124 => ?_)
     ·replace hm := ifF (of_ndec_true h124) hm
      refine g_k Y Y Y Y (g_k Y Y Y Y (g_k Y Y Y Y (qq Y Y Y (jg Y Y (g_k Y Y Y Y (g_k Y Y Y Y (g_k Y Y Y Y ?_)))))))
      refine qq Y Y Y (jt ?_)
      obtain rfl := sj hm
      exact jj () (trivial) (sE Y) (hsE [0, 1, 2, 3, 4, 5, 6, 7, 8] [0, 2, 4, 5, 6, 7, 8, 9, 10, 11, 12, 13] 0 Y Y Y Y)
     replace hm := ifT (of_ndec_false h124) hm
     refine jb Y Y (jg Y Y (jb Y Y (jc Y Y Y (fun _ _ => kr (u := #[]) (u' := #[_]) Y Y) (jb Y Y ?_))))
     obtain ⟨t270, h125, hm⟩ := bindO hm
     refine jd [] [] Y Y Y Y Y Y Y call65 (fun w hh => KF t232.r0 t238.r0 (qA l_21.q) l_21.n l_21.cap b_7 (qA l_22.q) l_22.n l_22.cap w (HV.callee (S0 := []) (vs0 := []) hh (roC (hh.vsepA 3 Y h107) (roC (bsep (hh.bseg 1 Y)) (roC (hh.vsepA 2 Y h110) roN)))) (vlen RI h107 Y) (AOK.q (vne h107)) (h107).hle (vlen RI h110 Y) (AOK.q (vne h110)) (h110).hle h125) (fun l_26 h126 => ?_)
     refine yS Y Y Y (jg Y Y ?_)
     refine jL 272 Y (fun h127 => ?_) (fun h127 => ?_)
     ·replace hm := ifT (h127) hm
      refine g_k Y Y Y Y (g_k Y Y Y Y (g_k Y Y Y Y (qq Y Y Y (jt ?_))))
      obtain rfl := sj hm
      exact jj () (trivial) (sE Y) (hsE [0, 1, 2, 3, 4, 5, 6, 7, 8] [0, 2, 4, 5, 6, 7, 8, 9, 10, 11, 12, 13] 0 Y Y Y Y)
     replace hm := ifN h127 hm
     refine jb Y Y (jg Y Y (jb Y Y (jc Y Y Y (fun _ _ => kr (u := #[]) (u' := #[_, _, _]) Y Y) (jb Y Y ?_))))
     obtain ⟨t275, h128, hm⟩ := bindO hm
     refine jd [] [] Y Y Y Y Y Y Y call65 (fun w hh => KI t244.r0 t250.r0 t43.r1 s_2 (qA l_23.q) l_23.n l_23.cap b_8 (qA l_24.q) l_24.n l_24.cap b_1 (qA l_1.2.2.2.v.q) l_1.2.2.2.v.n l_1.2.2.2.v.cap (toAL l_1.2.2.2.rs) b_6 w (HV.callee (S0 := []) (vs0 := []) hh (roC (hh.vsepA 1 Y h114) (roC (bsep (hh.bseg 0 Y)) (roC (hh.vsepA 0 Y h117) (roC (bsep (hh.bseg 7 Y)) (roC (hh.vsepD 10 Y h8) (roC (bsep (hh.bseg 2 Y)) roN))))))) (vlen RI h114 Y) (AOK.q (vne h114)) (h114).hle (vlen RI h117 Y) (AOK.q (vne h117)) (h117).hle (Eq.trans (h9).len (vlen RwH h8 Y)) (AOK.q (vne h8)) (h8).hle ((h9).toDRO Y) (hh.dsepT 10 Y h9) h128) (fun l_27 h129 => ?_)
     refine yS Y Y Y (jt ?_)
     obtain rfl := sj hm
     exact jj () (trivial) (sE Y) (hsE [0, 1, 2, 3, 4, 5, 6, 7, 8] [0, 2, 4, 5, 6, 7, 8, 9, 10, 11, 12, 13] 0 Y Y Y Y)
    intro l_25 hj
    replace hm := h120
    refine ja ?_
    refine js Y (fun h130 => ?_) (fun h130 => ?_)
    ·replace hm := ifT (h130) hm
     refine jp (jm Y Y (jo (jw (jz (je (je (jz ?_)))))))
     obtain rfl := sj hm
     have hbo := h102 _ Y
     subst hbo
     refine je ?_
     replace hm := ocR h101
     refine je ?_
     obtain rfl := sj hm
     refine jk Y (fun w hh => (.tmp Y .nil)) (fun w hh => ⟨(), rfl, trivial, hh.se [] [] 1 Y Y Y rfl⟩)
    replace hm := ifN h130 hm
    refine ju (jx (ja (jh ?_)))
    obtain ⟨t277, h131, hm⟩ := bindO hm
    refine JI h131 Y Y Y (jg Y Y (jt ?_))
    obtain rfl := sj hm
    refine ja ?_
    exact jE _ () Y (trivial) (sE Y) (hsE [3, 4, 5, 6, 7, 8] [2, 3, 4, 5, 6, 7, 8, 9, 10, 11] 0 Y Y Y Y)
   replace hm := ifE h103 hm
   refine kn (jl (jl (jG ?_)))
   obtain rfl := sj hm
   have hbo := h102 _ Y
   subst hbo
   exact jj () (Y) (.nil) (fun w hh => hh)
  intro j_2 hj
  have h132 := hj
  subst h132
  replace hm := ocL h101
  refine ja (jp ?_)
  obtain ⟨t278, h133, hm⟩ := bindO hm
  refine jd [] [] Y Y Y Y Y Y Y call19 (fun w hh => Q0  w (HV.callee (S0 := []) (vs0 := []) hh roN)  h133) (fun l_28 h134 => ?_)
  refine jm Y Y (jo (jw ?_))
  obtain rfl := sj hm
  refine jk Y (fun w hh => (.tmp Y .nil)) (fun w hh => ⟨(), rfl, trivial, hh.se [] [] 1 Y Y Y rfl⟩)
end Go.Proofs.Wb

namespace Go.Proofs.Wb
open Go Go.Fw Go.Gx Go.Sb
set_option linter.unusedVariables false
set_option maxRecDepth 100000
def E0 (n : Nat) : List (List Int) := (List.range (n + 1)).flatMap fun k => incL n k 0
theorem R_mono {nx : State → List State} {ag ag' : State → Bool} (h : ∀ s, ag s = true → ag' s = true) : ∀ k s, 0 < R nx ag k s → 0 < R nx ag' k s
  | 0, s, hp => by
    rw [R, if_pos (h s (R_ag hp))]
    omega
  | k + 1, s, hp => by
    obtain ⟨h1, t, ht, h2⟩ := R_succ_pos.1 hp
    exact R_succ_pos.2 ⟨h s h1, t, ht, R_mono h k t h2⟩
theorem canB_self {c : Channel} (r : Right c) (l : List Int) : canB c.sands l l = true := by
  unfold canB
  rw [List.all_eq_true]
  intro i _
  rw [inb_iff]
  have := rchC_bounds (x := l.getD i (-1)) r.reach
  omega
end Go.Proofs.Wb

namespace Go.Proofs.Wb
open Go Go.Fw Go.Gx Go.Sb
set_option linter.unusedVariables false
set_option maxRecDepth 100000
def rk (x : List Int) : Nat := (E0 5).idxOf x
end Go.Proofs.Wb

