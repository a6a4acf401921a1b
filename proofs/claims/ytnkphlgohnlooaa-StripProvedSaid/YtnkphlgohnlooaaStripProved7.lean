/- What the functions that the law StripProved reaches come to, and why it holds: part 7. -/
import Derived.Test.YtnkphlgohnlooaaStripProved6
import Derived.Deep.Slices
import Derived.ChangeArms
namespace Go.Proofs.Ws
open Go Go.Fw Go.Gx Go.Sp
set_option linter.unusedVariables false
def okE (s : Scalps) (t k : Nat) (n : Int) : Bool := decide (0 ≤ n ∧ n ≤ 60 ∧ (0 < n → reachB s.strips t k = true))
def rowV (row : List Int) (k : Nat) : Int := row.getD k 0
def rowB (s : Scalps) (t : Nat) (row : List Int) : Bool := decide (row.length = s.strips.length) && ((List.range s.strips.length).all (fun k => okE s t k (rowV row k)) && decide ((hOf s.carried t).lo ≤ sumTo (rowV row) s.strips.length ∧ sumTo (rowV row) s.strips.length ≤ (hOf s.carried t).hi))
def shV (rows : List (List Int)) (t k : Nat) : Int := rowV (rows.getD t []) k
def colB (s : Scalps) (rows : List (List Int)) (k : Nat) : Bool := decide ((gOf s.strips k).lo ≤ sumTo (fun t => shV rows t k) s.carried.length ∧ sumTo (fun t => shV rows t k) s.carried.length ≤ (gOf s.strips k).hi)
def fitsB (s : Scalps) (rows : List (List Int)) : Bool := decide (rows.length = s.carried.length) && ((List.range s.carried.length).all (fun t => rowB s t (rows.getD t [])) && (List.range s.strips.length).all (colB s rows))
theorem lawGone_eq (x : Strip) : m_laurellaw09_gone x = m_strip_Strip_gone x := rfl
theorem okE_iff {s : Scalps} {t k : Nat} {n : Int} : okE s t k n = true ↔ 0 ≤ n ∧ n ≤ 60 ∧ (0 < n → reachB s.strips t k = true) := decide_eq_true_iff
def vecS (S : Nat) (f : Nat → Int) : List Int := (List.range S).map f
theorem vecS_set {S k : Nat} {f : Nat → Int} {v : Int} : (vecS S f).set k v = vecS S fun i => if i = k then v else f i := range_set
theorem vecS_ix {S k : Nat} {f : Nat → Int} (h : k < S) : ix (vecS S f) (k : Int) = some (f k) := range_ix h
theorem vecS_len {S : Nat} {f : Nat → Int} : (vecS S f).length = S := by simp [vecS]
theorem vecS_congr {S : Nat} {f g : Nat → Int} (h : ∀ i, i < S → f i = g i) : vecS S f = vecS S g := List.map_congr_left fun i hi => h i (List.mem_range.1 hi)
theorem all_find {n : Nat} {p : Nat → Bool} : (List.range n).all p = ((List.range n).find? fun k => !p k).isNone := by
  rw [Bool.eq_iff_iff, List.all_eq_true, Option.isNone_iff_eq_none, List.find?_eq_none]
  constructor
  · intro h x hx; simp [h x hx]
  · intro h x hx; simpa using h x hx
theorem fits_L1 {s : Scalps} (h6 : s.strips.length ≤ 6) {t : Nat} {row : List Int} (hrow : row.length = s.strips.length) {f : Nat → Int} (hf : ∀ k, 0 ≤ f k ∧ f k ≤ 1000) {s0 : m_laurellaw09_fits_S0} (hs0 : s0.t26 = (t : Int)) :
    iterM FU (m_laurellaw09_fits_L1 row s s0) ⟨0, 0, vecS s.strips.length f⟩ = some (if (List.range s.strips.length).all (fun k => okE s t k (rowV row k)) = true then .inl ⟨sumTo (rowV row) s.strips.length, vecS s.strips.length fun k => f k + rowV row k⟩ else .inr false) := by
  have key := iterM_find (f := m_laurellaw09_fits_L1 row s s0) (fun k => ⟨sumTo (rowV row) k, (k : Int), vecS s.strips.length fun i => if i < k then f i + rowV row i else f i⟩) s.strips.length (fun k => !okE s t k (rowV row k)) (fun _ => .inr false) (.inl ⟨sumTo (rowV row) s.strips.length, vecS s.strips.length fun k => f k + rowV row k⟩) (fun k hk hprev => ?_) ?_ (N := FU) (FU_lt (by omega))
  · have e : (⟨0, 0, vecS s.strips.length f⟩ : m_laurellaw09_fits_S1) = ⟨sumTo (rowV row) 0, ((0 : Nat) : Int), vecS s.strips.length fun i => if i < 0 then f i + rowV row i else f i⟩ := by
      have : vecS s.strips.length f = vecS s.strips.length fun i => if i < 0 then f i + rowV row i else f i := vecS_congr fun i _ => by rw [if_neg (by omega)]
      rw [← this]; rfl
    rw [e, key, all_find]
    cases (List.range s.strips.length).find? (fun k => !okE s t k (rowV row k)) with
    | none => rfl
    | some k => rfl
  · unfold m_laurellaw09_fits_L1
    have hlt : (k : Int) < (row.length : Int) := by omega
    have hb : ∀ n, n ≤ k → 0 ≤ sumTo (rowV row) n ∧ sumTo (rowV row) n ≤ 60 * (n : Int) := fun n hn => sumTo_bound (f := rowV row) (b := 60) fun i hi => by
      have := hprev i (by omega)
      rw [Bool.not_eq_false'] at this
      have := okE_iff.1 this
      omega
    have hbk := hb k (Nat.le_refl _)
    simp only
    rw [if_pos hlt, ix_nat 0 (by omega), Option.bind_some]
    have hc : (if row.getD k 0 < 0 then some true else if 60 < row.getD k 0 then some true else if 0 < row.getD k 0 then (m_laurellaw09_reaches s s0.t26 (k : Int)).bind fun t56 => some (!t56) else some false) = some (!okE s t k (rowV row k)) := by
      rw [hs0, m_reaches_eq (by omega) (by omega), Option.bind_some]
      unfold rowV
      generalize row.getD k 0 = n
      by_cases h1 : n < 0
      · rw [if_pos h1]
        have : okE s t k n = false := by rw [← Bool.not_eq_true, okE_iff]; omega
        rw [this]; rfl
      · rw [if_neg h1]
        by_cases h2 : 60 < n
        · rw [if_pos h2]
          have : okE s t k n = false := by rw [← Bool.not_eq_true, okE_iff]; omega
          rw [this]; rfl
        · rw [if_neg h2]
          by_cases h3 : 0 < n
          · rw [if_pos h3]
            have : okE s t k n = reachB s.strips t k := by
              rw [Bool.eq_iff_iff, okE_iff]
              exact ⟨fun h => h.2.2 h3, fun h => ⟨by omega, by omega, fun _ => h⟩⟩
            rw [this]
          · rw [if_neg h3]
            have : okE s t k n = true := okE_iff.2 ⟨by omega, by omega, fun h => absurd h h3⟩
            rw [this]; rfl
    rw [hc, Option.bind_some]
    cases hok : okE s t k (rowV row k) with
    | false => rfl
    | true =>
      have hok' := okE_iff.1 hok
      have hfk := hf k
      simp only [Bool.not_true, Bool.false_eq_true, if_false]
      unfold rowV at hok' hbk ⊢
      rw [addc_eq (by omega), Option.bind_some, vecS_ix hk, Option.bind_some, if_neg (Nat.lt_irrefl _), addc_eq (by omega), Option.bind_some, Option.bind_some, Option.bind_some, addc_eq (by omega), Option.bind_some, show Int.toNat (k : Int) = k by omega, vecS_set]
      congr 3
      refine vecS_congr fun i _ => ?_
      by_cases hik : i = k
      · subst hik; rw [if_pos rfl, if_pos (by omega)]
      · rw [if_neg hik]
        by_cases h2 : i < k
        · rw [if_pos h2, if_pos (by omega)]
        · rw [if_neg h2, if_neg (by omega)]
  · unfold m_laurellaw09_fits_L1
    simp only
    rw [if_neg (by omega)]
    congr 3
    congr 1
    refine vecS_congr fun i hi => ?_
    rw [if_pos hi]
theorem fits_L0 {s : Scalps} (h6 : s.strips.length ≤ 6) (h5 : s.carried.length ≤ 5) {rows : List (List Int)} (hrows : rows.length = s.carried.length) :
    iterM FU (m_laurellaw09_fits_L0 rows s) ⟨0, vecS s.strips.length fun _ => 0⟩ = some (if (List.range s.carried.length).all (fun t => rowB s t (rows.getD t [])) = true then .inl (vecS s.strips.length fun k => sumTo (fun t => shV rows t k) s.carried.length) else .inr false) := by
  have key := iterM_find (f := m_laurellaw09_fits_L0 rows s) (fun t => ⟨(t : Int), vecS s.strips.length fun k => sumTo (fun t => shV rows t k) t⟩) s.carried.length (fun t => !rowB s t (rows.getD t [])) (fun _ => .inr false) (.inl (vecS s.strips.length fun k => sumTo (fun t => shV rows t k) s.carried.length)) (fun t ht hprev => ?_) ?_ (N := FU) (FU_lt (by omega))
  · have e : (⟨0, vecS s.strips.length fun _ => 0⟩ : m_laurellaw09_fits_S0) = ⟨((0 : Nat) : Int), vecS s.strips.length fun k => sumTo (fun t => shV rows t k) 0⟩ := rfl
    rw [e, key, all_find]
    cases (List.range s.carried.length).find? (fun t => !rowB s t (rows.getD t [])) with
    | none => rfl
    | some k => rfl
  · unfold m_laurellaw09_fits_L0
    have hlt : (t : Int) < (rows.length : Int) := by omega
    simp only
    rw [if_pos hlt, ix_nat [] (by omega), Option.bind_some, vecS_len]
    by_cases hlen : (rows.getD t []).length = s.strips.length
    · rw [if_pos (by omega)]
      have hbd : ∀ k, 0 ≤ (if k < s.strips.length then sumTo (fun t => shV rows t k) t else 0) ∧ (if k < s.strips.length then sumTo (fun t => shV rows t k) t else 0) ≤ 1000 := fun k => by
        by_cases hk : k < s.strips.length
        · rw [if_pos hk]
          have := sumTo_bound (f := fun t => shV rows t k) (b := 60) (n := t) (fun i hi => by
            have := hprev i hi
            rw [Bool.not_eq_false'] at this
            unfold rowB at this
            rw [Bool.and_eq_true, Bool.and_eq_true] at this
            have := okE_iff.1 (List.all_eq_true.1 this.2.1 k (List.mem_range.2 hk))
            unfold shV
            omega)
          omega
        · rw [if_neg hk]; omega
      have hL := fits_L1 h6 (t := t) hlen (f := fun k => if k < s.strips.length then sumTo (fun t => shV rows t k) t else 0) hbd (s0 := ⟨(t : Int), vecS s.strips.length fun k => sumTo (fun t => shV rows t k) t⟩) rfl
      rw [vecS_congr (f := fun k => if k < s.strips.length then sumTo (fun t => shV rows t k) t else 0) (g := fun k => sumTo (fun t => shV rows t k) t) (fun i hi => if_pos hi)] at hL
      rw [vecS_congr (f := fun k => (if k < s.strips.length then sumTo (fun t => shV rows t k) t else 0) + rowV (rows.getD t []) k) (g := fun k => sumTo (fun t => shV rows t k) (t + 1)) (fun i hi => by rw [if_pos hi]; rfl)] at hL
      rw [hL, Option.bind_some]
      unfold rowB
      rw [decide_eq_true hlen, Bool.true_and]
      by_cases hall : (List.range s.strips.length).all (fun k => okE s t k (rowV (rows.getD t []) k)) = true
      · rw [if_pos hall, oc_inl, hall, Bool.true_and]
        simp only
        rw [ix_nat default ht, Option.bind_some, Option.bind_some]
        unfold hOf
        by_cases h1 : sumTo (rowV (rows.getD t [])) s.strips.length < (s.carried.getD t default).lo
        · rw [if_pos h1, Option.bind_some, if_pos rfl, decide_eq_false (fun h => by omega)]; rfl
        · rw [if_neg h1, Option.bind_some]
          by_cases h2 : (s.carried.getD t default).hi < sumTo (rowV (rows.getD t [])) s.strips.length
          · rw [decide_eq_true h2, if_pos rfl, decide_eq_false (fun h => by omega)]; rfl
          · rw [decide_eq_false h2, if_neg (by simp), decide_eq_true ⟨by omega, by omega⟩, addc_eq (by omega), Option.bind_some]; rfl
      · have hf : (List.range s.strips.length).all (fun k => okE s t k (rowV (rows.getD t []) k)) = false := by simpa using hall
        rw [if_neg hall, oc_inr, hf]; rfl
    · rw [if_neg (by omega)]
      unfold rowB
      rw [decide_eq_false hlen]; rfl
  · unfold m_laurellaw09_fits_L0
    simp only
    rw [if_neg (by omega)]
theorem m_fits_eq {s : Scalps} (h : Right s) (rows : List (List Int)) : m_laurellaw09_fits s rows = some (fitsB s rows) := by
  have h6 := h.net.s6; have h5 := h.net.c5
  unfold m_laurellaw09_fits fitsB
  by_cases hl : rows.length = s.carried.length
  · rw [if_pos (by omega), makec_eq (by omega), Option.bind_some, decide_eq_true hl, Bool.true_and]
    have e : List.replicate (s.strips.length : Int).toNat (0 : Int) = vecS s.strips.length fun _ => 0 := by
      unfold vecS
      symm
      rw [List.eq_replicate_iff]
      exact ⟨by simp, fun b hb => by obtain ⟨t, _, rfl⟩ := List.mem_map.1 hb; rfl⟩
    rw [e, fits_L0 h6 h5 hl, Option.bind_some]
    by_cases hall : (List.range s.carried.length).all (fun t => rowB s t (rows.getD t [])) = true
    · rw [if_pos hall, oc_inl, hall, Bool.true_and]
      have key := iterM_any0 (f := m_laurellaw09_fits_L2 (vecS s.strips.length fun k => sumTo (fun t => shV rows t k) s.carried.length) s) s.strips.length (fun k => !colB s rows k) false (fun k hk => ?_) ?_ (N := FU) (FU_lt (by omega))
      · rw [key, Option.bind_some]
        have e2 : (List.range s.strips.length).all (colB s rows) = !(List.range s.strips.length).any fun k => !colB s rows k := (not_any_not).symm
        rw [e2]
        cases (List.range s.strips.length).any fun k => !colB s rows k <;> rfl
      · unfold m_laurellaw09_fits_L2
        have hx : s.strips.getD k default = s.strips[k] := by simp [List.getD_eq_getElem?_getD, hk]
        obtain ⟨b1, b2, b3, b4⟩ := h.net.sp _ (List.getElem_mem hk)
        rw [vecS_len, if_pos (by omega), vecS_ix hk, Option.bind_some, ix_nat default hk, Option.bind_some, hx, lawGone_eq]
        have e3 : m_strip_Strip_gone (⟨s.strips[k].tenant, ⟨s.strips[k].lay.lo, s.strips[k].lay.hi⟩, ⟨s.strips[k].seeded.lo, s.strips[k].seeded.hi⟩, ⟨s.strips[k].left.lo, s.strips[k].left.hi⟩⟩ : Strip) = some (gOf s.strips k) := by
          unfold gOf; rw [hx]; exact m_gone_eq b1 b2 b3
        rw [e3, Option.bind_some]
        unfold colB
        by_cases h1 : sumTo (fun t => shV rows t k) s.carried.length < (gOf s.strips k).lo
        · rw [if_pos h1, Option.bind_some, if_pos rfl, decide_eq_false (fun h => by omega)]; rfl
        · rw [if_neg h1, Option.bind_some]
          by_cases h2 : (gOf s.strips k).hi < sumTo (fun t => shV rows t k) s.carried.length
          · rw [decide_eq_true h2, if_pos rfl, decide_eq_false (fun h => by omega)]; rfl
          · rw [decide_eq_false h2, if_neg (by simp), decide_eq_true ⟨by omega, by omega⟩, addc_eq (by omega), Option.bind_some]; rfl
      · unfold m_laurellaw09_fits_L2
        rw [vecS_len, if_neg (by omega)]
    · have hf : (List.range s.carried.length).all (fun t => rowB s t (rows.getD t [])) = false := by simpa using hall
      rw [if_neg hall, oc_inr, hf]; rfl
  · rw [if_neg (by omega), decide_eq_false hl]; rfl
theorem mat_getD {T S t : Nat} {y : Nat → Nat → Int} (ht : t < T) : (mat T S y).getD t [] = vecS S (y t) := by
  unfold mat vecS
  simp [List.getD_eq_getElem?_getD, ht]
theorem vecS_get {S k : Nat} {f : Nat → Int} (hk : k < S) : rowV (vecS S f) k = f k := by
  unfold rowV vecS
  simp [List.getD_eq_getElem?_getD, hk]
theorem mat_shV {T S t k : Nat} {y : Nat → Nat → Int} (ht : t < T) (hk : k < S) : shV (mat T S y) t k = y t k := by
  unfold shV
  rw [mat_getD ht, vecS_get hk]
theorem mat_len {T S : Nat} {y : Nat → Nat → Int} : (mat T S y).length = T := by simp [mat]
theorem le60 {s : Scalps} (h : Right s) {y : Nat → Nat → Int} (hy : FitsS s y) {t k : Nat} (ht : t < s.carried.length) (hk : k < s.strips.length) : y t k ≤ 60 := by
  have a := sumTo_mem_le (f := y t) (n := s.strips.length) (j := k) (fun i hi => (hy.pos t i ht hi).1) hk
  have b := (hy.ten t ht).2
  have c := hOf_ok h.net ht
  have e : sumTo (fun k => y t k) s.strips.length = sumTo (y t) s.strips.length := rfl
  omega
theorem fitsB_mat {s : Scalps} (h : Right s) {y : Nat → Nat → Int} : fitsB s (mat s.carried.length s.strips.length y) = true ↔ FitsS s y := by
  unfold fitsB
  rw [mat_len, decide_eq_true rfl, Bool.true_and, Bool.and_eq_true, List.all_eq_true, List.all_eq_true]
  have hrowsum : ∀ t, t < s.carried.length → sumTo (rowV (vecS s.strips.length (y t))) s.strips.length = sumTo (fun k => y t k) s.strips.length := fun t ht => sumTo_congr fun k hk => vecS_get hk
  have hcolsum : ∀ k, k < s.strips.length → sumTo (fun t => shV (mat s.carried.length s.strips.length y) t k) s.carried.length = sumTo (fun t => y t k) s.carried.length := fun k hk => sumTo_congr fun t ht => mat_shV ht hk
  constructor
  · rintro ⟨h1, h2⟩
    have h1' : ∀ t, t < s.carried.length → (∀ k, k < s.strips.length → 0 ≤ y t k ∧ y t k ≤ 60 ∧ (0 < y t k → reachB s.strips t k = true)) ∧ (hOf s.carried t).lo ≤ sumTo (fun k => y t k) s.strips.length ∧ sumTo (fun k => y t k) s.strips.length ≤ (hOf s.carried t).hi := fun t ht => by
      have := h1 t (List.mem_range.2 ht)
      unfold rowB at this
      rw [mat_getD ht, Bool.and_eq_true, Bool.and_eq_true, List.all_eq_true] at this
      refine ⟨fun k hk => ?_, ?_⟩
      · have a := okE_iff.1 (this.2.1 k (List.mem_range.2 hk))
        rwa [vecS_get hk] at a
      · have a := of_decide_eq_true this.2.2
        rwa [hrowsum t ht] at a
    refine ⟨fun t k ht hk => ⟨((h1' t ht).1 k hk).1, ((h1' t ht).1 k hk).2.2⟩, fun t ht => (h1' t ht).2, fun k hk => ?_⟩
    have := of_decide_eq_true (h2 k (List.mem_range.2 hk))
    rwa [hcolsum k hk] at this
  · intro hy
    refine ⟨fun t ht => ?_, fun k hk => ?_⟩
    · have ht' := List.mem_range.1 ht
      unfold rowB
      rw [mat_getD ht', Bool.and_eq_true, Bool.and_eq_true, List.all_eq_true]
      refine ⟨decide_eq_true vecS_len, fun k hk => okE_iff.2 ?_, decide_eq_true ?_⟩
      · have hk' := List.mem_range.1 hk
        rw [vecS_get hk']
        exact ⟨(hy.pos t k ht' hk').1, le60 h hy ht' hk', (hy.pos t k ht' hk').2⟩
      · rw [hrowsum t ht']; exact hy.ten t ht'
    · have hk' := List.mem_range.1 hk
      unfold colB
      rw [hcolsum k hk']
      exact decide_eq_true (hy.str k hk')
end Go.Proofs.Ws

namespace Go.Proofs.Ws
open Go Go.Fw Go.Gx Go.Sp
set_option maxRecDepth 100000 in
theorem awake_eq : m_laurellaw09_awake = some true := by decide +kernel
end Go.Proofs.Ws

namespace Go.Proofs.Ws
open Go Go.Fw Go.Gx Go.Sp
set_option linter.unusedVariables false
def AscR (l : List Int) (n : Int) : Prop := (∀ j, j + 1 < l.length → gtI l j < gtI l (j + 1)) ∧ ∀ x, x ∈ l → 0 ≤ x ∧ x < n
theorem AscR.nil {n : Int} : AscR [] n := ⟨fun j hj => by simp at hj, fun x hx => by simp at hx⟩
theorem AscR.mono {l : List Int} {n m : Int} (h : AscR l n) (hnm : n ≤ m) : AscR l m := ⟨h.1, fun x hx => by have := h.2 x hx; omega⟩
theorem AscR.inr {l : List Int} {n : Int} (h : AscR l n) : (l.all fun x => inb x 0 (n - 1)) = true := by
  rw [List.all_eq_true]
  intro x hx
  have := h.2 x hx
  exact inb_iff.2 (by omega)
end Go.Proofs.Ws

namespace Go.Proofs.Ws
open Go Go.Fw Go.Gx Go.Sp
set_option linter.unusedVariables false
theorem gone_at {s : Scalps} (h : Right s) {k : Nat} (hk : k < s.strips.length) : m_strip_Strip_gone (s.strips.getD k default) = some (gOf s.strips k) := by
  have hx : s.strips.getD k default = s.strips[k] := by simp [List.getD_eq_getElem?_getD, hk]
  obtain ⟨b1, b2, b3, b4⟩ := h.net.sp _ (List.getElem_mem hk)
  unfold gOf; rw [hx]; exact m_gone_eq b1 b2 b3
theorem countS_congr {s : Scalps} {c c' y y' : Nat → Nat → Int} (h : ∀ t k, t < s.carried.length → k < s.strips.length → c t k * y t k = c' t k * y' t k) : countS s c y = countS s c' y' := by
  unfold countS countY
  exact sumTo_congr fun t ht => sumTo_congr fun k hk => h t k ht hk
end Go.Proofs.Ws

namespace Go.Proofs.Ws
open Go Go.Fw Go.Gx Go.Sp
set_option linter.unusedVariables false
theorem hok0 {l : List Int} : HOK l 0 := ⟨Int.le_refl _, .inr rfl⟩
end Go.Proofs.Ws

namespace Go.Proofs.Ws
open Go Go.Fw Go.Gx Go.Sp
set_option linter.unusedVariables false
structure Alike (s s' : Scalps) : Prop where
  ca : s'.carried = s.carried
  ten : s'.strips.map (·.tenant) = s.strips.map (·.tenant)
  gone : ∀ k, k < s.strips.length → gOf s'.strips k = gOf s.strips k
theorem Alike.len {s s' : Scalps} (h : Alike s s') : s'.strips.length = s.strips.length := by have := congrArg List.length h.ten; simpa using this
theorem Alike.fits {s s' : Scalps} (h : Alike s s') {y : Nat → Nat → Int} : FitsS s' y ↔ FitsS s y := by
  have hl := h.len
  have hr : ∀ t k, reachB s'.strips t k = reachB s.strips t k := reachB_congr h.ten
  constructor
  · intro hy
    exact ⟨fun t k ht hk => by rw [← hr]; exact hy.pos t k (by rw [h.ca]; exact ht) (by omega), fun t ht => by have := hy.ten t (by rw [h.ca]; exact ht); rw [h.ca, hl] at this; exact this, fun k hk => by have := hy.str k (by omega); rw [h.gone k hk, h.ca] at this; exact this⟩
  · intro hy
    exact ⟨fun t k ht hk => by rw [hr]; exact hy.pos t k (by rw [← h.ca]; exact ht) (by omega), fun t ht => by rw [h.ca, hl]; exact hy.ten t (by rw [← h.ca]; exact ht), fun k hk => by rw [h.gone k (by omega), h.ca]; exact hy.str k (by omega)⟩
theorem Alike.count {s s' : Scalps} (h : Alike s s') {c c' : Nat → Nat → Int} (hc : ∀ t k, c' t k = c t k) (y : Nat → Nat → Int) : countS s' c' y = countS s c y := by
  unfold countS countY
  rw [h.ca, h.len]
  exact sumTo_congr fun t ht => sumTo_congr fun k hk => by rw [hc]
theorem Alike.range {s s' : Scalps} (h : Alike s s') {c c' : Nat → Nat → Int} (hc : ∀ t k, c' t k = c t k) {lo hi : Int} (hr : IsRange s' c' lo hi) : IsRange s c lo hi := by
  obtain ⟨⟨y1, f1, e1⟩, ⟨y2, f2, e2⟩, h3⟩ := hr
  exact ⟨⟨y1, h.fits.1 f1, by rw [← h.count hc]; exact e1⟩, ⟨y2, h.fits.1 f2, by rw [← h.count hc]; exact e2⟩, fun y hy => by rw [← h.count hc]; exact h3 y (h.fits.2 hy)⟩
end Go.Proofs.Ws

namespace Go.Proofs.Ws
open Go Go.Fw Go.Gx Go.Sp
set_option linter.unusedVariables false
def farL (l : List Wy) (s : List Int) (c : Change) : List Int := s.set (eB l c).toNat (min (gI 0 s (eB l c)) (gI 0 s (eA l c) + eC l c))
theorem pot_res {l : List Wy} {π : Int → Int} (h : Pot π l) {c : Change} (hc : c ∈ res l) : π (eB l c) ≤ π (eA l c) + eC l c := by
  obtain ⟨hw, hr⟩ := res_mem.1 hc
  have hp := h _ (wy_mem hw)
  unfold eA eB eC
  unfold rm at hr
  cases hm : c.more with
  | true =>
    rw [hm] at hr
    simp only [if_true] at hr ⊢
    exact hp.1 (by omega)
  | false =>
    rw [hm] at hr
    simp only [Bool.false_eq_true, if_false] at hr ⊢
    have := hp.2 (by omega)
    omega
structure FarQ (l : List Wy) (π : Int → Int) (s : List Int) : Prop where
  len : s.length = 12
  lo : ∀ v, 0 ≤ v → v < 12 → π v ≤ gI 0 s v
  hi : ∀ v, gI 0 s v ≤ 0
theorem farL_get {l : List Wy} (hl : NetOK l) {s : List Int} (hs : s.length = 12) {c : Change} (hc : isWay l c) (v : Int) : gI 0 (farL l s c) v = if v = eB l c then min (gI 0 s (eB l c)) (gI 0 s (eA l c) + eC l c) else gI 0 s v := by
  have he := ends_in hl hc
  unfold farL
  rw [gI_set (by omega) (by omega)]
  rfl
theorem farQ_step {l : List Wy} (hl : NetOK l) {π : Int → Int} (hp : Pot π l) {s : List Int} (h : FarQ l π s) {c : Change} (hc : c ∈ res l) : FarQ l π (farL l s c) := by
  have hw := (res_mem.1 hc).1
  have he := ends_in hl hw
  refine ⟨by unfold farL; rw [List.length_set]; exact h.len, fun v h0 h1 => ?_, fun v => ?_⟩
  · rw [farL_get hl h.len hw]
    split
    · rename_i hv
      have a := h.lo (eB l c) he.2.1.1 he.2.1.2
      have b := h.lo (eA l c) he.1.1 he.1.2
      have d := pot_res hp hc
      rw [hv]; omega
    · exact h.lo v h0 h1
  · rw [farL_get hl h.len hw]
    split
    · have := h.hi (eB l c); omega
    · exact h.hi v
theorem farQ_fold {l : List Wy} (hl : NetOK l) {π : Int → Int} (hp : Pot π l) : ∀ (L : List Change), (∀ c, c ∈ L → c ∈ res l) → ∀ {s : List Int}, FarQ l π s → FarQ l π (L.foldl (farL l) s)
  | [], _, s, h => h
  | c :: L, hL, s, h => farQ_fold hl hp L (fun x hx => hL x (List.mem_cons_of_mem _ hx)) (farQ_step hl hp h (hL c (by simp)))
theorem fold_le {l : List Wy} (hl : NetOK l) : ∀ (L : List Change), (∀ c, c ∈ L → c ∈ res l) → ∀ {s : List Int}, s.length = 12 → (L.foldl (farL l) s).length = 12 ∧ ∀ v, gI 0 (L.foldl (farL l) s) v ≤ gI 0 s v
  | [], _, s, h => ⟨h, fun v => Int.le_refl _⟩
  | c :: L, hL, s, h => by
    have h1 : (farL l s c).length = 12 := by unfold farL; rw [List.length_set]; exact h
    have h2 := fold_le hl L (fun x hx => hL x (List.mem_cons_of_mem _ hx)) h1
    refine ⟨h2.1, fun v => Int.le_trans (h2.2 v) ?_⟩
    rw [farL_get hl h (res_mem.1 (hL c (by simp))).1]
    split
    · rename_i hv; rw [hv]; omega
    · exact Int.le_refl _
theorem fold_fix {l : List Wy} (hl : NetOK l) : ∀ (L : List Change), (∀ c, c ∈ L → c ∈ res l) → ∀ {s : List Int}, s.length = 12 → (∀ v, gI 0 (L.foldl (farL l) s) v = gI 0 s v) → ∀ c, c ∈ L → gI 0 s (eB l c) ≤ gI 0 s (eA l c) + eC l c
  | [], _, s, h, _, c, hc => by cases hc
  | d :: L, hL, s, h, hfix, c, hc => by
    have hw := (res_mem.1 (hL d (by simp))).1
    have h1 : (farL l s d).length = 12 := by unfold farL; rw [List.length_set]; exact h
    have hL' := fun x hx => hL x (List.mem_cons_of_mem d hx)
    have h2 := fold_le hl L hL' h1
    have hstep : ∀ v, gI 0 (farL l s d) v ≤ gI 0 s v := fun v => by
      rw [farL_get hl h hw]
      split
      · rename_i hv; rw [hv]; omega
      · exact Int.le_refl _
    have heq : ∀ v, gI 0 (farL l s d) v = gI 0 s v := fun v => by
      have a := hstep v
      have b := h2.2 v
      have e : gI 0 (L.foldl (farL l) (farL l s d)) v = gI 0 s v := hfix v
      omega
    rcases List.mem_cons.1 hc with rfl | hc
    · have := heq (eB l c)
      rw [farL_get hl h hw, if_pos rfl] at this
      omega
    · have ih := fold_fix hl L hL' h1 (fun v => by rw [heq]; exact hfix v) c hc
      rw [heq, heq] at ih
      exact ih
theorem m_far_step {l : List Wy} (hl : NetOK l) {π : Int → Int} (hb : ∀ v, -1000000 ≤ π v) {s : List Int} (h : FarQ l π s) {c : Change} (hc : isWay l c) (R : Int) : m_strip_net_far_1_1 c (eA l c) (eB l c) (eC l c) R s = some (farL l s c) := by
  have he := ends_in hl hc
  have hlen := h.len
  unfold m_strip_net_far_1_1
  have a := h.lo (eA l c) he.1.1 he.1.2
  have b := h.hi (eA l c)
  have d := hb (eA l c)
  rw [ix_gI 0 (by omega) (by omega), Option.bind_some, ix_gI 0 (by omega) (by omega), Option.bind_some, addc_eq (by omega), Option.bind_some, m_least_one, Option.bind_some, Option.bind_some, Option.bind_some]
  rfl
theorem m_changes_5_eq {l : List Wy} (hl : NetOK l) {π : Int → Int} (hp : Pot π l) (hb : ∀ v, -1000000 ≤ π v) {s : List Int} (h : FarQ l π s) : m_strip_net_changes_5 l s = some ((res l).foldl (farL l) s) := by
  unfold m_strip_net_changes_5
  have hlen := hl.1
  have key := iterM_run (f := m_strip_net_changes_5_L0 l) (fun k => ⟨(k : Int), (resTo l k).foldl (farL l) s⟩) l.length (b := (res l).foldl (farL l) s) (fun k hk => ?_) ?_ FU (FU_lt (by omega))
  · simp only [resTo, List.range_zero, List.flatMap_nil, List.foldl_nil] at key
    have e : ((0 : Nat) : Int) = 0 := rfl
    rw [e] at key
    rw [key, Option.bind_some]
  · have hsub : ∀ c, c ∈ resTo l k → c ∈ res l := fun c hc => by
      unfold resTo at hc
      obtain ⟨i, hi, h2⟩ := List.mem_flatMap.1 hc
      unfold res
      exact List.mem_flatMap.2 ⟨i, List.mem_range.2 (by have := List.mem_range.1 hi; omega), h2⟩
    have h12 := farQ_fold hl hp (resTo l k) hsub h
    generalize hs : (resTo l k).foldl (farL l) s = t at h12
    unfold m_strip_net_changes_5_L0
    have hlt : (k : Int) < (l.length : Int) := by omega
    simp only [hlt, if_true]
    have step : ∀ (b : Bool) (u : List Int), FarQ l π u → ((m_strip_net_ends l (⟨(k : Int), b⟩ : Change)).bind fun t32 => if 0 < t32.r3 then ((m_strip_net_far_1_1 (⟨(k : Int), b⟩ : Change) t32.r0 t32.r1 t32.r2 t32.r3 u).bind fun t45 => some t45) else (some u)) = some (if 0 < rm l ⟨(k : Int), b⟩ then farL l u ⟨(k : Int), b⟩ else u) := fun b u hu => by
      rw [m_ends_eq hl (way_nat hk b), Option.bind_some]
      by_cases hr : 0 < rm l ⟨(k : Int), b⟩
      · simp only [hr, if_true]
        rw [m_far_step hl hb hu (way_nat hk b), Option.bind_some]
      · simp only [hr, if_false]
    obtain ⟨u1, hu1⟩ : ∃ u1, u1 = if 0 < rm l ⟨(k : Int), true⟩ then farL l t ⟨(k : Int), true⟩ else t := ⟨_, rfl⟩
    obtain ⟨u2, hu2⟩ : ∃ u2, u2 = if 0 < rm l ⟨(k : Int), false⟩ then farL l u1 ⟨(k : Int), false⟩ else u1 := ⟨_, rfl⟩
    have hq1 : FarQ l π u1 := by
      rw [hu1]; split
      · rename_i hr; exact farQ_step hl hp h12 (res_mem.2 ⟨way_nat hk true, hr⟩)
      · exact h12
    have f1 : m_strip_net_changes_5_L1 l ⟨(k : Int), t⟩ ⟨0, t⟩ = some (.inl ⟨1, u1⟩) := by
      unfold m_strip_net_changes_5_L1
      simp only [List.length_cons, List.length_nil]
      rw [if_pos (by decide)]
      have e : ix [true, false] (0 : Int) = some true := rfl
      rw [e, Option.bind_some, step true t h12, ← hu1, Option.bind_some]
      rfl
    have f2 : m_strip_net_changes_5_L1 l ⟨(k : Int), t⟩ ⟨1, u1⟩ = some (.inl ⟨2, u2⟩) := by
      unfold m_strip_net_changes_5_L1
      simp only [List.length_cons, List.length_nil]
      rw [if_pos (by decide)]
      have e : ix [true, false] (1 : Int) = some false := rfl
      rw [e, Option.bind_some, step false u1 hq1, ← hu2, Option.bind_some]
      rfl
    have f3 : m_strip_net_changes_5_L1 l ⟨(k : Int), t⟩ ⟨2, u2⟩ = some (.inr u2) := by
      unfold m_strip_net_changes_5_L1
      simp only [List.length_cons, List.length_nil]
      rw [if_neg (by decide)]
    have e : FU = (FU - 3) + 1 + 1 + 1 := by unfold FU; rfl
    rw [e, iterM_step f1, iterM_step f2, iterM_done f3, Option.bind_some, addc_eq (by omega), Option.bind_some]
    have hn : (resTo l (k + 1)).foldl (farL l) s = u2 := by
      rw [resTo_succ, List.foldl_append, List.foldl_append, hs, hu2, hu1]
      by_cases h1 : 0 < rm l ⟨(k : Int), true⟩ <;> by_cases h2 : 0 < rm l ⟨(k : Int), false⟩ <;> simp [h1, h2]
    rw [hn]
    rfl
  · unfold m_strip_net_changes_5_L0
    simp only [Int.lt_irrefl, if_false]
    rw [resTo_all]
theorem list12 {a b : List Int} (ha : a.length = 12) (hb : b.length = 12) (h : ∀ v, gI 0 a v = gI 0 b v) : a = b := by
  apply List.ext_getElem (by omega)
  intro i h1 h2
  have := h (i : Int)
  unfold gI at this
  rw [if_pos (by omega), if_pos (by omega)] at this
  simpa [List.getD_eq_getElem?_getD, h1, h2] using this
def slack (π : Int → Int) (s : List Int) : Int := sumTo (fun v => gI 0 s (v : Int) - π (v : Int)) 12
theorem m_far_spec {l : List Wy} (hl : NetOK l) {π : Int → Int} (hp : Pot π l) (hb : ∀ v, -1000000 ≤ π v) (hneg : ∀ v, π v ≤ 0) :
    ∃ s, m_strip_net_far l = some s ∧ s.length = 12 ∧ Pot (gI 0 s) l ∧ (∀ v, gI 0 s v ≤ 0) ∧ ∀ ρ : Int → Int, Pot ρ l → (∀ v, -1000000 ≤ ρ v) → (∀ v, ρ v ≤ 0) → ∀ v, 0 ≤ v → v < 12 → ρ v ≤ gI 0 s v := by
  have hq0 : ∀ ρ : Int → Int, (∀ v, ρ v ≤ 0) → FarQ l ρ (List.replicate 12 0) := fun ρ hρ => ⟨by simp, fun v _ _ => by rw [gI_rep]; exact hρ v, fun v => by rw [gI_rep]; exact Int.le_refl _⟩
  have hsl : slack π (List.replicate 12 0) ≤ 12000000 := by
    unfold slack
    have := sumTo_le (f := fun v : Nat => gI 0 (List.replicate 12 (0 : Int)) (v : Int) - π (v : Int)) (g := fun _ => 1000000) (k := 12) (fun j _ => by
      have := hb (j : Int)
      rw [gI_rep]
      show (0 : Int) - π (j : Int) ≤ 1000000
      omega)
    have e := sumTo_bound (f := fun _ => 1000000) (b := 1000000) (n := 12) (fun _ _ => by omega)
    omega
  obtain ⟨b, hbq, s, rfl, h1, h2, h3⟩ : ∃ b, iterM FU (m_strip_net_far_L0 l) (List.replicate 12 0) = some b ∧ ∃ s, b = .inr s ∧ FarQ l π s ∧ Pot (gI 0 s) l ∧ ∀ ρ : Int → Int, Pot ρ l → (∀ v, -1000000 ≤ ρ v) → (∀ v, ρ v ≤ 0) → FarQ l ρ s := by
    refine iterM_inv (f := m_strip_net_far_L0 l) (fun s => FarQ l π s ∧ ∀ ρ : Int → Int, Pot ρ l → (∀ v, -1000000 ≤ ρ v) → (∀ v, ρ v ≤ 0) → FarQ l ρ s) (fun s => (slack π s).toNat) _ (fun s hs => ?_) FU _ (FU_lt (by omega)) ⟨hq0 π hneg, fun ρ _ _ hρ => hq0 ρ hρ⟩
    obtain ⟨hq, hall⟩ := hs
    unfold m_strip_net_far_L0
    rw [m_changes_5_eq hl hp hb hq, Option.bind_some]
    have hq' := farQ_fold hl hp (res l) (fun c hc => hc) hq
    by_cases heq : (res l).foldl (farL l) s = s
    · right
      rw [if_pos heq]
      refine ⟨_, rfl, _, rfl, hq', ?_, fun ρ hρ hb1 hρ2 => farQ_fold hl hρ (res l) (fun c hc => hc) (hall ρ hρ hb1 hρ2)⟩
      rw [heq]
      exact pot_of (fold_fix hl (res l) (fun c hc => hc) hq.len (fun v => by rw [heq]))
    · left
      rw [if_neg heq]
      refine ⟨_, rfl, ⟨hq', fun ρ hρ hb1 hρ2 => farQ_fold hl hρ (res l) (fun c hc => hc) (hall ρ hρ hb1 hρ2)⟩, ?_⟩
      have hle := fold_le hl (res l) (fun c hc => hc) hq.len
      have hlt : slack π ((res l).foldl (farL l) s) < slack π s := by
        have hle2 : slack π ((res l).foldl (farL l) s) ≤ slack π s := sumTo_le fun j _ => by have := hle.2 (j : Int); omega
        rcases Int.lt_or_eq_of_le hle2 with h | h
        · exact h
        · exfalso
          apply heq
          apply list12 hq'.len hq.len
          intro v
          by_cases hv : 0 ≤ v ∧ v < 12
          · have hj := sumTo_mem_le (f := fun j : Nat => (gI 0 s (j : Int) - π (j : Int)) - (gI 0 ((res l).foldl (farL l) s) (j : Int) - π (j : Int))) (n := 12) (j := v.toNat) (fun i _ => by have := hle.2 (i : Int); omega) (by omega)
            have hz : sumTo (fun j : Nat => (gI 0 s (j : Int) - π (j : Int)) - (gI 0 ((res l).foldl (farL l) s) (j : Int) - π (j : Int))) 12 = 0 := by
              have e : sumTo (fun j : Nat => (gI 0 s (j : Int) - π (j : Int)) - (gI 0 ((res l).foldl (farL l) s) (j : Int) - π (j : Int))) 12 = slack π s + sumTo (fun j : Nat => -1 * (gI 0 ((res l).foldl (farL l) s) (j : Int) - π (j : Int))) 12 := by
                unfold slack
                rw [← sumTo_add]
                exact sumTo_congr fun j _ => by omega
              rw [e, sumTo_mul]
              unfold slack at h ⊢
              omega
            rw [hz, show ((v.toNat : Nat) : Int) = v by omega] at hj
            have := hle.2 v
            omega
          · have hout : ∀ t : List Int, t.length = 12 → gI 0 t v = 0 := fun t ht => by
              unfold gI
              split
              · rw [List.getD_eq_getElem?_getD, List.getElem?_eq_none (by omega)]; rfl
              · rfl
            rw [hout _ hq'.len, hout _ hq.len]
      have hnn : 0 ≤ slack π ((res l).foldl (farL l) s) := sumTo_nonneg fun j hj => by have := hq'.lo (j : Int) (by omega) (by omega); omega
      omega
  refine ⟨s, ?_, h1.len, h2, h1.hi, fun ρ hρ hb1 hρ2 v h0 h12 => (h3 ρ hρ hb1 hρ2).lo v h0 h12⟩
  unfold m_strip_net_far
  rw [hbq, Option.bind_some, oc_inr]
end Go.Proofs.Ws

namespace Go.Proofs.Ws
open Go Go.Fw Go.Gx Go.Sp
set_option linter.unusedVariables false
theorem far_range {l : List Wy} (hl : NetOK l) {s : List Int} (hs : s.length = 12) (hp : Pot (gI 0 s) l) (hneg : ∀ v, gI 0 s v ≤ 0) (hlo : ∀ v, -1000000 ≤ gI 0 s v)
    (hmax : ∀ ρ : Int → Int, Pot ρ l → (∀ v, -1000000 ≤ ρ v) → (∀ v, ρ v ≤ 0) → ∀ v, 0 ≤ v → v < 12 → ρ v ≤ gI 0 s v) : ∀ v, 0 ≤ v → v < 12 → -11 ≤ gI 0 s v := by
  intro v0 h0 h12
  by_cases hv : -11 ≤ gI 0 s v0
  · exact hv
  · exfalso
    have hgap : ∃ g : Nat, g < 12 ∧ ∀ v, 0 ≤ v → v < 12 → gI 0 s v ≠ -(g : Int) := by
      by_cases hx : ∃ g : Nat, g < 12 ∧ ∀ v, 0 ≤ v → v < 12 → gI 0 s v ≠ -(g : Int)
      · exact hx
      · exfalso
        have hall : ∀ g : Nat, ∃ v, g < 12 → 0 ≤ v ∧ v < 12 ∧ gI 0 s v = -(g : Int) := fun g => by
          by_cases hg : g < 12
          · by_cases hh : ∃ v, 0 ≤ v ∧ v < 12 ∧ gI 0 s v = -(g : Int)
            · obtain ⟨v, hh⟩ := hh; exact ⟨v, fun _ => hh⟩
            · exact absurd ⟨g, hg, fun v a b c => hh ⟨v, a, b, c⟩⟩ hx
          · exact ⟨0, fun h => absurd h hg⟩
        obtain ⟨f, hf⟩ := Classical.axiomOfChoice hall
        obtain ⟨i, j, hij, hj, he⟩ := pig_fun (n := 12) (fun g => if g < 12 then f g else v0) (fun j hj => by
          by_cases hj2 : j < 12
          · rw [if_pos hj2]; have := hf j hj2; omega
          · rw [if_neg hj2]; omega)
        have hi := hf i (by omega)
        rw [if_pos (show i < 12 by omega)] at he
        by_cases hj2 : j < 12
        · rw [if_pos hj2] at he
          have := hf j hj2
          rw [he] at hi
          omega
        · rw [if_neg hj2] at he
          rw [he] at hi
          omega
    obtain ⟨g, hg, hno⟩ := hgap
    have hpot : Pot (fun v => if gI 0 s v < -(g : Int) then gI 0 s v + 1 else gI 0 s v) l := by
      refine pot_of fun c hc => ?_
      have hw := (res_mem.1 hc).1
      have he := ends_in hl hw
      have hpc := pot_res hp hc
      have ha := hno (eA l c) he.1.1 he.1.2
      split
      · split
        · omega
        · omega
      · split
        · omega
        · exact hpc
    have := hmax _ hpot (fun v => by have := hlo v; split <;> omega) (fun v => by have := hneg v; split <;> omega) v0 h0 h12
    rw [if_pos (by omega)] at this
    omega
def pvI (m : Int) (x : Span) : Int := if 0 < m then m * x.lo else m * x.hi
def provS (s : Scalps) (mk mt : Nat → Int) : Int := sumTo (fun t => pvI (mt t) (hOf s.carried t)) s.carried.length + sumTo (fun k => pvI (mk k) (gOf s.strips k)) s.strips.length
def HoldS (s : Scalps) (mk mt : Nat → Int) : Prop := ∀ t k, t < s.carried.length → k < s.strips.length → reachB s.strips t k = true → mt t + mk k ≤ thC s t k
theorem pvI_le {m v : Int} {x : Span} (h : x.lo ≤ v ∧ v ≤ x.hi) : pvI m x ≤ m * v := by
  unfold pvI
  split
  · exact Int.mul_le_mul_of_nonneg_left h.1 (by omega)
  · exact Int.mul_le_mul_of_nonpos_left (by omega) h.2
theorem prov_le {s : Scalps} {mk mt : Nat → Int} (hh : HoldS s mk mt) {y : Nat → Nat → Int} (hy : FitsS s y) : provS s mk mt ≤ countS s (thC s) y := by
  unfold provS
  have a : sumTo (fun t => pvI (mt t) (hOf s.carried t)) s.carried.length ≤ sumTo (fun t => sumTo (fun k => mt t * y t k) s.strips.length) s.carried.length := sumTo_le fun t ht => by
    rw [sumTo_mul]; exact pvI_le (hy.ten t ht)
  have b : sumTo (fun k => pvI (mk k) (gOf s.strips k)) s.strips.length ≤ sumTo (fun t => sumTo (fun k => mk k * y t k) s.strips.length) s.carried.length := by
    rw [sumTo_comm]
    exact sumTo_le fun k hk => by rw [sumTo_mul]; exact pvI_le (hy.str k hk)
  have c : sumTo (fun t => sumTo (fun k => mt t * y t k) s.strips.length) s.carried.length + sumTo (fun t => sumTo (fun k => mk k * y t k) s.strips.length) s.carried.length ≤ countS s (thC s) y := by
    rw [← sumTo_add]
    unfold countS countY
    refine sumTo_le fun t ht => ?_
    rw [← sumTo_add]
    refine sumTo_le fun k hk => ?_
    have hp := hy.pos t k ht hk
    rw [← Int.add_mul]
    by_cases h0 : 0 < y t k
    · exact Int.mul_le_mul_of_nonneg_right (hh t k ht hk (hp.2 h0)) hp.1
    · have : y t k = 0 := by omega
      rw [this]; simp
  omega
theorem pv_eq {mu goes : Int} {x : Span} (h : x.lo ≤ goes ∧ goes ≤ x.hi) (h1 : goes < x.hi → 0 ≤ mu) (h2 : x.lo < goes → mu ≤ 0) : pvI mu x = mu * goes := by
  unfold pvI
  split
  · have : goes = x.lo := by
      by_cases hh : x.lo < goes
      · have := h2 hh; omega
      · omega
    rw [this]
  · by_cases hz : mu = 0
    · rw [hz]; simp
    · have : goes = x.hi := by
        by_cases hh : goes < x.hi
        · have := h1 hh; omega
        · omega
      rw [this]
def mkF (far : List Int) (k : Nat) : Int := gI 0 far 0 - gI 0 far (1 + (k : Int))
def mtF (far : List Int) (t : Nat) : Int := gI 0 far (7 + (t : Int)) - gI 0 far 0
theorem far_marks {s : Scalps} (h : Right s) {mp : List (Pair × Bool)} (hm : MapOK s.strips mp) {cf : Pair → Option Int} (hc : CfIs s cf (thC s)) {l : List Wy} (hg : Good (laidS s.strips s.carried mp cf) l) (hw : Within l) {far : List Int} (hp : Pot (gI 0 far) l) :
    HoldS s (mkF far) (mtF far) ∧ provS s (mkF far) (mtF far) = costs l := by
  have hS := h.net
  obtain ⟨gs, ys, zs, e, hf, hcost⟩ := net_shares hS hg hw
  have hrnd := hg.rnd
  rw [e] at hrnd
  obtain ⟨r1, r2⟩ := round_sums hS.s6 hrnd
  have hfs := (fitsY_iff hm).1 hf
  have hmem := fun w => (laidG_mem (S := s.strips.length) (T := s.carried.length) (g := gOf s.strips) (h := hOf s.carried) (R := rOf mp) (c := cOf cf) (gs := gs) (ys := ys) (zs := zs) (w := w))
  have hcf : ∀ t k, t < s.carried.length → k < s.strips.length → cOf cf t k = thC s t k := fun t k ht hk => by unfold cOf; rw [(hc t k ht hk).1]; rfl
  have hstrip : ∀ k, k < s.strips.length → pvI (mkF far k) (gOf s.strips k) = mkF far k * gs k := fun k hk => by
    have hin : ({ stripW (gOf s.strips) k with goes := gs k } : Wy) ∈ l := by rw [e]; exact (hmem _).2 (.inl ⟨k, hk, rfl⟩)
    have hpw := hp _ hin
    have hww := hw _ hin
    have hlo := gOf_ok hS hk
    unfold stripW at hpw hww
    simp only at hpw hww
    refine pv_eq hww (fun h1 => ?_) (fun h2 => ?_)
    · have := hpw.1 h1; unfold mkF; omega
    · have := hpw.2 (by omega); unfold mkF; omega
  have hten : ∀ t, t < s.carried.length → pvI (mtF far t) (hOf s.carried t) = mtF far t * zs t := fun t ht => by
    have hin : ({ tenW (hOf s.carried) t with goes := zs t } : Wy) ∈ l := by rw [e]; exact (hmem _).2 (.inr (.inr ⟨t, ht, rfl⟩))
    have hpw := hp _ hin
    have hww := hw _ hin
    unfold tenW at hpw hww
    simp only at hpw hww
    refine pv_eq hww (fun h1 => ?_) (fun h2 => ?_)
    · have := hpw.1 h1; unfold mtF; omega
    · have := hpw.2 (by omega); unfold mtF; omega
  have hinner : ∀ t k, t < s.carried.length → k < s.strips.length → rOf mp t k = true → mtF far t + mkF far k ≤ thC s t k ∧ (0 < ys t k → mtF far t + mkF far k = thC s t k) := fun t k ht hk hr => by
    have hin : ({ innerW (cOf cf) t k with goes := ys t k } : Wy) ∈ l := by rw [e]; exact (hmem _).2 (.inr (.inl ⟨t, k, ht, hk, hr, rfl⟩))
    have hpw := hp _ hin
    have hyv : Yr (rOf mp) ys t k = ys t k := by unfold Yr; rw [if_pos hr]
    have h60 := le60 h hfs ht hk
    rw [hyv] at h60
    unfold innerW at hpw
    simp only at hpw
    have a := hpw.1 (by omega)
    rw [hcf t k ht hk] at a hpw
    refine ⟨by unfold mtF mkF; omega, fun h0 => ?_⟩
    have b := hpw.2 (by omega)
    unfold mtF mkF; omega
  refine ⟨fun t k ht hk hr => (hinner t k ht hk (by rw [rOf_reach hm hk]; exact hr)).1, ?_⟩
  rw [hcost]
  unfold provS countY
  rw [sumTo_congr (g := fun t => sumTo (fun k => mtF far t * Yr (rOf mp) ys t k) s.strips.length) (fun t ht => by rw [hten t ht, r2 t ht, sumTo_mul]),
    sumTo_congr (f := fun k => pvI (mkF far k) (gOf s.strips k)) (g := fun k => sumTo (fun t => mkF far k * Yr (rOf mp) ys t k) s.carried.length) (fun k hk => by rw [hstrip k hk, r1 k hk, sumTo_mul]), ← sumTo_comm (fun t k => mkF far k * Yr (rOf mp) ys t k), ← sumTo_add]
  refine sumTo_congr fun t ht => ?_
  rw [← sumTo_add]
  refine sumTo_congr fun k hk => ?_
  rw [← Int.add_mul, hcf t k ht hk]
  unfold Yr
  by_cases hr : rOf mp t k = true
  · rw [if_pos hr]
    have hpos := hfs.pos t k ht hk
    unfold Yr at hpos
    rw [if_pos hr] at hpos
    by_cases h0 : 0 < ys t k
    · rw [(hinner t k ht hk hr).2 h0]
    · have : ys t k = 0 := by omega
      rw [this]; simp
  · rw [if_neg hr]; simp
end Go.Proofs.Ws

namespace Go.Proofs.Ws
open Go Go.Fw Go.Gx Go.Sp
set_option linter.unusedVariables false
theorem Mark_spec {s : Scalps} (h : Right s) :
    (∃ far lo hi, m_strip_Mark s = some ⟨⟨(List.range s.strips.length).map (mkF far), (List.range s.carried.length).map (mtF far)⟩, 0⟩ ∧ HoldS s (mkF far) (mtF far) ∧ provS s (mkF far) (mtF far) = lo ∧ IsRange s (thC s) lo hi ∧ (∀ k, k < s.strips.length → -11 ≤ mkF far k ∧ mkF far k ≤ 11) ∧ ∀ t, t < s.carried.length → -11 ≤ mtF far t ∧ mtF far t ≤ 11) ∨
    (m_strip_Mark s = some ⟨⟨[], []⟩, 7⟩ ∧ NoFit s) := by
  obtain ⟨mp, hmp, hm⟩ := m_opened_right h
  have hc := cf_theft s
  have h6 := h.net.s6; have h5 := h.net.c5
  unfold m_strip_Mark
  rw [hmp, Option.bind_some, oc_inr, m_theft_eq, Option.bind_some]
  rcases filled_min h hm hc.ok with ⟨l, y, h1, ⟨π, hp, hb⟩, hg, hw, h2, _, h3, h4⟩ | ⟨w, met, h1, _, h3⟩
  · left
    rw [h1, Option.bind_some, oc_inr]
    simp only
    obtain ⟨far, f1, f2, f3, f4, f5⟩ := m_far_spec hg.ok hp (fun v => (hb v).1) (fun v => (hb v).2)
    have hfl : ∀ v, -1000000 ≤ gI 0 far v := fun v => by
      by_cases hv : 0 ≤ v ∧ v < 12
      · have := f5 π hp (fun v => (hb v).1) (fun v => (hb v).2) v hv.1 hv.2
        have := (hb v).1; omega
      · have : gI 0 far v = 0 := by
          unfold gI
          split
          · rw [List.getD_eq_getElem?_getD, List.getElem?_eq_none (by omega)]; rfl
          · rfl
        omega
    have hrg := far_range hg.ok f2 f3 f4 hfl f5
    obtain ⟨m1, m2⟩ := far_marks h hm hc hg hw f3
    have e : costs l = countS s (thC s) y := by
      rw [hc.count] at h2
      have := m_cost_eq hg.ok
      rw [this] at h2
      exact Option.some.inj h2
    have hkb : ∀ k, k < s.strips.length → -11 ≤ mkF far k ∧ mkF far k ≤ 11 := fun k hk => by
      have a := hrg 0 (by omega) (by omega)
      have b := hrg (1 + (k : Int)) (by omega) (by omega)
      have c := f4 0
      have d := f4 (1 + (k : Int))
      unfold mkF; omega
    have htb : ∀ t, t < s.carried.length → -11 ≤ mtF far t ∧ mtF far t ≤ 11 := fun t ht => by
      have a := hrg 0 (by omega) (by omega)
      have b := hrg (7 + (t : Int)) (by omega) (by omega)
      have c := f4 0
      have d := f4 (7 + (t : Int))
      unfold mtF; omega
    rw [f1, Option.bind_some]
    have k1 : iterM FU (m_strip_Mark_L0 s far) ⟨0, []⟩ = some ((List.range s.strips.length).map (mkF far)) := by
      have key := iterM_run (f := m_strip_Mark_L0 s far) (fun k => ⟨(k : Int), (List.range k).map (mkF far)⟩) s.strips.length (b := (List.range s.strips.length).map (mkF far)) (fun k hk => ?_) ?_ FU (FU_lt (by omega))
      · exact key
      · unfold m_strip_Mark_L0
        have hlt : (k : Int) < (s.strips.length : Int) := by omega
        have hkk := hkb k hk
        unfold mkF at hkk
        simp only [hlt, if_true]
        rw [ix_gI 0 (by omega) (by omega), Option.bind_some, addc_eq (by omega), Option.bind_some, ix_gI 0 (by omega) (by omega), Option.bind_some, subc_eq (by omega), Option.bind_some, appc_eq (by simp only [List.length_map, List.length_range, List.length_cons, List.length_nil]; omega), Option.bind_some, addc_eq (by omega), Option.bind_some, List.range_succ, List.map_append]
        rfl
      · unfold m_strip_Mark_L0
        simp
    have k2 : iterM FU (m_strip_Mark_L1 s far) ⟨0, []⟩ = some ((List.range s.carried.length).map (mtF far)) := by
      have key := iterM_run (f := m_strip_Mark_L1 s far) (fun k => ⟨(k : Int), (List.range k).map (mtF far)⟩) s.carried.length (b := (List.range s.carried.length).map (mtF far)) (fun k hk => ?_) ?_ FU (FU_lt (by omega))
      · exact key
      · unfold m_strip_Mark_L1
        have hlt : (k : Int) < (s.carried.length : Int) := by omega
        have hkk := htb k hk
        unfold mtF at hkk
        simp only [hlt, if_true]
        rw [addc_eq (by omega), Option.bind_some, ix_gI 0 (by omega) (by omega), Option.bind_some, ix_gI 0 (by omega) (by omega), Option.bind_some, subc_eq (by omega), Option.bind_some, appc_eq (by simp only [List.length_map, List.length_range, List.length_cons, List.length_nil]; omega), Option.bind_some, addc_eq (by omega), Option.bind_some, List.range_succ, List.map_append]
        rfl
      · unfold m_strip_Mark_L1
        simp
    rw [k1, Option.bind_some, k2, Option.bind_some]
    rcases spread_spec h hm hc with ⟨lo, hi, _, hr⟩ | ⟨_, hn⟩
    · refine ⟨far, _, hi, rfl, m1, m2, ?_, hkb, htb⟩
      have : countS s (thC s) y = lo := by
        obtain ⟨⟨y1, g1, e1⟩, _, b⟩ := hr
        have a1 := h4 _ g1
        rw [hc.count, hc.count] at a1
        have := b _ h3
        omega
      rw [e, this]; exact hr
    · exact absurd h3 (hn y)
  · right
    rw [h1, Option.bind_some, oc_inl]
    exact ⟨rfl, h3⟩
def mkOK (m : List Int) : Bool := m.all fun x => inb x (-20) 20
def holdRow (s : Scalps) (mk : Nat → Int) (t : Nat) (mt : Int) : Bool := (List.range s.strips.length).all fun k => !reachB s.strips t k || decide (mt + mk k ≤ thC s t k)
def holdB (s : Scalps) (m : Marks) : Bool := (List.range s.carried.length).all fun t => holdRow s (gtI m.strips) t (gtI m.tenants t)
theorem holdB_iff {s : Scalps} {m : Marks} : holdB s m = true ↔ HoldS s (gtI m.strips) (gtI m.tenants) := by
  unfold holdB holdRow HoldS
  rw [List.all_eq_true]
  constructor
  · intro h t k ht hk hr
    have := List.all_eq_true.1 (h t (List.mem_range.2 ht)) k (List.mem_range.2 hk)
    rw [hr] at this
    simpa using this
  · intro h t ht
    rw [List.all_eq_true]
    intro k hk
    cases hr : reachB s.strips t k with
    | false => rfl
    | true => simpa using h t k (List.mem_range.1 ht) (List.mem_range.1 hk) hr
def provesR (s : Scalps) (m : Marks) : m_strip_Proves_R :=
  if m.strips.length = s.strips.length ∧ m.tenants.length = s.carried.length then
    if mkOK m.strips = true ∧ mkOK m.tenants = true then
      if holdB s m = true then ⟨provS s (gtI m.strips) (gtI m.tenants), 0⟩ else ⟨0, 8⟩
    else ⟨0, 3⟩
  else ⟨0, 2⟩
theorem mul_bound {m v : Int} (hm : -20 ≤ m ∧ m ≤ 20) (hv : 0 ≤ v ∧ v ≤ 60) : -1200 ≤ m * v ∧ m * v ≤ 1200 := by
  have a := Int.mul_le_mul_of_nonneg_right hm.2 hv.1
  have b := Int.mul_le_mul_of_nonneg_right hm.1 hv.1
  omega
theorem pv_bound {m : Int} {x : Span} (hm : -20 ≤ m ∧ m ≤ 20) (hx : 0 ≤ x.lo ∧ x.lo ≤ x.hi ∧ x.hi ≤ 60) : -1200 ≤ pvI m x ∧ pvI m x ≤ 1200 := by
  unfold pvI
  split
  · exact mul_bound hm (by omega)
  · exact mul_bound hm (by omega)
theorem m_proven_eq {m : Int} {x : Span} (hm : -20 ≤ m ∧ m ≤ 20) (hx : 0 ≤ x.lo ∧ x.lo ≤ x.hi ∧ x.hi ≤ 60) : m_strip_proven m x = some (pvI m x) := by
  unfold m_strip_proven pvI
  have a := mul_bound hm (v := x.lo) (by omega)
  have b := mul_bound hm (v := x.hi) (by omega)
  split
  · rw [mulc_eq (by omega)]; rfl
  · rw [mulc_eq (by omega)]; rfl
theorem m_marks_eq {l : List Int} (hl : l.length < 100000) : m_strip_every_int l = some (mkOK l) := by
  have := any_loop l 0 m_strip_every_int_1 (fun x => !inb x (-20) 20) (by omega) (fun x _ => by unfold m_strip_every_int_1 m_strip_Proves_1; rw [m_in_eq]; rfl) (f := m_slices_IndexFunc_intint_L0 l) (fun s => rfl)
  unfold m_strip_every_int m_slices_ContainsFunc_intint m_slices_IndexFunc_intint
  rw [this, Option.bind_some, not_any_not]
  rfl
theorem iterX_scan {F : Int → Unit → Option (Unit ⊕ Int)} {bad : Int → Bool} : ∀ {L : List Int}, (∀ x, x ∈ L → F x () = some (if bad x = true then .inr 8 else .inl ())) → iterX F L () = some (if L.any bad = true then .inr 8 else .inl ())
  | [], _ => rfl
  | x :: L, h => by
    unfold iterX
    rw [h x (by simp), Option.bind_some]
    cases hb : bad x with
    | true => simp [hb]
    | false =>
      rw [if_neg (by simp), oc_inl, iterX_scan (fun y hy => h y (List.mem_cons_of_mem _ hy))]
      simp [hb]
theorem mk_at {l : List Int} (h : mkOK l = true) {i : Nat} (hi : i < l.length) : -20 ≤ gtI l i ∧ gtI l i ≤ 20 := by
  have hx : gtI l i = l[i] := by simp [gtI, List.getD_eq_getElem?_getD, hi]
  have := inb_iff.1 (List.all_eq_true.1 h _ (List.getElem_mem hi))
  rw [hx]; exact this
theorem sum_bound2 {f : Nat → Int} {b : Int} : ∀ {n : Nat}, (∀ j, j < n → -b ≤ f j ∧ f j ≤ b) → -b * (n : Int) ≤ sumTo f n ∧ sumTo f n ≤ b * (n : Int)
  | 0, _ => by simp [sumTo]
  | n + 1, h => by
    have ih := sum_bound2 (n := n) (fun j hj => h j (by omega))
    have := h n (by omega)
    simp only [sumTo]
    rw [show ((n + 1 : Nat) : Int) = (n : Int) + 1 by omega, Int.mul_add, Int.mul_one, Int.mul_add, Int.mul_one]
    omega
theorem Proves_spec {s : Scalps} (h : Right s) {m : Marks} (hml : m.strips.length < 100000 ∧ m.tenants.length < 100000) : m_strip_Proves s m = some (provesR s m) := by
  obtain ⟨mp, hmp, hm⟩ := m_opened_right h
  have h6 := h.net.s6; have h5 := h.net.c5
  unfold m_strip_Proves provesR
  rw [hmp, Option.bind_some, oc_inr]
  by_cases hl1 : m.strips.length = s.strips.length
  · rw [if_pos (by omega)]
    by_cases hl2 : m.tenants.length = s.carried.length
    · rw [decide_eq_true (by omega), if_pos ⟨hl1, hl2⟩, Option.bind_some, if_neg (by simp), m_marks_eq hml.1, Option.bind_some, not_true_if, m_marks_eq hml.2, Option.bind_some]
      by_cases ho1 : mkOK m.strips = true
      · rw [if_pos ho1]
        by_cases ho2 : mkOK m.tenants = true
        · rw [ho2, if_pos ⟨ho1, rfl⟩, Option.bind_some, if_neg (by simp), m_theft_eq, Option.bind_some]
          have hb0 : ∀ t, t < s.carried.length → -1200 ≤ pvI (gtI m.tenants t) (hOf s.carried t) ∧ pvI (gtI m.tenants t) (hOf s.carried t) ≤ 1200 := fun t ht => pv_bound (mk_at ho2 (by omega)) (by have := hOf_ok h.net ht; omega)
          have hb1 : ∀ k, k < s.strips.length → -1200 ≤ pvI (gtI m.strips k) (gOf s.strips k) ∧ pvI (gtI m.strips k) (gOf s.strips k) ≤ 1200 := fun k hk => pv_bound (mk_at ho1 (by omega)) (gOf_ok h.net hk)
          have k1 : iterM FU (m_strip_Proves_L0 m s mp) ⟨0, 0⟩ = some (if holdB s m = true then .inl (sumTo (fun t => pvI (gtI m.tenants t) (hOf s.carried t)) s.carried.length) else .inr ⟨0, 8⟩) := by
            have key := iterM_find (f := m_strip_Proves_L0 m s mp) (fun t => ⟨sumTo (fun t => pvI (gtI m.tenants t) (hOf s.carried t)) t, (t : Int)⟩) s.carried.length (fun t => !holdRow s (gtI m.strips) t (gtI m.tenants t)) (fun _ => .inr ⟨0, 8⟩) (.inl (sumTo (fun t => pvI (gtI m.tenants t) (hOf s.carried t)) s.carried.length)) (fun t ht _ => ?_) ?_ (N := FU) (FU_lt (by omega))
            · have e : (⟨0, 0⟩ : m_strip_Proves_S0) = ⟨sumTo (fun t => pvI (gtI m.tenants t) (hOf s.carried t)) 0, ((0 : Nat) : Int)⟩ := rfl
              rw [e, key]
              unfold holdB
              rw [all_find]
              cases (List.range s.carried.length).find? (fun t => !holdRow s (gtI m.strips) t (gtI m.tenants t)) with
              | none => rfl
              | some k => rfl
            · unfold m_strip_Proves_L0
              have hlt : (t : Int) < (m.tenants.length : Int) := by omega
              simp only [hlt, if_true]
              unfold m_strip_desk_reach
              rw [ix_nat 0 (by omega), Option.bind_some, Option.bind_some, if_pos (by omega)]
              have hscan := iterX_scan (F := m_strip_Proves_F1 m (m.tenants.getD t 0) ⟨sumTo (fun t => pvI (gtI m.tenants t) (hOf s.carried t)) t, (t : Int)⟩ s) (bad := fun x => decide (thC s t x.toNat < gtI m.tenants t + gtI m.strips x.toNat)) (L := reachL s.strips.length mp (t : Int)) (fun x hx => by
                rw [reachL_map] at hx
                obtain ⟨k, hk, rfl⟩ := List.mem_map.1 hx
                have hk' := List.mem_range.1 (List.mem_filter.1 hk).1
                have a := mk_at ho1 (i := k) (by omega)
                have b := mk_at ho2 (i := t) (by omega)
                unfold m_strip_Proves_F1
                unfold gtI at a b ⊢
                rw [ix_nat 0 (by omega), Option.bind_some, addc_eq (by omega), Option.bind_some]
                have hc := (cf_theft s t k ht hk').1
                simp only at hc
                rw [hc, Option.bind_some, show Int.toNat (k : Int) = k by omega]
                by_cases hlt2 : thC s t k < m.tenants.getD t 0 + m.strips.getD k 0
                · rw [if_pos hlt2, if_pos (decide_eq_true hlt2)]
                · rw [if_neg hlt2, if_neg (fun hh => hlt2 (of_decide_eq_true hh))])
              rw [hscan, Option.bind_some]
              have hany : (reachL s.strips.length mp (t : Int)).any (fun x => decide (thC s t x.toNat < gtI m.tenants t + gtI m.strips x.toNat)) = !holdRow s (gtI m.strips) t (gtI m.tenants t) := by
                unfold holdRow
                rw [Bool.eq_iff_iff, List.any_eq_true, Bool.not_eq_true', ← Bool.not_eq_true, List.all_eq_true]
                constructor
                · rintro ⟨x, hx, hxb⟩ hall
                  rw [reachL_map] at hx
                  obtain ⟨k, hk, rfl⟩ := List.mem_map.1 hx
                  obtain ⟨k1, k2⟩ := List.mem_filter.1 hk
                  have hk' := List.mem_range.1 k1
                  have := hall k k1
                  rw [rOf_reach hm hk'] at k2
                  rw [k2] at this
                  have hxb' := of_decide_eq_true hxb
                  rw [show Int.toNat (k : Int) = k by omega] at hxb'
                  have := of_decide_eq_true (by simpa using this : decide (gtI m.tenants t + gtI m.strips k ≤ thC s t k) = true)
                  omega
                · intro hn
                  obtain ⟨k, hk⟩ := Classical.not_forall.1 hn
                  obtain ⟨hk1, hk2⟩ := Classical.not_imp.1 hk
                  have hk' := List.mem_range.1 hk1
                  have hr : reachB s.strips t k = true := by
                    cases hr : reachB s.strips t k with
                    | true => rfl
                    | false => rw [hr] at hk2; exact absurd rfl hk2
                  rw [hr] at hk2
                  refine ⟨(k : Int), ?_, decide_eq_true ?_⟩
                  · rw [reachL_map]
                    exact List.mem_map.2 ⟨k, List.mem_filter.2 ⟨hk1, by rw [rOf_reach hm hk']; exact hr⟩, rfl⟩
                  · rw [show Int.toNat (k : Int) = k by omega]
                    have : ¬ (gtI m.tenants t + gtI m.strips k ≤ thC s t k) := fun hh => hk2 (by simp [hh])
                    omega
              rw [hany]
              cases hrow : holdRow s (gtI m.strips) t (gtI m.tenants t) with
              | false =>
                simp only [Bool.not_false, if_true, oc_inr]
              | true =>
                simp only [Bool.not_true, Bool.false_eq_true, if_false, oc_inl]
                have hh := hOf_ok h.net ht
                have hbt := hb0 t ht
                have hbs := sum_bound2 (f := fun t => pvI (gtI m.tenants t) (hOf s.carried t)) (b := 1200) (n := t) (fun j hj => hb0 j (by omega))
                have hpe := m_proven_eq (m := gtI m.tenants t) (x := hOf s.carried t) (mk_at ho2 (by omega)) (by omega)
                unfold gtI hOf at hpe
                rw [ix_nat default ht, Option.bind_some, hpe, Option.bind_some]
                unfold gtI hOf at hbt hbs ⊢
                rw [addc_eq (by omega), Option.bind_some, addc_eq (by omega), Option.bind_some]
                rfl
            · unfold m_strip_Proves_L0
              simp only
              rw [if_neg (by omega)]
          rw [k1, Option.bind_some]
          by_cases hh : holdB s m = true
          · rw [if_pos hh, if_pos hh, oc_inl]
            have k2 : iterM FU (m_strip_Proves_L2 m s) ⟨sumTo (fun t => pvI (gtI m.tenants t) (hOf s.carried t)) s.carried.length, 0⟩ = some (provS s (gtI m.strips) (gtI m.tenants)) := by
              have key := iterM_run (f := m_strip_Proves_L2 m s) (fun k => ⟨sumTo (fun t => pvI (gtI m.tenants t) (hOf s.carried t)) s.carried.length + sumTo (fun k => pvI (gtI m.strips k) (gOf s.strips k)) k, (k : Int)⟩) s.strips.length (b := provS s (gtI m.strips) (gtI m.tenants)) (fun k hk => ?_) ?_ FU (FU_lt (by omega))
              · have e : (⟨sumTo (fun t => pvI (gtI m.tenants t) (hOf s.carried t)) s.carried.length, 0⟩ : m_strip_Proves_S2) = ⟨sumTo (fun t => pvI (gtI m.tenants t) (hOf s.carried t)) s.carried.length + sumTo (fun k => pvI (gtI m.strips k) (gOf s.strips k)) 0, ((0 : Nat) : Int)⟩ := by
                  simp [sumTo]
                rw [e, key]
              · unfold m_strip_Proves_L2
                have hlt : (k : Int) < (m.strips.length : Int) := by omega
                simp only [hlt, if_true]
                have hbt := hb1 k hk
                have hbs := sum_bound2 (f := fun t => pvI (gtI m.tenants t) (hOf s.carried t)) (b := 1200) (n := s.carried.length) (fun j hj => hb0 j hj)
                have hbs2 := sum_bound2 (f := fun k => pvI (gtI m.strips k) (gOf s.strips k)) (b := 1200) (n := k) (fun j hj => hb1 j (by omega))
                have hpe := m_proven_eq (m := gtI m.strips k) (x := gOf s.strips k) (mk_at ho1 (by omega)) (gOf_ok h.net hk)
                have hga := gone_at h hk
                rw [ix_nat 0 (by omega), Option.bind_some, ix_nat default hk, Option.bind_some]
                have hga' : m_strip_Strip_gone (⟨(s.strips.getD k default).tenant, ⟨(s.strips.getD k default).lay.lo, (s.strips.getD k default).lay.hi⟩, ⟨(s.strips.getD k default).seeded.lo, (s.strips.getD k default).seeded.hi⟩, ⟨(s.strips.getD k default).left.lo, (s.strips.getD k default).left.hi⟩⟩ : Strip) = some (gOf s.strips k) := hga
                rw [hga', Option.bind_some]
                have hpe' : m_strip_proven (m.strips.getD k 0) (gOf s.strips k) = some (pvI (gtI m.strips k) (gOf s.strips k)) := hpe
                rw [hpe', Option.bind_some, addc_eq (by omega), Option.bind_some, addc_eq (by omega), Option.bind_some]
                simp only [sumTo]
                rw [Int.add_assoc]
                rfl
              · unfold m_strip_Proves_L2
                simp only
                rw [if_neg (by omega)]
                rfl
            rw [k2]; rfl
          · rw [if_neg hh, if_neg hh, oc_inr]
        · have : mkOK m.tenants = false := by simpa using ho2
          rw [this, if_neg (fun hh => ho2 (by rw [this]; exact hh.2)), Option.bind_some]; rfl
      · rw [if_neg ho1, if_neg (fun hh => ho1 hh.1)]; rfl
    · rw [decide_eq_false (by omega), if_neg (fun hh => hl2 hh.2), Option.bind_some]; rfl
  · rw [if_neg (by omega), if_neg (fun hh => hl1 hh.1), Option.bind_some]; rfl
end Go.Proofs.Ws

namespace Go.Proofs.Ws
open Go Go.Fw Go.Gx Go.Sp
set_option linter.unusedVariables false
def stoC (s : Scalps) (tenant : Int) (t k : Nat) : Int := cnt ((decide (tenant < 0) || decide ((t : Int) = tenant)) && othB s t k)
theorem stoC_all (s : Scalps) (t k : Nat) : stoC s (-1) t k = thC s t k := by
  unfold stoC thC
  rw [decide_eq_true (show (-1 : Int) < 0 by omega)]; rfl
theorem stoC_le (s : Scalps) (tn : Int) (t k : Nat) (v : Int) (hv : 0 ≤ v ∧ v ≤ 60) : 0 ≤ stoC s tn t k * v ∧ stoC s tn t k * v ≤ 60 := by
  unfold stoC cnt; split <;> omega
theorem m_stolen_eq {s : Scalps} (h : Right s) {y : Nat → Nat → Int} (hy : ∀ t k, t < s.carried.length → k < s.strips.length → 0 ≤ y t k ∧ y t k ≤ 60) (tenant : Int) :
    m_laurellaw09_stolen s (mat s.carried.length s.strips.length y) tenant = some (countS s (stoC s tenant) y) := by
  have h6 := h.net.s6; have h5 := h.net.c5
  have hrow : ∀ t, t < s.carried.length → ∀ n, n ≤ s.strips.length → 0 ≤ sumTo (fun k => stoC s tenant t k * y t k) n ∧ sumTo (fun k => stoC s tenant t k * y t k) n ≤ 60 * (n : Int) := fun t ht n hn => sumTo_bound (fun k hk => stoC_le s tenant t k _ (hy t k ht (by omega)))
  have hrow6 : ∀ t, t < s.carried.length → 0 ≤ sumTo (fun k => stoC s tenant t k * y t k) s.strips.length ∧ sumTo (fun k => stoC s tenant t k * y t k) s.strips.length ≤ 360 := fun t ht => by have := hrow t ht _ (Nat.le_refl _); omega
  unfold m_laurellaw09_stolen
  have key := iterM_run (f := m_laurellaw09_stolen_L0 (mat s.carried.length s.strips.length y) tenant s) (fun t => ⟨sumTo (fun t => sumTo (fun k => stoC s tenant t k * y t k) s.strips.length) t, (t : Int)⟩) s.carried.length (b := countS s (stoC s tenant) y) (fun t ht => ?_) ?_ FU (FU_lt (by omega))
  · have e : (⟨0, 0⟩ : m_laurellaw09_stolen_S0) = ⟨sumTo (fun t => sumTo (fun k => stoC s tenant t k * y t k) s.strips.length) 0, ((0 : Nat) : Int)⟩ := rfl
    rw [e, key]; rfl
  · unfold m_laurellaw09_stolen_L0
    have hlt : (t : Int) < ((mat s.carried.length s.strips.length y).length : Int) := by rw [mat_len]; omega
    simp only [hlt, if_true]
    rw [mat_row ht, Option.bind_some]
    have hbs := sumTo_bound (f := fun t => sumTo (fun k => stoC s tenant t k * y t k) s.strips.length) (b := 360) (n := t) (fun i hi => hrow6 i (by omega))
    generalize hA : sumTo (fun t => sumTo (fun k => stoC s tenant t k * y t k) s.strips.length) t = A at hbs
    have k1 := iterM_run (f := m_laurellaw09_stolen_L1 ((List.range s.strips.length).map (y t)) tenant s ⟨A, (t : Int)⟩) (fun k => ⟨A + sumTo (fun k => stoC s tenant t k * y t k) k, (k : Int)⟩) s.strips.length (b := A + sumTo (fun k => stoC s tenant t k * y t k) s.strips.length) (fun k hk => by
      unfold m_laurellaw09_stolen_L1
      have hlt2 : (k : Int) < (((List.range s.strips.length).map (y t)).length : Int) := by simp; omega
      simp only [hlt2, if_true]
      have hb2 := hrow t ht k (by omega)
      have hyk := hy t k ht hk
      rw [range_ix hk, Option.bind_some, ix_nat default hk, Option.bind_some]
      have hc : (if tenant < 0 then (some (!decide ((s.strips.getD k default).tenant = (t : Int))) : Option Bool) else if (t : Int) = tenant then some (!decide ((s.strips.getD k default).tenant = (t : Int))) else some false) = some ((decide (tenant < 0) || decide ((t : Int) = tenant)) && othB s t k) := by
        unfold othB
        by_cases h1 : tenant < 0
        · rw [if_pos h1, decide_eq_true h1]; rfl
        · rw [if_neg h1, decide_eq_false h1]
          by_cases h2 : (t : Int) = tenant
          · rw [if_pos h2, decide_eq_true h2]; rfl
          · rw [if_neg h2, decide_eq_false h2]; rfl
      rw [hc, Option.bind_some]
      simp only [sumTo]
      unfold stoC cnt at hb2 ⊢
      split
      · rw [addc_eq (by omega), Option.bind_some, Option.bind_some, addc_eq (by omega), Option.bind_some, Int.one_mul, Int.add_assoc]; rfl
      · rw [Option.bind_some, addc_eq (by omega), Option.bind_some, Int.zero_mul, Int.add_zero]; rfl) (by
      unfold m_laurellaw09_stolen_L1
      simp) FU (FU_lt (by omega))
    have e : (⟨A, 0⟩ : m_laurellaw09_stolen_S1) = ⟨A + sumTo (fun k => stoC s tenant t k * y t k) 0, ((0 : Nat) : Int)⟩ := by simp [sumTo]
    rw [e, k1, Option.bind_some, addc_eq (by omega), Option.bind_some]
    simp only [sumTo]
    rw [hA]
    rfl
  · unfold m_laurellaw09_stolen_L0
    simp only
    rw [mat_len, if_neg (by omega)]
    try rfl
theorem stolen_all {s : Scalps} (h : Right s) {y : Nat → Nat → Int} (hy : FitsS s y) : m_laurellaw09_stolen s (mat s.carried.length s.strips.length y) (-1) = some (countS s (thC s) y) := by
  rw [m_stolen_eq h (fun t k ht hk => ⟨(hy.pos t k ht hk).1, le60 h hy ht hk⟩)]
  exact congrArg some (countS_congr fun t k _ _ => by rw [stoC_all])
theorem gt_map {f : Nat → Int} {n k : Nat} (hk : k < n) : gtI ((List.range n).map f) k = f k := by simp [gtI, List.getD_eq_getElem?_getD, hk]
theorem mkOK_map {f : Nat → Int} {n : Nat} (h : ∀ k, k < n → -20 ≤ f k ∧ f k ≤ 20) : mkOK ((List.range n).map f) = true := by
  unfold mkOK
  rw [List.all_eq_true]
  intro x hx
  obtain ⟨k, hk, rfl⟩ := List.mem_map.1 hx
  exact inb_iff.2 (h k (List.mem_range.1 hk))
theorem prov_congr {s : Scalps} {a b c d : Nat → Int} (h1 : ∀ k, k < s.strips.length → a k = b k) (h2 : ∀ t, t < s.carried.length → c t = d t) : provS s a c = provS s b d := by
  unfold provS
  rw [sumTo_congr (f := fun t => pvI (c t) (hOf s.carried t)) (g := fun t => pvI (d t) (hOf s.carried t)) (fun t ht => by rw [h2 t ht]), sumTo_congr (f := fun k => pvI (a k) (gOf s.strips k)) (g := fun k => pvI (b k) (gOf s.strips k)) (fun k hk => by rw [h1 k hk])]
def NearL (l : List Int) (n : Nat) : Prop := l.length = n ∧ ∀ k, k < n → -12 ≤ gtI l k ∧ gtI l k ≤ 12
theorem gtI_snoc {l : List Int} {x : Int} {k : Nat} : gtI (l ++ [x]) k = if k < l.length then gtI l k else if k = l.length then x else 0 := by
  unfold gtI
  rw [List.getD_eq_getElem?_getD, List.getD_eq_getElem?_getD]
  by_cases h : k < l.length
  · rw [if_pos h, List.getElem?_append_left h]
  · rw [if_neg h, List.getElem?_append_right (by omega)]
    by_cases h2 : k = l.length
    · rw [if_pos h2, h2, Nat.sub_self]; rfl
    · rw [if_neg h2, List.getElem?_eq_none (by simp; omega)]; rfl
theorem proved_L1 {c : List Int} (hc : c.length ≤ 9223372036854775807) {x : m_laurellaw09_Made_1_R} (h6 : x.r0.strips.length ≤ 6) {t50 : m_strip_Mark_R} {f : Nat → Int} (hf : t50.r0.strips = (List.range x.r0.strips.length).map f) (hfb : ∀ k, k < x.r0.strips.length → -11 ≤ f k ∧ f k ≤ 11) {p r : Int} (hp : HOK c p) :
    ∃ o, iterM FU (m_laurellaw09_StripProved_L1 x t50 c) ⟨0, p, r, []⟩ = some o ∧ HOK c o.t5_1 ∧ NearL o.own19_strips x.r0.strips.length := by
  refine iterM_inv (f := m_laurellaw09_StripProved_L1 x t50 c) (fun s => ∃ k : Nat, s.t140 = (k : Int) ∧ k ≤ x.r0.strips.length ∧ HOK c s.t5_1 ∧ NearL s.own19_strips k) (fun s => x.r0.strips.length - s.t140.toNat) _ (fun s hs => ?_) FU _ (FU_lt (by simp only; omega)) ⟨0, rfl, Nat.zero_le _, hp, rfl, fun k hk => by omega⟩
  obtain ⟨k, hk, hkle, hh, hln, hnear⟩ := hs
  unfold m_laurellaw09_StripProved_L1
  rw [hk]
  by_cases hlt : (k : Int) < (x.r0.strips.length : Int)
  · left
    have hkl : k < x.r0.strips.length := by omega
    have hb := hfb k hkl
    rw [if_pos hlt, hf, range_ix hkl, Option.bind_some]
    obtain ⟨z, hz, zb, zk⟩ := from_ok (r := s.t5_2) (lo := -1) (hi := 1) hc hh (by omega)
    rw [hz, Option.bind_some, addc_eq (by omega), Option.bind_some, appc_eq (by simp only [List.length_cons, List.length_nil]; omega), Option.bind_some, addc_eq (by omega), Option.bind_some]
    refine ⟨_, rfl, ⟨k + 1, rfl, by omega, zk, by simp [hln], fun i hi => ?_⟩, by simp only; omega⟩
    simp only
    rw [gtI_snoc, hln]
    split
    · exact hnear i (by omega)
    · rw [if_pos (by omega)]; omega
  · right
    have : k = x.r0.strips.length := by omega
    subst this
    rw [if_neg hlt]
    exact ⟨_, rfl, hh, hln, hnear⟩
theorem proved_L2 {c : List Int} (hc : c.length ≤ 9223372036854775807) {x : m_laurellaw09_Made_1_R} (h5 : x.r0.carried.length ≤ 5) {t50 : m_strip_Mark_R} {f : Nat → Int} (hf : t50.r0.tenants = (List.range x.r0.carried.length).map f) (hfb : ∀ k, k < x.r0.carried.length → -11 ≤ f k ∧ f k ≤ 11) {p r : Int} (hp : HOK c p) :
    ∃ o, iterM FU (m_laurellaw09_StripProved_L2 x t50 c) ⟨0, p, r, []⟩ = some o ∧ HOK c o.t5_1 ∧ NearL o.own19_tenants x.r0.carried.length := by
  refine iterM_inv (f := m_laurellaw09_StripProved_L2 x t50 c) (fun s => ∃ k : Nat, s.t160 = (k : Int) ∧ k ≤ x.r0.carried.length ∧ HOK c s.t5_1 ∧ NearL s.own19_tenants k) (fun s => x.r0.carried.length - s.t160.toNat) _ (fun s hs => ?_) FU _ (FU_lt (by simp only; omega)) ⟨0, rfl, Nat.zero_le _, hp, rfl, fun k hk => by omega⟩
  obtain ⟨k, hk, hkle, hh, hln, hnear⟩ := hs
  unfold m_laurellaw09_StripProved_L2
  rw [hk]
  by_cases hlt : (k : Int) < (x.r0.carried.length : Int)
  · left
    have hkl : k < x.r0.carried.length := by omega
    have hb := hfb k hkl
    rw [if_pos hlt, hf, range_ix hkl, Option.bind_some]
    obtain ⟨z, hz, zb, zk⟩ := from_ok (r := s.t5_2) (lo := -1) (hi := 1) hc hh (by omega)
    rw [hz, Option.bind_some, addc_eq (by omega), Option.bind_some, appc_eq (by simp only [List.length_cons, List.length_nil]; omega), Option.bind_some, addc_eq (by omega), Option.bind_some]
    refine ⟨_, rfl, ⟨k + 1, rfl, by omega, zk, by simp [hln], fun i hi => ?_⟩, by simp only; omega⟩
    simp only
    rw [gtI_snoc, hln]
    split
    · exact hnear i (by omega)
    · rw [if_pos (by omega)]; omega
  · right
    have : k = x.r0.carried.length := by omega
    subst this
    rw [if_neg hlt]
    exact ⟨_, rfl, hh, hln, hnear⟩
theorem proved_L3 {x : m_laurellaw09_Made_1_R} (hR : Right x.r0) {o3 : m_laurellaw09_StripProved_C3} {o4 : m_laurellaw09_StripProved_C4} (h3 : NearL o3.own19_strips x.r0.strips.length) (h4 : NearL o4.own19_tenants x.r0.carried.length) :
    iterM FU (m_laurellaw09_StripProved_L3 o4 o3 x) ⟨true, 0⟩ = some (holdB x.r0 ⟨o3.own19_strips, o4.own19_tenants⟩) := by
  have h6 := hR.net.s6; have h5 := hR.net.c5
  obtain ⟨l3, b3⟩ := h3
  obtain ⟨l4, b4⟩ := h4
  have key := iterM_run (f := m_laurellaw09_StripProved_L3 o4 o3 x) (fun t => ⟨(List.range t).all fun t => holdRow x.r0 (gtI o3.own19_strips) t (gtI o4.own19_tenants t), (t : Int)⟩) x.r0.carried.length (b := holdB x.r0 ⟨o3.own19_strips, o4.own19_tenants⟩) (fun t ht => ?_) ?_ FU (FU_lt (by omega))
  · exact key
  · unfold m_laurellaw09_StripProved_L3
    have hlt : (t : Int) < (o4.own19_tenants.length : Int) := by omega
    simp only [hlt, if_true]
    rw [ix_nat 0 (by omega), Option.bind_some]
    generalize hB : (List.range t).all (fun t => holdRow x.r0 (gtI o3.own19_strips) t (gtI o4.own19_tenants t)) = B
    have k1 := iterM_run (f := m_laurellaw09_StripProved_L4 o3 x ⟨B, (t : Int)⟩ (o4.own19_tenants.getD t 0)) (fun k => ⟨B && (List.range k).all fun k => !reachB x.r0.strips t k || decide (gtI o4.own19_tenants t + gtI o3.own19_strips k ≤ thC x.r0 t k), (k : Int)⟩) x.r0.strips.length (b := B && holdRow x.r0 (gtI o3.own19_strips) t (gtI o4.own19_tenants t)) (fun k hk => by
      unfold m_laurellaw09_StripProved_L4
      have hlt2 : (k : Int) < (o3.own19_strips.length : Int) := by omega
      simp only [hlt2, if_true]
      have bk := b3 k hk
      have bt := b4 t ht
      unfold gtI at bk bt
      rw [ix_nat 0 (by omega), Option.bind_some, ix_nat default hk, Option.bind_some]
      have hth : (if (x.r0.strips.getD k default).tenant = (t : Int) then (some 0 : Option Int) else some 1) = some (thC x.r0 t k) := by
        unfold thC othB cnt
        by_cases h1 : (x.r0.strips.getD k default).tenant = (t : Int)
        · rw [if_pos h1, decide_eq_true h1]; rfl
        · rw [if_neg h1, decide_eq_false h1]; rfl
      rw [hth, Option.bind_some, m_reaches_eq (by omega) (by omega), List.range_succ, List.all_append]
      generalize (List.range k).all (fun k => !reachB x.r0.strips t k || decide (gtI o4.own19_tenants t + gtI o3.own19_strips k ≤ thC x.r0 t k)) = C
      simp only [List.all_cons, List.all_nil, Bool.and_true]
      cases hBC : (B && C) with
      | false =>
        rw [if_neg (by simp), Option.bind_some, addc_eq (by omega), Option.bind_some, ← Bool.and_assoc, hBC]; rfl
      | true =>
        rw [if_pos rfl, Option.bind_some, ← Bool.and_assoc, hBC, Bool.true_and]
        cases hre : reachB x.r0.strips t k with
        | false => rw [if_pos (show (!false) = true from rfl), Option.bind_some, addc_eq (by omega), Option.bind_some]; rfl
        | true =>
          rw [if_neg (by simp), addc_eq (by omega), Option.bind_some, Option.bind_some, addc_eq (by omega), Option.bind_some]; rfl) (by
      unfold m_laurellaw09_StripProved_L4
      simp only
      rw [if_neg (by omega)]
      rfl) FU (FU_lt (by omega))
    have e : (⟨B, 0⟩ : m_laurellaw09_StripProved_S4) = ⟨B && (List.range 0).all fun k => !reachB x.r0.strips t k || decide (gtI o4.own19_tenants t + gtI o3.own19_strips k ≤ thC x.r0 t k), ((0 : Nat) : Int)⟩ := by simp
    rw [e, k1, Option.bind_some, addc_eq (by omega), Option.bind_some, List.range_succ, List.all_append, hB]
    simp
  · unfold m_laurellaw09_StripProved_L3
    simp only
    rw [if_neg (by omega)]
    rfl
end Go.Proofs.Ws

namespace Go.Proofs.Ws
open Go Go.Fw Go.Gx Go.Sp
set_option linter.unusedVariables false
theorem StripProved_true {l c : List Int} (hl : l.length ≤ 9223372036854775807) (hc : c.length ≤ 9223372036854775807) : m_laurellaw09_StripProved l c = some true := by
  unfold m_laurellaw09_StripProved m_laurelkit_Pile
  rw [Option.bind_some]
  obtain ⟨x, y0, hx, _, hR, hreal, hf0, hyok, _, _⟩ := Made_spec hl (p := 0) (r := 0) (S0 := 6) (T0 := 5) hok0 (by omega) (by omega)
  dsimp only
  rw [hx, Option.bind_some]
  have hnf : ¬ NoFit x.r0 := fun h => h y0 hf0
  have h5 := hR.net.c5; have h6 := hR.net.s6
  rcases Least_spec hR with ⟨lo, hi, ya, hL, hya, hca, hr⟩ | ⟨_, hn⟩
  · rcases Most_spec hR with ⟨lo', hi', yb, hM, hyb, hcb, hr'⟩ | ⟨_, hn⟩
    · rcases Mark_spec hR with ⟨far, lo'', hi'', hK, hh, hpv, hr'', hkb, htb⟩ | ⟨_, hn⟩
      · obtain ⟨rfl, rfl⟩ := hr.uniq hr'
        obtain ⟨rfl, rfl⟩ := hr.uniq hr''
        have hpr : m_strip_Proves x.r0 ⟨(List.range x.r0.strips.length).map (mkF far), (List.range x.r0.carried.length).map (mtF far)⟩ = some ⟨lo, 0⟩ := by
          rw [Proves_spec hR (by simp; omega)]
          unfold provesR
          rw [if_pos (by simp), if_pos ⟨mkOK_map fun k hk => by have := hkb k hk; omega, mkOK_map fun t ht => by have := htb t ht; omega⟩, if_pos]
          · congr 2
            rw [← hpv]
            exact prov_congr (fun k hk => gt_map hk) (fun t ht => gt_map ht)
          · rw [holdB_iff]
            intro t k ht hk hre
            simp only
            rw [gt_map ht, gt_map hk]
            exact hh t k ht hk hre
        rw [hL, Option.bind_some, hM, Option.bind_some, hK, Option.bind_some]
        dsimp only
        rw [hpr, Option.bind_some, if_pos rfl, if_pos rfl, if_pos rfl, if_pos rfl, if_pos (by simp), if_pos (by simp), if_pos rfl, m_fits_eq hR, (fitsB_mat hR).2 hya, Option.bind_some, if_neg (by simp), m_fits_eq hR, (fitsB_mat hR).2 hyb, Option.bind_some, if_neg (by simp), stolen_all hR hya, Option.bind_some, if_pos hca, stolen_all hR hyb, Option.bind_some, decide_eq_true hcb, Bool.not_true, Option.bind_some, if_neg (by simp), hreal, stolen_all hR hf0, Option.bind_some]
        have hy0 := hr.2.2 y0 hf0
        rw [if_neg (by omega), decide_eq_false (by omega), Option.bind_some, if_neg (by simp), Option.bind_some]
        dsimp only
        generalize hT : (⟨⟨(List.range x.r0.strips.length).map (mkF far), (List.range x.r0.carried.length).map (mtF far)⟩, 0⟩ : m_strip_Mark_R) = t50
        have hTs : t50.r0.strips = (List.range x.r0.strips.length).map (mkF far) := by rw [← hT]
        have hTt : t50.r0.tenants = (List.range x.r0.carried.length).map (mtF far) := by rw [← hT]
        generalize hLR : (⟨lo, 0, mat x.r0.carried.length x.r0.strips.length ya⟩ : m_strip_Least_R) = t38
        have hLlo : t38.r1 = lo := by rw [← hLR]
        have key : ∃ b, iterM FU (m_laurellaw09_StripProved_L0 x t50 c t38) ⟨0, 0, 0⟩ = some b ∧ ∃ o, b = .inl o := by
          refine iterM_inv (f := m_laurellaw09_StripProved_L0 x t50 c t38) (fun s => 0 ≤ s.t135 ∧ s.t135 ≤ 12 ∧ HOK c s.t5_1) (fun s => (12 - s.t135).toNat) _ (fun s hs => ?_) FU _ (FU_lt (by simp)) ⟨by simp, by simp, hok0⟩
          obtain ⟨h0, h1, hk⟩ := hs
          unfold m_laurellaw09_StripProved_L0
          by_cases hlt : s.t135 < 12
          · left
            rw [if_pos hlt]
            obtain ⟨o3, ho3, k3, n3⟩ := proved_L1 hc h6 hTs hkb (r := s.t5_2) hk
            rw [ho3, Option.bind_some]
            obtain ⟨o4, ho4, k4, n4⟩ := proved_L2 hc h5 hTt htb (r := o3.t5_2) k3
            rw [ho4, Option.bind_some, proved_L3 hR n3 n4, Option.bind_some]
            have n3' := n3.1
            have n4' := n4.1
            rw [Proves_spec hR (by simp only; omega), Option.bind_some]
            have hmk : mkOK o3.own19_strips = true ∧ mkOK o4.own19_tenants = true := by
              constructor
              · unfold mkOK
                rw [List.all_eq_true]
                intro z hz
                obtain ⟨i, hi, rfl⟩ := List.getElem_of_mem hz
                have := n3.2 i (by omega)
                have e : gtI o3.own19_strips i = o3.own19_strips[i] := by simp [gtI, List.getD_eq_getElem?_getD, hi]
                rw [e] at this
                exact inb_iff.2 (by omega)
              · unfold mkOK
                rw [List.all_eq_true]
                intro z hz
                obtain ⟨i, hi, rfl⟩ := List.getElem_of_mem hz
                have := n4.2 i (by omega)
                have e : gtI o4.own19_tenants i = o4.own19_tenants[i] := by simp [gtI, List.getD_eq_getElem?_getD, hi]
                rw [e] at this
                exact inb_iff.2 (by omega)
            have hfin : ∀ o : Option Bool, o = some false → ∃ s', (o.bind fun o_9 => if o_9 = true then (some (.inr (.inr false)) : Option (m_laurellaw09_StripProved_S0 ⊕ (m_laurellaw09_StripProved_C2 ⊕ Bool))) else (addc s.t135 1).bind fun t254 => some (.inl ⟨t254, o4.t5_1, o4.t5_2⟩)) = some (.inl s') ∧ (0 ≤ s'.t135 ∧ s'.t135 ≤ 12 ∧ HOK c s'.t5_1) ∧ (12 - s'.t135).toNat < (12 - s.t135).toNat := fun o ho => by
              rw [ho, Option.bind_some, if_neg (by simp), addc_eq (by omega), Option.bind_some]
              exact ⟨_, rfl, ⟨by simp only; omega, by simp only; omega, k4⟩, by simp only; omega⟩
            have hP : provesR x.r0 ⟨o3.own19_strips, o4.own19_tenants⟩ = if holdB x.r0 ⟨o3.own19_strips, o4.own19_tenants⟩ = true then ⟨provS x.r0 (gtI o3.own19_strips) (gtI o4.own19_tenants), 0⟩ else ⟨0, 8⟩ := by
              unfold provesR
              rw [if_pos ⟨n3', n4'⟩, if_pos hmk]
            rw [hP]
            by_cases hhb : holdB x.r0 ⟨o3.own19_strips, o4.own19_tenants⟩ = true
            · rw [if_pos hhb]
              refine hfin _ ?_
              dsimp only
              have hple : provS x.r0 (gtI o3.own19_strips) (gtI o4.own19_tenants) ≤ lo := by
                obtain ⟨⟨y1, f1, e1⟩, _, _⟩ := hr
                rw [← e1]
                exact prov_le (holdB_iff.1 hhb) f1
              rw [if_pos rfl, if_pos rfl, hhb, if_neg (by simp), hLlo, if_neg (by omega), if_neg (by decide)]
            · have hhf : holdB x.r0 ⟨o3.own19_strips, o4.own19_tenants⟩ = false := by simpa using hhb
              rw [if_neg hhb]
              refine hfin _ ?_
              dsimp only
              rw [if_neg (by decide), if_pos rfl, if_neg (by decide), if_pos rfl, hhf]
          · right
            rw [if_neg hlt]
            exact ⟨_, rfl, _, rfl⟩
        obtain ⟨b, hb, o, rfl⟩ := key
        rw [hb, Option.bind_some, oc_inl, awake_eq]; rfl
      · exact absurd hn hnf
    · exact absurd hn hnf
  · exact absurd hn hnf
end Go.Proofs.Ws

namespace Go.Gx
open Go Go.Fw Go.RowKit
section
variable {H : Type} {enc : TypeId × Value → H} {P : Program} {w : World} {base : Nat} {sp : Nat → Bool} {held : Bool}
def Opens (enc : TypeId × Value → H) (P : Program) (w : World) (base : Nat) (sp : Nat → Bool) (held : Bool) {α : Type} (R : Row α) (wf : α → Prop) (t : TypeId) : Prop :=
  ∀ fuel cs x, DataW.trod enc P w base sp held fuel t cs = some x → ∃ a, cs = R.cells a ∧ wf a
def u8P (n : Int) : Prop := 0 ≤ n ∧ n ≤ 255
theorem wf_u8P {n : Int} (h : (Lit.int .u8 n).wf = true) : u8P n := by
  simp [Lit.wf, IntKind.min, IntKind.max, IntKind.signed, IntKind.bits] at h
  unfold u8P; omega
theorem opens_u8 {t : TypeId} (ht : P.underlying t = some (.int .u8)) : Opens enc P w base sp held RU8 u8P t := fun fuel cs x h => by
  obtain ⟨n, rfl, _, hw⟩ := DataW.trod_int ht h
  exact ⟨n, rfl, wf_u8P hw⟩
theorem fieldAt {fs : Array Field} {t : TypeId} {fuel : Nat} {cs : List Value} {x : DataW H × List MemPlace} (ht : P.underlying t = some (.struct fs)) (h : DataW.trod enc P w base sp held fuel t cs = some x) {α : Type} {R : Row α} {wf : α → Prop} (i : Nat) {T o k : Nat}
    (hf : (fs[i]?).map (fun fd => (fd.type, fd.offset)) = some (T, o)) (hk : P.cellsOf T = k) (hR : Opens enc P w base sp held R wf T) : ∃ a, (cs.drop o).take k = R.cells a ∧ wf a := by
  obtain ⟨xs, n, rfl, _, hlen, hxl, hx⟩ := DataW.trod_struct ht h
  obtain ⟨fd, hfd, he⟩ : ∃ fd, fs[i]? = some fd ∧ (fd.type, fd.offset) = (T, o) := by
    cases hh : fs[i]? with
    | none => simp [hh] at hf
    | some fd => exact ⟨fd, rfl, by simpa [hh] using hf⟩
  simp only [Prod.mk.injEq] at he
  obtain ⟨rfl, rfl⟩ := he
  have h1 := hx i fd hfd
  rw [hk] at h1
  have hi : i < xs.length := by rw [hxl]; exact (Array.getElem?_eq_some_iff.1 hfd).1
  rw [List.getElem?_eq_getElem hi] at h1
  exact hR _ _ _ h1
structure SlIn {α : Type} (R : Row α) (wf : α → Prop) (w : World) (v : Value) (A : Option Addr) (n c : Nat) (l : List α) : Prop where
  val : v = .slice A n c
  len : l.length = n
  ok : AOK n A
  le : n ≤ c
  max : c ≤ maxLen
  seg : segOK w (aB A, aO A, R.enc l)
  wf : ∀ x, x ∈ l → wf x
theorem choose_list {α : Type} {p : Nat → α → Prop} : ∀ (n : Nat), (∀ i, i < n → ∃ a, p i a) → ∃ l : List α, l.length = n ∧ ∀ i (h : i < l.length), p i l[i]
  | 0, _ => ⟨[], rfl, fun i h => by simp at h⟩
  | n + 1, h => by
    obtain ⟨l, hl, hp⟩ := choose_list n (fun i hi => h i (by omega))
    obtain ⟨a, ha⟩ := h n (by omega)
    refine ⟨l ++ [a], by simp [hl], fun i hi => ?_⟩
    by_cases hil : i < l.length
    · rw [List.getElem_append_left hil]; exact hp i hil
    · have : i = l.length := by simp at hi; omega
      subst this
      rw [List.getElem_append_right (by omega)]
      simp only [Nat.sub_self, List.getElem_cons_zero]
      rw [hl]; exact ha
theorem openSl {α : Type} {R : Row α} {wf : α → Prop} {t e : TypeId} (ht : P.underlying t = some (.slice e)) (hc : P.cellsOf e = R.sz) (hR : Opens enc P w base sp held R wf e) (h0 : Nat.blt 0 R.sz = true)
    {fuel : Nat} {cs : List Value} {x : DataW H × List MemPlace} (h : DataW.trod enc P w base sp held fuel t cs = some x) : ∃ (v : Value) (A : Option Addr) (n c : Nat) (l : List α), cs = [v] ∧ SlIn R wf w v A n c l := by
  have hsz : 0 < R.sz := by simpa using h0
  rcases Go.Deep.open_slice ht h with ⟨rfl, _⟩ | ⟨a, len, cap, m, n, D, Pl, rfl, hb, hl, hm, hmm, _, hi⟩
  · exact ⟨_, none, 0, 0, [], rfl, rfl, rfl, AOK.nil, Nat.le_refl _, Nat.zero_le _, segOK.nil, by simp⟩
  · have hlm : len ≤ m := by rw [hmm]; split <;> omega
    have hcell : ∀ i, i < len → ∃ x : α, (∀ f (hf : f < (R.cells x).length), w.cell? (a.add (i * R.sz + f)) = some (R.cells x)[f]) ∧ wf x := fun i hil => by
      obtain ⟨cs', h1, h2⟩ := hi i (by omega)
      obtain ⟨x, rfl, hw⟩ := hR _ _ _ h2
      obtain ⟨_, _, hat⟩ := World.cells?_some h1
      refine ⟨x, fun f hf => ?_, hw⟩
      have := hat f (by rw [hc, ← R.len x]; exact hf)
      rw [hc] at this
      rw [List.getElem?_eq_getElem hf] at this
      have e : (a.add (i * R.sz)).add f = a.add (i * R.sz + f) := by
        unfold Addr.add
        by_cases h1 : i * R.sz = 0
        · simp [h1]
        · by_cases h2 : f = 0
          · simp [h2]
          · simp [h1, h2, Nat.add_assoc]
      rw [e] at this
      exact this
    obtain ⟨l, hll, hlp⟩ := choose_list len hcell
    have hspot : 0 < len → a.spot = none := fun h0 => by
      obtain ⟨x, hx, _⟩ := hcell 0 h0
      have := World.cell?_spot (hx 0 (by rw [R.len]; exact hsz))
      simpa [Addr.add] using this
    refine ⟨_, some a, len, cap, l, rfl, rfl, hll, fun h0 => ?_, hl, hm, fun j hj => ?_, fun x hx => ?_⟩
    · obtain ⟨b, o, s⟩ := a
      have := hspot h0
      simp only at this
      subst this
      exact ⟨b, o, rfl⟩
    · have hj' : j < l.length * R.sz := by rw [← R.enc_len]; exact hj
      have hpos : 0 < len := by
        rcases Nat.eq_zero_or_pos len with h | h
        · rw [hll, h, Nat.zero_mul] at hj'; omega
        · exact h
      obtain ⟨b, o, s⟩ := a
      have hs := hspot hpos
      simp only at hs
      subst hs
      have hq : j / R.sz < l.length := Nat.div_lt_of_lt_mul (by rw [Nat.mul_comm]; exact hj')
      have hr : j % R.sz < R.sz := Nat.mod_lt _ hsz
      have hd : j / R.sz * R.sz + j % R.sz = j := by rw [Nat.mul_comm]; exact Nat.div_add_mod j R.sz
      have h1 := (hlp (j / R.sz) hq).1 (j % R.sz) (by rw [R.len]; exact hr)
      rw [hd] at h1
      have h2 := R.enc_get l (j / R.sz) (j % R.sz) l[j / R.sz] (List.getElem?_eq_getElem hq) hr
      rw [hd] at h2
      have h3 : (⟨b, o, none⟩ : Addr).add j = ⟨b, o + j, none⟩ := addr_add b o j
      rw [h3] at h1
      simp only [aB, aO, Option.map_some, Option.getD_some]
      rw [h1, ← List.getElem?_eq_getElem, ← h2, List.getElem?_eq_getElem hj]
    · obtain ⟨i, hi', rfl⟩ := List.getElem_of_mem hx
      exact (hlp i hi').2
theorem HV.begin {ro : List Sg} (h : ∀ s, s ∈ ro → segOK w s) : HV w (keys [] []) [] [] ro w :=
  ⟨rfl, rfl, rfl, Nat.le_refl _, fun _ _ _ => rfl, by simp [vbl], by simp [vbl], by simp [vbl], h, by simp [vbl]⟩
theorem segCons {s : Sg} {ro : List Sg} (h : segOK w s) (hr : ∀ t, t ∈ ro → segOK w t) : ∀ t, t ∈ s :: ro → segOK w t := fun t ht => by
  rcases List.mem_cons.1 ht with rfl | ht
  · exact h
  · exact hr t ht
theorem segNil : ∀ t, t ∈ ([] : List Sg) → segOK w t := fun t ht => by cases ht
theorem HV.below {w' : World} (h : HV w (keys [] []) [] [] [] w') : Below w.heap.size w w' := by
  have : Ext [] w w' := HS.toExt h
  exact this.below
end
end Go.Gx

namespace Go.Proofs.Ws
open Go Go.Fw Go.Gx Go.RowKit
section
variable {H : Type} {enc : TypeId × Value → H} {w : World} {base : Nat} {sp : Nat → Bool} {held : Bool}
theorem opU8 : Opens enc Try.prog w base sp held RU8 u8P 5 := opens_u8 Try.underlying5
end
end Go.Proofs.Ws

