/- What the functions that the law TideLooks reaches come to, and why it holds: part 6. -/
import Derived.Test.YtaicfimbclibpaaTideLooks5
namespace Go.Proofs.Wk
open Go Go.Gx Go.Pl
set_option linter.unusedVariables false
/-- no single clashes, a pair does: the first pair is the best set -/
theorem best_two {s : Sands} (hG : Good s) {k : List Look} (hk : ∀ l, l ∈ k → lookOK s l) (hl : k.length ≤ 6) {best : List Int} (hB : BestOf s k (2 ^ k.length) best) (h1 : ∀ i, i < k.length → noneT s [k.getD i default] = false)
    {i j : Nat} (hij : i < j) (hj : j < k.length) (hc : noneT s [k.getD i default, k.getD j default] = true) (hmin : ∀ a b, a < b → b < k.length → (a < i ∨ (a = i ∧ b < j)) → noneT s [k.getD a default, k.getD b default] = false) : best = [(i : Int), (j : Int)] := by
  have hp := pow_bd hl
  have hpi := pow_bd (j := i) (by omega)
  have hji : 2 ^ i < 2 ^ j := Nat.pow_lt_pow_right (by omega) hij
  have hjl : 2 ^ (j + 1) ≤ 2 ^ k.length := Nat.pow_le_pow_right (by omega) (by omega)
  have hj2 : 2 ^ (j + 1) = 2 * 2 ^ j := by rw [Nat.pow_succ]; omega
  have hlt : 2 ^ i + 2 ^ j < 2 ^ k.length := by omega
  have hci := (two_clash hG hk hl hij hj).2 hc
  rcases hB with ⟨_, hno⟩ | ⟨b, hb0, hbm, rfl, hbc, hbmin⟩
  · exact absurd hci (hno _ (by omega) hlt)
  · have hr := hbmin _ (by omega) hlt hci
    by_cases he : rankL (memL b) = rankL (memL (2 ^ i + 2 ^ j))
    · have := rank_inj b (by omega) (2 ^ i + 2 ^ j) (by omega) he
      rw [this, mem_two i (by omega) j (by omega) hij]
    · have ha : aheadB (memL b) (memL (2 ^ i + 2 ^ j)) = true := by
        rw [ahead_rank b (by omega) _ (by omega)]
        exact decide_eq_true (by omega)
      rw [mem_two i (by omega) j (by omega) hij] at ha
      rcases ahead_two (show b < 64 by omega) hb0 (show i < 6 by omega) (show j < 6 by omega) hij ha with ⟨a, ha6, hm⟩ | ⟨a, c, ha6, hc6, hac, hlex, hm⟩
      · have h5 : 2 ^ a ≤ 2 ^ 5 := Nat.pow_le_pow_right (by omega) (by omega)
        have hba : b = 2 ^ a := mem_inj b (by omega) (2 ^ a) (by omega) (by rw [mem_one a ha6]; exact hm)
        subst hba
        have hal : a < k.length := (Nat.pow_lt_pow_iff_right (by omega)).1 hbm
        have h2 := (one_clash hG hk hl hal).1 hbc
        rw [h1 a hal] at h2
        exact absurd h2 (by decide)
      · have h5 : 2 ^ c ≤ 2 ^ 5 := Nat.pow_le_pow_right (by omega) (by omega)
        have h6 : 2 ^ a < 2 ^ c := Nat.pow_lt_pow_right (by omega) hac
        have hba : b = 2 ^ a + 2 ^ c := mem_inj b (by omega) (2 ^ a + 2 ^ c) (by omega) (by rw [mem_two a ha6 c hc6 hac]; exact hm)
        subst hba
        have h7 := Nat.one_le_two_pow (n := a)
        have hcl : c < k.length := (Nat.pow_lt_pow_iff_right (a := 2) (by omega)).1 (by omega)
        have h2 := (two_clash hG hk hl hac hcl).1 hbc
        rw [hmin a c hac hcl hlex] at h2
        exact absurd h2 (by decide)
end Go.Proofs.Wk

namespace Go.Proofs.Wk
open Go Go.Gx Go.Pl
set_option linter.unusedVariables false
theorem none_swap {s : Sands} (hG : Good s) {x y : Look} (hx : lookOK s x) (hy : lookOK s y) : noneT s [x, y] = noneT s [y, x] := by
  have h1 : ∀ l, l ∈ [x, y] → lookOK s l := fun l h => by
    rcases List.mem_cons.1 h with h | h
    · exact h ▸ hx
    · exact (List.mem_singleton.1 h) ▸ hy
  have h2 : ∀ l, l ∈ [y, x] → lookOK s l := fun l h => by
    rcases List.mem_cons.1 h with h | h
    · exact h ▸ hy
    · exact (List.mem_singleton.1 h) ▸ hx
  rw [Bool.eq_iff_iff, none_iff hG h1, none_iff hG h2]
  refine ⟨fun h w a b c => h w a b fun l hl => c l ?_, fun h w a b c => h w a b fun l hl => c l ?_⟩ <;>
  · simp only [List.mem_cons, List.not_mem_nil, or_false] at hl ⊢
    exact hl.symm
theorem find_none {n : Nat} {p : Nat → Bool} (h : (List.range n).find? p = none) : ∀ j, j < n → p j = false := fun j hj => by
  have := List.find?_eq_none.1 h j (by simpa using hj)
  simpa using this
/-- no single and no pair clashes: nothing does -/
theorem no_clash {s : Sands} (hG : Good s) {k : List Look} (hk : ∀ l, l ∈ k → lookOK s l) (h1 : ∀ i, i < k.length → noneT s [k.getD i default] = false)
    (h2 : ∀ i j, i < j → j < k.length → noneT s [k.getD i default, k.getD j default] = false) : noneT s k = false := by
  have idx : ∀ x, x ∈ k → ∃ i, i < k.length ∧ k.getD i default = x := fun x hx => by
    obtain ⟨i, hi, he⟩ := List.getElem_of_mem hx
    exact ⟨i, hi, by rw [List.getD_eq_getElem?_getD, List.getElem?_eq_getElem hi]; exact he⟩
  refine helly hG (fun x hx => ?_) (fun x y hx hy => ?_)
  · obtain ⟨i, hi, rfl⟩ := idx x hx
    exact h1 i hi
  · obtain ⟨i, hi, rfl⟩ := idx x hx
    obtain ⟨j, hj, rfl⟩ := idx y hy
    rcases Nat.lt_trichotomy i j with h | h | h
    · exact h2 i j h hj
    · subst h; rw [none_twice hG (hk _ hx)]; exact h1 i hi
    · rw [none_swap hG (hk _ hx) (hk _ hy)]; exact h2 j i h hi
theorem best_nil {s : Sands} (hG : Good s) {k : List Look} (hk : ∀ l, l ∈ k → lookOK s l) (hN : noneT s k = false) {m : Nat} {best : List Int} (hB : BestOf s k m best) : best = [] := by
  rcases hB with ⟨h, _⟩ | ⟨b, hb0, hbm, rfl, hbc, _⟩
  · exact h
  · exfalso
    have hn : ¬ (noneT s k = true) := by rw [hN]; decide
    rw [none_iff hG hk] at hn
    refine hn fun w a c h => ?_
    have h3 := clash_iff.1 hbc w a c
    have h4 : setT s k b w = true := setT_iff.2 fun i hi _ => h _ (mem_getD hi)
    rw [h3] at h4
    exact absurd h4 (by decide)
/-- Clash is the reference's -/
theorem clash_best {s : Sands} (hG : Good s) {k : List Look} (hk : ∀ l, l ∈ k → lookOK s l) (hl : k.length ≤ 6) (he : lookedE s k = 0) {best : List Int} (hB : BestOf s k (2 ^ k.length) best) : ClashR s k = if best.isEmpty = true then ⟨6, []⟩ else ⟨0, best⟩ := by
  unfold ClashR
  rw [if_neg (show ¬ (lookedE s k ≠ 0) by rw [he]; simp)]
  cases h1 : (List.range k.length).find? (fun i => noneT s [k.getD i default]) with
  | some i =>
    have := best_one hG hk hl hB h1
    subst this
    rfl
  | none =>
    have h1' : ∀ i, i < k.length → noneT s [k.getD i default] = false := find_none h1
    cases h2 : (List.range k.length).find? (fun i => (mateF s k i).isSome) with
    | some i =>
      obtain ⟨hi, hsome, hmin⟩ := find_first h2
      skip
      cases hm : mateF s k i with
      | none => rw [hm] at hsome; exact absurd hsome (by decide)
      | some j0 =>
        obtain ⟨hj, hp, hpm⟩ := find_first (show (List.range (k.length - (i + 1))).find? (pairT s k i) = some j0 from hm)
        have hij : i < i + 1 + j0 := by omega
        have hjl : i + 1 + j0 < k.length := by omega
        have hpn := pair_none hG hk h1' hij hjl
        rw [show i + 1 + j0 - (i + 1) = j0 by omega, hp] at hpn
        have := best_two hG hk hl hB h1' hij hjl hpn.symm (fun a b hab hb hlex => by
          have hn := pair_none hG hk h1' hab hb
          rw [← hn]
          rcases hlex with ha | ⟨rfl, hb2⟩
          · have h5 := hmin a ha
            cases h6 : mateF s k a with
            | some x => rw [h6] at h5; exact absurd h5 (by simp)
            | none => exact find_none (show (List.range (k.length - (a + 1))).find? (pairT s k a) = none from h6) _ (by omega)
          · exact hpm _ (by omega))
        subst this
        simp only [hm, Option.getD_some]
        rfl
    | none =>
      have h2' := find_none h2
      have h3 : ∀ i j, i < j → j < k.length → noneT s [k.getD i default, k.getD j default] = false := fun i j hij hj => by
        have h5 := h2' i (by omega)
        skip
        cases h6 : mateF s k i with
        | some x => rw [h6] at h5; exact absurd h5 (by simp)
        | none =>
          rw [← pair_none hG hk h1' hij hj]
          exact find_none (show (List.range (k.length - (i + 1))).find? (pairT s k i) = none from h6) _ (by omega)
      have := best_nil hG hk (no_clash hG hk h1' h3) hB
      subst this
      rfl
end Go.Proofs.Wk

namespace Go.Proofs.Wk
open Go Go.Gx Go.Pl
set_option linter.unusedVariables false
theorem n_bd {s : Sands} (hG : Good s) {m : Int} {p : Nat} : 0 ≤ nF s m p ∧ nF s m p ≤ allW s := by
  have := hG.lo
  have := hG.hi
  have := hG.wind
  unfold nF yesF allW
  omega
/-- the search so far -/
def AskInv (s : Sands) (st : Int × Look) (D : Int → Nat → Prop) : Prop :=
  ((∀ m p, ¬ D m p) ∧ st = (allW s + 1, ⟨0, 0, false⟩)) ∨ ∃ (m : Int) (p : Nat), D m p ∧ st = (nF s m p, ⟨m, (p : Int), true⟩) ∧ ∀ m' p', D m' p' → nF s m p ≤ nF s m' p' ∧ (nF s m' p' = nF s m p → m < m' ∨ (m = m' ∧ p ≤ p'))
theorem AskInv.step {s : Sands} (hG : Good s) {st : Int × Look} {D : Int → Nat → Prop} (h : AskInv s st D) {m : Int} {p : Nat} (hlt : ∀ m' p', D m' p' → m' < m ∨ (m' = m ∧ p' < p)) : AskInv s (askStep s m st p) (fun m' p' => D m' p' ∨ (m' = m ∧ p' = p)) := by
  have hb := n_bd hG (m := m) (p := p)
  right
  unfold askStep
  rcases h with ⟨h1, rfl⟩ | ⟨a, b, hD, rfl, hmin⟩
  · rw [if_pos (show nF s m p < allW s + 1 by omega)]
    refine ⟨m, p, .inr ⟨rfl, rfl⟩, rfl, fun m' p' h => ?_⟩
    rcases h with h | ⟨rfl, rfl⟩
    · exact (h1 _ _ h).elim
    · exact ⟨Int.le_refl _, fun _ => .inr ⟨rfl, Nat.le_refl _⟩⟩
  · by_cases hc : nF s m p < nF s a b
    · rw [if_pos hc]
      refine ⟨m, p, .inr ⟨rfl, rfl⟩, rfl, fun m' p' h => ?_⟩
      rcases h with h | ⟨rfl, rfl⟩
      · have := (hmin m' p' h).1
        exact ⟨by omega, fun he => by omega⟩
      · exact ⟨Int.le_refl _, fun _ => .inr ⟨rfl, Nat.le_refl _⟩⟩
    · rw [if_neg hc]
      refine ⟨a, b, .inl hD, rfl, fun m' p' h => ?_⟩
      rcases h with h | ⟨rfl, rfl⟩
      · exact hmin m' p' h
      · refine ⟨by omega, fun _ => ?_⟩
        rcases hlt a b hD with h2 | ⟨h2, h3⟩
        · exact .inl h2
        · exact .inr ⟨h2, by omega⟩
theorem AskInv.congr {s : Sands} {st : Int × Look} {D E : Int → Nat → Prop} (h : AskInv s st D) (he : ∀ m p, D m p ↔ E m p) : AskInv s st E := by
  have : D = E := by funext m p; exact propext (he m p)
  rw [← this]; exact h
theorem x_Looks_eq {s : Sands} {k : List Look} (hs : Short s) (hk : k.length ≤ 1000) : x_Looks s k = some (LooksR s k) := by
  have h1 := hs.t
  have h2 := hs.f
  have h3 := hs.s
  unfold x_Looks
  rw [if_pos ⟨by omega, by omega, by omega, by omega⟩]
end Go.Proofs.Wk

namespace Go.Proofs.Wk
open Go Go.Gx Go.Pl
set_option linter.unusedVariables false
theorem dup_look {l : List Look} (h : l.length ≤ 1000) : m_laurelkit_Dup_tideLook l = some l := by
  unfold m_laurelkit_Dup_tideLook
  rw [makec_eq (by omega), Option.bind_some, appc_eq (by simp; omega), Option.bind_some]
  rfl
theorem seen_eq {l : List Look} (h : l.length ≤ 1000) : m_laurellaw01_seen l = some l := by
  unfold m_laurellaw01_seen
  have e1 : iterM FU (m_laurellaw01_seen_L0 l) ⟨0, []⟩ = some l := by
    have := iterM_run (f := m_laurellaw01_seen_L0 l) (fun k => (⟨(k : Int), l.take k⟩ : m_laurellaw01_seen_S0)) l.length (b := l) (fun k hk => ?_) ?_ FU (FU_lt (by omega))
    · simpa using this
    · unfold m_laurellaw01_seen_L0
      simp only
      rw [if_pos (by omega), ix_nat default hk, Option.bind_some, appc_eq (by simp; omega), Option.bind_some, addc_eq (by omega), Option.bind_some, take_snoc default hk]
      simp
    · unfold m_laurellaw01_seen_L0
      simp
  rw [e1]
  rfl
theorem equal_look (a : List Look) (ha : a.length ≤ 1000) : m_laurelkit_Eq_tideLook a a = some true := by
  unfold m_laurelkit_Eq_tideLook m_slices_Equal_tideLooktideLook
  have key := iterM_any0 (f := m_slices_Equal_tideLooktideLook_L0 a a) a.length (fun _ => false) false (fun k hk => by
    unfold m_slices_Equal_tideLooktideLook_L0
    rw [if_pos (by omega), ix_nat default hk, Option.bind_some, Option.bind_some, if_pos rfl, addc_eq (by omega), Option.bind_some]
    rfl) (by
    unfold m_slices_Equal_tideLooktideLook_L0
    rw [if_neg (by omega)]) (N := FU) (FU_lt (by omega))
  have : (List.range a.length).any (fun _ => false) = false := by simp
  rw [if_pos rfl, key, this, if_neg (by decide), Option.bind_some]
  unfold oc
  simp only
  rw [Option.bind_some]
/-- the error of one look -/
def lkE (s : Sands) (l : Look) : Int := if dayF s l.min = false then 3 else if isPlace s l.place = false then 1 else 0
theorem lookE_find {s : Sands} : ∀ (l : List Look), lookE s l = match l.find? (fun x => decide (lkE s x ≠ 0)) with | some x => lkE s x | none => 0
  | [] => rfl
  | x :: l => by
    unfold lookE
    rw [lookE_find l]
    unfold lkE
    simp only [List.find?_cons]
    by_cases h1 : dayF s x.min = false
    · simp [h1]
    · by_cases h2 : isPlace s x.place = false
      · simp [h1, h2]
      · simp [h1, h2]
theorem reflooks_L0 {s : Sands} (hS : Short s) (ht : 0 < s.table.length) {l : List Look} (hl : l.length ≤ 1000) : iterM FU (m_laurelref01_LooksError_L0 l s) 0 = some (if lookE s l = 0 then .inl () else .inr (lookE s l)) := by
  have key := iterM_any (f := m_laurelref01_LooksError_L0 l s) 0 l.length (fun i => decide (lkE s (l.getD i default) ≠ 0)) (fun i => lkE s (l.getD i default)) (fun i hi => by
    unfold m_laurelref01_LooksError_L0 lkE
    rw [Int.zero_add, if_pos (by omega), ix_nat default hi, Option.bind_some, minute_eq hS ht, Option.bind_some]
    generalize l.getD i default = x
    by_cases h1 : dayF s x.min = true
    · rw [if_pos h1, if_pos rfl, Option.bind_some, place_eq hS, Option.bind_some]
      by_cases h2 : isPlace s x.place = true
      · rw [if_pos h2, if_pos rfl, addc_eq (by omega), Option.bind_some]
        simp [h1, h2]
      · rw [if_neg h2, if_neg (by decide)]
        have h2' : isPlace s x.place = false := by simpa using h2
        simp [h1, h2']
    · have h1' : dayF s x.min = false := by simpa using h1
      rw [if_neg h1, if_neg (by decide)]
      simp [h1']) (by
    unfold m_laurelref01_LooksError_L0
    rw [Int.zero_add, if_neg (by omega)]) (N := FU) (FU_lt (by omega))
  rw [key, lookE_find]
  have hf : l.find? (fun x => decide (lkE s x ≠ 0)) = ((List.range l.length).find? (fun i => decide (lkE s (l.getD i default) ≠ 0))).map (fun i => l.getD i default) := by
    have h1 : l = (List.range l.length).map (fun i => l.getD i default) := by
      apply List.ext_getElem
      · simp
      · intro i h1 h2
        simp at h2
        simp [List.getD_eq_getElem?_getD, h1]
    conv => lhs; rw [h1]
    rw [List.find?_map]
    rfl
  rw [hf]
  cases h : (List.range l.length).find? (fun i => decide (lkE s (l.getD i default) ≠ 0)) with
  | none => rfl
  | some i =>
    have h2 := List.find?_some h
    simp only [decide_eq_true_eq] at h2
    simp only [Option.map_some]
    rw [if_neg h2]
theorem reflooks_eq {s : Sands} (hS : Short s) {l : List Look} (hl : l.length ≤ 1000) : m_laurelref01_LooksError s l = some (lookedE s l) := by
  unfold m_laurelref01_LooksError lookedE
  rw [refcheck_eq hS, Option.bind_some]
  by_cases hc : check s = 0
  · have hG := good_of_check hc
    have htl := hG.tl
    rw [if_pos hc, if_neg (show ¬ (check s ≠ 0) by rw [hc]; simp)]
    by_cases h10 : 10 < l.length
    · rw [if_pos (by omega), if_pos h10]
    · rw [if_neg (by omega), if_neg h10, reflooks_L0 hS (by omega) hl, Option.bind_some]
      by_cases h0 : lookE s l = 0
      · rw [if_pos h0, h0]; rfl
      · rw [if_neg h0]; rfl
  · rw [if_neg hc, if_pos hc]
theorem looked_ok {s : Sands} {k : List Look} (h : lookedE s k = 0) : Good s ∧ ∀ l, l ∈ k → lookOK s l := by
  obtain ⟨h1, h2, h3⟩ := lookedE_zero h
  refine ⟨good_of_check h1, fun l hl => ?_⟩
  obtain ⟨i, hi, he⟩ := List.getElem_of_mem hl
  have := lookE_all h3 i hi
  rw [List.getD_eq_getElem?_getD, List.getElem?_eq_getElem hi] at this
  rw [← he]; exact this
set_option maxRecDepth 100000 in
theorem bits_all : ∀ m : Nat, m ≤ 6 → ∀ i : Nat, i < m → (2 ^ m - 1) / 2 ^ i % 2 = 1 := by decide +kernel
/-- all looks together -/
theorem setT_full {s : Sands} {k : List Look} (hl : k.length ≤ 6) {w : Int} : setT s k (2 ^ k.length - 1) w = true ↔ ∀ l, l ∈ k → agT s w l = true := by
  rw [setT_iff]
  constructor
  · intro h l hm
    obtain ⟨i, hi, he⟩ := List.getElem_of_mem hm
    have := h i hi (bits_all k.length hl i hi)
    rw [List.getD_eq_getElem?_getD, List.getElem?_eq_getElem hi] at this
    rw [← he]; exact this
  · intro h i hi _
    exact h _ (mem_getD hi)
/-- what all looks leave, as a list -/
theorem left_full {s : Sands} (hG : Good s) {k : List Look} (hk : ∀ l, l ∈ k → lookOK s l) (hl : k.length ≤ 6) :
    leftL s k (2 ^ k.length - 1) (s.wind.hi - s.wind.lo + 1).toNat = (List.range ((leftG s (gatesOf s) k).hi - (leftG s (gatesOf s) k).lo + 1).toNat).map (fun i : Nat => (leftG s (gatesOf s) k).lo + (i : Int)) := by
  have hin := fold_in (s := s) k s.wind
  have e : leftG s (gatesOf s) k = k.foldl (leftStep s (gatesOf s)) s.wind := rfl
  rw [← e] at hin
  have hmem : ∀ w, s.wind.lo ≤ w → w ≤ s.wind.hi → (setT s k (2 ^ k.length - 1) w = true ↔ (leftG s (gatesOf s) k).lo ≤ w ∧ w ≤ (leftG s (gatesOf s) k).hi) := fun w h1 h2 => by
    rw [setT_full hl, left_mem hG ⟨h1, h2⟩ hk]
  generalize (leftG s (gatesOf s) k).lo = a at hin hmem
  generalize (leftG s (gatesOf s) k).hi = b at hin hmem
  have gen : ∀ m : Nat, m ≤ (s.wind.hi - s.wind.lo + 1).toNat → leftL s k (2 ^ k.length - 1) m = (List.range (min (s.wind.lo + (m : Int) - a) (b - a + 1)).toNat).map (fun i : Nat => a + (i : Int)) := by
    intro m
    induction m with
    | zero =>
      intro _
      have : (min (s.wind.lo + ((0 : Nat) : Int) - a) (b - a + 1)).toNat = 0 := by omega
      rw [this]; rfl
    | succ m ih =>
      intro hm
      rw [leftL_succ, ih (by omega)]
      have h2 := hmem (s.wind.lo + (m : Int)) (by omega) (by omega)
      by_cases h : setT s k (2 ^ k.length - 1) (s.wind.lo + (m : Int)) = true
      · rw [if_pos h]
        have h3 := h2.1 h
        have e1 : (min (s.wind.lo + ((m + 1 : Nat) : Int) - a) (b - a + 1)).toNat = (min (s.wind.lo + (m : Int) - a) (b - a + 1)).toNat + 1 := by omega
        rw [e1, List.range_succ, List.map_append]
        congr 1
        simp only [List.map_cons, List.map_nil, List.cons.injEq, and_true]
        omega
      · rw [if_neg h, List.append_nil]
        have h3 : ¬ (a ≤ s.wind.lo + (m : Int) ∧ s.wind.lo + (m : Int) ≤ b) := fun h4 => h (h2.2 h4)
        have e1 : (min (s.wind.lo + ((m + 1 : Nat) : Int) - a) (b - a + 1)).toNat = (min (s.wind.lo + (m : Int) - a) (b - a + 1)).toNat := by omega
        rw [e1]
  have hwi := hG.wind
  rw [gen _ (Nat.le_refl _)]
  congr 2
  omega
theorem shift_bits {n : Nat} (h : n ≤ 6) : IntKind.i64.wrap (1 * 2 ^ min (Int.toNat (n : Int)) IntKind.i64.bits) = ((2 ^ n : Nat) : Int) := by
  have hc : n = 0 ∨ n = 1 ∨ n = 2 ∨ n = 3 ∨ n = 4 ∨ n = 5 ∨ n = 6 := by omega
  rcases hc with h | h | h | h | h | h | h <;> subst h <;> decide +kernel
end Go.Proofs.Wk

namespace Go.Proofs.Wk
open Go Go.Gx Go.Pl
set_option linter.unusedVariables false
theorem looks_many {k : List Look} : ∃ b, ((if 15 < (k.length : Int) then (some true) else (if 6 < (k.length : Int) then (some (decide ((k.length : Int) ≤ 10))) else (some false))) : Option Bool) = some b ∧ (b = false → k.length ≤ 15 ∧ (k.length ≤ 10 → k.length ≤ 6)) := by
  by_cases h1 : 15 < (k.length : Int)
  · rw [if_pos h1]; exact ⟨_, rfl, by simp⟩
  · rw [if_neg h1]
    by_cases h2 : 6 < (k.length : Int)
    · rw [if_pos h2]
      refine ⟨_, rfl, fun h => ?_⟩
      have := of_decide_eq_false h
      exact ⟨by omega, fun h3 => by omega⟩
    · rw [if_neg h2]; exact ⟨_, rfl, fun _ => ⟨by omega, fun _ => by omega⟩⟩
theorem map_len {a : Int} {n : Nat} : ((List.range n).map (fun i : Nat => a + (i : Int))).length = n := by simp
theorem map_ix {a : Int} {n k : Nat} (h : k < n) : ix ((List.range n).map (fun i : Nat => a + (i : Int))) (k : Int) = some (a + (k : Int)) := by
  rw [ix_nat 0 (by rw [map_len]; exact h)]
  simp [List.getD_eq_getElem?_getD, h]
theorem eq_int (a : List Int) (ha : a.length ≤ 1000) : m_laurelkit_Eq_int a a = some true := by
  unfold m_laurelkit_Eq_int
  rw [equal_int a ha, Option.bind_some]
/-- TideLooks is true of all sands and looks -/
theorem looks_true (s : Sands) (k : List Look) : m_laurellaw01_TideLooks s k = some true := by
  unfold m_laurellaw01_TideLooks
  obtain ⟨b, hb, hS'⟩ := wide_ok (s := s)
  rw [hb, Option.bind_some]
  cases b with
  | true => rw [if_pos rfl, Option.bind_some, if_pos rfl, x_awake_eq, Option.bind_some]
  | false =>
    obtain ⟨hs1, hs2, hs3⟩ := hS' rfl
    have hS : Short s := ⟨by omega, by omega, by omega⟩
    rw [if_neg (by decide)]
    obtain ⟨c, hc, hC⟩ := looks_many (k := k)
    rw [hc, Option.bind_some]
    cases c with
    | true => rw [if_pos rfl, x_awake_eq, Option.bind_some]
    | false =>
      obtain ⟨hl15, hl6⟩ := hC rfl
      rw [if_neg (by decide), own_eq hS, Option.bind_some, theirs_eq hS, Option.bind_some, dup_look (by omega), Option.bind_some, seen_eq (by omega), Option.bind_some, Option.bind_some]
      dsimp only
      rw [reflooks_eq hS (by omega), Option.bind_some, x_Looks_eq hS (by omega), clash_eq hS (by omega) looked_ok]
      have fin : ∀ l : List Int, l.length ≤ 1000 → ((m_laurelkit_Eq_int l l).bind fun t113 =>
          if t113 = true then
          ((m_laurellaw01_same s s).bind fun t118 =>
          if t118 = true then
          ((m_laurelkit_Eq_tideLook k k).bind fun t123 =>
          if t123 = true then
          ((x_awake).bind fun t126 =>
          some t126) else
          (some false)) else
          (some false)) else
          (some false)) = some true := fun l hl => by
        rw [eq_int l hl, Option.bind_some, if_pos rfl, same_eq hS, Option.bind_some, if_pos rfl, equal_look k (by omega), Option.bind_some, if_pos rfl, x_awake_eq, Option.bind_some]
      by_cases he : lookedE s k = 0
      · obtain ⟨hG, hk⟩ := looked_ok he
        have hl10 := (lookedE_zero he).2.1
        have hl := hl6 hl10
        have hp := pow_bd hl
        obtain ⟨best, hbest, hB⟩ := refclash_eq hG hk hl
        have hcl := clash_best hG hk hl he hB
        have hblen : best.length ≤ 1000 := by
          rcases hB with ⟨rfl, _⟩ | ⟨b, _, _, rfl, _⟩
          · simp
          · have := mem_len (n := b); omega
        have hleft := refleft_eq hG hk (by omega) (n := 2 ^ k.length - 1) (by omega)
        rw [left_full hG hk hl] at hleft
        have hsub : subc (((2 ^ k.length : Nat)) : Int) 1 = some ((2 ^ k.length - 1 : Nat) : Int) := by
          rw [subc_eq (by omega)]
          exact congrArg some (by omega)
        have hin := fold_in (s := s) k s.wind
        have e : leftG s (gatesOf s) k = k.foldl (leftStep s (gatesOf s)) s.wind := rfl
        rw [← e] at hin
        have hlo := hG.lo
        have hhi := hG.hi
        rw [if_pos he, refgates_eq hG, Option.bind_some, if_pos (by omega), shift_bits hl, hsub, Option.bind_some, hleft, Option.bind_some, hbest, Option.bind_some, hcl]
        unfold LooksR
        rw [if_neg (show ¬ (lookedE s k ≠ 0) by rw [he]; simp), he]
        have e2 : (⟨(leftG s (gatesOf s) k).lo, (leftG s (gatesOf s) k).hi⟩ : Span) = leftG s (gatesOf s) k := rfl
        have tail : ∀ (w9 lo hi : Int) (x : Span × Int), x = (⟨lo, hi⟩, w9) → ∀ y : m_tide_Clash_1_R, y = (if best.isEmpty = true then (⟨6, []⟩ : m_tide_Clash_1_R) else ⟨0, best⟩) → ∀ u : Int, u = (if best.isEmpty = true then 6 else 0) →
            (((some x).bind fun t88 => (some y).bind fun t94 =>
            (if t88.2 = w9 then
            (if t94.r1 = u then
            (if t88.1 = (⟨lo, hi⟩ : Span) then
            ((m_laurelkit_Eq_int t94.r0 best).bind fun t113 =>
            if t113 = true then
            ((m_laurellaw01_same s s).bind fun t118 =>
            if t118 = true then
            ((m_laurelkit_Eq_tideLook k k).bind fun t123 =>
            if t123 = true then
            ((x_awake).bind fun t126 =>
            some t126) else
            (some false)) else
            (some false)) else
            (some false)) else
            (some false)) else
            (some false)) else
            (some false)).bind fun o_4 => some o_4) = some true) := fun w9 lo hi x hx y hy u hu => by
          subst hx hy hu
          rw [Option.bind_some, Option.bind_some]
          dsimp only
          rw [if_pos rfl]
          cases hbe : best.isEmpty with
          | true =>
            have hbn : best = [] := by simpa using hbe
            subst hbn
            rw [if_pos rfl, if_pos rfl]
            dsimp only
            rw [if_pos rfl, if_pos rfl, fin [] (by simp), Option.bind_some]
          | false =>
            rw [show (if false = true then (⟨6, []⟩ : m_tide_Clash_1_R) else ⟨0, best⟩) = ⟨0, best⟩ from rfl, show (if false = true then (6 : Int) else 0) = 0 from rfl]
            dsimp only
            rw [if_pos rfl, if_pos rfl, fin best hblen, Option.bind_some]
        have hu : ((if (!(!best.isEmpty)) = true then (some (⟨6, best⟩ : m_laurellaw01_TideLooks_C3)) else (some (⟨0, best⟩ : m_laurellaw01_TideLooks_C3)))) = some ⟨if best.isEmpty = true then 6 else 0, best⟩ := by
          cases best.isEmpty <;> rfl
        rw [hu, Option.bind_some, map_len]
        by_cases hemp : (leftG s (gatesOf s) k).hi < (leftG s (gatesOf s) k).lo
        · rw [if_pos (by omega), Option.bind_some, if_pos hemp]
          exact tail 7 0 0 _ rfl _ rfl _ rfl
        · rw [if_neg (by omega), if_neg hemp]
          have hn : (leftG s (gatesOf s) k).hi - (leftG s (gatesOf s) k).lo + 1 = (((leftG s (gatesOf s) k).hi - (leftG s (gatesOf s) k).lo + 1).toNat : Int) := by omega
          have hi1 : ((((leftG s (gatesOf s) k).hi - (leftG s (gatesOf s) k).lo + 1).toNat : Nat) : Int) - 1 = ((((leftG s (gatesOf s) k).hi - (leftG s (gatesOf s) k).lo).toNat : Nat) : Int) := by omega
          rw [show (0 : Int) = ((0 : Nat) : Int) from rfl, map_ix (by omega), Option.bind_some, subc_eq (by omega), Option.bind_some, hi1, map_ix (by omega), Option.bind_some, Option.bind_some]
          have h1 : (leftG s (gatesOf s) k).lo + ((0 : Nat) : Int) = (leftG s (gatesOf s) k).lo := by omega
          have h2 : (leftG s (gatesOf s) k).lo + ((((leftG s (gatesOf s) k).hi - (leftG s (gatesOf s) k).lo).toNat : Nat) : Int) = (leftG s (gatesOf s) k).hi := by omega
          dsimp only
          rw [h1, h2]
          exact tail 0 _ _ _ rfl _ rfl _ rfl
      · rw [if_neg he, Option.bind_some, Option.bind_some, Option.bind_some]
        unfold LooksR ClashR
        rw [if_pos (show lookedE s k ≠ 0 from he), if_pos (show lookedE s k ≠ 0 from he)]
        dsimp only
        rw [if_pos rfl, if_pos rfl, if_pos rfl, fin [] (by simp), Option.bind_some]
end Go.Proofs.Wk

namespace Go.Gx
open Go Go.Fw Go.RowKit
/-! ### arguments, as they come in -/
section
variable {H : Type} {enc : TypeId × Value → H} {P : Program} {w : World} {base : Nat} {sp : Nat → Bool} {held : Bool}
/-- what of this type comes in is, cell by cell, a value of this row -/
def Opens (enc : TypeId × Value → H) (P : Program) (w : World) (base : Nat) (sp : Nat → Bool) (held : Bool) {α : Type} (R : Row α) (wf : α → Prop) (t : TypeId) : Prop :=
  ∀ fuel cs x, DataW.trod enc P w base sp held fuel t cs = some x → ∃ a, cs = R.cells a ∧ wf a
def i64P (n : Int) : Prop := -9223372036854775808 ≤ n ∧ n ≤ 9223372036854775807
theorem wf_i64P {n : Int} (h : (Lit.int .i64 n).wf = true) : i64P n := by
  simp [Lit.wf, IntKind.min, IntKind.max, IntKind.signed, IntKind.bits] at h
  unfold i64P; omega
theorem opens_i64 {t : TypeId} (ht : P.underlying t = some (.int .i64)) : Opens enc P w base sp held RI i64P t := fun fuel cs x h => by
  obtain ⟨n, rfl, _, hw⟩ := DataW.trod_int ht h
  exact ⟨n, rfl, wf_i64P hw⟩
theorem opens_bool {t : TypeId} (ht : P.underlying t = some .bool) : Opens enc P w base sp held RB (fun _ => True) t := fun fuel cs x h => by
  obtain ⟨b, rfl, _⟩ := DataW.trod_bool ht h
  exact ⟨b, rfl, trivial⟩
/-- a field of a struct, by its cells -/
theorem fieldAt {fs : Array Field} {t : TypeId} {fuel : Nat} {cs : List Value} {x : DataW H × List MemPlace} (ht : P.underlying t = some (.struct fs)) (h : DataW.trod enc P w base sp held fuel t cs = some x) {α : Type} {R : Row α} {wf : α → Prop} (i : Nat) {T o k : Nat}
    (hf : (fs[i]?).map (fun fd => (fd.type, fd.offset)) = some (T, o)) (hk : P.cellsOf T = k) (hR : Opens enc P w base sp held R wf T) : ∃ a, (cs.drop o).take k = R.cells a ∧ wf a := by
  obtain ⟨xs, n, rfl, _, hlen, hxl, hx⟩ := DataW.trod_struct ht h
  obtain ⟨fd, hfd, he⟩ : ∃ fd, fs[i]? = some fd ∧ (fd.type, fd.offset) = (T, o) := by
    cases hh : fs[i]? with
    | none => simp [hh] at hf
    | some fd => exact ⟨fd, rfl, by simpa [hh] using hf⟩
  simp only [Prod.mk.injEq] at he
  obtain ⟨rfl, rfl⟩ := he
  have h1 := hx i fd hfd
  rw [hk] at h1
  have hi : i < xs.length := by rw [hxl]; exact (Array.getElem?_eq_some_iff.1 hfd).1
  rw [List.getElem?_eq_getElem hi] at h1
  exact hR _ _ _ h1
theorem structLen {fs : Array Field} {t : TypeId} {fuel : Nat} {cs : List Value} {x : DataW H × List MemPlace} (ht : P.underlying t = some (.struct fs)) (h : DataW.trod enc P w base sp held fuel t cs = some x) : cs.length = P.cellsOf t := by
  obtain ⟨xs, n, _, _, hlen, _⟩ := DataW.trod_struct ht h
  exact hlen
/-- a slice that came in -/
structure SlIn {α : Type} (R : Row α) (wf : α → Prop) (w : World) (v : Value) (A : Option Addr) (n c : Nat) (l : List α) : Prop where
  val : v = .slice A n c
  len : l.length = n
  ok : AOK n A
  le : n ≤ c
  max : c ≤ maxLen
  seg : segOK w (aB A, aO A, R.enc l)
  wf : ∀ x, x ∈ l → wf x
theorem choose_list {α : Type} {p : Nat → α → Prop} : ∀ (n : Nat), (∀ i, i < n → ∃ a, p i a) → ∃ l : List α, l.length = n ∧ ∀ i (h : i < l.length), p i l[i]
  | 0, _ => ⟨[], rfl, fun i h => by simp at h⟩
  | n + 1, h => by
    obtain ⟨l, hl, hp⟩ := choose_list n (fun i hi => h i (by omega))
    obtain ⟨a, ha⟩ := h n (by omega)
    refine ⟨l ++ [a], by simp [hl], fun i hi => ?_⟩
    by_cases hil : i < l.length
    · rw [List.getElem_append_left hil]; exact hp i hil
    · have : i = l.length := by simp at hi; omega
      subst this
      rw [List.getElem_append_right (by omega)]
      simp only [Nat.sub_self, List.getElem_cons_zero]
      rw [hl]; exact ha
theorem openSl {α : Type} {R : Row α} {wf : α → Prop} {t e : TypeId} (ht : P.underlying t = some (.slice e)) (hc : P.cellsOf e = R.sz) (hR : Opens enc P w base sp held R wf e) (h0 : Nat.blt 0 R.sz = true)
    {fuel : Nat} {cs : List Value} {x : DataW H × List MemPlace} (h : DataW.trod enc P w base sp held fuel t cs = some x) : ∃ (v : Value) (A : Option Addr) (n c : Nat) (l : List α), cs = [v] ∧ SlIn R wf w v A n c l := by
  have hsz : 0 < R.sz := by simpa using h0
  rcases Go.Deep.open_slice ht h with ⟨rfl, _⟩ | ⟨a, len, cap, m, n, D, Pl, rfl, hb, hl, hm, hmm, _, hi⟩
  · exact ⟨_, none, 0, 0, [], rfl, rfl, rfl, AOK.nil, Nat.le_refl _, Nat.zero_le _, segOK.nil, by simp⟩
  · have hlm : len ≤ m := by rw [hmm]; split <;> omega
    have hcell : ∀ i, i < len → ∃ x : α, (∀ f (hf : f < (R.cells x).length), w.cell? (a.add (i * R.sz + f)) = some (R.cells x)[f]) ∧ wf x := fun i hil => by
      obtain ⟨cs', h1, h2⟩ := hi i (by omega)
      obtain ⟨x, rfl, hw⟩ := hR _ _ _ h2
      obtain ⟨_, _, hat⟩ := World.cells?_some h1
      refine ⟨x, fun f hf => ?_, hw⟩
      have := hat f (by rw [hc, ← R.len x]; exact hf)
      rw [hc] at this
      rw [List.getElem?_eq_getElem hf] at this
      have e : (a.add (i * R.sz)).add f = a.add (i * R.sz + f) := by
        unfold Addr.add
        by_cases h1 : i * R.sz = 0
        · simp [h1]
        · by_cases h2 : f = 0
          · simp [h2]
          · simp [h1, h2, Nat.add_assoc]
      rw [e] at this
      exact this
    obtain ⟨l, hll, hlp⟩ := choose_list len hcell
    have hspot : 0 < len → a.spot = none := fun h0 => by
      obtain ⟨x, hx, _⟩ := hcell 0 h0
      have := World.cell?_spot (hx 0 (by rw [R.len]; exact hsz))
      simpa [Addr.add] using this
    refine ⟨_, some a, len, cap, l, rfl, rfl, hll, fun h0 => ?_, hl, hm, fun j hj => ?_, fun x hx => ?_⟩
    · obtain ⟨b, o, s⟩ := a
      have := hspot h0
      simp only at this
      subst this
      exact ⟨b, o, rfl⟩
    · have hj' : j < l.length * R.sz := by rw [← R.enc_len]; exact hj
      have hpos : 0 < len := by
        rcases Nat.eq_zero_or_pos len with h | h
        · rw [hll, h, Nat.zero_mul] at hj'; omega
        · exact h
      obtain ⟨b, o, s⟩ := a
      have hs := hspot hpos
      simp only at hs
      subst hs
      have hq : j / R.sz < l.length := Nat.div_lt_of_lt_mul (by rw [Nat.mul_comm]; exact hj')
      have hr : j % R.sz < R.sz := Nat.mod_lt _ hsz
      have hd : j / R.sz * R.sz + j % R.sz = j := by rw [Nat.mul_comm]; exact Nat.div_add_mod j R.sz
      have h1 := (hlp (j / R.sz) hq).1 (j % R.sz) (by rw [R.len]; exact hr)
      rw [hd] at h1
      have h2 := R.enc_get l (j / R.sz) (j % R.sz) l[j / R.sz] (List.getElem?_eq_getElem hq) hr
      rw [hd] at h2
      have h3 : (⟨b, o, none⟩ : Addr).add j = ⟨b, o + j, none⟩ := addr_add b o j
      rw [h3] at h1
      simp only [aB, aO, Option.map_some, Option.getD_some]
      rw [h1, ← List.getElem?_eq_getElem, ← h2, List.getElem?_eq_getElem hj]
    · obtain ⟨i, hi', rfl⟩ := List.getElem_of_mem hx
      exact (hlp i hi').2
theorem fieldSl {fs : Array Field} {t : TypeId} {fuel : Nat} {cs : List Value} {x : DataW H × List MemPlace} (ht : P.underlying t = some (.struct fs)) (h : DataW.trod enc P w base sp held fuel t cs = some x) {α : Type} {R : Row α} {wf : α → Prop} (i : Nat) {T o e : Nat}
    (hf : (fs[i]?).map (fun fd => (fd.type, fd.offset)) = some (T, o)) (hk : P.cellsOf T = 1) (hT : P.underlying T = some (.slice e)) (hc : P.cellsOf e = R.sz) (hR : Opens enc P w base sp held R wf e) (h0 : Nat.blt 0 R.sz = true) :
    ∃ (v : Value) (A : Option Addr) (n c : Nat) (l : List α), (cs.drop o).take 1 = [v] ∧ SlIn R wf w v A n c l := by
  obtain ⟨xs, m, rfl, _, hlen, hxl, hx⟩ := DataW.trod_struct ht h
  obtain ⟨fd, hfd, he⟩ : ∃ fd, fs[i]? = some fd ∧ (fd.type, fd.offset) = (T, o) := by
    cases hh : fs[i]? with
    | none => simp [hh] at hf
    | some fd => exact ⟨fd, rfl, by simpa [hh] using hf⟩
  simp only [Prod.mk.injEq] at he
  obtain ⟨rfl, rfl⟩ := he
  have h1 := hx i fd hfd
  rw [hk] at h1
  have hi : i < xs.length := by rw [hxl]; exact (Array.getElem?_eq_some_iff.1 hfd).1
  rw [List.getElem?_eq_getElem hi] at h1
  exact openSl hT hc hR h0 h1
theorem HV.begin {ro : List Sg} (h : ∀ s, s ∈ ro → segOK w s) : HV w (keys [] []) [] [] ro w :=
  ⟨rfl, rfl, rfl, Nat.le_refl _, fun _ _ _ => rfl, by simp [vbl], by simp [vbl], by simp [vbl], h, by simp [vbl]⟩
theorem segCons {s : Sg} {ro : List Sg} (h : segOK w s) (hr : ∀ t, t ∈ ro → segOK w t) : ∀ t, t ∈ s :: ro → segOK w t := fun t ht => by
  rcases List.mem_cons.1 ht with rfl | ht
  · exact h
  · exact hr t ht
theorem segNil : ∀ t, t ∈ ([] : List Sg) → segOK w t := fun t ht => by cases ht
theorem HV.below {w' : World} (h : HV w (keys [] []) [] [] [] w') : Below w.heap.size w w' := by
  have : Ext [] w w' := HS.toExt h
  exact this.below
end
end Go.Gx

namespace Go.Proofs.Wk
open Go Go.Fw Go.Gx Go.Pl Go.RowKit
section
variable {H : Type} {enc : TypeId × Value → H} {w : World} {base : Nat} {sp : Nat → Bool} {held : Bool}
theorem list2 {α : Type} {cs : List α} {a b : α} (hl : cs.length = 2) (h0 : (cs.drop 0).take 1 = [a]) (h1 : (cs.drop 1).take 1 = [b]) : cs = [a, b] := by
  match cs, hl with
  | [x, y], _ => simp at h0 h1; simp [h0, h1]
theorem list3 {α : Type} {cs : List α} {a b c : α} (hl : cs.length = 3) (h0 : (cs.drop 0).take 1 = [a]) (h1 : (cs.drop 1).take 1 = [b]) (h2 : (cs.drop 2).take 1 = [c]) : cs = [a, b, c] := by
  match cs, hl with
  | [x, y, z], _ => simp at h0 h1 h2; simp [h0, h1, h2]
theorem list5 {α : Type} {cs : List α} {a b c d e : α} (hl : cs.length = 5) (h0 : (cs.drop 0).take 1 = [a]) (h1 : (cs.drop 1).take 2 = [b, c]) (h2 : (cs.drop 3).take 1 = [d]) (h3 : (cs.drop 4).take 1 = [e]) : cs = [a, b, c, d, e] := by
  match cs, hl with
  | [x, y, z, u, v], _ => simp at h0 h1 h2 h3; simp [h0, h1, h2, h3]
theorem opI : Opens enc Try.prog w base sp held RI i64P 3 := opens_i64 Try.underlying3
theorem opB : Opens enc Try.prog w base sp held RB (fun _ => True) 4 := opens_bool Try.underlying4
set_option maxRecDepth 100000 in
theorem opWater : Opens enc Try.prog w base sp held RW (fun x => i64P x.min ∧ i64P x.h) 68 := fun fuel cs x h => by
  obtain ⟨a, ha, wa⟩ := fieldAt Try.underlying68 h 0 (T := 3) (o := 0) (k := 1) rfl (by kernel_rfl) opI
  obtain ⟨b, hb, wb⟩ := fieldAt Try.underlying68 h 1 (T := 3) (o := 1) (k := 1) rfl (by kernel_rfl) opI
  have hl := structLen Try.underlying68 h
  rw [show Try.prog.cellsOf 68 = 2 by kernel_rfl] at hl
  exact ⟨⟨a, b⟩, list2 hl ha hb, wa, wb⟩
set_option maxRecDepth 100000 in
theorem opSill : Opens enc Try.prog w base sp held RS (fun x => i64P x.a ∧ i64P x.b ∧ i64P x.h) 51 := fun fuel cs x h => by
  obtain ⟨a, ha, wa⟩ := fieldAt Try.underlying51 h 0 (T := 3) (o := 0) (k := 1) rfl (by kernel_rfl) opI
  obtain ⟨b, hb, wb⟩ := fieldAt Try.underlying51 h 1 (T := 3) (o := 1) (k := 1) rfl (by kernel_rfl) opI
  obtain ⟨c, hc, wc⟩ := fieldAt Try.underlying51 h 2 (T := 3) (o := 2) (k := 1) rfl (by kernel_rfl) opI
  have hl := structLen Try.underlying51 h
  rw [show Try.prog.cellsOf 51 = 3 by kernel_rfl] at hl
  exact ⟨⟨a, b, c⟩, list3 hl ha hb hc, wa, wb, wc⟩
set_option maxRecDepth 100000 in
theorem opSpan : Opens enc Try.prog w base sp held RP (fun x => i64P x.lo ∧ i64P x.hi) 25 := fun fuel cs x h => by
  obtain ⟨a, ha, wa⟩ := fieldAt Try.underlying25 h 0 (T := 3) (o := 0) (k := 1) rfl (by kernel_rfl) opI
  obtain ⟨b, hb, wb⟩ := fieldAt Try.underlying25 h 1 (T := 3) (o := 1) (k := 1) rfl (by kernel_rfl) opI
  have hl := structLen Try.underlying25 h
  rw [show Try.prog.cellsOf 25 = 2 by kernel_rfl] at hl
  exact ⟨⟨a, b⟩, list2 hl ha hb, wa, wb⟩
set_option maxRecDepth 100000 in
theorem opLook : Opens enc Try.prog w base sp held RL (fun x => i64P x.min ∧ i64P x.place) 89 := fun fuel cs x h => by
  obtain ⟨a, ha, wa⟩ := fieldAt Try.underlying89 h 0 (T := 3) (o := 0) (k := 1) rfl (by kernel_rfl) opI
  obtain ⟨b, hb, wb⟩ := fieldAt Try.underlying89 h 1 (T := 3) (o := 1) (k := 1) rfl (by kernel_rfl) opI
  obtain ⟨c, hc, _⟩ := fieldAt Try.underlying89 h 2 (T := 4) (o := 2) (k := 1) rfl (by kernel_rfl) opB
  have hl := structLen Try.underlying89 h
  rw [show Try.prog.cellsOf 89 = 3 by kernel_rfl] at hl
  exact ⟨⟨a, b, c⟩, list3 hl ha hb hc, wa, wb⟩
/-- numbers that are numbers of the machine -/
structure WfS (s : Sands) : Prop where
  t : ∀ x, x ∈ s.table → i64P x.min ∧ i64P x.h
  lo : i64P s.wind.lo
  hi : i64P s.wind.hi
  f : ∀ x, x ∈ s.floors → i64P x
  s : ∀ x, x ∈ s.sills → i64P x.a ∧ i64P x.b ∧ i64P x.h
set_option maxRecDepth 100000 in
theorem opSands {fuel : Nat} {cs : List Value} {x : DataW H × List MemPlace} (h : DataW.trod enc Try.prog w base sp held fuel 29 cs = some x) :
    ∃ (s : Sands) (A1 A2 A3 : Option Addr) (n1 c1 n2 c2 n3 c3 : Nat) (v1 v2 v3 : Value), cs = [.slice A1 n1 c1, .int .i64 s.wind.lo, .int .i64 s.wind.hi, .slice A2 n2 c2, .slice A3 n3 c3] ∧
      SlIn RW (fun x => i64P x.min ∧ i64P x.h) w v1 A1 n1 c1 s.table ∧ SlIn RI i64P w v2 A2 n2 c2 s.floors ∧ SlIn RS (fun x => i64P x.a ∧ i64P x.b ∧ i64P x.h) w v3 A3 n3 c3 s.sills ∧ WfS s := by
  obtain ⟨v1, A1, n1, c1, l1, e1, h1⟩ := fieldSl Try.underlying29 h 0 (T := 23) (o := 0) (e := 68) rfl (by kernel_rfl) Try.underlying23 (by kernel_rfl) opWater rfl
  obtain ⟨p, ep, wp⟩ := fieldAt Try.underlying29 h 1 (T := 25) (o := 1) (k := 2) rfl (by kernel_rfl) opSpan
  obtain ⟨v2, A2, n2, c2, l2, e2, h2⟩ := fieldSl Try.underlying29 h 2 (T := 26) (o := 3) (e := 3) rfl (by kernel_rfl) Try.underlying26 (by kernel_rfl) opI rfl
  obtain ⟨v3, A3, n3, c3, l3, e3, h3⟩ := fieldSl Try.underlying29 h 3 (T := 27) (o := 4) (e := 51) rfl (by kernel_rfl) Try.underlying27 (by kernel_rfl) opSill rfl
  have hl := structLen Try.underlying29 h
  rw [show Try.prog.cellsOf 29 = 5 by kernel_rfl] at hl
  have hv1 := h1.val
  have hv2 := h2.val
  have hv3 := h3.val
  subst hv1 hv2 hv3
  exact ⟨⟨l1, p, l2, l3⟩, A1, A2, A3, n1, c1, n2, c2, n3, c3, _, _, _, list5 hl e1 ep e2 e3, h1, h2, h3, h1.wf, wp.1, wp.2, h2.wf, h3.wf⟩
end
end Go.Proofs.Wk
namespace Go.Proofs.Wk
open Go Go.Gx
end Go.Proofs.Wk

