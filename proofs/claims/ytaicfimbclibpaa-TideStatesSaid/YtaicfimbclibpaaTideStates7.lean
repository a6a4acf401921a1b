/- What the functions that the law TideStates reaches come to, and why it holds: part 7. -/
import Derived.Deep.Slices
import Derived.ChangeArms
import Derived.Below
import Derived.KernelRfl
import Derived.Test.YtaicfimbclibpaaTideStates6
namespace Go.Proofs.Wk
open Go Go.Gx Go.Pl
set_option linter.unusedVariables false
theorem theirs_eq {s : Sands} (h : Short s) : m_laurellaw01_theirs s = some s := by
  have h1 := h.t
  have h2 := h.f
  have h3 := h.s
  unfold m_laurellaw01_theirs
  rw [dup_int (by omega)]
  simp only [Option.bind_some]
  have e1 : iterM FU (m_laurellaw01_theirs_L0 s) ⟨0, []⟩ = some s.table := by
    refine iterM_run (fun k => (⟨(k : Int), s.table.take k⟩ : m_laurellaw01_theirs_S0)) s.table.length (fun k hk => ?_) ?_ FU (FU_lt (by omega))
    · unfold m_laurellaw01_theirs_L0
      simp only
      rw [if_pos (by omega), ix_nat default hk, Option.bind_some, appc_eq (by simp; omega), Option.bind_some, addc_eq (by omega), Option.bind_some, take_snoc default hk]
      simp
    · unfold m_laurellaw01_theirs_L0
      simp
  have e2 : iterM FU (m_laurellaw01_theirs_L1 s) ⟨0, []⟩ = some s.sills := by
    refine iterM_run (fun k => (⟨(k : Int), s.sills.take k⟩ : m_laurellaw01_theirs_S1)) s.sills.length (fun k hk => ?_) ?_ FU (FU_lt (by omega))
    · unfold m_laurellaw01_theirs_L1
      simp only
      rw [if_pos (by omega), ix_nat default hk, Option.bind_some, appc_eq (by simp; omega), Option.bind_some, addc_eq (by omega), Option.bind_some, take_snoc default hk]
      simp
    · unfold m_laurellaw01_theirs_L1
      simp
  rw [e1, e2]
  rfl
/-! ### comparisons -/
theorem equal_water (a : List Water) (ha : a.length ≤ 1000) : m_slices_Equal_tideWatertideWater a a = some true := by
  unfold m_slices_Equal_tideWatertideWater
  rw [if_pos rfl, iterM_any0 a.length (fun _ => false) false (fun k hk => ?_) (by unfold m_slices_Equal_tideWatertideWater_L0; simp) (FU_lt (by omega))]
  · simp
  · unfold m_slices_Equal_tideWatertideWater_L0
    rw [if_pos (by omega), ix_nat default hk, Option.bind_some, Option.bind_some, if_pos rfl, addc_eq (by omega)]
    simp
theorem equal_int (a : List Int) (ha : a.length ≤ 1000) : m_slices_Equal_intint a a = some true := by
  unfold m_slices_Equal_intint
  rw [if_pos rfl, iterM_any0 a.length (fun _ => false) false (fun k hk => ?_) (by unfold m_slices_Equal_intint_L0; simp) (FU_lt (by omega))]
  · simp
  · unfold m_slices_Equal_intint_L0
    rw [if_pos (by omega), ix_nat default hk, Option.bind_some, Option.bind_some, if_pos rfl, addc_eq (by omega)]
    simp
theorem equal_sill (a : List Sill) (ha : a.length ≤ 1000) : m_slices_Equal_tideSilltideSill a a = some true := by
  unfold m_slices_Equal_tideSilltideSill
  rw [if_pos rfl, iterM_any0 a.length (fun _ => false) false (fun k hk => ?_) (by unfold m_slices_Equal_tideSilltideSill_L0; simp) (FU_lt (by omega))]
  · simp
  · unfold m_slices_Equal_tideSilltideSill_L0
    rw [if_pos (by omega), ix_nat default hk, Option.bind_some, Option.bind_some, if_pos rfl, addc_eq (by omega)]
    simp
theorem same_eq {s : Sands} (h : Short s) : m_laurellaw01_same s s = some true := by
  have h1 := h.t
  have h2 := h.f
  have h3 := h.s
  unfold m_laurellaw01_same m_laurelkit_Eq_tideWater m_laurelkit_Eq_int m_laurelkit_Eq_tideSill
  rw [equal_water _ (by omega), equal_int _ (by omega), equal_sill _ (by omega)]
  simp
/-! ### the reference's errors -/
theorem off_eq {n lo hi : Int} : m_laurelref01_off n lo hi = some (!inr n lo hi) := by
  unfold m_laurelref01_off inr
  by_cases h : n < lo
  · have h2 : decide (lo ≤ n) = false := decide_eq_false (by omega)
    simp [h, h2]
  · have h2 : decide (lo ≤ n) = true := decide_eq_true (by omega)
    have h3 : (!decide (n ≤ hi)) = decide (hi < n) := by
      by_cases h4 : n ≤ hi
      · simp [h4]
      · have h5 : hi < n := by omega
        simp [h4, h5]
    simp [h, h2, h3]
theorem or_some {a b : Bool} : ((if a = true then some true else some b) : Option Bool) = some (a || b) := by cases a <;> rfl
theorem ite_bool {α : Type} {b : Bool} {x y : α} : (if b = true then some x else some y) = some (if b = true then x else y) := by cases b <;> rfl
theorem ite_dec {α : Type} {p : Prop} [Decidable p] {x y : α} : (if p then some x else some y) = some (if decide p = true then x else y) := by by_cases h : p <;> simp [h]
theorem check_L0 {s : Sands} (h : Short s) : iterM FU (m_laurelref01_Check_L0 s) 0 = some (if s.table.all bigW then .inl () else .inr 3) := by
  have h1 := h.t
  rw [iterM_any0 s.table.length (fun k => !bigW (s.table.getD k default)) 3 (fun k hk => ?_) (by unfold m_laurelref01_Check_L0; simp) (FU_lt (by omega))]
  · rw [any_range (p := fun x => !bigW x) (d := default)]
    have := all_not_any (p := fun x => bigW x) (l := s.table)
    cases h2 : s.table.any (fun x => !bigW x) <;> simp_all
  · unfold m_laurelref01_Check_L0
    rw [if_pos (by omega), ix_nat default hk]
    simp only [Option.bind_some, off_eq, or_some]
    rw [addc_eq (by omega)]
    simp only [Option.bind_some, bigW, Bool.not_and, ite_bool]
theorem check_L1 {s : Sands} (h : Short s) : iterM FU (m_laurelref01_Check_L1 s) 0 = some (if s.floors.all hgt then .inl () else .inr 3) := by
  have h1 := h.f
  rw [iterM_any0 s.floors.length (fun k => !hgt (s.floors.getD k default)) 3 (fun k hk => ?_) (by unfold m_laurelref01_Check_L1; simp) (FU_lt (by omega))]
  · rw [any_range (p := fun x => !hgt x) (d := default)]
    have := all_not_any (p := fun x => hgt x) (l := s.floors)
    cases h2 : s.floors.any (fun x => !hgt x) <;> simp_all
  · unfold m_laurelref01_Check_L1
    rw [if_pos (by omega), ix_nat default hk]
    simp only [Option.bind_some, off_eq]
    rw [addc_eq (by omega)]
    simp only [Option.bind_some, hgt, ite_bool]
    rfl
theorem check_L2 {s : Sands} (h : Short s) : iterM FU (m_laurelref01_Check_L2 s) 0 = some (if s.sills.all (fun x => hgt x.h) then .inl () else .inr 3) := by
  have h1 := h.s
  rw [iterM_any0 s.sills.length (fun k => !hgt (s.sills.getD k default).h) 3 (fun k hk => ?_) (by unfold m_laurelref01_Check_L2; simp) (FU_lt (by omega))]
  · rw [any_range (p := fun x : Sill => !hgt x.h) (d := default)]
    have := all_not_any (p := fun x : Sill => hgt x.h) (l := s.sills)
    cases h2 : s.sills.any (fun x => !hgt x.h) <;> simp_all
  · unfold m_laurelref01_Check_L2
    rw [if_pos (by omega), ix_nat default hk]
    simp only [Option.bind_some, off_eq]
    rw [addc_eq (by omega)]
    simp only [Option.bind_some, hgt, ite_bool]
    rfl
theorem check_L3 {s : Sands} (h : Short s) : iterM FU (m_laurelref01_Check_L3 s) 1 = some (if (List.range (s.table.length - 1)).all (fun i => decide ((s.table.getD i default).min < (s.table.getD (i + 1) default).min)) then .inl () else .inr 4) ∨ s.table.length = 0 := by
  have h1 := h.t
  by_cases h0 : s.table.length = 0
  · exact .inr h0
  left
  have := iterM_any (f := m_laurelref01_Check_L3 s) 1 (s.table.length - 1) (fun k => decide ((s.table.getD (k + 1) default).min ≤ (s.table.getD k default).min)) (fun _ => 4) (fun k hk => ?_) (by unfold m_laurelref01_Check_L3; rw [if_neg (by omega)]) (N := FU) (FU_lt (by omega))
  · rw [this]
    cases hf : (List.range (s.table.length - 1)).find? (fun k => decide ((s.table.getD (k + 1) default).min ≤ (s.table.getD k default).min)) with
    | none =>
      have h2 : (List.range (s.table.length - 1)).all (fun i => decide ((s.table.getD i default).min < (s.table.getD (i + 1) default).min)) = true := by
        rw [List.all_eq_true]
        intro x hx
        have := List.find?_eq_none.1 hf x hx
        simp only [decide_eq_true_eq] at this ⊢
        omega
      rw [h2]; rfl
    | some k =>
      have h3 := List.find?_some hf
      have h4 := List.mem_of_find?_eq_some hf
      have h2 : (List.range (s.table.length - 1)).all (fun i => decide ((s.table.getD i default).min < (s.table.getD (i + 1) default).min)) = false := by
        rw [List.all_eq_false]
        refine ⟨k, h4, ?_⟩
        simp only [decide_eq_true_eq] at h3 ⊢
        omega
      rw [h2]; rfl
  · unfold m_laurelref01_Check_L3
    rw [if_pos (by omega), show (1 : Int) + (k : Int) = ((k + 1 : Nat) : Int) by omega, ix_nat default (by omega), subc_eq (by omega)]
    simp only [Option.bind_some]
    rw [show ((k + 1 : Nat) : Int) - 1 = (k : Int) by omega, ix_nat default (by omega), addc_eq (by omega)]
    simp only [Option.bind_some]
    rw [ite_dec, show ((k + 1 : Nat) : Int) + 1 = (1 : Int) + (k : Int) + 1 by omega]
theorem check_L4 {s : Sands} (h : Short s) : iterM FU (m_laurelref01_Check_L4 s) 0 = some (if s.sills.all (fun x => inr x.a (-1) ((s.floors.length : Int) - 1) && inr x.b (-1) ((s.floors.length : Int) - 1)) then .inl () else .inr 1) := by
  have h1 := h.s
  have h2 := h.f
  rw [iterM_any0 s.sills.length (fun k => !((fun x : Sill => inr x.a (-1) ((s.floors.length : Int) - 1) && inr x.b (-1) ((s.floors.length : Int) - 1)) (s.sills.getD k default))) 1 (fun k hk => ?_) (by unfold m_laurelref01_Check_L4; simp) (FU_lt (by omega))]
  · rw [any_range (p := fun x : Sill => !((fun x : Sill => inr x.a (-1) ((s.floors.length : Int) - 1) && inr x.b (-1) ((s.floors.length : Int) - 1)) x)) (d := default)]
    have := all_not_any (p := fun x : Sill => inr x.a (-1) ((s.floors.length : Int) - 1) && inr x.b (-1) ((s.floors.length : Int) - 1)) (l := s.sills)
    rw [← this]
    generalize s.sills.any _ = b
    cases b <;> rfl
  · unfold m_laurelref01_Check_L4
    rw [if_pos (by omega), ix_nat default hk, subc_eq (by omega)]
    simp only [Option.bind_some, off_eq, or_some]
    rw [addc_eq (by omega)]
    simp only [Option.bind_some, Bool.not_and, ite_bool]
theorem check_L5 {s : Sands} (h : Short s) : iterM FU (m_laurelref01_Check_L5 s) 0 = some (if s.sills.all (fun x => !decide (x.a = x.b)) then .inl () else .inr 8) := by
  have h1 := h.s
  rw [iterM_any0 s.sills.length (fun k => !((fun x : Sill => !decide (x.a = x.b)) (s.sills.getD k default))) 8 (fun k hk => ?_) (by unfold m_laurelref01_Check_L5; simp) (FU_lt (by omega))]
  · rw [any_range (p := fun x : Sill => !((fun x : Sill => !decide (x.a = x.b)) x)) (d := default)]
    have := all_not_any (p := fun x : Sill => !decide (x.a = x.b)) (l := s.sills)
    rw [← this]
    generalize s.sills.any _ = b
    cases b <;> rfl
  · unfold m_laurelref01_Check_L5
    rw [if_pos (by omega), ix_nat default hk, addc_eq (by omega)]
    simp only [Option.bind_some]
    rw [ite_dec, Bool.not_not]
theorem isEnd_inr {s : Sands} {p : Int} : isEnd s p = inr p (-1) ((s.floors.length : Int) - 1) ∨ s.floors.length = 0 := by
  by_cases h0 : s.floors.length = 0
  · exact .inr h0
  left
  rw [Bool.eq_iff_iff, isEnd_iff, inr_iff]
  omega
theorem refcheck_eq {s : Sands} (h : Short s) : m_laurelref01_Check s = some (check s) := by
  unfold m_laurelref01_Check check
  simp only [off_eq, Option.bind_some, or_some]
  cases h1 : (!inr (s.table.length : Int) 2 12 || (!inr (s.floors.length : Int) 1 8 || decide (16 < (s.sills.length : Int)))) with
  | true => simp only [Bool.or_assoc, h1, if_true]
  | false =>
    simp only [Bool.or_assoc, h1, Bool.false_eq_true, if_false]
    simp only [Bool.or_eq_false_iff, Bool.not_eq_false', inr_iff] at h1
    rw [check_L0 h]
    cases h2 : s.table.all bigW with
    | false => simp
    | true =>
      simp only [if_true, Option.bind_some, oc_inl, Bool.not_true, Bool.false_eq_true, if_false]
      rw [check_L1 h, check_L2 h]
      cases h3 : (!inr s.wind.lo (-50) 50 || !inr s.wind.hi (-50) 50) with
      | true => simp [← Bool.or_assoc, h3]
      | false =>
        simp only [Bool.false_eq_true, if_false, ← Bool.or_assoc, h3, Bool.false_or]
        cases h4 : s.floors.all hgt with
        | false => simp
        | true =>
          simp only [if_true, Option.bind_some, oc_inl, Bool.not_true, Bool.false_eq_true, if_false]
          cases h5 : s.sills.all (fun x => hgt x.h) with
          | false => simp
          | true =>
            simp only [if_true, Option.bind_some, oc_inl, Bool.not_true, Bool.false_eq_true, if_false]
            rcases check_L3 h with h6 | h6
            · rw [h6]
              unfold ordered
              cases h7 : (List.range (s.table.length - 1)).all (fun i => decide ((s.table.getD i default).min < (s.table.getD (i + 1) default).min)) with
              | false => simp
              | true =>
                simp only [if_true, Option.bind_some, oc_inl, Bool.true_and]
                by_cases h8 : s.wind.hi < s.wind.lo
                · have h9 : decide (s.wind.lo ≤ s.wind.hi) = false := decide_eq_false (by omega)
                  rw [if_pos h8]; simp [h9]
                · have h9 : decide (s.wind.lo ≤ s.wind.hi) = true := decide_eq_true (by omega)
                  rw [if_neg h8, h9]
                  simp only [Bool.not_true, Bool.false_eq_true, if_false]
                  rw [check_L4 h, check_L5 h]
                  have hend : (fun x : Sill => isEnd s x.a && isEnd s x.b) = (fun x : Sill => inr x.a (-1) ((s.floors.length : Int) - 1) && inr x.b (-1) ((s.floors.length : Int) - 1)) := by
                    funext x
                    rcases isEnd_inr (s := s) (p := x.a) with e1 | e1
                    · rcases isEnd_inr (s := s) (p := x.b) with e2 | e2
                      · rw [e1, e2]
                      · omega
                    · omega
                  rw [hend]
                  cases s.sills.all (fun x : Sill => inr x.a (-1) ((s.floors.length : Int) - 1) && inr x.b (-1) ((s.floors.length : Int) - 1)) with
                  | false => simp
                  | true =>
                    cases s.sills.all (fun x => !decide (x.a = x.b)) <;> simp
            · omega
end Go.Proofs.Wk

namespace Go.Proofs.Wk
open Go Go.Gx Go.Pl
set_option linter.unusedVariables false
theorem reffirst_eq {s : Sands} (h : 0 < s.table.length) : m_laurelref01_First s = some (firstM s) := by
  unfold m_laurelref01_First
  rw [show (0 : Int) = ((0 : Nat) : Int) from rfl, ix_nat default h]
  rfl
theorem reflast_eq {s : Sands} (hs : Short s) (h : 0 < s.table.length) : m_laurelref01_Last s = some (lastM s) := by
  have h1 := hs.t
  unfold m_laurelref01_Last
  rw [subc_eq (by omega), Option.bind_some, show (s.table.length : Int) - 1 = ((s.table.length - 1 : Nat) : Int) by omega, ix_nat default (by omega)]
  rfl
theorem minute_eq {s : Sands} (hs : Short s) (h : 0 < s.table.length) {m : Int} : m_laurelref01_Minute s m = some (if dayF s m = true then 0 else 3) := by
  unfold m_laurelref01_Minute
  rw [reffirst_eq h, reflast_eq hs h]
  simp only [Option.bind_some, off_eq]
  have : dayF s m = inr m (firstM s) (lastM s) := rfl
  rw [this]
  cases inr m (firstM s) (lastM s) <;> rfl
/-- the line, rounded down -/
theorem line_floor {a b : Water} {m : Int} (hab : a.min < m ∧ m < b.min) (ha : 0 ≤ a.h ∧ a.h ≤ 999) (hb : 0 ≤ b.h ∧ b.h ≤ 999) : lineAt a b m = a.h + (b.h - a.h) * (m - a.min) / (b.min - a.min) := by
  unfold lineAt
  have hn : 0 < b.min - a.min := by omega
  have h1 : (-999) * (m - a.min) ≤ (b.h - a.h) * (m - a.min) := Int.mul_le_mul_of_nonneg_right (by omega) (by omega)
  have h2 : 0 ≤ a.h * (b.min - a.min) := Int.mul_nonneg ha.1 (by omega)
  rw [Int.tdiv_eq_ediv_of_nonneg (by omega)]
  have h3 : a.h * (b.min - a.min) + (b.h - a.h) * (m - a.min) + 1000 * (b.min - a.min) = (b.h - a.h) * (m - a.min) + (a.h + 1000) * (b.min - a.min) := by
    rw [Int.add_mul]; omega
  rw [h3, Int.add_mul_ediv_right _ _ (by omega)]
  omega
theorem refheight_L2 {a b : Water} {m : Int} (hab : a.min < m ∧ m < b.min) (hm : 0 ≤ a.min ∧ b.min ≤ 1440) (ha : 0 ≤ a.h ∧ a.h ≤ 999) (hb : 0 ≤ b.h ∧ b.h ≤ 999) : iterM FU (m_laurelref01_Height_L2 ⟨a, b⟩ m) (min a.h b.h) = some (lineAt a b m) := by
  have hl := line_tight hab ha hb
  have hf := line_floor hab ha hb
  generalize hN : b.min - a.min = N at *
  generalize hT : m - a.min = t at *
  have ht : 0 < t ∧ t < N := by omega
  have hNN : N ≤ 1440 := by omega
  have hr1 : (b.h - a.h) * t ≤ 999 * 1440 := Int.le_trans (Int.mul_le_mul_of_nonneg_right (show b.h - a.h ≤ 999 by omega) (by omega)) (Int.mul_le_mul_of_nonneg_left (by omega) (by omega))
  have hr2 : -(999 * 1440) ≤ (b.h - a.h) * t := by
    have h1 : (-999) * t ≤ (b.h - a.h) * t := Int.mul_le_mul_of_nonneg_right (by omega) (by omega)
    omega
  generalize hr : (b.h - a.h) * t = r at *
  have hd := Int.mul_ediv_add_emod r N
  have hd1 := Int.emod_nonneg r (show N ≠ 0 by omega)
  have hd2 := Int.emod_lt_of_pos r (show 0 < N by omega)
  obtain ⟨o, h1, h2⟩ := iterM_inv (f := m_laurelref01_Height_L2 ⟨a, b⟩ m) (fun n => 0 ≤ n ∧ n ≤ 999 ∧ (n - a.h) * N ≤ r) (fun n => (1000 - n).toNat) (fun o => o = lineAt a b m) (fun n hn => by
    obtain ⟨hn0, hn1, hn2⟩ := hn
    have hb1 : (n + 1 - a.h) * N ≤ 1000 * 1440 := Int.le_trans (Int.mul_le_mul_of_nonneg_right (show n + 1 - a.h ≤ 1000 by omega) (by omega)) (Int.mul_le_mul_of_nonneg_left (by omega) (by omega))
    have hb2 : (-1000) * 1440 ≤ (n + 1 - a.h) * N := by
      have h1 : (-1000) * N ≤ (n + 1 - a.h) * N := Int.mul_le_mul_of_nonneg_right (by omega) (by omega)
      omega
    have e1 : addc n 1 = some (n + 1) := addc_eq (by omega)
    have e2 : subc (n + 1) a.h = some (n + 1 - a.h) := subc_eq (by omega)
    have e3 : subc b.min a.min = some N := by rw [subc_eq (by omega), hN]
    have e4 : mulc (n + 1 - a.h) N = some ((n + 1 - a.h) * N) := mulc_eq (by omega)
    have e5 : subc b.h a.h = some (b.h - a.h) := subc_eq (by omega)
    have e6 : subc m a.min = some t := by rw [subc_eq (by omega), hT]
    have e7 : mulc (b.h - a.h) t = some r := by rw [mulc_eq (by rw [hr]; omega), hr]
    unfold m_laurelref01_Height_L2
    simp only [e1, e2, e3, e4, e5, e6, e7, Option.bind_some]
    by_cases hc : (n + 1 - a.h) * N ≤ r
    · left
      rw [if_pos hc]
      refine ⟨n + 1, rfl, ⟨by omega, ?_, hc⟩, by omega⟩
      -- n + 1 is not above the line
      have h3 : n + 1 - a.h ≤ r / N := (Int.le_ediv_iff_mul_le (by omega)).2 hc
      omega
    · right
      rw [if_neg hc]
      refine ⟨n, rfl, ?_⟩
      have h3 : n - a.h ≤ r / N := (Int.le_ediv_iff_mul_le (by omega)).2 hn2
      have h4 : r / N < n + 1 - a.h := (Int.ediv_lt_iff_lt_mul (by omega)).2 (by omega)
      omega) FU (min a.h b.h) (FU_lt (by omega)) ⟨by omega, by omega, by
        by_cases hab2 : a.h ≤ b.h
        · rw [Int.min_eq_left hab2]
          have : 0 ≤ (b.h - a.h) * t := Int.mul_nonneg (by omega) (by omega)
          rw [show a.h - a.h = 0 by omega, Int.zero_mul]
          omega
        · rw [Int.min_eq_right (by omega)]
          have h5 : (a.h - b.h) * t ≤ (a.h - b.h) * N := Int.mul_le_mul_of_nonneg_left (by omega) (by omega)
          have h6 : (b.h - a.h) * t = -((a.h - b.h) * t) := by rw [← Int.neg_mul]; congr 1; omega
          have h7 : (b.h - a.h) * N = -((a.h - b.h) * N) := by rw [← Int.neg_mul]; congr 1; omega
          omega⟩
  rw [h1, h2]
theorem refheight_eq {s : Sands} (hG : Good s) {m : Int} (hd : dayF s m = true) : m_laurelref01_Height s m = some (heightF s m) := by
  have hs := Good.short hG
  have h1 := hs.t
  have htl := hG.tl
  obtain ⟨j, ej, hj, hm, hl, hj0⟩ := day_idx hG hd
  have mono := fun {i k : Nat} (hik : i < k) (hk : k < s.table.length) => min_mono hG hik hk
  unfold m_laurelref01_Height
  have hL0 := iterM_any (f := m_laurelref01_Height_L0 s m) 0 s.table.length (fun k => decide ((s.table.getD k default).min = m)) (fun k => (s.table.getD k default).h) (fun k hk => by
    unfold m_laurelref01_Height_L0
    rw [Int.zero_add, if_pos (by omega), ix_nat default hk]
    simp only [Option.bind_some]
    rw [addc_eq (by omega)]
    simp only [Option.bind_some]
    rw [ite_dec]) (by unfold m_laurelref01_Height_L0; rw [if_neg (by omega)]) (N := FU) (FU_lt (by omega))
  rw [hL0]
  by_cases he : (s.table.getD j default).min = m
  · -- a minute of the table
    have hf : (List.range s.table.length).find? (fun k => decide ((s.table.getD k default).min = m)) = some j := by
      rw [List.find?_range_eq_some]
      refine ⟨by simpa using he, by simpa using hj, fun i hi => ?_⟩
      have := hl i hi
      simp only [Bool.not_eq_true', decide_eq_false_iff_not]
      omega
    rw [hf]
    simp only [Option.bind_some, oc_inr]
    rw [height_eq hj hl he]
  · have hj1 : j ≠ 0 := fun h => he (hj0 h)
    have hf : (List.range s.table.length).find? (fun k => decide ((s.table.getD k default).min = m)) = none := by
      rw [List.find?_eq_none]
      intro k hk
      have hk' : k < s.table.length := by simpa using hk
      simp only [decide_eq_true_eq]
      by_cases hkj : k < j
      · have := hl k hkj; omega
      · by_cases hkj2 : k = j
        · subst hkj2; exact he
        · have := mono (show j < k by omega) hk'; omega
    rw [hf]
    simp only [Option.bind_some, oc_inl]
    have h2 := hl (j - 1) (by omega)
    have ha := hG.tab (j - 1) (by omega)
    have hb := hG.tab j hj
    have hL1 : iterM FU (m_laurelref01_Height_L1 s m) 0 = some ((j - 1 : Nat) : Int) := by
      refine iterM_run (fun k => (k : Int)) (j - 1) (fun k hk => ?_) ?_ FU (FU_lt (by omega))
      · unfold m_laurelref01_Height_L1
        rw [addc_eq (by omega), Option.bind_some, show (k : Int) + 1 = ((k + 1 : Nat) : Int) by omega, ix_nat default (by omega), Option.bind_some, if_pos (hl (k + 1) (by omega)), Option.bind_some]
      · unfold m_laurelref01_Height_L1
        rw [addc_eq (by omega), Option.bind_some, show ((j - 1 : Nat) : Int) + 1 = ((j : Nat) : Int) by omega, ix_nat default hj, Option.bind_some, if_neg (by omega)]
    rw [hL1]
    simp only [Option.bind_some]
    rw [ix_nat default (by omega), addc_eq (by omega)]
    simp only [Option.bind_some]
    rw [show ((j - 1 : Nat) : Int) + 1 = ((j : Nat) : Int) by omega, ix_nat default hj]
    simp only [Option.bind_some]
    rw [refheight_L2 ⟨h2, by omega⟩ ⟨by omega, by omega⟩ ha.2 hb.2, height_line hG hj hl (by omega) hj1]
    rfl
end Go.Proofs.Wk

namespace Go.Proofs.Wk
open Go Go.Gx Go.Pl
set_option linter.unusedVariables false
/-! ### the reference's states and spans -/
theorem refstate_eq {s : Sands} (hw : -50 ≤ s.wind.lo ∧ s.wind.lo ≤ s.wind.hi ∧ s.wind.hi ≤ 50) {h g : Int} (hh : 0 ≤ h ∧ h ≤ 999) (hg : 0 ≤ g ∧ g ≤ 5000) :
    m_laurelref01_State s h g = some (if h + s.wind.hi ≤ g then 0 else if g < h + s.wind.lo then 2 else 1) := by
  unfold m_laurelref01_State
  obtain ⟨b, hb, hQ⟩ := iterM_inv (f := m_laurelref01_State_L0 s h g) (fun x => (s.wind.lo ≤ x.w9 ∧ x.w9 ≤ s.wind.hi + 1) ∧ x.dry7 = max 0 (min (x.w9 - 1) (g - h) - s.wind.lo + 1) ∧ x.wet8 = x.w9 - s.wind.lo - x.dry7) (fun x => (s.wind.hi + 1 - x.w9).toNat) (fun b => b.dry7 = max 0 (min s.wind.hi (g - h) - s.wind.lo + 1) ∧ b.wet8 = s.wind.hi + 1 - s.wind.lo - b.dry7)
    (fun x hx => by
      obtain ⟨d, t, w⟩ := x
      simp only at hx
      obtain ⟨hw9, hd, ht⟩ := hx
      unfold m_laurelref01_State_L0
      dsimp only
      by_cases hlt : w ≤ s.wind.hi
      · left
        rw [if_pos hlt, addc_eq (by omega), Option.bind_some]
        by_cases hgt : g < h + w
        · rw [if_pos hgt, addc_eq (by omega), Option.bind_some, Option.bind_some, addc_eq (by omega), Option.bind_some]
          exact ⟨_, rfl, ⟨by simp only; omega, by simp only; omega, by simp only; omega⟩, by simp only; omega⟩
        · rw [if_neg hgt, addc_eq (by omega), Option.bind_some, Option.bind_some, addc_eq (by omega), Option.bind_some]
          exact ⟨_, rfl, ⟨by simp only; omega, by simp only; omega, by simp only; omega⟩, by simp only; omega⟩
      · right
        rw [if_neg hlt]
        refine ⟨_, rfl, ?_, ?_⟩
        · simp only; rw [hd]; congr 1; omega
        · simp only; omega) FU ⟨0, 0, s.wind.lo⟩ (FU_lt (by simp only; omega)) ⟨by simp only; omega, by simp only; omega, by simp only; omega⟩
  rw [hb, Option.bind_some]
  obtain ⟨h1, h2⟩ := hQ
  by_cases hdry : h + s.wind.hi ≤ g
  · rw [if_pos (by omega), if_pos hdry]
  · rw [if_neg (by omega), if_neg hdry]
    by_cases hwet : g < h + s.wind.lo
    · rw [if_pos (by omega), if_pos hwet]
    · rw [if_neg (by omega), if_neg hwet]
theorem refstate_gate {s : Sands} (hG : Good s) {m g : Int} (hd : dayF s m = true) (hg : 0 ≤ g ∧ g ≤ 1000) : m_laurelref01_State s (heightF s m) (refGate g) = some (stateG s g m) := by
  have hlo := hG.lo
  have hhi := hG.hi
  have hw := hG.wind
  have hh := height_tight hG hd
  have hr : 0 ≤ refGate g ∧ refGate g ≤ 5000 := by unfold refGate; split <;> omega
  rw [refstate_eq ⟨hlo.1, hw, hhi.2⟩ hh hr]
  congr 1
  unfold refGate stateG levelF
  simp only
  by_cases h : g = 1000
  · rw [if_pos h, if_pos (by omega), if_pos (.inl h)]
  · rw [if_neg h]
    by_cases h2 : heightF s m + s.wind.hi ≤ g
    · rw [if_pos h2, if_pos (.inr h2)]
    · rw [if_neg h2, if_neg (show ¬ (g = 1000 ∨ heightF s m + s.wind.hi ≤ g) by omega)]
/-- a list over the day's minutes -/
def dayL {α : Type} (s : Sands) (f : Int → α) (k : Nat) : List α := (List.range k).map (fun i : Nat => f (firstM s + (i : Int)))
theorem dayL_len {α : Type} {s : Sands} {f : Int → α} {k : Nat} : (dayL s f k).length = k := by simp [dayL]
theorem dayL_succ {α : Type} {s : Sands} {f : Int → α} {k : Nat} : dayL s f (k + 1) = dayL s f k ++ [f (firstM s + (k : Int))] := by simp [dayL, List.range_succ]
theorem dayL_ix {α : Type} {s : Sands} {f : Int → α} {k : Nat} {i : Int} (h0 : 0 ≤ i) (h1 : i < k) : ix (dayL s f k) i = some (f (firstM s + i)) := by
  rw [ix_eq (f (firstM s)) h0 (by rw [dayL_len]; exact h1)]
  congr 1
  have hlt : i.toNat < k := by omega
  simp [dayL, List.getD_eq_getElem?_getD, hlt]
  congr 1
  omega
theorem dayN_eq {s : Sands} (hG : Good s) : ((dayN s : Nat) : Int) = lastM s - firstM s + 1 := by
  have := day_span hG
  unfold dayN; omega
theorem refheights_eq {s : Sands} (hG : Good s) : m_laurelref01_Heights s = some (dayL s (heightF s) (dayN s)) := by
  have htl := hG.tl
  have hds := day_span hG
  have hn := dayN_eq hG
  unfold m_laurelref01_Heights
  rw [reffirst_eq (by omega), Option.bind_some]
  have key : iterM FU (m_laurelref01_Heights_L0 s) ⟨firstM s, []⟩ = some (dayL s (heightF s) (dayN s)) := by
    have hz : (⟨firstM s, []⟩ : m_laurelref01_Heights_S0) = (fun k : Nat => (⟨firstM s + (k : Int), dayL s (heightF s) k⟩ : m_laurelref01_Heights_S0)) 0 := by simp [dayL]
    rw [hz]
    refine iterM_run (fun k : Nat => (⟨firstM s + (k : Int), dayL s (heightF s) k⟩ : m_laurelref01_Heights_S0)) (dayN s) (fun k hk => ?_) ?_ FU (FU_lt (by omega))
    · unfold m_laurelref01_Heights_L0
      dsimp only
      rw [reflast_eq (Good.short hG) (by omega), Option.bind_some, if_pos (by omega), refheight_eq hG (by simp only [dayF, inr_iff]; omega), Option.bind_some, appc_eq (by rw [dayL_len, List.length_singleton]; omega), Option.bind_some, addc_eq (by omega), Option.bind_some, dayL_succ]
      exact congrArg (fun z => some (Sum.inl (⟨z, _⟩ : m_laurelref01_Heights_S0))) (by omega)
    · unfold m_laurelref01_Heights_L0
      dsimp only
      rw [reflast_eq (Good.short hG) (by omega), Option.bind_some, if_neg (by omega)]
  rw [key, Option.bind_some]
theorem refsays_eq {s : Sands} (hG : Good s) {p st : Int} (hp : isPlace s p = true) : m_laurelref01_Says s (refGate ((gatesOf s).getD p.toNat 0)) st = some (dayL s (isState s p st) (dayN s)) := by
  have htl := hG.tl
  have hds := day_span hG
  have hn := dayN_eq hG
  have hgo := gates_ok (s := s)
  unfold m_laurelref01_Says
  rw [refheights_eq hG, Option.bind_some]
  have key : iterM FU (m_laurelref01_Says_L0 (dayL s (heightF s) (dayN s)) s (refGate ((gatesOf s).getD p.toNat 0)) st) ⟨0, []⟩ = some (dayL s (isState s p st) (dayN s)) := by
    have hz : (⟨0, []⟩ : m_laurelref01_Says_S0) = (fun k : Nat => (⟨(k : Int), dayL s (isState s p st) k⟩ : m_laurelref01_Says_S0)) 0 := by simp [dayL]
    rw [hz]
    refine iterM_run (fun k : Nat => (⟨(k : Int), dayL s (isState s p st) k⟩ : m_laurelref01_Says_S0)) (dayN s) (fun k hk => ?_) ?_ FU (FU_lt (by omega))
    · unfold m_laurelref01_Says_L0
      dsimp only
      rw [dayL_len, if_pos (by omega), dayL_ix (by omega) (by omega), Option.bind_some, refstate_gate hG (by simp only [dayF, inr_iff]; omega) ⟨hgo.lo _, hgo.hi _⟩, Option.bind_some, appc_eq (by rw [dayL_len, List.length_singleton]; omega), Option.bind_some, addc_eq (by omega), Option.bind_some, dayL_succ]
      rfl
    · unfold m_laurelref01_Says_L0
      dsimp only
      rw [dayL_len, if_neg (by omega)]
  rw [key, Option.bind_some]
/-- the longest run around a minute -/
structure RunOf (s : Sands) (p : Int → Bool) (m : Int) (y : Span) : Prop where
  lo : firstM s ≤ y.lo ∧ y.lo ≤ m
  hi : m ≤ y.hi ∧ y.hi ≤ lastM s
  al : ∀ i, y.lo ≤ i → i ≤ y.hi → p i = true
  lm : y.lo = firstM s ∨ p (y.lo - 1) = false
  hm : y.hi = lastM s ∨ p (y.hi + 1) = false
theorem run_ok {s : Sands} (hG : Good s) {p : Int → Bool} {m : Int} (hd : dayF s m = true) :
    (p m = false → m_laurelref01_Run s (dayL s p (dayN s)) m = some ⟨⟨0, 0⟩, false⟩) ∧ (p m = true → ∃ y, m_laurelref01_Run s (dayL s p (dayN s)) m = some ⟨y, true⟩ ∧ RunOf s p m y) := by
  have htl := hG.tl
  have hds := day_span hG
  have hn := dayN_eq hG
  have hd' := hd
  simp only [dayF, inr_iff] at hd'
  have hix : ix (dayL s p (dayN s)) (m - firstM s) = some (p m) := by
    rw [dayL_ix (by omega) (by omega)]
    congr 2
    omega
  unfold m_laurelref01_Run
  rw [reffirst_eq (by omega), Option.bind_some, subc_eq (by omega), Option.bind_some, hix, Option.bind_some]
  refine ⟨fun hp => by rw [hp, if_pos (by decide)], fun hp => ?_⟩
  rw [hp, if_neg (by decide)]
  obtain ⟨a, ha, hQa⟩ := iterM_inv (f := m_laurelref01_Run_L0 (dayL s p (dayN s))) (fun j => (0 ≤ j ∧ j ≤ m - firstM s) ∧ ∀ i, firstM s + j ≤ i → i ≤ m → p i = true) (fun j => j.toNat) (fun b => ((0 ≤ b ∧ b ≤ m - firstM s) ∧ ∀ i, firstM s + b ≤ i → i ≤ m → p i = true) ∧ (b = 0 ∨ p (firstM s + b - 1) = false))
    (fun j ⟨hj, hall⟩ => by
      unfold m_laurelref01_Run_L0
      by_cases h0 : 0 < j
      · rw [if_pos h0, subc_eq (by omega), Option.bind_some, dayL_ix (by omega) (by omega), Option.bind_some, Option.bind_some]
        cases hpj : p (firstM s + (j - 1)) with
        | true =>
          left
          rw [if_pos rfl, Option.bind_some]
          refine ⟨_, rfl, ⟨by omega, fun i h1 h2 => ?_⟩, by omega⟩
          by_cases hi : i = firstM s + (j - 1)
          · rw [hi, hpj]
          · exact hall i (by omega) h2
        | false =>
          right
          rw [if_neg (by decide)]
          exact ⟨_, rfl, ⟨hj, hall⟩, .inr (by rw [← hpj]; congr 1; omega)⟩
      · right
        rw [if_neg h0, Option.bind_some, if_neg (by decide)]
        exact ⟨_, rfl, ⟨hj, hall⟩, .inl (by omega)⟩) FU (m - firstM s) (FU_lt (by omega)) ⟨by omega, fun i h1 h2 => by rw [show i = m by omega]; exact hp⟩
  obtain ⟨b, hb, hQb⟩ := iterM_inv (f := m_laurelref01_Run_L1 (dayL s p (dayN s))) (fun j => (m - firstM s ≤ j ∧ j ≤ lastM s - firstM s) ∧ ∀ i, m ≤ i → i ≤ firstM s + j → p i = true) (fun j => (lastM s - firstM s - j).toNat) (fun b => ((m - firstM s ≤ b ∧ b ≤ lastM s - firstM s) ∧ ∀ i, m ≤ i → i ≤ firstM s + b → p i = true) ∧ (b = lastM s - firstM s ∨ p (firstM s + b + 1) = false))
    (fun j ⟨hj, hall⟩ => by
      unfold m_laurelref01_Run_L1
      rw [dayL_len, subc_eq (by omega), Option.bind_some]
      by_cases h0 : j < ((dayN s : Nat) : Int) - 1
      · rw [if_pos h0, addc_eq (by omega), Option.bind_some, dayL_ix (by omega) (by omega), Option.bind_some, Option.bind_some]
        cases hpj : p (firstM s + (j + 1)) with
        | true =>
          left
          rw [if_pos rfl, Option.bind_some]
          refine ⟨_, rfl, ⟨by omega, fun i h1 h2 => ?_⟩, by omega⟩
          by_cases hi : i = firstM s + (j + 1)
          · rw [hi, hpj]
          · exact hall i h1 (by omega)
        | false =>
          right
          rw [if_neg (by decide)]
          exact ⟨_, rfl, ⟨hj, hall⟩, .inr (by rw [← hpj]; congr 1; omega)⟩
      · right
        rw [if_neg h0, Option.bind_some, if_neg (by decide)]
        exact ⟨_, rfl, ⟨hj, hall⟩, .inl (by omega)⟩) FU (m - firstM s) (FU_lt (by omega)) ⟨by omega, fun i h1 h2 => by rw [show i = m by omega]; exact hp⟩
  rw [ha, Option.bind_some, hb, Option.bind_some, Option.bind_some, addc_eq (by omega), Option.bind_some, Option.bind_some, addc_eq (by omega), Option.bind_some]
  obtain ⟨⟨a1, a2⟩, a3⟩ := hQa
  obtain ⟨⟨b1, b2⟩, b3⟩ := hQb
  refine ⟨_, rfl, by simp only; omega, by simp only; omega, fun i h1 h2 => ?_, ?_, ?_⟩
  · simp only at h1 h2
    by_cases hi : i ≤ m
    · exact a2 i h1 hi
    · exact b2 i (by omega) h2
  · rcases a3 with h | h
    · left; simp only; omega
    · right; simp only; exact h
  · rcases b3 with h | h
    · left; simp only; omega
    · right; simp only; exact h
/-- all runs, as the reference lists them -/
theorem refspans_eq {s : Sands} (hG : Good s) {p : Int → Bool} : m_laurelref01_Spans s (dayL s p (dayN s)) = some (spansF s p) := by
  have htl := hG.tl
  have hds := day_span hG
  have hn := dayN_eq hG
  unfold m_laurelref01_Spans
  rw [reffirst_eq (by omega), Option.bind_some]
  obtain ⟨b, hb, hQ⟩ := iterM_inv (f := m_laurelref01_Spans_L0 s (dayL s p (dayN s)))
    (fun x => ∃ k : Nat, x.minute6 = firstM s + (k : Int) ∧ k ≤ dayN s ∧ ((spansN p (firstM s) k).op = false → x.out5 = (spansN p (firstM s) k).acc) ∧ ((spansN p (firstM s) k).op = true → ∃ E, x.out5 = (spansN p (firstM s) k).acc ++ [⟨(spansN p (firstM s) k).fr, E⟩] ∧ (firstM s + (k : Int) - 1 ≤ E ∧ E ≤ lastM s) ∧ (∀ i, firstM s + (k : Int) - 1 ≤ i → i ≤ E → p i = true) ∧ (E = lastM s ∨ p (E + 1) = false)))
    (fun x => (lastM s + 1 - x.minute6).toNat) (fun b => b = spansF s p)
    (fun x ⟨k, hm, hk, h0, h1⟩ => by
      obtain ⟨m, out⟩ := x
      simp only at hm h0 h1
      have hsi := si_n (p := p) (a := firstM s) k
      have hsl := spansN_len (p := p) (a := firstM s) (k := k)
      have hlen : out.length ≤ 2000 := by
        cases ho : (spansN p (firstM s) k).op with
        | false => rw [h0 ho]; omega
        | true =>
          obtain ⟨E, h2, _⟩ := h1 ho
          rw [h2]
          simp only [List.length_append, List.length_singleton]
          omega
      unfold m_laurelref01_Spans_L0
      dsimp only
      rw [reflast_eq (Good.short hG) (by omega), Option.bind_some]
      by_cases hlt : m ≤ lastM s
      · left
        have hd : dayF s m = true := by simp only [dayF, inr_iff]; omega
        obtain ⟨r0, r1⟩ := run_ok hG (p := p) hd
        have hsucc := spansN_succ (p := p) (a := firstM s) (k := k)
        rw [if_pos hlt]
        cases hp : p m with
        | false =>
          rw [r0 hp, Option.bind_some, if_neg (fun h => absurd (show false = true from h) (by decide)), Option.bind_some, if_neg (by decide), Option.bind_some, addc_eq (by omega), Option.bind_some]
          refine ⟨_, rfl, ⟨k + 1, by simp only; omega, by omega, ?_⟩, by simp only; omega⟩
          simp only
          rw [hsucc, ← hm]
          generalize spansN p (firstM s) k = X at h0 h1 hsi
          have e : spanStep p X m = shutF X m := stepF hp
          rw [e]
          unfold shutF
          cases ho : X.op with
          | false => exact ⟨fun _ => h0 ho, fun h => by simp at h⟩
          | true =>
            refine ⟨fun _ => ?_, fun h => by simp at h⟩
            obtain ⟨E, h2, h3, h4, h5⟩ := h1 ho
            have hE : E = m - 1 := by
              refine Classical.byContradiction fun hc => ?_
              have := h4 m (by omega) (by omega)
              rw [hp] at this
              exact absurd this (by decide)
            subst hE
            exact h2
        | true =>
          obtain ⟨y, hy, hr⟩ := r1 hp
          rw [hy, Option.bind_some, if_pos (show (⟨y, true⟩ : m_laurelref01_Run_R).r1 = true from rfl), Option.bind_some]
          generalize hX : spansN p (firstM s) k = X at h0 h1 hsi hsucc
          have e : spanStep p X m = match X.op with | false => ⟨X.acc, m, true⟩ | true => X := by unfold spanStep; rw [hp]; rfl
          cases ho : X.op with
          | false =>
            have hlo : y.lo = m := by
              refine Classical.byContradiction fun hc => ?_
              have h6 := hr.lo
              rcases hsi.shut ho with h7 | h7
              · omega
              · have := hr.al (m - 1) (by omega) (by have := hr.hi; omega)
                rw [← hm] at h7
                rw [h7] at this
                exact absurd this (by decide)
            rw [decide_eq_true (show (⟨y, true⟩ : m_laurelref01_Run_R).r0.lo = m from hlo), if_pos rfl, appc_eq (by simp only [List.length_singleton]; omega), Option.bind_some, Option.bind_some, addc_eq (by omega), Option.bind_some]
            refine ⟨_, rfl, ⟨k + 1, by simp only; omega, by omega, ?_⟩, by simp only; omega⟩
            simp only
            rw [hsucc, ← hm, e, ho]
            refine ⟨fun h => by simp at h, fun _ => ⟨y.hi, ?_, ?_, ?_, hr.hm⟩⟩
            · simp only
              rw [h0 ho, ← hlo]
            · have := hr.hi; omega
            · intro i h6 h7
              exact hr.al i (by omega) h7
          | true =>
            have hop := hsi.op ho
            have hlo : y.lo ≠ m := by
              intro hc
              have h6 := hop.2.2.1 (m - 1) (by omega) (by omega)
              rcases hr.lm with h7 | h7
              · omega
              · rw [hc, h6] at h7
                exact absurd h7 (by decide)
            rw [decide_eq_false (show ¬ ((⟨y, true⟩ : m_laurelref01_Run_R).r0.lo = m) from hlo), if_neg (by decide), Option.bind_some, addc_eq (by omega), Option.bind_some]
            refine ⟨_, rfl, ⟨k + 1, by simp only; omega, by omega, ?_⟩, by simp only; omega⟩
            simp only
            rw [hsucc, ← hm, e, ho]
            refine ⟨fun h => by rw [ho] at h; simp at h, fun _ => ?_⟩
            obtain ⟨E, h2, h3, h4, h5⟩ := h1 ho
            have hE : m ≤ E := by
              refine Classical.byContradiction fun hc => ?_
              have hE' : E + 1 = m := by omega
              rcases h5 with h5 | h5
              · omega
              · rw [hE', hp] at h5
                exact absurd h5 (by decide)
            exact ⟨E, h2, ⟨by omega, h3.2⟩, fun i h6 h7 => h4 i (by omega) h7, h5⟩
      · right
        rw [if_neg hlt]
        refine ⟨_, rfl, ?_⟩
        have hkn : k = dayN s := by omega
        subst hkn
        unfold spansF
        generalize spansN p (firstM s) (dayN s) = X at h0 h1 hsi
        unfold shutF
        cases ho : X.op with
        | false => exact h0 ho
        | true =>
          obtain ⟨E, h2, h3, h4, h5⟩ := h1 ho
          rw [h2]
          have : E = lastM s + 1 - 1 := by omega
          rw [this]) FU ⟨firstM s, []⟩ (FU_lt (by simp only; omega)) ⟨0, by simp, by omega, fun _ => rfl, fun h => by simp [spansN] at h⟩
  rw [hb, Option.bind_some, hQ]
end Go.Proofs.Wk

namespace Go.Proofs.Wk
open Go Go.Gx Go.Pl
set_option linter.unusedVariables false
theorem equal_span (a : List Span) (ha : a.length ≤ 1000000) : m_laurelkit_Eq_apiSpan a a = some true := by
  unfold m_laurelkit_Eq_apiSpan m_slices_Equal_apiSpanapiSpan
  have key := iterM_any0 (f := m_slices_Equal_apiSpanapiSpan_L0 a a) a.length (fun _ => false) false (fun k hk => by
    unfold m_slices_Equal_apiSpanapiSpan_L0
    rw [if_pos (by omega), ix_nat default hk, Option.bind_some, Option.bind_some, if_pos rfl, addc_eq (by omega), Option.bind_some]
    rfl) (by
    unfold m_slices_Equal_apiSpanapiSpan_L0
    rw [if_neg (by omega)]) (N := FU) (FU_lt (by omega))
  have : (List.range a.length).any (fun _ => false) = false := by simp
  rw [if_pos rfl, key, this, if_neg (by decide), Option.bind_some]
  unfold oc
  simp only
  rw [Option.bind_some]
theorem place_eq {s : Sands} (hs : Short s) {p : Int} : m_laurelref01_Place s p = some (if isPlace s p = true then 0 else 1) := by
  have h2 := hs.f
  unfold m_laurelref01_Place
  rw [subc_eq (by omega), Option.bind_some, off_eq, Option.bind_some]
  unfold isPlace
  cases inr p 0 ((s.floors.length : Int) - 1) <;> rfl
theorem wide_ok {s : Sands} : ∃ b, m_laurellaw01_wide s = some b ∧ (b = false → s.table.length ≤ 20 ∧ s.floors.length ≤ 20 ∧ s.sills.length ≤ 30) := by
  unfold m_laurellaw01_wide
  by_cases h1 : 20 < (s.table.length : Int)
  · rw [if_pos h1, Option.bind_some]; exact ⟨_, rfl, by simp⟩
  rw [if_neg h1]
  by_cases h2 : 20 < (s.floors.length : Int)
  · rw [if_pos h2, Option.bind_some]; exact ⟨_, rfl, by simp⟩
  rw [if_neg h2]
  by_cases h3 : 30 < (s.sills.length : Int)
  · rw [if_pos h3, Option.bind_some]; exact ⟨_, rfl, by simp⟩
  rw [if_neg h3]
  by_cases h4 : 8 < (s.sills.length : Int)
  · rw [if_pos h4, Option.bind_some]; exact ⟨_, rfl, fun _ => by omega⟩
  · rw [if_neg h4, Option.bind_some]; exact ⟨_, rfl, fun _ => by omega⟩
theorem large_ok {s : Sands} : ∃ b, m_laurellaw01_large s = some b ∧ (b = false → Short s) := by
  obtain ⟨b, hb, hw⟩ := wide_ok (s := s)
  unfold m_laurellaw01_large
  rw [hb, Option.bind_some, Option.bind_some]
  cases b with
  | true =>
    rw [if_pos rfl, Option.bind_some, if_pos rfl]
    exact ⟨_, rfl, by simp⟩
  | false =>
    obtain ⟨h1, h2, h3⟩ := hw rfl
    have hS : Short s := ⟨by omega, by omega, by omega⟩
    rw [if_neg (by decide), Option.bind_some]
    by_cases h : (s.table.length : Int) = 0
    · rw [decide_eq_true h, if_pos rfl]
      exact ⟨_, rfl, fun _ => hS⟩
    · rw [decide_eq_false h, if_neg (by decide), ix_eq default (by omega) (by omega), Option.bind_some, Go.Fw.wrap_i64 (by omega), ix_eq default (by omega) (by omega), Option.bind_some]
      by_cases h4 : 0 ≤ (s.table.getD (0 : Int).toNat default).min
      · rw [if_pos h4]
        by_cases h5 : (s.table.getD ((s.table.length : Int) - 1).toNat default).min ≤ 1440
        · rw [if_pos h5, Option.bind_some]
          exact ⟨_, rfl, fun _ => hS⟩
        · rw [if_neg h5, Option.bind_some]
          exact ⟨_, rfl, fun _ => hS⟩
      · rw [if_neg h4, Option.bind_some]
        exact ⟨_, rfl, fun _ => hS⟩
theorem refgates_eq {s : Sands} (hG : Good s) : m_laurelref01_Gates s = some ((List.range s.floors.length).map (fun p : Nat => refGate ((gatesOf s).getD p 0))) := by
  have hfl := hG.fl
  unfold m_laurelref01_Gates
  have key : iterM FU (m_laurelref01_Gates_L0 s) ⟨0, []⟩ = some ((List.range s.floors.length).map (fun p : Nat => refGate ((gatesOf s).getD p 0))) := by
    have hz : (⟨0, []⟩ : m_laurelref01_Gates_S0) = (fun k : Nat => (⟨(k : Int), (List.range k).map (fun p : Nat => refGate ((gatesOf s).getD p 0))⟩ : m_laurelref01_Gates_S0)) 0 := by simp
    rw [hz]
    refine iterM_run (fun k : Nat => (⟨(k : Int), (List.range k).map (fun p : Nat => refGate ((gatesOf s).getD p 0))⟩ : m_laurelref01_Gates_S0)) s.floors.length (fun k hk => ?_) ?_ FU (FU_lt (by omega))
    · unfold m_laurelref01_Gates_L0
      dsimp only
      rw [if_pos (by omega), refgate_eq hG (isPlace_iff.2 ⟨by omega, by omega⟩), Option.bind_some, appc_eq (by simp only [List.length_map, List.length_range, List.length_singleton]; omega), Option.bind_some, addc_eq (by omega), Option.bind_some, List.range_succ, List.map_append]
      rfl
    · unfold m_laurelref01_Gates_L0
      dsimp only
      rw [if_neg (by omega)]
  rw [key, Option.bind_some]
theorem gates_ix {s : Sands} {p : Int} (hp : isPlace s p = true) : ix ((List.range s.floors.length).map (fun p : Nat => refGate ((gatesOf s).getD p 0))) p = some (refGate ((gatesOf s).getD p.toNat 0)) := by
  have h := isPlace_iff.1 hp
  rw [ix_eq 0 h.1 (by simp; omega)]
  congr 1
  have hlt : p.toNat < s.floors.length := by omega
  simp [List.getD_eq_getElem?_getD, hlt]
theorem states_want {s : Sands} (hG : Good s) {m w v : Int} (hd : dayF s m = true) : iterM FU (m_laurellaw01_TideStates_L0 s ⟨w, 0, v, (List.range s.floors.length).map (fun p : Nat => refGate ((gatesOf s).getD p 0))⟩ ⟨s, s⟩ m) ⟨0, []⟩ = some (AllR s m).1 := by
  have hfl := hG.fl
  have hgo := gates_ok (s := s)
  have e : (AllR s m).1 = (List.range s.floors.length).map (fun p => stateF s m (p : Nat)) := by
    unfold AllR
    rw [check_of_good hG, hd]
    rfl
  rw [e]
  have hz : (⟨0, []⟩ : m_laurellaw01_TideStates_S0) = (fun k : Nat => (⟨(k : Int), (List.range k).map (fun p => stateF s m (p : Nat))⟩ : m_laurellaw01_TideStates_S0)) 0 := by simp
  rw [hz]
  refine iterM_run (fun k : Nat => (⟨(k : Int), (List.range k).map (fun p => stateF s m (p : Nat))⟩ : m_laurellaw01_TideStates_S0)) s.floors.length (fun k hk => ?_) ?_ FU (FU_lt (by omega))
  · unfold m_laurellaw01_TideStates_L0
    dsimp only
    rw [if_pos (by omega), gates_ix (isPlace_iff.2 ⟨by omega, by omega⟩), Option.bind_some, refheight_eq hG hd, Option.bind_some, refstate_gate hG hd ⟨hgo.lo _, hgo.hi _⟩, Option.bind_some, appc_eq (by simp only [List.length_map, List.length_range, List.length_singleton]; omega), Option.bind_some, addc_eq (by omega), Option.bind_some, List.range_succ, List.map_append]
    rfl
  · unfold m_laurellaw01_TideStates_L0
    dsimp only
    rw [if_neg (by omega)]
theorem x_Spans_eq {s : Sands} {p k : Int} (hs : Short s) : x_Spans s p k = some (SpansR s p k) := by
  have h1 := hs.t
  have h2 := hs.f
  have h3 := hs.s
  unfold x_Spans
  rw [if_pos ⟨by omega, by omega, by omega⟩]
end Go.Proofs.Wk

namespace Go.Proofs.Wk
open Go Go.Gx Go.Pl
set_option linter.unusedVariables false
theorem all_good' {s : Sands} (hG : Good s) {m : Int} (hd : dayF s m = true) : AllR s m = ((List.range s.floors.length).map (fun p => stateF s m (p : Nat)), 0) := by
  unfold AllR
  rw [check_of_good hG, hd]
  rfl
theorem ix_all' {s : Sands} {m p : Int} (hp : isPlace s p = true) : ix ((List.range s.floors.length).map (fun p => stateF s m (p : Nat))) p = some (stateF s m p) := by
  have h := isPlace_iff.1 hp
  rw [ix_eq 0 h.1 (by simp; omega)]
  congr 1
  have hlt : p.toNat < s.floors.length := by omega
  simp [List.getD_eq_getElem?_getD, hlt]
  congr 1
  omega
theorem spansF_short {s : Sands} (hG : Good s) {p : Int → Bool} : (spansF s p).length ≤ 1442 := spansF_len hG
/-- what is wanted, case by case -/
theorem states_case {s : Sands} (hS : Short s) (m p st : Int) : ∃ (w u v one : Int) (G W : List Int) (L : List Span),
    (if check s = 0 then
      ((m_laurelref01_Gates s).bind fun t41 =>
      (m_laurelref01_Minute s m).bind fun t44 =>
      (if t44 = 0 then
      ((m_laurelref01_Place s p).bind fun t50 =>
      some t50) else
      (some t44)).bind fun o_2 =>
      (m_laurelref01_Place s p).bind fun t53 =>
      (if t53 = 0 then
      (if st < 0 then
      (some true) else
      (some (decide (2 < st)))) else
      (some false)).bind fun o_3 =>
      if o_3 = true then
      (some (⟨o_2, t44, 8, t41⟩ : m_laurellaw01_TideStates_C1)) else
      (some (⟨o_2, t44, t53, t41⟩ : m_laurellaw01_TideStates_C1))) else
      (some (⟨check s, check s, check s, []⟩ : m_laurellaw01_TideStates_C1))) = some ⟨w, u, v, G⟩ ∧
    (if u = 0 then ((iterM FU (m_laurellaw01_TideStates_L0 s ⟨w, u, v, G⟩ ⟨s, s⟩ m) (⟨0, []⟩ : m_laurellaw01_TideStates_S0)).bind fun o_5 => some o_5) else (some [])) = some W ∧
    (if w = 0 then ((ix W p).bind fun t89 => some t89) else (some 0)) = some one ∧
    AtR s m p = (one, w) ∧ AllR s m = (W, u) ∧ SpansR s p st = (L, v) ∧
    (if v = 0 then ((ix G p).bind fun t156 => (m_laurelref01_Says s t156 st).bind fun t159 => (m_laurelref01_Spans s t159).bind fun t160 => some t160) else (some [])) = some L ∧
    W.length ≤ 1000 ∧ L.length ≤ 2000 := by
  by_cases hc : check s = 0
  · have hG := good_of_check hc
    have htl := hG.tl
    have hfl := hG.fl
    have hgo := gates_ok (s := s)
    rw [if_pos hc, refgates_eq hG, Option.bind_some, minute_eq hS (by omega), Option.bind_some, place_eq hS]
    -- the spans
    have hv : ∀ (G : List Int), G = (List.range s.floors.length).map (fun p : Nat => refGate ((gatesOf s).getD p 0)) → ∃ (v : Int) (L : List Span), ((some (if isPlace s p = true then (0 : Int) else 1)).bind fun t53 => (if t53 = 0 then (if st < 0 then (some true) else (some (decide (2 < st)))) else (some false)).bind fun o_3 => some (if o_3 = true then 8 else t53)) = some v ∧ SpansR s p st = (L, v) ∧
        (if v = 0 then ((ix G p).bind fun t156 => (m_laurelref01_Says s t156 st).bind fun t159 => (m_laurelref01_Spans s t159).bind fun t160 => some t160) else (some [])) = some L ∧ L.length ≤ 2000 := by
      intro G hGG
      subst hGG
      rw [Option.bind_some]
      by_cases hp : isPlace s p = true
      · rw [if_pos hp, if_pos rfl]
        by_cases hst : inr st 0 2 = true
        · have h2 := inr_iff.1 hst
          have hE : spansE s p st = 0 := by unfold spansE; rw [hc, hp, hst]; rfl
          rw [if_neg (by omega), Option.bind_some, decide_eq_false (by omega)]
          refine ⟨0, spansF s (isState s p st), rfl, ?_, ?_, by have := spansF_len hG (p := isState s p st); omega⟩
          · unfold SpansR
            rw [hE]
            rfl
          · rw [if_pos rfl, gates_ix hp, Option.bind_some, refsays_eq hG hp, Option.bind_some, refspans_eq hG, Option.bind_some]
        · have h2 : ¬ (0 ≤ st ∧ st ≤ 2) := fun h => hst (inr_iff.2 h)
          have hE : spansE s p st = 8 := by
            unfold spansE
            rw [hc, hp]
            have : inr st 0 2 = false := by simpa using hst
            rw [this]; rfl
          refine ⟨8, [], ?_, ?_, rfl, by simp⟩
          · by_cases h3 : st < 0
            · rw [if_pos h3, Option.bind_some]; rfl
            · rw [if_neg h3, Option.bind_some, decide_eq_true (by omega)]; rfl
          · unfold SpansR
            rw [hE]
            rfl
      · have hp' : isPlace s p = false := by simpa using hp
        have hE : spansE s p st = 1 := by unfold spansE; rw [hc, hp']; rfl
        rw [if_neg hp, if_neg (by decide), Option.bind_some]
        refine ⟨1, [], rfl, ?_, rfl, by simp⟩
        unfold SpansR
        rw [hE]
        rfl
    obtain ⟨v, L, hv1, hv2, hv3, hv4⟩ := hv _ rfl
    have hsplit : ∀ (a b : Int) (g : List Int), ((some (if isPlace s p = true then (0 : Int) else 1)).bind fun t53 => (if t53 = 0 then (if st < 0 then (some true) else (some (decide (2 < st)))) else (some false)).bind fun o_3 => if o_3 = true then some (⟨a, b, 8, g⟩ : m_laurellaw01_TideStates_C1) else some ⟨a, b, t53, g⟩) = some ⟨a, b, v, g⟩ := by
      intro a b g
      rw [Option.bind_some] at hv1 ⊢
      generalize (if isPlace s p = true then (0 : Int) else 1) = t at hv1 ⊢
      by_cases ht : t = 0
      · rw [if_pos ht] at hv1 ⊢
        by_cases h3 : st < 0
        · rw [if_pos h3, Option.bind_some] at hv1 ⊢
          rw [if_pos rfl] at hv1 ⊢
          rw [Option.some.inj hv1]
        · rw [if_neg h3, Option.bind_some] at hv1 ⊢
          by_cases h4 : decide (2 < st) = true
          · rw [if_pos h4] at hv1 ⊢
            rw [Option.some.inj hv1]
          · rw [if_neg h4] at hv1 ⊢
            rw [Option.some.inj hv1]
      · rw [if_neg ht, Option.bind_some] at hv1 ⊢
        rw [if_neg (by decide)] at hv1 ⊢
        rw [Option.some.inj hv1]
    by_cases hd : dayF s m = true
    · rw [if_pos hd, if_pos rfl, Option.bind_some, Option.bind_some, hsplit]
      have hall := all_good' hG hd
      by_cases hp : isPlace s p = true
      · rw [if_pos hp]
        refine ⟨_, _, _, stateF s m p, _, (AllR s m).1, L, rfl, ?_, ?_, ?_, ?_, hv2, hv3, ?_, hv4⟩
        · rw [if_pos rfl, states_want hG hd, Option.bind_some]
        · rw [if_pos rfl, hall, ix_all' hp, Option.bind_some]
        · exact atR_good hG hp hd
        · rw [hall]
        · rw [hall]; simp; omega
      · have hp' : isPlace s p = false := by simpa using hp
        rw [if_neg hp]
        refine ⟨_, _, _, 0, _, (AllR s m).1, L, rfl, ?_, rfl, ?_, ?_, hv2, hv3, ?_, hv4⟩
        · rw [if_pos rfl, states_want hG hd, Option.bind_some]
        · unfold AtR
          rw [hc, hd, hp']
          rfl
        · rw [hall]
        · rw [hall]; simp; omega
    · have hd' : dayF s m = false := by simpa using hd
      rw [if_neg hd, if_neg (by decide), Option.bind_some, hsplit]
      refine ⟨_, _, _, 0, _, [], L, rfl, rfl, rfl, ?_, ?_, hv2, hv3, by simp, hv4⟩
      · unfold AtR
        rw [hc, hd']
        rfl
      · unfold AllR
        rw [hc, hd']
        rfl
  · rw [if_neg hc]
    refine ⟨_, _, _, 0, _, [], [], rfl, if_neg hc, if_neg hc, ?_, ?_, ?_, if_neg hc, by simp, by simp⟩
    · unfold AtR
      rw [if_pos hc]
    · unfold AllR
      rw [if_pos hc]
    · unfold SpansR spansE
      rw [if_pos hc, if_pos hc]
/-- TideStates is true of all sands -/
theorem states_true (s : Sands) (m p st : Int) : m_laurellaw01_TideStates s m p st = some true := by
  unfold m_laurellaw01_TideStates
  obtain ⟨b, hb, hS'⟩ := large_ok (s := s)
  rw [hb, Option.bind_some]
  cases b with
  | true => rw [if_pos rfl, x_awake_eq, Option.bind_some]
  | false =>
    have hS := hS' rfl
    rw [if_neg (by decide), own_eq hS, Option.bind_some, theirs_eq hS, Option.bind_some, Option.bind_some]
    dsimp only
    obtain ⟨w, u, v, one, G, W, L, h1, h2, h3, h4, h5, h6, h7, h8, h9⟩ := states_case hS m p st
    rw [refcheck_eq hS, Option.bind_some, h1, Option.bind_some]
    dsimp only
    rw [h2, Option.bind_some, h3, Option.bind_some, x_At_eq hS, x_All_eq hS, x_Spans_eq hS, h4, h5, h6, Option.bind_some, Option.bind_some, Option.bind_some]
    dsimp only
    rw [if_pos rfl, if_pos rfl, if_pos rfl, if_pos rfl, Option.bind_some]
    have e1 : (!decide ((W.length : Int) = (W.length : Int))) = false := by simp
    rw [e1, if_neg (by decide)]
    have key := iterM_any0 (f := m_laurellaw01_TideStates_L1 (W, u) W) W.length (fun _ => false) false (fun k hk => by
      unfold m_laurellaw01_TideStates_L1
      dsimp only
      rw [if_pos (by omega), ix_nat 0 hk, Option.bind_some, Option.bind_some, if_pos rfl, addc_eq (by omega), Option.bind_some]
      rfl) (by
      unfold m_laurellaw01_TideStates_L1
      dsimp only
      rw [if_neg (by omega)]) (N := FU) (FU_lt (by omega))
    have e2 : (List.range W.length).any (fun _ => false) = false := by simp
    rw [key, e2, if_neg (by decide), Option.bind_some]
    unfold oc
    simp only
    rw [h7, Option.bind_some, equal_span L (by omega), Option.bind_some, if_pos rfl, same_eq hS, Option.bind_some, if_pos rfl, x_awake_eq, Option.bind_some, Option.bind_some]
end Go.Proofs.Wk

namespace Go.Gx
open Go Go.Fw Go.RowKit
/-! ### arguments, as they come in -/
section
variable {H : Type} {enc : TypeId × Value → H} {P : Program} {w : World} {base : Nat} {sp : Nat → Bool} {held : Bool}
/-- what of this type comes in is, cell by cell, a value of this row -/
def Opens (enc : TypeId × Value → H) (P : Program) (w : World) (base : Nat) (sp : Nat → Bool) (held : Bool) {α : Type} (R : Row α) (wf : α → Prop) (t : TypeId) : Prop :=
  ∀ fuel cs x, DataW.trod enc P w base sp held fuel t cs = some x → ∃ a, cs = R.cells a ∧ wf a
def i64P (n : Int) : Prop := -9223372036854775808 ≤ n ∧ n ≤ 9223372036854775807
theorem wf_i64P {n : Int} (h : (Lit.int .i64 n).wf = true) : i64P n := by
  simp [Lit.wf, IntKind.min, IntKind.max, IntKind.signed, IntKind.bits] at h
  unfold i64P; omega
def u8P (n : Int) : Prop := 0 ≤ n ∧ n ≤ 255
theorem wf_u8P {n : Int} (h : (Lit.int .u8 n).wf = true) : u8P n := by
  simp [Lit.wf, IntKind.min, IntKind.max, IntKind.signed, IntKind.bits] at h
  unfold u8P; omega
theorem opens_i64 {t : TypeId} (ht : P.underlying t = some (.int .i64)) : Opens enc P w base sp held RI i64P t := fun fuel cs x h => by
  obtain ⟨n, rfl, _, hw⟩ := DataW.trod_int ht h
  exact ⟨n, rfl, wf_i64P hw⟩
theorem opens_u8 {t : TypeId} (ht : P.underlying t = some (.int .u8)) : Opens enc P w base sp held RU8 u8P t := fun fuel cs x h => by
  obtain ⟨n, rfl, _, hw⟩ := DataW.trod_int ht h
  exact ⟨n, rfl, wf_u8P hw⟩
theorem opens_bool {t : TypeId} (ht : P.underlying t = some .bool) : Opens enc P w base sp held RB (fun _ => True) t := fun fuel cs x h => by
  obtain ⟨b, rfl, _⟩ := DataW.trod_bool ht h
  exact ⟨b, rfl, trivial⟩
/-- a field of a struct, by its cells -/
theorem fieldAt {fs : Array Field} {t : TypeId} {fuel : Nat} {cs : List Value} {x : DataW H × List MemPlace} (ht : P.underlying t = some (.struct fs)) (h : DataW.trod enc P w base sp held fuel t cs = some x) {α : Type} {R : Row α} {wf : α → Prop} (i : Nat) {T o k : Nat}
    (hf : (fs[i]?).map (fun fd => (fd.type, fd.offset)) = some (T, o)) (hk : P.cellsOf T = k) (hR : Opens enc P w base sp held R wf T) : ∃ a, (cs.drop o).take k = R.cells a ∧ wf a := by
  obtain ⟨xs, n, rfl, _, hlen, hxl, hx⟩ := DataW.trod_struct ht h
  obtain ⟨fd, hfd, he⟩ : ∃ fd, fs[i]? = some fd ∧ (fd.type, fd.offset) = (T, o) := by
    cases hh : fs[i]? with
    | none => simp [hh] at hf
    | some fd => exact ⟨fd, rfl, by simpa [hh] using hf⟩
  simp only [Prod.mk.injEq] at he
  obtain ⟨rfl, rfl⟩ := he
  have h1 := hx i fd hfd
  rw [hk] at h1
  have hi : i < xs.length := by rw [hxl]; exact (Array.getElem?_eq_some_iff.1 hfd).1
  rw [List.getElem?_eq_getElem hi] at h1
  exact hR _ _ _ h1
theorem structLen {fs : Array Field} {t : TypeId} {fuel : Nat} {cs : List Value} {x : DataW H × List MemPlace} (ht : P.underlying t = some (.struct fs)) (h : DataW.trod enc P w base sp held fuel t cs = some x) : cs.length = P.cellsOf t := by
  obtain ⟨xs, n, _, _, hlen, _⟩ := DataW.trod_struct ht h
  exact hlen
/-- a slice that came in -/
structure SlIn {α : Type} (R : Row α) (wf : α → Prop) (w : World) (v : Value) (A : Option Addr) (n c : Nat) (l : List α) : Prop where
  val : v = .slice A n c
  len : l.length = n
  ok : AOK n A
  le : n ≤ c
  max : c ≤ maxLen
  seg : segOK w (aB A, aO A, R.enc l)
  wf : ∀ x, x ∈ l → wf x
theorem choose_list {α : Type} {p : Nat → α → Prop} : ∀ (n : Nat), (∀ i, i < n → ∃ a, p i a) → ∃ l : List α, l.length = n ∧ ∀ i (h : i < l.length), p i l[i]
  | 0, _ => ⟨[], rfl, fun i h => by simp at h⟩
  | n + 1, h => by
    obtain ⟨l, hl, hp⟩ := choose_list n (fun i hi => h i (by omega))
    obtain ⟨a, ha⟩ := h n (by omega)
    refine ⟨l ++ [a], by simp [hl], fun i hi => ?_⟩
    by_cases hil : i < l.length
    · rw [List.getElem_append_left hil]; exact hp i hil
    · have : i = l.length := by simp at hi; omega
      subst this
      rw [List.getElem_append_right (by omega)]
      simp only [Nat.sub_self, List.getElem_cons_zero]
      rw [hl]; exact ha
theorem openSl {α : Type} {R : Row α} {wf : α → Prop} {t e : TypeId} (ht : P.underlying t = some (.slice e)) (hc : P.cellsOf e = R.sz) (hR : Opens enc P w base sp held R wf e) (h0 : Nat.blt 0 R.sz = true)
    {fuel : Nat} {cs : List Value} {x : DataW H × List MemPlace} (h : DataW.trod enc P w base sp held fuel t cs = some x) : ∃ (v : Value) (A : Option Addr) (n c : Nat) (l : List α), cs = [v] ∧ SlIn R wf w v A n c l := by
  have hsz : 0 < R.sz := by simpa using h0
  rcases Go.Deep.open_slice ht h with ⟨rfl, _⟩ | ⟨a, len, cap, m, n, D, Pl, rfl, hb, hl, hm, hmm, _, hi⟩
  · exact ⟨_, none, 0, 0, [], rfl, rfl, rfl, AOK.nil, Nat.le_refl _, Nat.zero_le _, segOK.nil, by simp⟩
  · have hlm : len ≤ m := by rw [hmm]; split <;> omega
    have hcell : ∀ i, i < len → ∃ x : α, (∀ f (hf : f < (R.cells x).length), w.cell? (a.add (i * R.sz + f)) = some (R.cells x)[f]) ∧ wf x := fun i hil => by
      obtain ⟨cs', h1, h2⟩ := hi i (by omega)
      obtain ⟨x, rfl, hw⟩ := hR _ _ _ h2
      obtain ⟨_, _, hat⟩ := World.cells?_some h1
      refine ⟨x, fun f hf => ?_, hw⟩
      have := hat f (by rw [hc, ← R.len x]; exact hf)
      rw [hc] at this
      rw [List.getElem?_eq_getElem hf] at this
      have e : (a.add (i * R.sz)).add f = a.add (i * R.sz + f) := by
        unfold Addr.add
        by_cases h1 : i * R.sz = 0
        · simp [h1]
        · by_cases h2 : f = 0
          · simp [h2]
          · simp [h1, h2, Nat.add_assoc]
      rw [e] at this
      exact this
    obtain ⟨l, hll, hlp⟩ := choose_list len hcell
    have hspot : 0 < len → a.spot = none := fun h0 => by
      obtain ⟨x, hx, _⟩ := hcell 0 h0
      have := World.cell?_spot (hx 0 (by rw [R.len]; exact hsz))
      simpa [Addr.add] using this
    refine ⟨_, some a, len, cap, l, rfl, rfl, hll, fun h0 => ?_, hl, hm, fun j hj => ?_, fun x hx => ?_⟩
    · obtain ⟨b, o, s⟩ := a
      have := hspot h0
      simp only at this
      subst this
      exact ⟨b, o, rfl⟩
    · have hj' : j < l.length * R.sz := by rw [← R.enc_len]; exact hj
      have hpos : 0 < len := by
        rcases Nat.eq_zero_or_pos len with h | h
        · rw [hll, h, Nat.zero_mul] at hj'; omega
        · exact h
      obtain ⟨b, o, s⟩ := a
      have hs := hspot hpos
      simp only at hs
      subst hs
      have hq : j / R.sz < l.length := Nat.div_lt_of_lt_mul (by rw [Nat.mul_comm]; exact hj')
      have hr : j % R.sz < R.sz := Nat.mod_lt _ hsz
      have hd : j / R.sz * R.sz + j % R.sz = j := by rw [Nat.mul_comm]; exact Nat.div_add_mod j R.sz
      have h1 := (hlp (j / R.sz) hq).1 (j % R.sz) (by rw [R.len]; exact hr)
      rw [hd] at h1
      have h2 := R.enc_get l (j / R.sz) (j % R.sz) l[j / R.sz] (List.getElem?_eq_getElem hq) hr
      rw [hd] at h2
      have h3 : (⟨b, o, none⟩ : Addr).add j = ⟨b, o + j, none⟩ := addr_add b o j
      rw [h3] at h1
      simp only [aB, aO, Option.map_some, Option.getD_some]
      rw [h1, ← List.getElem?_eq_getElem, ← h2, List.getElem?_eq_getElem hj]
    · obtain ⟨i, hi', rfl⟩ := List.getElem_of_mem hx
      exact (hlp i hi').2
theorem fieldSl {fs : Array Field} {t : TypeId} {fuel : Nat} {cs : List Value} {x : DataW H × List MemPlace} (ht : P.underlying t = some (.struct fs)) (h : DataW.trod enc P w base sp held fuel t cs = some x) {α : Type} {R : Row α} {wf : α → Prop} (i : Nat) {T o e : Nat}
    (hf : (fs[i]?).map (fun fd => (fd.type, fd.offset)) = some (T, o)) (hk : P.cellsOf T = 1) (hT : P.underlying T = some (.slice e)) (hc : P.cellsOf e = R.sz) (hR : Opens enc P w base sp held R wf e) (h0 : Nat.blt 0 R.sz = true) :
    ∃ (v : Value) (A : Option Addr) (n c : Nat) (l : List α), (cs.drop o).take 1 = [v] ∧ SlIn R wf w v A n c l := by
  obtain ⟨xs, m, rfl, _, hlen, hxl, hx⟩ := DataW.trod_struct ht h
  obtain ⟨fd, hfd, he⟩ : ∃ fd, fs[i]? = some fd ∧ (fd.type, fd.offset) = (T, o) := by
    cases hh : fs[i]? with
    | none => simp [hh] at hf
    | some fd => exact ⟨fd, rfl, by simpa [hh] using hf⟩
  simp only [Prod.mk.injEq] at he
  obtain ⟨rfl, rfl⟩ := he
  have h1 := hx i fd hfd
  rw [hk] at h1
  have hi : i < xs.length := by rw [hxl]; exact (Array.getElem?_eq_some_iff.1 hfd).1
  rw [List.getElem?_eq_getElem hi] at h1
  exact openSl hT hc hR h0 h1
theorem HV.begin {ro : List Sg} (h : ∀ s, s ∈ ro → segOK w s) : HV w (keys [] []) [] [] ro w :=
  ⟨rfl, rfl, rfl, Nat.le_refl _, fun _ _ _ => rfl, by simp [vbl], by simp [vbl], by simp [vbl], h, by simp [vbl]⟩
theorem segCons {s : Sg} {ro : List Sg} (h : segOK w s) (hr : ∀ t, t ∈ ro → segOK w t) : ∀ t, t ∈ s :: ro → segOK w t := fun t ht => by
  rcases List.mem_cons.1 ht with rfl | ht
  · exact h
  · exact hr t ht
theorem segNil : ∀ t, t ∈ ([] : List Sg) → segOK w t := fun t ht => by cases ht
theorem HV.below {w' : World} (h : HV w (keys [] []) [] [] [] w') : Below w.heap.size w w' := by
  have : Ext [] w w' := HS.toExt h
  exact this.below
end
end Go.Gx

namespace Go.Proofs.Wk
open Go Go.Fw Go.Gx Go.Pl Go.RowKit
section
variable {H : Type} {enc : TypeId × Value → H} {w : World} {base : Nat} {sp : Nat → Bool} {held : Bool}
theorem list2 {α : Type} {cs : List α} {a b : α} (hl : cs.length = 2) (h0 : (cs.drop 0).take 1 = [a]) (h1 : (cs.drop 1).take 1 = [b]) : cs = [a, b] := by
  match cs, hl with
  | [x, y], _ => simp at h0 h1; simp [h0, h1]
theorem list3 {α : Type} {cs : List α} {a b c : α} (hl : cs.length = 3) (h0 : (cs.drop 0).take 1 = [a]) (h1 : (cs.drop 1).take 1 = [b]) (h2 : (cs.drop 2).take 1 = [c]) : cs = [a, b, c] := by
  match cs, hl with
  | [x, y, z], _ => simp at h0 h1 h2; simp [h0, h1, h2]
theorem list5 {α : Type} {cs : List α} {a b c d e : α} (hl : cs.length = 5) (h0 : (cs.drop 0).take 1 = [a]) (h1 : (cs.drop 1).take 2 = [b, c]) (h2 : (cs.drop 3).take 1 = [d]) (h3 : (cs.drop 4).take 1 = [e]) : cs = [a, b, c, d, e] := by
  match cs, hl with
  | [x, y, z, u, v], _ => simp at h0 h1 h2 h3; simp [h0, h1, h2, h3]
theorem opI : Opens enc Try.prog w base sp held RI i64P 3 := opens_i64 Try.underlying3
theorem opB : Opens enc Try.prog w base sp held RB (fun _ => True) 4 := opens_bool Try.underlying4
set_option maxRecDepth 100000 in
theorem opWater : Opens enc Try.prog w base sp held RW (fun x => i64P x.min ∧ i64P x.h) 68 := fun fuel cs x h => by
  obtain ⟨a, ha, wa⟩ := fieldAt Try.underlying68 h 0 (T := 3) (o := 0) (k := 1) rfl (by kernel_rfl) opI
  obtain ⟨b, hb, wb⟩ := fieldAt Try.underlying68 h 1 (T := 3) (o := 1) (k := 1) rfl (by kernel_rfl) opI
  have hl := structLen Try.underlying68 h
  rw [show Try.prog.cellsOf 68 = 2 by kernel_rfl] at hl
  exact ⟨⟨a, b⟩, list2 hl ha hb, wa, wb⟩
set_option maxRecDepth 100000 in
theorem opSill : Opens enc Try.prog w base sp held RS (fun x => i64P x.a ∧ i64P x.b ∧ i64P x.h) 51 := fun fuel cs x h => by
  obtain ⟨a, ha, wa⟩ := fieldAt Try.underlying51 h 0 (T := 3) (o := 0) (k := 1) rfl (by kernel_rfl) opI
  obtain ⟨b, hb, wb⟩ := fieldAt Try.underlying51 h 1 (T := 3) (o := 1) (k := 1) rfl (by kernel_rfl) opI
  obtain ⟨c, hc, wc⟩ := fieldAt Try.underlying51 h 2 (T := 3) (o := 2) (k := 1) rfl (by kernel_rfl) opI
  have hl := structLen Try.underlying51 h
  rw [show Try.prog.cellsOf 51 = 3 by kernel_rfl] at hl
  exact ⟨⟨a, b, c⟩, list3 hl ha hb hc, wa, wb, wc⟩
set_option maxRecDepth 100000 in
theorem opSpan : Opens enc Try.prog w base sp held RP (fun x => i64P x.lo ∧ i64P x.hi) 25 := fun fuel cs x h => by
  obtain ⟨a, ha, wa⟩ := fieldAt Try.underlying25 h 0 (T := 3) (o := 0) (k := 1) rfl (by kernel_rfl) opI
  obtain ⟨b, hb, wb⟩ := fieldAt Try.underlying25 h 1 (T := 3) (o := 1) (k := 1) rfl (by kernel_rfl) opI
  have hl := structLen Try.underlying25 h
  rw [show Try.prog.cellsOf 25 = 2 by kernel_rfl] at hl
  exact ⟨⟨a, b⟩, list2 hl ha hb, wa, wb⟩
set_option maxRecDepth 100000 in
theorem opLook : Opens enc Try.prog w base sp held RL (fun x => i64P x.min ∧ i64P x.place) 89 := fun fuel cs x h => by
  obtain ⟨a, ha, wa⟩ := fieldAt Try.underlying89 h 0 (T := 3) (o := 0) (k := 1) rfl (by kernel_rfl) opI
  obtain ⟨b, hb, wb⟩ := fieldAt Try.underlying89 h 1 (T := 3) (o := 1) (k := 1) rfl (by kernel_rfl) opI
  obtain ⟨c, hc, _⟩ := fieldAt Try.underlying89 h 2 (T := 4) (o := 2) (k := 1) rfl (by kernel_rfl) opB
  have hl := structLen Try.underlying89 h
  rw [show Try.prog.cellsOf 89 = 3 by kernel_rfl] at hl
  exact ⟨⟨a, b, c⟩, list3 hl ha hb hc, wa, wb⟩
/-- numbers that are numbers of the machine -/
structure WfS (s : Sands) : Prop where
  t : ∀ x, x ∈ s.table → i64P x.min ∧ i64P x.h
  lo : i64P s.wind.lo
  hi : i64P s.wind.hi
  f : ∀ x, x ∈ s.floors → i64P x
  s : ∀ x, x ∈ s.sills → i64P x.a ∧ i64P x.b ∧ i64P x.h
set_option maxRecDepth 100000 in
theorem opSands {fuel : Nat} {cs : List Value} {x : DataW H × List MemPlace} (h : DataW.trod enc Try.prog w base sp held fuel 29 cs = some x) :
    ∃ (s : Sands) (A1 A2 A3 : Option Addr) (n1 c1 n2 c2 n3 c3 : Nat) (v1 v2 v3 : Value), cs = [.slice A1 n1 c1, .int .i64 s.wind.lo, .int .i64 s.wind.hi, .slice A2 n2 c2, .slice A3 n3 c3] ∧
      SlIn RW (fun x => i64P x.min ∧ i64P x.h) w v1 A1 n1 c1 s.table ∧ SlIn RI i64P w v2 A2 n2 c2 s.floors ∧ SlIn RS (fun x => i64P x.a ∧ i64P x.b ∧ i64P x.h) w v3 A3 n3 c3 s.sills ∧ WfS s := by
  obtain ⟨v1, A1, n1, c1, l1, e1, h1⟩ := fieldSl Try.underlying29 h 0 (T := 23) (o := 0) (e := 68) rfl (by kernel_rfl) Try.underlying23 (by kernel_rfl) opWater rfl
  obtain ⟨p, ep, wp⟩ := fieldAt Try.underlying29 h 1 (T := 25) (o := 1) (k := 2) rfl (by kernel_rfl) opSpan
  obtain ⟨v2, A2, n2, c2, l2, e2, h2⟩ := fieldSl Try.underlying29 h 2 (T := 26) (o := 3) (e := 3) rfl (by kernel_rfl) Try.underlying26 (by kernel_rfl) opI rfl
  obtain ⟨v3, A3, n3, c3, l3, e3, h3⟩ := fieldSl Try.underlying29 h 3 (T := 27) (o := 4) (e := 51) rfl (by kernel_rfl) Try.underlying27 (by kernel_rfl) opSill rfl
  have hl := structLen Try.underlying29 h
  rw [show Try.prog.cellsOf 29 = 5 by kernel_rfl] at hl
  have hv1 := h1.val
  have hv2 := h2.val
  have hv3 := h3.val
  subst hv1 hv2 hv3
  exact ⟨⟨l1, p, l2, l3⟩, A1, A2, A3, n1, c1, n2, c2, n3, c3, _, _, _, list5 hl e1 ep e2 e3, h1, h2, h3, h1.wf, wp.1, wp.2, h2.wf, h3.wf⟩
end
end Go.Proofs.Wk
namespace Go.Proofs.Wk
open Go Go.Gx
theorem opU8 {H : Type} {enc : TypeId × Value → H} {w : World} {base : Nat} {sp : Nat → Bool} {held : Bool} : Opens enc Try.prog w base sp held RU8 u8P 5 := opens_u8 Try.underlying5
end Go.Proofs.Wk

