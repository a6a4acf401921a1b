/- What the functions that the law StripMarks reaches come to, and why it holds: part 8. -/
import Derived.Test.YtnkphlgohnlooaaGreatStripMarks7
import Derived.Deep.Slices
import Derived.ChangeArms
namespace Go.Proofs.Ws
open Go Go.Fw Go.Gx Go.Sp
set_option linter.unusedVariables false
theorem refOff_eq (n lo hi : Int) : JO n lo hi = some (!inb n lo hi) := by
  unfold JO inb
  by_cases h : n < lo
  · rw [if_pos h, Option.bind_some, decide_eq_false (show ¬ lo ≤ n by omega)]; rfl
  · rw [if_neg h, Option.bind_some, decide_eq_true (show lo ≤ n by omega), Bool.true_and]
    by_cases h2 : n ≤ hi
    · rw [decide_eq_true h2, decide_eq_false (by omega)]; rfl
    · rw [decide_eq_false h2, decide_eq_true (by omega)]; rfl
theorem orO {b v : Bool} {o : Option Bool} (h : o = some v) : (if b = true then (some true : Option Bool) else o) = some (b || v) := by cases b <;> simp [h]
theorem refStrange_eq (x : Span) : yv x = some (!okSp x) := by
  unfold yv okSp
  rw [refOff_eq, Option.bind_some, refOff_eq, Option.bind_some, orO rfl, Option.bind_some]
  congr 1
  cases inb x.lo 0 30 <;> cases inb x.hi 0 30 <;> rfl
def tuB (x : Span) : Bool := decide (x.hi < x.lo)
theorem refTurned_eq (x : Span) : Jc x = some (tuB x) := rfl
def badL (x : Strip) : Bool := !okSp x.lay || (!okSp x.seeded || !okSp x.left)
def badO (x : Strip) : Bool := tuB x.lay || (tuB x.seeded || tuB x.left)
def limA (s : Scalps) (j : Nat) : Bool := (s.carried.any fun x => !okSp x) || (s.strips.take j).any badL
def ordA (s : Scalps) (j : Nat) : Bool := s.carried.any tuB || (s.strips.take j).any badO
def misA (s : Scalps) (j : Nat) : Bool := (s.strips.take j).any fun x => !inb x.tenant 0 ((s.carried.length : Int) - 1)
def wrX (x : Strip) : Bool := decide (x.lay.hi + x.seeded.hi < x.left.lo)
def wrA (s : Scalps) : Nat → Bool
  | 0 => false
  | j + 1 => wrA s j || (!limA s (j + 1) && wrX (s.strips.getD j default))
theorem wrA_succ (s : Scalps) (j : Nat) : wrA s (j + 1) = (wrA s j || (!limA s (j + 1) && wrX (s.strips.getD j default))) := rfl
theorem take_any {α : Type} {l : List α} {p : α → Bool} (d : α) {j : Nat} (hj : j < l.length) : (l.take (j + 1)).any p = ((l.take j).any p || p (l.getD j d)) := by
  rw [List.take_succ_eq_append_getElem hj, List.any_append]
  simp [List.getD_eq_getElem?_getD, hj]
theorem limA_succ {s : Scalps} {j : Nat} (hj : j < s.strips.length) : limA s (j + 1) = (limA s j || badL (s.strips.getD j default)) := by
  unfold limA
  rw [take_any default hj, Bool.or_assoc]
theorem ordA_succ {s : Scalps} {j : Nat} (hj : j < s.strips.length) : ordA s (j + 1) = (ordA s j || badO (s.strips.getD j default)) := by
  unfold ordA
  rw [take_any default hj, Bool.or_assoc]
theorem misA_succ {s : Scalps} {j : Nat} (hj : j < s.strips.length) : misA s (j + 1) = (misA s j || !inb (s.strips.getD j default).tenant 0 ((s.carried.length : Int) - 1)) := by
  unfold misA
  rw [take_any default hj]
theorem limA_mono {s : Scalps} : ∀ {j k : Nat}, j ≤ k → k ≤ s.strips.length → limA s k = false → limA s j = false
  | j, 0, h, _, hk => by have : j = 0 := by omega
                         subst this; exact hk
  | j, k + 1, h, hl, hk => by
    by_cases he : j = k + 1
    · subst he; exact hk
    · rw [limA_succ (by omega)] at hk
      exact limA_mono (k := k) (by omega) (by omega) (Bool.or_eq_false_iff.1 hk).1
theorem refCheck_L0 {s : Scalps} (hT : s.carried.length ≤ 1000) : iterM FU (zw s) ⟨false, false, 0⟩ = some ⟨s.carried.any fun x => !okSp x, s.carried.any tuB⟩ := by
  have key := iterM_run (f := zw s) (fun j => ⟨(s.carried.take j).any fun x => !okSp x, (s.carried.take j).any tuB, (j : Int)⟩) s.carried.length (b := ⟨s.carried.any fun x => !okSp x, s.carried.any tuB⟩) (fun j hj => ?_) ?_ FU (FU_lt (by omega))
  · exact key
  · unfold zw
    have hlt : (j : Int) < (s.carried.length : Int) := by omega
    simp only [hlt, if_true]
    rw [ix_nat default hj, Option.bind_some, refStrange_eq, Option.bind_some, orO rfl, Option.bind_some, take_any default hj, take_any default hj]
    cases (List.take j s.carried).any tuB with
    | true =>
      rw [if_pos rfl, Option.bind_some, addc_eq (by omega), Option.bind_some]
      rfl
    | false =>
      rw [if_neg (by simp), Option.bind_some, refTurned_eq, Option.bind_some, Option.bind_some, addc_eq (by omega), Option.bind_some]
      rfl
  · unfold zw
    simp
theorem refCheck_L1 {s : Scalps} (hS : s.strips.length ≤ 1000) (hT : s.carried.length ≤ 1000) : iterM FU (zq s) ⟨limA s 0, ordA s 0, false, false, 0⟩ = some ⟨limA s s.strips.length, ordA s s.strips.length, misA s s.strips.length, wrA s s.strips.length⟩ := by
  have key := iterM_run (f := zq s) (fun j => ⟨limA s j, ordA s j, misA s j, wrA s j, (j : Int)⟩) s.strips.length (b := ⟨limA s s.strips.length, ordA s s.strips.length, misA s s.strips.length, wrA s s.strips.length⟩) (fun j hj => ?_) ?_ FU (FU_lt (by omega))
  · exact key
  · unfold zq
    have hlt : (j : Int) < (s.strips.length : Int) := by omega
    simp only [hlt, if_true]
    rw [ix_nat default hj, Option.bind_some, refStrange_eq, Option.bind_some, refStrange_eq, Option.bind_some, refStrange_eq, Option.bind_some, orO (orO (orO rfl)), Option.bind_some, refTurned_eq, Option.bind_some, refTurned_eq, Option.bind_some, refTurned_eq, Option.bind_some, orO (orO (orO rfl)), Option.bind_some, subc_eq (by omega), Option.bind_some, refOff_eq, Option.bind_some, orO rfl, Option.bind_some]
    have h1 : (limA s j || (!okSp (s.strips.getD j default).lay || (!okSp (s.strips.getD j default).seeded || !okSp (s.strips.getD j default).left))) = limA s (j + 1) := (limA_succ hj).symm
    have h2 : (ordA s j || (tuB (s.strips.getD j default).lay || (tuB (s.strips.getD j default).seeded || tuB (s.strips.getD j default).left))) = ordA s (j + 1) := (ordA_succ hj).symm
    have h3 : (misA s j || !inb (s.strips.getD j default).tenant 0 ((s.carried.length : Int) - 1)) = misA s (j + 1) := (misA_succ hj).symm
    have e : (if wrA s j = true then (some ⟨limA s (j + 1), ordA s (j + 1), misA s (j + 1), true⟩ : Option Jv) else if (!limA s (j + 1)) = true then (addc (s.strips.getD j default).lay.hi (s.strips.getD j default).seeded.hi).bind fun t110 => some ⟨limA s (j + 1), ordA s (j + 1), misA s (j + 1), decide (t110 < (s.strips.getD j default).left.lo)⟩ else some ⟨limA s (j + 1), ordA s (j + 1), misA s (j + 1), false⟩) = some ⟨limA s (j + 1), ordA s (j + 1), misA s (j + 1), wrA s (j + 1)⟩ := by
      rw [wrA_succ]
      cases hw : wrA s j with
      | true => rfl
      | false =>
        rw [if_neg (by simp), Bool.false_or]
        cases hl : limA s (j + 1) with
        | true => rfl
        | false =>
          rw [limA_succ hj] at hl
          have hb := (Bool.or_eq_false_iff.1 hl).2
          unfold badL at hb
          obtain ⟨b1, b2⟩ := Bool.or_eq_false_iff.1 hb
          obtain ⟨b2, b3⟩ := Bool.or_eq_false_iff.1 b2
          have c1 := okSp_iff.1 (by rw [Bool.not_eq_false'] at b1; exact b1)
          have c2 := okSp_iff.1 (by rw [Bool.not_eq_false'] at b2; exact b2)
          unfold In30 at c1 c2
          rw [if_pos (by simp), addc_eq (by omega), Option.bind_some]
          rfl
    have e2 : ∀ (a b c : Bool), a = limA s (j + 1) → b = ordA s (j + 1) → c = misA s (j + 1) → ((if wrA s j = true then (some ⟨a, b, c, true⟩ : Option Jv) else if (!a) = true then (addc (s.strips.getD j default).lay.hi (s.strips.getD j default).seeded.hi).bind fun t110 => some ⟨a, b, c, decide (t110 < (s.strips.getD j default).left.lo)⟩ else some ⟨a, b, c, false⟩).bind fun o_5 => (addc (j : Int) 1).bind fun t51 => some (.inl (⟨o_5.limit3, o_5.order4, o_5.missing5, o_5.wrong6, t51⟩ : qS))) = (some (.inl (⟨limA s (j + 1), ordA s (j + 1), misA s (j + 1), wrA s (j + 1), ((j + 1 : Nat) : Int)⟩ : qS)) : Option (qS ⊕ Qj)) := by
      rintro a b c rfl rfl rfl
      rw [e, Option.bind_some, addc_eq (by omega), Option.bind_some]
      rfl
    exact e2 _ _ _ h1 h2 h3
  · unfold zq
    simp
theorem limA_end {s : Scalps} : limA s s.strips.length = !(spansOf s).all okSp := by
  unfold limA spansOf
  rw [List.take_length, List.all_append, List.all_flatMap, Bool.not_and, List.not_all_eq_any_not, List.not_all_eq_any_not]
  congr 2
  funext x
  unfold badL
  simp only [List.all_cons, List.all_nil, Bool.and_true]
  cases okSp x.lay <;> cases okSp x.seeded <;> cases okSp x.left <;> rfl
theorem tuB_not (x : Span) : tuB x = !decide (x.lo ≤ x.hi) := by
  unfold tuB
  by_cases h : x.lo ≤ x.hi
  · rw [decide_eq_true h, decide_eq_false (by omega)]; rfl
  · rw [decide_eq_false h, decide_eq_true (by omega)]; rfl
theorem ordA_end {s : Scalps} : ordA s s.strips.length = !(spansOf s).all fun x => decide (x.lo ≤ x.hi) := by
  unfold ordA spansOf
  rw [List.take_length, List.all_append, List.all_flatMap, Bool.not_and, List.not_all_eq_any_not, List.not_all_eq_any_not]
  have e : (fun x : Span => !decide (x.lo ≤ x.hi)) = tuB := by funext x; exact (tuB_not x).symm
  rw [e]
  congr 2
  funext x
  unfold badO
  rw [tuB_not, tuB_not, tuB_not]
  simp only [List.all_cons, List.all_nil, Bool.and_true]
  cases decide (x.lay.lo ≤ x.lay.hi) <;> cases decide (x.seeded.lo ≤ x.seeded.hi) <;> cases decide (x.left.lo ≤ x.left.hi) <;> rfl
theorem misA_end {s : Scalps} : misA s s.strips.length = !(s.strips.all fun x => inb x.tenant 0 ((s.carried.length : Int) - 1)) := by
  unfold misA
  rw [List.take_length, List.not_all_eq_any_not]
theorem wrA_eq {s : Scalps} (hl : limA s s.strips.length = false) : ∀ j, j ≤ s.strips.length → wrA s j = (s.strips.take j).any wrX
  | 0, _ => rfl
  | j + 1, hj => by
    rw [wrA_succ, wrA_eq hl j (by omega), limA_mono hj (Nat.le_refl _) hl, take_any default (by omega)]
    rfl
theorem wrA_end {s : Scalps} (hl : limA s s.strips.length = false) : wrA s s.strips.length = !(s.strips.all fun x => decide (0 ≤ (goneP x).hi)) := by
  rw [wrA_eq hl _ (Nat.le_refl _), List.take_length, List.not_all_eq_any_not]
  congr 1
  funext x
  unfold wrX goneP
  simp only
  by_cases h : x.lay.hi + x.seeded.hi < x.left.lo
  · rw [decide_eq_true h, decide_eq_false (by omega)]; rfl
  · rw [decide_eq_false h, decide_eq_true (by omega)]; rfl
theorem refCheck_eq {s : Scalps} (hS : s.strips.length ≤ 1000) (hT : s.carried.length ≤ 1000) : Qr s = some (chk s) := by
  unfold Qr chk
  rw [refOff_eq, Option.bind_some, refOff_eq, Option.bind_some, orO rfl, Option.bind_some]
  by_cases hin : inb (s.strips.length : Int) 1 6 = true ∧ inb (s.carried.length : Int) 1 5 = true
  · rw [if_pos hin, hin.1, hin.2, if_neg (by simp), refCheck_L0 hT, Option.bind_some]
    have e : (⟨s.carried.any fun x => !okSp x, s.carried.any tuB, false, false, 0⟩ : qS) = ⟨limA s 0, ordA s 0, false, false, 0⟩ := by
      simp [limA, ordA]
    dsimp only
    rw [e, refCheck_L1 hS hT, Option.bind_some]
    dsimp only
    rw [limA_end, misA_end, ordA_end]
    cases h1 : (spansOf s).all okSp with
    | false => rfl
    | true =>
      rw [if_neg (by simp), if_pos rfl, wrA_end (by rw [limA_end, h1]; rfl)]
      cases (s.strips.all fun x => inb x.tenant 0 ((s.carried.length : Int) - 1)) <;> cases ((spansOf s).all fun x => decide (x.lo ≤ x.hi)) <;> cases (s.strips.all fun x => decide (0 ≤ (goneP x).hi)) <;> rfl
  · rw [if_neg hin, if_pos]
    cases h1 : inb (s.strips.length : Int) 1 6 with
    | false => rfl
    | true =>
      cases h2 : inb (s.carried.length : Int) 1 5 with
      | false => rfl
      | true => exact absurd ⟨h1, h2⟩ hin
theorem wide_spec {s : Scalps} (hl : s.carried.length ≤ 9223372036854775807) : ∃ b, QY s = some b ∧ (b = false → s.strips.length ≤ 12 ∧ s.carried.length ≤ 10 ∧ (Right s → stepN s.carried s.carried.length ≤ 500)) := by
  have key : ∃ o, iterM FU (Kd s) ⟨1, 0⟩ = some o ∧ (Right s → o = (stepN s.carried s.carried.length : Int) ∨ 1000 ≤ o) := by
    refine iterM_inv (f := Kd s) (fun z => ∃ j : Nat, z.t9 = (j : Int) ∧ j ≤ s.carried.length ∧ 1 ≤ z.n3 ∧ z.n3 ≤ 31000 ∧ (Right s → z.n3 = (stepN s.carried j : Int) ∨ 1000 ≤ z.n3)) (fun z => ((s.carried.length : Int) - z.t9).toNat) _ (fun z hz => ?_) FU _ (FU_lt2 (by simp only; omega)) ⟨0, rfl, by omega, by simp, by simp, fun _ => .inl rfl⟩
    obtain ⟨j, hj, hjl, h1, h2, h3⟩ := hz
    unfold Kd
    rw [hj]
    by_cases hlt : j < s.carried.length
    · left
      rw [if_pos (by omega), ix_nat default hlt, Option.bind_some]
      have hx : s.carried.getD j default = hOf s.carried j := rfl
      rw [hx]
      by_cases hc : 0 ≤ (hOf s.carried j).hi ∧ (hOf s.carried j).hi ≤ 30 ∧ z.n3 < 1000
      · have hm1 : z.n3 * ((hOf s.carried j).hi + 1) ≤ 1000 * 31 := Int.mul_le_mul (by omega) (by omega) (by omega) (by omega)
        have hm2 : 1 * 1 ≤ z.n3 * ((hOf s.carried j).hi + 1) := Int.mul_le_mul (by omega) (by omega) (by omega) (by omega)
        rw [if_pos hc.1, if_pos hc.2.1, decide_eq_true hc.2.2, Option.bind_some, if_pos rfl, addc_eq (by omega), Option.bind_some, mulc_eq (by omega), Option.bind_some, Option.bind_some, addc_eq (by omega), Option.bind_some]
        refine ⟨_, rfl, ⟨j + 1, by push_cast; rfl, hlt, by simp only; omega, by simp only; omega, fun hR => ?_⟩, by simp only; omega⟩
        simp only
        rcases h3 hR with h4 | h4
        · left
          rw [h4, bs_eq hR hlt]
          simp [stepN]
        · omega
      · have hcf : (if 0 ≤ (hOf s.carried j).hi then if (hOf s.carried j).hi ≤ 30 then (some (decide (z.n3 < 1000)) : Option Bool) else some false else some false) = some false := by
          by_cases a : 0 ≤ (hOf s.carried j).hi
          · by_cases b : (hOf s.carried j).hi ≤ 30
            · rw [if_pos a, if_pos b, decide_eq_false (fun c => hc ⟨a, b, c⟩)]
            · rw [if_pos a, if_neg b]
          · rw [if_neg a]
        rw [hcf, Option.bind_some, if_neg (by simp), Option.bind_some, addc_eq (by omega), Option.bind_some]
        refine ⟨_, rfl, ⟨j + 1, by push_cast; rfl, hlt, by simp only; omega, by simp only; omega, fun hR => ?_⟩, by simp only; omega⟩
        simp only
        right
        have := hOf_ok hR.net hlt
        rcases h3 hR with h4 | h4 <;> omega
    · right
      rw [if_neg (by omega)]
      have : j = s.carried.length := by omega
      subst this
      exact ⟨_, rfl, h3⟩
  obtain ⟨o, ho, h3⟩ := key
  have hg : Qm s = some (decide (12 < s.strips.length ∨ 10 < s.carried.length)) := by
    unfold Qm
    by_cases h1 : 12 < s.strips.length
    · rw [if_pos (by omega), Option.bind_some, decide_eq_true (.inl h1)]
    · rw [if_neg (by omega), Option.bind_some]
      congr 1
      exact decide_eq_decide.2 ⟨fun h => .inr (by omega), fun h => by omega⟩
  unfold QY
  rw [ho, Option.bind_some, hg, Option.bind_some]
  by_cases h1 : 12 < s.strips.length ∨ 10 < s.carried.length
  · rw [decide_eq_true h1, if_pos rfl, Option.bind_some]
    exact ⟨_, rfl, fun h => by cases h⟩
  · rw [decide_eq_false h1, if_neg (by simp)]
    by_cases h2 : 500 < o
    · rw [if_pos h2, Option.bind_some]
      refine ⟨_, rfl, fun h => ⟨by omega, by omega, fun hR => ?_⟩⟩
      have := hR.net.c5
      have := of_decide_eq_false h
      omega
    · rw [if_neg h2, Option.bind_some]
      refine ⟨_, rfl, fun _ => ⟨by omega, by omega, fun hR => ?_⟩⟩
      rcases h3 hR with h4 | h4 <;> omega
theorem own_eq {s : Scalps} (hS : s.strips.length ≤ 1000) (hT : s.carried.length ≤ 1000) : Ym s = some s := by
  unfold Ym yo qM
  rw [makec_eq ⟨by omega, by omega, by omega, by omega⟩, Option.bind_some, appc_eq (by simp; omega), Option.bind_some, Option.bind_some, makec_eq ⟨by omega, by omega, by omega, by omega⟩, Option.bind_some, appc_eq (by simp; omega), Option.bind_some, Option.bind_some]
  simp
theorem theirs_eq {s : Scalps} (hS : s.strips.length ≤ 1000) (hT : s.carried.length ≤ 1000) : KJ s = some s := by
  unfold KJ qM
  rw [makec_eq ⟨by omega, by omega, by omega, by omega⟩, Option.bind_some, appc_eq (by simp; omega), Option.bind_some, Option.bind_some]
  have key := iterM_run (f := zN s) (fun j => ⟨(j : Int), s.strips.take j⟩) s.strips.length (b := s.strips) (fun j hj => ?_) ?_ FU (FU_lt (by omega))
  · have e : (⟨0, []⟩ : zW) = ⟨((0 : Nat) : Int), s.strips.take 0⟩ := rfl
    rw [e, key, Option.bind_some]
    simp
  · unfold zN
    have hlt : (j : Int) < (s.strips.length : Int) := by omega
    simp only [hlt, if_true]
    rw [ix_nat default hj, Option.bind_some, appc_eq (by simp [List.length_take]; omega), Option.bind_some, addc_eq (by omega), Option.bind_some]
    have e : s.strips.take (j + 1) = s.strips.take j ++ [s.strips.getD j default] := by
      rw [List.take_succ_eq_append_getElem hj]
      simp [List.getD_eq_getElem?_getD, hj]
    rw [e]
    rfl
  · unfold zN
    simp
theorem eqStrip {l : List Strip} (h : l.length ≤ 1000) : qK l l = some true := by
  unfold qK J0
  rw [if_pos rfl]
  have key := iterM_any0 (f := ya l l) l.length (fun _ => false) false (fun k hk => ?_) ?_ (N := FU) (FU_lt (by omega))
  · rw [key]
    have : (List.range l.length).any (fun _ => false) = false := by simp
    rw [this]; rfl
  · unfold ya
    rw [if_pos (by omega), ix_nat default hk, Option.bind_some, Option.bind_some, if_pos rfl, addc_eq (by omega), Option.bind_some]
    rfl
  · unfold ya
    rw [if_neg (by omega)]
theorem eqSpan {l : List Span} (h : l.length ≤ 1000) : zc l l = some true := by
  unfold zc JZ
  rw [if_pos rfl]
  have key := iterM_any0 (f := q9 l l) l.length (fun _ => false) false (fun k hk => ?_) ?_ (N := FU) (FU_lt (by omega))
  · rw [key]
    have : (List.range l.length).any (fun _ => false) = false := by simp
    rw [this]; rfl
  · unfold q9
    rw [if_pos (by omega), ix_nat default hk, Option.bind_some, Option.bind_some, if_pos rfl, addc_eq (by omega), Option.bind_some]
    rfl
  · unfold q9
    rw [if_neg (by omega)]
theorem same_self {s : Scalps} (hS : s.strips.length ≤ 1000) (hT : s.carried.length ≤ 1000) : KW s s = some true := by
  unfold KW
  rw [eqStrip hS, Option.bind_some, if_pos rfl, eqSpan hT]; rfl
def stB (s : Scalps) (t0 k0 : Int) (t k : Nat) : Bool := (decide (t0 < 0) || decide ((t : Int) = t0)) && ((decide (k0 < 0) || decide ((k : Int) = k0)) && othB s t k)
theorem stolen_L1 {s : Scalps} (h6 : s.strips.length ≤ 1000) (t0 k0 : Int) {t : Nat} {z : qV} (hz : z.t8 = (t : Int)) :
    iterM FU (yK t0 k0 s z) ⟨0, List.replicate s.strips.length false⟩ = some ((List.range s.strips.length).map (stB s t0 k0 t)) := by
  have key := iterM_run (f := yK t0 k0 s z) (fun k => ⟨(k : Int), (List.range s.strips.length).map fun i => if i < k then stB s t0 k0 t i else false⟩) s.strips.length (b := (List.range s.strips.length).map (stB s t0 k0 t)) (fun k hk => ?_) ?_ FU (FU_lt (by omega))
  · have e : (⟨0, List.replicate s.strips.length false⟩ : zB) = ⟨((0 : Nat) : Int), (List.range s.strips.length).map fun i => if i < 0 then stB s t0 k0 t i else false⟩ := by
      congr 1
      symm
      rw [List.eq_replicate_iff]
      refine ⟨by simp, fun b hb => ?_⟩
      obtain ⟨i, _, rfl⟩ := List.mem_map.1 hb
      rw [if_neg (by omega)]
    rw [e, key]
  · unfold yK
    have hlt : (k : Int) < (((List.range s.strips.length).map fun i => if i < k then stB s t0 k0 t i else false).length : Int) := by simp; omega
    simp only
    rw [if_pos hlt]
    have hth : (!decide ((s.strips.getD k default).tenant = z.t8)) = othB s t k := by rw [hz]; rfl
    have hend : ∀ v, v = stB s t0 k0 t k → ((List.range s.strips.length).map fun i => if i < k then stB s t0 k0 t i else false).set (Int.toNat (k : Int)) v = (List.range s.strips.length).map fun i => if i < k + 1 then stB s t0 k0 t i else false := fun v hv => by
      rw [Int.toNat_natCast, range_set]
      refine List.map_congr_left fun i _ => ?_
      by_cases hik : i = k
      · subst hik; rw [if_pos rfl, if_pos (by omega), hv]
      · rw [if_neg hik]
        by_cases h2 : i < k
        · rw [if_pos h2, if_pos (by omega)]
        · rw [if_neg h2, if_neg (by omega)]
    have hbody : (if t0 < 0 then if k0 < 0 then (ix s.strips (k : Int)).bind fun t50 => (ix ((List.range s.strips.length).map fun i => if i < k then stB s t0 k0 t i else false) (k : Int)).bind fun t56 => (some (((List.range s.strips.length).map fun i => if i < k then stB s t0 k0 t i else false).set (Int.toNat (k : Int)) (!decide (t50.tenant = z.t8)))).bind fun t21_1 => some t21_1 else if (k : Int) = k0 then (ix s.strips (k : Int)).bind fun t50 => (ix ((List.range s.strips.length).map fun i => if i < k then stB s t0 k0 t i else false) (k : Int)).bind fun t56 => (some (((List.range s.strips.length).map fun i => if i < k then stB s t0 k0 t i else false).set (Int.toNat (k : Int)) (!decide (t50.tenant = z.t8)))).bind fun t21_1 => some t21_1 else (ix ((List.range s.strips.length).map fun i => if i < k then stB s t0 k0 t i else false) (k : Int)).bind fun t56 => (some (((List.range s.strips.length).map fun i => if i < k then stB s t0 k0 t i else false).set (Int.toNat (k : Int)) false)).bind fun t21_1 => some t21_1 else if z.t8 = t0 then if k0 < 0 then (ix s.strips (k : Int)).bind fun t50 => (ix ((List.range s.strips.length).map fun i => if i < k then stB s t0 k0 t i else false) (k : Int)).bind fun t56 => (some (((List.range s.strips.length).map fun i => if i < k then stB s t0 k0 t i else false).set (Int.toNat (k : Int)) (!decide (t50.tenant = z.t8)))).bind fun t21_1 => some t21_1 else if (k : Int) = k0 then (ix s.strips (k : Int)).bind fun t50 => (ix ((List.range s.strips.length).map fun i => if i < k then stB s t0 k0 t i else false) (k : Int)).bind fun t56 => (some (((List.range s.strips.length).map fun i => if i < k then stB s t0 k0 t i else false).set (Int.toNat (k : Int)) (!decide (t50.tenant = z.t8)))).bind fun t21_1 => some t21_1 else (ix ((List.range s.strips.length).map fun i => if i < k then stB s t0 k0 t i else false) (k : Int)).bind fun t56 => (some (((List.range s.strips.length).map fun i => if i < k then stB s t0 k0 t i else false).set (Int.toNat (k : Int)) false)).bind fun t21_1 => some t21_1 else (ix ((List.range s.strips.length).map fun i => if i < k then stB s t0 k0 t i else false) (k : Int)).bind fun t56 => (some (((List.range s.strips.length).map fun i => if i < k then stB s t0 k0 t i else false).set (Int.toNat (k : Int)) false)).bind fun t21_1 => some t21_1) = some ((List.range s.strips.length).map fun i => if i < k + 1 then stB s t0 k0 t i else false) := by
      have g1 : (ix s.strips (k : Int)).bind (fun t50 => (ix ((List.range s.strips.length).map fun i => if i < k then stB s t0 k0 t i else false) (k : Int)).bind fun t56 => (some (((List.range s.strips.length).map fun i => if i < k then stB s t0 k0 t i else false).set (Int.toNat (k : Int)) (!decide (t50.tenant = z.t8)))).bind fun t21_1 => some t21_1) = some (((List.range s.strips.length).map fun i => if i < k then stB s t0 k0 t i else false).set (Int.toNat (k : Int)) (othB s t k)) := by
        rw [ix_nat default hk, Option.bind_some, range_ix hk, Option.bind_some, Option.bind_some, hth]
      have g2 : (ix ((List.range s.strips.length).map fun i => if i < k then stB s t0 k0 t i else false) (k : Int)).bind (fun t56 => (some (((List.range s.strips.length).map fun i => if i < k then stB s t0 k0 t i else false).set (Int.toNat (k : Int)) false)).bind fun t21_1 => some t21_1) = some (((List.range s.strips.length).map fun i => if i < k then stB s t0 k0 t i else false).set (Int.toNat (k : Int)) false) := by
        rw [range_ix hk, Option.bind_some, Option.bind_some]
      rw [g1, g2, hz]
      by_cases a1 : t0 < 0
      · rw [if_pos a1]
        by_cases a2 : k0 < 0
        · rw [if_pos a2, hend]; simp [stB, a1, a2]
        · rw [if_neg a2]
          by_cases a3 : (k : Int) = k0
          · rw [if_pos a3, hend]; simp [stB, a1, a3]
          · rw [if_neg a3, hend]; simp [stB, a2, a3]
      · rw [if_neg a1]
        by_cases a4 : (t : Int) = t0
        · rw [if_pos a4]
          by_cases a2 : k0 < 0
          · rw [if_pos a2, hend]; simp [stB, a4, a2]
          · rw [if_neg a2]
            by_cases a3 : (k : Int) = k0
            · rw [if_pos a3, hend]; simp [stB, a4, a3]
            · rw [if_neg a3, hend]; simp [stB, a2, a3]
        · rw [if_neg a4, hend]; simp [stB, a1, a4]
    rw [hbody, Option.bind_some, addc_eq (by omega), Option.bind_some]
    rfl
  · unfold yK
    simp only
    rw [if_neg (by simp)]
    congr 2
    refine List.map_congr_left fun i hi => ?_
    rw [if_pos (List.mem_range.1 hi)]
theorem refStolen_eq {s : Scalps} (h6 : s.strips.length ≤ 1000) (h5 : s.carried.length ≤ 1000) (t0 k0 : Int) : J4 s t0 k0 = some ((List.range s.carried.length).map fun t => (List.range s.strips.length).map (stB s t0 k0 t)) := by
  unfold J4
  have key := iterM_run (f := zC s t0 k0) (fun t => ⟨(t : Int), (List.range t).map fun t => (List.range s.strips.length).map (stB s t0 k0 t)⟩) s.carried.length (b := (List.range s.carried.length).map fun t => (List.range s.strips.length).map (stB s t0 k0 t)) (fun t ht => ?_) ?_ FU (FU_lt (by omega))
  · have e : (⟨0, []⟩ : qV) = ⟨((0 : Nat) : Int), (List.range 0).map fun t => (List.range s.strips.length).map (stB s t0 k0 t)⟩ := rfl
    rw [e, key]; rfl
  · unfold zC
    have hlt : (t : Int) < (s.carried.length : Int) := by omega
    simp only
    rw [if_pos hlt, makec_eq ⟨by omega, by omega, by omega, by omega⟩, Option.bind_some, Int.toNat_natCast, stolen_L1 h6 t0 k0 rfl, Option.bind_some, appc_eq (by simp; omega), Option.bind_some, addc_eq (by omega), Option.bind_some, List.range_succ, List.map_append]
    rfl
  · unfold zC
    simp
theorem rows_ix {T S : Nat} {b : Nat → Nat → Bool} {t k : Nat} (ht : t < T) (hk : k < S) : ∃ row, ix ((List.range T).map fun t => (List.range S).map (b t)) (t : Int) = some row ∧ ix row (k : Int) = some (b t k) :=
  ⟨_, range_ix ht, range_ix hk⟩
end Go.Proofs.Ws

namespace Go.Proofs.Ws
open Go Go.Fw Go.Gx Go.Sp
set_option linter.unusedVariables false
theorem sum_has {f : Nat → Int} {n : Nat} : ∀ {l : List Int}, l.Nodup → (∀ x, x ∈ l → 0 ≤ x ∧ x < (n : Int)) → sumI (fun x => f x.toNat) l = sumTo (fun v => if hasZ l v = true then f v else 0) n
  | [], _, _ => by
    rw [sumTo_congr (g := fun _ => 0) (fun v _ => by simp [hasZ]), sumTo_zero]; rfl
  | x :: l, hn, hr => by
    obtain ⟨n1, n2⟩ := List.nodup_cons.1 hn
    have hx := hr x (by simp)
    have ih := sum_has (f := f) n2 (fun y hy => hr y (List.mem_cons_of_mem _ hy))
    have e : sumTo (fun v => if hasZ (x :: l) v = true then f v else 0) n = sumTo (fun v => (if v = x.toNat then f v else 0) + (if hasZ l v = true then f v else 0)) n := by
      refine sumTo_congr fun v _ => ?_
      have h1 : hasZ (x :: l) v = (decide ((v : Int) = x) || hasZ l v) := rfl
      rw [h1]
      by_cases hv : (v : Int) = x
      · have hnl : hasZ l v = false := by
          rw [← Bool.not_eq_true, hasZ_iff, hv]; exact n1
        rw [decide_eq_true hv, hnl, if_pos (by simp), if_pos (by omega), if_neg (by simp)]; omega
      · rw [decide_eq_false hv, if_neg (show ¬ v = x.toNat by omega), Bool.false_or]; omega
    rw [e, sumTo_add, sumTo_one (by omega), ← ih]
    rfl
theorem asc_lt {l : List Int} (h : ascB l = true) : ∀ {i j : Nat}, i < j → j < l.length → gtI l i < gtI l j
  | i, 0, h1, _ => by omega
  | i, j + 1, h1, h2 => by
    have hs : gtI l j < gtI l (j + 1) := by
      unfold ascB at h
      exact of_decide_eq_true (List.all_eq_true.1 h j (List.mem_range.2 (by omega)))
    by_cases he : i = j
    · subst he; exact hs
    · have := asc_lt h (i := i) (j := j) (by omega) (by omega); omega
theorem asc_nodup {l : List Int} (h : ascB l = true) : l.Nodup := by
  rw [List.nodup_iff_pairwise_ne, List.pairwise_iff_getElem]
  intro i j hi hj hij he
  have := asc_lt h hij hj
  unfold gtI at this
  rw [List.getD_eq_getElem?_getD, List.getD_eq_getElem?_getD, List.getElem?_eq_getElem hi, List.getElem?_eq_getElem hj] at this
  simp only [Option.getD_some] at this
  omega
theorem reI_reach {st : List Strip} {mp : List (Pair × Bool)} (h : MapOK st mp) {t k : Nat} (hk : k < st.length) : reI mp (t : Int) (k : Int) = reachB st t k := rOf_reach h hk
def sumL (f : Int → Int) (l : List Int) (j : Nat) : Int := sumI f (l.take j)
theorem sumL_succ {f : Int → Int} {l : List Int} {j : Nat} (hj : j < l.length) : sumL f l (j + 1) = sumL f l j + f (gtI l j) := by
  unfold sumL
  rw [List.take_succ_eq_append_getElem hj, sumI_append]
  have : gtI l j = l[j] := by simp [gtI, List.getD_eq_getElem?_getD, hj]
  rw [this]
  simp [sumI]
theorem sumI_bd {f : Int → Int} {b : Int} : ∀ {l : List Int}, (∀ x, x ∈ l → 0 ≤ f x ∧ f x ≤ b) → 0 ≤ sumI f l ∧ sumI f l ≤ b * (l.length : Int)
  | [], _ => by simp [sumI]
  | x :: l, h => by
    have h1 := h x (by simp)
    have h2 := sumI_bd (l := l) (fun y hy => h y (List.mem_cons_of_mem _ hy))
    have e : sumI f (x :: l) = f x + sumI f l := rfl
    rw [e]
    simp only [List.length_cons]
    push_cast
    rw [Int.mul_add]
    omega
end Go.Proofs.Ws

namespace Go.Proofs.Ws
open Go Go.Fw Go.Gx Go.Sp
set_option linter.unusedVariables false
def lkR (s : Scalps) (b : Bool) (n : Nat) (x : Int) : Bool := if b = true then reachB s.strips x.toNat n else reachB s.strips n x.toNat
def lkN (s : Scalps) (b : Bool) (x : Int) : Int := if b = true then (hOf s.carried x.toNat).lo else (gOf s.strips x.toNat).lo
def lkC (s : Scalps) (b : Bool) (l : List Int) (n : Nat) : Int := if l.any (lkR s b n) = true then (if b = true then (gOf s.strips n).hi else (hOf s.carried n).hi) else 0
theorem refLacks_L4 {s : Scalps} (h : Right s) {b : Bool} {l : List Int} (hl : l.length < 100000) (hin : ∀ x, x ∈ l → 0 ≤ x ∧ x < (if b = true then (s.carried.length : Int) else (s.strips.length : Int))) {z : qT} {n : Nat} (hz : z.n14 = (n : Int)) (hn : b = true → n < s.strips.length) :
    iterM FU (zn l b s z) ⟨false, 0⟩ = some (l.any (lkR s b n)) := by
  have h6 := h.net.s6
  have key := iterM_run (f := zn l b s z) (fun j => ⟨(l.take j).any (lkR s b n), (j : Int)⟩) l.length (b := l.any (lkR s b n)) (fun j hj => ?_) ?_ FU (FU_lt (by omega))
  · exact key
  · unfold zn
    have hlt : (j : Int) < (l.length : Int) := by omega
    simp only
    rw [if_pos hlt]
    have hm : gtI l j ∈ l := by
      have : gtI l j = l[j] := by simp [gtI, List.getD_eq_getElem?_getD, hj]
      rw [this]; exact List.getElem_mem hj
    have hr := hin _ hm
    have hix : ix l (j : Int) = some (gtI l j) := ix_nat 0 hj
    have hxn : gtI l j = ((gtI l j).toNat : Int) := by omega
    have hb : (if (l.take j).any (lkR s b n) = true then (some true : Option Bool) else if b = true then (ix l (j : Int)).bind fun t109 => (kl s t109 z.n14).bind fun t112 => if t112 = true then some true else if (!b) = true then (ix l (j : Int)).bind fun t123 => (kl s z.n14 t123).bind fun t125 => some t125 else some false else if (!b) = true then (ix l (j : Int)).bind fun t123_1 => (kl s z.n14 t123_1).bind fun t125_1 => some t125_1 else some false) = some ((l.take (j + 1)).any (lkR s b n)) := by
      rw [take_any 0 hj]
      refine orO ?_
      rw [hix, hz]
      show _ = some (lkR s b n (gtI l j))
      unfold lkR
      cases b with
      | true =>
        rw [if_pos rfl, if_pos rfl, Option.bind_some]
        have e : kl s (gtI l j) (n : Int) = some (reachB s.strips (gtI l j).toNat n) := by
          conv => lhs; rw [hxn]
          exact refReaches_eq (by omega) (hn rfl)
        rw [e, Option.bind_some]
        cases reachB s.strips (gtI l j).toNat n <;> rfl
      | false =>
        simp only [Bool.false_eq_true, if_false] at hr
        rw [if_neg (by simp), if_pos (show (!false) = true from rfl), Option.bind_some, if_neg (by simp)]
        have e : kl s (n : Int) (gtI l j) = some (reachB s.strips n (gtI l j).toNat) := by
          conv => lhs; rw [hxn]
          exact refReaches_eq (by omega) (by omega)
        rw [e]; rfl
    rw [hb, Option.bind_some, addc_eq (by omega), Option.bind_some]
    rfl
  · unfold zn
    simp
theorem lkC_bd {s : Scalps} (h : Right s) {b : Bool} {l : List Int} {n : Nat} (hn : if b = true then n < s.strips.length else n < s.carried.length) : 0 ≤ lkC s b l n ∧ lkC s b l n ≤ 60 := by
  unfold lkC
  cases b with
  | true =>
    simp only [if_true] at hn ⊢
    have := gOf_ok h.net hn
    split <;> omega
  | false =>
    simp only [Bool.false_eq_true, if_false] at hn ⊢
    have := hOf_ok h.net hn
    split <;> omega
theorem refLacks_L3 {s : Scalps} (h : Right s) {b : Bool} {l : List Int} (hl : l.length < 100000) {o : Int} (ho : o = (if b = true then (s.carried.length : Int) else (s.strips.length : Int))) (hin : ∀ x, x ∈ l → 0 ≤ x ∧ x < o) :
    iterM FU (zl s o l b) ⟨0, 0⟩ = some (sumTo (lkC s b l) (if b = true then s.strips.length else s.carried.length)) := by
  have h6 := h.net.s6; have h5 := h.net.c5
  generalize hN : (if b = true then s.strips.length else s.carried.length) = N
  have hN11 : N ≤ 11 := by rw [← hN]; split <;> omega
  have hNe : (s.strips.length : Int) + (s.carried.length : Int) - o = (N : Int) := by rw [ho, ← hN]; split <;> omega
  have hbn : ∀ n, n < N → (if b = true then n < s.strips.length else n < s.carried.length) := fun n hn => by
    rw [← hN] at hn
    cases b <;> simpa using hn
  have key := iterM_run (f := zl s o l b) (fun n => ⟨sumTo (lkC s b l) n, (n : Int)⟩) N (b := sumTo (lkC s b l) N) (fun n hn => ?_) ?_ FU (FU_lt (by omega))
  · exact key
  · unfold zl
    have hbd := sumTo_bound (f := lkC s b l) (b := 60) (n := n) (fun i hi => lkC_bd h (hbn i (by omega)))
    have hcb := lkC_bd h (l := l) (hbn n hn)
    have hle : 0 ≤ o ∧ o ≤ 6 := by rw [ho]; split <;> omega
    simp only
    rw [addc_eq (by omega), Option.bind_some, subc_eq (by omega), Option.bind_some, hNe, if_pos (by omega), refLacks_L4 h hl (by rw [← ho]; exact hin) rfl (fun hb => by have := hbn n hn; rw [if_pos hb] at this; exact this), Option.bind_some]
    have hfin : ∀ c : Int, c = sumTo (lkC s b l) (n + 1) → ((some c : Option Int).bind fun o_6 => (addc (n : Int) 1).bind fun t95 => (some (.inl (⟨o_6, t95⟩ : qT)) : Option (qT ⊕ Int))) = some (.inl ⟨sumTo (lkC s b l) (n + 1), ((n + 1 : Nat) : Int)⟩) := fun c hc => by
      rw [Option.bind_some, addc_eq (by omega), Option.bind_some, hc]; rfl
    have hs1 : sumTo (lkC s b l) (n + 1) = sumTo (lkC s b l) n + lkC s b l n := rfl
    have hbn' := hbn n hn
    cases hany : l.any (lkR s b n) with
    | false =>
      have hc0 : lkC s b l n = 0 := by unfold lkC; rw [hany]; rfl
      rw [if_neg (by simp), Option.bind_some, if_neg (by simp), Option.bind_some, if_neg (by simp), Option.bind_some, if_neg (by simp)]
      exact hfin _ (by rw [hs1, hc0]; omega)
    | true =>
      rw [if_pos rfl, if_pos rfl]
      cases b with
      | true =>
        simp only [if_true] at hbn'
        have hc0 : lkC s true l n = (gOf s.strips n).hi := by unfold lkC; rw [hany]; rfl
        rw [Option.bind_some, if_pos rfl, refGone_eq h hbn', Option.bind_some, addc_eq (by rw [← hc0]; omega), Option.bind_some, Option.bind_some, Option.bind_some, if_neg (by simp)]
        exact hfin _ (by rw [hs1, hc0])
      | false =>
        simp only [Bool.false_eq_true, if_false] at hbn'
        have hc0 : lkC s false l n = (hOf s.carried n).hi := by unfold lkC; rw [hany]; rfl
        have hca : ix s.carried (n : Int) = some (hOf s.carried n) := ix_nat default hbn'
        rw [Option.bind_some, if_neg (by simp), Option.bind_some, Option.bind_some, if_pos (show (!false) = true from rfl), hca, Option.bind_some, addc_eq (by rw [← hc0]; omega), Option.bind_some]
        exact hfin _ (by rw [hs1, hc0])
  · unfold zl
    have hle : 0 ≤ o ∧ o ≤ 6 := by rw [ho]; split <;> omega
    simp only
    rw [addc_eq (by omega), Option.bind_some, subc_eq (by omega), Option.bind_some, hNe, if_neg (by omega)]
theorem refLacks_L2 {s : Scalps} (h : Right s) {b : Bool} {l : List Int} (hl : l.length < 100000) (hin : ∀ x, x ∈ l → 0 ≤ x ∧ x < (if b = true then (s.carried.length : Int) else (s.strips.length : Int))) :
    iterM FU (zm l b s) ⟨0, 0⟩ = some (sumI (lkN s b) l) := by
  have hbd : ∀ x, x ∈ l → 0 ≤ lkN s b x ∧ lkN s b x ≤ 60 := fun x hx => by
    have hr := hin x hx
    unfold lkN
    cases b with
    | true =>
      simp only [if_true] at hr ⊢
      have := hOf_ok h.net (show x.toNat < s.carried.length by omega); omega
    | false =>
      simp only [Bool.false_eq_true, if_false] at hr ⊢
      have := gOf_ok h.net (show x.toNat < s.strips.length by omega); omega
  have key := iterM_run (f := zm l b s) (fun j => ⟨sumL (lkN s b) l j, (j : Int)⟩) l.length (b := sumI (lkN s b) l) (fun j hj => ?_) ?_ FU (FU_lt (by omega))
  · exact key
  · unfold zm
    have hm : gtI l j ∈ l := by
      have : gtI l j = l[j] := by simp [gtI, List.getD_eq_getElem?_getD, hj]
      rw [this]; exact List.getElem_mem hj
    have hr := hin _ hm
    have hb1 := hbd _ hm
    have hb2 := sumI_bd (f := lkN s b) (b := 60) (l := l.take j) (fun x hx => hbd x (List.mem_of_mem_take hx))
    rw [List.length_take] at hb2
    have hb3 : 0 ≤ sumL (lkN s b) l j ∧ sumL (lkN s b) l j ≤ 6000000 := by
      unfold sumL; omega
    have hix : ix l (j : Int) = some (gtI l j) := ix_nat 0 hj
    have hxn : gtI l j = ((gtI l j).toNat : Int) := by omega
    simp only
    rw [if_pos (by omega), hix]
    have e : (if b = true then (some (gtI l j) : Option Int).bind fun t68 => (ix s.carried t68).bind fun t70 => (addc (sumL (lkN s b) l j) t70.lo).bind fun t73 => some t73 else (some (gtI l j)).bind fun t78 => (Jl s t78).bind fun t80 => (addc (sumL (lkN s b) l j) t80.lo).bind fun t82 => some t82) = some (sumL (lkN s b) l (j + 1)) := by
      rw [sumL_succ hj]
      cases b with
      | true =>
        simp only [if_true] at hr
        have e1 : lkN s true (gtI l j) = (hOf s.carried (gtI l j).toNat).lo := rfl
        have hca : ix s.carried (gtI l j) = some (hOf s.carried (gtI l j).toNat) := ix_eq default hr.1 hr.2
        rw [if_pos rfl, Option.bind_some, hca, Option.bind_some, addc_eq (by rw [← e1]; omega), Option.bind_some, e1]
      | false =>
        simp only [Bool.false_eq_true, if_false] at hr
        have e1 : lkN s false (gtI l j) = (gOf s.strips (gtI l j).toNat).lo := rfl
        have hca : Jl s (gtI l j) = some (gOf s.strips (gtI l j).toNat) := by
          conv => lhs; rw [hxn]
          exact refGone_eq h (by omega)
        rw [if_neg (by simp), Option.bind_some, hca, Option.bind_some, addc_eq (by rw [← e1]; omega), Option.bind_some, e1]
    rw [e, Option.bind_some, addc_eq (by omega), Option.bind_some]
    rfl
  · unfold zm
    simp [sumL]
theorem refLacks_L0 {l : List Int} {o : Int} (hl : l.length < 100000) (ho : 0 ≤ o ∧ o ≤ 1000) : iterM FU (zr l o) 0 = some (if (l.all fun x => inb x 0 (o - 1)) = true then .inl () else .inr ⟨0, 1⟩) := by
  have key := iterM_any0 (f := zr l o) l.length (fun k => !inb (gtI l k) 0 (o - 1)) ⟨0, 1⟩ (fun k hk => ?_) ?_ (N := FU) (FU_lt (by omega))
  · rw [key]
    have e : (List.range l.length).any (fun k => !inb (gtI l k) 0 (o - 1)) = l.any fun x => !inb x 0 (o - 1) := any_range (l := l) (d := 0) (p := fun x => !inb x 0 (o - 1))
    rw [e, ← not_any_not]
    cases l.any fun x => !inb x 0 (o - 1) <;> rfl
  · unfold zr
    rw [if_pos (by omega), ix_nat 0 hk, Option.bind_some, subc_eq (by omega), Option.bind_some, refOff_eq, Option.bind_some]
    show _ = some (if (!inb (gtI l k) 0 (o - 1)) = true then _ else _)
    have : l.getD k 0 = gtI l k := rfl
    rw [this]
    cases inb (gtI l k) 0 (o - 1) with
    | true => rw [if_neg (by simp), addc_eq (by omega), Option.bind_some]; rfl
    | false => rfl
  · unfold zr
    rw [if_neg (by omega)]
theorem refLacks_L1 {l : List Int} (hl : l.length < 100000) : iterM FU (zk l) 1 = some (if ascB l = true then .inl () else .inr ⟨0, 4⟩) := by
  have key := iterM_any (f := zk l) 1 (l.length - 1) (fun j => !decide (gtI l j < gtI l (j + 1))) (fun _ => (⟨0, 4⟩ : qt)) (fun j hj => ?_) ?_ (N := FU) (FU_lt (by omega))
  · rw [key]
    have e : ascB l = ((List.range (l.length - 1)).find? fun j => !decide (gtI l j < gtI l (j + 1))).isNone := by
      unfold ascB; exact all_find
    rw [e]
    cases (List.range (l.length - 1)).find? fun j => !decide (gtI l j < gtI l (j + 1)) <;> rfl
  · unfold zk
    have i1 : ix l (1 + (j : Int)) = some (gtI l (j + 1)) := by
      rw [show 1 + (j : Int) = ((j + 1 : Nat) : Int) by push_cast; omega]
      exact ix_nat 0 (by omega)
    have i2 : ix l (j : Int) = some (gtI l j) := ix_nat 0 (by omega)
    rw [if_pos (by omega), i1, Option.bind_some, subc_eq (by omega), Option.bind_some, show 1 + (j : Int) - 1 = (j : Int) by omega, i2, Option.bind_some]
    by_cases hle : gtI l (j + 1) ≤ gtI l j
    · rw [if_pos hle, decide_eq_false (by omega)]; rfl
    · rw [if_neg hle, decide_eq_true (by omega), addc_eq (by omega), Option.bind_some]; rfl
  · unfold zk
    rw [if_neg (by omega)]
theorem any_congr {α : Type} {l : List α} {p q : α → Bool} (h : ∀ x, x ∈ l → p x = q x) : l.any p = l.any q := by
  rw [Bool.eq_iff_iff, List.any_eq_true, List.any_eq_true]
  exact ⟨fun ⟨x, a, b⟩ => ⟨x, a, by rw [← h x a]; exact b⟩, fun ⟨x, a, b⟩ => ⟨x, a, by rw [h x a]; exact b⟩⟩
theorem refLacks_eq {s : Scalps} (h : Right s) {mp : List (Pair × Bool)} (hm : MapOK s.strips mp) {l : Lack} (hl : l.of_.length < 100000) : Qz s l.tenants l.of_ = some ⟨(showR s mp l).r0, (showR s mp l).r1⟩ := by
  have h6 := h.net.s6; have h5 := h.net.c5
  unfold Qz
  have ho : (if l.tenants = true then (some (s.carried.length : Int) : Option Int) else some (s.strips.length : Int)) = some (manyL s l) := by unfold manyL; split <;> rfl
  have hob : 0 ≤ manyL s l ∧ manyL s l ≤ 1000 := by unfold manyL; split <;> omega
  rw [ho, Option.bind_some, refLacks_L0 hl hob, Option.bind_some]
  unfold showR
  by_cases hall : (l.of_.all fun x => inb x 0 (manyL s l - 1)) = true
  · rw [if_pos hall, if_pos hall, oc_inl, refLacks_L1 hl, Option.bind_some]
    by_cases hasc : ascB l.of_ = true
    · rw [if_pos hasc, oc_inl, hasc, Bool.and_true]
      by_cases h0 : l.of_.length = 0
      · rw [if_pos (by omega), if_neg (by simp [h0])]
      · have hin : ∀ x, x ∈ l.of_ → 0 ≤ x ∧ x < manyL s l := fun x hx => by
          have := inb_iff.1 (List.all_eq_true.1 hall x hx); omega
        rw [if_neg (by omega), if_pos (decide_eq_true h0), refLacks_L2 h hl (b := l.tenants) hin, Option.bind_some, refLacks_L3 h hl (o := manyL s l) rfl hin, Option.bind_some]
        have hnd := asc_nodup hasc
        have hv : sumI (lkN s l.tenants) l.of_ - sumTo (lkC s l.tenants l.of_) (if l.tenants = true then s.strips.length else s.carried.length) = lackV s mp l := by
          unfold lackV
          unfold manyL at hin
          cases hb : l.tenants with
          | true =>
            rw [hb] at hin
            simp only [if_true] at hin ⊢
            have e1 : sumI (lkN s true) l.of_ = sumTo (needT s l.of_) s.carried.length := sum_has (f := fun v => (hOf s.carried v).lo) hnd hin
            rw [e1]
            congr 1
            refine sumTo_congr fun k hk => ?_
            unfold lkC canT
            rw [any_congr (q := fun t => reI mp t (k : Int)) (fun x hx => ?_)]
            · rfl
            · have := hin x hx
              show reachB s.strips x.toNat k = _
              rw [← reI_reach hm hk, show ((x.toNat : Nat) : Int) = x by omega]
          | false =>
            rw [hb] at hin
            simp only [Bool.false_eq_true, if_false] at hin ⊢
            have e1 : sumI (lkN s false) l.of_ = sumTo (needK s l.of_) s.strips.length := sum_has (f := fun v => (gOf s.strips v).lo) hnd hin
            rw [e1]
            congr 1
            refine sumTo_congr fun t ht => ?_
            unfold lkC canK
            rw [any_congr (q := fun k => reI mp (t : Int) k) (fun x hx => ?_)]
            · rfl
            · have := hin x hx
              show reachB s.strips t x.toNat = _
              rw [← reI_reach hm (show x.toNat < s.strips.length by omega), show ((x.toNat : Nat) : Int) = x by omega]
        have hb1 := sumI_bd (f := lkN s l.tenants) (b := 60) (l := l.of_) (fun x hx => by
          have hr := hin x hx
          unfold manyL at hr
          unfold lkN
          cases hb : l.tenants with
          | true =>
            rw [hb] at hr
            simp only [if_true] at hr ⊢
            have := hOf_ok h.net (show x.toNat < s.carried.length by omega); omega
          | false =>
            rw [hb] at hr
            simp only [Bool.false_eq_true, if_false] at hr ⊢
            have := gOf_ok h.net (show x.toNat < s.strips.length by omega); omega)
        have hb2 := sumTo_bound (f := lkC s l.tenants l.of_) (b := 60) (n := if l.tenants = true then s.strips.length else s.carried.length) (fun i hi => lkC_bd h (by
          cases hb : l.tenants <;> simpa [hb] using hi))
        have hb3 : (((if l.tenants = true then s.strips.length else s.carried.length : Nat)) : Int) ≤ 6 := by split <;> omega
        by_cases hle : lackV s mp l < 1
        · rw [if_pos hle, if_pos (by omega)]
        · rw [if_neg hle, if_neg (by omega), subc_eq (by omega), Option.bind_some, hv]
    · have hf : ascB l.of_ = false := by simpa using hasc
      rw [if_neg hasc, oc_inr, hf, Bool.and_false, if_neg (by simp)]
  · rw [if_neg hall, if_neg hall, oc_inr]
end Go.Proofs.Ws

namespace Go.Proofs.Ws
open Go Go.Fw Go.Gx Go.Sp
set_option linter.unusedVariables false
theorem stB_all (s : Scalps) : (fun t k => cnt (stB s (-1) (-1) t k)) = thC s := by
  funext t k
  unfold thC stB
  rfl
theorem range_theft {s : Scalps} (h : Right s) (hN : stepN s.carried s.carried.length ≤ 500) : ∃ cb, J4 s (-1) (-1) = some cb ∧ ((∃ lo hi, JB s cb = some ⟨lo, hi, true⟩ ∧ IsRange s (thC s) lo hi) ∨ (JB s cb = some ⟨0, 0, false⟩ ∧ NoFit s)) := by
  have h6 := h.net.s6; have h5 := h.net.c5
  refine ⟨_, refStolen_eq (by omega) (by omega) (-1) (-1), ?_⟩
  have := Range_spec h (by omega) (bt := stB s (-1) (-1)) (fun t k ht hk => rows_ix (b := stB s (-1) (-1)) ht hk)
  rw [stB_all] at this
  exact this
end Go.Proofs.Ws

namespace Go.Proofs.Ws
open Go Go.Fw Go.Gx Go.Sp
set_option linter.unusedVariables false
theorem eq_loop {n : Nat} (hl : n ≤ 1000) {f : Int → Option (Int ⊕ (Unit ⊕ Bool))} (h1 : ∀ k : Nat, k < n → f (k : Int) = some (.inl ((k : Int) + 1))) (h2 : f (n : Int) = some (.inr (.inl ()))) : iterM FU f 0 = some (.inl ()) := by
  have key := iterM_any0 (f := f) n (fun _ => false) false (fun k hk => by rw [h1 k hk]; rfl) h2 (N := FU) (FU_lt (by omega))
  rw [key]
  have : (List.range n).any (fun _ => false) = false := by simp
  rw [this]; rfl
def lostV (missing found : Bool) : Int := if missing = true then 1 else if found = true then 0 else 7
def outB (n : Int) (l : Nat) : Bool := decide (n < 0 ∨ (l : Int) ≤ n)
theorem outB_not {n : Int} {l : Nat} (h : outB n l = false) : ∃ k : Nat, n = (k : Int) ∧ k < l := by
  have := of_decide_eq_false h
  exact ⟨n.toNat, by omega, by omega⟩
theorem outB_inb {n : Int} {l : Nat} : inb n 0 ((l : Int) - 1) = !outB n l := by
  unfold inb outB
  by_cases h1 : 0 ≤ n
  · by_cases h2 : n ≤ (l : Int) - 1
    · rw [decide_eq_true h1, decide_eq_true h2, decide_eq_false (by omega)]; rfl
    · rw [decide_eq_true h1, decide_eq_false h2, decide_eq_true (show n < 0 ∨ (l : Int) ≤ n by omega)]; rfl
  · rw [decide_eq_false h1, decide_eq_true (show n < 0 ∨ (l : Int) ≤ n by omega)]; rfl
structure Agr (s : Scalps) (c : Nat → Nat → Int) (out found : Bool) (lo hi : Int) : Prop where
  zero : lostV out found ≠ 0 → lo = 0 ∧ hi = 0
  is : lostV out found = 0 → IsRange s c lo hi
theorem Agr.uniq {s : Scalps} {c : Nat → Nat → Int} {out found : Bool} {lo hi lo' hi' : Int} (h : Agr s c out found lo hi) (h' : Agr s c out found lo' hi') : lo = lo' ∧ hi = hi' := by
  by_cases h0 : lostV out found = 0
  · exact (h.is h0).uniq (h'.is h0)
  · obtain ⟨a, b⟩ := h.zero h0
    obtain ⟨c, d⟩ := h'.zero h0
    omega
end Go.Proofs.Ws

namespace Go.Proofs.Ws
open Go Go.Fw Go.Gx Go.Sp
set_option linter.unusedVariables false
theorem Dup_eq {l : List Int} (h : l.length ≤ 100000) : zj l = some l := by
  unfold zj
  rw [makec_eq ⟨by omega, by omega, by omega, by omega⟩, Option.bind_some, appc_eq (by simp; omega), Option.bind_some]
  simp
theorem eqInt {l : List Int} (h : l.length ≤ 1000) : qB l l = some true := by
  have hloop := eq_loop (f := kJ l l) h (fun k hk => by
    unfold kJ
    rw [if_pos (by omega), ix_nat 0 hk, Option.bind_some, Option.bind_some, if_pos rfl, addc_eq (by omega), Option.bind_some]) (by
    unfold kJ
    rw [if_neg (by omega)])
  unfold qB
  rw [if_pos rfl, hloop]
  rfl
theorem EqInt_eq {l : List Int} (h : l.length ≤ 1000) : yj l l = some true := by
  unfold yj; rw [eqInt h]; rfl
end Go.Proofs.Ws

namespace Go.Proofs.Ws
open Go Go.Fw Go.Gx Go.Sp
set_option linter.unusedVariables false
def nowSp (was c : Span) : Span := ⟨max was.lo c.lo, min was.hi c.hi⟩
def weighR (s : Scalps) (tenant : Int) (c : Span) : qY :=
  if inb tenant 0 ((s.carried.length : Int) - 1) = true then
    if okSp c = true then
      if c.hi < c.lo then ⟨⟨[], []⟩, 4⟩
      else if (nowSp (s.carried.getD tenant.toNat default) c).hi < (nowSp (s.carried.getD tenant.toNat default) c).lo then ⟨⟨[], []⟩, 7⟩
      else ⟨⟨s.strips, s.carried.set tenant.toNat (nowSp (s.carried.getD tenant.toNat default) c)⟩, 0⟩
    else ⟨⟨[], []⟩, 3⟩
  else ⟨⟨[], []⟩, 1⟩
theorem Weigh_spec {s : Scalps} (h : Right s) (tenant : Int) (c : Span) : JA s tenant c = some (weighR s tenant c) := by
  have h5 := h.net.c5; have h6 := h.net.s6; have h1 := h.s1; have hc1 := h.c1
  unfold JA weighR
  rw [QH, Option.bind_some, of_right h, if_pos rfl, QQ (by omega), Option.bind_some, not_true_if]
  split
  · rename_i hin
    have hin' := inb_iff.1 hin
    rw [Yv, Option.bind_some, not_true_if]
    split
    · split
      · rfl
      · rw [ix_eq default (by omega) (by omega), Option.bind_some, KZ, Option.bind_some, Option.bind_some]
        unfold nowSp
        simp only
        split
        · rfl
        · unfold JW
          rw [if_pos (by omega), appc_eq (by simp only [List.length_nil]; omega), Option.bind_some, Option.bind_some, makec_eq (by omega), Option.bind_some, Option.bind_some]
          have hl : (List.replicate (s.carried.length : Int).toNat (⟨0, 0⟩ : Span)).length = s.carried.length := by simp
          simp only
          rw [if_pos (by rw [hl]; exact Int.le_refl _), Option.bind_some]
          have hd : (List.replicate (s.carried.length : Int).toNat (⟨0, 0⟩ : Span)).drop s.carried.length = [] := List.drop_eq_nil_of_le (by rw [hl]; exact Nat.le_refl _)
          rw [hd, List.append_nil, ix_eq default (by omega) (by omega), Option.bind_some, Option.bind_some, List.nil_append]
    · rfl
  · rfl
theorem Weigh_wrong {s : Scalps} (h : chk s ≠ 0) (tenant : Int) (c : Span) : JA s tenant c = some ⟨⟨[], []⟩, chk s⟩ := by
  unfold JA
  rw [QH, Option.bind_some, if_neg h]
theorem gt_map {f : Nat → Int} {n k : Nat} (hk : k < n) : gtI ((List.range n).map f) k = f k := by simp [gtI, List.getD_eq_getElem?_getD, hk]
theorem mkOK_map {f : Nat → Int} {n : Nat} (h : ∀ k, k < n → -20 ≤ f k ∧ f k ≤ 20) : mkOK ((List.range n).map f) = true := by
  unfold mkOK
  rw [List.all_eq_true]
  intro x hx
  obtain ⟨k, hk, rfl⟩ := List.mem_map.1 hx
  exact inb_iff.2 (h k (List.mem_range.1 hk))
theorem prov_congr {s : Scalps} {a b c d : Nat → Int} (h1 : ∀ k, k < s.strips.length → a k = b k) (h2 : ∀ t, t < s.carried.length → c t = d t) : provS s a c = provS s b d := by
  unfold provS
  rw [sumTo_congr (f := fun t => pvI (c t) (hOf s.carried t)) (g := fun t => pvI (d t) (hOf s.carried t)) (fun t ht => by rw [h2 t ht]), sumTo_congr (f := fun k => pvI (a k) (gOf s.strips k)) (g := fun k => pvI (b k) (gOf s.strips k)) (fun k hk => by rw [h1 k hk])]
theorem refSum_eq {m : Int} {x : Span} (hm : -20 ≤ m ∧ m ≤ 20) (hx : 0 ≤ x.lo ∧ x.lo ≤ x.hi ∧ x.hi ≤ 60) : QT m x = some (pvI m x) := by
  unfold QT pvI
  have a := mul_bound hm (v := x.lo) (by omega)
  have b := mul_bound hm (v := x.hi) (by omega)
  split
  · rw [mulc_eq (by omega)]; rfl
  · rw [mulc_eq (by omega)]; rfl
theorem mkOK_range (l : List Int) : mkOK l = (List.range l.length).all fun k => inb (gtI l k) (-20) 20 := by
  have := any_range (l := l) (d := 0) (p := fun x => !inb x (-20) 20)
  unfold mkOK
  rw [← not_any_not, ← this, ← not_any_not]
  rfl
theorem mkOK_find {l : List Int} : (match (List.range l.length).find? (fun k => !inb (gtI l k) (-20) 20) with | some _ => false | none => true) = mkOK l := by
  rw [mkOK_range, all_find]
  cases (List.range l.length).find? (fun k => !inb (gtI l k) (-20) 20) <;> rfl
theorem inb20 {n : Int} (h : inb n (-20) 20 = true) : -20 ≤ n ∧ n ≤ 20 := inb_iff.1 h
theorem refProves_L0 {s : Scalps} (h : Right s) {l : List Int} (hl : l.length = s.strips.length) : iterM FU (yE l s) ⟨0, 0⟩ = some (if mkOK l = true then .inl (sumTo (fun k => pvI (gtI l k) (gOf s.strips k)) s.strips.length) else .inr ⟨0, 3⟩) := by
  have h6 := h.net.s6
  have key := iterM_find (f := yE l s) (fun k => ⟨sumTo (fun k => pvI (gtI l k) (gOf s.strips k)) k, (k : Int)⟩) l.length (fun k => !inb (gtI l k) (-20) 20) (fun _ => .inr ⟨0, 3⟩) (.inl (sumTo (fun k => pvI (gtI l k) (gOf s.strips k)) s.strips.length)) (fun k hk hprev => ?_) ?_ (N := FU) (FU_lt (by omega))
  · have e : (⟨0, 0⟩ : zJ) = ⟨sumTo (fun k => pvI (gtI l k) (gOf s.strips k)) 0, ((0 : Nat) : Int)⟩ := rfl
    rw [e, key, ← mkOK_find]
    cases (List.range l.length).find? (fun k => !inb (gtI l k) (-20) 20) <;> rfl
  · unfold yE
    have hix : ix l (k : Int) = some (gtI l k) := ix_nat 0 hk
    simp only
    rw [if_pos (by omega), hix, Option.bind_some, refOff_eq, Option.bind_some]
    cases hb : inb (gtI l k) (-20) 20 with
    | false => rfl
    | true =>
      have hbs := sum_bound2 (f := fun k => pvI (gtI l k) (gOf s.strips k)) (b := 1200) (n := k) (fun j hj => pv_bound (inb20 (by have := hprev j hj; rwa [Bool.not_eq_false'] at this)) (gOf_ok h.net (by omega)))
      have hbk := pv_bound (inb20 hb) (gOf_ok h.net (show k < s.strips.length by omega))
      rw [if_neg (by simp), Option.bind_some, refGone_eq h (by omega), Option.bind_some, refSum_eq (inb20 hb) (gOf_ok h.net (by omega)), Option.bind_some, addc_eq (by omega), Option.bind_some, addc_eq (by omega), Option.bind_some]
      rfl
  · unfold yE
    simp only
    rw [if_neg (by omega), hl]
theorem refProves_L1 {s : Scalps} (h : Right s) {l : List Int} (hl : l.length = s.carried.length) {n0 : Int} (hn0 : -10000 ≤ n0 ∧ n0 ≤ 10000) : iterM FU (yz l s) ⟨n0, 0⟩ = some (if mkOK l = true then .inl (n0 + sumTo (fun t => pvI (gtI l t) (hOf s.carried t)) s.carried.length) else .inr ⟨0, 3⟩) := by
  have h5 := h.net.c5
  have hh : ∀ t, t < s.carried.length → 0 ≤ (hOf s.carried t).lo ∧ (hOf s.carried t).lo ≤ (hOf s.carried t).hi ∧ (hOf s.carried t).hi ≤ 60 := fun t ht => by have := hOf_ok h.net ht; omega
  have key := iterM_find (f := yz l s) (fun k => ⟨n0 + sumTo (fun t => pvI (gtI l t) (hOf s.carried t)) k, (k : Int)⟩) l.length (fun k => !inb (gtI l k) (-20) 20) (fun _ => .inr ⟨0, 3⟩) (.inl (n0 + sumTo (fun t => pvI (gtI l t) (hOf s.carried t)) s.carried.length)) (fun k hk hprev => ?_) ?_ (N := FU) (FU_lt (by omega))
  · have e : (⟨n0, 0⟩ : zS) = ⟨n0 + sumTo (fun t => pvI (gtI l t) (hOf s.carried t)) 0, ((0 : Nat) : Int)⟩ := by simp [sumTo]
    rw [e, key, ← mkOK_find]
    cases (List.range l.length).find? (fun k => !inb (gtI l k) (-20) 20) <;> rfl
  · unfold yz
    have hix : ix l (k : Int) = some (gtI l k) := ix_nat 0 hk
    have hca : ix s.carried (k : Int) = some (hOf s.carried k) := ix_nat default (by omega)
    simp only
    rw [if_pos (by omega), hix, Option.bind_some, refOff_eq, Option.bind_some]
    cases hb : inb (gtI l k) (-20) 20 with
    | false => rfl
    | true =>
      have hbs := sum_bound2 (f := fun t => pvI (gtI l t) (hOf s.carried t)) (b := 1200) (n := k) (fun j hj => pv_bound (inb20 (by have := hprev j hj; rwa [Bool.not_eq_false'] at this)) (hh j (by omega)))
      have hbk := pv_bound (inb20 hb) (hh k (by omega))
      have hsum : QT (gtI l k) ⟨(hOf s.carried k).lo, (hOf s.carried k).hi⟩ = some (pvI (gtI l k) (hOf s.carried k)) := refSum_eq (inb20 hb) (hh k (by omega))
      rw [if_neg (by simp), Option.bind_some, hca, Option.bind_some, hsum, Option.bind_some, addc_eq (by omega), Option.bind_some, addc_eq (by omega), Option.bind_some]
      simp only [sumTo]
      rw [Int.add_assoc]
      rfl
  · unfold yz
    simp only
    rw [if_neg (by omega), hl]
theorem refProves_L3 {s : Scalps} (h : Right s) {a b : List Int} (ha : a.length = s.strips.length) (hb : b.length = s.carried.length) (ho1 : mkOK a = true) (ho2 : mkOK b = true) {t : Nat} (ht : t < s.carried.length) : iterM FU (yL a s (t : Int) b) 0 = some (if holdRow s (gtI a) t (gtI b t) = true then .inl () else .inr ⟨0, 8⟩) := by
  have h6 := h.net.s6
  have key := iterM_any0 (f := yL a s (t : Int) b) s.strips.length (fun k => !(!reachB s.strips t k || decide (gtI b t + gtI a k ≤ thC s t k))) ⟨0, 8⟩ (fun k hk => ?_) ?_ (N := FU) (FU_lt (by omega))
  · rw [key]
    unfold holdRow
    rw [← not_any_not]
    cases (List.range s.strips.length).any fun k => !(!reachB s.strips t k || decide (gtI b t + gtI a k ≤ thC s t k)) <;> rfl
  · unfold yL
    have hia : ix a (k : Int) = some (gtI a k) := ix_nat 0 (by omega)
    have hib : ix b (t : Int) = some (gtI b t) := ix_nat 0 (by omega)
    have b1 := mk_at ho1 (i := k) (by omega)
    have b2 := mk_at ho2 (i := t) (by omega)
    have hm : (if (s.strips.getD k default).tenant = (t : Int) then (some 0 : Option Int) else some 1) = some (thC s t k) := by
      unfold thC cnt othB
      by_cases he : (s.strips.getD k default).tenant = (t : Int)
      · rw [if_pos he, decide_eq_true he]; rfl
      · rw [if_neg he, decide_eq_false he]; rfl
    rw [if_pos (by omega), ix_nat default hk, Option.bind_some, hm, Option.bind_some, refReaches_eq (by omega) hk, Option.bind_some, hia, Option.bind_some, hib, Option.bind_some, addc_eq (by omega), Option.bind_some]
    cases hr : reachB s.strips t k with
    | false => rw [if_neg (by simp), Option.bind_some, if_neg (by simp), addc_eq (by omega), Option.bind_some]; rfl
    | true =>
      rw [if_pos rfl, Option.bind_some, Bool.not_true, Bool.false_or]
      by_cases hle : gtI b t + gtI a k ≤ thC s t k
      · rw [decide_eq_false (show ¬ thC s t k < gtI a k + gtI b t by omega), decide_eq_true hle, if_neg (by simp), addc_eq (by omega), Option.bind_some]; rfl
      · rw [decide_eq_true (show thC s t k < gtI a k + gtI b t by omega), decide_eq_false hle]; rfl
  · unfold yL
    rw [if_neg (by omega)]
theorem refProves_eq {s : Scalps} (h : Right s) (a b : List Int) : J3 s a b = some ⟨(provesR s ⟨a, b⟩).r0, (provesR s ⟨a, b⟩).r1⟩ := by
  have h6 := h.net.s6; have h5 := h.net.c5
  unfold J3 provesR
  by_cases hl1 : a.length = s.strips.length
  · rw [if_pos (by omega)]
    by_cases hl2 : b.length = s.carried.length
    · rw [decide_eq_true (by omega), Option.bind_some, if_neg (by simp), if_pos ⟨hl1, hl2⟩, refProves_L0 h hl1, Option.bind_some]
      by_cases ho1 : mkOK a = true
      · have hb1 := sum_bound2 (f := fun k => pvI (gtI a k) (gOf s.strips k)) (b := 1200) (n := s.strips.length) (fun j hj => pv_bound (mk_at ho1 (by omega)) (gOf_ok h.net hj))
        rw [if_pos ho1, oc_inl, refProves_L1 h hl2 (by omega), Option.bind_some]
        by_cases ho2 : mkOK b = true
        · rw [if_pos ho2, oc_inl, if_pos ⟨ho1, ho2⟩]
          have key := iterM_any0 (f := zF b a s) s.carried.length (fun t => !holdRow s (gtI a) t (gtI b t)) ⟨0, 8⟩ (fun t ht => ?_) ?_ (N := FU) (FU_lt (by omega))
          · rw [key, Option.bind_some]
            unfold holdB
            have e : ((List.range s.carried.length).all fun t => holdRow s (gtI a) t (gtI b t)) = !(List.range s.carried.length).any fun t => !holdRow s (gtI a) t (gtI b t) := not_any_not.symm
            rw [e]
            cases (List.range s.carried.length).any fun t => !holdRow s (gtI a) t (gtI b t) with
            | true => rfl
            | false =>
              rw [if_neg (by simp), oc_inl, if_pos (show (!false) = true from rfl)]
              unfold provS
              rw [Int.add_comm]
          · unfold zF
            rw [if_pos (by omega), refProves_L3 h hl1 hl2 ho1 ho2 ht, Option.bind_some]
            cases holdRow s (gtI a) t (gtI b t) with
            | true => rw [if_pos rfl, oc_inl, addc_eq (by omega), Option.bind_some]; rfl
            | false => rfl
          · unfold zF
            rw [if_neg (by omega)]
        · rw [if_neg ho2, oc_inr, if_neg (fun hh => ho2 hh.2)]
      · rw [if_neg ho1, oc_inr, if_neg (fun hh => ho1 hh.1)]
    · rw [decide_eq_false (by omega), if_neg (fun hh => hl2 hh.2), Option.bind_some]; rfl
  · rw [if_neg (by omega), if_neg (fun hh => hl1 hh.1), Option.bind_some]; rfl
theorem law_weigh {s : Scalps} (h : Right s) (tn : Int) (c : Span) (A p1 k1 L p0 k0 : Int) : ((if tn < 0 then (some true : Option Bool) else some (decide ((s.carried.length : Int) ≤ tn))).bind fun o_5 => if o_5 = true then some ⟨A, p1, k1, 1, L, p0, k0, [], []⟩ else (if c.lo < 0 then (some true : Option Bool) else if 30 < c.lo then some true else if c.hi < 0 then some true else some (decide (30 < c.hi))).bind fun o_6 => if o_6 = true then (some ⟨A, p1, k1, 3, L, p0, k0, [], []⟩ : Option kv) else if c.hi < c.lo then some ⟨A, p1, k1, 4, L, p0, k0, [], []⟩ else (ix s.carried tn).bind fun t172 => (ix s.carried tn).bind fun t181 => if min c.hi t181.hi < max c.lo t172.lo then some ⟨A, p1, k1, 7, L, p0, k0, [], []⟩ else (some s : Option Scalps).bind fun t107 => (ix s.carried tn).bind fun t116 => (ix s.carried tn).bind fun t125 => (ix t107.carried tn).bind fun t130 => (some (t107.carried.set (Int.toNat tn) ⟨max c.lo t116.lo, min c.hi t125.hi⟩)).bind fun r0_carried => some ⟨A, p1, k1, 0, L, p0, k0, t107.strips, r0_carried⟩) = some ⟨A, p1, k1, (weighR s tn c).r1, L, p0, k0, (weighR s tn c).r0.strips, (weighR s tn c).r0.carried⟩ := by
  have h5 := h.net.c5; have h6 := h.net.s6
  have e5 : (if tn < 0 then (some true : Option Bool) else some (decide ((s.carried.length : Int) ≤ tn))) = some (outB tn s.carried.length) := by
    unfold outB
    by_cases h1 : tn < 0
    · rw [if_pos h1, decide_eq_true (show tn < 0 ∨ (s.carried.length : Int) ≤ tn from .inl h1)]
    · rw [if_neg h1]
      congr 1
      exact decide_eq_decide.2 (by omega)
  rw [e5, Option.bind_some]
  unfold weighR
  rw [outB_inb]
  cases ht : outB tn s.carried.length with
  | true => rfl
  | false =>
    obtain ⟨t, rfl, ht'⟩ := outB_not ht
    have e6 : (if c.lo < 0 then (some true : Option Bool) else if 30 < c.lo then some true else if c.hi < 0 then some true else some (decide (30 < c.hi))) = some (!okSp c) := by
      unfold okSp inb
      by_cases a1 : c.lo < 0
      · rw [if_pos a1, decide_eq_false (show ¬ 0 ≤ c.lo by omega)]; rfl
      · rw [if_neg a1, decide_eq_true (show 0 ≤ c.lo by omega)]
        by_cases a2 : 30 < c.lo
        · rw [if_pos a2, decide_eq_false (show ¬ c.lo ≤ 30 by omega)]; rfl
        · rw [if_neg a2, decide_eq_true (show c.lo ≤ 30 by omega)]
          by_cases a3 : c.hi < 0
          · rw [if_pos a3, decide_eq_false (show ¬ 0 ≤ c.hi by omega)]; rfl
          · rw [if_neg a3, decide_eq_true (show 0 ≤ c.hi by omega)]
            by_cases a4 : 30 < c.hi
            · rw [decide_eq_true a4, decide_eq_false (show ¬ c.hi ≤ 30 by omega)]; rfl
            · rw [decide_eq_false a4, decide_eq_true (show c.hi ≤ 30 by omega)]; rfl
    have hca : ix s.carried (t : Int) = some (s.carried.getD t default) := ix_nat default ht'
    rw [if_neg (by simp), e6, Option.bind_some, if_pos (show (!false) = true from rfl)]
    cases ho : okSp c with
    | false => rfl
    | true =>
      rw [if_neg (by simp), if_pos rfl]
      by_cases h4 : c.hi < c.lo
      · rw [if_pos h4, if_pos h4]
      · rw [if_neg h4, if_neg h4, hca, Option.bind_some, Option.bind_some, Option.bind_some, Option.bind_some, Option.bind_some]
        unfold nowSp
        dsimp only
        rw [Int.toNat_natCast, Int.max_comm c.lo, Int.min_comm c.hi, hca]
        by_cases h7 : min (s.carried.getD t default).hi c.hi < max (s.carried.getD t default).lo c.lo
        · rw [if_pos h7, if_pos h7]
        · rw [if_neg h7, if_neg h7]
          rfl
theorem weigh_len {s : Scalps} (tn : Int) (c : Span) : (weighR s tn c).r0.strips.length ≤ s.strips.length ∧ (weighR s tn c).r0.carried.length ≤ s.carried.length := by
  unfold weighR
  split
  · split
    · split
      · simp
      · split
        · simp
        · simp
    · simp
  · simp
theorem StripMarks_true {s : Scalps} (hs : s.strips.length ≤ 9223372036854775807) (hc : s.carried.length ≤ 9223372036854775807) (m : Marks) (l : Lack) (tn : Int) (c : Span) : Jq s m l tn c = some true := by
  unfold Jq
  obtain ⟨b, hb, hw⟩ := wide_spec hc
  rw [hb, Option.bind_some]
  by_cases hbig : b = true ∨ 12 < m.strips.length ∨ 12 < m.tenants.length ∨ 12 < l.of_.length
  · have e : (if b = true then (some true : Option Bool) else if 12 < (m.strips.length : Int) then some true else if 12 < (m.tenants.length : Int) then some true else some (decide (12 < (l.of_.length : Int)))) = some true := by
      cases b with
      | true => rfl
      | false =>
        rw [if_neg (by simp)]
        by_cases a1 : 12 < m.strips.length
        · rw [if_pos (by omega)]
        · rw [if_neg (by omega)]
          by_cases a2 : 12 < m.tenants.length
          · rw [if_pos (by omega)]
          · rw [if_neg (by omega), decide_eq_true]
            rcases hbig with h | h | h | h
            · cases h
            · omega
            · omega
            · omega
    rw [e, Option.bind_some, if_pos rfl, awake_eq]; rfl
  · have hb0 : b = false := by
      cases b with
      | false => rfl
      | true => exact absurd (.inl rfl) hbig
    subst hb0
    have b1 : m.strips.length ≤ 12 := by omega
    have b2 : m.tenants.length ≤ 12 := by omega
    have b3 : l.of_.length ≤ 12 := by omega
    obtain ⟨hS, hT, hN⟩ := hw rfl
    rw [if_neg (by simp), if_neg (by omega), if_neg (by omega), decide_eq_false (by omega), Option.bind_some, if_neg (by simp), own_eq (by omega) (by omega), Option.bind_some, theirs_eq (by omega) (by omega), Option.bind_some, Option.bind_some, Dup_eq (by omega), Option.bind_some, Dup_eq (by omega), Option.bind_some, Option.bind_some, Dup_eq (by omega), Option.bind_some]
    dsimp only
    rw [refCheck_eq (by omega) (by omega), Option.bind_some]
    have hfin : ((KW s s).bind fun t285 => if t285 = true then (yj m.strips m.strips).bind fun t291 => if t291 = true then (yj m.tenants m.tenants).bind fun t298 => if t298 = true then (yj l.of_ l.of_).bind fun t304 => if t304 = true then m_l_awake.bind fun t307 => some t307 else some false else some false else some false else some false) = some true := by
      rw [same_self (by omega) (by omega), Option.bind_some, if_pos rfl, EqInt_eq (by omega), Option.bind_some, if_pos rfl, EqInt_eq (by omega), Option.bind_some, if_pos rfl, EqInt_eq (by omega), Option.bind_some, if_pos rfl, awake_eq]; rfl
    by_cases hk : chk s = 0
    · have hR := right_of hk
      have h5 := hR.net.c5; have h6 := hR.net.s6
      obtain ⟨cb, hcb, hrg⟩ := range_theft hR (hN hR)
      obtain ⟨mp, hmp, hm⟩ := Ky hR
      have hwl := weigh_len (s := s) tn c
      rw [hk, if_pos rfl, hcb, Option.bind_some]
      rcases hrg with ⟨lo, hi, hrg, hr⟩ | ⟨hrg, hno⟩
      · rcases Mark_spec hR with ⟨far, lo', hi', hK, hh, hpv, hr', hkb, htb⟩ | ⟨_, hn⟩
        · obtain ⟨rfl, rfl⟩ := hr.uniq hr'
          have hpr : provesR s ⟨(List.range s.strips.length).map (mkF far), (List.range s.carried.length).map (mtF far)⟩ = ⟨lo, 0⟩ := by
            unfold provesR
            rw [if_pos (by simp), if_pos ⟨mkOK_map fun k hk => by have := hkb k hk; omega, mkOK_map fun t ht => by have := htb t ht; omega⟩, if_pos]
            · congr 1
              rw [← hpv]
              exact prov_congr (fun k hk => gt_map hk) (fun t ht => gt_map ht)
            · rw [holdB_iff]
              intro t k ht hk hre
              simp only
              rw [gt_map ht, gt_map hk]
              exact hh t k ht hk hre
          rw [hrg, Option.bind_some]
          dsimp only
          rw [if_neg (by simp), Option.bind_some, refProves_eq hR, Option.bind_some, refLacks_eq hR hm (by omega), Option.bind_some]
          dsimp only
          rw [law_weigh hR, Option.bind_some, hK, Option.bind_some, Proves_spec hR (by simp only; omega), Option.bind_some, Shows_spec hR hmp (by simp only; omega), Option.bind_some, Weigh_spec hR, Option.bind_some]
          dsimp only
          rw [if_pos rfl, if_pos rfl, if_pos rfl, if_pos rfl, if_pos rfl, if_pos rfl, same_self (by omega) (by omega), Option.bind_some, if_neg (by simp), if_pos rfl, Option.bind_some, if_neg (by simp), if_pos rfl, refProves_eq hR, Option.bind_some, hpr]
          dsimp only
          rw [if_pos rfl, decide_eq_true rfl, Bool.not_true, Option.bind_some, if_neg (by simp), Option.bind_some, oc_inl, Option.bind_some, Option.bind_some, hfin]
          rfl
        · obtain ⟨⟨y, hy, _⟩, _⟩ := hr
          exact absurd hy (hn y)
      · rcases Mark_spec hR with ⟨far, lo', hi', hK, hh, hpv, ⟨⟨y, hy, _⟩, _⟩, hkb, htb⟩ | ⟨hK, _⟩
        · exact absurd hy (hno y)
        · rw [hrg, Option.bind_some]
          dsimp only
          rw [if_pos (show (!false) = true from rfl), Option.bind_some, refProves_eq hR, Option.bind_some, refLacks_eq hR hm (by omega), Option.bind_some]
          dsimp only
          rw [law_weigh hR, Option.bind_some, hK, Option.bind_some, Proves_spec hR (by simp only; omega), Option.bind_some, Shows_spec hR hmp (by simp only; omega), Option.bind_some, Weigh_spec hR, Option.bind_some]
          dsimp only
          rw [if_pos rfl, if_pos rfl, if_pos rfl, if_pos rfl, if_pos rfl, if_pos rfl, same_self (by omega) (by omega), Option.bind_some, if_neg (by simp), if_neg (by decide), addc_eq (by simp), Option.bind_some, Option.bind_some, if_neg (by simp), if_neg (by decide), Option.bind_some, oc_inl, Option.bind_some, Option.bind_some, hfin]
          rfl
    · rw [if_neg hk, Option.bind_some, Mark_wrong hk, Option.bind_some, Proves_wrong hk, Option.bind_some, Shows_wrong hk, Option.bind_some, Weigh_wrong hk, Option.bind_some]
      dsimp only
      rw [if_pos rfl, if_pos rfl, if_pos rfl, if_pos rfl, if_pos rfl, if_pos rfl, same_self (by simp) (by simp), Option.bind_some, if_neg (by simp), if_neg hk, addc_eq (by simp), Option.bind_some, Option.bind_some, if_neg (by simp), if_neg hk, Option.bind_some, oc_inl, Option.bind_some, Option.bind_some, hfin]
      rfl
end Go.Proofs.Ws

namespace Go.Gx
open Go Go.Fw Go.RowKit
section
variable {H : Type} {enc : TypeId × Value → H} {P : Program} {w : World} {base : Nat} {sp : Nat → Bool} {held : Bool}
def Opens (enc : TypeId × Value → H) (P : Program) (w : World) (base : Nat) (sp : Nat → Bool) (held : Bool) {α : Type} (R : Row α) (wf : α → Prop) (t : TypeId) : Prop :=
  ∀ fuel cs x, DataW.trod enc P w base sp held fuel t cs = some x → ∃ a, cs = R.cells a ∧ wf a
def i64P (n : Int) : Prop := -9223372036854775808 ≤ n ∧ n ≤ 9223372036854775807
theorem wf_i64P {n : Int} (h : (Lit.int .i64 n).wf = true) : i64P n := by
  simp [Lit.wf, IntKind.min, IntKind.max, IntKind.signed, IntKind.bits] at h
  unfold i64P; omega
theorem opens_i64 {t : TypeId} (ht : P.underlying t = some (.int .i64)) : Opens enc P w base sp held RI i64P t := fun fuel cs x h => by
  obtain ⟨n, rfl, _, hw⟩ := DataW.trod_int ht h
  exact ⟨n, rfl, wf_i64P hw⟩
theorem opens_bool {t : TypeId} (ht : P.underlying t = some .bool) : Opens enc P w base sp held RB (fun _ => True) t := fun fuel cs x h => by
  obtain ⟨b, rfl, _⟩ := DataW.trod_bool ht h
  exact ⟨b, rfl, trivial⟩
theorem fieldAt {fs : Array Field} {t : TypeId} {fuel : Nat} {cs : List Value} {x : DataW H × List MemPlace} (ht : P.underlying t = some (.struct fs)) (h : DataW.trod enc P w base sp held fuel t cs = some x) {α : Type} {R : Row α} {wf : α → Prop} (i : Nat) {T o k : Nat}
    (hf : (fs[i]?).map (fun fd => (fd.type, fd.offset)) = some (T, o)) (hk : P.cellsOf T = k) (hR : Opens enc P w base sp held R wf T) : ∃ a, (cs.drop o).take k = R.cells a ∧ wf a := by
  obtain ⟨xs, n, rfl, _, hlen, hxl, hx⟩ := DataW.trod_struct ht h
  obtain ⟨fd, hfd, he⟩ : ∃ fd, fs[i]? = some fd ∧ (fd.type, fd.offset) = (T, o) := by
    cases hh : fs[i]? with
    | none => simp [hh] at hf
    | some fd => exact ⟨fd, rfl, by simpa [hh] using hf⟩
  simp only [Prod.mk.injEq] at he
  obtain ⟨rfl, rfl⟩ := he
  have h1 := hx i fd hfd
  rw [hk] at h1
  have hi : i < xs.length := by rw [hxl]; exact (Array.getElem?_eq_some_iff.1 hfd).1
  rw [List.getElem?_eq_getElem hi] at h1
  exact hR _ _ _ h1
theorem structLen {fs : Array Field} {t : TypeId} {fuel : Nat} {cs : List Value} {x : DataW H × List MemPlace} (ht : P.underlying t = some (.struct fs)) (h : DataW.trod enc P w base sp held fuel t cs = some x) : cs.length = P.cellsOf t := by
  obtain ⟨xs, n, _, _, hlen, _⟩ := DataW.trod_struct ht h
  exact hlen
structure SlIn {α : Type} (R : Row α) (wf : α → Prop) (w : World) (v : Value) (A : Option Addr) (n c : Nat) (l : List α) : Prop where
  val : v = .slice A n c
  len : l.length = n
  ok : AOK n A
  le : n ≤ c
  max : c ≤ maxLen
  seg : segOK w (aB A, aO A, R.enc l)
  wf : ∀ x, x ∈ l → wf x
theorem choose_list {α : Type} {p : Nat → α → Prop} : ∀ (n : Nat), (∀ i, i < n → ∃ a, p i a) → ∃ l : List α, l.length = n ∧ ∀ i (h : i < l.length), p i l[i]
  | 0, _ => ⟨[], rfl, fun i h => by simp at h⟩
  | n + 1, h => by
    obtain ⟨l, hl, hp⟩ := choose_list n (fun i hi => h i (by omega))
    obtain ⟨a, ha⟩ := h n (by omega)
    refine ⟨l ++ [a], by simp [hl], fun i hi => ?_⟩
    by_cases hil : i < l.length
    · rw [List.getElem_append_left hil]; exact hp i hil
    · have : i = l.length := by simp at hi; omega
      subst this
      rw [List.getElem_append_right (by omega)]
      simp only [Nat.sub_self, List.getElem_cons_zero]
      rw [hl]; exact ha
theorem openSl {α : Type} {R : Row α} {wf : α → Prop} {t e : TypeId} (ht : P.underlying t = some (.slice e)) (hc : P.cellsOf e = R.sz) (hR : Opens enc P w base sp held R wf e) (h0 : Nat.blt 0 R.sz = true)
    {fuel : Nat} {cs : List Value} {x : DataW H × List MemPlace} (h : DataW.trod enc P w base sp held fuel t cs = some x) : ∃ (v : Value) (A : Option Addr) (n c : Nat) (l : List α), cs = [v] ∧ SlIn R wf w v A n c l := by
  have hsz : 0 < R.sz := by simpa using h0
  rcases Go.Deep.open_slice ht h with ⟨rfl, _⟩ | ⟨a, len, cap, m, n, D, Pl, rfl, hb, hl, hm, hmm, _, hi⟩
  · exact ⟨_, none, 0, 0, [], rfl, rfl, rfl, AOK.nil, Nat.le_refl _, Nat.zero_le _, segOK.nil, by simp⟩
  · have hlm : len ≤ m := by rw [hmm]; split <;> omega
    have hcell : ∀ i, i < len → ∃ x : α, (∀ f (hf : f < (R.cells x).length), w.cell? (a.add (i * R.sz + f)) = some (R.cells x)[f]) ∧ wf x := fun i hil => by
      obtain ⟨cs', h1, h2⟩ := hi i (by omega)
      obtain ⟨x, rfl, hw⟩ := hR _ _ _ h2
      obtain ⟨_, _, hat⟩ := World.cells?_some h1
      refine ⟨x, fun f hf => ?_, hw⟩
      have := hat f (by rw [hc, ← R.len x]; exact hf)
      rw [hc] at this
      rw [List.getElem?_eq_getElem hf] at this
      have e : (a.add (i * R.sz)).add f = a.add (i * R.sz + f) := by
        unfold Addr.add
        by_cases h1 : i * R.sz = 0
        · simp [h1]
        · by_cases h2 : f = 0
          · simp [h2]
          · simp [h1, h2, Nat.add_assoc]
      rw [e] at this
      exact this
    obtain ⟨l, hll, hlp⟩ := choose_list len hcell
    have hspot : 0 < len → a.spot = none := fun h0 => by
      obtain ⟨x, hx, _⟩ := hcell 0 h0
      have := World.cell?_spot (hx 0 (by rw [R.len]; exact hsz))
      simpa [Addr.add] using this
    refine ⟨_, some a, len, cap, l, rfl, rfl, hll, fun h0 => ?_, hl, hm, fun j hj => ?_, fun x hx => ?_⟩
    · obtain ⟨b, o, s⟩ := a
      have := hspot h0
      simp only at this
      subst this
      exact ⟨b, o, rfl⟩
    · have hj' : j < l.length * R.sz := by rw [← R.enc_len]; exact hj
      have hpos : 0 < len := by
        rcases Nat.eq_zero_or_pos len with h | h
        · rw [hll, h, Nat.zero_mul] at hj'; omega
        · exact h
      obtain ⟨b, o, s⟩ := a
      have hs := hspot hpos
      simp only at hs
      subst hs
      have hq : j / R.sz < l.length := Nat.div_lt_of_lt_mul (by rw [Nat.mul_comm]; exact hj')
      have hr : j % R.sz < R.sz := Nat.mod_lt _ hsz
      have hd : j / R.sz * R.sz + j % R.sz = j := by rw [Nat.mul_comm]; exact Nat.div_add_mod j R.sz
      have h1 := (hlp (j / R.sz) hq).1 (j % R.sz) (by rw [R.len]; exact hr)
      rw [hd] at h1
      have h2 := R.enc_get l (j / R.sz) (j % R.sz) l[j / R.sz] (List.getElem?_eq_getElem hq) hr
      rw [hd] at h2
      have h3 : (⟨b, o, none⟩ : Addr).add j = ⟨b, o + j, none⟩ := addr_add b o j
      rw [h3] at h1
      simp only [aB, aO, Option.map_some, Option.getD_some]
      rw [h1, ← List.getElem?_eq_getElem, ← h2, List.getElem?_eq_getElem hj]
    · obtain ⟨i, hi', rfl⟩ := List.getElem_of_mem hx
      exact (hlp i hi').2
theorem fieldSl {fs : Array Field} {t : TypeId} {fuel : Nat} {cs : List Value} {x : DataW H × List MemPlace} (ht : P.underlying t = some (.struct fs)) (h : DataW.trod enc P w base sp held fuel t cs = some x) {α : Type} {R : Row α} {wf : α → Prop} (i : Nat) {T o e : Nat}
    (hf : (fs[i]?).map (fun fd => (fd.type, fd.offset)) = some (T, o)) (hk : P.cellsOf T = 1) (hT : P.underlying T = some (.slice e)) (hc : P.cellsOf e = R.sz) (hR : Opens enc P w base sp held R wf e) (h0 : Nat.blt 0 R.sz = true) :
    ∃ (v : Value) (A : Option Addr) (n c : Nat) (l : List α), (cs.drop o).take 1 = [v] ∧ SlIn R wf w v A n c l := by
  obtain ⟨xs, m, rfl, _, hlen, hxl, hx⟩ := DataW.trod_struct ht h
  obtain ⟨fd, hfd, he⟩ : ∃ fd, fs[i]? = some fd ∧ (fd.type, fd.offset) = (T, o) := by
    cases hh : fs[i]? with
    | none => simp [hh] at hf
    | some fd => exact ⟨fd, rfl, by simpa [hh] using hf⟩
  simp only [Prod.mk.injEq] at he
  obtain ⟨rfl, rfl⟩ := he
  have h1 := hx i fd hfd
  rw [hk] at h1
  have hi : i < xs.length := by rw [hxl]; exact (Array.getElem?_eq_some_iff.1 hfd).1
  rw [List.getElem?_eq_getElem hi] at h1
  exact openSl hT hc hR h0 h1
theorem HV.begin {ro : List Sg} (h : ∀ s, s ∈ ro → segOK w s) : HV w (keys [] []) [] [] ro w :=
  ⟨rfl, rfl, rfl, Nat.le_refl _, fun _ _ _ => rfl, by simp [vbl], by simp [vbl], by simp [vbl], h, by simp [vbl]⟩
theorem segCons {s : Sg} {ro : List Sg} (h : segOK w s) (hr : ∀ t, t ∈ ro → segOK w t) : ∀ t, t ∈ s :: ro → segOK w t := fun t ht => by
  rcases List.mem_cons.1 ht with rfl | ht
  · exact h
  · exact hr t ht
theorem segNil : ∀ t, t ∈ ([] : List Sg) → segOK w t := fun t ht => by cases ht
theorem HV.below {w' : World} (h : HV w (keys [] []) [] [] [] w') : Below w.heap.size w w' := by
  have : Ext [] w w' := HS.toExt h
  exact this.below
end
end Go.Gx

