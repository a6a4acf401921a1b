/- What the functions that the law BranchNumbered reaches come to, and why it holds: part 9. -/
import Derived.Test.YtpjnpibgnkgnaaaGreatBranchNumbered8
import Derived.Deep.Slices
import Derived.ChangeArms
namespace Go.Proofs.Wb
open Go Go.Fw Go.Gx Go.Sb
set_option linter.unusedVariables false
set_option maxRecDepth 100000
theorem upB_pw {l : List Int} : upB l = true ↔ l.Pairwise (· < ·) := by
  rw [upB_ix, List.pairwise_iff_getElem]
  constructor
  · intro h i j hi hj hij
    have key : ∀ d, i + d + 1 < l.length → l.getD i (-1) < l.getD (i + d + 1) (-1) := by
      intro d
      induction d with
      | zero => intro hd; exact h i hd
      | succ d ih =>
        intro hd
        have h1 := ih (by omega)
        have h2 := h (i + d + 1) (by omega)
        rw [show i + (d + 1) + 1 = i + d + 1 + 1 by omega]
        omega
    have := key (j - i - 1) (by omega)
    rw [show i + (j - i - 1) + 1 = j by omega] at this
    simpa [List.getD_eq_getElem?_getD, hi, hj] using this
  · intro h i hi
    have := h i (i + 1) (by omega) hi (by omega)
    simpa [List.getD_eq_getElem?_getD, hi, (show i < l.length by omega)] using this
theorem pw_nodup {l : List Int} (h : l.Pairwise (· < ·)) : l.Nodup := h.imp (fun h => by omega)
theorem mem_E0 {n : Nat} {l : List Int} : l ∈ E0 n ↔ l.length ≤ n ∧ l.Pairwise (· < ·) ∧ ∀ x ∈ l, 0 ≤ x ∧ x < (n : Int) := by
  unfold E0
  rw [List.mem_flatMap]
  constructor
  · rintro ⟨k, hk, h⟩
    obtain ⟨h1, h2, h3⟩ := (mem_incL _ _ _).1 h
    have : k < n + 1 := by simpa using hk
    exact ⟨by omega, upB_pw.1 h2, fun x hx => by have := h3 x hx; omega⟩
  · rintro ⟨h1, h2, h3⟩
    exact ⟨l.length, by simp; omega, (mem_incL _ _ _).2 ⟨rfl, upB_pw.2 h2, fun x hx => by have := h3 x hx; omega⟩⟩
theorem E0_cons (n : Nat) : E0 n = [] :: E1 n := by
  unfold E0 E1
  rw [List.range_succ_eq_map, List.flatMap_cons, List.flatMap_map]
  rfl
theorem E0_len (n : Nat) : (E0 n).Pairwise fun a b => a.length ≤ b.length := by
  unfold E0
  rw [List.pairwise_flatMap]
  have hl : ∀ k, ∀ x ∈ incL n k 0, x.length = k := fun k x hx => ((mem_incL _ _ _).1 hx).1
  refine ⟨fun k _ => ?_, ?_⟩
  · refine List.Pairwise.imp_of_mem (R := fun _ _ => True) (fun {a b} ha hb _ => ?_) ?_
    · rw [hl k a ha, hl k b hb]; exact Nat.le_refl _
    · exact List.pairwise_iff_getElem.2 (fun _ _ _ _ _ => trivial)
  · refine (List.pairwise_lt_range).imp ?_
    intro a b hab x hx y hy
    rw [hl a x hx, hl b y hy]
    omega
theorem find_min {n : Nat} {p : List Int → Bool} {w : List Int} (h : (E0 n).find? p = some w) {l : List Int} (hl : l ∈ E0 n) (hlt : l.length < w.length) : p l = false := by
  obtain ⟨_, pre, bs, e, h2⟩ := List.find?_eq_some_iff_append.1 h
  have hs := E0_len n
  rw [e] at hl hs
  rcases List.mem_append.1 hl with h3 | h3
  · simpa using h2 l h3
  · rcases List.mem_cons.1 h3 with h3 | h3
    · rw [h3] at hlt; omega
    · have := (List.pairwise_cons.1 (List.pairwise_append.1 hs).2.1).1 l h3
      omega
def fullL (n : Nat) : List Int := (List.range n).map fun i : Nat => (i : Int)
theorem mem_full {n : Nat} {x : Int} : x ∈ fullL n ↔ 0 ≤ x ∧ x < (n : Int) := by
  unfold fullL
  rw [List.mem_map]
  constructor
  · rintro ⟨i, hi, rfl⟩
    have : i < n := by simpa using hi
    omega
  · rintro ⟨h1, h2⟩
    exact ⟨x.toNat, by simp; omega, by omega⟩
theorem full_pw (n : Nat) : (fullL n).Pairwise (· < ·) := by
  unfold fullL
  rw [List.pairwise_map]
  exact List.pairwise_lt_range.imp (fun h => by omega)
theorem full_E0 (n : Nat) : fullL n ∈ E0 n := mem_E0.2 ⟨by unfold fullL; simp, full_pw n, fun x hx => mem_full.1 hx⟩
theorem none_pos {c : Channel} (r : Right c) : 0 < cntS (fun _ => false) c := by
  have r' : Right (cS c []) := right_sights r (by simp) (by simp)
  have h := stay_pos r' rfl
  have e : agS (fun _ => false) c = agS tt (cS c []) := by
    funext s
    unfold agS
    rw [Bool.eq_iff_iff, agP_iff, agP_iff]
    constructor
    · intro _ i hi
      exact absurd hi (by show ¬ i < ([] : List Sight).length; simp)
    · intro _ i _ hc
      exact absurd hc (by decide)
  unfold cntS at h ⊢
  rw [e]
  exact h
theorem pW_full {c : Channel} (r : Right c) : pW c (fullL c.sights.length) = true := by
  unfold pW
  rw [decide_eq_true_eq]
  have : cntS (cOut (fullL c.sights.length)) c = cntS (fun _ => false) c := cnt_congr fun i hi => by
    unfold cOut
    rw [decide_eq_true (mem_full.2 ⟨by omega, by omega⟩)]
    rfl
  rw [this]
  exact none_pos r
theorem pC_full {c : Channel} : pC c (fullL c.sights.length) = !decide (0 < cntS tt c) := by
  unfold pC
  have : cntS (cIn (fullL c.sights.length)) c = cntS tt c := cnt_congr fun i hi => by
    unfold cIn
    rw [decide_eq_true (mem_full.2 ⟨by omega, by omega⟩)]
  rw [this]
theorem pC_nil {c : Channel} (r : Right c) : pC c [] = false := by
  unfold pC
  have : cntS (cIn []) c = cntS (fun _ => false) c := cnt_congr fun i hi => by
    unfold cIn
    simp
  rw [this, decide_eq_true (none_pos r)]
  rfl
theorem find_wrong {c : Channel} (r : Right c) : ∃ w, (E0 c.sights.length).find? (pW c) = some w ∧ pW c w = true ∧ w ∈ E0 c.sights.length := by
  cases h : (E0 c.sights.length).find? (pW c) with
  | none => exact absurd (pW_full r) (List.find?_eq_none.1 h _ (full_E0 _))
  | some w => exact ⟨w, rfl, List.find?_some h, List.mem_of_find?_eq_some h⟩
theorem find_clash {c : Channel} (r : Right c) (h0 : ¬ 0 < cntS tt c) : ∃ l, (E1 c.sights.length).find? (pC c) = some l ∧ (E0 c.sights.length).find? (pC c) = some l ∧ pC c l = true ∧ l ∈ E0 c.sights.length := by
  have e : (E0 c.sights.length).find? (pC c) = (E1 c.sights.length).find? (pC c) := by
    rw [E0_cons, List.find?_cons, pC_nil r]
  cases h : (E0 c.sights.length).find? (pC c) with
  | none =>
    have := List.find?_eq_none.1 h _ (full_E0 _)
    rw [pC_full, decide_eq_false h0] at this
    exact absurd rfl this
  | some w => exact ⟨w, by rw [← e, h], rfl, List.find?_some h, List.mem_of_find?_eq_some h⟩
end Go.Proofs.Wb

namespace Go.Proofs.Wb
open Go Go.Fw Go.Gx Go.Sb
set_option linter.unusedVariables false
theorem getDm {α : Type} {l : List α} {i : Nat} (d : α) (h : i < l.length) : l.getD i d ∈ l := by
  rw [List.getD_eq_getElem?_getD, List.getElem?_eq_getElem h]
  exact List.getElem_mem _
end Go.Proofs.Wb

namespace Go.Proofs.Wb
open Go Go.Fw Go.Gx Go.Sb
set_option linter.unusedVariables false
theorem where_short {c : Channel} (hc : c.cells ≤ 10) (k i : Nat) : (whereL c k i).length ≤ 1000 := by
  have := filtL_len (p := fun x => (LL c).any fun l => onB c k l && decide (l.getD i (-1) = (x : Int))) (k := c.cells.toNat)
  unfold whereL
  omega
section
variable {x : kT} {y : qt}
end
theorem getDset {α : Type} {l : List α} {i j : Nat} {v d : α} (hi : i < l.length) : (l.set i v).getD j d = if j = i then v else l.getD j d := by
  rw [List.getD_eq_getElem?_getD, List.getElem?_set, List.getD_eq_getElem?_getD]
  by_cases h : j = i
  · subst h; rw [if_pos rfl, if_pos rfl, if_pos hi]; rfl
  · rw [if_neg (fun q => h q.symm), if_neg h]
end Go.Proofs.Wb

namespace Go.Gx
open Go Go.Fw
section
variable {w0 w : World} {M : List Nat} {S : List (Nat × Obj)} {vs : List VR} {ro : List Sg}
theorem DRO.rep {α : Type} (k : Nat) {x : List α} {A : AL} (hn : x.length = A.n) (hq : AOK A.n A.a) (hc : A.n ≤ A.cap) : DRO (List.replicate k x) (List.replicate k A) := ⟨by simp, fun j y B hy hB => by
  have h1 := List.eq_of_mem_replicate (List.mem_of_getElem? hy)
  have h2 := List.eq_of_mem_replicate (List.mem_of_getElem? hB)
  subst h1 h2
  exact ⟨hn, hq, hc⟩⟩
end
section
variable {n : Nat} {ds : List Deferred} {e : EnvL} {P : Program} {r : Option Nat} {Q : Exit → Act → World → Prop} {ops : Array Oper} {w0 : World} {M : List Nat} {S : List (Nat × Obj)} {vs : List VR} {ro : List Sg} {rest : List Oper}
end
end Go.Gx

namespace Go.Proofs.Wb
open Go Go.Fw Go.Gx Go.Sb
set_option linter.unusedVariables false
set_option maxHeartbeats 4000000
set_option maxRecDepth 100000
structure KL where
  r0 : Int
  r1 : Int
def YL (x0 : Int) (y1 : Int) : Option KL :=
 some (⟨(IntKind.u64.wrap ((IntKind.u64.wrap ((IntKind.u64.wrap ((Int.fdiv x0 (2 ^ min (Int.toNat 32) IntKind.u64.bits)) * (Int.fdiv y1 (2 ^ min (Int.toNat 32) IntKind.u64.bits)))) + (Int.fdiv (IntKind.u64.wrap ((IntKind.u64.wrap ((Int.fdiv x0 (2 ^ min (Int.toNat 32) IntKind.u64.bits)) * (IntKind.u64.wrap (BitVec.ofInt IntKind.u64.bits y1 &&& BitVec.ofInt IntKind.u64.bits 4294967295).toNat))) + (Int.fdiv (IntKind.u64.wrap ((IntKind.u64.wrap (BitVec.ofInt IntKind.u64.bits x0 &&& BitVec.ofInt IntKind.u64.bits 4294967295).toNat) * (IntKind.u64.wrap (BitVec.ofInt IntKind.u64.bits y1 &&& BitVec.ofInt IntKind.u64.bits 4294967295).toNat))) (2 ^ min (Int.toNat 32) IntKind.u64.bits)))) (2 ^ min (Int.toNat 32) IntKind.u64.bits)))) + (Int.fdiv (IntKind.u64.wrap ((IntKind.u64.wrap (BitVec.ofInt IntKind.u64.bits (IntKind.u64.wrap ((IntKind.u64.wrap ((Int.fdiv x0 (2 ^ min (Int.toNat 32) IntKind.u64.bits)) * (IntKind.u64.wrap (BitVec.ofInt IntKind.u64.bits y1 &&& BitVec.ofInt IntKind.u64.bits 4294967295).toNat))) + (Int.fdiv (IntKind.u64.wrap ((IntKind.u64.wrap (BitVec.ofInt IntKind.u64.bits x0 &&& BitVec.ofInt IntKind.u64.bits 4294967295).toNat) * (IntKind.u64.wrap (BitVec.ofInt IntKind.u64.bits y1 &&& BitVec.ofInt IntKind.u64.bits 4294967295).toNat))) (2 ^ min (Int.toNat 32) IntKind.u64.bits)))) &&& BitVec.ofInt IntKind.u64.bits 4294967295).toNat) + (IntKind.u64.wrap ((IntKind.u64.wrap (BitVec.ofInt IntKind.u64.bits x0 &&& BitVec.ofInt IntKind.u64.bits 4294967295).toNat) * (Int.fdiv y1 (2 ^ min (Int.toNat 32) IntKind.u64.bits)))))) (2 ^ min (Int.toNat 32) IntKind.u64.bits)))), (IntKind.u64.wrap (x0 * y1))⟩ : KL)
structure Qm where
  r0 : Int
  r1 : Int
def KP (x0 : Int) (y1 : Int) : Option Qm :=
 (YL x0 y1).bind fun t25 =>
 some (⟨t25.r0, t25.r1⟩ : Qm)
end Go.Proofs.Wb

namespace Go.Gx
end Go.Gx
namespace Go.Proofs.Wb
open Go Go.Fw Go.Gx Go.Sb
set_option linter.unusedVariables false
theorem mul_one {k : Int} (hk : 0 ≤ k ∧ k ≤ 1000) : KP (IntKind.u64.wrap 1) (IntKind.u64.wrap k) = some ⟨0, k⟩ := by
  obtain ⟨n, rfl⟩ : ∃ n : Nat, k = (n : Int) := ⟨k.toNat, by omega⟩
  have key : ((List.range 1001).all fun n => decide ((KP (IntKind.u64.wrap 1) (IntKind.u64.wrap (n : Int))).map (fun r => (r.r0, r.r1)) = some (0, (n : Int)))) = true := by decide +kernel
  have h := (List.all_eq_true.1 key) n (by simp; omega)
  have h := of_decide_eq_true h
  cases hm : KP (IntKind.u64.wrap 1) (IntKind.u64.wrap (n : Int)) with
  | none => rw [hm] at h; cases h
  | some r =>
    rw [hm] at h
    cases r
    simp only [Option.map_some, Option.some.injEq, Prod.mk.injEq] at h
    obtain ⟨rfl, rfl⟩ := h
    rfl
end Go.Proofs.Wb

namespace Go.Proofs.Wb
set_option maxHeartbeats 4000000
set_option maxRecDepth 100000
open Go Go.Fw Go.Gx Go.Sb
open Tryz
set_option linter.unusedVariables false

structure qh where
  t52 : Int
  r0 : (List Sight)
def ko (t47 : qt) (turned2 : Int) (s : qh) : Option (qh ⊕ (List Sight)) :=
 if s.t52 < (t47.r0.length : Int) then
 ((if (0 : Int) ≤ s.t52 then (if (IntKind.u8.wrap (BitVec.ofInt IntKind.u8.bits (Int.fdiv turned2 (2 ^ min (Int.toNat s.t52) IntKind.u8.bits)) &&& BitVec.ofInt IntKind.u8.bits 1).toNat) = 1 then
 ((ix s.r0 s.t52).bind fun t66 =>
 (ix s.r0 s.t52).bind fun t70 =>
 (some (s.r0.set (Int.toNat s.t52) (⟨t70.after, t70.cell, (!t66.upright)⟩ : Sight))).bind fun r0 =>
 some r0) else
 (some s.r0)) else none).bind fun o_1 =>
 (addc s.t52 1).bind fun t72 =>
 some (.inl (⟨t72, o_1⟩ : qh))) else
 (some (.inr s.r0))
structure ks where
  t83 : Int
  r0_sands : (List Sand)
def qe (t81 : kX) (t41 : kT) (s_1 : ks) : Option (ks ⊕ (List Sand)) :=
 if s_1.t83 < (t81.r0.length : Int) then
 ((ix t81.r0 s_1.t83).bind fun t86 =>
 (ix t41.r0.sands s_1.t83).bind fun t94 =>
 (ix s_1.r0_sands t86).bind fun t96 =>
 (some (s_1.r0_sands.set (Int.toNat t86) (⟨(⟨t94.span.lo, t94.span.hi⟩ : Span), t94.reach⟩ : Sand))).bind fun r0_sands =>
 (addc s_1.t83 1).bind fun t97 =>
 some (.inl (⟨t97, r0_sands⟩ : ks))) else
 (some (.inr s_1.r0_sands))
structure kt where
  t104 : Int
  r0_sights : (List Sight)
def qf (t102 : kX) (o : (List Sight)) (s_2 : kt) : Option (kt ⊕ (List Sight)) :=
 if s_2.t104 < (t102.r0.length : Int) then
 ((ix t102.r0 s_2.t104).bind fun t107 =>
 (ix o s_2.t104).bind fun t115 =>
 (ix s_2.r0_sights t107).bind fun t117 =>
 (some (s_2.r0_sights.set (Int.toNat t107) (⟨t115.after, t115.cell, t115.upright⟩ : Sight))).bind fun r0_sights =>
 (addc s_2.t104 1).bind fun t118 =>
 some (.inl (⟨t118, r0_sights⟩ : kt))) else
 (some (.inr s_2.r0_sights))
def kq (t41 : kT) (o : (List Sight)) (t120 : Channel) (o_4 : (List Sight)) (s_3 : Int) : Option (Int ⊕ (Unit ⊕ Bool)) :=
 if s_3 < (t41.r0.fords.length : Int) then
 ((yR (⟨t41.r0.cells, t41.r0.tides, t41.r0.fords, t41.r0.sands, o⟩ : Channel) t41.r0.tides s_3).bind fun t237 =>
 (yR (⟨t120.cells, t120.tides, t120.fords, t120.sands, o_4⟩ : Channel) t41.r0.tides s_3).bind fun t245 =>
 (if t237.r1 = t245.r1 then
 ((JW t237.r0 t245.r0).bind fun t254 =>
 some (!t254)) else
 (some true)).bind fun o_8 =>
 if o_8 = true then
 (some (.inr (.inr false))) else
 ((addc s_3 1).bind fun t257 =>
 some (.inl t257))) else
 (some (.inr (.inl ())))
def qK (numbers0 : (List Int)) (order1 : (List Int)) (turned2 : Int) : Option Bool :=
 (Yt numbers0).bind fun t38 =>
 (q3 numbers0 t38.t5_1 t38.t5_2 8 2 3).bind fun t41 =>
 (qX numbers0 t41.b0_1 t41.b0_2 t41.r0 t41.r1 5).bind fun t47 =>
 (iterM FU (ko t47 turned2) (⟨0, t47.r0⟩ : qh)).bind fun o =>
 (Yt order1).bind fun t74 =>
 (yT (⟨t41.r0.cells, t41.r0.tides, t41.r0.fords, t41.r0.sands, o⟩ : Channel)).bind fun t76 =>
 (yG order1 t74.t5_1 t74.t5_2 (t41.r0.sands.length : Int)).bind fun t81 =>
 (iterM FU (qe t81 t41) (⟨0, t76.sands⟩ : ks)).bind fun o_2 =>
 (yG order1 t81.h0_1 t81.h0_2 (o.length : Int)).bind fun t102 =>
 (iterM FU (qf t102 o) (⟨0, t76.sights⟩ : kt)).bind fun o_3 =>
 (yT (⟨t76.cells, t76.tides, t76.fords, o_2, o_3⟩ : Channel)).bind fun t120 =>
 (if 0 < (t120.sights.length : Int) then
 ((ix t120.sights 0).bind fun t129 =>
 (appc 24 t120.sights [(⟨t129.after, t129.cell, t129.upright⟩ : Sight)]).bind fun t132 =>
 some t132) else
 (some t120.sights)).bind fun o_4 =>
 (qL (⟨t41.r0.cells, t41.r0.tides, t41.r0.fords, t41.r0.sands, o⟩ : Channel)).bind fun t136 =>
 (qL (⟨t76.cells, t76.tides, t76.fords, o_2, o_3⟩ : Channel)).bind fun t141 =>
 (qL (⟨t120.cells, t120.tides, t120.fords, t120.sands, o_4⟩ : Channel)).bind fun t146 =>
 (qx (⟨t41.r0.cells, t41.r0.tides, t41.r0.fords, t41.r0.sands, o⟩ : Channel)).bind fun t151 =>
 (qx (⟨t76.cells, t76.tides, t76.fords, o_2, o_3⟩ : Channel)).bind fun t156 =>
 (qx (⟨t120.cells, t120.tides, t120.fords, t120.sands, o_4⟩ : Channel)).bind fun t161 =>
 (if t136.r1 = 0 then
 (if t141.r1 = 0 then
 (if t146.r1 = 0 then
 (if t136.r0 = t141.r0 then
 (if t136.r0 = t146.r0 then
 (if t151.r1 = t156.r1 then
 (if (t151.r0.length : Int) = (t156.r0.length : Int) then
 (some (!decide ((t151.r0.length : Int) = (t161.r0.length : Int)))) else
 (some true)) else
 (some true)) else
 (some true)) else
 (some true)) else
 (some true)) else
 (some true)) else
 (some true)).bind fun o_5 =>
 if o_5 = true then
 (some false) else
 ((zq (⟨t41.r0.cells, t41.r0.tides, t41.r0.fords, t41.r0.sands, o⟩ : Channel)).bind fun t205 =>
 (zq (⟨t76.cells, t76.tides, t76.fords, o_2, o_3⟩ : Channel)).bind fun t210 =>
 (if t205.r1 = 0 then
 (if t210.r1 = 0 then
 (some (!decide ((t205.r0.length : Int) = (t210.r0.length : Int)))) else
 (some true)) else
 (some true)).bind fun o_6 =>
 if o_6 = true then
 (some false) else
 ((iterM FU (kq t41 o t120 o_4) 0).bind fun o_7 =>
 oc o_7 (fun j => (zI).bind fun t258 =>
 some t258) (fun r_4 => some r_4)))
theorem KD (numbers0 : (List Int)) (order1 : (List Int)) (turned2 : Int) (qa0 : Option Addr) (na0 ca0 : Nat) (qa1 : Option Addr) (na1 ca1 : Nat) (w : World) (hw : HV w (keys [] []) [] [] [(aB qa0, aO qa0, RU8.enc numbers0), (aB qa1, aO qa1, RU8.enc order1)] w) (hna0 : numbers0.length = na0) (hqa0 : AOK na0 qa0) (hla0 : na0 ≤ ca0) (hna1 : order1.length = na1) (hqa1 : AOK na1 qa1) (hla1 : na1 ≤ ca1) {res : Bool} (hm : qK numbers0 order1 turned2 = some res) :
    Calls Tryz.prog 11 #[.slice qa0 na0 ca0, .slice qa1 na1 ca1, .int .u8 turned2] w (fun en w' => ∃ l : Unit, en = .returned (.bool res) ∧ (True) ∧ HV w (keys [] []) [] [] [] w') := by
  unfold qK at hm
  refine yr func11 Y ntmps11 Y (e := [(0, _), (1, _), (2, _)]) Y hw (jr (jo Y Y (k7 (jg Y Y ?_))))
  obtain ⟨t38, h1, hm⟩ := bindO hm
  refine jd [] [] Y Y Y Y Y Y Y call62 (fun w hh => Z8 numbers0 qa0 na0 ca0 w (HV.callee (S0 := []) (vs0 := []) hh (roR hh 0 Y roN)) hna0 hqa0 hla0 h1) (fun l h2 => ?_)
  refine jV (S' := [_]) (vs' := []) [0] [] 0 Y Y Y Y (jo Y Y (k7 (jg Y Y ?_)))
  obtain ⟨t41, h3, hm⟩ := bindO hm
  refine jd [_] [] Y Y Y Y Y Y Y call61 (fun w hh => Yd numbers0 t38.t5_1 t38.t5_2 8 2 3 l qa0 na0 ca0 w (HV.callee (S0 := [_]) (vs0 := []) hh (roR hh 0 Y roN)) hna0 hqa0 hla0 h3) (fun l_1 h4 => ?_)
  obtain ⟨h5, h6, h7, h8, h9⟩ := h4
  refine jV (S' := [_]) (vs' := [_, _, _, _]) [0] [0, 1, 2, 3] 0 Y Y Y Y (jg Y Y (zo Y Y Y (zo Y Y Y ?_)))
  refine js (fun w => zeroValue26 w) Y (fun b h10 => ?_)
  refine kz (us := #[_, _, _, _, _]) (cs' := [_, _, _, _, _]) (S' := [_, _]) 0 (fun w => sizeOf26 w) Y Y Y Y Y Y Y (jo Y Y (k7 (jg Y Y (zX [_, _, _, _, _] 0 isAgg26 sizeOf26 Y Y Y Y (jg Y Y ?_)))))
  obtain ⟨t47, h11, hm⟩ := bindO hm
  refine jV (S' := [_, _]) (vs' := [_, _, _, _]) [1, 0] [0, 1, 2, 3] 0 Y Y Y Y ?_
  refine jd [_] [] Y Y Y Y Y Y Y call67 (fun w hh => Yb numbers0 t41.b0_1 t41.b0_2 t41.r0 t41.r1 5 l qa0 na0 ca0 (qA l_1.1.q) l_1.1.n l_1.1.cap (qA l_1.2.1.q) l_1.2.1.n l_1.2.1.cap (qA l_1.2.2.1.q) l_1.2.2.1.n l_1.2.2.1.cap (qA l_1.2.2.2.v.q) l_1.2.2.2.v.n l_1.2.2.2.v.cap (toAL l_1.2.2.2.rs) w (HV.callee (S0 := [_]) (vs0 := []) hh (roR hh 0 Y (roC (hh.vsepA 0 Y h5) (roC (hh.vsepA 1 Y h6) (roC (hh.vsepA 2 Y h7) (roC (hh.vsepD 3 Y h8) roN)))))) hna0 hqa0 hla0 (vlen RI h5 Y) (AOK.q (vne h5)) (h5).hle (vlen RSa h6 Y) (AOK.q (vne h6)) (h6).hle (vlen RSi h7 Y) (AOK.q (vne h7)) (h7).hle (Eq.trans (h9).len (vlen RwH h8 Y)) (AOK.q (vne h8)) (h8).hle ((h9).toDRO Y) (hh.dsepT 3 Y h9) h11) (fun l_2 h12 => ?_)
  have h13 := h12
  refine jV (S' := [_, _]) (vs' := [_, _, _, _, _]) [0, 1] [0, 1, 2, 3, 4] 0 Y Y Y Y (yD 4 runUnderlying26 Y sizeOf24 Y Y (q4 (cs' := #[_, _, _, _, _]) (S' := [_, _]) 1 (fun w => sizeOf24 w) Y Y Y Y Y Y Y (jq (ji (jr (yD 4 runUnderlying26 Y sizeOf24 Y Y (yf 1 isAgg24 Y Y Y Y ?_)))))))
  refine jc Y Y Y (fun w _ => zr (vlen RSi h13 Y) (runUnderlying24 w) Y) (jg Y Y (jq ?_))
  obtain ⟨o, h14, h15⟩ := bindO hm
  refine j3 (ι := Unit) (fun l_3 => VOK 3 l_2.n l_2.cap (RSi.enc o) l_2.sp l_2.q) (fun l_3 => [(1, .slice qa1 na1 ca1), (8, ptr b 0)]) (fun l_3 => [kc l #[.slice qa0 na0 ca0, .int .i64 t47.b0_1, .int .u32 t47.b0_2] 199, kc b #[.int .i64 t41.r0.cells, .int .i64 t41.r0.tides, sL l_1.1, sL l_1.2.1, sL l_2] 26]) (fun l_3 => [vL 3 l_1.1 (RI.enc t41.r0.fords), vL 98 l_1.2.1 (RSa.enc t41.r0.sands), vL 55 l_2 (RSi.enc o)]) ?_ ?_
  ·replace hm := h14
   refine jp ?_
   refine kk (ι := Unit) hm (fun s l_4 => VOK 3 l_2.n l_2.cap (RSi.enc s.r0) l_2.sp l_2.q) (fun s l_4 => [(1, .slice qa1 na1 ca1), (2, .int .u8 turned2), (8, ptr b 0), (51, .int .i64 (t47.r0.length : Int)), (52, .int .i64 s.t52)]) (fun s l_4 => [kc l #[.slice qa0 na0 ca0, .int .i64 t47.b0_1, .int .u32 t47.b0_2] 199, kc b #[.int .i64 t41.r0.cells, .int .i64 t41.r0.tides, sL l_1.1, sL l_1.2.1, sL l_2] 26]) (fun s l_4 => [vL 3 l_1.1 (RI.enc t41.r0.fords), vL 98 l_1.2.1 (RSa.enc t41.r0.sands), vL 55 l_2 (RSi.enc s.r0)]) () (h13) (sE Y) (hsE [0, 1] [1, 2, 0] 0 Y Y Y Y) (fun s l_4 r hpl hm h18 => ?_)
   have h17 := hpl
   unfold ko at hm
   refine jr (Kv Y Y Y (jq (ji ?_)))
   refine ju Y (fun h19 => ?_) (fun h19 => ?_)
   ·replace hm := ifD h19 hm
    refine jt (ja (ji ?_))
    obtain ⟨o_1, h20, h21⟩ := bindO hm
    refine j3 (ι := Unit) (fun l_5 => VOK 3 l_2.n l_2.cap (RSi.enc o_1) l_2.sp l_2.q) (fun l_5 => [(1, .slice qa1 na1 ca1), (2, .int .u8 turned2), (8, ptr b 0), (51, .int .i64 (t47.r0.length : Int)), (52, .int .i64 s.t52)]) (fun l_5 => [kc l #[.slice qa0 na0 ca0, .int .i64 t47.b0_1, .int .u32 t47.b0_2] 199, kc b #[.int .i64 t41.r0.cells, .int .i64 t41.r0.tides, sL l_1.1, sL l_1.2.1, sL l_2] 26]) (fun l_5 => [vL 3 l_1.1 (RI.enc t41.r0.fords), vL 98 l_1.2.1 (RSa.enc t41.r0.sands), vL 55 l_2 (RSi.enc o_1)]) ?_ ?_
    ·replace hm := h20
     refine jp (jr (jg Y Y (jo Y Y (k7 (jg Y Y (jg Y Y ?_))))))
     obtain ⟨h23, hm⟩ := ifO hm
     refine jc Y Y Y (fun _ _ => ja5 Y Y h23) (jc Y Y Y (fun _ _ => jar Y Y Y) (jc Y Y Y (fun _ _ => Ju Y Y) (jq ?_)))
     refine ju Y (fun h24 => ?_) (fun h24 => ?_)
     ·replace hm := ifD h24 hm
      refine ky (some 12) (.free 0 (.hoist 1 (.free 2 (.free 3 (.hoist 4 (.free 5 (.free 6 (.free 7 (.hoist 8 (.free 9 (.free 10 (.free 11 (.last 12 .done))))))))))))) _ Y (by decide +kernel) (fun w k hh => hh.draw k) (fun w hh => hh) ?_
      refine JT 4 runUnderlying26 sizeOf24 Y Y Y Y (Kg 1 isAgg24 Y Y Y Y Y (zs Y Y Y (JT 4 runUnderlying26 sizeOf24 Y Y Y Y (Kg 1 isAgg24 Y Y Y Y Y (zs Y Y Y ?_)))))
      obtain ⟨t66, h25, hm⟩ := bindO hm
      refine jn Y Y Y Y (fun w _ => JR h25 (runUnderlying24 w) (sizeOf55 w) Y Y (vlen RSi h17 Y) (vne h17)) (JT 2 runUnderlying55 sizeOf4 Y Y Y Y (jy Y Y Y Y (fun w hh => zR RSi 2 h25 (isAgg4 w) Y (hh.vseg 2 Y h17) Y Y) (jn Y Y Y Y (fun _ _ => zt Y) ?_)))
      obtain ⟨t70, h26, hm⟩ := bindO hm
      refine jn Y Y Y Y (fun w _ => JR h26 (runUnderlying24 w) (sizeOf55 w) Y Y (vlen RSi h17 Y) (vne h17)) (JT 2 runUnderlying55 sizeOf4 Y Y Y Y (YG Y ?_))
      obtain ⟨r0, hr0, hm⟩ := bindO hm
      refine ja0 RSi 2 2 (⟨t70.after, t70.cell, (!t66.upright)⟩ : Sight) (fun w => sizeOf4 w) Y Y Y Y h17 Y Y Y h26 Y Y (Option.some.inj hr0) (fun h27 => ?_)
      refine jV (S' := [_, _]) (vs' := [_, _, _]) [0, 1] [0, 1, 2] 0 Y Y Y Y (QH (jM (jw ?_)))
      obtain rfl := sj hm
      exact jk () (h27) (sE Y) (fun w hh => hh)
     replace hm := ifE h24 hm
     refine jt (jw ?_)
     obtain rfl := sj hm
     exact jk () (h17) (sE Y) (fun w hh => hh)
    intro l_5 hj
    have h22 := hj
    replace hm := h21
    refine ja (je ?_)
    obtain ⟨t72, h28, hm⟩ := bindO hm
    refine Kq h28 Y Y Y (jg Y Y (jx ?_))
    obtain rfl := sj hm
    refine ja ?_
    exact jN _ () Y (h22) (sE Y) (fun w hh => hh)
   replace hm := ifE h19 hm
   refine kN (jl (jl (jO ?_)))
   obtain rfl := sj hm
   have hbo := h18 _ Y
   subst hbo
   exact jk () (h17) (sE Y) (fun w hh => hh)
  intro l_3 hj
  have h16 := hj
  replace hm := h15
  refine ja (jr (jg Y Y ?_))
  obtain ⟨t74, h29, hm⟩ := bindO hm
  refine jd [] [] Y Y Y Y Y Y Y call62 (fun w hh => Z8 order1 qa1 na1 ca1 w (HV.callee (S0 := []) (vs0 := []) hh (roR hh 1 Y roN)) hna1 hqa1 hla1 h29) (fun l_6 h30 => ?_)
  refine jV (S' := [_, _, _]) (vs' := [_, _, _]) [0, 1, 2] [0, 1, 2] 0 Y Y Y Y (jo Y Y (k7 (zX [_, _, _, _, _] 2 isAgg26 sizeOf26 Y Y Y Y ?_)))
  obtain ⟨t76, h31, hm⟩ := bindO hm
  refine jd [] [] Y Y Y Y Y Y Y call20 (fun w hh => Qt (⟨t41.r0.cells, t41.r0.tides, t41.r0.fords, t41.r0.sands, o⟩ : Channel) (qA l_1.1.q) l_1.1.n l_1.1.cap (qA l_1.2.1.q) l_1.2.1.n l_1.2.1.cap (qA l_2.q) l_2.n l_2.cap w (HV.callee (S0 := []) (vs0 := []) hh (roC (hh.vsepA 0 Y h5) (roC (hh.vsepA 1 Y h6) (roC (hh.vsepA 2 Y h16) roN)))) (vlen RI h5 Y) (AOK.q (vne h5)) (h5).hle (vlen RSa h6 Y) (AOK.q (vne h6)) (h6).hle (vlen RSi h16 Y) (AOK.q (vne h16)) (h16).hle h31) (fun l_7 h32 => ?_)
  obtain ⟨h33, h34, h35⟩ := h32
  refine jV (S' := [_, _, _]) (vs' := [_, _, _, _, _, _]) [0, 1, 2] [0, 1, 2, 3, 4, 5] 0 Y Y Y Y ?_
  refine js (fun w => zeroValue26 w) Y (fun b_1 h36 => ?_)
  refine kz (us := #[_, _, _, _, _]) (cs' := [_, _, _, _, _]) (S' := [_, _, _, _]) 0 (fun w => sizeOf26 w) Y Y Y Y Y Y Y (jq (ji (jr (jg Y Y (yD 3 runUnderlying26 Y sizeOf23 Y Y (yf 3 isAgg23 Y Y Y Y (jc Y Y Y (fun w _ => zr (vlen RSa h6 Y) (runUnderlying23 w) Y) ?_)))))))
  obtain ⟨t81, h37, hm⟩ := bindO hm
  refine jV (S' := [_, _, _, _]) (vs' := [_, _, _, _, _, _]) [1, 0, 2, 3] [0, 1, 2, 3, 4, 5] 0 Y Y Y Y ?_
  refine jd [_] [] Y Y Y Y Y Y Y call69 (fun w hh => Kx order1 t74.t5_1 t74.t5_2 (t41.r0.sands.length : Int) l_6 qa1 na1 ca1 w (HV.callee (S0 := [_]) (vs0 := []) hh (roR hh 1 Y roN)) hna1 hqa1 hla1 h37) (fun l_8 h38 => ?_)
  have h39 := h38
  refine jV (S' := [_, _, _, _]) (vs' := [_, _, _, _, _, _, _]) [0, 1, 2, 3] [0, 1, 2, 3, 4, 5, 6] 0 Y Y Y Y (jc Y Y Y (fun w _ => zr (vlen RI h39 Y) (runUnderlying22 w) Y) (jg Y Y (jq ?_)))
  obtain ⟨o_2, h40, h41⟩ := bindO hm
  refine j3 (ι := Unit) (fun l_9 => VOK 3 l_7.2.1.n l_7.2.1.cap (RSa.enc o_2) l_7.2.1.sp l_7.2.1.q) (fun l_9 => [(8, ptr b 0), (11, ptr l_6 0), (12, ptr b_1 0)]) (fun l_9 => [kc l_6 #[.slice qa1 na1 ca1, .int .i64 t81.h0_1, .int .u32 t81.h0_2] 199, kc b_1 #[.int .i64 t76.cells, .int .i64 t76.tides, sL l_7.1, sL l_7.2.1, sL l_7.2.2] 26, kc l #[.slice qa0 na0 ca0, .int .i64 t47.b0_1, .int .u32 t47.b0_2] 199, kc b #[.int .i64 t41.r0.cells, .int .i64 t41.r0.tides, sL l_1.1, sL l_1.2.1, sL l_2] 26]) (fun l_9 => [vL 3 l_7.1 (RI.enc t76.fords), vL 98 l_7.2.1 (RSa.enc o_2), vL 55 l_7.2.2 (RSi.enc t76.sights), vL 3 l_1.1 (RI.enc t41.r0.fords), vL 98 l_1.2.1 (RSa.enc t41.r0.sands), vL 55 l_2 (RSi.enc o)]) ?_ ?_
  ·replace hm := h40
   refine jp ?_
   refine kk (ι := Unit) hm (fun s_1 l_10 => VOK 3 l_7.2.1.n l_7.2.1.cap (RSa.enc s_1.r0_sands) l_7.2.1.sp l_7.2.1.q) (fun s_1 l_10 => [(8, ptr b 0), (11, ptr l_6 0), (12, ptr b_1 0), (81, sL l_8), (82, .int .i64 (t81.r0.length : Int)), (83, .int .i64 s_1.t83)]) (fun s_1 l_10 => [kc l_6 #[.slice qa1 na1 ca1, .int .i64 t81.h0_1, .int .u32 t81.h0_2] 199, kc b_1 #[.int .i64 t76.cells, .int .i64 t76.tides, sL l_7.1, sL l_7.2.1, sL l_7.2.2] 26, kc l #[.slice qa0 na0 ca0, .int .i64 t47.b0_1, .int .u32 t47.b0_2] 199, kc b #[.int .i64 t41.r0.cells, .int .i64 t41.r0.tides, sL l_1.1, sL l_1.2.1, sL l_2] 26]) (fun s_1 l_10 => [vL 3 l_8 (RI.enc t81.r0), vL 3 l_7.1 (RI.enc t76.fords), vL 98 l_7.2.1 (RSa.enc s_1.r0_sands), vL 55 l_7.2.2 (RSi.enc t76.sights), vL 3 l_1.1 (RI.enc t41.r0.fords), vL 98 l_1.2.1 (RSa.enc t41.r0.sands), vL 55 l_2 (RSi.enc o)]) () (h34) (sE Y) (fun w hh => hh) (fun s_1 l_10 r_1 hpl hm h44 => ?_)
   have h43 := hpl
   unfold qe at hm
   refine jr (Kv Y Y Y (jq (ji ?_)))
   refine ju Y (fun h45 => ?_) (fun h45 => ?_)
   ·replace hm := ifD h45 hm
    refine jt (ja (ji (jp (jr (jg Y Y ?_)))))
    obtain ⟨t86, h46, hm⟩ := bindO hm
    refine jc Y Y Y (fun w _ => JR h46 (runUnderlying22 w) (sizeOf3 w) Y Y (vlen RI h39 Y) (vne h39)) (jc Y Y Y (fun w hh => zR RI 0 h46 (isAgg3 w) Y (hh.vseg 0 Y h39) Y (Nat.add_zero _).symm) (jo Y Y (jo Y Y (jq ?_))))
    refine ky none (.free 0 (.hoist 1 (.free 2 (.free 3 (.hoist 4 (.free 5 (.free 6 (.hoist 7 (.free 8 (.one 9 .done)))))))))) (HV _ _ [kc l_6 #[.slice qa1 na1 ca1, .int .i64 t81.h0_1, .int .u32 t81.h0_2] 199, kc b_1 #[.int .i64 t76.cells, .int .i64 t76.tides, sL l_7.1, sL l_7.2.1, sL l_7.2.2] 26, kc l #[.slice qa0 na0 ca0, .int .i64 t47.b0_1, .int .u32 t47.b0_2] 199, kc b #[.int .i64 t41.r0.cells, .int .i64 t41.r0.tides, sL l_1.1, sL l_1.2.1, sL l_2] 26] [vL 3 l_8 (RI.enc t81.r0), vL 3 l_7.1 (RI.enc t76.fords), vL 55 l_7.2.2 (RSi.enc t76.sights), vL 3 l_1.1 (RI.enc t41.r0.fords), vL 98 l_1.2.1 (RSa.enc t41.r0.sands), vL 55 l_2 (RSi.enc o)] _) Y (by decide +kernel) (fun w k hh => hh.draw k) (hsE [0, 1, 2, 3] [0, 1, 3, 4, 5, 6] 0 Y Y Y Y) ?_
    refine JT 3 runUnderlying26 sizeOf23 Y Y Y Y (Kg 1 isAgg23 Y Y Y Y Y (zs Y Y Y (JT 3 runUnderlying26 sizeOf23 Y Y Y Y (Kg 3 isAgg23 Y Y Y Y Y (zs Y Y Y ?_)))))
    obtain ⟨t94, h47, hm⟩ := bindO hm
    refine jn Y Y Y Y (fun w _ => JR h47 (runUnderlying23 w) (sizeOf98 w) Y Y (vlen RSa h6 Y) (vne h6)) ?_
    refine jy Y Y Y Y (fun w hh => JE RSa 0 [.int .i64 t94.span.lo, .int .i64 t94.span.hi, .int .i64 t94.reach] h47 (isAgg98 w) (sizeOf98 w) Y (hh.vseg 4 Y h6) Y (Nat.add_zero _).symm) ?_
    obtain ⟨t96, h48, hm⟩ := bindO hm
    refine jn Y Y Y Y (fun w _ => JR h48 (runUnderlying23 w) (sizeOf98 w) Y Y (vlen RSa h43 Y) (vne h43)) (jA Y ?_)
    obtain ⟨r0_sands, hr0_sands, hm⟩ := bindO hm
    refine jaF (us := #[_, _, _]) RSa 2 (⟨(⟨t94.span.lo, t94.span.hi⟩ : Span), t94.reach⟩ : Sand) (fun w => sizeOf98 w) Y Y Y h43 Y Y Y Y h48 Y (Option.some.inj hr0_sands) (fun h49 => ?_)
    refine jV (S' := [_, _, _, _]) (vs' := [_, _, _, _, _, _, _]) [0, 1, 2, 3] [0, 1, 2, 3, 4, 5, 6] 0 Y Y Y Y (jj (hsE [0, 1, 2, 3] [0, 1, 3, 4, 5, 6] 0 Y Y Y Y) (jM (jw (ja (je ?_)))))
    obtain ⟨t97, h50, hm⟩ := bindO hm
    refine Kq h50 Y Y Y (jg Y Y (jx ?_))
    obtain rfl := sj hm
    refine ja ?_
    exact jN _ () Y (h49) (sE Y) (fun w hh => hh)
   replace hm := ifE h45 hm
   refine kN (jl (jl (jO ?_)))
   obtain rfl := sj hm
   have hbo := h44 _ Y
   subst hbo
   exact jk () (h43) (sE Y) (hsE [0, 1, 2, 3] [1, 2, 3, 4, 5, 6] 0 Y Y Y Y)
  intro l_9 hj
  have h42 := hj
  replace hm := h41
  refine ja (ji (jr (jg Y Y (yD 4 runUnderlying26 Y sizeOf24 Y Y (yf 3 isAgg24 Y Y Y Y (jc Y Y Y (fun w _ => zr (vlen RSi h16 Y) (runUnderlying24 w) Y) ?_))))))
  obtain ⟨t102, h51, hm⟩ := bindO hm
  refine jd [_] [] Y Y Y Y Y Y Y call69 (fun w hh => Kx order1 t81.h0_1 t81.h0_2 (o.length : Int) l_6 qa1 na1 ca1 w (HV.callee (S0 := [_]) (vs0 := []) hh (roR hh 1 Y roN)) hna1 hqa1 hla1 h51) (fun l_11 h52 => ?_)
  have h53 := h52
  refine jV (S' := [_, _, _, _]) (vs' := [_, _, _, _, _, _, _]) [0, 1, 2, 3] [0, 1, 2, 3, 4, 5, 6] 0 Y Y Y Y (jc Y Y Y (fun w _ => zr (vlen RI h53 Y) (runUnderlying22 w) Y) (jg Y Y (jq ?_)))
  obtain ⟨o_3, h54, h55⟩ := bindO hm
  refine j3 (ι := Unit) (fun l_12 => VOK 3 l_7.2.2.n l_7.2.2.cap (RSi.enc o_3) l_7.2.2.sp l_7.2.2.q) (fun l_12 => [(8, ptr b 0), (12, ptr b_1 0)]) (fun l_12 => [kc l_6 #[.slice qa1 na1 ca1, .int .i64 t102.h0_1, .int .u32 t102.h0_2] 199, kc b_1 #[.int .i64 t76.cells, .int .i64 t76.tides, sL l_7.1, sL l_7.2.1, sL l_7.2.2] 26, kc l #[.slice qa0 na0 ca0, .int .i64 t47.b0_1, .int .u32 t47.b0_2] 199, kc b #[.int .i64 t41.r0.cells, .int .i64 t41.r0.tides, sL l_1.1, sL l_1.2.1, sL l_2] 26]) (fun l_12 => [vL 3 l_7.1 (RI.enc t76.fords), vL 98 l_7.2.1 (RSa.enc o_2), vL 55 l_7.2.2 (RSi.enc o_3), vL 3 l_1.1 (RI.enc t41.r0.fords), vL 98 l_1.2.1 (RSa.enc t41.r0.sands), vL 55 l_2 (RSi.enc o)]) ?_ ?_
  ·replace hm := h54
   refine jp ?_
   refine kk (ι := Unit) hm (fun s_2 l_13 => VOK 3 l_7.2.2.n l_7.2.2.cap (RSi.enc s_2.r0_sights) l_7.2.2.sp l_7.2.2.q) (fun s_2 l_13 => [(8, ptr b 0), (12, ptr b_1 0), (102, sL l_11), (103, .int .i64 (t102.r0.length : Int)), (104, .int .i64 s_2.t104)]) (fun s_2 l_13 => [kc l_6 #[.slice qa1 na1 ca1, .int .i64 t102.h0_1, .int .u32 t102.h0_2] 199, kc b_1 #[.int .i64 t76.cells, .int .i64 t76.tides, sL l_7.1, sL l_7.2.1, sL l_7.2.2] 26, kc l #[.slice qa0 na0 ca0, .int .i64 t47.b0_1, .int .u32 t47.b0_2] 199, kc b #[.int .i64 t41.r0.cells, .int .i64 t41.r0.tides, sL l_1.1, sL l_1.2.1, sL l_2] 26]) (fun s_2 l_13 => [vL 3 l_11 (RI.enc t102.r0), vL 3 l_7.1 (RI.enc t76.fords), vL 98 l_7.2.1 (RSa.enc o_2), vL 55 l_7.2.2 (RSi.enc s_2.r0_sights), vL 3 l_1.1 (RI.enc t41.r0.fords), vL 98 l_1.2.1 (RSa.enc t41.r0.sands), vL 55 l_2 (RSi.enc o)]) () (h35) (sE Y) (fun w hh => hh) (fun s_2 l_13 r_2 hpl hm h58 => ?_)
   have h57 := hpl
   unfold qf at hm
   refine jr (Kv Y Y Y (jq (ji ?_)))
   refine ju Y (fun h59 => ?_) (fun h59 => ?_)
   ·replace hm := ifD h59 hm
    refine jt (ja (ji (jp (jr (jg Y Y ?_)))))
    obtain ⟨t107, h60, hm⟩ := bindO hm
    refine jc Y Y Y (fun w _ => JR h60 (runUnderlying22 w) (sizeOf3 w) Y Y (vlen RI h53 Y) (vne h53)) (jc Y Y Y (fun w hh => zR RI 0 h60 (isAgg3 w) Y (hh.vseg 0 Y h53) Y (Nat.add_zero _).symm) (jo Y Y (jo Y Y (jq ?_))))
    refine ky none (.free 0 (.hoist 1 (.free 2 (.free 3 (.hoist 4 (.free 5 (.free 6 (.hoist 7 (.free 8 (.one 9 .done)))))))))) (HV _ _ [kc l_6 #[.slice qa1 na1 ca1, .int .i64 t102.h0_1, .int .u32 t102.h0_2] 199, kc b_1 #[.int .i64 t76.cells, .int .i64 t76.tides, sL l_7.1, sL l_7.2.1, sL l_7.2.2] 26, kc l #[.slice qa0 na0 ca0, .int .i64 t47.b0_1, .int .u32 t47.b0_2] 199, kc b #[.int .i64 t41.r0.cells, .int .i64 t41.r0.tides, sL l_1.1, sL l_1.2.1, sL l_2] 26] [vL 3 l_11 (RI.enc t102.r0), vL 3 l_7.1 (RI.enc t76.fords), vL 98 l_7.2.1 (RSa.enc o_2), vL 3 l_1.1 (RI.enc t41.r0.fords), vL 98 l_1.2.1 (RSa.enc t41.r0.sands), vL 55 l_2 (RSi.enc o)] _) Y (by decide +kernel) (fun w k hh => hh.draw k) (hsE [0, 1, 2, 3] [0, 1, 2, 4, 5, 6] 0 Y Y Y Y) ?_
    refine JT 4 runUnderlying26 sizeOf24 Y Y Y Y (Kg 1 isAgg24 Y Y Y Y Y (zs Y Y Y (JT 4 runUnderlying26 sizeOf24 Y Y Y Y (Kg 3 isAgg24 Y Y Y Y Y (zs Y Y Y ?_)))))
    obtain ⟨t115, h61, hm⟩ := bindO hm
    refine jn Y Y Y Y (fun w _ => JR h61 (runUnderlying24 w) (sizeOf55 w) Y Y (vlen RSi h16 Y) (vne h16)) ?_
    refine jy Y Y Y Y (fun w hh => JE RSi 0 [.int .i64 t115.after, .int .i64 t115.cell, .bool t115.upright] h61 (isAgg55 w) (sizeOf55 w) Y (hh.vseg 5 Y h16) Y (Nat.add_zero _).symm) ?_
    obtain ⟨t117, h62, hm⟩ := bindO hm
    refine jn Y Y Y Y (fun w _ => JR h62 (runUnderlying24 w) (sizeOf55 w) Y Y (vlen RSi h57 Y) (vne h57)) (jA Y ?_)
    obtain ⟨r0_sights, hr0_sights, hm⟩ := bindO hm
    refine jaF (us := #[_, _, _]) RSi 3 (⟨t115.after, t115.cell, t115.upright⟩ : Sight) (fun w => sizeOf55 w) Y Y Y h57 Y Y Y Y h62 Y (Option.some.inj hr0_sights) (fun h63 => ?_)
    refine jV (S' := [_, _, _, _]) (vs' := [_, _, _, _, _, _, _]) [0, 1, 2, 3] [0, 1, 2, 3, 4, 5, 6] 0 Y Y Y Y (jj (hsE [0, 1, 2, 3] [0, 1, 2, 4, 5, 6] 0 Y Y Y Y) (jM (jw (ja (je ?_)))))
    obtain ⟨t118, h64, hm⟩ := bindO hm
    refine Kq h64 Y Y Y (jg Y Y (jx ?_))
    obtain rfl := sj hm
    refine ja ?_
    exact jN _ () Y (h63) (sE Y) (fun w hh => hh)
   replace hm := ifE h59 hm
   refine kN (jl (jl (jO ?_)))
   obtain rfl := sj hm
   have hbo := h58 _ Y
   subst hbo
   exact jk () (h57) (sE Y) (hsE [0, 1, 2, 3] [1, 2, 3, 4, 5, 6] 0 Y Y Y Y)
  intro l_12 hj
  have h56 := hj
  replace hm := h55
  refine ja (jr (zX [_, _, _, _, _] 1 isAgg26 sizeOf26 Y Y Y Y ?_))
  obtain ⟨t120, h65, hm⟩ := bindO hm
  refine jd [] [] Y Y Y Y Y Y Y call20 (fun w hh => Qt (⟨t76.cells, t76.tides, t76.fords, o_2, o_3⟩ : Channel) (qA l_7.1.q) l_7.1.n l_7.1.cap (qA l_7.2.1.q) l_7.2.1.n l_7.2.1.cap (qA l_7.2.2.q) l_7.2.2.n l_7.2.2.cap w (HV.callee (S0 := []) (vs0 := []) hh (roC (hh.vsepA 0 Y h33) (roC (hh.vsepA 1 Y h42) (roC (hh.vsepA 2 Y h56) roN)))) (vlen RI h33 Y) (AOK.q (vne h33)) (h33).hle (vlen RSa h42 Y) (AOK.q (vne h42)) (h42).hle (vlen RSi h56 Y) (AOK.q (vne h56)) (h56).hle h65) (fun l_14 h66 => ?_)
  obtain ⟨h67, h68, h69⟩ := h66
  refine jV (S' := [_, _, _, _]) (vs' := [_, _, _, _, _, _, _, _, _]) [0, 1, 2, 3] [0, 1, 2, 3, 4, 5, 6, 7, 8] 0 Y Y Y Y ?_
  refine js (fun w => zeroValue26 w) Y (fun b_2 h70 => ?_)
  refine kz (us := #[_, _, _, _, _]) (cs' := [_, _, _, _, _]) (S' := [_, _, _, _, _]) 0 (fun w => sizeOf26 w) Y Y Y Y Y Y Y (jq (ji ?_))
  obtain ⟨o_4, h71, h72⟩ := bindO hm
  refine j3 (ι := VL) (fun l_15 => VOK 3 l_15.n l_15.cap (RSi.enc o_4) l_15.sp l_15.q) (fun l_15 => [(8, ptr b 0), (12, ptr b_1 0), (17, ptr b_2 0)]) (fun l_15 => [kc b_2 #[.int .i64 t120.cells, .int .i64 t120.tides, sL l_14.1, sL l_14.2.1, sL l_15] 26, kc l_6 #[.slice qa1 na1 ca1, .int .i64 t102.h0_1, .int .u32 t102.h0_2] 199, kc b_1 #[.int .i64 t76.cells, .int .i64 t76.tides, sL l_7.1, sL l_7.2.1, sL l_7.2.2] 26, kc l #[.slice qa0 na0 ca0, .int .i64 t47.b0_1, .int .u32 t47.b0_2] 199, kc b #[.int .i64 t41.r0.cells, .int .i64 t41.r0.tides, sL l_1.1, sL l_1.2.1, sL l_2] 26]) (fun l_15 => [vL 3 l_14.1 (RI.enc t120.fords), vL 98 l_14.2.1 (RSa.enc t120.sands), vL 55 l_15 (RSi.enc o_4), vL 3 l_7.1 (RI.enc t76.fords), vL 98 l_7.2.1 (RSa.enc o_2), vL 55 l_7.2.2 (RSi.enc o_3), vL 3 l_1.1 (RI.enc t41.r0.fords), vL 98 l_1.2.1 (RSa.enc t41.r0.sands), vL 55 l_2 (RSi.enc o)]) ?_ ?_
  ·replace hm := h71
   refine jr (yD 4 runUnderlying26 Y sizeOf24 Y Y (yf 0 isAgg24 Y Y Y Y (jc Y Y Y (fun w _ => zr (vlen RSi h69 Y) (runUnderlying24 w) Y) (jc Y Y Y (fun _ _ => Zj Y Y) (jq ?_)))))
   refine ju Y (fun h74 => ?_) (fun h74 => ?_)
   ·replace hm := ifD h74 hm
    refine ky (some 9) (.free 0 (.hoist 1 (.free 2 (.hoist 3 (.free 4 (.one 5 (.one 6 (.one 7 (.free 8 (.last 9 .done)))))))))) (HV _ _ [kc b_2 #[.int .i64 t120.cells, .int .i64 t120.tides, sL l_14.1, sL l_14.2.1, sL l_14.2.2] 26, kc l_6 #[.slice qa1 na1 ca1, .int .i64 t102.h0_1, .int .u32 t102.h0_2] 199, kc b_1 #[.int .i64 t76.cells, .int .i64 t76.tides, sL l_7.1, sL l_7.2.1, sL l_7.2.2] 26, kc l #[.slice qa0 na0 ca0, .int .i64 t47.b0_1, .int .u32 t47.b0_2] 199, kc b #[.int .i64 t41.r0.cells, .int .i64 t41.r0.tides, sL l_1.1, sL l_1.2.1, sL l_2] 26] [vL 3 l_14.1 (RI.enc t120.fords), vL 98 l_14.2.1 (RSa.enc t120.sands), vL 3 l_7.1 (RI.enc t76.fords), vL 98 l_7.2.1 (RSa.enc o_2), vL 55 l_7.2.2 (RSi.enc o_3), vL 3 l_1.1 (RI.enc t41.r0.fords), vL 98 l_1.2.1 (RSa.enc t41.r0.sands), vL 55 l_2 (RSi.enc o)] _) Y (by decide +kernel) (fun w k hh => hh.draw k) (hsE [0, 1, 2, 3, 4] [0, 1, 3, 4, 5, 6, 7, 8] 0 Y Y Y Y) ?_
    refine JT 4 runUnderlying26 sizeOf24 Y Y Y Y (Kg 0 isAgg24 Y Y Y Y Y (JT 4 runUnderlying26 sizeOf24 Y Y Y Y (Kg 0 isAgg24 Y Y Y Y Y ?_)))
    obtain ⟨t129, h75, hm⟩ := bindO hm
    refine jn Y Y Y Y (fun w _ => JR h75 (runUnderlying24 w) (sizeOf55 w) Y Y (vlen RSi h69 Y) (vne h69)) (jA Y ?_)
    refine jc Y Y Y (fun w hh => JE RSi 0 [.int .i64 t129.after, .int .i64 t129.cell, .bool t129.upright] h75 (isAgg55 w) (sizeOf55 w) Y (hh.vseg 2 Y h69) Y (Nat.add_zero _).symm) ?_
    refine jj (hsE [0, 1, 2, 3, 4] [0, 1, 3, 4, 5, 6, 7, 8] 0 Y Y Y Y) (jA Y ?_)
    refine qE RSi [(⟨t129.after, t129.cell, t129.upright⟩ : Sight)] (ps := [(0, _)]) (cells := [_, _, _]) (fun w => runUnderlying24 w) (fun w => sizeOf55 w) (fun w => zeroValue55 w) Y Y Y Y Y Y Y Y (fun L h76 => ?_)
    refine jj (hsE [0, 1, 2, 3, 4] [1, 2, 4, 5, 6, 7, 8, 9] 0 Y Y Y Y) (jA Y ?_)
    obtain ⟨t132, h77, hm⟩ := bindO hm
    refine zz RSi 3 h77 underlying24 YP Y Y Y Y Y h69 Y Y (vlen RSi h76 Y) (AOK.q (vne h76)) (fun w hh => (hh.vsegA 0 Y h76)) Y (fun L_1 h78 h78n => ?_)
    refine jV (S' := [_, _, _, _, _]) (vs' := [_, _, _, _, _, _, _, _, _, _]) [0, 1, 2, 3, 4] [0, 1, 2, 3, 4, 5, 6, 7, 8, 9] 0 Y Y Y Y (jj (hsE [0, 1, 2, 3, 4] [1, 2, 4, 5, 6, 7, 8, 9] 0 Y Y Y Y) (JT 4 runUnderlying26 sizeOf24 Y Y Y Y (YG Y (q4 (cs' := #[_, _, _, _, _]) (S' := [_, _, _, _, _]) 0 (fun w => sizeOf24 w) Y Y Y Y Y Y Y (QH (jM ?_))))))
    obtain rfl := sj hm
    exact jk L_1 (h78) (sE Y) (hsE [0, 1, 2, 3, 4] [1, 2, 3, 4, 5, 6, 7, 8, 9] 0 Y Y Y Y)
   replace hm := ifE h74 hm
   refine jt ?_
   obtain rfl := sj hm
   exact jk l_14.2.2 (h69) (sE Y) (fun w hh => hh)
  intro l_15 hj
  have h73 := hj
  replace hm := h72
  refine ja (jr (zX [_, _, _, _, _] 4 isAgg26 sizeOf26 Y Y Y Y ?_))
  obtain ⟨t136, h79, hm⟩ := bindO hm
  refine jd [] [] Y Y Y Y Y Y Y call26 (fun w hh => Jz (⟨t41.r0.cells, t41.r0.tides, t41.r0.fords, t41.r0.sands, o⟩ : Channel) (qA l_1.1.q) l_1.1.n l_1.1.cap (qA l_1.2.1.q) l_1.2.1.n l_1.2.1.cap (qA l_2.q) l_2.n l_2.cap w (HV.callee (S0 := []) (vs0 := []) hh (roC (hh.vsepA 6 Y h5) (roC (hh.vsepA 7 Y h6) (roC (hh.vsepA 8 Y h16) roN)))) (vlen RI h5 Y) (AOK.q (vne h5)) (h5).hle (vlen RSa h6 Y) (AOK.q (vne h6)) (h6).hle (vlen RSi h16 Y) (AOK.q (vne h16)) (h16).hle h79) (fun l_16 h80 => ?_)
  refine jg Y Y (zo Y Y Y (zo Y Y Y (jo Y Y (jo Y Y (k7 (zX [_, _, _, _, _] 2 isAgg26 sizeOf26 Y Y Y Y ?_))))))
  obtain ⟨t141, h81, hm⟩ := bindO hm
  refine jd [] [] Y Y Y Y Y Y Y call26 (fun w hh => Jz (⟨t76.cells, t76.tides, t76.fords, o_2, o_3⟩ : Channel) (qA l_7.1.q) l_7.1.n l_7.1.cap (qA l_7.2.1.q) l_7.2.1.n l_7.2.1.cap (qA l_7.2.2.q) l_7.2.2.n l_7.2.2.cap w (HV.callee (S0 := []) (vs0 := []) hh (roC (hh.vsepA 3 Y h33) (roC (hh.vsepA 4 Y h42) (roC (hh.vsepA 5 Y h56) roN)))) (vlen RI h33 Y) (AOK.q (vne h33)) (h33).hle (vlen RSa h42 Y) (AOK.q (vne h42)) (h42).hle (vlen RSi h56 Y) (AOK.q (vne h56)) (h56).hle h81) (fun l_17 h82 => ?_)
  refine jg Y Y (zo Y Y Y (zo Y Y Y (jo Y Y (jo Y Y (k7 (zX [_, _, _, _, _] 0 isAgg26 sizeOf26 Y Y Y Y ?_))))))
  obtain ⟨t146, h83, hm⟩ := bindO hm
  refine jd [] [] Y Y Y Y Y Y Y call26 (fun w hh => Jz (⟨t120.cells, t120.tides, t120.fords, t120.sands, o_4⟩ : Channel) (qA l_14.1.q) l_14.1.n l_14.1.cap (qA l_14.2.1.q) l_14.2.1.n l_14.2.1.cap (qA l_15.q) l_15.n l_15.cap w (HV.callee (S0 := []) (vs0 := []) hh (roC (hh.vsepA 0 Y h67) (roC (hh.vsepA 1 Y h68) (roC (hh.vsepA 2 Y h73) roN)))) (vlen RI h67 Y) (AOK.q (vne h67)) (h67).hle (vlen RSa h68 Y) (AOK.q (vne h68)) (h68).hle (vlen RSi h73 Y) (AOK.q (vne h73)) (h73).hle h83) (fun l_18 h84 => ?_)
  refine jg Y Y (zo Y Y Y (zo Y Y Y (jo Y Y (jo Y Y (k7 (zX [_, _, _, _, _] 4 isAgg26 sizeOf26 Y Y Y Y ?_))))))
  obtain ⟨t151, h85, hm⟩ := bindO hm
  refine jd [] [] Y Y Y Y Y Y Y call51 (fun w hh => Qc (⟨t41.r0.cells, t41.r0.tides, t41.r0.fords, t41.r0.sands, o⟩ : Channel) (qA l_1.1.q) l_1.1.n l_1.1.cap (qA l_1.2.1.q) l_1.2.1.n l_1.2.1.cap (qA l_2.q) l_2.n l_2.cap w (HV.callee (S0 := []) (vs0 := []) hh (roC (hh.vsepA 6 Y h5) (roC (hh.vsepA 7 Y h6) (roC (hh.vsepA 8 Y h16) roN)))) (vlen RI h5 Y) (AOK.q (vne h5)) (h5).hle (vlen RSa h6 Y) (AOK.q (vne h6)) (h6).hle (vlen RSi h16 Y) (AOK.q (vne h16)) (h16).hle h85) (fun l_19 h86 => ?_)
  have h87 := h86
  refine jV (S' := [_, _, _, _, _]) (vs' := [_, _, _, _, _, _, _, _, _, _]) [0, 1, 2, 3, 4] [0, 1, 2, 3, 4, 5, 6, 7, 8, 9] 0 Y Y Y Y (jg Y Y (zo Y Y Y (zo Y Y Y (jo Y Y (jo Y Y (k7 (zX [_, _, _, _, _] 2 isAgg26 sizeOf26 Y Y Y Y ?_)))))))
  obtain ⟨t156, h88, hm⟩ := bindO hm
  refine jd [] [] Y Y Y Y Y Y Y call51 (fun w hh => Qc (⟨t76.cells, t76.tides, t76.fords, o_2, o_3⟩ : Channel) (qA l_7.1.q) l_7.1.n l_7.1.cap (qA l_7.2.1.q) l_7.2.1.n l_7.2.1.cap (qA l_7.2.2.q) l_7.2.2.n l_7.2.2.cap w (HV.callee (S0 := []) (vs0 := []) hh (roC (hh.vsepA 4 Y h33) (roC (hh.vsepA 5 Y h42) (roC (hh.vsepA 6 Y h56) roN)))) (vlen RI h33 Y) (AOK.q (vne h33)) (h33).hle (vlen RSa h42 Y) (AOK.q (vne h42)) (h42).hle (vlen RSi h56 Y) (AOK.q (vne h56)) (h56).hle h88) (fun l_20 h89 => ?_)
  have h90 := h89
  refine jV (S' := [_, _, _, _, _]) (vs' := [_, _, _, _, _, _, _, _, _, _, _]) [0, 1, 2, 3, 4] [0, 1, 2, 3, 4, 5, 6, 7, 8, 9, 10] 0 Y Y Y Y (jg Y Y (zo Y Y Y (zo Y Y Y (jo Y Y (jo Y Y (k7 (zX [_, _, _, _, _] 0 isAgg26 sizeOf26 Y Y Y Y ?_)))))))
  obtain ⟨t161, h91, hm⟩ := bindO hm
  refine jd [] [] Y Y Y Y Y Y Y call51 (fun w hh => Qc (⟨t120.cells, t120.tides, t120.fords, t120.sands, o_4⟩ : Channel) (qA l_14.1.q) l_14.1.n l_14.1.cap (qA l_14.2.1.q) l_14.2.1.n l_14.2.1.cap (qA l_15.q) l_15.n l_15.cap w (HV.callee (S0 := []) (vs0 := []) hh (roC (hh.vsepA 2 Y h67) (roC (hh.vsepA 3 Y h68) (roC (hh.vsepA 4 Y h73) roN)))) (vlen RI h67 Y) (AOK.q (vne h67)) (h67).hle (vlen RSa h68 Y) (AOK.q (vne h68)) (h68).hle (vlen RSi h73 Y) (AOK.q (vne h73)) (h73).hle h91) (fun l_21 h92 => ?_)
  have h93 := h92
  refine jV (S' := [_, _, _, _, _]) (vs' := [_, _, _, _, _, _, _, _, _, _, _, _]) [0, 1, 2, 3, 4] [0, 1, 2, 3, 4, 5, 6, 7, 8, 9, 10, 11] 0 Y Y Y Y (jg Y Y (zo Y Y Y (zo Y Y Y (jo Y Y (jo Y Y (jq (ji ?_)))))))
  refine ji ?_
  obtain ⟨o_5, h94, h95⟩ := bindO hm
  refine j3 (ι := Unit) (fun l_22 => True) (fun l_22 => [(8, ptr b 0), (12, ptr b_1 0), (17, ptr b_2 0), (202, .bool o_5)]) (fun l_22 => [kc b_2 #[.int .i64 t120.cells, .int .i64 t120.tides, sL l_14.1, sL l_14.2.1, sL l_15] 26, kc l_6 #[.slice qa1 na1 ca1, .int .i64 t102.h0_1, .int .u32 t102.h0_2] 199, kc b_1 #[.int .i64 t76.cells, .int .i64 t76.tides, sL l_7.1, sL l_7.2.1, sL l_7.2.2] 26, kc l #[.slice qa0 na0 ca0, .int .i64 t47.b0_1, .int .u32 t47.b0_2] 199, kc b #[.int .i64 t41.r0.cells, .int .i64 t41.r0.tides, sL l_1.1, sL l_1.2.1, sL l_2] 26]) (fun l_22 => [vL 3 l_14.1 (RI.enc t120.fords), vL 98 l_14.2.1 (RSa.enc t120.sands), vL 55 l_15 (RSi.enc o_4), vL 3 l_7.1 (RI.enc t76.fords), vL 98 l_7.2.1 (RSa.enc o_2), vL 55 l_7.2.2 (RSi.enc o_3), vL 3 l_1.1 (RI.enc t41.r0.fords), vL 98 l_1.2.1 (RSa.enc t41.r0.sands), vL 55 l_2 (RSi.enc o)]) ?_ ?_
  ·replace hm := h94
   refine je (jg Y Y (jc Y Y Y (fun _ _ => Jc Y Y) (jg Y Y ?_)))
   refine j4 166 Y (fun h96 => ?_) (fun h96 => ?_)
   ·replace hm := ifF (of_ndec_true h96) hm
    refine g_k Y Y Y Y (g_k Y Y Y Y (yy Y Y Y (jg Y Y (g_k Y Y Y Y (g_k Y Y Y Y (yy Y Y Y (jg Y Y ?_)))))))
    refine g_k Y Y Y Y (g_k Y Y Y Y (g_k Y Y Y Y (yy Y Y Y (jg Y Y (g_k Y Y Y Y (g_k Y Y Y Y (g_k Y Y Y Y ?_)))))))
    refine yy Y Y Y (jg Y Y (g_k Y Y Y Y (g_k Y Y Y Y (g_k Y Y Y Y (yy Y Y Y (jg Y Y (g_k Y Y Y Y ?_)))))))
    refine g_k Y Y Y Y (g_k Y Y Y Y (g_k Y Y Y Y (g_k Y Y Y Y (yy Y Y Y (jg Y Y (g_k Y Y Y Y (g_k Y Y Y Y ?_)))))))
    refine g_k Y Y Y Y (g_k Y Y Y Y (g_k Y Y Y Y (yy Y Y Y (jx ?_))))
    obtain rfl := sj hm
    exact jk () (trivial) (sE Y) (hsE [0, 1, 2, 3, 4] [3, 4, 5, 6, 7, 8, 9, 10, 11] 0 Y Y Y Y)
   replace hm := ifT (of_ndec_false h96) hm
   refine jb Y Y (jg Y Y (jb Y Y (jc Y Y Y (fun _ _ => Jc Y Y) (zu Y Y Y (jg Y Y ?_)))))
   refine j4 170 Y (fun h97 => ?_) (fun h97 => ?_)
   ·replace hm := ifF (of_ndec_true h97) hm
    refine g_k Y Y Y Y (g_k Y Y Y Y (yy Y Y Y (jg Y Y (g_k Y Y Y Y (g_k Y Y Y Y (g_k Y Y Y Y (yy Y Y Y ?_)))))))
    refine jg Y Y (g_k Y Y Y Y (g_k Y Y Y Y (g_k Y Y Y Y (yy Y Y Y (jg Y Y (g_k Y Y Y Y (g_k Y Y Y Y ?_)))))))
    refine g_k Y Y Y Y (yy Y Y Y (jg Y Y (g_k Y Y Y Y (g_k Y Y Y Y (g_k Y Y Y Y (g_k Y Y Y Y (g_k Y Y Y Y ?_)))))))
    refine yy Y Y Y (jg Y Y (g_k Y Y Y Y (g_k Y Y Y Y (g_k Y Y Y Y (g_k Y Y Y Y (g_k Y Y Y Y (yy Y Y Y ?_)))))))
    refine jx ?_
    obtain rfl := sj hm
    exact jk () (trivial) (sE Y) (hsE [0, 1, 2, 3, 4] [3, 4, 5, 6, 7, 8, 9, 10, 11] 0 Y Y Y Y)
   replace hm := ifT (of_ndec_false h97) hm
   refine jb Y Y (jg Y Y (jb Y Y (jc Y Y Y (fun _ _ => Jc Y Y) (zu Y Y Y (jg Y Y ?_)))))
   refine j4 174 Y (fun h98 => ?_) (fun h98 => ?_)
   ·replace hm := ifF (of_ndec_true h98) hm
    refine g_k Y Y Y Y (g_k Y Y Y Y (g_k Y Y Y Y (yy Y Y Y (jg Y Y (g_k Y Y Y Y (g_k Y Y Y Y (g_k Y Y Y Y ?_)))))))
    refine yy Y Y Y (jg Y Y (g_k Y Y Y Y (g_k Y Y Y Y (g_k Y Y Y Y (yy Y Y Y (jg Y Y (g_k Y Y Y Y ?_)))))))
    refine g_k Y Y Y Y (g_k Y Y Y Y (g_k Y Y Y Y (g_k Y Y Y Y (yy Y Y Y (jg Y Y (g_k Y Y Y Y (g_k Y Y Y Y ?_)))))))
    refine g_k Y Y Y Y (g_k Y Y Y Y (g_k Y Y Y Y (yy Y Y Y (jx ?_))))
    obtain rfl := sj hm
    exact jk () (trivial) (sE Y) (hsE [0, 1, 2, 3, 4] [3, 4, 5, 6, 7, 8, 9, 10, 11] 0 Y Y Y Y)
   replace hm := ifT (of_ndec_false h98) hm
   refine jb Y Y (jg Y Y (jb Y Y (jg Y Y (jb Y Y (jc Y Y Y (fun _ _ => Jc Y Y) (zu Y Y Y (jg Y Y ?_)))))))
   refine j4 179 Y (fun h99 => ?_) (fun h99 => ?_)
   ·replace hm := ifF (of_ndec_true h99) hm
    refine g_k Y Y Y Y (g_k Y Y Y Y (g_k Y Y Y Y (yy Y Y Y (jg Y Y (g_k Y Y Y Y (g_k Y Y Y Y (g_k Y Y Y Y ?_)))))))
    refine yy Y Y Y (jg Y Y (g_k Y Y Y Y (g_k Y Y Y Y (g_k Y Y Y Y (g_k Y Y Y Y (g_k Y Y Y Y (yy Y Y Y ?_)))))))
    refine jg Y Y (g_k Y Y Y Y (g_k Y Y Y Y (g_k Y Y Y Y (g_k Y Y Y Y (g_k Y Y Y Y (yy Y Y Y (jx ?_)))))))
    obtain rfl := sj hm
    exact jk () (trivial) (sE Y) (hsE [0, 1, 2, 3, 4] [3, 4, 5, 6, 7, 8, 9, 10, 11] 0 Y Y Y Y)
   replace hm := ifT (of_ndec_false h99) hm
   refine jb Y Y (jg Y Y (jb Y Y (jg Y Y (jb Y Y (jc Y Y Y (fun _ _ => Jc Y Y) (zu Y Y Y (jg Y Y ?_)))))))
   refine j4 184 Y (fun h100 => ?_) (fun h100 => ?_)
   ·replace hm := ifF (of_ndec_true h100) hm
    refine g_k Y Y Y Y (g_k Y Y Y Y (g_k Y Y Y Y (yy Y Y Y (jg Y Y (g_k Y Y Y Y (g_k Y Y Y Y (g_k Y Y Y Y ?_)))))))
    refine g_k Y Y Y Y (g_k Y Y Y Y (yy Y Y Y (jg Y Y (g_k Y Y Y Y (g_k Y Y Y Y (g_k Y Y Y Y (g_k Y Y Y Y ?_)))))))
    refine g_k Y Y Y Y (yy Y Y Y (jx ?_))
    obtain rfl := sj hm
    exact jk () (trivial) (sE Y) (hsE [0, 1, 2, 3, 4] [3, 4, 5, 6, 7, 8, 9, 10, 11] 0 Y Y Y Y)
   replace hm := ifT (of_ndec_false h100) hm
   refine jb Y Y (jg Y Y (jb Y Y (jg Y Y (jb Y Y (jc Y Y Y (fun _ _ => Jc Y Y) (zu Y Y Y (jg Y Y ?_)))))))
   refine j4 189 Y (fun h101 => ?_) (fun h101 => ?_)
   ·replace hm := ifF (of_ndec_true h101) hm
    refine g_k Y Y Y Y (g_k Y Y Y Y (g_k Y Y Y Y (g_k Y Y Y Y (g_k Y Y Y Y (yy Y Y Y (jg Y Y (g_k Y Y Y Y ?_)))))))
    refine g_k Y Y Y Y (g_k Y Y Y Y (g_k Y Y Y Y (g_k Y Y Y Y (yy Y Y Y (jx ?_)))))
    obtain rfl := sj hm
    exact jk () (trivial) (sE Y) (hsE [0, 1, 2, 3, 4] [3, 4, 5, 6, 7, 8, 9, 10, 11] 0 Y Y Y Y)
   replace hm := ifT (of_ndec_false h101) hm
   refine jb Y Y (jg Y Y (jb Y Y (jc Y Y Y (fun w _ => zr (vlen RI h87 Y) (runUnderlying22 w) Y) (jb Y Y (jg Y Y (jb Y Y (jc Y Y Y (fun w _ => zr (vlen RI h90 Y) (runUnderlying22 w) Y) ?_)))))))
   refine jb Y Y (jc Y Y Y (fun _ _ => Jc Y Y) (zu Y Y Y (jg Y Y ?_)))
   refine j4 196 Y (fun h102 => ?_) (fun h102 => ?_)
   ·replace hm := ifF (of_ndec_true h102) hm
    refine g_k Y Y Y Y (g_k Y Y Y Y (g_k Y Y Y Y (g_k Y Y Y Y (g_k Y Y Y Y (yy Y Y Y (jx ?_))))))
    obtain rfl := sj hm
    exact jk () (trivial) (sE Y) (hsE [0, 1, 2, 3, 4] [3, 4, 5, 6, 7, 8, 9, 10, 11] 0 Y Y Y Y)
   replace hm := ifT (of_ndec_false h102) hm
   refine jb Y Y (jg Y Y (jb Y Y (jc Y Y Y (fun w _ => zr (vlen RI h87 Y) (runUnderlying22 w) Y) (jb Y Y (jg Y Y (jb Y Y (jc Y Y Y (fun w _ => zr (vlen RI h93 Y) (runUnderlying22 w) Y) ?_)))))))
   refine jb Y Y (jc Y Y Y (fun _ _ => Jc Y Y) (zu Y Y Y (jx ?_)))
   obtain rfl := sj hm
   exact jk () (trivial) (sE Y) (hsE [0, 1, 2, 3, 4] [3, 4, 5, 6, 7, 8, 9, 10, 11] 0 Y Y Y Y)
  intro l_22 hj
  replace hm := h95
  refine ja ?_
  refine ju Y (fun h103 => ?_) (fun h103 => ?_)
  ·replace hm := ifT (h103) hm
   refine jr (jo Y Y (jq (jv (jh ?_))))
   obtain rfl := sj hm
   refine jm Y (fun w hh => (.tmp Y .nil)) (fun w hh => ⟨(), rfl, trivial, hh.se [] [] 2 Y Y Y rfl⟩)
  replace hm := ifN h103 hm
  refine jt (ja (jr (zX [_, _, _, _, _] 4 isAgg26 sizeOf26 Y Y Y Y ?_)))
  obtain ⟨t205, h104, hm⟩ := bindO hm
  refine jd [] [] Y Y Y Y Y Y Y call52 (fun w hh => Qb (⟨t41.r0.cells, t41.r0.tides, t41.r0.fords, t41.r0.sands, o⟩ : Channel) (qA l_1.1.q) l_1.1.n l_1.1.cap (qA l_1.2.1.q) l_1.2.1.n l_1.2.1.cap (qA l_2.q) l_2.n l_2.cap w (HV.callee (S0 := []) (vs0 := []) hh (roC (hh.vsepA 6 Y h5) (roC (hh.vsepA 7 Y h6) (roC (hh.vsepA 8 Y h16) roN)))) (vlen RI h5 Y) (AOK.q (vne h5)) (h5).hle (vlen RSa h6 Y) (AOK.q (vne h6)) (h6).hle (vlen RSi h16 Y) (AOK.q (vne h16)) (h16).hle h104) (fun l_23 h105 => ?_)
  have h106 := h105
  refine jV (S' := [_, _, _, _, _]) (vs' := [_, _, _, _, _, _, _, _, _, _]) [0, 1, 2, 3, 4] [0, 1, 2, 3, 4, 5, 6, 7, 8, 9] 0 Y Y Y Y (jg Y Y (zo Y Y Y (zo Y Y Y (jo Y Y (jo Y Y (k7 (zX [_, _, _, _, _] 2 isAgg26 sizeOf26 Y Y Y Y ?_)))))))
  obtain ⟨t210, h107, hm⟩ := bindO hm
  refine jd [] [] Y Y Y Y Y Y Y call52 (fun w hh => Qb (⟨t76.cells, t76.tides, t76.fords, o_2, o_3⟩ : Channel) (qA l_7.1.q) l_7.1.n l_7.1.cap (qA l_7.2.1.q) l_7.2.1.n l_7.2.1.cap (qA l_7.2.2.q) l_7.2.2.n l_7.2.2.cap w (HV.callee (S0 := []) (vs0 := []) hh (roC (hh.vsepA 4 Y h33) (roC (hh.vsepA 5 Y h42) (roC (hh.vsepA 6 Y h56) roN)))) (vlen RI h33 Y) (AOK.q (vne h33)) (h33).hle (vlen RSa h42 Y) (AOK.q (vne h42)) (h42).hle (vlen RSi h56 Y) (AOK.q (vne h56)) (h56).hle h107) (fun l_24 h108 => ?_)
  have h109 := h108
  refine jV (S' := [_, _, _, _, _]) (vs' := [_, _, _, _, _, _, _, _, _, _, _]) [0, 1, 2, 3, 4] [0, 1, 2, 3, 4, 5, 6, 7, 8, 9, 10] 0 Y Y Y Y (jg Y Y (zo Y Y Y (zo Y Y Y (jo Y Y (jo Y Y (jq (ji ?_)))))))
  refine ji ?_
  obtain ⟨o_6, h110, h111⟩ := bindO hm
  refine j3 (ι := Unit) (fun l_25 => True) (fun l_25 => [(8, ptr b 0), (17, ptr b_2 0), (225, .bool o_6)]) (fun l_25 => [kc b_2 #[.int .i64 t120.cells, .int .i64 t120.tides, sL l_14.1, sL l_14.2.1, sL l_15] 26, kc l_6 #[.slice qa1 na1 ca1, .int .i64 t102.h0_1, .int .u32 t102.h0_2] 199, kc b_1 #[.int .i64 t76.cells, .int .i64 t76.tides, sL l_7.1, sL l_7.2.1, sL l_7.2.2] 26, kc l #[.slice qa0 na0 ca0, .int .i64 t47.b0_1, .int .u32 t47.b0_2] 199, kc b #[.int .i64 t41.r0.cells, .int .i64 t41.r0.tides, sL l_1.1, sL l_1.2.1, sL l_2] 26]) (fun l_25 => [vL 3 l_14.1 (RI.enc t120.fords), vL 98 l_14.2.1 (RSa.enc t120.sands), vL 55 l_15 (RSi.enc o_4), vL 3 l_7.1 (RI.enc t76.fords), vL 98 l_7.2.1 (RSa.enc o_2), vL 55 l_7.2.2 (RSi.enc o_3), vL 3 l_1.1 (RI.enc t41.r0.fords), vL 98 l_1.2.1 (RSa.enc t41.r0.sands), vL 55 l_2 (RSi.enc o)]) ?_ ?_
  ·replace hm := h110
   refine je (jg Y Y (jc Y Y Y (fun _ _ => Jc Y Y) (jg Y Y ?_)))
   refine j4 215 Y (fun h112 => ?_) (fun h112 => ?_)
   ·replace hm := ifF (of_ndec_true h112) hm
    refine g_k Y Y Y Y (g_k Y Y Y Y (yy Y Y Y (jg Y Y (g_k Y Y Y Y (g_k Y Y Y Y (g_k Y Y Y Y (g_k Y Y Y Y ?_)))))))
    refine g_k Y Y Y Y (yy Y Y Y (jx ?_))
    obtain rfl := sj hm
    exact jk () (trivial) (sE Y) (hsE [0, 1, 2, 3, 4] [2, 3, 4, 5, 6, 7, 8, 9, 10] 0 Y Y Y Y)
   replace hm := ifT (of_ndec_false h112) hm
   refine jb Y Y (jg Y Y (jb Y Y (jc Y Y Y (fun _ _ => Jc Y Y) (zu Y Y Y (jg Y Y ?_)))))
   refine j4 219 Y (fun h113 => ?_) (fun h113 => ?_)
   ·replace hm := ifF (of_ndec_true h113) hm
    refine g_k Y Y Y Y (g_k Y Y Y Y (g_k Y Y Y Y (g_k Y Y Y Y (g_k Y Y Y Y (yy Y Y Y (jx ?_))))))
    obtain rfl := sj hm
    exact jk () (trivial) (sE Y) (hsE [0, 1, 2, 3, 4] [2, 3, 4, 5, 6, 7, 8, 9, 10] 0 Y Y Y Y)
   replace hm := ifT (of_ndec_false h113) hm
   refine jb Y Y (jg Y Y (jb Y Y (jc Y Y Y (fun w _ => zr (vlen RI h106 Y) (runUnderlying22 w) Y) (jb Y Y (jg Y Y (jb Y Y (jc Y Y Y (fun w _ => zr (vlen RI h109 Y) (runUnderlying22 w) Y) ?_)))))))
   refine jb Y Y (jc Y Y Y (fun _ _ => Jc Y Y) (zu Y Y Y (jx ?_)))
   obtain rfl := sj hm
   exact jk () (trivial) (sE Y) (hsE [0, 1, 2, 3, 4] [2, 3, 4, 5, 6, 7, 8, 9, 10] 0 Y Y Y Y)
  intro l_25 hj
  replace hm := h111
  refine ja ?_
  refine ju Y (fun h114 => ?_) (fun h114 => ?_)
  ·replace hm := ifT (h114) hm
   refine jr (jo Y Y (jq (jv (jh ?_))))
   obtain rfl := sj hm
   refine jm Y (fun w hh => (.tmp Y .nil)) (fun w hh => ⟨(), rfl, trivial, hh.se [] [] 2 Y Y Y rfl⟩)
  replace hm := ifN h114 hm
  refine jt (ja (ji (jr (yD 2 runUnderlying26 Y sizeOf22 Y Y (yf 4 isAgg22 Y Y Y Y (jc Y Y Y (fun w _ => zr (vlen RI h5 Y) (runUnderlying22 w) Y) (jg Y Y ?_)))))))
  refine jq ?_
  obtain ⟨o_7, h115, h116⟩ := bindO hm
  refine j3 (ι := Unit) (fun j => o_7 = .inl j) (fun j => []) (fun j => [kc b_2 #[.int .i64 t120.cells, .int .i64 t120.tides, sL l_14.1, sL l_14.2.1, sL l_15] 26, kc l_6 #[.slice qa1 na1 ca1, .int .i64 t102.h0_1, .int .u32 t102.h0_2] 199, kc b_1 #[.int .i64 t76.cells, .int .i64 t76.tides, sL l_7.1, sL l_7.2.1, sL l_7.2.2] 26, kc l #[.slice qa0 na0 ca0, .int .i64 t47.b0_1, .int .u32 t47.b0_2] 199, kc b #[.int .i64 t41.r0.cells, .int .i64 t41.r0.tides, sL l_1.1, sL l_1.2.1, sL l_2] 26]) (fun j => [vL 3 l_14.1 (RI.enc t120.fords), vL 98 l_14.2.1 (RSa.enc t120.sands), vL 55 l_15 (RSi.enc o_4), vL 3 l_7.1 (RI.enc t76.fords), vL 98 l_7.2.1 (RSa.enc o_2), vL 55 l_7.2.2 (RSi.enc o_3), vL 3 l_1.1 (RI.enc t41.r0.fords), vL 98 l_1.2.1 (RSa.enc t41.r0.sands), vL 55 l_2 (RSi.enc o)]) ?_ ?_
  ·replace hm := h115
   refine jp ?_
   refine kk (ι := Unit) hm (fun s_3 l_26 => True) (fun s_3 l_26 => [(8, ptr b 0), (17, ptr b_2 0), (228, .int .i64 (t41.r0.fords.length : Int)), (229, .int .i64 s_3)]) (fun s_3 l_26 => [kc b_2 #[.int .i64 t120.cells, .int .i64 t120.tides, sL l_14.1, sL l_14.2.1, sL l_15] 26, kc l_6 #[.slice qa1 na1 ca1, .int .i64 t102.h0_1, .int .u32 t102.h0_2] 199, kc b_1 #[.int .i64 t76.cells, .int .i64 t76.tides, sL l_7.1, sL l_7.2.1, sL l_7.2.2] 26, kc l #[.slice qa0 na0 ca0, .int .i64 t47.b0_1, .int .u32 t47.b0_2] 199, kc b #[.int .i64 t41.r0.cells, .int .i64 t41.r0.tides, sL l_1.1, sL l_1.2.1, sL l_2] 26]) (fun s_3 l_26 => [vL 3 l_14.1 (RI.enc t120.fords), vL 98 l_14.2.1 (RSa.enc t120.sands), vL 55 l_15 (RSi.enc o_4), vL 3 l_7.1 (RI.enc t76.fords), vL 98 l_7.2.1 (RSa.enc o_2), vL 55 l_7.2.2 (RSi.enc o_3), vL 3 l_1.1 (RI.enc t41.r0.fords), vL 98 l_1.2.1 (RSa.enc t41.r0.sands), vL 55 l_2 (RSi.enc o)]) () (trivial) (sE Y) (fun w hh => hh) (fun s_3 l_26 r_3 hpl hm h117 => ?_)
   unfold kq at hm
   refine jr (Kv Y Y Y (jq (ji ?_)))
   refine ju Y (fun h118 => ?_) (fun h118 => ?_)
   ·replace hm := ifD h118 hm
    refine jt (ja (ji (jp (jr (jg Y Y (jo Y Y (k7 ?_)))))))
    refine zX [_, _, _, _, _] 4 isAgg26 sizeOf26 Y Y Y Y (yD 1 runUnderlying26 Y sizeOf3 Y Y (yf 4 isAgg3 Y Y Y Y (jg Y Y ?_)))
    obtain ⟨t237, h119, hm⟩ := bindO hm
    refine jd [] [] Y Y Y Y Y Y Y call42 (fun w hh => Kp (⟨t41.r0.cells, t41.r0.tides, t41.r0.fords, t41.r0.sands, o⟩ : Channel) t41.r0.tides s_3 (qA l_1.1.q) l_1.1.n l_1.1.cap (qA l_1.2.1.q) l_1.2.1.n l_1.2.1.cap (qA l_2.q) l_2.n l_2.cap w (HV.callee (S0 := []) (vs0 := []) hh (roC (hh.vsepA 6 Y h5) (roC (hh.vsepA 7 Y h6) (roC (hh.vsepA 8 Y h16) roN)))) (vlen RI h5 Y) (AOK.q (vne h5)) (h5).hle (vlen RSa h6 Y) (AOK.q (vne h6)) (h6).hle (vlen RSi h16 Y) (AOK.q (vne h16)) (h16).hle h119) (fun l_27 h120 => ?_)
    have h121 := h120
    refine jV (S' := [_, _, _, _, _]) (vs' := [_, _, _, _, _, _, _, _, _, _]) [0, 1, 2, 3, 4] [0, 1, 2, 3, 4, 5, 6, 7, 8, 9] 0 Y Y Y Y (jg Y Y (zo Y Y Y (zo Y Y Y (jo Y Y (jo Y Y (k7 (zX [_, _, _, _, _] 0 isAgg26 sizeOf26 Y Y Y Y ?_)))))))
    refine yD 1 runUnderlying26 Y sizeOf3 Y Y (yf 4 isAgg3 Y Y Y Y (jg Y Y ?_))
    obtain ⟨t245, h122, hm⟩ := bindO hm
    refine jd [] [] Y Y Y Y Y Y Y call42 (fun w hh => Kp (⟨t120.cells, t120.tides, t120.fords, t120.sands, o_4⟩ : Channel) t41.r0.tides s_3 (qA l_14.1.q) l_14.1.n l_14.1.cap (qA l_14.2.1.q) l_14.2.1.n l_14.2.1.cap (qA l_15.q) l_15.n l_15.cap w (HV.callee (S0 := []) (vs0 := []) hh (roC (hh.vsepA 1 Y h67) (roC (hh.vsepA 2 Y h68) (roC (hh.vsepA 3 Y h73) roN)))) (vlen RI h67 Y) (AOK.q (vne h67)) (h67).hle (vlen RSa h68 Y) (AOK.q (vne h68)) (h68).hle (vlen RSi h73 Y) (AOK.q (vne h73)) (h73).hle h122) (fun l_28 h123 => ?_)
    have h124 := h123
    refine jV (S' := [_, _, _, _, _]) (vs' := [_, _, _, _, _, _, _, _, _, _, _]) [0, 1, 2, 3, 4] [0, 1, 2, 3, 4, 5, 6, 7, 8, 9, 10] 0 Y Y Y Y (jg Y Y (zo Y Y Y (zo Y Y Y (jo Y Y (jo Y Y (jq (ji ?_)))))))
    obtain ⟨o_8, h125, h126⟩ := bindO hm
    refine j3 (ι := Unit) (fun l_29 => True) (fun l_29 => [(8, ptr b 0), (17, ptr b_2 0), (228, .int .i64 (t41.r0.fords.length : Int)), (229, .int .i64 s_3), (256, .bool o_8)]) (fun l_29 => [kc b_2 #[.int .i64 t120.cells, .int .i64 t120.tides, sL l_14.1, sL l_14.2.1, sL l_15] 26, kc l_6 #[.slice qa1 na1 ca1, .int .i64 t102.h0_1, .int .u32 t102.h0_2] 199, kc b_1 #[.int .i64 t76.cells, .int .i64 t76.tides, sL l_7.1, sL l_7.2.1, sL l_7.2.2] 26, kc l #[.slice qa0 na0 ca0, .int .i64 t47.b0_1, .int .u32 t47.b0_2] 199, kc b #[.int .i64 t41.r0.cells, .int .i64 t41.r0.tides, sL l_1.1, sL l_1.2.1, sL l_2] 26]) (fun l_29 => [vL 3 l_14.1 (RI.enc t120.fords), vL 98 l_14.2.1 (RSa.enc t120.sands), vL 55 l_15 (RSi.enc o_4), vL 3 l_7.1 (RI.enc t76.fords), vL 98 l_7.2.1 (RSa.enc o_2), vL 55 l_7.2.2 (RSi.enc o_3), vL 3 l_1.1 (RI.enc t41.r0.fords), vL 98 l_1.2.1 (RSa.enc t41.r0.sands), vL 55 l_2 (RSi.enc o)]) ?_ ?_
    ·replace hm := h125
     refine je (jg Y Y (jg Y Y (jc Y Y Y (fun _ _ => Jc Y Y) (jg Y Y ?_))))
     refine j4 251 Y (fun h127 => ?_) (fun h127 => ?_)
     ·replace hm := ifF (of_ndec_true h127) hm
      refine g_k Y Y Y Y (g_k Y Y Y Y (g_k Y Y Y Y (g_k Y Y Y Y (yy Y Y Y (jx ?_)))))
      obtain rfl := sj hm
      exact jk () (trivial) (sE Y) (hsE [0, 1, 2, 3, 4] [2, 3, 4, 5, 6, 7, 8, 9, 10] 0 Y Y Y Y)
     replace hm := ifT (of_ndec_false h127) hm
     refine jb Y Y (jg Y Y (jb Y Y (jg Y Y (jb Y Y ?_))))
     obtain ⟨t254, h128, hm⟩ := bindO hm
     refine jd [] [] Y Y Y Y Y Y Y call45 (fun w hh => Q9 t237.r0 t245.r0 (qA l_27.q) l_27.n l_27.cap (qA l_28.q) l_28.n l_28.cap w (HV.callee (S0 := []) (vs0 := []) hh (roC (hh.vsepA 1 Y h121) (roC (hh.vsepA 0 Y h124) roN))) (vlen RI h121 Y) (AOK.q (vne h121)) (h121).hle (vlen RI h124 Y) (AOK.q (vne h124)) (h124).hle h128) (fun l_30 h129 => ?_)
     refine jb Y Y (jc Y Y Y (fun _ _ => zt Y) (zu Y Y Y (jx ?_)))
     obtain rfl := sj hm
     exact jk () (trivial) (sE Y) (hsE [0, 1, 2, 3, 4] [2, 3, 4, 5, 6, 7, 8, 9, 10] 0 Y Y Y Y)
    intro l_29 hj
    replace hm := h126
    refine ja ?_
    refine ju Y (fun h130 => ?_) (fun h130 => ?_)
    ·replace hm := ifT (h130) hm
     refine jr (jo Y Y (jq (jv (jJ (jh (jh (jJ ?_)))))))
     obtain rfl := sj hm
     have hbo := h117 _ Y
     subst hbo
     refine jh ?_
     replace hm := ocR h116
     refine jh ?_
     obtain rfl := sj hm
     refine jm Y (fun w hh => (.tmp Y .nil)) (fun w hh => ⟨(), rfl, trivial, hh.se [] [] 2 Y Y Y rfl⟩)
    replace hm := ifN h130 hm
    refine jt (jw (ja (je ?_)))
    obtain ⟨t257, h131, hm⟩ := bindO hm
    refine Kq h131 Y Y Y (jg Y Y (jx ?_))
    obtain rfl := sj hm
    refine ja ?_
    exact jN _ () Y (trivial) (sE Y) (fun w hh => hh)
   replace hm := ifE h118 hm
   refine kN (jl (jl (jO ?_)))
   obtain rfl := sj hm
   have hbo := h117 _ Y
   subst hbo
   exact jk () (Y) (.nil) (fun w hh => hh)
  intro j hj
  have h132 := hj
  subst h132
  replace hm := ocL h116
  refine ja (jr ?_)
  obtain ⟨t258, h133, hm⟩ := bindO hm
  refine jd [] [] Y Y Y Y Y Y Y call19 (fun w hh => Yp  w (HV.callee (S0 := []) (vs0 := []) hh roN)  h133) (fun l_31 h134 => ?_)
  refine jo Y Y (jq (jv ?_))
  obtain rfl := sj hm
  refine jm Y (fun w hh => (.tmp Y .nil)) (fun w hh => ⟨(), rfl, trivial, hh.se [] [] 2 Y Y Y rfl⟩)
end Go.Proofs.Wb

namespace Go.Proofs.Wb
open Go Go.Fw Go.Gx Go.Sb
set_option linter.unusedVariables false
def Named (cnt : Nat → Bool) (sg : List Sight) (s : Sight) : Prop := ∃ i, i < sg.length ∧ cnt i = true ∧ sg.getD i default = s
theorem agP_named {cnt : Nat → Bool} {sg : List Sight} {k : Int} {l : List Int} : agP cnt sg k l = true ↔ ∀ s, Named cnt sg s → s.after = k → decide (s.cell ∈ l) = s.upright := by
  rw [agP_iff]
  constructor
  · rintro h s ⟨i, hi, hc, rfl⟩ ha
    exact h i hi hc ha
  · intro h i hi hc ha
    exact h _ ⟨i, hi, hc, rfl⟩ ha
theorem agP_same {cnt cnt' : Nat → Bool} {sg sg' : List Sight} (h : ∀ s, Named cnt sg s ↔ Named cnt' sg' s) (k : Int) (l : List Int) : agP cnt sg k l = agP cnt' sg' k l := by
  rw [Bool.eq_iff_iff, agP_named, agP_named]
  constructor
  · intro q s hs; exact q s ((h s).2 hs)
  · intro q s hs; exact q s ((h s).1 hs)
theorem named_all {sg : List Sight} {s : Sight} : Named tt sg s ↔ s ∈ sg := by
  constructor
  · rintro ⟨i, hi, _, rfl⟩; exact getDm _ hi
  · intro h
    obtain ⟨i, hi, e⟩ := List.getElem_of_mem h
    exact ⟨i, hi, rfl, by rw [List.getD_eq_getElem?_getD, List.getElem?_eq_getElem hi, ← e]; rfl⟩
structure Like (c c' : Channel) : Prop where
  cells : c'.cells = c.cells
  tides : c'.tides = c.tides
  fords : c'.fords = c.fords
  rch : ∀ x, rchC c'.sands x = rchC c.sands x
theorem Like.symm {c c' : Channel} (h : Like c c') : Like c' c := ⟨h.cells.symm, h.tides.symm, h.fords.symm, fun x => (h.rch x).symm⟩
theorem Like.rchL {c c' : Channel} (h : Like c c') : rchL c' = rchL c := by
  unfold Go.Proofs.Wb.rchL
  rw [h.cells]
  apply List.map_congr_left
  intro t _
  exact h.rch _
theorem Like.nx {c c' : Channel} (h : Like c c') : nxS c' = nxS c := by
  funext s
  unfold nxS
  rw [h.rchL, h.cells, h.fords]
theorem cnt_like {c c' : Channel} (h : Like c c') {cnt cnt' : Nat → Bool} (hn : ∀ s, Named cnt c.sights s ↔ Named cnt' c'.sights s) : cntS cnt' c' = cntS cnt c := by
  have hag : agS cnt' c' = agS cnt c := by
    funext s
    unfold agS
    rw [h.fords]
    exact (agP_same hn _ _).symm
  unfold cntS first
  rw [h.nx, hag, h.tides, h.fords]
theorem Like.can {c c' : Channel} (h : Like c c') (a b : List Int) : canB c'.sands a b = canB c.sands a b := by
  unfold canB
  congr 1
  funext i
  rw [h.rch]
theorem Like.LL {c c' : Channel} (h : Like c c') : LL c' = LL c := by
  unfold Go.Proofs.Wb.LL
  rw [h.cells, h.fords]
theorem FcL_like {c c' : Channel} (h : Like c c') (hn : ∀ s, s ∈ c.sights ↔ s ∈ c'.sights) : ∀ (k : Nat) (l : List Int), FcL tt c' k l = FcL tt c k l
  | 0, l => by
    rw [FcL, FcL, h.fords, agP_same (cnt := tt) (cnt' := tt) (sg := c'.sights) (sg' := c.sights) (fun s => by rw [named_all, named_all, hn])]
  | k + 1, l => by
    rw [FcL, FcL, h.LL, agP_same (cnt := tt) (cnt' := tt) (sg := c'.sights) (sg' := c.sights) (fun s => by rw [named_all, named_all, hn])]
    split
    · refine sumN_congr fun a _ => ?_
      rw [h.can, FcL_like h hn k a]
    · rfl
theorem on_like {c c' : Channel} (h : Like c c') (hn : ∀ s, s ∈ c.sights ↔ s ∈ c'.sights) (k : Nat) (l : List Int) : onB c' k l = onB c k l := by
  have hag : agS tt c' = agS tt c := by
    funext s
    unfold agS
    rw [h.fords]
    exact agP_same (fun s => by rw [named_all, named_all, hn]) _ _
  unfold onB
  rw [FcL_like h hn, h.nx, hag, h.tides]
theorem where_like {c c' : Channel} (h : Like c c') (hn : ∀ s, s ∈ c.sights ↔ s ∈ c'.sights) (k i : Nat) : whereL c' k i = whereL c k i := by
  unfold whereL
  rw [h.LL, h.cells]
  congr 1
  funext x
  congr 1
  funext l
  rw [on_like h hn]
theorem rchC_spec {l : List Sand} {x : Int} : (∀ s ∈ l, s.span.lo ≤ x ∧ x ≤ s.span.hi → s.reach ≤ rchC l x) ∧ 0 ≤ rchC l x ∧ (rchC l x = 0 ∨ ∃ s ∈ l, (s.span.lo ≤ x ∧ x ≤ s.span.hi) ∧ rchC l x = s.reach) := by
  unfold rchC
  have key : ∀ (l : List Sand) (r : Int), r ≤ l.foldl (stepR x) r ∧ (∀ s ∈ l, s.span.lo ≤ x ∧ x ≤ s.span.hi → s.reach ≤ l.foldl (stepR x) r) ∧ (l.foldl (stepR x) r = r ∨ ∃ s ∈ l, (s.span.lo ≤ x ∧ x ≤ s.span.hi) ∧ l.foldl (stepR x) r = s.reach) := by
    intro l
    induction l with
    | nil => intro r; exact ⟨Int.le_refl _, fun s hs => (by cases hs), .inl rfl⟩
    | cons a l ih =>
      intro r
      obtain ⟨h1, h2, h3⟩ := ih (stepR x r a)
      rw [List.foldl_cons]
      have h4 : r ≤ stepR x r a ∧ (a.span.lo ≤ x ∧ x ≤ a.span.hi → a.reach ≤ stepR x r a) ∧ (stepR x r a = r ∨ (a.span.lo ≤ x ∧ x ≤ a.span.hi) ∧ stepR x r a = a.reach) := by
        unfold stepR
        split
        · rename_i h
          refine ⟨by omega, fun _ => by omega, ?_⟩
          by_cases q : r ≤ a.reach
          · exact .inr ⟨h, by omega⟩
          · exact .inl (by omega)
        · rename_i h
          exact ⟨Int.le_refl _, fun q => absurd q h, .inl rfl⟩
      refine ⟨by omega, fun s hs hi => ?_, ?_⟩
      · rcases List.mem_cons.1 hs with rfl | hs
        · have := h4.2.1 hi; omega
        · exact h2 s hs hi
      · rcases h3 with q | ⟨s, hs, hi, e⟩
        · rcases h4.2.2 with q2 | ⟨hi, q2⟩
          · exact .inl (by omega)
          · exact .inr ⟨a, by simp, hi, by omega⟩
        · exact .inr ⟨s, by simp [hs], hi, e⟩
  obtain ⟨h1, h2, h3⟩ := key l 0
  exact ⟨h2, h1, h3⟩
theorem rchC_same {l m : List Sand} (h : ∀ s, s ∈ l ↔ s ∈ m) (x : Int) : rchC m x = rchC l x := by
  obtain ⟨a1, a2, a3⟩ := rchC_spec (l := l) (x := x)
  obtain ⟨b1, b2, b3⟩ := rchC_spec (l := m) (x := x)
  have h1 : rchC l x ≤ rchC m x := by
    rcases a3 with q | ⟨s, hs, hi, e⟩
    · omega
    · rw [e]; exact b1 s ((h s).1 hs) hi
  have h2 : rchC m x ≤ rchC l x := by
    rcases b3 with q | ⟨s, hs, hi, e⟩
    · omega
    · rw [e]; exact a1 s ((h s).2 hs) hi
  omega
theorem nodup_le {l : List Int} : ∀ {m : List Int}, l.Nodup → (∀ x ∈ l, x ∈ m) → l.length ≤ m.length := by
  induction l with
  | nil => intro m _ _; exact Nat.zero_le _
  | cons a l ih =>
    intro m hn hs
    obtain ⟨h1, h2⟩ := List.nodup_cons.1 hn
    have ha := hs a (by simp)
    have h3 := ih (m := m.erase a) h2 (fun x hx => (List.mem_erase_of_ne (fun e => h1 (by rw [← e]; exact hx))).2 (hs x (by simp [hx])))
    rw [List.length_erase_of_mem ha] at h3
    have := List.length_pos_of_mem ha
    rw [List.length_cons]
    omega
def imgL (F : Nat → Nat) (l : List Int) (n : Nat) : List Int := filtL (fun j => l.any fun i => decide (F i.toNat = j)) n
theorem mem_img {F : Nat → Nat} {l : List Int} {n : Nat} {x : Int} : x ∈ imgL F l n ↔ (0 ≤ x ∧ x < (n : Int)) ∧ ∃ i ∈ l, F i.toNat = x.toNat := by
  unfold imgL
  rw [mem_filtL]
  simp only [List.any_eq_true, decide_eq_true_eq]
  constructor
  · rintro ⟨h1, h2, h3⟩; exact ⟨⟨h1, h2⟩, h3⟩
  · rintro ⟨⟨h1, h2⟩, h3⟩; exact ⟨h1, h2, h3⟩
theorem img_E0 (F : Nat → Nat) (l : List Int) (n : Nat) : imgL F l n ∈ E0 n ∧ (imgL F l n).length ≤ l.length := by
  refine ⟨mem_E0.2 ⟨filtL_len, filtL_asc, fun x hx => (mem_img.1 hx).1⟩, ?_⟩
  have := nodup_le (l := imgL F l n) (m := l.map fun i => ((F i.toNat : Nat) : Int)) (pw_nodup filtL_asc) (fun x hx => by
    obtain ⟨h1, i, hi, e⟩ := mem_img.1 hx
    exact List.mem_map.2 ⟨i, hi, by omega⟩)
  rwa [List.length_map] at this
theorem find_le {n n' : Nat} {p p' : List Int → Bool} {w w' : List Int} (hw : (E0 n).find? p = some w) (hw' : (E0 n').find? p' = some w') (h : ∀ l ∈ E0 n, p l = true → ∃ l' ∈ E0 n', l'.length ≤ l.length ∧ p' l' = true) : w'.length ≤ w.length := by
  obtain ⟨l', h1, h2, h3⟩ := h w (List.mem_of_find?_eq_some hw) (List.find?_some hw)
  have : ¬ l'.length < w'.length := fun hlt => by
    have := find_min hw' h1 hlt
    rw [h3] at this
    exact absurd this (by decide)
  omega
theorem named_in {l : List Int} {sg : List Sight} {s : Sight} : Named (cIn l) sg s ↔ ∃ i : Nat, i < sg.length ∧ (i : Int) ∈ l ∧ sg.getD i default = s := by
  unfold Named cIn
  simp only [decide_eq_true_eq]
theorem named_out {l : List Int} {sg : List Sight} {s : Sight} : Named (cOut l) sg s ↔ ∃ i : Nat, i < sg.length ∧ (i : Int) ∉ l ∧ sg.getD i default = s := by
  unfold Named cOut
  simp only [Bool.not_eq_true', decide_eq_false_iff_not]
theorem clash_le {c c' : Channel} (h : Like c c') (hs : ∀ s ∈ c.sights, s ∈ c'.sights) : ∀ l ∈ E0 c.sights.length, pC c l = true → ∃ l' ∈ E0 c'.sights.length, l'.length ≤ l.length ∧ pC c' l' = true := by
  intro l hl hp
  obtain ⟨h1, h2⟩ := img_E0 (fun i => c'.sights.idxOf (c.sights.getD i default)) l c'.sights.length
  refine ⟨_, h1, h2, ?_⟩
  unfold pC at hp ⊢
  rw [cnt_like h (cnt := cIn l) (fun s => ?_)]
  · exact hp
  · obtain ⟨m1, m2, m3⟩ := mem_E0.1 hl
    have hF : ∀ i : Nat, i < c.sights.length → c'.sights.idxOf (c.sights.getD i default) < c'.sights.length ∧ c'.sights.getD (c'.sights.idxOf (c.sights.getD i default)) default = c.sights.getD i default := fun i hi => by
      have q := List.idxOf_lt_length_of_mem (hs _ (getDm default hi))
      refine ⟨q, ?_⟩
      rw [List.getD_eq_getElem?_getD, List.getElem?_eq_getElem q, List.getElem_idxOf]
      rfl
    rw [named_in, named_in]
    constructor
    · rintro ⟨i, hi, hm, rfl⟩
      obtain ⟨q1, q2⟩ := hF i hi
      exact ⟨_, q1, mem_img.2 ⟨by omega, _, hm, by rw [Int.toNat_natCast, Int.toNat_natCast]⟩, q2⟩
    · rintro ⟨j, hj, hm, rfl⟩
      obtain ⟨_, i, hi, e⟩ := mem_img.1 hm
      have hb := m3 i hi
      obtain ⟨q1, q2⟩ := hF i.toNat (by omega)
      refine ⟨i.toNat, by omega, ?_, ?_⟩
      · rw [show ((i.toNat : Nat) : Int) = i by omega]; exact hi
      · rw [Int.toNat_natCast] at e
        rw [← e, q2]
theorem wrong_le {c c' : Channel} (h : Like c c') (F : Nat → Nat) (hF : ∀ i, i < c.sights.length → F i < c'.sights.length ∧ c'.sights.getD (F i) default = c.sights.getD i default) (hi : ∀ i j, i < c.sights.length → j < c.sights.length → F i = F j → i = j) (hsj : ∀ j, j < c'.sights.length → ∃ i, i < c.sights.length ∧ F i = j) : ∀ l ∈ E0 c.sights.length, pW c l = true → ∃ l' ∈ E0 c'.sights.length, l'.length ≤ l.length ∧ pW c' l' = true := by
  intro l hl hp
  obtain ⟨h1, h2⟩ := img_E0 F l c'.sights.length
  refine ⟨_, h1, h2, ?_⟩
  unfold pW at hp ⊢
  rw [cnt_like h (cnt := cOut l) (fun s => ?_)]
  · exact hp
  · obtain ⟨m1, m2, m3⟩ := mem_E0.1 hl
    rw [named_out, named_out]
    constructor
    · rintro ⟨i, hi', hm, rfl⟩
      obtain ⟨q1, q2⟩ := hF i hi'
      refine ⟨F i, q1, fun hq => ?_, q2⟩
      obtain ⟨_, i', hi2, e⟩ := mem_img.1 hq
      rw [Int.toNat_natCast] at e
      have hb := m3 i' hi2
      have := hi i'.toNat i (by omega) hi' e
      exact hm (by rw [← this, show ((i'.toNat : Nat) : Int) = i' by omega]; exact hi2)
    · rintro ⟨j, hj, hm, rfl⟩
      obtain ⟨i, hi', rfl⟩ := hsj j hj
      obtain ⟨q1, q2⟩ := hF i hi'
      refine ⟨i, hi', fun hq => hm (mem_img.2 ⟨by omega, _, hq, by rw [Int.toNat_natCast, Int.toNat_natCast]⟩), q2.symm⟩
structure Put {α : Type} [Inhabited α] (p : List Int) (a b : List α) : Prop where
  len : b.length = a.length
  get : ∀ i, i < a.length → (p.getD i 0).toNat < a.length ∧ b.getD (p.getD i 0).toNat default = a.getD i default
theorem ord_get {n : Nat} {p : List Int} (h : IsOrd n p) {i : Nat} (hi : i < n) : 0 ≤ p.getD i 0 ∧ p.getD i 0 < (n : Int) := by
  have hl := h.len
  have hm : p.getD i 0 ∈ p := getDm 0 (by omega)
  obtain ⟨k, hk, e⟩ := List.mem_map.1 ((List.Perm.mem_iff h).1 hm)
  have := List.mem_range.1 hk
  omega
theorem ord_nodup {n : Nat} {p : List Int} (h : IsOrd n p) : p.Nodup := (List.Perm.nodup_iff h).2 (pw_nodup (by
  have := full_pw n
  exact this))
theorem ord_inj {n : Nat} {p : List Int} (h : IsOrd n p) {i j : Nat} (hi : i < n) (hj : j < n) (e : (p.getD i 0).toNat = (p.getD j 0).toNat) : i = j := by
  have hl := h.len
  have h1 := ord_get h hi
  have h2 := ord_get h hj
  have h3 := (ord_nodup h).idxOf_getElem i (by omega)
  have h4 := (ord_nodup h).idxOf_getElem j (by omega)
  have e2 : p.getD i 0 = p.getD j 0 := by omega
  rw [List.getD_eq_getElem?_getD, List.getD_eq_getElem?_getD, List.getElem?_eq_getElem (by omega), List.getElem?_eq_getElem (by omega), Option.getD_some, Option.getD_some] at e2
  rw [← h3, ← h4]
  simp only [e2]
theorem ord_surj {n : Nat} {p : List Int} (h : IsOrd n p) {j : Nat} (hj : j < n) : ∃ i, i < n ∧ (p.getD i 0).toNat = j := by
  have hl := h.len
  have hm : (j : Int) ∈ p := (List.Perm.mem_iff h).2 (List.mem_map.2 ⟨j, List.mem_range.2 hj, rfl⟩)
  obtain ⟨i, hi, e⟩ := List.getElem_of_mem hm
  refine ⟨i, by omega, ?_⟩
  rw [List.getD_eq_getElem?_getD, List.getElem?_eq_getElem hi, Option.getD_some, e, Int.toNat_natCast]
theorem put_mem {α : Type} [Inhabited α] {p : List Int} {a b : List α} (ho : IsOrd a.length p) (h : Put p a b) (x : α) : x ∈ a ↔ x ∈ b := by
  have key : ∀ (l : List α) (i : Nat), i < l.length → l.getD i default ∈ l := fun l i hi => getDm default hi
  have get : ∀ (l : List α) (y : α), y ∈ l → ∃ i, i < l.length ∧ l.getD i default = y := fun l y hy => by
    obtain ⟨i, hi, e⟩ := List.getElem_of_mem hy
    exact ⟨i, hi, by rw [List.getD_eq_getElem?_getD, List.getElem?_eq_getElem hi, ← e]; rfl⟩
  constructor
  · intro hx
    obtain ⟨i, hi, rfl⟩ := get a x hx
    obtain ⟨h1, h2⟩ := h.get i hi
    rw [← h2]
    exact key b _ (by rw [h.len]; exact h1)
  · intro hx
    obtain ⟨j, hj, rfl⟩ := get b x hx
    rw [h.len] at hj
    obtain ⟨i, hi, rfl⟩ := ord_surj ho hj
    rw [(h.get i hi).2]
    exact key a i hi
theorem put_loop {α σ : Type} [Inhabited α] {p : List Int} {a : List α} (ho : IsOrd a.length p) (hn : a.length ≤ 1000) (mk : Int → List α → σ) {f : σ → Option (σ ⊕ List α)} (eta : α → α) (he : ∀ x, eta x = x)
    (hf : ∀ i b, f (mk i b) = if i < (p.length : Int) then ((ix p i).bind fun t => (ix a i).bind fun y => (ix b t).bind fun _ => (some (b.set (Int.toNat t) (eta y))).bind fun b' => (addc i 1).bind fun i' => some (.inl (mk i' b'))) else some (.inr b)) :
    ∃ b, iterM FU f (mk 0 a) = some b ∧ Put p a b := by
  have hl := ho.len
  have key : ∀ (m k : Nat) (b : List α) (N : Nat), k + m = a.length → m < N → b.length = a.length → (∀ i, i < k → b.getD (p.getD i 0).toNat default = a.getD i default) → ∃ b', iterM N f (mk (k : Int) b) = some b' ∧ Put p a b' := by
    intro m
    induction m with
    | zero =>
      intro k b N hk hN hb hg
      obtain ⟨N, rfl⟩ : ∃ N', N = N' + 1 := ⟨N - 1, by omega⟩
      refine ⟨b, iterM_done (by rw [hf, if_neg (by omega)]), hb, fun i hi => ⟨?_, hg i (by omega)⟩⟩
      have := ord_get ho hi
      omega
    | succ m ih =>
      intro k b N hk hN hb hg
      obtain ⟨N, rfl⟩ : ∃ N', N = N' + 1 := ⟨N - 1, by omega⟩
      have hk2 := ord_get ho (show k < a.length by omega)
      have hstep : f (mk (k : Int) b) = some (.inl (mk ((k + 1 : Nat) : Int) (b.set (p.getD k 0).toNat (eta (a.getD k default))))) := by
        rw [hf, if_pos (by omega), ix_nat 0 (by omega), Option.bind_some, ix_nat default (by omega), Option.bind_some, ix_eq default hk2.1 (by omega), Option.bind_some, Option.bind_some, addc_eq (by omega), Option.bind_some]
        rfl
      rw [iterM_step hstep]
      refine ih (k + 1) _ N (by omega) (by omega) (by rw [List.length_set]; exact hb) (fun i hi => ?_)
      rw [getDset (show (p.getD k 0).toNat < b.length by omega)]
      by_cases he2 : i = k
      · subst he2; rw [if_pos rfl, he]
      · rw [if_neg (fun q => he2 (ord_inj ho (by omega) (by omega) q))]
        exact hg i (by omega)
  exact key a.length 0 a FU (by omega) (FU_lt (by omega)) rfl (fun i hi => absurd hi (by omega))
end Go.Proofs.Wb

namespace Go.Proofs.Wb
open Go Go.Fw Go.Gx Go.Sb
set_option linter.unusedVariables false
theorem nu_turn {t : qt} {tn T cells : Int} (hn : t.r0.length ≤ 8) (h : ∀ s ∈ t.r0, (0 ≤ s.after ∧ s.after ≤ T) ∧ 0 ≤ s.cell ∧ s.cell < cells) : ∃ o, iterM FU (ko t tn) ⟨0, t.r0⟩ = some o ∧ o.length = t.r0.length ∧ ∀ s ∈ o, (0 ≤ s.after ∧ s.after ≤ T) ∧ 0 ≤ s.cell ∧ s.cell < cells := by
  refine iterM_inv (f := ko t tn) (fun s => (0 ≤ s.t52 ∧ s.t52 ≤ (t.r0.length : Int)) ∧ s.r0.length = t.r0.length ∧ ∀ w ∈ s.r0, (0 ≤ w.after ∧ w.after ≤ T) ∧ 0 ≤ w.cell ∧ w.cell < cells) (fun s => ((t.r0.length : Int) - s.t52).toNat) _ (fun s hs => ?_) FU _ (FU_lt (by simp only; omega)) ⟨by simp only; omega, rfl, h⟩
  obtain ⟨h0, h1, h2⟩ := hs
  unfold ko
  by_cases hlt : s.t52 < (t.r0.length : Int)
  · left
    rw [if_pos hlt, if_pos h0.1, addc_eq (by omega)]
    split
    · have hix : ix s.r0 s.t52 = some (s.r0.getD s.t52.toNat default) := ix_eq default h0.1 (by omega)
      have hm : s.r0.getD s.t52.toNat default ∈ s.r0 := getDm default (by omega)
      rw [hix, Option.bind_some, Option.bind_some, Option.bind_some, Option.bind_some, Option.bind_some]
      refine ⟨_, rfl, ⟨by simp only; omega, by simp only [List.length_set]; exact h1, fun w hw => ?_⟩, by simp only; omega⟩
      rcases List.mem_or_eq_of_mem_set hw with hw | hw
      · exact h2 w hw
      · rw [hw]
        have := h2 _ hm
        exact this
    · rw [Option.bind_some, Option.bind_some]
      exact ⟨_, rfl, ⟨by simp only; omega, h1, h2⟩, by simp only; omega⟩
  · right
    rw [if_neg hlt]
    exact ⟨_, rfl, h1, h2⟩
theorem nu_L1 {t : kX} {x : kT} (ho : IsOrd x.r0.sands.length t.r0) (hn : x.r0.sands.length ≤ 1000) : ∃ b, iterM FU (qe t x) ⟨0, x.r0.sands⟩ = some b ∧ Put t.r0 x.r0.sands b :=
  put_loop (f := qe t x) ho hn (fun i b => ⟨i, b⟩) (fun s => ⟨⟨s.span.lo, s.span.hi⟩, s.reach⟩) (fun _ => rfl) (fun i b => rfl)
theorem nu_L2 {t : kX} {o : List Sight} (ho : IsOrd o.length t.r0) (hn : o.length ≤ 1000) : ∃ b, iterM FU (qf t o) ⟨0, o⟩ = some b ∧ Put t.r0 o b :=
  put_loop (f := qf t o) ho hn (fun i b => ⟨i, b⟩) (fun s => ⟨s.after, s.cell, s.upright⟩) (fun _ => rfl) (fun i b => rfl)
theorem clash_find' {c : Channel} (r : Right c) (h0 : ¬ 0 < cntS tt c) (hF : Few c) (hk : chk c = 0) : ∃ l, qx c = some ⟨0, l⟩ ∧ (E0 c.sights.length).find? (pC c) = some l := by
  obtain ⟨l, h1, h2, _, _⟩ := find_clash r h0
  exact ⟨l, by rw [Ya hF, if_pos hk, if_neg h0, h1]; rfl, h2⟩
theorem BranchNumbered_true {l q : List Int} (hl : l.length ≤ 9223372036854775807) (hq : q.length ≤ 9223372036854775807) (tn : Int) : qK l q tn = some true := by
  unfold qK
  rw [pile_eq, Option.bind_some, awake_true]
  obtain ⟨x, y, h1, h2, hM, hW, _, hn, hS⟩ := made_seen hl (cells := 8) (fords := 2) (tides := 3) (most := 5) (by omega) (by omega) (by omega) (by omega)
  simp only
  rw [h1, Option.bind_some, h2, Option.bind_some]
  have r0 := hM.right
  have hs4 := r0.sands
  obtain ⟨o, ho, ho1, ho2⟩ := nu_turn (t := y) (tn := tn) (T := x.r0.tides) (cells := x.r0.cells) (by omega) (fun s hs => ⟨(hS s hs).after, (hS s hs).cell⟩)
  have hcS : (⟨x.r0.cells, x.r0.tides, x.r0.fords, x.r0.sands, o⟩ : Channel) = cS x.r0 o := rfl
  have r : Right (cS x.r0 o) := right_sights r0 (by omega) ho2
  have hF : Few (cS x.r0 o) := few_right r (by show o.length ≤ 8; omega)
  have hk : chk (cS x.r0 o) = 0 := chk_right r (by show o.length ≤ 8; omega)
  obtain ⟨t, t1, t2, t3⟩ := order_ok hq (p := 0) (r := 0) (n := x.r0.sands.length) (HOK_zero q) (by omega)
  obtain ⟨S2, s1, s2⟩ := nu_L1 t3 (by omega)
  obtain ⟨u, u1, u2, u3⟩ := order_ok hq (p := t.h0_1) (r := t.h0_2) (n := o.length) t2 (by omega)
  obtain ⟨G2, g1, g2⟩ := nu_L2 u3 (by omega)
  rw [ho, Option.bind_some, pile_eq, Option.bind_some, hcS, Own_eq hF, Option.bind_some]
  have e1 : (⟨0, (cS x.r0 o).sands⟩ : ks) = ⟨0, x.r0.sands⟩ := rfl
  have e2 : (⟨0, (cS x.r0 o).sights⟩ : kt) = ⟨0, o⟩ := rfl
  rw [e1, e2]
  dsimp only
  rw [t1, Option.bind_some, s1, Option.bind_some, u1, Option.bind_some, g1, Option.bind_some]
  -- the channel in another order
  have hc2 : (⟨(cS x.r0 o).cells, (cS x.r0 o).tides, (cS x.r0 o).fords, S2, G2⟩ : Channel) = ⟨x.r0.cells, x.r0.tides, x.r0.fords, S2, G2⟩ := rfl
  rw [hc2]
  have hsm : ∀ s, s ∈ x.r0.sands ↔ s ∈ S2 := put_mem t3 s2
  have hgm : ∀ s, s ∈ o ↔ s ∈ G2 := put_mem u3 g2
  have hsl := s2.len
  have hgl := g2.len
  obtain ⟨c2, hC2⟩ : ∃ c2 : Channel, c2 = ⟨x.r0.cells, x.r0.tides, x.r0.fords, S2, G2⟩ := ⟨_, rfl⟩
  have r2 : Right c2 := by
    rw [hC2]
    exact ⟨r0.cells, r0.tides, r0.fords, by simp only; omega, by simp only; omega, fun s hs => r0.reach s ((hsm s).2 hs), fun s hs => (ho2 s ((hgm s).2 hs)).1, r0.fcell, fun s hs => r0.span s ((hsm s).2 hs), fun s hs => (ho2 s ((hgm s).2 hs)).2, r0.up⟩
  have hg2 : c2.sights.length = o.length := by rw [hC2]; exact hgl
  have hF2 : Few c2 := few_right r2 (by omega)
  have hk2 : chk c2 = 0 := chk_right r2 (by omega)
  have like : Like (cS x.r0 o) c2 := by rw [hC2]; exact ⟨rfl, rfl, rfl, rchC_same hsm⟩
  have hgs : ∀ s, s ∈ (cS x.r0 o).sights ↔ s ∈ c2.sights := by rw [hC2]; exact hgm
  rw [← hC2, Own_eq hF2, Option.bind_some]
  -- with a sight twice
  obtain ⟨G3, e3, m3, l3⟩ : ∃ G3, (if 0 < (c2.sights.length : Int) then
 ((ix c2.sights 0).bind fun t129 =>
 (appc 24 c2.sights [(⟨t129.after, t129.cell, t129.upright⟩ : Sight)]).bind fun t132 =>
 some t132) else
 (some c2.sights)) = some G3 ∧ (∀ s, s ∈ c2.sights ↔ s ∈ G3) ∧ G3.length ≤ c2.sights.length + 1 := by
    by_cases h : 0 < (c2.sights.length : Int)
    · have hix : ix c2.sights 0 = some (c2.sights.getD 0 default) := ix_nat (k := 0) default (by omega)
      have hm := getDm (l := c2.sights) (i := 0) default (by omega)
      refine ⟨c2.sights ++ [c2.sights.getD 0 default], ?_, fun s => ?_, by simp⟩
      · rw [if_pos h, hix, Option.bind_some, appc_eq (by rw [List.length_singleton]; omega)]
        rfl
      · rw [List.mem_append, List.mem_singleton]
        constructor
        · intro q; exact .inl q
        · rintro (q | rfl)
          · exact q
          · exact hm
    · exact ⟨c2.sights, by rw [if_neg h], fun s => Iff.rfl, by omega⟩
  rw [e3, Option.bind_some]
  have hc3 : (⟨c2.cells, c2.tides, c2.fords, c2.sands, G3⟩ : Channel) = cS c2 G3 := rfl
  rw [hc3]
  have r3 : Right (cS c2 G3) := right_sights r2 (by omega) (fun s hs => ⟨r2.after s ((m3 s).2 hs), r2.scell s ((m3 s).2 hs)⟩)
  have hg3 : (cS c2 G3).sights.length = G3.length := rfl
  have hF3 : Few (cS c2 G3) := few_right r3 (by omega)
  have hk3 : chk (cS c2 G3) = 0 := chk_right r3 (by omega)
  have like3 : Like c2 (cS c2 G3) := ⟨rfl, rfl, rfl, fun _ => rfl⟩
  have n12 : cntS tt c2 = cntS tt (cS x.r0 o) := cnt_like like (fun s => by rw [named_all, named_all, hgs])
  have n23 : cntS tt (cS c2 G3) = cntS tt c2 := cnt_like like3 (fun s => by rw [named_all, named_all]; exact m3 s)
  -- the clash
  have hcl : ∃ a1 a2 a3 : List Int, ∃ e : Int, qx (cS x.r0 o) = some ⟨e, a1⟩ ∧ qx c2 = some ⟨e, a2⟩ ∧ qx (cS c2 G3) = some ⟨e, a3⟩ ∧ a1.length = a2.length ∧ a1.length = a3.length := by
    by_cases h : 0 < cntS tt (cS x.r0 o)
    · refine ⟨[], [], [], 6, ?_, ?_, ?_, rfl, rfl⟩
      · rw [Ya hF, if_pos hk, if_pos h]
      · rw [Ya hF2, if_pos hk2, if_pos (by omega)]
      · rw [Ya hF3, if_pos hk3, if_pos (by omega)]
    · obtain ⟨a1, b1, d1⟩ := clash_find' r h hF hk
      obtain ⟨a2, b2, d2⟩ := clash_find' r2 (by omega) hF2 hk2
      obtain ⟨a3, b3, d3⟩ := clash_find' r3 (by omega) hF3 hk3
      have f12 := find_le d1 d2 (clash_le like (fun s hs => (hgs s).1 hs))
      have f21 := find_le d2 d1 (clash_le like.symm (fun s hs => (hgs s).2 hs))
      have f23 := find_le d2 d3 (clash_le like3 (fun s hs => (m3 s).1 hs))
      have f32 := find_le d3 d2 (clash_le like3.symm (fun s hs => (m3 s).2 hs))
      exact ⟨a1, a2, a3, 0, b1, b2, b3, by omega, by omega⟩
  obtain ⟨a1, a2, a3, e, b1, b2, b3, f1, f2⟩ := hcl
  -- what is wrong
  obtain ⟨w1, v1, _, _⟩ := find_wrong r
  obtain ⟨w2, v2, _, _⟩ := find_wrong r2
  have hw12 := find_le v1 v2 (wrong_le like (fun i => (u.r0.getD i 0).toNat) (fun i hi => by
    rw [hg2]
    have := g2.get i hi
    rw [hC2]
    exact this) (fun i j hi hj e => ord_inj u3 hi hj e) (fun j hj => by rw [hg2] at hj; exact ord_surj u3 hj))
  have hidx : ∀ j : Nat, j < o.length → u.r0.idxOf (j : Int) < o.length ∧ (u.r0.getD (u.r0.idxOf (j : Int)) 0).toNat = j := fun j hj => by
    have hm : (j : Int) ∈ u.r0 := (List.Perm.mem_iff u3).2 (List.mem_map.2 ⟨j, List.mem_range.2 hj, rfl⟩)
    have q := List.idxOf_lt_length_of_mem hm
    have hul := u3.len
    refine ⟨by omega, ?_⟩
    rw [List.getD_eq_getElem?_getD, List.getElem?_eq_getElem q, List.getElem_idxOf, Option.getD_some, Int.toNat_natCast]
  have hw21 := find_le v2 v1 (wrong_le like.symm (fun j => u.r0.idxOf (j : Int)) (fun j hj => by
    rw [hg2] at hj
    obtain ⟨q1, q2⟩ := hidx j hj
    refine ⟨q1, ?_⟩
    have := (g2.get _ q1).2
    rw [q2] at this
    rw [hC2]
    exact this.symm) (fun i j hi hj e => by
    rw [hg2] at hi hj
    have q1 := (hidx i hi).2
    have q2 := (hidx j hj).2
    have e' : u.r0.idxOf (i : Int) = u.r0.idxOf (j : Int) := e
    rw [e'] at q1
    omega) (fun i hi => by
    have hi' : i < o.length := hi
    have q0 := ord_get u3 hi'
    refine ⟨(u.r0.getD i 0).toNat, by rw [hg2]; omega, ?_⟩
    have hul := u3.len
    have e2 : (((u.r0.getD i 0).toNat : Nat) : Int) = u.r0[i]'(by omega) := by
      rw [show (((u.r0.getD i 0).toNat : Nat) : Int) = u.r0.getD i 0 by omega, List.getD_eq_getElem?_getD, List.getElem?_eq_getElem (by omega), Option.getD_some]
    simp only [e2]
    exact (ord_nodup u3).idxOf_getElem i (by omega)))
  have hbnd := cntS_bnd r
  have key := iterM_any0 (f := kq x o c2 G3) x.r0.fords.length (fun _ => false) false (fun i hi => ?_) ?_ (N := FU) (FU_lt (by have := r0.fords; omega))
  · rw [show (List.range x.r0.fords.length).any (fun _ => false) = false from by simp, if_neg Bool.false_ne_true] at key
    rw [Yj hF, if_pos hk, Option.bind_some, Yj hF2, if_pos hk2, Option.bind_some, Yj hF3, if_pos hk3, Option.bind_some, b1, Option.bind_some, b2, Option.bind_some, b3, Option.bind_some]
    dsimp only
    rw [if_pos rfl, if_pos rfl, if_pos rfl, if_pos (by omega), if_pos (by omega), if_pos rfl, if_pos (by omega), decide_eq_true (by omega), Option.bind_some, if_neg (by decide), Zn hF, if_pos hk, v1, Option.getD_some, Option.bind_some, Zn hF2, if_pos hk2, v2, Option.getD_some, Option.bind_some]
    dsimp only
    rw [if_pos rfl, if_pos rfl, decide_eq_true (by omega), Option.bind_some, if_neg (by decide), key]
    rfl
  · have ht := r0.tides
    have hT : x.r0.tides = ((x.r0.tides.toNat : Nat) : Int) := by omega
    have a4 : addc (i : Int) 1 = some ((i : Int) + 1) := addc_eq (by have := r0.fords; omega)
    have fC := Zm hF x.r0.tides (i : Int)
    have fD := Zm hF3 x.r0.tides (i : Int)
    have eT : (cS c2 G3).tides = x.r0.tides := like.tides
    have eF : (cS c2 G3).fords = x.r0.fords := like.fords
    have eT1 : (cS x.r0 o).tides = x.r0.tides := rfl
    have eF1 : (cS x.r0 o).fords = x.r0.fords := rfl
    rw [if_pos hk, eT1, if_pos (inb_iff.2 (by omega)), eF1, if_pos (inb_iff.2 (by omega))] at fC
    rw [if_pos hk3, eT, if_pos (inb_iff.2 (by omega)), eF, if_pos (inb_iff.2 (by omega))] at fD
    have hwe : whereL (cS c2 G3) x.r0.tides.toNat i = whereL (cS x.r0 o) x.r0.tides.toNat i := by
      rw [where_like like3 m3, where_like like hgs]
    have hws := where_short (c := cS x.r0 o) (show (cS x.r0 o).cells ≤ 10 from r0.cells.2) x.r0.tides.toNat i
    unfold kq
    rw [if_pos (by omega), hcS, fC, Option.bind_some, hc3, fD, Option.bind_some, Int.toNat_natCast, hwe]
    have n13 : cntS tt (cS c2 G3) = cntS tt (cS x.r0 o) := by omega
    rw [n13]
    by_cases hz : cntS tt (cS x.r0 o) = 0
    · rw [if_pos hz]
      dsimp only
      rw [if_pos rfl, Zr (by simp), Option.bind_some, decide_eq_true rfl, Option.bind_some, if_neg (by decide), a4]
      rfl
    · rw [if_neg hz]
      dsimp only
      rw [if_pos rfl, Zr (by omega), Option.bind_some, decide_eq_true rfl, Option.bind_some, if_neg (by decide), a4]
      rfl
  · unfold kq
    rw [if_neg (by omega)]
end Go.Proofs.Wb

namespace Go.Gx
open Go Go.Fw Go.RowKit
section
variable {H : Type} {enc : TypeId × Value → H} {P : Program} {w : World} {base : Nat} {sp : Nat → Bool} {held : Bool}
def Opens (enc : TypeId × Value → H) (P : Program) (w : World) (base : Nat) (sp : Nat → Bool) (held : Bool) {α : Type} (R : Row α) (wf : α → Prop) (t : TypeId) : Prop :=
  ∀ fuel cs x, DataW.trod enc P w base sp held fuel t cs = some x → ∃ a, cs = R.cells a ∧ wf a
def u8P (n : Int) : Prop := 0 ≤ n ∧ n ≤ 255
theorem wf_u8P {n : Int} (h : (Lit.int .u8 n).wf = true) : u8P n := by
  simp [Lit.wf, IntKind.min, IntKind.max, IntKind.signed, IntKind.bits] at h
  unfold u8P; omega
theorem opens_u8 {t : TypeId} (ht : P.underlying t = some (.int .u8)) : Opens enc P w base sp held RU8 u8P t := fun fuel cs x h => by
  obtain ⟨n, rfl, _, hw⟩ := DataW.trod_int ht h
  exact ⟨n, rfl, wf_u8P hw⟩
theorem fieldAt {fs : Array Field} {t : TypeId} {fuel : Nat} {cs : List Value} {x : DataW H × List MemPlace} (ht : P.underlying t = some (.struct fs)) (h : DataW.trod enc P w base sp held fuel t cs = some x) {α : Type} {R : Row α} {wf : α → Prop} (i : Nat) {T o k : Nat}
    (hf : (fs[i]?).map (fun fd => (fd.type, fd.offset)) = some (T, o)) (hk : P.cellsOf T = k) (hR : Opens enc P w base sp held R wf T) : ∃ a, (cs.drop o).take k = R.cells a ∧ wf a := by
  obtain ⟨xs, n, rfl, _, hlen, hxl, hx⟩ := DataW.trod_struct ht h
  obtain ⟨fd, hfd, he⟩ : ∃ fd, fs[i]? = some fd ∧ (fd.type, fd.offset) = (T, o) := by
    cases hh : fs[i]? with
    | none => simp [hh] at hf
    | some fd => exact ⟨fd, rfl, by simpa [hh] using hf⟩
  simp only [Prod.mk.injEq] at he
  obtain ⟨rfl, rfl⟩ := he
  have h1 := hx i fd hfd
  rw [hk] at h1
  have hi : i < xs.length := by rw [hxl]; exact (Array.getElem?_eq_some_iff.1 hfd).1
  rw [List.getElem?_eq_getElem hi] at h1
  exact hR _ _ _ h1
structure SlIn {α : Type} (R : Row α) (wf : α → Prop) (w : World) (v : Value) (A : Option Addr) (n c : Nat) (l : List α) : Prop where
  val : v = .slice A n c
  len : l.length = n
  ok : AOK n A
  le : n ≤ c
  max : c ≤ maxLen
  seg : segOK w (aB A, aO A, R.enc l)
  wf : ∀ x, x ∈ l → wf x
theorem choose_list {α : Type} {p : Nat → α → Prop} : ∀ (n : Nat), (∀ i, i < n → ∃ a, p i a) → ∃ l : List α, l.length = n ∧ ∀ i (h : i < l.length), p i l[i]
  | 0, _ => ⟨[], rfl, fun i h => by simp at h⟩
  | n + 1, h => by
    obtain ⟨l, hl, hp⟩ := choose_list n (fun i hi => h i (by omega))
    obtain ⟨a, ha⟩ := h n (by omega)
    refine ⟨l ++ [a], by simp [hl], fun i hi => ?_⟩
    by_cases hil : i < l.length
    · rw [List.getElem_append_left hil]; exact hp i hil
    · have : i = l.length := by simp at hi; omega
      subst this
      rw [List.getElem_append_right (by omega)]
      simp only [Nat.sub_self, List.getElem_cons_zero]
      rw [hl]; exact ha
theorem openSl {α : Type} {R : Row α} {wf : α → Prop} {t e : TypeId} (ht : P.underlying t = some (.slice e)) (hc : P.cellsOf e = R.sz) (hR : Opens enc P w base sp held R wf e) (h0 : Nat.blt 0 R.sz = true)
    {fuel : Nat} {cs : List Value} {x : DataW H × List MemPlace} (h : DataW.trod enc P w base sp held fuel t cs = some x) : ∃ (v : Value) (A : Option Addr) (n c : Nat) (l : List α), cs = [v] ∧ SlIn R wf w v A n c l := by
  have hsz : 0 < R.sz := by simpa using h0
  rcases Go.Deep.open_slice ht h with ⟨rfl, _⟩ | ⟨a, len, cap, m, n, D, Pl, rfl, hb, hl, hm, hmm, _, hi⟩
  · exact ⟨_, none, 0, 0, [], rfl, rfl, rfl, AOK.nil, Nat.le_refl _, Nat.zero_le _, segOK.nil, by simp⟩
  · have hlm : len ≤ m := by rw [hmm]; split <;> omega
    have hcell : ∀ i, i < len → ∃ x : α, (∀ f (hf : f < (R.cells x).length), w.cell? (a.add (i * R.sz + f)) = some (R.cells x)[f]) ∧ wf x := fun i hil => by
      obtain ⟨cs', h1, h2⟩ := hi i (by omega)
      obtain ⟨x, rfl, hw⟩ := hR _ _ _ h2
      obtain ⟨_, _, hat⟩ := World.cells?_some h1
      refine ⟨x, fun f hf => ?_, hw⟩
      have := hat f (by rw [hc, ← R.len x]; exact hf)
      rw [hc] at this
      rw [List.getElem?_eq_getElem hf] at this
      have e : (a.add (i * R.sz)).add f = a.add (i * R.sz + f) := by
        unfold Addr.add
        by_cases h1 : i * R.sz = 0
        · simp [h1]
        · by_cases h2 : f = 0
          · simp [h2]
          · simp [h1, h2, Nat.add_assoc]
      rw [e] at this
      exact this
    obtain ⟨l, hll, hlp⟩ := choose_list len hcell
    have hspot : 0 < len → a.spot = none := fun h0 => by
      obtain ⟨x, hx, _⟩ := hcell 0 h0
      have := World.cell?_spot (hx 0 (by rw [R.len]; exact hsz))
      simpa [Addr.add] using this
    refine ⟨_, some a, len, cap, l, rfl, rfl, hll, fun h0 => ?_, hl, hm, fun j hj => ?_, fun x hx => ?_⟩
    · obtain ⟨b, o, s⟩ := a
      have := hspot h0
      simp only at this
      subst this
      exact ⟨b, o, rfl⟩
    · have hj' : j < l.length * R.sz := by rw [← R.enc_len]; exact hj
      have hpos : 0 < len := by
        rcases Nat.eq_zero_or_pos len with h | h
        · rw [hll, h, Nat.zero_mul] at hj'; omega
        · exact h
      obtain ⟨b, o, s⟩ := a
      have hs := hspot hpos
      simp only at hs
      subst hs
      have hq : j / R.sz < l.length := Nat.div_lt_of_lt_mul (by rw [Nat.mul_comm]; exact hj')
      have hr : j % R.sz < R.sz := Nat.mod_lt _ hsz
      have hd : j / R.sz * R.sz + j % R.sz = j := by rw [Nat.mul_comm]; exact Nat.div_add_mod j R.sz
      have h1 := (hlp (j / R.sz) hq).1 (j % R.sz) (by rw [R.len]; exact hr)
      rw [hd] at h1
      have h2 := R.enc_get l (j / R.sz) (j % R.sz) l[j / R.sz] (List.getElem?_eq_getElem hq) hr
      rw [hd] at h2
      have h3 : (⟨b, o, none⟩ : Addr).add j = ⟨b, o + j, none⟩ := addr_add b o j
      rw [h3] at h1
      simp only [aB, aO, Option.map_some, Option.getD_some]
      rw [h1, ← List.getElem?_eq_getElem, ← h2, List.getElem?_eq_getElem hj]
    · obtain ⟨i, hi', rfl⟩ := List.getElem_of_mem hx
      exact (hlp i hi').2
theorem HV.begin {ro : List Sg} (h : ∀ s, s ∈ ro → segOK w s) : HV w (keys [] []) [] [] ro w :=
  ⟨rfl, rfl, rfl, Nat.le_refl _, fun _ _ _ => rfl, by simp [vbl], by simp [vbl], by simp [vbl], h, by simp [vbl]⟩
theorem segCons {s : Sg} {ro : List Sg} (h : segOK w s) (hr : ∀ t, t ∈ ro → segOK w t) : ∀ t, t ∈ s :: ro → segOK w t := fun t ht => by
  rcases List.mem_cons.1 ht with rfl | ht
  · exact h
  · exact hr t ht
theorem segNil : ∀ t, t ∈ ([] : List Sg) → segOK w t := fun t ht => by cases ht
theorem HV.below {w' : World} (h : HV w (keys [] []) [] [] [] w') : Below w.heap.size w w' := by
  have : Ext [] w w' := HS.toExt h
  exact this.below
end
end Go.Gx

