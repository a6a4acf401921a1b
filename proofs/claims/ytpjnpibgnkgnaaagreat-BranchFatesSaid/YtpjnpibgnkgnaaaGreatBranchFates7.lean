/- What the functions that the law BranchFates reaches come to, and why it holds: part 7. -/
import Derived.Test.YtpjnpibgnkgnaaaGreatBranchFates6
namespace Go.Proofs.Wb
set_option maxHeartbeats 4000000
set_option maxRecDepth 100000
open Go Go.Fw Go.Gx Go.Sb
open Tryz
set_option linter.unusedVariables false
theorem jb0 : (Tryz.prog.info? 4).map (fun i => (i.zero, i.size, i.bytes)) = some (some (.bool false), 1, 1) := by kernel_rfl
theorem jby : (Tryz.prog.info? 114).map (fun i => (i.zero, i.size, i.bytes)) = some (some (.slice none 0 0), 1, 24) := by kernel_rfl
theorem jbH : (Tryz.prog.info? 138).map (fun i => (i.zero, i.size, i.bytes)) = some (some (.agg #[.int .i64 0, .int .i64 0, .int .i64 0]), 3, 24) := by kernel_rfl
theorem jbx : (Tryz.prog.info? 139).map (fun i => (i.zero, i.size, i.bytes)) = some (some (.agg #[.int .i64 0, .int .i64 0, .bool false]), 3, 24) := by kernel_rfl
theorem jbC : Tryz.prog.stoodInHeld 50 = false := by decide +kernel
theorem jbS : Tryz.prog.eqGuardType Tryz.prog.depth 98 = false := by decide +kernel
theorem jbV : Tryz.prog.stoodInHeld 98 = false := by decide +kernel
theorem jb1 (x y : Sand) (w : World) : (Op.equalIn 10000 98 (.agg (RSa.cells x).toArray) (.agg (RSa.cells y).toArray)).run Tryz.prog w = .ok (decide (x = y)) w := by
  have h := equal_structG (xs := (RSa.cells x).toArray) (ys := (RSa.cells y).toArray) underlying98 jbV (.sub (us := [_, _]) (vs := [_, _]) Y (fun w => isAgg50 w) (fun w => sizeOf50 w) Y Y Y Y underlying50 jbC (.int Y (fun w => isAgg3 w) ⟨_, underlying3⟩ Y Y (.int Y (fun w => isAgg3 w) ⟨_, underlying3⟩ Y Y .nil)) (.int Y (fun w => isAgg3 w) ⟨_, underlying3⟩ Y Y .nil)) w
  rw [h]
  congr 1
  obtain ⟨⟨x0_0, x0_1⟩, x1⟩ := x
  obtain ⟨⟨y0_0, y0_1⟩, y1⟩ := y
  rw [Bool.eq_iff_iff]
  simp only [Bool.and_eq_true, decide_eq_true_eq, Sand.mk.injEq, Span.mk.injEq, and_true]
def zb (c0 : Channel) : Option Bool :=
 (if 10 < (c0.fords.length : Int) then
 (some true) else
 (if 10 < (c0.sands.length : Int) then
 (some true) else
 (some (decide (14 < (c0.sights.length : Int)))))).bind fun o =>
 some o
theorem YX (c0 : Channel) (qa0 : Option Addr) (na0 ca0 : Nat) (qa1 : Option Addr) (na1 ca1 : Nat) (qa2 : Option Addr) (na2 ca2 : Nat) (w : World) (hw : HV w (keys [] []) [] [] [(aB qa0, aO qa0, RI.enc c0.fords), (aB qa1, aO qa1, RSa.enc c0.sands), (aB qa2, aO qa2, RSi.enc c0.sights)] w) (hna0 : c0.fords.length = na0) (hqa0 : AOK na0 qa0) (hla0 : na0 ≤ ca0) (hna1 : c0.sands.length = na1) (hqa1 : AOK na1 qa1) (hla1 : na1 ≤ ca1) (hna2 : c0.sights.length = na2) (hqa2 : AOK na2 qa2) (hla2 : na2 ≤ ca2) {res : Bool} (hm : zb c0 = some res) :
    Calls Tryz.prog 53 #[.agg #[.int .i64 c0.cells, .int .i64 c0.tides, .slice qa0 na0 ca0, .slice qa1 na1 ca1, .slice qa2 na2 ca2]] w (fun en w' => ∃ l : Unit, en = .returned (.bool res) ∧ (True) ∧ HV w (keys [] []) [] [] [] w') := by
  unfold zb at hm
  refine yd func53 Y ntmps53 Y (e := [(0, _)]) Y hw (jr ?_)
  refine jL Y Y (fun b h1 => ?_)
  refine jo Y Y (jq (jh ?_))
  obtain ⟨o, h2, h3⟩ := bindO hm
  refine jF (ι := Unit) (fun l => True) (fun l => [(2, .bool o)]) (fun l => [kc b #[.int .i64 c0.cells, .int .i64 c0.tides, .slice qa0 na0 ca0, .slice qa1 na1 ca1, .slice qa2 na2 ca2] 26]) (fun l => []) ?_ ?_
  ·replace hm := h2
   refine je (qk 2 runUnderlying26 Y sizeOf22 Y Y (kw 0 isAgg22 Y Y Y Y (jc Y Y Y (fun w _ => jQ hna0 (runUnderlying22 w) Y) (jc Y Y Y (fun _ _ => YM Y Y) (ji Y Y ?_)))))
   refine jP 7 Y (fun h4 => ?_) (fun h4 => ?_)
   ·replace hm := ifD h4 hm
    refine g_k Y Y Y Y (g_k Y Y Y Y (g_k Y Y Y Y (g_k Y Y Y Y (qI Y Y Y (ji Y Y (g_k Y Y Y Y (g_k Y Y Y Y ?_)))))))
    refine g_k Y Y Y Y (g_k Y Y Y Y (qI Y Y Y (jo Y Y (jv ?_))))
    obtain rfl := sj hm
    exact jj () (trivial) (sE Y) (fun w hh => hh)
   replace hm := ifE h4 hm
   refine jb Y Y (qk 3 runUnderlying26 Y sizeOf23 Y Y (jb Y Y (kw 0 isAgg23 Y Y Y Y (jb Y Y (jc Y Y Y (fun w _ => jQ hna1 (runUnderlying23 w) Y) (jb Y Y (jc Y Y Y (fun _ _ => YM Y Y) ?_)))))))
   refine yU Y Y Y (ji Y Y ?_)
   refine jP 13 Y (fun h5 => ?_) (fun h5 => ?_)
   ·replace hm := ifD h5 hm
    refine g_k Y Y Y Y (g_k Y Y Y Y (g_k Y Y Y Y (g_k Y Y Y Y (qI Y Y Y (jo Y Y (jv ?_))))))
    obtain rfl := sj hm
    exact jj () (trivial) (sE Y) (fun w hh => hh)
   replace hm := ifE h5 hm
   refine jb Y Y (qk 4 runUnderlying26 Y sizeOf24 Y Y (jb Y Y (kw 0 isAgg24 Y Y Y Y (jb Y Y (jc Y Y Y (fun w _ => jQ hna2 (runUnderlying24 w) Y) (jb Y Y (jc Y Y Y (fun _ _ => YM Y Y) ?_)))))))
   refine yU Y Y Y (jo Y Y (jv ?_))
   obtain rfl := sj hm
   exact jj () (trivial) (sE Y) (fun w hh => hh)
  intro l hj
  replace hm := h3
  refine ja (jy ?_)
  obtain rfl := sj hm
  refine jp Y (fun w hh => (.tmp Y .nil)) (fun w hh => ⟨(), rfl, trivial, hh.se [] [] 3 Y Y Y rfl⟩)
def zB (c0 : Channel) : Option Bool :=
 ((zb c0).bind fun t4 =>
 if t4 = true then
 (some true) else
 (if (c0.fords.length : Int) = 3 then
 (some true) else
 (if 8 < c0.cells then
 (some (decide (c0.cells ≤ 10))) else
 (some false)))).bind fun o =>
 some o
theorem Zc (c0 : Channel) (qa0 : Option Addr) (na0 ca0 : Nat) (qa1 : Option Addr) (na1 ca1 : Nat) (qa2 : Option Addr) (na2 ca2 : Nat) (w : World) (hw : HV w (keys [] []) [] [] [(aB qa0, aO qa0, RI.enc c0.fords), (aB qa1, aO qa1, RSa.enc c0.sands), (aB qa2, aO qa2, RSi.enc c0.sights)] w) (hna0 : c0.fords.length = na0) (hqa0 : AOK na0 qa0) (hla0 : na0 ≤ ca0) (hna1 : c0.sands.length = na1) (hqa1 : AOK na1 qa1) (hla1 : na1 ≤ ca1) (hna2 : c0.sights.length = na2) (hqa2 : AOK na2 qa2) (hla2 : na2 ≤ ca2) {res : Bool} (hm : zB c0 = some res) :
    Calls Tryz.prog 18 #[.agg #[.int .i64 c0.cells, .int .i64 c0.tides, .slice qa0 na0 ca0, .slice qa1 na1 ca1, .slice qa2 na2 ca2]] w (fun en w' => ∃ l : Unit, en = .returned (.bool res) ∧ (True) ∧ HV w (keys [] []) [] [] [] w') := by
  unfold zB at hm
  refine yd func18 Y ntmps18 Y (e := [(0, _)]) Y hw (jr ?_)
  refine jL Y Y (fun b h1 => ?_)
  refine jo Y Y (jq (jh ?_))
  obtain ⟨o, h2, h3⟩ := bindO hm
  refine jF (ι := Unit) (fun l => True) (fun l => [(2, .bool o)]) (fun l => [kc b #[.int .i64 c0.cells, .int .i64 c0.tides, .slice qa0 na0 ca0, .slice qa1 na1 ca1, .slice qa2 na2 ca2] 26]) (fun l => []) ?_ ?_
  ·replace hm := h2
   refine je (zO [_, _, _, _, _] 0 isAgg26 sizeOf26 Y Y Y Y ?_)
   obtain ⟨t4, h4, hm⟩ := bindO hm
   refine jd [] [] Y Y Y Y Y Y Y call53 (fun w hh => YX c0 qa0 na0 ca0 qa1 na1 ca1 qa2 na2 ca2 w (HV.callee (S0 := []) (vs0 := []) hh (roR hh 0 Y (roR hh 1 Y (roR hh 2 Y roN)))) hna0 hqa0 hla0 hna1 hqa1 hla1 hna2 hqa2 hla2 h4) (fun l_1 h5 => ?_)
   refine ji Y Y ?_
   refine jP 5 Y (fun h6 => ?_) (fun h6 => ?_)
   ·replace hm := ifT (h6) hm
    refine g_k Y Y Y Y (g_k Y Y Y Y (g_k Y Y Y Y (g_k Y Y Y Y (qI Y Y Y (ji Y Y (g_k Y Y Y Y (g_k Y Y Y Y ?_)))))))
    refine g_k Y Y Y Y (g_k Y Y Y Y ?_)
    refine yu Y Y Y Y Y ?_
    refine yu Y Y Y Y Y ?_
    refine yu Y Y Y Y Y ?_
    refine g_k Y Y Y Y (qI Y Y Y (jo Y Y (jv ?_)))
    obtain rfl := sj hm
    exact jj () (trivial) (sE Y) (fun w hh => hh)
   replace hm := ifN h6 hm
   refine jb Y Y (qk 2 runUnderlying26 Y sizeOf22 Y Y (jb Y Y (kw 0 isAgg22 Y Y Y Y (jb Y Y (jc Y Y Y (fun w _ => jQ hna0 (runUnderlying22 w) Y) (jb Y Y (jc Y Y Y (fun _ _ => zN Y Y) ?_)))))))
   refine yU Y Y Y (ji Y Y ?_)
   refine jP 11 Y (fun h7 => ?_) (fun h7 => ?_)
   ·replace hm := ifD h7 hm
    refine g_k Y Y Y Y (g_k Y Y Y Y (g_k Y Y Y Y (g_k Y Y Y Y ?_)))
    refine yu Y Y Y Y Y ?_
    refine yu Y Y Y Y Y ?_
    refine yu Y Y Y Y Y ?_
    refine g_k Y Y Y Y (qI Y Y Y (jo Y Y (jv ?_)))
    obtain rfl := sj hm
    exact jj () (trivial) (sE Y) (fun w hh => hh)
   replace hm := ifE h7 hm
   refine jb Y Y (qk 0 runUnderlying26 Y sizeOf3 Y Y (jb Y Y (kw 0 isAgg3 Y Y Y Y (jb Y Y (jc Y Y Y (fun _ _ => YM Y Y) (jb Y Y (ji Y Y ?_)))))))
   refine jP 15 Y (fun h8 => ?_) (fun h8 => ?_)
   ·replace hm := ifD h8 hm
    refine jb Y Y (qk 0 runUnderlying26 Y sizeOf3 Y Y (jb Y Y (kw 0 isAgg3 Y Y Y Y (jb Y Y (jc Y Y Y (fun _ _ => jav Y Y) (jb Y Y (qI Y Y Y ?_)))))))
    refine yU Y Y Y (jo Y Y (jv ?_))
    obtain rfl := sj hm
    exact jj () (trivial) (sE Y) (fun w hh => hh)
   replace hm := ifE h8 hm
   refine g_k Y Y Y Y (g_k Y Y Y Y (g_k Y Y Y Y (jb Y Y (yU Y Y Y (yU Y Y Y (jo Y Y (jv ?_)))))))
   obtain rfl := sj hm
   exact jj () (trivial) (sE Y) (fun w hh => hh)
  intro l hj
  replace hm := h3
  refine ja (jy ?_)
  obtain rfl := sj hm
  refine jp Y (fun w hh => (.tmp Y .nil)) (fun w hh => ⟨(), rfl, trivial, hh.se [] [] 3 Y Y Y rfl⟩)
def K4 (l0 : (List Int)) : Option (List Int) :=
 (makec 8 0 0 (l0.length : Int)).bind fun t5 =>
 (appc 8 t5 l0).bind fun t7 =>
 some t7
theorem Y0 (l0 : (List Int)) (qa0 : Option Addr) (na0 ca0 : Nat) (w : World) (hw : HV w (keys [] []) [] [] [(aB qa0, aO qa0, RI.enc l0)] w) (hna0 : l0.length = na0) (hqa0 : AOK na0 qa0) (hla0 : na0 ≤ ca0) {res : (List Int)} (hm : K4 l0 = some res) :
    Calls Tryz.prog 46 #[.slice qa0 na0 ca0] w (fun en w' => ∃ l : VL, en = .returned (sL l) ∧ (VOK 1 l.n l.cap (RI.enc res) l.sp l.q) ∧ HV w (keys [] []) [] [vL 3 l (RI.enc res)] [] w') := by
  unfold K4 at hm
  refine yd func46 Y ntmps46 Y (e := [(0, _)]) Y hw (jr (jc Y Y Y (fun _ _ => qW Y) (qb (ji Y Y (jc Y Y Y (fun w _ => jQ hna0 (runUnderlying22 w) Y) ?_)))))
  obtain ⟨t5, h2, hm⟩ := bindO hm
  refine Yo RI 0 h2 underlying22 Q1 Y Y Y Y Y (fun L h3 => ?_)
  refine ji Y Y ?_
  obtain ⟨t7, h4, hm⟩ := bindO hm
  refine Jh RI 0 h4 underlying22 Q1 Y Y Y Y Y h3 Y Y hna0 hqa0 (fun w hh => (hh.seg 0 Y)) Y (fun L_1 h5 h5n => ?_)
  refine kO (S' := []) (vs' := [_]) [] [0] 0 Y Y Y Y (jo Y Y (jq (jy ?_)))
  obtain rfl := sj hm
  refine jp Y (fun w hh => (.tmp Y .nil)) (fun w hh => ⟨L_1, rfl, h5, hh.se [] [0] 1 Y Y Y rfl⟩)
def Jw (l0 : (List Sand)) : Option (List Sand) :=
 (makec 24 (⟨(⟨0, 0⟩ : Span), 0⟩ : Sand) 0 (l0.length : Int)).bind fun t5 =>
 (appc 24 t5 l0).bind fun t7 =>
 some t7
theorem Zb (l0 : (List Sand)) (qa0 : Option Addr) (na0 ca0 : Nat) (w : World) (hw : HV w (keys [] []) [] [] [(aB qa0, aO qa0, RSa.enc l0)] w) (hna0 : l0.length = na0) (hqa0 : AOK na0 qa0) (hla0 : na0 ≤ ca0) {res : (List Sand)} (hm : Jw l0 = some res) :
    Calls Tryz.prog 86 #[.slice qa0 na0 ca0] w (fun en w' => ∃ l : VL, en = .returned (sL l) ∧ (VOK 3 l.n l.cap (RSa.enc res) l.sp l.q) ∧ HV w (keys [] []) [] [vL 98 l (RSa.enc res)] [] w') := by
  unfold Jw at hm
  refine yd func86 Y ntmps86 Y (e := [(0, _)]) Y hw (jr (jc Y Y Y (fun _ _ => qW Y) (qb (ji Y Y (jc Y Y Y (fun w _ => jQ hna0 (runUnderlying23 w) Y) ?_)))))
  obtain ⟨t5, h2, hm⟩ := bindO hm
  refine Yo RSa (⟨(⟨0, 0⟩ : Span), 0⟩ : Sand) h2 underlying23 jaG Y Y Y Y Y (fun L h3 => ?_)
  refine ji Y Y ?_
  obtain ⟨t7, h4, hm⟩ := bindO hm
  refine Jh RSa 0 h4 underlying23 jaG Y Y Y Y Y h3 Y Y hna0 hqa0 (fun w hh => (hh.seg 0 Y)) Y (fun L_1 h5 h5n => ?_)
  refine kO (S' := []) (vs' := [_]) [] [0] 0 Y Y Y Y (jo Y Y (jq (jy ?_)))
  obtain rfl := sj hm
  refine jp Y (fun w hh => (.tmp Y .nil)) (fun w hh => ⟨L_1, rfl, h5, hh.se [] [0] 1 Y Y Y rfl⟩)
def Ja (l0 : (List Sight)) : Option (List Sight) :=
 (makec 24 (⟨0, 0, false⟩ : Sight) 0 (l0.length : Int)).bind fun t5 =>
 (appc 24 t5 l0).bind fun t7 =>
 some t7
theorem Y3 (l0 : (List Sight)) (qa0 : Option Addr) (na0 ca0 : Nat) (w : World) (hw : HV w (keys [] []) [] [] [(aB qa0, aO qa0, RSi.enc l0)] w) (hna0 : l0.length = na0) (hqa0 : AOK na0 qa0) (hla0 : na0 ≤ ca0) {res : (List Sight)} (hm : Ja l0 = some res) :
    Calls Tryz.prog 87 #[.slice qa0 na0 ca0] w (fun en w' => ∃ l : VL, en = .returned (sL l) ∧ (VOK 3 l.n l.cap (RSi.enc res) l.sp l.q) ∧ HV w (keys [] []) [] [vL 55 l (RSi.enc res)] [] w') := by
  unfold Ja at hm
  refine yd func87 Y ntmps87 Y (e := [(0, _)]) Y hw (jr (jc Y Y Y (fun _ _ => qW Y) (qb (ji Y Y (jc Y Y Y (fun w _ => jQ hna0 (runUnderlying24 w) Y) ?_)))))
  obtain ⟨t5, h2, hm⟩ := bindO hm
  refine Yo RSi (⟨0, 0, false⟩ : Sight) h2 underlying24 jan Y Y Y Y Y (fun L h3 => ?_)
  refine ji Y Y ?_
  obtain ⟨t7, h4, hm⟩ := bindO hm
  refine Jh RSi 0 h4 underlying24 jan Y Y Y Y Y h3 Y Y hna0 hqa0 (fun w hh => (hh.seg 0 Y)) Y (fun L_1 h5 h5n => ?_)
  refine kO (S' := []) (vs' := [_]) [] [0] 0 Y Y Y Y (jo Y Y (jq (jy ?_)))
  obtain rfl := sj hm
  refine jp Y (fun w hh => (.tmp Y .nil)) (fun w hh => ⟨L_1, rfl, h5, hh.se [] [0] 1 Y Y Y rfl⟩)
def z2 (c0 : Channel) : Option Channel :=
 (K4 c0.fords).bind fun t9 =>
 (Jw c0.sands).bind fun t12 =>
 (Ja c0.sights).bind fun t15 =>
 some (⟨c0.cells, c0.tides, t9, t12, t15⟩ : Channel)
theorem JU (c0 : Channel) (qa0 : Option Addr) (na0 ca0 : Nat) (qa1 : Option Addr) (na1 ca1 : Nat) (qa2 : Option Addr) (na2 ca2 : Nat) (w : World) (hw : HV w (keys [] []) [] [] [(aB qa0, aO qa0, RI.enc c0.fords), (aB qa1, aO qa1, RSa.enc c0.sands), (aB qa2, aO qa2, RSi.enc c0.sights)] w) (hna0 : c0.fords.length = na0) (hqa0 : AOK na0 qa0) (hla0 : na0 ≤ ca0) (hna1 : c0.sands.length = na1) (hqa1 : AOK na1 qa1) (hla1 : na1 ≤ ca1) (hna2 : c0.sights.length = na2) (hqa2 : AOK na2 qa2) (hla2 : na2 ≤ ca2) {res : Channel} (hm : z2 c0 = some res) :
    Calls Tryz.prog 20 #[.agg #[.int .i64 c0.cells, .int .i64 c0.tides, .slice qa0 na0 ca0, .slice qa1 na1 ca1, .slice qa2 na2 ca2]] w (fun en w' => ∃ l : VL × VL × VL, en = .returned (.agg #[.int .i64 res.cells, .int .i64 res.tides, sL l.1, sL l.2.1, sL l.2.2]) ∧ (VOK 1 l.1.n l.1.cap (RI.enc res.fords) l.1.sp l.1.q ∧ VOK 3 l.2.1.n l.2.1.cap (RSa.enc res.sands) l.2.1.sp l.2.1.q ∧ VOK 3 l.2.2.n l.2.2.cap (RSi.enc res.sights) l.2.2.sp l.2.2.q) ∧ HV w (keys [] []) [] [vL 3 l.1 (RI.enc res.fords), vL 98 l.2.1 (RSa.enc res.sands), vL 55 l.2.2 (RSi.enc res.sights)] [] w') := by
  unfold z2 at hm
  refine yd func20 Y ntmps20 Y (e := [(0, _)]) Y hw (jr ?_)
  refine jL Y Y (fun b h4 => ?_)
  refine ju (fun w => zeroValue26 w) Y (fun b_1 h5 => ?_)
  refine jq (jh ?_)
  refine jX none (.free 0 (.hoist 1 (.free 2 (.hoist 3 (.free 4 (.hoist 5 (.free 7 (.hoist 8 (.free 10 (.hoist 11 (.one 6 (.one 9 (.one 12 (.free 13 (.one 14 .done))))))))))))))) (HV _ _ [kc b #[.int .i64 c0.cells, .int .i64 c0.tides, .slice qa0 na0 ca0, .slice qa1 na1 ca1, .slice qa2 na2 ca2] 26] [] _) Y (by decide +kernel) (fun w k hh => hh.draw k) (hsE [1] [] 0 Y Y Y Y) ?_
  refine Kl 0 runUnderlying26 sizeOf3 Y Y Y Y (QA 0 isAgg3 Y Y Y Y Y (Kl 1 runUnderlying26 sizeOf3 Y Y Y Y (QA 0 isAgg3 Y Y Y Y Y (Kl 2 runUnderlying26 sizeOf22 Y Y Y Y (QA 0 isAgg22 Y Y Y Y Y (Kl 3 runUnderlying26 sizeOf23 Y Y Y Y (QA 0 isAgg23 Y Y Y Y Y ?_)))))))
  refine Kl 4 runUnderlying26 sizeOf24 Y Y Y Y (QA 0 isAgg24 Y Y Y Y Y (jD Y ?_))
  obtain ⟨t9, h6, hm⟩ := bindO hm
  refine jd [] [] Y Y Y Y Y Y Y call46 (fun w hh => Y0 c0.fords qa0 na0 ca0 w (HV.callee (S0 := []) (vs0 := []) hh (roR hh 0 Y roN)) hna0 hqa0 hla0 h6) (fun l h7 => ?_)
  have h8 := h7
  refine kO (S' := [_, _]) (vs' := [_]) [0, 1] [0] 0 Y Y Y Y (jl (hsE [1] [] 0 Y Y Y Y) (jD Y ?_))
  obtain ⟨t12, h9, hm⟩ := bindO hm
  refine jd [] [] Y Y Y Y Y Y Y call86 (fun w hh => Zb c0.sands qa1 na1 ca1 w (HV.callee (S0 := []) (vs0 := []) hh (roR hh 1 Y roN)) hna1 hqa1 hla1 h9) (fun l_1 h10 => ?_)
  have h11 := h10
  refine kO (S' := [_, _]) (vs' := [_, _]) [0, 1] [0, 1] 0 Y Y Y Y (jl (hsE [1] [] 0 Y Y Y Y) (jD Y ?_))
  obtain ⟨t15, h12, hm⟩ := bindO hm
  refine jd [] [] Y Y Y Y Y Y Y call87 (fun w hh => Y3 c0.sights qa2 na2 ca2 w (HV.callee (S0 := []) (vs0 := []) hh (roR hh 2 Y roN)) hna2 hqa2 hla2 h12) (fun l_2 h13 => ?_)
  have h14 := h13
  refine kO (S' := [_, _]) (vs' := [_, _, _]) [0, 1] [0, 1, 2] 0 Y Y Y Y (jl (hsE [1] [] 0 Y Y Y Y) (jn Y Y Y Y (fun _ _ => ks (vs := [(0, _), (1, _), (2, _), (3, _), (4, _)]) (cells := [_, _, _, _, _]) Y Y) (jD Y (jT (us := #[_, _, _, _, _]) (cs' := [_, _, _, _, _]) (S' := [_, _]) 0 (fun w => sizeOf26 w) Y Y Y Y Y Y Y (jl (hsE [1] [] 0 Y Y Y Y) (jJ (ja ?_)))))))
  refine jy ?_
  obtain rfl := sj hm
  refine jp Y (fun w hh => (.cell Y (loadVar_agg (vs := [_, _, _, _, _]) (isAgg26 _) (sizeOf26 _) (hh.cells 0 Y Y)) .nil)) (fun w hh => ⟨(l, l_1, l_2), rfl, ⟨h8, h11, h14⟩, hh.se [] [2, 1, 0] 3 Y Y Y rfl⟩)
structure qS where
  t19 : Int
  out3_sands : (List Sand)
def Je (c0 : Channel) (s : qS) : Option (qS ⊕ (List Sand)) :=
 if s.t19 < (c0.sands.length : Int) then
 ((ix c0.sands s.t19).bind fun t21 =>
 (appc 24 s.out3_sands [(⟨(⟨t21.span.lo, t21.span.hi⟩ : Span), t21.reach⟩ : Sand)]).bind fun t27 =>
 (addc s.t19 1).bind fun t29 =>
 some (.inl (⟨t29, t27⟩ : qS))) else
 (some (.inr s.out3_sands))
structure q4 where
  t33 : Int
  out3_sights : (List Sight)
def Jc (c0 : Channel) (s_1 : q4) : Option (q4 ⊕ (List Sight)) :=
 if s_1.t33 < (c0.sights.length : Int) then
 ((ix c0.sights s_1.t33).bind fun t35 =>
 (appc 24 s_1.out3_sights [t35]).bind fun t41 =>
 (addc s_1.t33 1).bind fun t43 =>
 some (.inl (⟨t43, t41⟩ : q4))) else
 (some (.inr s_1.out3_sights))
def yH (c0 : Channel) : Option Channel :=
 ((K4 c0.fords).bind fun t14 =>
 some (⟨c0.cells, c0.tides, t14, [], []⟩ : Channel)).bind fun o =>
 (iterM FU (Je c0) (⟨0, o.sands⟩ : qS)).bind fun o_1 =>
 (iterM FU (Jc c0) (⟨0, o.sights⟩ : q4)).bind fun o_2 =>
 some (⟨o.cells, o.tides, o.fords, o_1, o_2⟩ : Channel)
theorem zP (c0 : Channel) (qa0 : Option Addr) (na0 ca0 : Nat) (qa1 : Option Addr) (na1 ca1 : Nat) (qa2 : Option Addr) (na2 ca2 : Nat) (w : World) (hw : HV w (keys [] []) [] [] [(aB qa0, aO qa0, RI.enc c0.fords), (aB qa1, aO qa1, RSa.enc c0.sands), (aB qa2, aO qa2, RSi.enc c0.sights)] w) (hna0 : c0.fords.length = na0) (hqa0 : AOK na0 qa0) (hla0 : na0 ≤ ca0) (hna1 : c0.sands.length = na1) (hqa1 : AOK na1 qa1) (hla1 : na1 ≤ ca1) (hna2 : c0.sights.length = na2) (hqa2 : AOK na2 qa2) (hla2 : na2 ≤ ca2) {res : Channel} (hm : yH c0 = some res) :
    Calls Tryz.prog 21 #[.agg #[.int .i64 c0.cells, .int .i64 c0.tides, .slice qa0 na0 ca0, .slice qa1 na1 ca1, .slice qa2 na2 ca2]] w (fun en w' => ∃ l : VL × VL × VL, en = .returned (.agg #[.int .i64 res.cells, .int .i64 res.tides, sL l.1, sL l.2.1, sL l.2.2]) ∧ (VOK 1 l.1.n l.1.cap (RI.enc res.fords) l.1.sp l.1.q ∧ VOK 3 l.2.1.n l.2.1.cap (RSa.enc res.sands) l.2.1.sp l.2.1.q ∧ VOK 3 l.2.2.n l.2.2.cap (RSi.enc res.sights) l.2.2.sp l.2.2.q) ∧ HV w (keys [] []) [] [vL 3 l.1 (RI.enc res.fords), vL 138 l.2.1 (RSa.enc res.sands), vL 139 l.2.2 (RSi.enc res.sights)] [] w') := by
  unfold yH at hm
  refine yd func21 Y ntmps21 Y (e := [(0, _)]) Y hw (jr ?_)
  refine jL Y Y (fun b h4 => ?_)
  refine ju (fun w => zeroValue33 w) Y (fun b_1 h5 => ?_)
  refine jq (jh ?_)
  obtain ⟨o, h6, h7⟩ := bindO hm
  refine jF (ι := Nat × VL × VL × VL) (fun l => VOK 1 l.2.1.n l.2.1.cap (RI.enc o.fords) l.2.1.sp l.2.1.q ∧ VOK 3 l.2.2.1.n l.2.2.1.cap (RSa.enc o.sands) l.2.2.1.sp l.2.2.1.q ∧ VOK 3 l.2.2.2.n l.2.2.2.cap (RSi.enc o.sights) l.2.2.2.sp l.2.2.2.q) (fun l => [(1, ptr b 0), (2, ptr b_1 0), (3, ptr l.1 0)]) (fun l => [kc b_1 #[.int .i64 0, .int .i64 0, slv none 0 0, slv none 0 0, slv none 0 0] 33, kc b #[.int .i64 c0.cells, .int .i64 c0.tides, .slice qa0 na0 ca0, .slice qa1 na1 ca1, .slice qa2 na2 ca2] 26, kc l.1 #[.int .i64 o.cells, .int .i64 o.tides, sL l.2.1, sL l.2.2.1, sL l.2.2.2] 33]) (fun l => [vL 3 l.2.1 (RI.enc o.fords), vL 138 l.2.2.1 (RSa.enc o.sands), vL 139 l.2.2.2 (RSi.enc o.sights)]) ?_ ?_
  ·replace hm := h6
   obtain ⟨t14, h11, hm⟩ := bindO hm
   refine jX none (.free 0 (.hoist 1 (.free 2 (.hoist 3 (.free 4 (.hoist 5 (.br (.alt 6 (.free 7 (.one 8 (.one 9 .done))) (.alt 8 (.one 6 (.free 7 (.one 9 .done))) .nil))))))))) _ Y (by decide +kernel) (fun w k hh => hh.draw k) (fun w hh => hh) ?_
   refine Kl 0 runUnderlying26 sizeOf3 Y Y Y Y (QA 1 isAgg3 Y Y Y Y Y (Kl 1 runUnderlying26 sizeOf3 Y Y Y Y (QA 1 isAgg3 Y Y Y Y Y (Kl 2 runUnderlying26 sizeOf22 Y Y Y Y (QA 1 isAgg22 Y Y Y Y Y (YE ?_))))))
   refine kE Y ?_ ?_
   ·refine jd [] [] Y Y Y Y Y Y Y call46 (fun w hh => Y0 c0.fords qa0 na0 ca0 w (HV.callee (S0 := []) (vs0 := []) hh (roR hh 0 Y roN)) hna0 hqa0 hla0 h11) (fun l_1 h12 => ?_)
    have h13 := h12
    refine kO (S' := [_, _]) (vs' := [_]) [0, 1] [0] 0 Y Y Y Y (jl (hsE [0, 1] [] 0 Y Y Y Y) (jn Y Y Y Y (fun _ _ => ks (vs := [(0, _), (1, _), (2, _)]) (cells := [_, _, _, _, _]) Y Y) (jD Y ?_)))
    refine ju (fun w => zeroValue33 w) Y (fun b_2 h14 => ?_)
    refine jl (hsE [1, 2] [] 0 Y Y Y Y) (jD Y (jT (us := #[_, _, _, _, _]) (cs' := [_, _, _, _, _]) (S' := [_, _, _]) 0 (fun w => sizeOf33 w) Y Y Y Y Y Y Y (jl (hsE [1, 2] [] 0 Y Y Y Y) (jJ (Jz 138 (Jz 139 ?_))))))
    obtain rfl := sj hm
    exact jj (b_2, l_1, ⟨none, 0, 0, []⟩, ⟨none, 0, 0, []⟩) (⟨h13, VOK.nil, VOK.nil⟩) (sE Y) (hsE [1, 2, 0] [2, 1, 0] 0 Y Y Y Y)
   refine kE Y ?_ ?_
   refine ju (fun w => zeroValue33 w) Y (fun b_3 h15 => ?_)
   refine jl (hsE [1, 2] [] 0 Y Y Y Y) (jD Y ?_)
   refine jd [] [] Y Y Y Y Y Y Y call46 (fun w hh => Y0 c0.fords qa0 na0 ca0 w (HV.callee (S0 := []) (vs0 := []) hh (roR hh 0 Y roN)) hna0 hqa0 hla0 h11) (fun l_2 h16 => ?_)
   have h17 := h16
   refine kO (S' := [_, _, _]) (vs' := [_]) [0, 1, 2] [0] 0 Y Y Y Y (jl (hsE [1, 2] [] 0 Y Y Y Y) (jn Y Y Y Y (fun _ _ => ks (vs := [(0, _), (1, _), (2, _)]) (cells := [_, _, _, _, _]) Y Y) (jD Y (jT (us := #[_, _, _, _, _]) (cs' := [_, _, _, _, _]) (S' := [_, _, _]) 0 (fun w => sizeOf33 w) Y Y Y Y Y Y Y (jl (hsE [1, 2] [] 0 Y Y Y Y) (jJ (Jz 138 ?_)))))))
   refine Jz 139 ?_
   obtain rfl := sj hm
   exact jj (b_3, l_2, ⟨none, 0, 0, []⟩, ⟨none, 0, 0, []⟩) (⟨h17, VOK.nil, VOK.nil⟩) (sE Y) (hsE [1, 2, 0] [2, 1, 0] 0 Y Y Y Y)
   exact J3
  intro l hj
  obtain ⟨h8, h9, h10⟩ := hj
  replace hm := h7
  refine ja (jh (jr (qk 3 runUnderlying26 Y sizeOf23 Y Y (kw 1 isAgg23 Y Y Y Y (jc Y Y Y (fun w _ => jQ hna1 (runUnderlying23 w) Y) (ji Y Y (jq ?_)))))))
  obtain ⟨o_1, h18, h19⟩ := bindO hm
  refine jF (ι := VL) (fun l_3 => VOK 3 l_3.n l_3.cap (RSa.enc o_1) l_3.sp l_3.q) (fun l_3 => [(1, ptr b 0), (2, ptr b_1 0), (3, ptr l.1 0)]) (fun l_3 => [kc b_1 #[.int .i64 0, .int .i64 0, slv none 0 0, slv none 0 0, slv none 0 0] 33, kc b #[.int .i64 c0.cells, .int .i64 c0.tides, .slice qa0 na0 ca0, .slice qa1 na1 ca1, .slice qa2 na2 ca2] 26, kc l.1 #[.int .i64 o.cells, .int .i64 o.tides, sL l.2.1, sL l_3, sL l.2.2.2] 33]) (fun l_3 => [vL 3 l.2.1 (RI.enc o.fords), vL 138 l_3 (RSa.enc o_1), vL 139 l.2.2.2 (RSi.enc o.sights)]) ?_ ?_
  ·replace hm := h18
   refine jm ?_
   refine jH (ι := VL) hm (fun s l_4 => VOK 3 l_4.n l_4.cap (RSa.enc s.out3_sands) l_4.sp l_4.q) (fun s l_4 => [(1, ptr b 0), (2, ptr b_1 0), (3, ptr l.1 0), (17, .slice qa1 na1 ca1), (18, .int .i64 (c0.sands.length : Int)), (19, .int .i64 s.t19)]) (fun s l_4 => [kc b_1 #[.int .i64 0, .int .i64 0, slv none 0 0, slv none 0 0, slv none 0 0] 33, kc b #[.int .i64 c0.cells, .int .i64 c0.tides, .slice qa0 na0 ca0, .slice qa1 na1 ca1, .slice qa2 na2 ca2] 26, kc l.1 #[.int .i64 o.cells, .int .i64 o.tides, sL l.2.1, sL l_4, sL l.2.2.2] 33]) (fun s l_4 => [vL 3 l.2.1 (RI.enc o.fords), vL 138 l_4 (RSa.enc s.out3_sands), vL 139 l.2.2.2 (RSi.enc o.sights)]) l.2.2.1 (h9) (sE Y) (fun w hh => hh) (fun s l_4 r hpl hm h22 => ?_)
   have h21 := hpl
   unfold Je at hm
   refine jr (JK Y Y Y (jq (jh ?_)))
   refine js Y (fun h23 => ?_) (fun h23 => ?_)
   ·replace hm := ifD h23 hm
    refine jt (ja (jh (jm (jr ?_))))
    obtain ⟨t21, h24, hm⟩ := bindO hm
    refine jc Y Y Y (fun w _ => qP h24 (runUnderlying23 w) (sizeOf98 w) Y Y hna1 hqa1) ?_
    refine jc Y Y Y (fun w hh => z7 RSa 0 [.int .i64 t21.span.lo, .int .i64 t21.span.hi, .int .i64 t21.reach] h24 (isAgg98 w) (sizeOf98 w) Y (hh.seg 1 Y) Y (Nat.add_zero _).symm) ?_
    refine ju (fun w => zeroValue98 w) Y (fun b_4 h25 => ?_)
    refine jT (us := #[_, _, _]) (cs' := [_, _, _]) (S' := [_, _, _, _]) 0 (fun w => sizeOf98 w) Y Y Y Y Y Y Y (jq (je (qk 3 runUnderlying33 Y sizeOf30 Y Y (kw 3 isAgg30 Y Y Y Y (zO [_, _, _] 0 isAgg98 sizeOf98 Y Y Y Y ?_)))))
    refine qg RSa [(⟨(⟨t21.span.lo, t21.span.hi⟩ : Span), t21.reach⟩ : Sand)] (ps := [(0, _)]) (cells := [_, _, _]) (fun w => runUnderlying30 w) (fun w => sizeOf138 w) (fun w => zeroValue138 w) Y Y Y Y Y Y Y Y (fun L h26 => ?_)
    obtain ⟨t27, h27, hm⟩ := bindO hm
    refine Jh RSa 2 h27 underlying30 jbH Y Y Y Y Y h21 Y Y (vlen RSa h26 Y) (AOK.q (vne h26)) (fun w hh => (hh.vsegA 0 Y h26)) Y (fun L_1 h28 h28n => ?_)
    refine kO (S' := [_, _, _, _]) (vs' := [_, _, _, _]) [0, 1, 2, 3] [0, 1, 2, 3] 0 Y Y Y Y (qk 3 runUnderlying33 Y sizeOf30 Y Y (zp (cs' := #[_, _, _, _, _]) (S' := [_, _, _, _]) 3 (fun w => sizeOf30 w) Y Y Y Y Y Y Y (jv (jw (ja (je ?_))))))
    obtain ⟨t29, h29, hm⟩ := bindO hm
    refine Jv h29 Y Y Y (ji Y Y (jv ?_))
    obtain rfl := sj hm
    refine ja ?_
    exact jz _ L_1 Y (h28) (sE Y) (hsE [1, 2, 3] [1, 2, 3] 0 Y Y Y Y)
   replace hm := ifE h23 hm
   refine jO (jk (jk (jB ?_)))
   obtain rfl := sj hm
   have hbo := h22 _ Y
   subst hbo
   exact jj l_4 (h21) (sE Y) (fun w hh => hh)
  intro l_3 hj
  have h20 := hj
  replace hm := h19
  refine ja (jh (jr (qk 4 runUnderlying26 Y sizeOf24 Y Y (kw 1 isAgg24 Y Y Y Y (jc Y Y Y (fun w _ => jQ hna2 (runUnderlying24 w) Y) (ji Y Y (jq ?_)))))))
  obtain ⟨o_2, h30, h31⟩ := bindO hm
  refine jF (ι := VL) (fun l_5 => VOK 3 l_5.n l_5.cap (RSi.enc o_2) l_5.sp l_5.q) (fun l_5 => [(2, ptr b_1 0), (3, ptr l.1 0)]) (fun l_5 => [kc b_1 #[.int .i64 0, .int .i64 0, slv none 0 0, slv none 0 0, slv none 0 0] 33, kc b #[.int .i64 c0.cells, .int .i64 c0.tides, .slice qa0 na0 ca0, .slice qa1 na1 ca1, .slice qa2 na2 ca2] 26, kc l.1 #[.int .i64 o.cells, .int .i64 o.tides, sL l.2.1, sL l_3, sL l_5] 33]) (fun l_5 => [vL 3 l.2.1 (RI.enc o.fords), vL 138 l_3 (RSa.enc o_1), vL 139 l_5 (RSi.enc o_2)]) ?_ ?_
  ·replace hm := h30
   refine jm ?_
   refine jH (ι := VL) hm (fun s_1 l_6 => VOK 3 l_6.n l_6.cap (RSi.enc s_1.out3_sights) l_6.sp l_6.q) (fun s_1 l_6 => [(2, ptr b_1 0), (3, ptr l.1 0), (31, .slice qa2 na2 ca2), (32, .int .i64 (c0.sights.length : Int)), (33, .int .i64 s_1.t33)]) (fun s_1 l_6 => [kc b_1 #[.int .i64 0, .int .i64 0, slv none 0 0, slv none 0 0, slv none 0 0] 33, kc b #[.int .i64 c0.cells, .int .i64 c0.tides, .slice qa0 na0 ca0, .slice qa1 na1 ca1, .slice qa2 na2 ca2] 26, kc l.1 #[.int .i64 o.cells, .int .i64 o.tides, sL l.2.1, sL l_3, sL l_6] 33]) (fun s_1 l_6 => [vL 3 l.2.1 (RI.enc o.fords), vL 138 l_3 (RSa.enc o_1), vL 139 l_6 (RSi.enc s_1.out3_sights)]) l.2.2.2 (h10) (sE Y) (fun w hh => hh) (fun s_1 l_6 r_1 hpl hm h34 => ?_)
   have h33 := hpl
   unfold Jc at hm
   refine jr (JK Y Y Y (jq (jh ?_)))
   refine js Y (fun h35 => ?_) (fun h35 => ?_)
   ·replace hm := ifD h35 hm
    refine jt (ja (jh (jm (jr ?_))))
    obtain ⟨t35, h36, hm⟩ := bindO hm
    refine jc Y Y Y (fun w _ => qP h36 (runUnderlying24 w) (sizeOf55 w) Y Y hna2 hqa2) ?_
    refine jc Y Y Y (fun w hh => z7 RSi 0 [.int .i64 t35.after, .int .i64 t35.cell, .bool t35.upright] h36 (isAgg55 w) (sizeOf55 w) Y (hh.seg 2 Y) Y (Nat.add_zero _).symm) ?_
    refine ju (fun w => zeroValue55 w) Y (fun b_5 h37 => ?_)
    refine jT (us := #[_, _, _]) (cs' := [_, _, _]) (S' := [_, _, _, _]) 0 (fun w => sizeOf55 w) Y Y Y Y Y Y Y (jq (je (qk 4 runUnderlying33 Y sizeOf31 Y Y (kw 3 isAgg31 Y Y Y Y (zO [_, _, _] 0 isAgg55 sizeOf55 Y Y Y Y ?_)))))
    refine qg RSi [t35] (ps := [(0, _)]) (cells := [_, _, _]) (fun w => runUnderlying31 w) (fun w => sizeOf139 w) (fun w => zeroValue139 w) Y Y Y Y Y Y Y Y (fun L_2 h38 => ?_)
    obtain ⟨t41, h39, hm⟩ := bindO hm
    refine Jh RSi 3 h39 underlying31 jbx Y Y Y Y Y h33 Y Y (vlen RSi h38 Y) (AOK.q (vne h38)) (fun w hh => (hh.vsegA 0 Y h38)) Y (fun L_3 h40 h40n => ?_)
    refine kO (S' := [_, _, _, _]) (vs' := [_, _, _, _]) [0, 1, 2, 3] [0, 1, 2, 3] 0 Y Y Y Y (qk 4 runUnderlying33 Y sizeOf31 Y Y (zp (cs' := #[_, _, _, _, _]) (S' := [_, _, _, _]) 3 (fun w => sizeOf31 w) Y Y Y Y Y Y Y (jv (jw (ja (je ?_))))))
    obtain ⟨t43, h41, hm⟩ := bindO hm
    refine Jv h41 Y Y Y (ji Y Y (jv ?_))
    obtain rfl := sj hm
    refine ja ?_
    exact jz _ L_3 Y (h40) (sE Y) (hsE [1, 2, 3] [1, 2, 3] 0 Y Y Y Y)
   replace hm := ifE h35 hm
   refine jO (jk (jk (jB ?_)))
   obtain rfl := sj hm
   have hbo := h34 _ Y
   subst hbo
   exact jj l_6 (h33) (sE Y) (fun w hh => hh)
  intro l_5 hj
  have h32 := hj
  replace hm := h31
  refine ja (jr (zO [_, _, _, _, _] 2 isAgg33 sizeOf33 Y Y Y Y (jT (us := #[_, _, _, _, _]) (cs' := [_, _, _, _, _]) (S' := [_, _, _]) 0 (fun w => sizeOf33 w) Y Y Y Y Y Y Y (jq (jy ?_)))))
  obtain rfl := sj hm
  refine jp Y (fun w hh => (.cell Y (loadVar_agg (vs := [_, _, _, _, _]) (isAgg33 _) (sizeOf33 _) (hh.cells 0 Y Y)) .nil)) (fun w hh => ⟨(l.2.1, l_3, l_5), rfl, ⟨h8, h20, h32⟩, hh.se [] [0, 1, 2] 3 Y Y Y rfl⟩)
def jG (n0 : Int) (lo1 : Int) (hi2 : Int) : Option Bool :=
 (if n0 < lo1 then
 (some true) else
 (some (decide (hi2 < n0)))).bind fun o =>
 some o
theorem kk (n0 : Int) (lo1 : Int) (hi2 : Int)  (w : World) (hw : HV w (keys [] []) [] [] [] w)  {res : Bool} (hm : jG n0 lo1 hi2 = some res) :
    Calls Tryz.prog 88 #[.int .i64 n0, .int .i64 lo1, .int .i64 hi2] w (fun en w' => ∃ l : Unit, en = .returned (.bool res) ∧ (True) ∧ HV w (keys [] []) [] [] [] w') := by
  unfold jG at hm
  refine yd func88 Y ntmps88 Y (e := [(0, _), (1, _), (2, _)]) Y hw (jr (jo Y Y (jq (jh ?_))))
  obtain ⟨o, h1, h2⟩ := bindO hm
  refine jF (ι := Unit) (fun l => True) (fun l => [(6, .bool o)]) (fun l => []) (fun l => []) ?_ ?_
  ·replace hm := h1
   refine je (ji Y Y (ji Y Y (JK Y Y Y (ji Y Y ?_))))
   refine jP 10 Y (fun h3 => ?_) (fun h3 => ?_)
   ·replace hm := ifD h3 hm
    refine g_k Y Y Y Y (g_k Y Y Y Y (g_k Y Y Y Y (qI Y Y Y (jo Y Y (jv ?_)))))
    obtain rfl := sj hm
    exact jj () (trivial) (sE Y) (fun w hh => hh)
   replace hm := ifE h3 hm
   refine jb Y Y (ji Y Y (jb Y Y (ji Y Y (jb Y Y (jc Y Y Y (fun _ _ => YM Y Y) (yU Y Y Y (jo Y Y ?_)))))))
   refine jv ?_
   obtain rfl := sj hm
   exact jj () (trivial) (sE Y) (fun w hh => hh)
  intro l hj
  replace hm := h2
  refine ja (jy ?_)
  obtain rfl := sj hm
  refine jp Y (fun w hh => (.tmp Y .nil)) (fun w hh => ⟨(), rfl, trivial, hh⟩)
def zd (c0 : Channel) (s : Int) : Option (Int ⊕ (Unit ⊕ Int)) :=
 if s < (c0.sands.length : Int) then
 ((ix c0.sands s).bind fun t46 =>
 (jG t46.reach 1 2).bind fun t49 =>
 if t49 = true then
 (some (.inr (.inr 3))) else
 ((addc s 1).bind fun t42 =>
 some (.inl t42))) else
 (some (.inr (.inl ())))
def zl (c0 : Channel) (s_1 : Int) : Option (Int ⊕ (Unit ⊕ Int)) :=
 if s_1 < (c0.sights.length : Int) then
 ((ix c0.sights s_1).bind fun t60 =>
 (jG t60.after 0 c0.tides).bind fun t65 =>
 if t65 = true then
 (some (.inr (.inr 3))) else
 ((addc s_1 1).bind fun t56 =>
 some (.inl t56))) else
 (some (.inr (.inl ())))
def zg (c0 : Channel) (s_2 : Int) : Option (Int ⊕ (Unit ⊕ Int)) :=
 if s_2 < (c0.fords.length : Int) then
 ((ix c0.fords s_2).bind fun t76 =>
 (subc c0.cells 1).bind fun t80 =>
 (jG t76 0 t80).bind fun t81 =>
 if t81 = true then
 (some (.inr (.inr 1))) else
 ((addc s_2 1).bind fun t72 =>
 some (.inl t72))) else
 (some (.inr (.inl ())))
def zk (c0 : Channel) (s_3 : Int) : Option (Int ⊕ (Unit ⊕ Int)) :=
 if s_3 < (c0.sands.length : Int) then
 (((ix c0.sands s_3).bind fun t92 =>
 (subc c0.cells 1).bind fun t98 =>
 (jG t92.span.lo 0 t98).bind fun t99 =>
 if t99 = true then
 (some true) else
 ((ix c0.sands s_3).bind fun t104 =>
 (subc c0.cells 1).bind fun t110 =>
 (jG t104.span.hi 0 t110).bind fun t111 =>
 some t111)).bind fun o_5 =>
 if o_5 = true then
 (some (.inr (.inr 1))) else
 ((addc s_3 1).bind fun t88 =>
 some (.inl t88))) else
 (some (.inr (.inl ())))
def zi (c0 : Channel) (s_4 : Int) : Option (Int ⊕ (Unit ⊕ Int)) :=
 if s_4 < (c0.sights.length : Int) then
 ((ix c0.sights s_4).bind fun t123 =>
 (subc c0.cells 1).bind fun t128 =>
 (jG t123.cell 0 t128).bind fun t129 =>
 if t129 = true then
 (some (.inr (.inr 1))) else
 ((addc s_4 1).bind fun t119 =>
 some (.inl t119))) else
 (some (.inr (.inl ())))
def kD (c0 : Channel) (s_5 : Int) : Option (Int ⊕ (Unit ⊕ Int)) :=
 if s_5 < (c0.fords.length : Int) then
 ((ix c0.fords s_5).bind fun t140 =>
 (subc s_5 1).bind fun t145 =>
 (ix c0.fords t145).bind fun t146 =>
 if t140 ≤ t146 then
 (some (.inr (.inr 4))) else
 ((addc s_5 1).bind fun t136 =>
 some (.inl t136))) else
 (some (.inr (.inl ())))
def ze (c0 : Channel) (s_6 : Int) : Option (Int ⊕ (Unit ⊕ Int)) :=
 if s_6 < (c0.sands.length : Int) then
 ((ix c0.sands s_6).bind fun t159 =>
 (ix c0.sands s_6).bind fun t166 =>
 if t166.span.hi < t159.span.lo then
 (some (.inr (.inr 4))) else
 ((addc s_6 1).bind fun t155 =>
 some (.inl t155))) else
 (some (.inr (.inl ())))
def yZ (c0 : Channel) : Option Int :=
 ((jG c0.cells 2 10).bind fun t12 =>
 if t12 = true then
 (some true) else
 ((jG c0.tides 0 4).bind fun t16 =>
 if t16 = true then
 (some true) else
 ((jG (c0.fords.length : Int) 1 3).bind fun t22 =>
 if t22 = true then
 (some true) else
 (if 4 < (c0.sands.length : Int) then
 (some true) else
 (some (decide (8 < (c0.sights.length : Int)))))))).bind fun o =>
 if o = true then
 (some 2) else
 ((iterM FU (zd c0) 0).bind fun o_1 =>
 oc o_1 (fun j => (iterM FU (zl c0) 0).bind fun o_2 =>
 oc o_2 (fun j_1 => (iterM FU (zg c0) 0).bind fun o_3 =>
 oc o_3 (fun j_2 => (iterM FU (zk c0) 0).bind fun o_4 =>
 oc o_4 (fun j_3 => (iterM FU (zi c0) 0).bind fun o_6 =>
 oc o_6 (fun j_4 => (iterM FU (kD c0) 1).bind fun o_7 =>
 oc o_7 (fun j_5 => (iterM FU (ze c0) 0).bind fun o_8 =>
 oc o_8 (fun j_6 => some 0) (fun r_7 => some r_7)) (fun r_8 => some r_8)) (fun r_9 => some r_9)) (fun r_10 => some r_10)) (fun r_11 => some r_11)) (fun r_12 => some r_12)) (fun r_13 => some r_13))
theorem Y6 (c0 : Channel) (qa0 : Option Addr) (na0 ca0 : Nat) (qa1 : Option Addr) (na1 ca1 : Nat) (qa2 : Option Addr) (na2 ca2 : Nat) (w : World) (hw : HV w (keys [] []) [] [] [(aB qa0, aO qa0, RI.enc c0.fords), (aB qa1, aO qa1, RSa.enc c0.sands), (aB qa2, aO qa2, RSi.enc c0.sights)] w) (hna0 : c0.fords.length = na0) (hqa0 : AOK na0 qa0) (hla0 : na0 ≤ ca0) (hna1 : c0.sands.length = na1) (hqa1 : AOK na1 qa1) (hla1 : na1 ≤ ca1) (hna2 : c0.sights.length = na2) (hqa2 : AOK na2 qa2) (hla2 : na2 ≤ ca2) {res : Int} (hm : yZ c0 = some res) :
    Calls Tryz.prog 22 #[.agg #[.int .i64 c0.cells, .int .i64 c0.tides, .slice qa0 na0 ca0, .slice qa1 na1 ca1, .slice qa2 na2 ca2]] w (fun en w' => ∃ l : Unit, en = .returned (.int .i64 res) ∧ (True) ∧ HV w (keys [] []) [] [] [] w') := by
  unfold yZ at hm
  refine yd func22 Y ntmps22 Y (e := [(0, _)]) Y hw (jr ?_)
  refine jL Y Y (fun b h1 => ?_)
  refine jo Y Y (jq (jh (jh ?_)))
  obtain ⟨o, h2, h3⟩ := bindO hm
  refine jF (ι := Unit) (fun l => True) (fun l => [(1, ptr b 0), (35, .bool o)]) (fun l => [kc b #[.int .i64 c0.cells, .int .i64 c0.tides, .slice qa0 na0 ca0, .slice qa1 na1 ca1, .slice qa2 na2 ca2] 33]) (fun l => []) ?_ ?_
  ·replace hm := h2
   refine je (qk 0 runUnderlying33 Y sizeOf3 Y Y (kw 0 isAgg3 Y Y Y Y ?_))
   obtain ⟨t12, h4, hm⟩ := bindO hm
   refine jd [] [] Y Y Y Y Y Y Y call88 (fun w hh => kk c0.cells 2 10 w (HV.callee (S0 := []) (vs0 := []) hh roN)  h4) (fun l_1 h5 => ?_)
   refine ji Y Y ?_
   refine jP 13 Y (fun h6 => ?_) (fun h6 => ?_)
   ·replace hm := ifT (h6) hm
    refine g_k Y Y Y Y (g_k Y Y Y Y (g_k Y Y Y Y (qI Y Y Y (ji Y Y (g_k Y Y Y Y (g_k Y Y Y Y (g_k Y Y Y Y ?_)))))))
    refine g_k Y Y Y Y (qI Y Y Y (ji Y Y (g_k Y Y Y Y (g_k Y Y Y Y (g_k Y Y Y Y (g_k Y Y Y Y (qI Y Y Y ?_)))))))
    refine ji Y Y (g_k Y Y Y Y (g_k Y Y Y Y (g_k Y Y Y Y (g_k Y Y Y Y (qI Y Y Y (jv ?_))))))
    obtain rfl := sj hm
    exact jj () (trivial) (sE Y) (fun w hh => hh)
   replace hm := ifN h6 hm
   refine jb Y Y (qk 1 runUnderlying33 Y sizeOf3 Y Y (jb Y Y (kw 0 isAgg3 Y Y Y Y (jb Y Y ?_))))
   obtain ⟨t16, h7, hm⟩ := bindO hm
   refine jd [] [] Y Y Y Y Y Y Y call88 (fun w hh => kk c0.tides 0 4 w (HV.callee (S0 := []) (vs0 := []) hh roN)  h7) (fun l_2 h8 => ?_)
   refine yU Y Y Y (ji Y Y ?_)
   refine jP 18 Y (fun h9 => ?_) (fun h9 => ?_)
   ·replace hm := ifT (h9) hm
    refine g_k Y Y Y Y (g_k Y Y Y Y (g_k Y Y Y Y (g_k Y Y Y Y (qI Y Y Y (ji Y Y (g_k Y Y Y Y (g_k Y Y Y Y ?_)))))))
    refine g_k Y Y Y Y (g_k Y Y Y Y (qI Y Y Y (ji Y Y (g_k Y Y Y Y (g_k Y Y Y Y (g_k Y Y Y Y (g_k Y Y Y Y ?_)))))))
    refine qI Y Y Y (jv ?_)
    obtain rfl := sj hm
    exact jj () (trivial) (sE Y) (fun w hh => hh)
   replace hm := ifN h9 hm
   refine jb Y Y (qk 2 runUnderlying33 Y sizeOf22 Y Y (jb Y Y (kw 0 isAgg22 Y Y Y Y (jb Y Y (jc Y Y Y (fun w _ => jQ hna0 (runUnderlying22 w) Y) (jb Y Y ?_))))))
   obtain ⟨t22, h10, hm⟩ := bindO hm
   refine jd [] [] Y Y Y Y Y Y Y call88 (fun w hh => kk (c0.fords.length : Int) 1 3 w (HV.callee (S0 := []) (vs0 := []) hh roN)  h10) (fun l_3 h11 => ?_)
   refine yU Y Y Y (ji Y Y ?_)
   refine jP 24 Y (fun h12 => ?_) (fun h12 => ?_)
   ·replace hm := ifT (h12) hm
    refine g_k Y Y Y Y (g_k Y Y Y Y (g_k Y Y Y Y (g_k Y Y Y Y (qI Y Y Y (ji Y Y (g_k Y Y Y Y (g_k Y Y Y Y ?_)))))))
    refine g_k Y Y Y Y (g_k Y Y Y Y (qI Y Y Y (jv ?_)))
    obtain rfl := sj hm
    exact jj () (trivial) (sE Y) (fun w hh => hh)
   replace hm := ifN h12 hm
   refine jb Y Y (qk 3 runUnderlying33 Y sizeOf30 Y Y (jb Y Y (kw 0 isAgg30 Y Y Y Y (jb Y Y (jc Y Y Y (fun w _ => jQ hna1 (runUnderlying30 w) Y) (jb Y Y (jc Y Y Y (fun _ _ => YM Y Y) ?_)))))))
   refine yU Y Y Y (ji Y Y ?_)
   refine jP 30 Y (fun h13 => ?_) (fun h13 => ?_)
   ·replace hm := ifD h13 hm
    refine g_k Y Y Y Y (g_k Y Y Y Y (g_k Y Y Y Y (g_k Y Y Y Y (qI Y Y Y (jv ?_)))))
    obtain rfl := sj hm
    exact jj () (trivial) (sE Y) (fun w hh => hh)
   replace hm := ifE h13 hm
   refine jb Y Y (qk 4 runUnderlying33 Y sizeOf31 Y Y (jb Y Y (kw 0 isAgg31 Y Y Y Y (jb Y Y (jc Y Y Y (fun w _ => jQ hna2 (runUnderlying31 w) Y) (jb Y Y (jc Y Y Y (fun _ _ => YM Y Y) ?_)))))))
   refine yU Y Y Y (jv ?_)
   obtain rfl := sj hm
   exact jj () (trivial) (sE Y) (fun w hh => hh)
  intro l hj
  replace hm := h3
  refine ja ?_
  refine js Y (fun h14 => ?_) (fun h14 => ?_)
  ·replace hm := ifT (h14) hm
   refine jr (jo Y Y (jq (jy (jg ?_))))
   obtain rfl := sj hm
   refine jp Y (fun w hh => (.tmp Y .nil)) (fun w hh => ⟨(), rfl, trivial, hh.se [] [] 3 Y Y Y rfl⟩)
  replace hm := ifN h14 hm
  refine jt (ja (jh (jr (jo Y Y (jq ?_)))))
  obtain ⟨o_1, h15, h16⟩ := bindO hm
  refine jF (ι := Unit) (fun j => o_1 = .inl j) (fun j => [(1, ptr b 0)]) (fun j => [kc b #[.int .i64 c0.cells, .int .i64 c0.tides, .slice qa0 na0 ca0, .slice qa1 na1 ca1, .slice qa2 na2 ca2] 33]) (fun j => []) ?_ ?_
  ·replace hm := h15
   refine jm ?_
   refine jH (ι := Unit) hm (fun s l_4 => True) (fun s l_4 => [(1, ptr b 0), (3, .int .i64 s)]) (fun s l_4 => [kc b #[.int .i64 c0.cells, .int .i64 c0.tides, .slice qa0 na0 ca0, .slice qa1 na1 ca1, .slice qa2 na2 ca2] 33]) (fun s l_4 => []) () (trivial) (sE Y) (fun w hh => hh) (fun s l_4 r hpl hm h17 => ?_)
   unfold zd at hm
   refine jh (jr (ji Y Y (qk 3 runUnderlying33 Y sizeOf30 Y Y (kw 0 isAgg30 Y Y Y Y (jc Y Y Y (fun w _ => jQ hna1 (runUnderlying30 w) Y) (JK Y Y Y (jq ?_)))))))
   refine js Y (fun h18 => ?_) (fun h18 => ?_)
   ·replace hm := ifD h18 hm
    refine jt (ja (jh (jm (jr (qk 3 runUnderlying33 Y sizeOf30 Y Y (kw 0 isAgg30 Y Y Y Y (ji Y Y ?_)))))))
    obtain ⟨t46, h19, hm⟩ := bindO hm
    refine jc Y Y Y (fun w _ => qP h19 (runUnderlying30 w) (sizeOf138 w) Y Y hna1 hqa1) (qk 2 runUnderlying138 Y sizeOf3 Y Y (jc Y Y Y (fun w hh => j5 RSa 2 h19 (isAgg3 w) Y (hh.seg 1 Y) Y Y) ?_))
    obtain ⟨t49, h20, hm⟩ := bindO hm
    refine jd [] [] Y Y Y Y Y Y Y call88 (fun w hh => kk t46.reach 1 2 w (HV.callee (S0 := []) (vs0 := []) hh roN)  h20) (fun l_5 h21 => ?_)
    refine jq ?_
    refine js Y (fun h22 => ?_) (fun h22 => ?_)
    ·replace hm := ifT (h22) hm
     refine jr (jo Y Y (jq (jy (jA (jg (jg (jA ?_)))))))
     obtain rfl := sj hm
     have hbo := h17 _ Y
     subst hbo
     refine jg ?_
     replace hm := ocR h16
     refine jg ?_
     obtain rfl := sj hm
     refine jp Y (fun w hh => (.tmp Y .nil)) (fun w hh => ⟨(), rfl, trivial, hh.se [] [] 3 Y Y Y rfl⟩)
    replace hm := ifN h22 hm
    refine jt (jw (ja (je (ji Y Y ?_))))
    obtain ⟨t42, h23, hm⟩ := bindO hm
    refine Jv h23 Y Y Y (jo Y Y (jv ?_))
    obtain rfl := sj hm
    refine ja ?_
    exact jz _ () Y (trivial) (sE Y) (fun w hh => hh)
   replace hm := ifE h18 hm
   refine jO (jk (jk (jB ?_)))
   obtain rfl := sj hm
   have hbo := h17 _ Y
   subst hbo
   exact jj () (Y) (sE Y) (fun w hh => hh)
  intro j hj
  have h24 := hj
  subst h24
  replace hm := ocL h16
  refine ja (jh (jr (jo Y Y (jq ?_))))
  obtain ⟨o_2, h25, h26⟩ := bindO hm
  refine jF (ι := Unit) (fun j_1 => o_2 = .inl j_1) (fun j_1 => [(1, ptr b 0)]) (fun j_1 => [kc b #[.int .i64 c0.cells, .int .i64 c0.tides, .slice qa0 na0 ca0, .slice qa1 na1 ca1, .slice qa2 na2 ca2] 33]) (fun j_1 => []) ?_ ?_
  ·replace hm := h25
   refine jm ?_
   refine jH (ι := Unit) hm (fun s_1 l_6 => True) (fun s_1 l_6 => [(1, ptr b 0), (4, .int .i64 s_1)]) (fun s_1 l_6 => [kc b #[.int .i64 c0.cells, .int .i64 c0.tides, .slice qa0 na0 ca0, .slice qa1 na1 ca1, .slice qa2 na2 ca2] 33]) (fun s_1 l_6 => []) () (trivial) (sE Y) (fun w hh => hh) (fun s_1 l_6 r_1 hpl hm h27 => ?_)
   unfold zl at hm
   refine jh (jr (ji Y Y (qk 4 runUnderlying33 Y sizeOf31 Y Y (kw 0 isAgg31 Y Y Y Y (jc Y Y Y (fun w _ => jQ hna2 (runUnderlying31 w) Y) (JK Y Y Y (jq ?_)))))))
   refine js Y (fun h28 => ?_) (fun h28 => ?_)
   ·replace hm := ifD h28 hm
    refine jt (ja (jh (jm (jh ?_))))
    refine jX none (.free 0 (.hoist 1 (.free 2 (.free 3 (.free 4 (.hoist 5 (.free 6 (.hoist 7 (.one 8 .done))))))))) _ Y (by decide +kernel) (fun w k hh => hh.draw k) (fun w hh => hh) ?_
    refine Kl 4 runUnderlying33 sizeOf31 Y Y Y Y (QA 0 isAgg31 Y Y Y Y Y (qQ Y Y Y ?_))
    obtain ⟨t60, h29, hm⟩ := bindO hm
    refine jn Y Y Y Y (fun w _ => qP h29 (runUnderlying31 w) (sizeOf139 w) Y Y hna2 hqa2) (Kl 0 runUnderlying139 sizeOf3 Y Y Y Y (jx Y Y Y Y (fun w hh => j5 RSi 0 h29 (isAgg3 w) Y (hh.seg 2 Y) Y Y) (Kl 1 runUnderlying33 sizeOf3 Y Y Y Y (QA 0 isAgg3 Y Y Y Y Y (jD Y ?_)))))
    obtain ⟨t65, h30, hm⟩ := bindO hm
    refine jd [] [] Y Y Y Y Y Y Y call88 (fun w hh => kk t60.after 0 c0.tides w (HV.callee (S0 := []) (vs0 := []) hh roN)  h30) (fun l_7 h31 => ?_)
    refine jl (fun w hh => hh) (jJ (ja ?_))
    refine js Y (fun h32 => ?_) (fun h32 => ?_)
    ·replace hm := ifT (h32) hm
     refine jr (jo Y Y (jq (jy (jA (jg (jg (jA ?_)))))))
     obtain rfl := sj hm
     have hbo := h27 _ Y
     subst hbo
     refine jg ?_
     replace hm := ocR h26
     refine jg ?_
     obtain rfl := sj hm
     refine jp Y (fun w hh => (.tmp Y .nil)) (fun w hh => ⟨(), rfl, trivial, hh.se [] [] 3 Y Y Y rfl⟩)
    replace hm := ifN h32 hm
    refine jt (jw (ja (je (ji Y Y ?_))))
    obtain ⟨t56, h33, hm⟩ := bindO hm
    refine Jv h33 Y Y Y (jo Y Y (jv ?_))
    obtain rfl := sj hm
    refine ja ?_
    exact jz _ () Y (trivial) (sE Y) (fun w hh => hh)
   replace hm := ifE h28 hm
   refine jO (jk (jk (jB ?_)))
   obtain rfl := sj hm
   have hbo := h27 _ Y
   subst hbo
   exact jj () (Y) (sE Y) (fun w hh => hh)
  intro j_1 hj
  have h34 := hj
  subst h34
  replace hm := ocL h26
  refine ja (jh (jr (jo Y Y (jq ?_))))
  obtain ⟨o_3, h35, h36⟩ := bindO hm
  refine jF (ι := Unit) (fun j_2 => o_3 = .inl j_2) (fun j_2 => [(1, ptr b 0)]) (fun j_2 => [kc b #[.int .i64 c0.cells, .int .i64 c0.tides, .slice qa0 na0 ca0, .slice qa1 na1 ca1, .slice qa2 na2 ca2] 33]) (fun j_2 => []) ?_ ?_
  ·replace hm := h35
   refine jm ?_
   refine jH (ι := Unit) hm (fun s_2 l_8 => True) (fun s_2 l_8 => [(1, ptr b 0), (5, .int .i64 s_2)]) (fun s_2 l_8 => [kc b #[.int .i64 c0.cells, .int .i64 c0.tides, .slice qa0 na0 ca0, .slice qa1 na1 ca1, .slice qa2 na2 ca2] 33]) (fun s_2 l_8 => []) () (trivial) (sE Y) (fun w hh => hh) (fun s_2 l_8 r_2 hpl hm h37 => ?_)
   unfold zg at hm
   refine jh (jr (ji Y Y (qk 2 runUnderlying33 Y sizeOf22 Y Y (kw 0 isAgg22 Y Y Y Y (jc Y Y Y (fun w _ => jQ hna0 (runUnderlying22 w) Y) (JK Y Y Y (jq ?_)))))))
   refine js Y (fun h38 => ?_) (fun h38 => ?_)
   ·replace hm := ifD h38 hm
    refine jt (ja (jh (jm (jh ?_))))
    refine jX none (.free 0 (.hoist 1 (.free 2 (.free 3 (.hoist 4 (.free 5 (.hoist 6 (.free 7 (.one 8 .done))))))))) _ Y (by decide +kernel) (fun w k hh => hh.draw k) (fun w hh => hh) ?_
    refine Kl 2 runUnderlying33 sizeOf22 Y Y Y Y (QA 0 isAgg22 Y Y Y Y Y (qQ Y Y Y ?_))
    obtain ⟨t76, h39, hm⟩ := bindO hm
    refine jn Y Y Y Y (fun w _ => qP h39 (runUnderlying22 w) (sizeOf3 w) Y Y hna0 hqa0) (jx Y Y Y Y (fun w hh => j5 RI 0 h39 (isAgg3 w) Y (hh.seg 0 Y) Y (Nat.add_zero _).symm) (Kl 0 runUnderlying33 sizeOf3 Y Y Y Y (QA 0 isAgg3 Y Y Y Y Y ?_)))
    obtain ⟨t80, h40, hm⟩ := bindO hm
    refine jn Y Y Y Y (fun _ _ => zC h40 Y Y) (jD Y ?_)
    obtain ⟨t81, h41, hm⟩ := bindO hm
    refine jd [] [] Y Y Y Y Y Y Y call88 (fun w hh => kk t76 0 t80 w (HV.callee (S0 := []) (vs0 := []) hh roN)  h41) (fun l_9 h42 => ?_)
    refine jl (fun w hh => hh) (jJ (ja ?_))
    refine js Y (fun h43 => ?_) (fun h43 => ?_)
    ·replace hm := ifT (h43) hm
     refine jr (jo Y Y (jq (jy (jA (jg (jg (jA ?_)))))))
     obtain rfl := sj hm
     have hbo := h37 _ Y
     subst hbo
     refine jg ?_
     replace hm := ocR h36
     refine jg ?_
     obtain rfl := sj hm
     refine jp Y (fun w hh => (.tmp Y .nil)) (fun w hh => ⟨(), rfl, trivial, hh.se [] [] 3 Y Y Y rfl⟩)
    replace hm := ifN h43 hm
    refine jt (jw (ja (je (ji Y Y ?_))))
    obtain ⟨t72, h44, hm⟩ := bindO hm
    refine Jv h44 Y Y Y (jo Y Y (jv ?_))
    obtain rfl := sj hm
    refine ja ?_
    exact jz _ () Y (trivial) (sE Y) (fun w hh => hh)
   replace hm := ifE h38 hm
   refine jO (jk (jk (jB ?_)))
   obtain rfl := sj hm
   have hbo := h37 _ Y
   subst hbo
   exact jj () (Y) (sE Y) (fun w hh => hh)
  intro j_2 hj
  have h45 := hj
  subst h45
  replace hm := ocL h36
  refine ja (jh (jr (jo Y Y (jq ?_))))
  obtain ⟨o_4, h46, h47⟩ := bindO hm
  refine jF (ι := Unit) (fun j_3 => o_4 = .inl j_3) (fun j_3 => [(1, ptr b 0)]) (fun j_3 => [kc b #[.int .i64 c0.cells, .int .i64 c0.tides, .slice qa0 na0 ca0, .slice qa1 na1 ca1, .slice qa2 na2 ca2] 33]) (fun j_3 => []) ?_ ?_
  ·replace hm := h46
   refine jm ?_
   refine jH (ι := Unit) hm (fun s_3 l_10 => True) (fun s_3 l_10 => [(1, ptr b 0), (6, .int .i64 s_3)]) (fun s_3 l_10 => [kc b #[.int .i64 c0.cells, .int .i64 c0.tides, .slice qa0 na0 ca0, .slice qa1 na1 ca1, .slice qa2 na2 ca2] 33]) (fun s_3 l_10 => []) () (trivial) (sE Y) (fun w hh => hh) (fun s_3 l_10 r_3 hpl hm h48 => ?_)
   unfold zk at hm
   refine jh (jr (ji Y Y (qk 3 runUnderlying33 Y sizeOf30 Y Y (kw 0 isAgg30 Y Y Y Y (jc Y Y Y (fun w _ => jQ hna1 (runUnderlying30 w) Y) (JK Y Y Y (jq ?_)))))))
   refine js Y (fun h49 => ?_) (fun h49 => ?_)
   ·replace hm := ifD h49 hm
    refine jt (ja (jh (jm (jh ?_))))
    obtain ⟨o_5, h50, h51⟩ := bindO hm
    refine jF (ι := Unit) (fun l_11 => True) (fun l_11 => [(1, ptr b 0), (6, .int .i64 s_3), (112, .bool o_5)]) (fun l_11 => [kc b #[.int .i64 c0.cells, .int .i64 c0.tides, .slice qa0 na0 ca0, .slice qa1 na1 ca1, .slice qa2 na2 ca2] 33]) (fun l_11 => []) ?_ ?_
    ·replace hm := h50
     refine jX none (.free 0 (.hoist 1 (.free 2 (.free 3 (.free 4 (.free 5 (.hoist 6 (.free 7 (.hoist 8 (.free 9 (.one 10 (.free 11 (.free 12 (.hoist 13 (.free 14 (.free 15 (.free 16 (.free 17 (.hoist 18 (.free 19 (.hoist 20 (.free 21 (.one 22 (.free 23 .done)))))))))))))))))))))))) _ Y (by decide +kernel) (fun w k hh => hh.draw k) (fun w hh => hh) ?_
     refine Kl 3 runUnderlying33 sizeOf30 Y Y Y Y (QA 0 isAgg30 Y Y Y Y Y (qQ Y Y Y ?_))
     obtain ⟨t92, h52, hm⟩ := bindO hm
     refine jn Y Y Y Y (fun w _ => qP h52 (runUnderlying30 w) (sizeOf138 w) Y Y hna1 hqa1) (Kl 0 runUnderlying138 sizeOf50 Y Y Y Y (Kl 0 runUnderlying50 sizeOf3 Y Y Y Y (jx Y Y Y Y (fun w hh => j5 RSa 0 h52 (isAgg3 w) Y (hh.seg 1 Y) Y (by first | rfl | simp only [Nat.add_assoc])) (Kl 0 runUnderlying33 sizeOf3 Y Y Y Y (QA 0 isAgg3 Y Y Y Y Y ?_)))))
     obtain ⟨t98, h53, hm⟩ := bindO hm
     refine jn Y Y Y Y (fun _ _ => zC h53 Y Y) (jD Y ?_)
     obtain ⟨t99, h54, hm⟩ := bindO hm
     refine jd [] [] Y Y Y Y Y Y Y call88 (fun w hh => kk t92.span.lo 0 t98 w (HV.callee (S0 := []) (vs0 := []) hh roN)  h54) (fun l_12 h55 => ?_)
     refine jl (fun w hh => hh) (qQ Y Y Y ?_)
     refine jP 100 Y (fun h56 => ?_) (fun h56 => ?_)
     ·replace hm := ifT (h56) hm
      refine jC Y Y Y Y Y Y Y (yI Y Y Y Y Y Y Y (jC Y Y Y Y Y Y Y (jC Y Y Y Y Y Y Y (jC Y Y Y Y Y Y Y (jC Y Y Y Y Y Y Y (yI Y Y Y Y Y Y Y (jC Y Y Y Y Y Y Y ?_)))))))
      refine yI Y Y Y Y Y Y Y (jC Y Y Y Y Y Y Y (jD Y (g_k Y Y Y Y (jl (fun w hh => hh) (jn Y Y Y Y (fun _ _ => Ky Y Y) (jJ ?_))))))
      obtain rfl := sj hm
      exact jj () (trivial) (sE Y) (fun w hh => hh)
     replace hm := ifN h56 hm
     refine jK Y Y Y Y Y Y (fun w _ => jM 3 (runUnderlying33 w) Y (sizeOf30 w) Y) (qz Y Y Y Y Y Y (fun w hh => jI (isAgg30 w) Y (hh.cell 0 Y Y)) (jK Y Y Y Y Y Y (fun _ _ => jW Y) ?_))
     obtain ⟨t104, h57, hm⟩ := bindO hm
     refine jK Y Y Y Y Y Y (fun w _ => qP h57 (runUnderlying30 w) (sizeOf138 w) Y Y hna1 hqa1) (jK Y Y Y Y Y Y (fun w _ => jM 0 (runUnderlying138 w) Y (sizeOf50 w) Y) (jK Y Y Y Y Y Y (fun w _ => jM 1 (runUnderlying50 w) Y (sizeOf3 w) Y) (qz Y Y Y Y Y Y (fun w hh => j5 RSa 1 h57 (isAgg3 w) Y (hh.seg 1 Y) Y (by first | rfl | simp only [Nat.add_assoc])) (jK Y Y Y Y Y Y (fun w _ => jM 0 (runUnderlying33 w) Y (sizeOf3 w) Y) (qz Y Y Y Y Y Y (fun w hh => jI (isAgg3 w) Y (hh.cell 0 Y Y)) ?_)))))
     obtain ⟨t110, h58, hm⟩ := bindO hm
     refine jK Y Y Y Y Y Y (fun _ _ => zC h58 Y Y) (jD Y (jb Y Y ?_))
     obtain ⟨t111, h59, hm⟩ := bindO hm
     refine jd [] [] Y Y Y Y Y Y Y call88 (fun w hh => kk t104.span.hi 0 t110 w (HV.callee (S0 := []) (vs0 := []) hh roN)  h59) (fun l_13 h60 => ?_)
     refine jl (fun w hh => hh) (jn Y Y Y Y (fun _ _ => z1 Y Y) (jJ ?_))
     obtain rfl := sj hm
     exact jj () (trivial) (sE Y) (fun w hh => hh)
    intro l_11 hj
    replace hm := h51
    refine ja ?_
    refine js Y (fun h61 => ?_) (fun h61 => ?_)
    ·replace hm := ifT (h61) hm
     refine jr (jo Y Y (jq (jy (jA (jg (jg (jA ?_)))))))
     obtain rfl := sj hm
     have hbo := h48 _ Y
     subst hbo
     refine jg ?_
     replace hm := ocR h47
     refine jg ?_
     obtain rfl := sj hm
     refine jp Y (fun w hh => (.tmp Y .nil)) (fun w hh => ⟨(), rfl, trivial, hh.se [] [] 3 Y Y Y rfl⟩)
    replace hm := ifN h61 hm
    refine jt (jw (ja (je (ji Y Y ?_))))
    obtain ⟨t88, h62, hm⟩ := bindO hm
    refine Jv h62 Y Y Y (jo Y Y (jv ?_))
    obtain rfl := sj hm
    refine ja ?_
    exact jz _ () Y (trivial) (sE Y) (fun w hh => hh)
   replace hm := ifE h49 hm
   refine jO (jk (jk (jB ?_)))
   obtain rfl := sj hm
   have hbo := h48 _ Y
   subst hbo
   exact jj () (Y) (sE Y) (fun w hh => hh)
  intro j_3 hj
  have h63 := hj
  subst h63
  replace hm := ocL h47
  refine ja (jh (jr (jo Y Y (jq ?_))))
  obtain ⟨o_6, h64, h65⟩ := bindO hm
  refine jF (ι := Unit) (fun j_4 => o_6 = .inl j_4) (fun j_4 => [(1, ptr b 0)]) (fun j_4 => [kc b #[.int .i64 c0.cells, .int .i64 c0.tides, .slice qa0 na0 ca0, .slice qa1 na1 ca1, .slice qa2 na2 ca2] 33]) (fun j_4 => []) ?_ ?_
  ·replace hm := h64
   refine jm ?_
   refine jH (ι := Unit) hm (fun s_4 l_14 => True) (fun s_4 l_14 => [(1, ptr b 0), (7, .int .i64 s_4)]) (fun s_4 l_14 => [kc b #[.int .i64 c0.cells, .int .i64 c0.tides, .slice qa0 na0 ca0, .slice qa1 na1 ca1, .slice qa2 na2 ca2] 33]) (fun s_4 l_14 => []) () (trivial) (sE Y) (fun w hh => hh) (fun s_4 l_14 r_4 hpl hm h66 => ?_)
   unfold zi at hm
   refine jh (jr (ji Y Y (qk 4 runUnderlying33 Y sizeOf31 Y Y (kw 0 isAgg31 Y Y Y Y (jc Y Y Y (fun w _ => jQ hna2 (runUnderlying31 w) Y) (JK Y Y Y (jq ?_)))))))
   refine js Y (fun h67 => ?_) (fun h67 => ?_)
   ·replace hm := ifD h67 hm
    refine jt (ja (jh (jm (jh ?_))))
    refine jX none (.free 0 (.hoist 1 (.free 2 (.free 3 (.free 4 (.hoist 5 (.free 6 (.hoist 7 (.free 8 (.one 9 .done)))))))))) _ Y (by decide +kernel) (fun w k hh => hh.draw k) (fun w hh => hh) ?_
    refine Kl 4 runUnderlying33 sizeOf31 Y Y Y Y (QA 0 isAgg31 Y Y Y Y Y (qQ Y Y Y ?_))
    obtain ⟨t123, h68, hm⟩ := bindO hm
    refine jn Y Y Y Y (fun w _ => qP h68 (runUnderlying31 w) (sizeOf139 w) Y Y hna2 hqa2) (Kl 1 runUnderlying139 sizeOf3 Y Y Y Y (jx Y Y Y Y (fun w hh => j5 RSi 1 h68 (isAgg3 w) Y (hh.seg 2 Y) Y Y) (Kl 0 runUnderlying33 sizeOf3 Y Y Y Y (QA 0 isAgg3 Y Y Y Y Y ?_))))
    obtain ⟨t128, h69, hm⟩ := bindO hm
    refine jn Y Y Y Y (fun _ _ => zC h69 Y Y) (jD Y ?_)
    obtain ⟨t129, h70, hm⟩ := bindO hm
    refine jd [] [] Y Y Y Y Y Y Y call88 (fun w hh => kk t123.cell 0 t128 w (HV.callee (S0 := []) (vs0 := []) hh roN)  h70) (fun l_15 h71 => ?_)
    refine jl (fun w hh => hh) (jJ (ja ?_))
    refine js Y (fun h72 => ?_) (fun h72 => ?_)
    ·replace hm := ifT (h72) hm
     refine jr (jo Y Y (jq (jy (jA (jg (jg (jA ?_)))))))
     obtain rfl := sj hm
     have hbo := h66 _ Y
     subst hbo
     refine jg ?_
     replace hm := ocR h65
     refine jg ?_
     obtain rfl := sj hm
     refine jp Y (fun w hh => (.tmp Y .nil)) (fun w hh => ⟨(), rfl, trivial, hh.se [] [] 3 Y Y Y rfl⟩)
    replace hm := ifN h72 hm
    refine jt (jw (ja (je (ji Y Y ?_))))
    obtain ⟨t119, h73, hm⟩ := bindO hm
    refine Jv h73 Y Y Y (jo Y Y (jv ?_))
    obtain rfl := sj hm
    refine ja ?_
    exact jz _ () Y (trivial) (sE Y) (fun w hh => hh)
   replace hm := ifE h67 hm
   refine jO (jk (jk (jB ?_)))
   obtain rfl := sj hm
   have hbo := h66 _ Y
   subst hbo
   exact jj () (Y) (sE Y) (fun w hh => hh)
  intro j_4 hj
  have h74 := hj
  subst h74
  replace hm := ocL h65
  refine ja (jh (jr (jo Y Y (jq ?_))))
  obtain ⟨o_7, h75, h76⟩ := bindO hm
  refine jF (ι := Unit) (fun j_5 => o_7 = .inl j_5) (fun j_5 => [(1, ptr b 0)]) (fun j_5 => [kc b #[.int .i64 c0.cells, .int .i64 c0.tides, .slice qa0 na0 ca0, .slice qa1 na1 ca1, .slice qa2 na2 ca2] 33]) (fun j_5 => []) ?_ ?_
  ·replace hm := h75
   refine jm ?_
   refine jH (ι := Unit) hm (fun s_5 l_16 => True) (fun s_5 l_16 => [(1, ptr b 0), (8, .int .i64 s_5)]) (fun s_5 l_16 => [kc b #[.int .i64 c0.cells, .int .i64 c0.tides, .slice qa0 na0 ca0, .slice qa1 na1 ca1, .slice qa2 na2 ca2] 33]) (fun s_5 l_16 => []) () (trivial) (sE Y) (fun w hh => hh) (fun s_5 l_16 r_5 hpl hm h77 => ?_)
   unfold kD at hm
   refine jh (jr (ji Y Y (qk 2 runUnderlying33 Y sizeOf22 Y Y (kw 0 isAgg22 Y Y Y Y (jc Y Y Y (fun w _ => jQ hna0 (runUnderlying22 w) Y) (JK Y Y Y (jq ?_)))))))
   refine js Y (fun h78 => ?_) (fun h78 => ?_)
   ·replace hm := ifD h78 hm
    refine jt (ja (jh (jm (jh ?_))))
    refine jX none (.free 0 (.hoist 1 (.free 2 (.free 3 (.hoist 4 (.free 5 (.hoist 6 (.free 7 (.free 8 (.free 9 (.hoist 10 (.free 11 .done)))))))))))) _ Y (by decide +kernel) (fun w k hh => hh.draw k) (fun w hh => hh) ?_
    refine Kl 2 runUnderlying33 sizeOf22 Y Y Y Y (QA 0 isAgg22 Y Y Y Y Y (qQ Y Y Y ?_))
    obtain ⟨t140, h79, hm⟩ := bindO hm
    refine jn Y Y Y Y (fun w _ => qP h79 (runUnderlying22 w) (sizeOf3 w) Y Y hna0 hqa0) (jx Y Y Y Y (fun w hh => j5 RI 0 h79 (isAgg3 w) Y (hh.seg 0 Y) Y (Nat.add_zero _).symm) (Kl 2 runUnderlying33 sizeOf22 Y Y Y Y (QA 0 isAgg22 Y Y Y Y Y (qQ Y Y Y ?_))))
    obtain ⟨t145, h80, hm⟩ := bindO hm
    refine jn Y Y Y Y (fun _ _ => zC h80 Y Y) ?_
    obtain ⟨t146, h81, hm⟩ := bindO hm
    refine jn Y Y Y Y (fun w _ => qP h81 (runUnderlying22 w) (sizeOf3 w) Y Y hna0 hqa0) (jx Y Y Y Y (fun w hh => j5 RI 0 h81 (isAgg3 w) Y (hh.seg 0 Y) Y (Nat.add_zero _).symm) (jn Y Y Y Y (fun _ _ => jav Y Y) (jJ (ja ?_))))
    refine js Y (fun h82 => ?_) (fun h82 => ?_)
    ·replace hm := ifD h82 hm
     refine jr (jo Y Y (jq (jy (jA (jg (jg (jA ?_)))))))
     obtain rfl := sj hm
     have hbo := h77 _ Y
     subst hbo
     refine jg ?_
     replace hm := ocR h76
     refine jg ?_
     obtain rfl := sj hm
     refine jp Y (fun w hh => (.tmp Y .nil)) (fun w hh => ⟨(), rfl, trivial, hh.se [] [] 3 Y Y Y rfl⟩)
    replace hm := ifE h82 hm
    refine jt (jw (ja (je (ji Y Y ?_))))
    obtain ⟨t136, h83, hm⟩ := bindO hm
    refine Jv h83 Y Y Y (jo Y Y (jv ?_))
    obtain rfl := sj hm
    refine ja ?_
    exact jz _ () Y (trivial) (sE Y) (fun w hh => hh)
   replace hm := ifE h78 hm
   refine jO (jk (jk (jB ?_)))
   obtain rfl := sj hm
   have hbo := h77 _ Y
   subst hbo
   exact jj () (Y) (sE Y) (fun w hh => hh)
  intro j_5 hj
  have h84 := hj
  subst h84
  replace hm := ocL h76
  refine ja (jh (jr (jo Y Y (jq ?_))))
  obtain ⟨o_8, h85, h86⟩ := bindO hm
  refine jF (ι := Unit) (fun j_6 => o_8 = .inl j_6) (fun j_6 => []) (fun j_6 => [kc b #[.int .i64 c0.cells, .int .i64 c0.tides, .slice qa0 na0 ca0, .slice qa1 na1 ca1, .slice qa2 na2 ca2] 33]) (fun j_6 => []) ?_ ?_
  ·replace hm := h85
   refine jm ?_
   refine jH (ι := Unit) hm (fun s_6 l_17 => True) (fun s_6 l_17 => [(1, ptr b 0), (9, .int .i64 s_6)]) (fun s_6 l_17 => [kc b #[.int .i64 c0.cells, .int .i64 c0.tides, .slice qa0 na0 ca0, .slice qa1 na1 ca1, .slice qa2 na2 ca2] 33]) (fun s_6 l_17 => []) () (trivial) (sE Y) (fun w hh => hh) (fun s_6 l_17 r_6 hpl hm h87 => ?_)
   unfold ze at hm
   refine jh (jr (ji Y Y (qk 3 runUnderlying33 Y sizeOf30 Y Y (kw 0 isAgg30 Y Y Y Y (jc Y Y Y (fun w _ => jQ hna1 (runUnderlying30 w) Y) (JK Y Y Y (jq ?_)))))))
   refine js Y (fun h88 => ?_) (fun h88 => ?_)
   ·replace hm := ifD h88 hm
    refine jt (ja (jh (jm (jh ?_))))
    refine jX none (.free 0 (.hoist 1 (.free 2 (.free 3 (.free 4 (.free 5 (.hoist 6 (.free 7 (.hoist 8 (.free 9 (.free 10 (.free 11 (.free 12 (.hoist 13 (.free 14 .done))))))))))))))) _ Y (by decide +kernel) (fun w k hh => hh.draw k) (fun w hh => hh) ?_
    refine Kl 3 runUnderlying33 sizeOf30 Y Y Y Y (QA 0 isAgg30 Y Y Y Y Y (qQ Y Y Y ?_))
    obtain ⟨t159, h89, hm⟩ := bindO hm
    refine jn Y Y Y Y (fun w _ => qP h89 (runUnderlying30 w) (sizeOf138 w) Y Y hna1 hqa1) (Kl 0 runUnderlying138 sizeOf50 Y Y Y Y (Kl 0 runUnderlying50 sizeOf3 Y Y Y Y (jx Y Y Y Y (fun w hh => j5 RSa 0 h89 (isAgg3 w) Y (hh.seg 1 Y) Y (by first | rfl | simp only [Nat.add_assoc])) (Kl 3 runUnderlying33 sizeOf30 Y Y Y Y (QA 0 isAgg30 Y Y Y Y Y (qQ Y Y Y ?_))))))
    obtain ⟨t166, h90, hm⟩ := bindO hm
    refine jn Y Y Y Y (fun w _ => qP h90 (runUnderlying30 w) (sizeOf138 w) Y Y hna1 hqa1) (Kl 0 runUnderlying138 sizeOf50 Y Y Y Y (Kl 1 runUnderlying50 sizeOf3 Y Y Y Y (jx Y Y Y Y (fun w hh => j5 RSa 1 h90 (isAgg3 w) Y (hh.seg 1 Y) Y (by first | rfl | simp only [Nat.add_assoc])) (jn Y Y Y Y (fun _ _ => YM Y Y) (jJ (ja ?_))))))
    refine js Y (fun h91 => ?_) (fun h91 => ?_)
    ·replace hm := ifD h91 hm
     refine jr (jo Y Y (jq (jy (jA (jg (jg (jA ?_)))))))
     obtain rfl := sj hm
     have hbo := h87 _ Y
     subst hbo
     refine jg ?_
     replace hm := ocR h86
     refine jg ?_
     obtain rfl := sj hm
     refine jp Y (fun w hh => (.tmp Y .nil)) (fun w hh => ⟨(), rfl, trivial, hh.se [] [] 3 Y Y Y rfl⟩)
    replace hm := ifE h91 hm
    refine jt (jw (ja (je (ji Y Y ?_))))
    obtain ⟨t155, h92, hm⟩ := bindO hm
    refine Jv h92 Y Y Y (jo Y Y (jv ?_))
    obtain rfl := sj hm
    refine ja ?_
    exact jz _ () Y (trivial) (sE Y) (fun w hh => hh)
   replace hm := ifE h88 hm
   refine jO (jk (jk (jB ?_)))
   obtain rfl := sj hm
   have hbo := h87 _ Y
   subst hbo
   exact jj () (Y) (.nil) (fun w hh => hh)
  intro j_6 hj
  have h93 := hj
  subst h93
  replace hm := ocL h86
  refine ja (jr (jo Y Y (jq (jy ?_))))
  obtain rfl := sj hm
  refine jp Y (fun w hh => (.tmp Y .nil)) (fun w hh => ⟨(), rfl, trivial, hh.se [] [] 3 Y Y Y rfl⟩)
structure kT where
  n3 : Int
  i4 : Int
def kW (c0 : Channel) (s : kT) : Option (kT ⊕ Int) :=
 if s.i4 < (c0.sights.length : Int) then
 ((mulc 2 s.n3).bind fun t13 =>
 (addc s.i4 1).bind fun t11 =>
 some (.inl (⟨t13, t11⟩ : kT))) else
 (some (.inr s.n3))
def jS (c0 : Channel) : Option Int :=
 (iterM FU (kW c0) (⟨1, 0⟩ : kT)).bind fun o =>
 (subc o 1).bind fun t15 =>
 some t15
theorem yE (c0 : Channel) (qa0 : Option Addr) (na0 ca0 : Nat) (qa1 : Option Addr) (na1 ca1 : Nat) (qa2 : Option Addr) (na2 ca2 : Nat) (w : World) (hw : HV w (keys [] []) [] [] [(aB qa0, aO qa0, RI.enc c0.fords), (aB qa1, aO qa1, RSa.enc c0.sands), (aB qa2, aO qa2, RSi.enc c0.sights)] w) (hna0 : c0.fords.length = na0) (hqa0 : AOK na0 qa0) (hla0 : na0 ≤ ca0) (hna1 : c0.sands.length = na1) (hqa1 : AOK na1 qa1) (hla1 : na1 ≤ ca1) (hna2 : c0.sights.length = na2) (hqa2 : AOK na2 qa2) (hla2 : na2 ≤ ca2) {res : Int} (hm : jS c0 = some res) :
    Calls Tryz.prog 24 #[.agg #[.int .i64 c0.cells, .int .i64 c0.tides, .slice qa0 na0 ca0, .slice qa1 na1 ca1, .slice qa2 na2 ca2]] w (fun en w' => ∃ l : Unit, en = .returned (.int .i64 res) ∧ (True) ∧ HV w (keys [] []) [] [] [] w') := by
  unfold jS at hm
  refine yd func24 Y ntmps24 Y (e := [(0, _)]) Y hw (jr ?_)
  refine jL Y Y (fun b h1 => ?_)
  refine jo Y Y (qb (jo Y Y (jq (jh (jr (jo Y Y (jq ?_)))))))
  obtain ⟨o, h2, h3⟩ := bindO hm
  refine jF (ι := Unit) (fun l => True) (fun l => [(3, .int .i64 o)]) (fun l => [kc b #[.int .i64 c0.cells, .int .i64 c0.tides, .slice qa0 na0 ca0, .slice qa1 na1 ca1, .slice qa2 na2 ca2] 33]) (fun l => []) ?_ ?_
  ·replace hm := h2
   refine jm ?_
   refine jH (ι := Unit) hm (fun s l_1 => True) (fun s l_1 => [(1, ptr b 0), (3, .int .i64 s.n3), (4, .int .i64 s.i4)]) (fun s l_1 => [kc b #[.int .i64 c0.cells, .int .i64 c0.tides, .slice qa0 na0 ca0, .slice qa1 na1 ca1, .slice qa2 na2 ca2] 33]) (fun s l_1 => []) () (trivial) (sE Y) (fun w hh => hh) (fun s l_1 r hpl hm h4 => ?_)
   unfold kW at hm
   refine jh (jr (ji Y Y (qk 4 runUnderlying33 Y sizeOf31 Y Y (kw 0 isAgg31 Y Y Y Y (jc Y Y Y (fun w _ => jQ hna2 (runUnderlying31 w) Y) (JK Y Y Y (jq ?_)))))))
   refine js Y (fun h5 => ?_) (fun h5 => ?_)
   ·replace hm := ifD h5 hm
    refine jt (ja (jh (jm (je (ji Y Y ?_)))))
    obtain ⟨t13, h6, hm⟩ := bindO hm
    refine jc Y Y Y (fun _ _ => jb7 h6 Y Y) (jo Y Y (jv (jw (ja (je (ji Y Y ?_))))))
    obtain ⟨t11, h7, hm⟩ := bindO hm
    refine Jv h7 Y Y Y (jo Y Y (jv ?_))
    obtain rfl := sj hm
    refine ja ?_
    exact jz _ () Y (trivial) (sE Y) (fun w hh => hh)
   replace hm := ifE h5 hm
   refine jO (jk (jk (jB ?_)))
   obtain rfl := sj hm
   have hbo := h4 _ Y
   subst hbo
   exact jj () (trivial) (sE Y) (fun w hh => hh)
  intro l hj
  replace hm := h3
  refine ja (jr (ji Y Y ?_))
  obtain ⟨t15, h8, hm⟩ := bindO hm
  refine jc Y Y Y (fun _ _ => zC h8 Y Y) (jo Y Y (jq (jy ?_)))
  obtain rfl := sj hm
  refine jp Y (fun w hh => (.tmp Y .nil)) (fun w hh => ⟨(), rfl, trivial, hh.se [] [] 3 Y Y Y rfl⟩)
structure yj where
  n8 : Int
  out7 : (List (List Int))
structure zf where
  i10 : Int
  out7 : (List (List Int))
def qr (t25 : (List (List Int))) (s : yj) (s_1 : zf) : Option (zf ⊕ (List (List Int))) :=
 if s_1.i10 < (t25.length : Int) then
 ((ix t25 s_1.i10).bind fun t37 =>
 (appc 8 [s.n8] t37).bind fun t39 =>
 (appc 24 s_1.out7 [t39]).bind fun t41 =>
 (addc s_1.i10 1).bind fun t31 =>
 some (.inl (⟨t31, t41⟩ : zf))) else
 (some (.inr s_1.out7))
def qp (below2 : Int) (many0 : Int) (rec_ : Int → Int → Int → Option (List (List Int))) (s : yj) : Option (yj ⊕ (List (List Int))) :=
 if s.n8 < below2 then
 ((subc many0 1).bind fun t21 =>
 (addc s.n8 1).bind fun t23 =>
 (rec_ t21 t23 below2).bind fun t25 =>
 (iterM FU (qr t25 s) (⟨0, s.out7⟩ : zf)).bind fun o_1 =>
 (addc s.n8 1).bind fun t19 =>
 some (.inl (⟨t19, o_1⟩ : yj))) else
 (some (.inr s.out7))
def zD (rec_ : Int → Int → Int → Option (List (List Int))) (many0 : Int) (from1 : Int) (below2 : Int) : Option (List (List Int)) :=
 if many0 = 0 then
 (some ([[]])) else
 ((iterM FU (qp below2 many0 rec_) (⟨from1, ([] : List (List Int))⟩ : yj)).bind fun o =>
 some o)
def kv : Nat → Int → Int → Int → Option (List (List Int))
  | 0, _, _, _ => none
  | fu + 1, many0, from1, below2 => zD (kv fu) many0 from1 below2
theorem Y5 (fu_ : Nat) : ∀ (many0 : Int) (from1 : Int) (below2 : Int)  (w : World) (hw : HV w (keys [] []) [] [] [] w)  {res : (List (List Int))} (hm : kv fu_ many0 from1 below2 = some res),
    Calls Tryz.prog 158 #[.int .i64 many0, .int .i64 from1, .int .i64 below2] w (fun en w' => ∃ l : DL, en = .returned (sL l.v) ∧ (VOK 1 l.v.n l.v.cap (RwH.enc l.rs) l.v.sp l.v.q ∧ DOK RI res l.rs) ∧ HV w (keys [] []) [] [⟨22, RwH.enc l.rs, l.v.sp, l.v.q, dbl 3 RI res l.rs⟩] [] w') := by
  induction fu_ with
  | zero =>
    intros
    rename_i hm
    exact absurd hm (by simp [kv])
  | succ fu_ ih =>
  intro many0 from1 below2 w hw res hm
  replace hm : zD (kv fu_) many0 from1 below2 = some res := hm
  unfold zD at hm
  refine yd func158 Y ntmps158 Y (e := [(0, _), (1, _), (2, _)]) Y hw (jr (jc Y Y Y (fun _ _ => qW Y) (jq (jh (jr (ji Y Y (jc Y Y Y (fun _ _ => zN Y Y) ?_)))))))
  refine jq ?_
  refine js Y (fun h3 => ?_) (fun h3 => ?_)
  ·replace hm := ifD h3 hm
   refine jr ?_
   refine qg RwH [vl0] (ps := [(0, _)]) (cells := [_]) (fun w => runUnderlying41 w) (fun w => sizeOf22 w) (fun w => zeroValue22 w) Y Y Y Y Y Y Y Y (fun L h4 => ?_)
   refine ZD (E2 := 3) RI 1 (Y : _ = ([[]] : List (List Int))) (fun h5 => ?_)
   have h6 : DOK RI ([[]]) [vl0] := h5
   refine jaK (S' := []) (vs' := [⟨22, RwH.enc [vl0], L.sp, L.q, dbl 3 RI ([[]]) [vl0]⟩]) [] [0] 0 (by decide) (by decide) Y Y Y (jo Y Y (jq (jy (jg ?_))))
   obtain rfl := sj hm
   refine jp Y (fun w hh => (.tmp Y .nil)) (fun w hh => ⟨⟨⟨L.q, L.n, L.cap, L.sp⟩, [vl0]⟩, rfl, ⟨h4, h6⟩, hh⟩)
  replace hm := ifE h3 hm
  refine jt (ja (jr (jc Y Y Y (fun _ _ => qW Y) (jq (jh (jr (ji Y Y ?_)))))))
  refine jo Y Y (jq (Jz 22 ?_))
  obtain ⟨o, h7, h8⟩ := bindO hm
  refine jF (ι := DL) (fun l => VOK 1 l.v.n l.v.cap (RwH.enc l.rs) l.v.sp l.v.q ∧ DOK RI o l.rs) (fun l => [(7, sL l.v)]) (fun l => []) (fun l => [⟨22, RwH.enc l.rs, l.v.sp, l.v.q, dbl 3 RI o l.rs⟩]) ?_ ?_
  ·replace hm := h7
   refine jm ?_
   refine jH (ι := DL) hm (fun s l_1 => VOK 1 l_1.v.n l_1.v.cap (RwH.enc l_1.rs) l_1.v.sp l_1.v.q ∧ DOK RI s.out7 l_1.rs) (fun s l_1 => [(0, .int .i64 many0), (2, .int .i64 below2), (7, sL l_1.v), (8, .int .i64 s.n8)]) (fun s l_1 => []) (fun s l_1 => [⟨22, RwH.enc l_1.rs, l_1.v.sp, l_1.v.q, dbl 3 RI s.out7 l_1.rs⟩]) (⟨⟨none, 0, 0, []⟩, []⟩) (⟨VOK.nil, DOK.nil⟩) (sE Y) (fun w hh => hh) (fun s l_1 r hpl hm h13 => ?_)
   obtain ⟨h11, h12⟩ := hpl
   unfold qp at hm
   refine jh (jr (ji Y Y (ji Y Y (JK Y Y Y (jq ?_)))))
   refine js Y (fun h14 => ?_) (fun h14 => ?_)
   ·replace hm := ifD h14 hm
    refine jt (ja (jh (jm (jr (ji Y Y ?_)))))
    obtain ⟨t21, h15, hm⟩ := bindO hm
    refine jc Y Y Y (fun _ _ => zC h15 Y Y) (ji Y Y ?_)
    obtain ⟨t23, h16, hm⟩ := bindO hm
    refine Jv h16 Y Y Y (ji Y Y ?_)
    obtain ⟨t25, h17, hm⟩ := bindO hm
    refine jd [] [] Y Y Y Y Y Y Y call158 (fun w hh => ih t21 t23 below2 w (HV.callee (S0 := []) (vs0 := []) hh roN)  h17) (fun l_2 h18 => ?_)
    obtain ⟨h19, h20⟩ := h18
    refine kO (S' := []) (vs' := [_, _]) [] [0, 1] 0 Y Y Y Y (jo Y Y (qb (jo Y Y (jq ?_))))
    obtain ⟨o_1, h21, h22⟩ := bindO hm
    refine jF (ι := DL) (fun l_3 => VOK 1 l_3.v.n l_3.v.cap (RwH.enc l_3.rs) l_3.v.sp l_3.v.q ∧ DOK RI o_1 l_3.rs) (fun l_3 => [(0, .int .i64 many0), (2, .int .i64 below2), (7, sL l_3.v), (8, .int .i64 s.n8)]) (fun l_3 => []) (fun l_3 => [⟨22, RwH.enc l_3.rs, l_3.v.sp, l_3.v.q, dbl 3 RI o_1 l_3.rs⟩]) ?_ ?_
    ·replace hm := h21
     refine jm ?_
     refine jH (ι := DL) hm (fun s_1 l_4 => VOK 1 l_4.v.n l_4.v.cap (RwH.enc l_4.rs) l_4.v.sp l_4.v.q ∧ DOK RI s_1.out7 l_4.rs) (fun s_1 l_4 => [(0, .int .i64 many0), (2, .int .i64 below2), (7, sL l_4.v), (8, .int .i64 s.n8), (9, sL l_2.v), (10, .int .i64 s_1.i10)]) (fun s_1 l_4 => []) (fun s_1 l_4 => [⟨22, RwH.enc l_4.rs, l_4.v.sp, l_4.v.q, dbl 3 RI s_1.out7 l_4.rs⟩, ⟨22, RwH.enc l_2.rs, l_2.v.sp, l_2.v.q, dbl 3 RI t25 l_2.rs⟩]) l_1 (⟨h11, h12⟩) (sE Y) (hsE [] [1, 0] 0 Y Y Y Y) (fun s_1 l_4 r_1 hpl hm h27 => ?_)
     obtain ⟨h25, h26⟩ := hpl
     unfold qr at hm
     refine jh (jr (ji Y Y (ji Y Y (jc Y Y Y (fun w _ => Jj (Eq.trans (h20).len (vlen RwH h19 Y)) (runUnderlying41 w) Y) (JK Y Y Y (jq ?_))))))
     refine js Y (fun h28 => ?_) (fun h28 => ?_)
     ·replace hm := ifD h28 hm
      refine jt (ja (jh (jm (je (ji Y Y (ji Y Y ?_))))))
      refine qg RI [s.n8] (ps := [(0, _)]) (cells := [_]) (fun w => runUnderlying22 w) (fun w => sizeOf3 w) (fun w => zeroValue3 w) Y Y Y Y Y Y Y Y (fun L_1 h29 => ?_)
      refine ji Y Y (ji Y Y ?_)
      obtain ⟨t37, h30, hm⟩ := bindO hm
      obtain ⟨L_2, h31, h32⟩ := (h20).row h30
      refine jc Y Y Y (fun w _ => qR h31 (runUnderlying41 w) (sizeOf22 w) Y Y (vlen RwH h19 Y) (vne h19)) (jc Y Y Y (fun w hh => j5 RwH 0 h31 (isAgg22 w) Y (hh.vseg 2 Y h19) Y (Nat.add_zero _).symm) ?_)
      obtain ⟨t39, h33, hm⟩ := bindO hm
      refine Jh RI 0 h33 underlying22 Q1 Y Y Y Y Y h29 Y Y (vlen RI h32 Y) (AOK.q (vne h32)) (fun w hh => (hh.dsegA 2 Y h30 h31 h32)) Y (fun L_3 h34 h34n => ?_)
      refine kO (S' := []) (vs' := [_, _, _]) [] [0, 1, 2] 0 Y Y Y Y ?_
      refine qg RwH [(⟨L_3.q, L_3.n, L_3.cap, L_3.sp⟩ : VL)] (ps := [(0, _)]) (cells := [_]) (fun w => runUnderlying41 w) (fun w => sizeOf22 w) (fun w => zeroValue22 w) Y Y Y Y Y Y Y Y (fun L_4 h35 => ?_)
      refine ZD (E2 := 3) RI 1 (Y : _ = ([[]] : List (List Int))) (fun h36 => ?_)
      refine kO (S' := []) (vs' := [_, _, _, _]) [] [0, 1, 2, 3] 0 Y Y Y Y ?_
      refine ZX RI (l' := [t39]) 0 L_3.n L_3.cap h36 h34 Y Y (fun h37 => ?_)
      have h38 : DOK RI [t39] [(⟨L_3.q, L_3.n, L_3.cap, L_3.sp⟩ : VL)] := h37
      refine jaK (S' := []) (vs' := [⟨22, RwH.enc [(⟨L_3.q, L_3.n, L_3.cap, L_3.sp⟩ : VL)], L_4.sp, L_4.q, dbl 3 RI [t39] [(⟨L_3.q, L_3.n, L_3.cap, L_3.sp⟩ : VL)]⟩, ⟨22, RwH.enc l_4.rs, l_4.v.sp, l_4.v.q, dbl 3 RI s_1.out7 l_4.rs⟩, ⟨22, RwH.enc l_2.rs, l_2.v.sp, l_2.v.q, dbl 3 RI t25 l_2.rs⟩]) [] [0, 1, 2] 0 (by decide) (by decide) Y Y Y ?_
      obtain ⟨t41, h39, hm⟩ := bindO hm
      refine Jh RwH 1 (appcL h39 (h26).len (h38).len) underlying41 jaR Y Y Y Y Y h25 Y Y (vlen RwH h35 Y) (AOK.q (vne h35)) (fun w hh => (hh.vsegA 0 Y h35)) Y (fun L_5 h40 _ => ?_)
      refine kO (S' := []) (vs' := [_, _, _]) [] [0, 1, 2] 0 Y Y Y Y (kO (S' := []) (vs' := [_, _, _]) [] [1, 0, 2] 0 Y Y Y Y ?_)
      refine jao RI h26 h38 (appcO h39).1.symm (fun h41 => ?_)
      refine jo Y Y (jv (jw (ja (je (ji Y Y ?_)))))
      obtain ⟨t31, h42, hm⟩ := bindO hm
      refine Jv h42 Y Y Y (jo Y Y (jv ?_))
      obtain rfl := sj hm
      refine ja ?_
      exact jz _ (⟨⟨L_5.q, L_5.n, L_5.cap, L_5.sp⟩, (l_4.rs ++ [(⟨L_3.q, L_3.n, L_3.cap, L_3.sp⟩ : VL)])⟩) Y (⟨h40, h41⟩) (sE Y) (fun w hh => hh)
     replace hm := ifE h28 hm
     refine jO (jk (jk (jB ?_)))
     obtain rfl := sj hm
     have hbo := h27 _ Y
     subst hbo
     exact jj l_4 (⟨h25, h26⟩) (sE Y) (hsE [] [0] 0 Y Y Y Y)
    intro l_3 hj
    obtain ⟨h23, h24⟩ := hj
    replace hm := h22
    refine jw (ja (je (ji Y Y ?_)))
    obtain ⟨t19, h43, hm⟩ := bindO hm
    refine Jv h43 Y Y Y (jo Y Y (jv ?_))
    obtain rfl := sj hm
    refine ja ?_
    exact jz _ l_3 Y (⟨h23, h24⟩) (sE Y) (fun w hh => hh)
   replace hm := ifE h14 hm
   refine jO (jk (jk (jB ?_)))
   obtain rfl := sj hm
   have hbo := h13 _ Y
   subst hbo
   exact jj l_1 (⟨h11, h12⟩) (sE Y) (fun w hh => hh)
  intro l hj
  obtain ⟨h9, h10⟩ := hj
  replace hm := h8
  refine ja (jr (ji Y Y (jo Y Y (jq (jy ?_)))))
  obtain rfl := sj hm
  refine jp Y (fun w hh => (.tmp Y .nil)) (fun w hh => ⟨l, rfl, ⟨h9, h10⟩, hh⟩)
def kr (c0 : Channel) : Option (List (List Int)) :=
 (kv FU (c0.fords.length : Int) 0 c0.cells).bind fun t8 =>
 some t8
theorem y8 (c0 : Channel) (qa0 : Option Addr) (na0 ca0 : Nat) (qa1 : Option Addr) (na1 ca1 : Nat) (qa2 : Option Addr) (na2 ca2 : Nat) (w : World) (hw : HV w (keys [] []) [] [] [(aB qa0, aO qa0, RI.enc c0.fords), (aB qa1, aO qa1, RSa.enc c0.sands), (aB qa2, aO qa2, RSi.enc c0.sights)] w) (hna0 : c0.fords.length = na0) (hqa0 : AOK na0 qa0) (hla0 : na0 ≤ ca0) (hna1 : c0.sands.length = na1) (hqa1 : AOK na1 qa1) (hla1 : na1 ≤ ca1) (hna2 : c0.sights.length = na2) (hqa2 : AOK na2 qa2) (hla2 : na2 ≤ ca2) {res : (List (List Int))} (hm : kr c0 = some res) :
    Calls Tryz.prog 90 #[.agg #[.int .i64 c0.cells, .int .i64 c0.tides, .slice qa0 na0 ca0, .slice qa1 na1 ca1, .slice qa2 na2 ca2]] w (fun en w' => ∃ l : DL, en = .returned (sL l.v) ∧ (VOK 1 l.v.n l.v.cap (RwH.enc l.rs) l.v.sp l.v.q ∧ DOK RI res l.rs) ∧ HV w (keys [] []) [] [⟨22, RwH.enc l.rs, l.v.sp, l.v.q, dbl 3 RI res l.rs⟩] [] w') := by
  unfold kr at hm
  refine yd func90 Y ntmps90 Y (e := [(0, _)]) Y hw (jr ?_)
  refine jL Y Y (fun b h3 => ?_)
  refine jc Y Y Y (fun _ _ => qW Y) (qb (qk 2 runUnderlying33 Y sizeOf22 Y Y (kw 0 isAgg22 Y Y Y Y (jc Y Y Y (fun w _ => jQ hna0 (runUnderlying22 w) Y) (qk 0 runUnderlying33 Y sizeOf3 Y Y (kw 0 isAgg3 Y Y Y Y ?_))))))
  obtain ⟨t8, h4, hm⟩ := bindO hm
  refine jd [] [] Y Y Y Y Y Y Y call158 (fun w hh => Y5 FU (c0.fords.length : Int) 0 c0.cells w (HV.callee (S0 := []) (vs0 := []) hh roN)  h4) (fun l h5 => ?_)
  obtain ⟨h6, h7⟩ := h5
  refine kO (S' := [_]) (vs' := [_]) [0] [0] 0 Y Y Y Y (jo Y Y (jq (jy ?_)))
  obtain rfl := sj hm
  refine jp Y (fun w hh => (.tmp Y .nil)) (fun w hh => ⟨l, rfl, ⟨h6, h7⟩, hh.se [] [0] 3 Y Y Y rfl⟩)
def yG (l0 : (List Int)) (n1 : Int) (s : Int) : Option (Int ⊕ (Unit ⊕ Bool)) :=
 if s < (l0.length : Int) then
 ((ix l0 s).bind fun t14 =>
 if t14 = n1 then
 (some (.inr (.inr true))) else
 ((addc s 1).bind fun t11 =>
 some (.inl t11))) else
 (some (.inr (.inl ())))
def ym (l0 : (List Int)) (n1 : Int) : Option Bool :=
 (iterM FU (yG l0 n1) 0).bind fun o =>
 oc o (fun j => some false) (fun r_1 => some r_1)
theorem K1 (l0 : (List Int)) (n1 : Int) (qa0 : Option Addr) (na0 ca0 : Nat) (w : World) (hw : HV w (keys [] []) [] [] [(aB qa0, aO qa0, RI.enc l0)] w) (hna0 : l0.length = na0) (hqa0 : AOK na0 qa0) (hla0 : na0 ≤ ca0) {res : Bool} (hm : ym l0 n1 = some res) :
    Calls Tryz.prog 105 #[.slice qa0 na0 ca0, .int .i64 n1] w (fun en w' => ∃ l : Unit, en = .returned (.bool res) ∧ (True) ∧ HV w (keys [] []) [] [] [] w') := by
  unfold ym at hm
  refine yd func105 Y ntmps105 Y (e := [(0, _), (1, _)]) Y hw (jr (jo Y Y (jq (jh (jr (jo Y Y (jq ?_)))))))
  obtain ⟨o, h1, h2⟩ := bindO hm
  refine jF (ι := Unit) (fun j => o = .inl j) (fun j => []) (fun j => []) (fun j => []) ?_ ?_
  ·replace hm := h1
   refine jm ?_
   refine jH (ι := Unit) hm (fun s l => True) (fun s l => [(0, .slice qa0 na0 ca0), (1, .int .i64 n1), (5, .int .i64 s)]) (fun s l => []) (fun s l => []) () (trivial) (sE Y) (fun w hh => hh) (fun s l r hpl hm h3 => ?_)
   unfold yG at hm
   refine jh (jr (ji Y Y (ji Y Y (jc Y Y Y (fun w _ => jQ hna0 (runUnderlying22 w) Y) (JK Y Y Y (jq ?_))))))
   refine js Y (fun h4 => ?_) (fun h4 => ?_)
   ·replace hm := ifD h4 hm
    refine jt (ja (jh (jm (jr (ji Y Y (ji Y Y ?_))))))
    obtain ⟨t14, h5, hm⟩ := bindO hm
    refine jc Y Y Y (fun w _ => qP h5 (runUnderlying22 w) (sizeOf3 w) Y Y hna0 hqa0) (jc Y Y Y (fun w hh => j5 RI 0 h5 (isAgg3 w) Y (hh.seg 0 Y) Y (Nat.add_zero _).symm) (ji Y Y (jc Y Y Y (fun _ _ => zN Y Y) (jq ?_))))
    refine js Y (fun h6 => ?_) (fun h6 => ?_)
    ·replace hm := ifD h6 hm
     refine jr (jo Y Y (jq (jy (jA (jg (jg (jA ?_)))))))
     obtain rfl := sj hm
     have hbo := h3 _ Y
     subst hbo
     refine jg ?_
     replace hm := ocR h2
     refine jg ?_
     obtain rfl := sj hm
     refine jp Y (fun w hh => (.tmp Y .nil)) (fun w hh => ⟨(), rfl, trivial, hh.se [] [] 1 Y Y Y rfl⟩)
    replace hm := ifE h6 hm
    refine jt (jw (ja (je (ji Y Y ?_))))
    obtain ⟨t11, h7, hm⟩ := bindO hm
    refine Jv h7 Y Y Y (jo Y Y (jv ?_))
    obtain rfl := sj hm
    refine ja ?_
    exact jz _ () Y (trivial) (sE Y) (fun w hh => hh)
   replace hm := ifE h4 hm
   refine jO (jk (jk (jB ?_)))
   obtain rfl := sj hm
   have hbo := h3 _ Y
   subst hbo
   exact jj () (Y) (.nil) (fun w hh => hh)
  intro j hj
  have h8 := hj
  subst h8
  replace hm := ocL h2
  refine ja (jr (jo Y Y (jq (jy ?_))))
  obtain rfl := sj hm
  refine jp Y (fun w hh => (.tmp Y .nil)) (fun w hh => ⟨(), rfl, trivial, hh.se [] [] 1 Y Y Y rfl⟩)
structure q3 where
  set3 : Int
  i9 : Int
def qV (c0 : Channel) (after1 : Int) (l2 : (List Int)) (s : q3) : Option (q3 ⊕ (Unit ⊕ Bool)) :=
 if s.i9 < (c0.sights.length : Int) then
 ((ix c0.sights s.i9).bind fun t21 =>
 ((remc s.set3 2).bind fun t24 =>
 if t24 = 1 then
 (if t21.after = after1 then
 ((ym l2 t21.cell).bind fun t36 =>
 some (!(t36 == t21.upright))) else
 (some false)) else
 (some false)).bind fun o_1 =>
 if o_1 = true then
 (some (.inr (.inr false))) else
 ((quoc s.set3 2).bind fun t42 =>
 (addc s.i9 1).bind fun t17 =>
 some (.inl (⟨t42, t17⟩ : q3)))) else
 (some (.inr (.inl ())))
def yL (c0 : Channel) (after1 : Int) (l2 : (List Int)) (set3 : Int) : Option Bool :=
 (iterM FU (qV c0 after1 l2) (⟨set3, 0⟩ : q3)).bind fun o =>
 oc o (fun j => some true) (fun r_1 => some r_1)
theorem YK (c0 : Channel) (after1 : Int) (l2 : (List Int)) (set3 : Int) (qa0 : Option Addr) (na0 ca0 : Nat) (qa1 : Option Addr) (na1 ca1 : Nat) (qa2 : Option Addr) (na2 ca2 : Nat) (qa3 : Option Addr) (na3 ca3 : Nat) (w : World) (hw : HV w (keys [] []) [] [] [(aB qa0, aO qa0, RI.enc c0.fords), (aB qa1, aO qa1, RSa.enc c0.sands), (aB qa2, aO qa2, RSi.enc c0.sights), (aB qa3, aO qa3, RI.enc l2)] w) (hna0 : c0.fords.length = na0) (hqa0 : AOK na0 qa0) (hla0 : na0 ≤ ca0) (hna1 : c0.sands.length = na1) (hqa1 : AOK na1 qa1) (hla1 : na1 ≤ ca1) (hna2 : c0.sights.length = na2) (hqa2 : AOK na2 qa2) (hla2 : na2 ≤ ca2) (hna3 : l2.length = na3) (hqa3 : AOK na3 qa3) (hla3 : na3 ≤ ca3) {res : Bool} (hm : yL c0 after1 l2 set3 = some res) :
    Calls Tryz.prog 102 #[.agg #[.int .i64 c0.cells, .int .i64 c0.tides, .slice qa0 na0 ca0, .slice qa1 na1 ca1, .slice qa2 na2 ca2], .int .i64 after1, .slice qa3 na3 ca3, .int .i64 set3] w (fun en w' => ∃ l : Unit, en = .returned (.bool res) ∧ (True) ∧ HV w (keys [] []) [] [] [] w') := by
  unfold yL at hm
  refine yd func102 Y ntmps102 Y (e := [(0, _), (1, _), (2, _), (3, _)]) Y hw (jr ?_)
  refine jL Y Y (fun b h1 => ?_)
  refine jo Y Y (jq (jh (jr (jo Y Y (jq ?_)))))
  obtain ⟨o, h2, h3⟩ := bindO hm
  refine jF (ι := Unit) (fun j => o = .inl j) (fun j => []) (fun j => [kc b #[.int .i64 c0.cells, .int .i64 c0.tides, .slice qa0 na0 ca0, .slice qa1 na1 ca1, .slice qa2 na2 ca2] 33]) (fun j => []) ?_ ?_
  ·replace hm := h2
   refine jm ?_
   refine jH (ι := Unit) hm (fun s l => True) (fun s l => [(1, .int .i64 after1), (2, .slice qa3 na3 ca3), (3, .int .i64 s.set3), (4, ptr b 0), (9, .int .i64 s.i9)]) (fun s l => [kc b #[.int .i64 c0.cells, .int .i64 c0.tides, .slice qa0 na0 ca0, .slice qa1 na1 ca1, .slice qa2 na2 ca2] 33]) (fun s l => []) () (trivial) (sE Y) (fun w hh => hh) (fun s l r hpl hm h4 => ?_)
   unfold qV at hm
   refine jh (jr (ji Y Y (qk 4 runUnderlying33 Y sizeOf31 Y Y (kw 0 isAgg31 Y Y Y Y (jc Y Y Y (fun w _ => jQ hna2 (runUnderlying31 w) Y) (JK Y Y Y (jq ?_)))))))
   refine js Y (fun h5 => ?_) (fun h5 => ?_)
   ·replace hm := ifD h5 hm
    refine jt (ja (jh (jm (jr (qk 4 runUnderlying33 Y sizeOf31 Y Y (kw 0 isAgg31 Y Y Y Y (ji Y Y ?_)))))))
    obtain ⟨t21, h6, hm⟩ := bindO hm
    refine jc Y Y Y (fun w _ => qP h6 (runUnderlying31 w) (sizeOf139 w) Y Y hna2 hqa2) ?_
    refine jc Y Y Y (fun w hh => z7 RSi 0 [.int .i64 t21.after, .int .i64 t21.cell, .bool t21.upright] h6 (isAgg139 w) (sizeOf139 w) Y (hh.seg 2 Y) Y (Nat.add_zero _).symm) ?_
    refine ju (fun w => zeroValue139 w) Y (fun b_1 h7 => ?_)
    refine jT (us := #[_, _, _]) (cs' := [_, _, _]) (S' := [_, _]) 0 (fun w => sizeOf139 w) Y Y Y Y Y Y Y (jq (jh (jh ?_)))
    obtain ⟨o_1, h8, h9⟩ := bindO hm
    refine jF (ι := Unit) (fun l_1 => True) (fun l_1 => [(1, .int .i64 after1), (2, .slice qa3 na3 ca3), (3, .int .i64 s.set3), (4, ptr b 0), (9, .int .i64 s.i9), (40, .bool o_1)]) (fun l_1 => [kc b_1 #[.int .i64 t21.after, .int .i64 t21.cell, .bool t21.upright] 139, kc b #[.int .i64 c0.cells, .int .i64 c0.tides, .slice qa0 na0 ca0, .slice qa1 na1 ca1, .slice qa2 na2 ca2] 33]) (fun l_1 => []) ?_ ?_
    ·replace hm := h8
     refine jX none (.free 0 (.free 1 (.free 2 (.free 3 (.free 4 (.hoist 5 (.free 6 (.free 7 (.free 8 (.free 9 (.free 10 (.free 11 (.hoist 12 (.free 14 (.hoist 15 (.one 13 (.free 16 (.free 17 .done)))))))))))))))))) _ Y (by decide +kernel) (fun w k hh => hh.draw k) (fun w hh => hh) ?_
     refine qQ Y Y Y ?_
     obtain ⟨t24, h10, hm⟩ := bindO hm
     refine jn Y Y Y Y (fun _ _ => jb4 h10 Y Y) (jn Y Y Y Y (fun _ _ => zN Y Y) (qQ Y Y Y ?_))
     refine jP 26 Y (fun h11 => ?_) (fun h11 => ?_)
     ·replace hm := ifD h11 hm
      refine jK Y Y Y Y Y Y (fun w _ => jM 0 (runUnderlying139 w) Y (sizeOf3 w) Y) (qz Y Y Y Y Y Y (fun w hh => jI (isAgg3 w) Y (hh.cell 0 Y Y)) (jK Y Y Y Y Y Y (fun _ _ => jW Y) (jK Y Y Y Y Y Y (fun _ _ => zN Y Y) (jn Y Y Y Y (fun _ _ => Ky Y Y) (qQ Y Y Y ?_)))))
      refine jP 32 Y (fun h12 => ?_) (fun h12 => ?_)
      ·replace hm := ifD h12 hm
       refine jK Y Y Y Y Y Y (fun _ _ => jW Y) (jK Y Y Y Y Y Y (fun w _ => jM 1 (runUnderlying139 w) Y (sizeOf3 w) Y) (qz Y Y Y Y Y Y (fun w hh => jI (isAgg3 w) Y (hh.cell 0 Y Y)) (jK Y Y Y Y Y Y (fun w _ => jM 2 (runUnderlying139 w) Y (sizeOf4 w) Y) (qz Y Y Y Y Y Y (fun w hh => jI (isAgg4 w) Y (hh.cell 0 Y Y)) (jD Y (jb Y Y ?_))))))
       obtain ⟨t36, h13, hm⟩ := bindO hm
       refine jd [] [] Y Y Y Y Y Y Y call105 (fun w hh => K1 l2 t21.cell qa3 na3 ca3 w (HV.callee (S0 := []) (vs0 := []) hh (roR hh 3 Y roN)) hna3 hqa3 hla3 h13) (fun l_2 h14 => ?_)
       refine jl (fun w hh => hh) (jK Y Y Y Y Y Y (fun w _ => ZV (runUnderlying4 w) Y Y) (jn Y Y Y Y (fun _ _ => Ky Y Y) (jJ ?_)))
       obtain rfl := sj hm
       exact jj () (trivial) (sE Y) (fun w hh => hh)
      replace hm := ifE h12 hm
      refine jC Y Y Y Y Y Y Y (jC Y Y Y Y Y Y Y (yI Y Y Y Y Y Y Y (jC Y Y Y Y Y Y Y (yI Y Y Y Y Y Y Y (jD Y (g_k Y Y Y Y (jl (fun w hh => hh) ?_)))))))
      refine jC Y Y Y Y Y Y Y (jn Y Y Y Y (fun _ _ => z1 Y Y) (jJ ?_))
      obtain rfl := sj hm
      exact jj () (trivial) (sE Y) (fun w hh => hh)
     replace hm := ifE h11 hm
     refine jC Y Y Y Y Y Y Y (yI Y Y Y Y Y Y Y (jC Y Y Y Y Y Y Y (jC Y Y Y Y Y Y Y (jn Y Y Y Y (fun _ _ => z1 Y Y) (qQ Y Y Y (jC Y Y Y Y Y Y Y (jC Y Y Y Y Y Y Y ?_)))))))
     refine yI Y Y Y Y Y Y Y (jC Y Y Y Y Y Y Y (yI Y Y Y Y Y Y Y (jD Y (g_k Y Y Y Y (jl (fun w hh => hh) (jC Y Y Y Y Y Y Y (jn Y Y Y Y (fun _ _ => z1 Y Y) ?_)))))))
     refine jJ ?_
     obtain rfl := sj hm
     exact jj () (trivial) (sE Y) (fun w hh => hh)
    intro l_1 hj
    replace hm := h9
    refine ja ?_
    refine js Y (fun h15 => ?_) (fun h15 => ?_)
    ·replace hm := ifT (h15) hm
     refine jr (jo Y Y (jq (jy (jg (jA (jg (jg ?_)))))))
     refine jA ?_
     obtain rfl := sj hm
     have hbo := h4 _ Y
     subst hbo
     refine jg ?_
     replace hm := ocR h3
     refine jg ?_
     obtain rfl := sj hm
     refine jp Y (fun w hh => (.tmp Y .nil)) (fun w hh => ⟨(), rfl, trivial, hh.se [] [] 4 Y Y Y rfl⟩)
    replace hm := ifN h15 hm
    refine jt (ja (je (ji Y Y ?_)))
    obtain ⟨t42, h16, hm⟩ := bindO hm
    refine jc Y Y Y (fun _ _ => jb8 h16 Y Y) (jo Y Y (jv (jw (ja (je (ji Y Y ?_))))))
    obtain ⟨t17, h17, hm⟩ := bindO hm
    refine Jv h17 Y Y Y (jo Y Y (jv ?_))
    obtain rfl := sj hm
    refine ja ?_
    exact jz _ () Y (trivial) (sE Y) (hsE [1] [] 0 Y Y Y Y)
   replace hm := ifE h5 hm
   refine jO (jk (jk (jB ?_)))
   obtain rfl := sj hm
   have hbo := h4 _ Y
   subst hbo
   exact jj () (Y) (.nil) (fun w hh => hh)
  intro j hj
  have h18 := hj
  subst h18
  replace hm := ocL h3
  refine ja (jr (jo Y Y (jq (jy ?_))))
  obtain rfl := sj hm
  refine jp Y (fun w hh => (.tmp Y .nil)) (fun w hh => ⟨(), rfl, trivial, hh.se [] [] 4 Y Y Y rfl⟩)
def JL (a0 : (List Int)) (b1 : (List Int)) (s : Int) : Option (Int ⊕ (Unit ⊕ Bool)) :=
 if s < (a0.length : Int) then
 ((ix a0 s).bind fun t19 =>
 (ix b1 s).bind fun t23 =>
 if t19 = t23 then
 ((addc s 1).bind fun t16 =>
 some (.inl t16)) else
 (some (.inr (.inr false)))) else
 (some (.inr (.inl ())))
def zH (a0 : (List Int)) (b1 : (List Int)) : Option Bool :=
 if (a0.length : Int) = (b1.length : Int) then
 ((iterM FU (JL a0 b1) 0).bind fun o =>
 oc o (fun j => some true) (fun r_1 => some r_1)) else
 (some false)
theorem Zo (a0 : (List Int)) (b1 : (List Int)) (qa0 : Option Addr) (na0 ca0 : Nat) (qa1 : Option Addr) (na1 ca1 : Nat) (w : World) (hw : HV w (keys [] []) [] [] [(aB qa0, aO qa0, RI.enc a0), (aB qa1, aO qa1, RI.enc b1)] w) (hna0 : a0.length = na0) (hqa0 : AOK na0 qa0) (hla0 : na0 ≤ ca0) (hna1 : b1.length = na1) (hqa1 : AOK na1 qa1) (hla1 : na1 ≤ ca1) {res : Bool} (hm : zH a0 b1 = some res) :
    Calls Tryz.prog 101 #[.slice qa0 na0 ca0, .slice qa1 na1 ca1] w (fun en w' => ∃ l : Unit, en = .returned (.bool res) ∧ (True) ∧ HV w (keys [] []) [] [] [] w') := by
  unfold zH at hm
  refine yd func101 Y ntmps101 Y (e := [(0, _), (1, _)]) Y hw (jr (jo Y Y (jq (jh (jr (ji Y Y (jc Y Y Y (fun w _ => jQ hna0 (runUnderlying22 w) Y) ?_)))))))
  refine ji Y Y (jc Y Y Y (fun w _ => jQ hna1 (runUnderlying22 w) Y) (jc Y Y Y (fun _ _ => JG Y Y) (jq ?_)))
  refine js Y (fun h1 => ?_) (fun h1 => ?_)
  ·replace hm := ifF (of_ndec_true h1) hm
   refine jr (jo Y Y (jq (jy (jg ?_))))
   obtain rfl := sj hm
   refine jp Y (fun w hh => (.tmp Y .nil)) (fun w hh => ⟨(), rfl, trivial, hh.se [] [] 2 Y Y Y rfl⟩)
  replace hm := ifT (of_ndec_false h1) hm
  refine jt (ja (jh (jr (jo Y Y (jq ?_)))))
  obtain ⟨o, h2, h3⟩ := bindO hm
  refine jF (ι := Unit) (fun j => o = .inl j) (fun j => []) (fun j => []) (fun j => []) ?_ ?_
  ·replace hm := h2
   refine jm ?_
   refine jH (ι := Unit) hm (fun s l => True) (fun s l => [(0, .slice qa0 na0 ca0), (1, .slice qa1 na1 ca1), (5, .int .i64 s)]) (fun s l => []) (fun s l => []) () (trivial) (sE Y) (fun w hh => hh) (fun s l r hpl hm h4 => ?_)
   unfold JL at hm
   refine jh (jr (ji Y Y (ji Y Y (jc Y Y Y (fun w _ => jQ hna0 (runUnderlying22 w) Y) (JK Y Y Y (jq ?_))))))
   refine js Y (fun h5 => ?_) (fun h5 => ?_)
   ·replace hm := ifD h5 hm
    refine jt (ja (jh (jm (jh ?_))))
    refine jX none (.free 0 (.free 1 (.free 2 (.hoist 3 (.free 4 (.free 5 (.free 6 (.hoist 7 (.free 8 .done))))))))) _ Y (by decide +kernel) (fun w k hh => hh.draw k) (fun w hh => hh) ?_
    refine qQ Y Y Y (qQ Y Y Y ?_)
    obtain ⟨t19, h6, hm⟩ := bindO hm
    refine jn Y Y Y Y (fun w _ => qP h6 (runUnderlying22 w) (sizeOf3 w) Y Y hna0 hqa0) (jx Y Y Y Y (fun w hh => j5 RI 0 h6 (isAgg3 w) Y (hh.seg 0 Y) Y (Nat.add_zero _).symm) (qQ Y Y Y (qQ Y Y Y ?_)))
    obtain ⟨t23, h7, hm⟩ := bindO hm
    refine jn Y Y Y Y (fun w _ => qP h7 (runUnderlying22 w) (sizeOf3 w) Y Y hna1 hqa1) (jx Y Y Y Y (fun w hh => j5 RI 0 h7 (isAgg3 w) Y (hh.seg 1 Y) Y (Nat.add_zero _).symm) (jn Y Y Y Y (fun _ _ => JG Y Y) (jJ (ja ?_))))
    refine js Y (fun h8 => ?_) (fun h8 => ?_)
    ·replace hm := ifF (of_ndec_true h8) hm
     refine jr (jo Y Y (jq (jy (jA (jg (jg (jA ?_)))))))
     obtain rfl := sj hm
     have hbo := h4 _ Y
     subst hbo
     refine jg ?_
     replace hm := ocR h3
     refine jg ?_
     obtain rfl := sj hm
     refine jp Y (fun w hh => (.tmp Y .nil)) (fun w hh => ⟨(), rfl, trivial, hh.se [] [] 2 Y Y Y rfl⟩)
    replace hm := ifT (of_ndec_false h8) hm
    refine jt (jw (ja (je (ji Y Y ?_))))
    obtain ⟨t16, h9, hm⟩ := bindO hm
    refine Jv h9 Y Y Y (jo Y Y (jv ?_))
    obtain rfl := sj hm
    refine ja ?_
    exact jz _ () Y (trivial) (sE Y) (fun w hh => hh)
   replace hm := ifE h5 hm
   refine jO (jk (jk (jB ?_)))
   obtain rfl := sj hm
   have hbo := h4 _ Y
   subst hbo
   exact jj () (Y) (.nil) (fun w hh => hh)
  intro j hj
  have h10 := hj
  subst h10
  replace hm := ocL h3
  refine ja (jr (jo Y Y (jq (jy ?_))))
  obtain rfl := sj hm
  refine jp Y (fun w hh => (.tmp Y .nil)) (fun w hh => ⟨(), rfl, trivial, hh.se [] [] 2 Y Y Y rfl⟩)
structure yh where
  r5 : Int
  i6 : Int
def yi (c0 : Channel) (cell1 : Int) (s : yh) : Option (yh ⊕ Int) :=
 if s.i6 < (c0.sands.length : Int) then
 (((ix c0.sands s.i6).bind fun t18 =>
 (ix c0.sands s.i6).bind fun t25 =>
 (jG cell1 t18.span.lo t25.span.hi).bind fun t29 =>
 if (!t29) = true then
 ((ix c0.sands s.i6).bind fun t35 =>
 some (max s.r5 t35.reach)) else
 (some s.r5)).bind fun o_1 =>
 (addc s.i6 1).bind fun t13 =>
 some (.inl (⟨o_1, t13⟩ : yh))) else
 (some (.inr s.r5))
def y5 (c0 : Channel) (cell1 : Int) : Option Int :=
 (iterM FU (yi c0 cell1) (⟨0, 0⟩ : yh)).bind fun o =>
 some o
theorem Y4 (c0 : Channel) (cell1 : Int) (qa0 : Option Addr) (na0 ca0 : Nat) (qa1 : Option Addr) (na1 ca1 : Nat) (qa2 : Option Addr) (na2 ca2 : Nat) (w : World) (hw : HV w (keys [] []) [] [] [(aB qa0, aO qa0, RI.enc c0.fords), (aB qa1, aO qa1, RSa.enc c0.sands), (aB qa2, aO qa2, RSi.enc c0.sights)] w) (hna0 : c0.fords.length = na0) (hqa0 : AOK na0 qa0) (hla0 : na0 ≤ ca0) (hna1 : c0.sands.length = na1) (hqa1 : AOK na1 qa1) (hla1 : na1 ≤ ca1) (hna2 : c0.sights.length = na2) (hqa2 : AOK na2 qa2) (hla2 : na2 ≤ ca2) {res : Int} (hm : y5 c0 cell1 = some res) :
    Calls Tryz.prog 57 #[.agg #[.int .i64 c0.cells, .int .i64 c0.tides, .slice qa0 na0 ca0, .slice qa1 na1 ca1, .slice qa2 na2 ca2], .int .i64 cell1] w (fun en w' => ∃ l : Unit, en = .returned (.int .i64 res) ∧ (True) ∧ HV w (keys [] []) [] [] [] w') := by
  unfold y5 at hm
  refine yd func57 Y ntmps57 Y (e := [(0, _), (1, _)]) Y hw (jr ?_)
  refine jL Y Y (fun b h1 => ?_)
  refine jo Y Y (qb (jo Y Y (jq (jh (jr (jo Y Y (jq ?_)))))))
  obtain ⟨o, h2, h3⟩ := bindO hm
  refine jF (ι := Unit) (fun l => True) (fun l => [(5, .int .i64 o)]) (fun l => [kc b #[.int .i64 c0.cells, .int .i64 c0.tides, .slice qa0 na0 ca0, .slice qa1 na1 ca1, .slice qa2 na2 ca2] 33]) (fun l => []) ?_ ?_
  ·replace hm := h2
   refine jm ?_
   refine jH (ι := Unit) hm (fun s l_1 => True) (fun s l_1 => [(1, .int .i64 cell1), (2, ptr b 0), (5, .int .i64 s.r5), (6, .int .i64 s.i6)]) (fun s l_1 => [kc b #[.int .i64 c0.cells, .int .i64 c0.tides, .slice qa0 na0 ca0, .slice qa1 na1 ca1, .slice qa2 na2 ca2] 33]) (fun s l_1 => []) () (trivial) (sE Y) (fun w hh => hh) (fun s l_1 r hpl hm h4 => ?_)
   unfold yi at hm
   refine jh (jr (ji Y Y (qk 3 runUnderlying33 Y sizeOf30 Y Y (kw 0 isAgg30 Y Y Y Y (jc Y Y Y (fun w _ => jQ hna1 (runUnderlying30 w) Y) (JK Y Y Y (jq ?_)))))))
   refine js Y (fun h5 => ?_) (fun h5 => ?_)
   ·replace hm := ifD h5 hm
    refine jt (ja (jh ?_))
    obtain ⟨o_1, h6, h7⟩ := bindO hm
    refine jF (ι := Unit) (fun l_2 => True) (fun l_2 => [(1, .int .i64 cell1), (2, ptr b 0), (5, .int .i64 o_1), (6, .int .i64 s.i6)]) (fun l_2 => [kc b #[.int .i64 c0.cells, .int .i64 c0.tides, .slice qa0 na0 ca0, .slice qa1 na1 ca1, .slice qa2 na2 ca2] 33]) (fun l_2 => []) ?_ ?_
    ·replace hm := h6
     refine jm (jh ?_)
     refine jX none (.free 0 (.free 1 (.hoist 2 (.free 3 (.free 4 (.free 5 (.free 6 (.hoist 7 (.free 8 (.hoist 9 (.free 10 (.free 11 (.free 12 (.free 13 (.hoist 14 (.one 15 (.free 16 .done))))))))))))))))) _ Y (by decide +kernel) (fun w k hh => hh.draw k) (fun w hh => hh) ?_
     refine qQ Y Y Y (Kl 3 runUnderlying33 sizeOf30 Y Y Y Y (QA 0 isAgg30 Y Y Y Y Y (qQ Y Y Y ?_)))
     obtain ⟨t18, h8, hm⟩ := bindO hm
     refine jn Y Y Y Y (fun w _ => qP h8 (runUnderlying30 w) (sizeOf138 w) Y Y hna1 hqa1) (Kl 0 runUnderlying138 sizeOf50 Y Y Y Y (Kl 0 runUnderlying50 sizeOf3 Y Y Y Y (jx Y Y Y Y (fun w hh => j5 RSa 0 h8 (isAgg3 w) Y (hh.seg 1 Y) Y (by first | rfl | simp only [Nat.add_assoc])) (Kl 3 runUnderlying33 sizeOf30 Y Y Y Y (QA 0 isAgg30 Y Y Y Y Y (qQ Y Y Y ?_))))))
     obtain ⟨t25, h9, hm⟩ := bindO hm
     refine jn Y Y Y Y (fun w _ => qP h9 (runUnderlying30 w) (sizeOf138 w) Y Y hna1 hqa1) (Kl 0 runUnderlying138 sizeOf50 Y Y Y Y (Kl 1 runUnderlying50 sizeOf3 Y Y Y Y (jx Y Y Y Y (fun w hh => j5 RSa 1 h9 (isAgg3 w) Y (hh.seg 1 Y) Y (by first | rfl | simp only [Nat.add_assoc])) (jD Y ?_))))
     obtain ⟨t29, h10, hm⟩ := bindO hm
     refine jd [] [] Y Y Y Y Y Y Y call88 (fun w hh => kk cell1 t18.span.lo t25.span.hi w (HV.callee (S0 := []) (vs0 := []) hh roN)  h10) (fun l_3 h11 => ?_)
     refine jl (fun w hh => hh) (jn Y Y Y Y (fun _ _ => Jf Y) (jJ (ja ?_)))
     refine js Y (fun h12 => ?_) (fun h12 => ?_)
     ·replace hm := ifT (h12) hm
      refine je (ji Y Y (qk 3 runUnderlying33 Y sizeOf30 Y Y (kw 0 isAgg30 Y Y Y Y (ji Y Y ?_))))
      obtain ⟨t35, h13, hm⟩ := bindO hm
      refine jc Y Y Y (fun w _ => qP h13 (runUnderlying30 w) (sizeOf138 w) Y Y hna1 hqa1) (qk 2 runUnderlying138 Y sizeOf3 Y Y (jc Y Y Y (fun w hh => j5 RSa 2 h13 (isAgg3 w) Y (hh.seg 1 Y) Y Y) (jc Y Y Y (fun _ _ => Z2 Y Y) (jo Y Y (jv (jw ?_))))))
      obtain rfl := sj hm
      exact jj () (trivial) (sE Y) (fun w hh => hh)
     replace hm := ifN h12 hm
     refine jt (jw ?_)
     obtain rfl := sj hm
     exact jj () (trivial) (sE Y) (fun w hh => hh)
    intro l_2 hj
    replace hm := h7
    refine ja (je (ji Y Y ?_))
    obtain ⟨t13, h14, hm⟩ := bindO hm
    refine Jv h14 Y Y Y (jo Y Y (jv ?_))
    obtain rfl := sj hm
    refine ja ?_
    exact jz _ () Y (trivial) (sE Y) (fun w hh => hh)
   replace hm := ifE h5 hm
   refine jO (jk (jk (jB ?_)))
   obtain rfl := sj hm
   have hbo := h4 _ Y
   subst hbo
   exact jj () (trivial) (sE Y) (fun w hh => hh)
  intro l hj
  replace hm := h3
  refine ja (jr (ji Y Y (jo Y Y (jq (jy ?_)))))
  obtain rfl := sj hm
  refine jp Y (fun w hh => (.tmp Y .nil)) (fun w hh => ⟨(), rfl, trivial, hh.se [] [] 3 Y Y Y rfl⟩)
def yO (a1 : (List Int)) (c0 : Channel) (b2 : (List Int)) (s : Int) : Option (Int ⊕ (Unit ⊕ Bool)) :=
 if s < (a1.length : Int) then
 ((ix a1 s).bind fun t18 =>
 (y5 c0 t18).bind fun t20 =>
 (ix b2 s).bind fun t23 =>
 (ix a1 s).bind fun t27 =>
 (subc t27 t20).bind fun t30 =>
 (ix a1 s).bind fun t33 =>
 (addc t33 t20).bind fun t36 =>
 (jG t23 t30 t36).bind fun t37 =>
 if t37 = true then
 (some (.inr (.inr false))) else
 ((addc s 1).bind fun t14 =>
 some (.inl t14))) else
 (some (.inr (.inl ())))
def yW (c0 : Channel) (a1 : (List Int)) (b2 : (List Int)) : Option Bool :=
 (iterM FU (yO a1 c0 b2) 0).bind fun o =>
 oc o (fun j => some true) (fun r_1 => some r_1)
theorem Q6 (c0 : Channel) (a1 : (List Int)) (b2 : (List Int)) (qa0 : Option Addr) (na0 ca0 : Nat) (qa1 : Option Addr) (na1 ca1 : Nat) (qa2 : Option Addr) (na2 ca2 : Nat) (qa3 : Option Addr) (na3 ca3 : Nat) (qa4 : Option Addr) (na4 ca4 : Nat) (w : World) (hw : HV w (keys [] []) [] [] [(aB qa0, aO qa0, RI.enc c0.fords), (aB qa1, aO qa1, RSa.enc c0.sands), (aB qa2, aO qa2, RSi.enc c0.sights), (aB qa3, aO qa3, RI.enc a1), (aB qa4, aO qa4, RI.enc b2)] w) (hna0 : c0.fords.length = na0) (hqa0 : AOK na0 qa0) (hla0 : na0 ≤ ca0) (hna1 : c0.sands.length = na1) (hqa1 : AOK na1 qa1) (hla1 : na1 ≤ ca1) (hna2 : c0.sights.length = na2) (hqa2 : AOK na2 qa2) (hla2 : na2 ≤ ca2) (hna3 : a1.length = na3) (hqa3 : AOK na3 qa3) (hla3 : na3 ≤ ca3) (hna4 : b2.length = na4) (hqa4 : AOK na4 qa4) (hla4 : na4 ≤ ca4) {res : Bool} (hm : yW c0 a1 b2 = some res) :
    Calls Tryz.prog 92 #[.agg #[.int .i64 c0.cells, .int .i64 c0.tides, .slice qa0 na0 ca0, .slice qa1 na1 ca1, .slice qa2 na2 ca2], .slice qa3 na3 ca3, .slice qa4 na4 ca4] w (fun en w' => ∃ l : Unit, en = .returned (.bool res) ∧ (True) ∧ HV w (keys [] []) [] [] [] w') := by
  unfold yW at hm
  refine yd func92 Y ntmps92 Y (e := [(0, _), (1, _), (2, _)]) Y hw (jr ?_)
  refine jL Y Y (fun b h1 => ?_)
  refine jo Y Y (jq (jh (jr (jo Y Y (jq ?_)))))
  obtain ⟨o, h2, h3⟩ := bindO hm
  refine jF (ι := Unit) (fun j => o = .inl j) (fun j => []) (fun j => [kc b #[.int .i64 c0.cells, .int .i64 c0.tides, .slice qa0 na0 ca0, .slice qa1 na1 ca1, .slice qa2 na2 ca2] 33]) (fun j => []) ?_ ?_
  ·replace hm := h2
   refine jm ?_
   refine jH (ι := Unit) hm (fun s l => True) (fun s l => [(1, .slice qa3 na3 ca3), (2, .slice qa4 na4 ca4), (3, ptr b 0), (7, .int .i64 s)]) (fun s l => [kc b #[.int .i64 c0.cells, .int .i64 c0.tides, .slice qa0 na0 ca0, .slice qa1 na1 ca1, .slice qa2 na2 ca2] 33]) (fun s l => []) () (trivial) (sE Y) (fun w hh => hh) (fun s l r hpl hm h4 => ?_)
   unfold yO at hm
   refine jh (jr (ji Y Y (ji Y Y (jc Y Y Y (fun w _ => jQ hna3 (runUnderlying22 w) Y) (JK Y Y Y (jq ?_))))))
   refine js Y (fun h5 => ?_) (fun h5 => ?_)
   ·replace hm := ifD h5 hm
    refine jt (ja (jh (jm (jh (jX none (.hoist 0 (.free 1 (.free 2 (.free 3 (.hoist 4 (.one 5 (.free 6 .done))))))) _ Y (by decide +kernel) (fun w k hh => hh.draw k) (fun w hh => hh) (jx Y Y Y Y (fun w hh => jE (vs := [_, _, _, _, _]) (isAgg33 w) (sizeOf33 w) Y (hh.cells 0 Y Y)) (qQ Y Y Y ?_)))))))
    refine qQ Y Y Y ?_
    obtain ⟨t18, h6, hm⟩ := bindO hm
    refine jn Y Y Y Y (fun w _ => qP h6 (runUnderlying22 w) (sizeOf3 w) Y Y hna3 hqa3) (jx Y Y Y Y (fun w hh => j5 RI 0 h6 (isAgg3 w) Y (hh.seg 3 Y) Y (Nat.add_zero _).symm) (jD Y ?_))
    obtain ⟨t20, h7, hm⟩ := bindO hm
    refine jd [] [] Y Y Y Y Y Y Y call57 (fun w hh => Y4 c0 t18 qa0 na0 ca0 qa1 na1 ca1 qa2 na2 ca2 w (HV.callee (S0 := []) (vs0 := []) hh (roR hh 0 Y (roR hh 1 Y (roR hh 2 Y roN)))) hna0 hqa0 hla0 hna1 hqa1 hla1 hna2 hqa2 hla2 h7) (fun l_1 h8 => ?_)
    refine jl (fun w hh => hh) (jn Y Y Y Y (fun _ _ => ku Y) (jJ (ja (jh ?_))))
    refine jX none (.free 0 (.free 1 (.free 2 (.hoist 3 (.free 4 (.free 5 (.free 6 (.hoist 7 (.free 8 (.free 9 (.free 10 (.free 11 (.free 12 (.hoist 13 (.free 14 (.free 15 (.one 16 .done))))))))))))))))) _ Y (by decide +kernel) (fun w k hh => hh.draw k) (fun w hh => hh) ?_
    refine qQ Y Y Y (qQ Y Y Y ?_)
    obtain ⟨t23, h9, hm⟩ := bindO hm
    refine jn Y Y Y Y (fun w _ => qP h9 (runUnderlying22 w) (sizeOf3 w) Y Y hna4 hqa4) (jx Y Y Y Y (fun w hh => j5 RI 0 h9 (isAgg3 w) Y (hh.seg 4 Y) Y (Nat.add_zero _).symm) (qQ Y Y Y (qQ Y Y Y ?_)))
    obtain ⟨t27, h10, hm⟩ := bindO hm
    refine jn Y Y Y Y (fun w _ => qP h10 (runUnderlying22 w) (sizeOf3 w) Y Y hna3 hqa3) (jx Y Y Y Y (fun w hh => j5 RI 0 h10 (isAgg3 w) Y (hh.seg 3 Y) Y (Nat.add_zero _).symm) (qQ Y Y Y ?_))
    obtain ⟨t30, h11, hm⟩ := bindO hm
    refine jn Y Y Y Y (fun _ _ => zC h11 Y Y) (qQ Y Y Y (qQ Y Y Y ?_))
    obtain ⟨t33, h12, hm⟩ := bindO hm
    refine jn Y Y Y Y (fun w _ => qP h12 (runUnderlying22 w) (sizeOf3 w) Y Y hna3 hqa3) (jx Y Y Y Y (fun w hh => j5 RI 0 h12 (isAgg3 w) Y (hh.seg 3 Y) Y (Nat.add_zero _).symm) (qQ Y Y Y ?_))
    obtain ⟨t36, h13, hm⟩ := bindO hm
    refine jn Y Y Y Y (fun _ _ => Ql h13 Y Y) (jD Y ?_)
    obtain ⟨t37, h14, hm⟩ := bindO hm
    refine jd [] [] Y Y Y Y Y Y Y call88 (fun w hh => kk t23 t30 t36 w (HV.callee (S0 := []) (vs0 := []) hh roN)  h14) (fun l_2 h15 => ?_)
    refine jl (fun w hh => hh) (jJ (ja ?_))
    refine js Y (fun h16 => ?_) (fun h16 => ?_)
    ·replace hm := ifT (h16) hm
     refine jr (jo Y Y (jq (jy (jA (jg (jg (jA ?_)))))))
     obtain rfl := sj hm
     have hbo := h4 _ Y
     subst hbo
     refine jg ?_
     replace hm := ocR h3
     refine jg ?_
     obtain rfl := sj hm
     refine jp Y (fun w hh => (.tmp Y .nil)) (fun w hh => ⟨(), rfl, trivial, hh.se [] [] 5 Y Y Y rfl⟩)
    replace hm := ifN h16 hm
    refine jt (jw (ja (je (ji Y Y ?_))))
    obtain ⟨t14, h17, hm⟩ := bindO hm
    refine Jv h17 Y Y Y (jo Y Y (jv ?_))
    obtain rfl := sj hm
    refine ja ?_
    exact jz _ () Y (trivial) (sE Y) (fun w hh => hh)
   replace hm := ifE h5 hm
   refine jO (jk (jk (jB ?_)))
   obtain rfl := sj hm
   have hbo := h4 _ Y
   subst hbo
   exact jj () (Y) (.nil) (fun w hh => hh)
  intro j hj
  have h18 := hj
  subst h18
  replace hm := ocL h3
  refine ja (jr (jo Y Y (jq (jy ?_))))
  obtain rfl := sj hm
  refine jp Y (fun w hh => (.tmp Y .nil)) (fun w hh => ⟨(), rfl, trivial, hh.se [] [] 5 Y Y Y rfl⟩)
end Go.Proofs.Wb

namespace Go.Proofs.Wb
set_option maxHeartbeats 4000000
set_option maxRecDepth 100000
open Go Go.Fw Go.Gx Go.Sb
open Tryz
set_option linter.unusedVariables false
structure qH where
  k7 : Int
  out6 : (List (List Int))
structure yy where
  b9 : Int
  t21 : (List Int)
structure zz where
  a10 : Int
  t21 : (List Int)
def km (t12 : (List (List Int))) (s : qH) (s_1 : yy) (c0 : Channel) (s_2 : zz) : Option (zz ⊕ (List Int)) :=
 (if s_2.a10 < (t12.length : Int) then
 (some (decide (0 < s.k7))) else
 (some false)).bind fun o_6 =>
 if o_6 = true then
 ((((subc s.k7 1).bind fun t63 =>
 (ix s.out6 t63).bind fun t64 =>
 (ix t64 s_2.a10).bind fun t67 =>
 if 0 < t67 then
 ((ix t12 s_2.a10).bind fun t74 =>
 (ix t12 s_1.b9).bind fun t78 =>
 (yW c0 t74 t78).bind fun t80 =>
 some t80) else
 (some false)).bind fun o_8 =>
 if o_8 = true then
 ((ix s_2.t21 s_1.b9).bind fun t86 =>
 (subc s.k7 1).bind fun t90 =>
 (ix s.out6 t90).bind fun t91 =>
 (ix t91 s_2.a10).bind fun t94 =>
 (addc t86 t94).bind fun t96 =>
 (ix s_2.t21 s_1.b9).bind fun t97 =>
 (some (s_2.t21.set (Int.toNat s_1.b9) t96)).bind fun t21_2 =>
 some t21_2) else
 (some s_2.t21)).bind fun o_7 =>
 (addc s_2.a10 1).bind fun t60 =>
 some (.inl (⟨t60, o_7⟩ : zz))) else
 (some (.inr s_2.t21))
def qF (t12 : (List (List Int))) (c0 : Channel) (s : qH) (set1 : Int) (s_1 : yy) : Option (yy ⊕ (List Int)) :=
 if s_1.b9 < (t12.length : Int) then
 (((ix t12 s_1.b9).bind fun t32 =>
 (yL c0 s.k7 t32 set1).bind fun t35 =>
 if (!t35) = true then
 (some s_1.t21) else
 (((if s.k7 = 0 then
 ((ix t12 s_1.b9).bind fun t42 =>
 (zH t42 c0.fords).bind fun t46 =>
 some t46) else
 (some false)).bind fun o_4 =>
 if o_4 = true then
 ((ix s_1.t21 s_1.b9).bind fun t50 =>
 (some (s_1.t21.set (Int.toNat s_1.b9) 1)).bind fun t21_1 =>
 some t21_1) else
 (some s_1.t21)).bind fun o_3 =>
 (iterM FU (km t12 s s_1 c0) (⟨0, o_3⟩ : zz)).bind fun o_5 =>
 some o_5)).bind fun o_2 =>
 (addc s_1.b9 1).bind fun t27 =>
 some (.inl (⟨t27, o_2⟩ : yy))) else
 (some (.inr s_1.t21))
def qJ (c0 : Channel) (t12 : (List (List Int))) (set1 : Int) (s : qH) : Option (qH ⊕ (List (List Int))) :=
 if s.k7 ≤ c0.tides then
 ((makec 8 0 (t12.length : Int) (t12.length : Int)).bind fun t21 =>
 (iterM FU (qF t12 c0 s set1) (⟨0, t21⟩ : yy)).bind fun o_1 =>
 (appc 24 s.out6 [o_1]).bind fun t101 =>
 (addc s.k7 1).bind fun t18 =>
 some (.inl (⟨t18, t101⟩ : qH))) else
 (some (.inr s.out6))
def qY (c0 : Channel) (set1 : Int) : Option (List (List Int)) :=
 (kr c0).bind fun t12 =>
 (iterM FU (qJ c0 t12 set1) (⟨0, ([] : List (List Int))⟩ : qH)).bind fun o =>
 some o
theorem KF (c0 : Channel) (set1 : Int) (qa0 : Option Addr) (na0 ca0 : Nat) (qa1 : Option Addr) (na1 ca1 : Nat) (qa2 : Option Addr) (na2 ca2 : Nat) (w : World) (hw : HV w (keys [] []) [] [] [(aB qa0, aO qa0, RI.enc c0.fords), (aB qa1, aO qa1, RSa.enc c0.sands), (aB qa2, aO qa2, RSi.enc c0.sights)] w) (hna0 : c0.fords.length = na0) (hqa0 : AOK na0 qa0) (hla0 : na0 ≤ ca0) (hna1 : c0.sands.length = na1) (hqa1 : AOK na1 qa1) (hla1 : na1 ≤ ca1) (hna2 : c0.sights.length = na2) (hqa2 : AOK na2 qa2) (hla2 : na2 ≤ ca2) {res : (List (List Int))} (hm : qY c0 set1 = some res) :
    Calls Tryz.prog 89 #[.agg #[.int .i64 c0.cells, .int .i64 c0.tides, .slice qa0 na0 ca0, .slice qa1 na1 ca1, .slice qa2 na2 ca2], .int .i64 set1] w (fun en w' => ∃ l : DL, en = .returned (sL l.v) ∧ (VOK 1 l.v.n l.v.cap (RwH.enc l.rs) l.v.sp l.v.q ∧ DOK RI res l.rs) ∧ HV w (keys [] []) [] [⟨22, RwH.enc l.rs, l.v.sp, l.v.q, dbl 3 RI res l.rs⟩] [] w') := by
  unfold qY at hm
  refine yd func89 Y ntmps89 Y (e := [(0, _), (1, _)]) Y hw (jr ?_)
  refine jL Y Y (fun b h3 => ?_)
  refine jc Y Y Y (fun _ _ => qW Y) (qb (zO [_, _, _, _, _] 0 isAgg33 sizeOf33 Y Y Y Y ?_))
  obtain ⟨t12, h4, hm⟩ := bindO hm
  refine jd [] [] Y Y Y Y Y Y Y call90 (fun w hh => y8 c0 qa0 na0 ca0 qa1 na1 ca1 qa2 na2 ca2 w (HV.callee (S0 := []) (vs0 := []) hh (roR hh 0 Y (roR hh 1 Y (roR hh 2 Y roN)))) hna0 hqa0 hla0 hna1 hqa1 hla1 hna2 hqa2 hla2 h4) (fun l h5 => ?_)
  obtain ⟨h6, h7⟩ := h5
  refine kO (S' := [_]) (vs' := [_]) [0] [0] 0 Y Y Y Y (jo Y Y (qb (jc Y Y Y (fun _ _ => qW Y) (jq (jh (jr (jo Y Y ?_)))))))
  refine jq (Jz 22 ?_)
  obtain ⟨o, h8, h9⟩ := bindO hm
  refine jF (ι := DL) (fun l_1 => VOK 1 l_1.v.n l_1.v.cap (RwH.enc l_1.rs) l_1.v.sp l_1.v.q ∧ DOK RI o l_1.rs) (fun l_1 => [(6, sL l_1.v)]) (fun l_1 => [kc b #[.int .i64 c0.cells, .int .i64 c0.tides, .slice qa0 na0 ca0, .slice qa1 na1 ca1, .slice qa2 na2 ca2] 33]) (fun l_1 => [⟨22, RwH.enc l_1.rs, l_1.v.sp, l_1.v.q, dbl 3 RI o l_1.rs⟩]) ?_ ?_
  ·replace hm := h8
   refine jm ?_
   refine jH (ι := DL) hm (fun s l_2 => VOK 1 l_2.v.n l_2.v.cap (RwH.enc l_2.rs) l_2.v.sp l_2.v.q ∧ DOK RI s.out6 l_2.rs) (fun s l_2 => [(1, .int .i64 set1), (2, ptr b 0), (5, sL l.v), (6, sL l_2.v), (7, .int .i64 s.k7)]) (fun s l_2 => [kc b #[.int .i64 c0.cells, .int .i64 c0.tides, .slice qa0 na0 ca0, .slice qa1 na1 ca1, .slice qa2 na2 ca2] 33]) (fun s l_2 => [⟨22, RwH.enc l.rs, l.v.sp, l.v.q, dbl 3 RI t12 l.rs⟩, ⟨22, RwH.enc l_2.rs, l_2.v.sp, l_2.v.q, dbl 3 RI s.out6 l_2.rs⟩]) (⟨⟨none, 0, 0, []⟩, []⟩) (⟨VOK.nil, DOK.nil⟩) (sE Y) (hsE [0] [1, 0] 0 Y Y Y Y) (fun s l_2 r hpl hm h14 => ?_)
   obtain ⟨h12, h13⟩ := hpl
   unfold qJ at hm
   refine jh (jr (ji Y Y (qk 1 runUnderlying33 Y sizeOf3 Y Y (kw 0 isAgg3 Y Y Y Y (jc Y Y Y (fun _ _ => jav Y Y) (jq ?_))))))
   refine js Y (fun h15 => ?_) (fun h15 => ?_)
   ·replace hm := ifD h15 hm
    refine jt (ja (jh (jm (jr (ji Y Y (jc Y Y Y (fun w _ => Jj (Eq.trans (h7).len (vlen RwH h6 Y)) (runUnderlying41 w) Y) ?_))))))
    obtain ⟨t21, h16, hm⟩ := bindO hm
    refine Yo RI 0 h16 underlying22 Q1 Y Y Y Y Y (fun L h17 => ?_)
    refine jo Y Y (jq (jh (jr (jo Y Y (jq ?_)))))
    obtain ⟨o_1, h18, h19⟩ := bindO hm
    refine jF (ι := Unit) (fun l_3 => VOK 1 L.n L.cap (RI.enc o_1) L.sp L.q) (fun l_3 => [(1, .int .i64 set1), (2, ptr b 0), (5, sL l.v), (6, sL l_2.v), (7, .int .i64 s.k7), (8, sL L)]) (fun l_3 => [kc b #[.int .i64 c0.cells, .int .i64 c0.tides, .slice qa0 na0 ca0, .slice qa1 na1 ca1, .slice qa2 na2 ca2] 33]) (fun l_3 => [⟨22, RwH.enc l.rs, l.v.sp, l.v.q, dbl 3 RI t12 l.rs⟩, ⟨22, RwH.enc l_2.rs, l_2.v.sp, l_2.v.q, dbl 3 RI s.out6 l_2.rs⟩, vL 3 L (RI.enc o_1)]) ?_ ?_
    ·replace hm := h18
     refine jm ?_
     refine jH (ι := Unit) hm (fun s_1 l_4 => VOK 1 L.n L.cap (RI.enc s_1.t21) L.sp L.q) (fun s_1 l_4 => [(1, .int .i64 set1), (2, ptr b 0), (5, sL l.v), (6, sL l_2.v), (7, .int .i64 s.k7), (8, sL L), (9, .int .i64 s_1.b9)]) (fun s_1 l_4 => [kc b #[.int .i64 c0.cells, .int .i64 c0.tides, .slice qa0 na0 ca0, .slice qa1 na1 ca1, .slice qa2 na2 ca2] 33]) (fun s_1 l_4 => [⟨22, RwH.enc l.rs, l.v.sp, l.v.q, dbl 3 RI t12 l.rs⟩, ⟨22, RwH.enc l_2.rs, l_2.v.sp, l_2.v.q, dbl 3 RI s.out6 l_2.rs⟩, vL 3 L (RI.enc s_1.t21)]) () (h17) (sE Y) (hsE [0] [1, 2, 0] 0 Y Y Y Y) (fun s_1 l_4 r_1 hpl hm h22 => ?_)
     have h21 := hpl
     unfold qF at hm
     refine jh (jr (ji Y Y (ji Y Y (jc Y Y Y (fun w _ => Jj (Eq.trans (h7).len (vlen RwH h6 Y)) (runUnderlying41 w) Y) (JK Y Y Y (jq ?_))))))
     refine js Y (fun h23 => ?_) (fun h23 => ?_)
     ·replace hm := ifD h23 hm
      refine jt (ja (jh ?_))
      obtain ⟨o_2, h24, h25⟩ := bindO hm
      refine jF (ι := Unit) (fun l_5 => VOK 1 L.n L.cap (RI.enc o_2) L.sp L.q) (fun l_5 => [(1, .int .i64 set1), (2, ptr b 0), (5, sL l.v), (6, sL l_2.v), (7, .int .i64 s.k7), (8, sL L), (9, .int .i64 s_1.b9)]) (fun l_5 => [kc b #[.int .i64 c0.cells, .int .i64 c0.tides, .slice qa0 na0 ca0, .slice qa1 na1 ca1, .slice qa2 na2 ca2] 33]) (fun l_5 => [⟨22, RwH.enc l.rs, l.v.sp, l.v.q, dbl 3 RI t12 l.rs⟩, ⟨22, RwH.enc l_2.rs, l_2.v.sp, l_2.v.q, dbl 3 RI s.out6 l_2.rs⟩, vL 3 L (RI.enc o_2)]) ?_ ?_
      ·replace hm := h24
       refine jm (jh (jh ?_))
       refine jX none (.hoist 0 (.free 1 (.free 2 (.free 3 (.free 4 (.hoist 5 (.free 6 (.one 7 (.free 8 .done))))))))) _ Y (by decide +kernel) (fun w k hh => hh.draw k) (fun w hh => hh) ?_
       refine jx Y Y Y Y (fun w hh => jE (vs := [_, _, _, _, _]) (isAgg33 w) (sizeOf33 w) Y (hh.cells 0 Y Y)) (qQ Y Y Y (qQ Y Y Y (qQ Y Y Y ?_)))
       obtain ⟨t32, h27, hm⟩ := bindO hm
       obtain ⟨L_1, h28, h29⟩ := (h7).row h27
       refine jn Y Y Y Y (fun w _ => qR h28 (runUnderlying41 w) (sizeOf22 w) Y Y (vlen RwH h6 Y) (vne h6)) (jx Y Y Y Y (fun w hh => j5 RwH 0 h28 (isAgg22 w) Y (hh.vseg 0 Y h6) Y (Nat.add_zero _).symm) (qQ Y Y Y (jD Y ?_)))
       obtain ⟨t35, h30, hm⟩ := bindO hm
       refine jd [] [] Y Y Y Y Y Y Y call102 (fun w hh => YK c0 s.k7 t32 set1 qa0 na0 ca0 qa1 na1 ca1 qa2 na2 ca2 (qA L_1.q) L_1.n L_1.cap w (HV.callee (S0 := []) (vs0 := []) hh (roR hh 0 Y (roR hh 1 Y (roR hh 2 Y (roC (hh.dsepA (S0 := []) (vs0 := []) 0 Y h27 h28 h29) roN))))) hna0 hqa0 hla0 hna1 hqa1 hla1 hna2 hqa2 hla2 (vlen RI h29 Y) (AOK.q (vne h29)) (h29).hle h30) (fun l_6 h31 => ?_)
       refine jl (fun w hh => hh) (jn Y Y Y Y (fun _ _ => Jf Y) (jJ (ja ?_)))
       refine js Y (fun h32 => ?_) (fun h32 => ?_)
       ·replace hm := ifT (h32) hm
        refine jO (jk (jB ?_))
        obtain rfl := sj hm
        exact jj () (h21) (sE Y) (fun w hh => hh)
       replace hm := ifN h32 hm
       refine jt (ja (jh ?_))
       obtain ⟨o_3, h33, h34⟩ := bindO hm
       refine jF (ι := Unit) (fun l_7 => VOK 1 L.n L.cap (RI.enc o_3) L.sp L.q) (fun l_7 => [(1, .int .i64 set1), (2, ptr b 0), (5, sL l.v), (6, sL l_2.v), (7, .int .i64 s.k7), (8, sL L), (9, .int .i64 s_1.b9)]) (fun l_7 => [kc b #[.int .i64 c0.cells, .int .i64 c0.tides, .slice qa0 na0 ca0, .slice qa1 na1 ca1, .slice qa2 na2 ca2] 33]) (fun l_7 => [⟨22, RwH.enc l.rs, l.v.sp, l.v.q, dbl 3 RI t12 l.rs⟩, ⟨22, RwH.enc l_2.rs, l_2.v.sp, l_2.v.q, dbl 3 RI s.out6 l_2.rs⟩, vL 3 L (RI.enc o_3)]) ?_ ?_
       ·replace hm := h33
        refine jh ?_
        obtain ⟨o_4, h36, h37⟩ := bindO hm
        refine jF (ι := Unit) (fun l_8 => True) (fun l_8 => [(1, .int .i64 set1), (2, ptr b 0), (5, sL l.v), (6, sL l_2.v), (7, .int .i64 s.k7), (8, sL L), (9, .int .i64 s_1.b9), (47, .bool o_4)]) (fun l_8 => [kc b #[.int .i64 c0.cells, .int .i64 c0.tides, .slice qa0 na0 ca0, .slice qa1 na1 ca1, .slice qa2 na2 ca2] 33]) (fun l_8 => [⟨22, RwH.enc l.rs, l.v.sp, l.v.q, dbl 3 RI t12 l.rs⟩, ⟨22, RwH.enc l_2.rs, l_2.v.sp, l_2.v.q, dbl 3 RI s.out6 l_2.rs⟩, vL 3 L (RI.enc s_1.t21)]) ?_ ?_
        ·replace hm := h36
         refine jX none (.free 0 (.free 1 (.free 2 (.free 3 (.free 4 (.free 5 (.hoist 6 (.free 7 (.hoist 8 (.one 9 (.free 10 .done))))))))))) _ Y (by decide +kernel) (fun w k hh => hh.draw k) (fun w hh => hh) ?_
         refine qQ Y Y Y (jn Y Y Y Y (fun _ _ => zN Y Y) (qQ Y Y Y ?_))
         refine jP 39 Y (fun h38 => ?_) (fun h38 => ?_)
         ·replace hm := ifD h38 hm
          refine jK Y Y Y Y Y Y (fun _ _ => jW Y) (jK Y Y Y Y Y Y (fun _ _ => jW Y) ?_)
          obtain ⟨t42, h39, hm⟩ := bindO hm
          obtain ⟨L_2, h40, h41⟩ := (h7).row h39
          refine jK Y Y Y Y Y Y (fun w _ => qR h40 (runUnderlying41 w) (sizeOf22 w) Y Y (vlen RwH h6 Y) (vne h6)) (qz Y Y Y Y Y Y (fun w hh => j5 RwH 0 h40 (isAgg22 w) Y (hh.vseg 0 Y h6) Y (Nat.add_zero _).symm) (jK Y Y Y Y Y Y (fun w _ => jM 2 (runUnderlying33 w) Y (sizeOf22 w) Y) (qz Y Y Y Y Y Y (fun w hh => jI (isAgg22 w) Y (hh.cell 0 Y Y)) (jD Y (jb Y Y ?_)))))
          obtain ⟨t46, h42, hm⟩ := bindO hm
          refine jd [] [] Y Y Y Y Y Y Y call101 (fun w hh => Zo t42 c0.fords (qA L_2.q) L_2.n L_2.cap qa0 na0 ca0 w (HV.callee (S0 := []) (vs0 := []) hh (roC (hh.dsepA (S0 := []) (vs0 := []) 0 Y h39 h40 h41) (roR hh 0 Y roN))) (vlen RI h41 Y) (AOK.q (vne h41)) (h41).hle hna0 hqa0 hla0 h42) (fun l_9 h43 => ?_)
          refine jl (fun w hh => hh) (jn Y Y Y Y (fun _ _ => Ky Y Y) (jJ ?_))
          obtain rfl := sj hm
          exact jj () (trivial) (sE Y) (fun w hh => hh)
         replace hm := ifE h38 hm
         refine jC Y Y Y Y Y Y Y (jC Y Y Y Y Y Y Y (jC Y Y Y Y Y Y Y (yI Y Y Y Y Y Y Y (jC Y Y Y Y Y Y Y (yI Y Y Y Y Y Y Y (jD Y (g_k Y Y Y Y ?_)))))))
         refine jl (fun w hh => hh) (jn Y Y Y Y (fun _ _ => z1 Y Y) (jJ ?_))
         obtain rfl := sj hm
         exact jj () (trivial) (sE Y) (fun w hh => hh)
        intro l_8 hj
        replace hm := h37
        refine ja ?_
        refine js Y (fun h44 => ?_) (fun h44 => ?_)
        ·replace hm := ifT (h44) hm
         refine je (ji Y Y (ji Y Y ?_))
         obtain ⟨t50, h45, hm⟩ := bindO hm
         refine jc Y Y Y (fun w _ => qR h45 (runUnderlying22 w) (sizeOf3 w) Y Y (vlen RI h21 Y) (vne h21)) ?_
         obtain ⟨t21_1, ht21_1, hm⟩ := bindO hm
         refine jax RI 2 0 1 (fun w => sizeOf3 w) Y Y Y Y h21 Y (Nat.add_zero _).symm Y h45 Y Y (Option.some.inj ht21_1) (fun h46 => ?_)
         refine kO (S' := [_]) (vs' := [_, _, _]) [0] [0, 1, 2] 0 Y Y Y Y (jv ?_)
         obtain rfl := sj hm
         exact jj () (h46) (sE Y) (fun w hh => hh)
        replace hm := ifN h44 hm
        refine jt ?_
        obtain rfl := sj hm
        exact jj () (h21) (sE Y) (fun w hh => hh)
       intro l_7 hj
       have h35 := hj
       replace hm := h34
       refine ja (jr (jo Y Y (jq ?_)))
       obtain ⟨o_5, h47, h48⟩ := bindO hm
       refine jF (ι := Unit) (fun l_10 => VOK 1 L.n L.cap (RI.enc o_5) L.sp L.q) (fun l_10 => [(1, .int .i64 set1), (2, ptr b 0), (5, sL l.v), (6, sL l_2.v), (7, .int .i64 s.k7), (8, sL L), (9, .int .i64 s_1.b9)]) (fun l_10 => [kc b #[.int .i64 c0.cells, .int .i64 c0.tides, .slice qa0 na0 ca0, .slice qa1 na1 ca1, .slice qa2 na2 ca2] 33]) (fun l_10 => [⟨22, RwH.enc l.rs, l.v.sp, l.v.q, dbl 3 RI t12 l.rs⟩, ⟨22, RwH.enc l_2.rs, l_2.v.sp, l_2.v.q, dbl 3 RI s.out6 l_2.rs⟩, vL 3 L (RI.enc o_5)]) ?_ ?_
       ·replace hm := h47
        refine jm ?_
        refine jH (ι := Unit) hm (fun s_2 l_11 => VOK 1 L.n L.cap (RI.enc s_2.t21) L.sp L.q) (fun s_2 l_11 => [(1, .int .i64 set1), (2, ptr b 0), (5, sL l.v), (6, sL l_2.v), (7, .int .i64 s.k7), (8, sL L), (9, .int .i64 s_1.b9), (10, .int .i64 s_2.a10)]) (fun s_2 l_11 => [kc b #[.int .i64 c0.cells, .int .i64 c0.tides, .slice qa0 na0 ca0, .slice qa1 na1 ca1, .slice qa2 na2 ca2] 33]) (fun s_2 l_11 => [⟨22, RwH.enc l.rs, l.v.sp, l.v.q, dbl 3 RI t12 l.rs⟩, ⟨22, RwH.enc l_2.rs, l_2.v.sp, l_2.v.q, dbl 3 RI s.out6 l_2.rs⟩, vL 3 L (RI.enc s_2.t21)]) () (h35) (sE Y) (fun w hh => hh) (fun s_2 l_11 r_2 hpl hm h51 => ?_)
        have h50 := hpl
        unfold km at hm
        refine jh (jh ?_)
        obtain ⟨o_6, h52, h53⟩ := bindO hm
        refine jF (ι := Unit) (fun l_12 => True) (fun l_12 => [(1, .int .i64 set1), (2, ptr b 0), (5, sL l.v), (6, sL l_2.v), (7, .int .i64 s.k7), (8, sL L), (9, .int .i64 s_1.b9), (10, .int .i64 s_2.a10), (58, .bool o_6)]) (fun l_12 => [kc b #[.int .i64 c0.cells, .int .i64 c0.tides, .slice qa0 na0 ca0, .slice qa1 na1 ca1, .slice qa2 na2 ca2] 33]) (fun l_12 => [⟨22, RwH.enc l.rs, l.v.sp, l.v.q, dbl 3 RI t12 l.rs⟩, ⟨22, RwH.enc l_2.rs, l_2.v.sp, l_2.v.q, dbl 3 RI s.out6 l_2.rs⟩, vL 3 L (RI.enc s_2.t21)]) ?_ ?_
        ·replace hm := h52
         refine je (ji Y Y (ji Y Y (jc Y Y Y (fun w _ => Jj (Eq.trans (h7).len (vlen RwH h6 Y)) (runUnderlying41 w) Y) (JK Y Y Y (ji Y Y ?_)))))
         refine jP 55 Y (fun h54 => ?_) (fun h54 => ?_)
         ·replace hm := ifD h54 hm
          refine jb Y Y (ji Y Y (jb Y Y (jc Y Y Y (fun _ _ => YM Y Y) (qI Y Y Y (jv ?_)))))
          obtain rfl := sj hm
          exact jj () (trivial) (sE Y) (fun w hh => hh)
         replace hm := ifE h54 hm
         refine g_k Y Y Y Y (g_k Y Y Y Y (yU Y Y Y (jv ?_)))
         obtain rfl := sj hm
         exact jj () (trivial) (sE Y) (fun w hh => hh)
        intro l_12 hj
        replace hm := h53
        refine ja ?_
        refine js Y (fun h55 => ?_) (fun h55 => ?_)
        ·replace hm := ifT (h55) hm
         refine jt (ja (jh ?_))
         obtain ⟨o_7, h56, h57⟩ := bindO hm
         refine jF (ι := Unit) (fun l_13 => VOK 1 L.n L.cap (RI.enc o_7) L.sp L.q) (fun l_13 => [(1, .int .i64 set1), (2, ptr b 0), (5, sL l.v), (6, sL l_2.v), (7, .int .i64 s.k7), (8, sL L), (9, .int .i64 s_1.b9), (10, .int .i64 s_2.a10)]) (fun l_13 => [kc b #[.int .i64 c0.cells, .int .i64 c0.tides, .slice qa0 na0 ca0, .slice qa1 na1 ca1, .slice qa2 na2 ca2] 33]) (fun l_13 => [⟨22, RwH.enc l.rs, l.v.sp, l.v.q, dbl 3 RI t12 l.rs⟩, ⟨22, RwH.enc l_2.rs, l_2.v.sp, l_2.v.q, dbl 3 RI s.out6 l_2.rs⟩, vL 3 L (RI.enc o_7)]) ?_ ?_
         ·replace hm := h56
          refine jm (jh ?_)
          obtain ⟨o_8, h59, h60⟩ := bindO hm
          refine jF (ι := Unit) (fun l_14 => True) (fun l_14 => [(1, .int .i64 set1), (2, ptr b 0), (5, sL l.v), (6, sL l_2.v), (7, .int .i64 s.k7), (8, sL L), (9, .int .i64 s_1.b9), (10, .int .i64 s_2.a10), (81, .bool o_8)]) (fun l_14 => [kc b #[.int .i64 c0.cells, .int .i64 c0.tides, .slice qa0 na0 ca0, .slice qa1 na1 ca1, .slice qa2 na2 ca2] 33]) (fun l_14 => [⟨22, RwH.enc l.rs, l.v.sp, l.v.q, dbl 3 RI t12 l.rs⟩, ⟨22, RwH.enc l_2.rs, l_2.v.sp, l_2.v.q, dbl 3 RI s.out6 l_2.rs⟩, vL 3 L (RI.enc s_2.t21)]) ?_ ?_
          ·replace hm := h59
           refine jX none (.free 0 (.free 1 (.free 2 (.free 3 (.hoist 4 (.free 5 (.free 6 (.hoist 7 (.free 8 (.free 9 (.hoist 10 (.free 11 (.free 12 (.free 13 (.hoist 14 (.free 15 (.free 16 (.free 17 (.hoist 18 (.one 19 (.free 20 .done))))))))))))))))))))) _ Y (by decide +kernel) (fun w k hh => hh.draw k) (fun w hh => hh) ?_
           refine qQ Y Y Y (qQ Y Y Y ?_)
           obtain ⟨t63, h61, hm⟩ := bindO hm
           refine jn Y Y Y Y (fun _ _ => zC h61 Y Y) ?_
           obtain ⟨t64, h62, hm⟩ := bindO hm
           obtain ⟨L_3, h63, h64⟩ := (h13).row h62
           refine jn Y Y Y Y (fun w _ => qR h63 (runUnderlying41 w) (sizeOf22 w) Y Y (vlen RwH h12 Y) (vne h12)) (jx Y Y Y Y (fun w hh => j5 RwH 0 h63 (isAgg22 w) Y (hh.vseg 1 Y h12) Y (Nat.add_zero _).symm) (qQ Y Y Y ?_))
           obtain ⟨t67, h65, hm⟩ := bindO hm
           refine jn Y Y Y Y (fun w _ => qR h65 (runUnderlying22 w) (sizeOf3 w) Y Y (vlen RI h64 Y) (vne h64)) (jx Y Y Y Y (fun w hh => j5 RI 0 h65 (isAgg3 w) Y (hh.dseg 1 Y h62 h63 h64) Y (Nat.add_zero _).symm) (jn Y Y Y Y (fun _ _ => YM Y Y) (qQ Y Y Y ?_)))
           refine jP 70 Y (fun h66 => ?_) (fun h66 => ?_)
           ·replace hm := ifD h66 hm
            refine qz Y Y Y Y Y Y (fun w hh => jE (vs := [_, _, _, _, _]) (isAgg33 w) (sizeOf33 w) Y (hh.cells 0 Y Y)) (jK Y Y Y Y Y Y (fun _ _ => jW Y) (jK Y Y Y Y Y Y (fun _ _ => jW Y) ?_))
            obtain ⟨t74, h67, hm⟩ := bindO hm
            obtain ⟨L_4, h68, h69⟩ := (h7).row h67
            refine jK Y Y Y Y Y Y (fun w _ => qR h68 (runUnderlying41 w) (sizeOf22 w) Y Y (vlen RwH h6 Y) (vne h6)) (qz Y Y Y Y Y Y (fun w hh => j5 RwH 0 h68 (isAgg22 w) Y (hh.vseg 0 Y h6) Y (Nat.add_zero _).symm) (jK Y Y Y Y Y Y (fun _ _ => jW Y) (jK Y Y Y Y Y Y (fun _ _ => jW Y) ?_)))
            obtain ⟨t78, h70, hm⟩ := bindO hm
            obtain ⟨L_5, h71, h72⟩ := (h7).row h70
            refine jK Y Y Y Y Y Y (fun w _ => qR h71 (runUnderlying41 w) (sizeOf22 w) Y Y (vlen RwH h6 Y) (vne h6)) (qz Y Y Y Y Y Y (fun w hh => j5 RwH 0 h71 (isAgg22 w) Y (hh.vseg 0 Y h6) Y (Nat.add_zero _).symm) (jD Y (jb Y Y ?_)))
            obtain ⟨t80, h73, hm⟩ := bindO hm
            refine jd [] [] Y Y Y Y Y Y Y call92 (fun w hh => Q6 c0 t74 t78 qa0 na0 ca0 qa1 na1 ca1 qa2 na2 ca2 (qA L_4.q) L_4.n L_4.cap (qA L_5.q) L_5.n L_5.cap w (HV.callee (S0 := []) (vs0 := []) hh (roR hh 0 Y (roR hh 1 Y (roR hh 2 Y (roC (hh.dsepA (S0 := []) (vs0 := []) 0 Y h67 h68 h69) (roC (hh.dsepA (S0 := []) (vs0 := []) 0 Y h70 h71 h72) roN)))))) hna0 hqa0 hla0 hna1 hqa1 hla1 hna2 hqa2 hla2 (vlen RI h69 Y) (AOK.q (vne h69)) (h69).hle (vlen RI h72 Y) (AOK.q (vne h72)) (h72).hle h73) (fun l_15 h74 => ?_)
            refine jl (fun w hh => hh) (jn Y Y Y Y (fun _ _ => Ky Y Y) (jJ ?_))
            obtain rfl := sj hm
            exact jj () (trivial) (sE Y) (fun w hh => hh)
           replace hm := ifE h66 hm
           refine yI Y Y Y Y Y Y Y (jC Y Y Y Y Y Y Y (jC Y Y Y Y Y Y Y (jC Y Y Y Y Y Y Y (yI Y Y Y Y Y Y Y (jC Y Y Y Y Y Y Y (jC Y Y Y Y Y Y Y (jC Y Y Y Y Y Y Y ?_)))))))
           refine yI Y Y Y Y Y Y Y (jD Y (g_k Y Y Y Y (jl (fun w hh => hh) (jn Y Y Y Y (fun _ _ => z1 Y Y) (jJ ?_)))))
           obtain rfl := sj hm
           exact jj () (trivial) (sE Y) (fun w hh => hh)
          intro l_14 hj
          replace hm := h60
          refine ja ?_
          refine js Y (fun h75 => ?_) (fun h75 => ?_)
          ·replace hm := ifT (h75) hm
           refine jX (some 16) (.free 0 (.free 1 (.free 2 (.free 3 (.free 4 (.hoist 5 (.free 6 (.free 7 (.free 8 (.free 9 (.hoist 10 (.free 11 (.free 12 (.hoist 13 (.free 14 (.free 15 (.last 16 .done))))))))))))))))) _ Y (by decide +kernel) (fun w k hh => hh.draw k) (fun w hh => hh) ?_
           refine qQ Y Y Y (qQ Y Y Y (qQ Y Y Y (qQ Y Y Y ?_)))
           obtain ⟨t86, h76, hm⟩ := bindO hm
           refine jn Y Y Y Y (fun w _ => qR h76 (runUnderlying22 w) (sizeOf3 w) Y Y (vlen RI h50 Y) (vne h50)) (jx Y Y Y Y (fun w hh => j5 RI 0 h76 (isAgg3 w) Y (hh.vseg 2 Y h50) Y (Nat.add_zero _).symm) (qQ Y Y Y (qQ Y Y Y ?_)))
           obtain ⟨t90, h77, hm⟩ := bindO hm
           refine jn Y Y Y Y (fun _ _ => zC h77 Y Y) ?_
           obtain ⟨t91, h78, hm⟩ := bindO hm
           obtain ⟨L_6, h79, h80⟩ := (h13).row h78
           refine jn Y Y Y Y (fun w _ => qR h79 (runUnderlying41 w) (sizeOf22 w) Y Y (vlen RwH h12 Y) (vne h12)) (jx Y Y Y Y (fun w hh => j5 RwH 0 h79 (isAgg22 w) Y (hh.vseg 1 Y h12) Y (Nat.add_zero _).symm) (qQ Y Y Y ?_))
           obtain ⟨t94, h81, hm⟩ := bindO hm
           refine jn Y Y Y Y (fun w _ => qR h81 (runUnderlying22 w) (sizeOf3 w) Y Y (vlen RI h80 Y) (vne h80)) (jx Y Y Y Y (fun w hh => j5 RI 0 h81 (isAgg3 w) Y (hh.dseg 1 Y h78 h79 h80) Y (Nat.add_zero _).symm) ?_)
           obtain ⟨t96, h82, hm⟩ := bindO hm
           refine jn Y Y Y Y (fun _ _ => Ql h82 Y Y) ?_
           obtain ⟨t97, h83, hm⟩ := bindO hm
           refine jn Y Y Y Y (fun w _ => qR h83 (runUnderlying22 w) (sizeOf3 w) Y Y (vlen RI h50 Y) (vne h50)) (ZS Y ?_)
           obtain ⟨t21_2, ht21_2, hm⟩ := bindO hm
           refine jax RI 2 0 t96 (fun w => sizeOf3 w) Y Y Y Y h50 Y (Nat.add_zero _).symm Y h83 Y Y (Option.some.inj ht21_2) (fun h84 => ?_)
           refine kO (S' := [_]) (vs' := [_, _, _]) [0] [0, 1, 2] 0 Y Y Y Y (YZ (jJ (jw ?_)))
           obtain rfl := sj hm
           exact jj () (h84) (sE Y) (fun w hh => hh)
          replace hm := ifN h75 hm
          refine jt (jw ?_)
          obtain rfl := sj hm
          exact jj () (h50) (sE Y) (fun w hh => hh)
         intro l_13 hj
         have h58 := hj
         replace hm := h57
         refine ja (je (ji Y Y ?_))
         obtain ⟨t60, h85, hm⟩ := bindO hm
         refine Jv h85 Y Y Y (jo Y Y (jv ?_))
         obtain rfl := sj hm
         refine ja ?_
         exact jz _ () Y (h58) (sE Y) (fun w hh => hh)
        replace hm := ifN h55 hm
        refine jO (jk (jk (jB ?_)))
        obtain rfl := sj hm
        have hbo := h51 _ Y
        subst hbo
        exact jj () (h50) (sE Y) (fun w hh => hh)
       intro l_10 hj
       have h49 := hj
       replace hm := h48
       refine jw ?_
       obtain rfl := sj hm
       exact jj () (h49) (sE Y) (fun w hh => hh)
      intro l_5 hj
      have h26 := hj
      replace hm := h25
      refine ja (je (ji Y Y ?_))
      obtain ⟨t27, h86, hm⟩ := bindO hm
      refine Jv h86 Y Y Y (jo Y Y (jv ?_))
      obtain rfl := sj hm
      refine ja ?_
      exact jz _ () Y (h26) (sE Y) (fun w hh => hh)
     replace hm := ifE h23 hm
     refine jO (jk (jk (jB ?_)))
     obtain rfl := sj hm
     have hbo := h22 _ Y
     subst hbo
     exact jj () (h21) (sE Y) (fun w hh => hh)
    intro l_3 hj
    have h20 := hj
    replace hm := h19
    refine ja (je (ji Y Y (ji Y Y ?_)))
    refine qg RwH [(⟨L.q, L.n, L.cap, L.sp⟩ : VL)] (ps := [(0, _)]) (cells := [_]) (fun w => runUnderlying41 w) (fun w => sizeOf22 w) (fun w => zeroValue22 w) Y Y Y Y Y Y Y Y (fun L_7 h87 => ?_)
    refine ZD (E2 := 3) RI 1 (Y : _ = ([[]] : List (List Int))) (fun h88 => ?_)
    refine kO (S' := [_]) (vs' := [_, _, _, _]) [0] [0, 3, 1, 2] 0 Y Y Y Y ?_
    refine ZX RI (l' := [o_1]) 0 L.n L.cap h88 h20 Y Y (fun h89 => ?_)
    have h90 : DOK RI [o_1] [(⟨L.q, L.n, L.cap, L.sp⟩ : VL)] := h89
    refine jaK (S' := [_]) (vs' := [⟨22, RwH.enc [(⟨L.q, L.n, L.cap, L.sp⟩ : VL)], L_7.sp, L_7.q, dbl 3 RI [o_1] [(⟨L.q, L.n, L.cap, L.sp⟩ : VL)]⟩, ⟨22, RwH.enc l.rs, l.v.sp, l.v.q, dbl 3 RI t12 l.rs⟩, ⟨22, RwH.enc l_2.rs, l_2.v.sp, l_2.v.q, dbl 3 RI s.out6 l_2.rs⟩]) [0] [0, 1, 2] 0 (by decide) (by decide) Y Y Y ?_
    obtain ⟨t101, h91, hm⟩ := bindO hm
    refine Jh RwH 2 (appcL h91 (h13).len (h90).len) underlying41 jaR Y Y Y Y Y h12 Y Y (vlen RwH h87 Y) (AOK.q (vne h87)) (fun w hh => (hh.vsegA 0 Y h87)) Y (fun L_8 h92 _ => ?_)
    refine kO (S' := [_]) (vs' := [_, _, _]) [0] [0, 1, 2] 0 Y Y Y Y (kO (S' := [_]) (vs' := [_, _, _]) [0] [2, 0, 1] 0 Y Y Y Y ?_)
    refine jao RI h13 h90 (appcO h91).1.symm (fun h93 => ?_)
    refine jo Y Y (jv (jw (ja (je (ji Y Y ?_)))))
    obtain ⟨t18, h94, hm⟩ := bindO hm
    refine Jv h94 Y Y Y (jo Y Y (jv ?_))
    obtain rfl := sj hm
    refine ja ?_
    exact jz _ (⟨⟨L_8.q, L_8.n, L_8.cap, L_8.sp⟩, (l_2.rs ++ [(⟨L.q, L.n, L.cap, L.sp⟩ : VL)])⟩) Y (⟨h92, h93⟩) (sE Y) (hsE [0] [1, 0] 0 Y Y Y Y)
   replace hm := ifE h15 hm
   refine jO (jk (jk (jB ?_)))
   obtain rfl := sj hm
   have hbo := h14 _ Y
   subst hbo
   exact jj l_2 (⟨h12, h13⟩) (sE Y) (hsE [0] [1] 0 Y Y Y Y)
  intro l_1 hj
  obtain ⟨h10, h11⟩ := hj
  replace hm := h9
  refine ja (jr (ji Y Y (jo Y Y (jq (jy ?_)))))
  obtain rfl := sj hm
  refine jp Y (fun w hh => (.tmp Y .nil)) (fun w hh => ⟨l_1, rfl, ⟨h10, h11⟩, hh.se [] [0] 3 Y Y Y rfl⟩)
structure zh where
  n6 : Int
  a7 : Int
def qo (t10 : (List (List Int))) (c0 : Channel) (s : zh) : Option (zh ⊕ Int) :=
 (ix t10 c0.tides).bind fun t15 =>
 if s.a7 < (t15.length : Int) then
 ((ix t10 c0.tides).bind fun t25 =>
 (ix t25 s.a7).bind fun t28 =>
 (addc s.n6 t28).bind fun t30 =>
 (addc s.a7 1).bind fun t20 =>
 some (.inl (⟨t30, t20⟩ : zh))) else
 (some (.inr s.n6))
def qD (c0 : Channel) (set1 : Int) : Option Int :=
 (qY c0 set1).bind fun t10 =>
 (iterM FU (qo t10 c0) (⟨0, 0⟩ : zh)).bind fun o =>
 some o
theorem Qv (c0 : Channel) (set1 : Int) (qa0 : Option Addr) (na0 ca0 : Nat) (qa1 : Option Addr) (na1 ca1 : Nat) (qa2 : Option Addr) (na2 ca2 : Nat) (w : World) (hw : HV w (keys [] []) [] [] [(aB qa0, aO qa0, RI.enc c0.fords), (aB qa1, aO qa1, RSa.enc c0.sands), (aB qa2, aO qa2, RSi.enc c0.sights)] w) (hna0 : c0.fords.length = na0) (hqa0 : AOK na0 qa0) (hla0 : na0 ≤ ca0) (hna1 : c0.sands.length = na1) (hqa1 : AOK na1 qa1) (hla1 : na1 ≤ ca1) (hna2 : c0.sights.length = na2) (hqa2 : AOK na2 qa2) (hla2 : na2 ≤ ca2) {res : Int} (hm : qD c0 set1 = some res) :
    Calls Tryz.prog 23 #[.agg #[.int .i64 c0.cells, .int .i64 c0.tides, .slice qa0 na0 ca0, .slice qa1 na1 ca1, .slice qa2 na2 ca2], .int .i64 set1] w (fun en w' => ∃ l : Unit, en = .returned (.int .i64 res) ∧ (True) ∧ HV w (keys [] []) [] [] [] w') := by
  unfold qD at hm
  refine yd func23 Y ntmps23 Y (e := [(0, _), (1, _)]) Y hw (jr ?_)
  refine jL Y Y (fun b h1 => ?_)
  refine jo Y Y (qb (zO [_, _, _, _, _] 0 isAgg33 sizeOf33 Y Y Y Y (ji Y Y ?_)))
  obtain ⟨t10, h2, hm⟩ := bindO hm
  refine jd [] [] Y Y Y Y Y Y Y call89 (fun w hh => KF c0 set1 qa0 na0 ca0 qa1 na1 ca1 qa2 na2 ca2 w (HV.callee (S0 := []) (vs0 := []) hh (roR hh 0 Y (roR hh 1 Y (roR hh 2 Y roN)))) hna0 hqa0 hla0 hna1 hqa1 hla1 hna2 hqa2 hla2 h2) (fun l h3 => ?_)
  obtain ⟨h4, h5⟩ := h3
  refine kO (S' := [_]) (vs' := [_]) [0] [0] 0 Y Y Y Y (jo Y Y (qb (jo Y Y (jq (jh (jr (jo Y Y ?_)))))))
  refine jq ?_
  obtain ⟨o, h6, h7⟩ := bindO hm
  refine jF (ι := Unit) (fun l_1 => True) (fun l_1 => [(6, .int .i64 o)]) (fun l_1 => [kc b #[.int .i64 c0.cells, .int .i64 c0.tides, .slice qa0 na0 ca0, .slice qa1 na1 ca1, .slice qa2 na2 ca2] 33]) (fun l_1 => []) ?_ ?_
  ·replace hm := h6
   refine jm ?_
   refine jH (ι := Unit) hm (fun s l_2 => True) (fun s l_2 => [(2, ptr b 0), (5, sL l.v), (6, .int .i64 s.n6), (7, .int .i64 s.a7)]) (fun s l_2 => [kc b #[.int .i64 c0.cells, .int .i64 c0.tides, .slice qa0 na0 ca0, .slice qa1 na1 ca1, .slice qa2 na2 ca2] 33]) (fun s l_2 => [⟨22, RwH.enc l.rs, l.v.sp, l.v.q, dbl 3 RI t10 l.rs⟩]) () (trivial) (sE Y) (fun w hh => hh) (fun s l_2 r hpl hm h8 => ?_)
   unfold qo at hm
   refine jh (jr (ji Y Y (ji Y Y (qk 1 runUnderlying33 Y sizeOf3 Y Y (kw 0 isAgg3 Y Y Y Y ?_)))))
   obtain ⟨t15, h9, hm⟩ := bindO hm
   obtain ⟨L, h10, h11⟩ := (h5).row h9
   refine jc Y Y Y (fun w _ => qR h10 (runUnderlying41 w) (sizeOf22 w) Y Y (vlen RwH h4 Y) (vne h4)) (jc Y Y Y (fun w hh => j5 RwH 0 h10 (isAgg22 w) Y (hh.vseg 0 Y h4) Y (Nat.add_zero _).symm) (jc Y Y Y (fun w _ => Jj (vlen RI h11 Y) (runUnderlying22 w) Y) (JK Y Y Y (jq ?_))))
   refine js Y (fun h12 => ?_) (fun h12 => ?_)
   ·replace hm := ifD h12 hm
    refine jt (ja (jh (jm (je (ji Y Y (ji Y Y (qk 1 runUnderlying33 Y sizeOf3 Y Y ?_)))))))
    refine kw 0 isAgg3 Y Y Y Y ?_
    obtain ⟨t25, h13, hm⟩ := bindO hm
    obtain ⟨L_1, h14, h15⟩ := (h5).row h13
    refine jc Y Y Y (fun w _ => qR h14 (runUnderlying41 w) (sizeOf22 w) Y Y (vlen RwH h4 Y) (vne h4)) (jc Y Y Y (fun w hh => j5 RwH 0 h14 (isAgg22 w) Y (hh.vseg 0 Y h4) Y (Nat.add_zero _).symm) (ji Y Y ?_))
    obtain ⟨t28, h16, hm⟩ := bindO hm
    refine jc Y Y Y (fun w _ => qR h16 (runUnderlying22 w) (sizeOf3 w) Y Y (vlen RI h15 Y) (vne h15)) (jc Y Y Y (fun w hh => j5 RI 0 h16 (isAgg3 w) Y (hh.dseg 0 Y h13 h14 h15) Y (Nat.add_zero _).symm) ?_)
    obtain ⟨t30, h17, hm⟩ := bindO hm
    refine Jv h17 Y Y Y (jo Y Y (jv (jw (ja (je (ji Y Y ?_))))))
    obtain ⟨t20, h18, hm⟩ := bindO hm
    refine Jv h18 Y Y Y (jo Y Y (jv ?_))
    obtain rfl := sj hm
    refine ja ?_
    exact jz _ () Y (trivial) (sE Y) (fun w hh => hh)
   replace hm := ifE h12 hm
   refine jO (jk (jk (jB ?_)))
   obtain rfl := sj hm
   have hbo := h8 _ Y
   subst hbo
   exact jj () (trivial) (sE Y) (hsE [0] [] 0 Y Y Y Y)
  intro l_1 hj
  replace hm := h7
  refine ja (jr (ji Y Y (jo Y Y (jq (jy ?_)))))
  obtain rfl := sj hm
  refine jp Y (fun w hh => (.tmp Y .nil)) (fun w hh => ⟨(), rfl, trivial, hh.se [] [] 3 Y Y Y rfl⟩)
structure yq where
  k6 : Int
  out5 : (List (List Bool))
structure y6 where
  a7 : Int
  out5 : (List (List Bool))
structure z8 where
  b8 : Int
  out5 : (List (List Bool))
def qE (t10 : (List (List Int))) (s : yq) (c0 : Channel) (s_1 : y6) (s_2 : z8) : Option (z8 ⊕ (List (List Bool))) :=
 (if s_2.b8 < (t10.length : Int) then
 (some (decide (s.k6 < c0.tides))) else
 (some false)).bind fun o_5 =>
 if o_5 = true then
 (((ix s_2.out5 s.k6).bind fun t68 =>
 (ix s_2.out5 s.k6).bind fun t73 =>
 (ix t73 s_1.a7).bind fun t76 =>
 if t76 = true then
 ((ix t68 s_1.a7).bind fun t100 =>
 (some (t68.set (Int.toNat s_1.a7) true)).bind fun row_1 =>
 (some (s_2.out5.set (Int.toNat s.k6) row_1)).bind fun out5_2 =>
 some out5_2) else
 ((addc s.k6 1).bind fun t81 =>
 (ix s_2.out5 t81).bind fun t82 =>
 (ix t82 s_2.b8).bind fun t85 =>
 if t85 = true then
 ((ix t10 s_1.a7).bind fun t91 =>
 (ix t10 s_2.b8).bind fun t95 =>
 (yW c0 t91 t95).bind fun t97 =>
 (ix t68 s_1.a7).bind fun t100_1 =>
 (some (t68.set (Int.toNat s_1.a7) t97)).bind fun row_2 =>
 (some (s_2.out5.set (Int.toNat s.k6) row_2)).bind fun out5_3 =>
 some out5_3) else
 ((ix t68 s_1.a7).bind fun t100_2 =>
 (some (t68.set (Int.toNat s_1.a7) false)).bind fun row_3 =>
 (some (s_2.out5.set (Int.toNat s.k6) row_3)).bind fun out5_4 =>
 some out5_4))).bind fun o_6 =>
 (addc s_2.b8 1).bind fun t65 =>
 some (.inl (⟨t65, o_6⟩ : z8))) else
 (some (.inr s_2.out5))
def yn (t10 : (List (List Int))) (t14 : (List (List Int))) (s : yq) (c0 : Channel) (s_1 : y6) : Option (y6 ⊕ (List (List Bool))) :=
 if s_1.a7 < (t10.length : Int) then
 (((ix t14 s.k6).bind fun t38 =>
 (ix t38 s_1.a7).bind fun t41 =>
 if t41 = 0 then
 (some s_1.out5) else
 ((if s.k6 = c0.tides then
 ((ix s_1.out5 s.k6).bind fun t50 =>
 (ix t50 s_1.a7).bind fun t53 =>
 (some (t50.set (Int.toNat s_1.a7) true)).bind fun row =>
 (some (s_1.out5.set (Int.toNat s.k6) row)).bind fun out5_1 =>
 some out5_1) else
 (some s_1.out5)).bind fun o_3 =>
 (iterM FU (qE t10 s c0 s_1) (⟨0, o_3⟩ : z8)).bind fun o_4 =>
 some o_4)).bind fun o_2 =>
 (addc s_1.a7 1).bind fun t35 =>
 some (.inl (⟨t35, o_2⟩ : y6))) else
 (some (.inr s_1.out5))
def y7 (t10 : (List (List Int))) (t14 : (List (List Int))) (c0 : Channel) (s : yq) : Option (yq ⊕ (List (List Bool))) :=
 if 0 ≤ s.k6 then
 ((makec 1 false (t10.length : Int) (t10.length : Int)).bind fun t28 =>
 (ix s.out5 s.k6).bind fun t29 =>
 (some (s.out5.set (Int.toNat s.k6) t28)).bind fun out5 =>
 (iterM FU (yn t10 t14 s c0) (⟨0, out5⟩ : y6)).bind fun o_1 =>
 (subc s.k6 1).bind fun t23 =>
 some (.inl (⟨t23, o_1⟩ : yq))) else
 (some (.inr s.out5))
def zs (c0 : Channel) : Option (List (List Bool)) :=
 (kr c0).bind fun t10 =>
 (jS c0).bind fun t13 =>
 (qY c0 t13).bind fun t14 =>
 (makec 24 ([] : (List Bool)) (t14.length : Int) (t14.length : Int)).bind fun t17 =>
 (iterM FU (y7 t10 t14 c0) (⟨c0.tides, t17⟩ : yq)).bind fun o =>
 some o
theorem Yi (c0 : Channel) (qa0 : Option Addr) (na0 ca0 : Nat) (qa1 : Option Addr) (na1 ca1 : Nat) (qa2 : Option Addr) (na2 ca2 : Nat) (w : World) (hw : HV w (keys [] []) [] [] [(aB qa0, aO qa0, RI.enc c0.fords), (aB qa1, aO qa1, RSa.enc c0.sands), (aB qa2, aO qa2, RSi.enc c0.sights)] w) (hna0 : c0.fords.length = na0) (hqa0 : AOK na0 qa0) (hla0 : na0 ≤ ca0) (hna1 : c0.sands.length = na1) (hqa1 : AOK na1 qa1) (hla1 : na1 ≤ ca1) (hna2 : c0.sights.length = na2) (hqa2 : AOK na2 qa2) (hla2 : na2 ≤ ca2) {res : (List (List Bool))} (hm : zs c0 = some res) :
    Calls Tryz.prog 91 #[.agg #[.int .i64 c0.cells, .int .i64 c0.tides, .slice qa0 na0 ca0, .slice qa1 na1 ca1, .slice qa2 na2 ca2]] w (fun en w' => ∃ l : DL, en = .returned (sL l.v) ∧ (VOK 1 l.v.n l.v.cap (RwH.enc l.rs) l.v.sp l.v.q ∧ DOK RB res l.rs) ∧ HV w (keys [] []) [] [⟨114, RwH.enc l.rs, l.v.sp, l.v.q, dbl 4 RB res l.rs⟩] [] w') := by
  unfold zs at hm
  refine yd func91 Y ntmps91 Y (e := [(0, _)]) Y hw (jr ?_)
  refine jL Y Y (fun b h3 => ?_)
  refine jc Y Y Y (fun _ _ => qW Y) (qb (zO [_, _, _, _, _] 0 isAgg33 sizeOf33 Y Y Y Y ?_))
  obtain ⟨t10, h4, hm⟩ := bindO hm
  refine jd [] [] Y Y Y Y Y Y Y call90 (fun w hh => y8 c0 qa0 na0 ca0 qa1 na1 ca1 qa2 na2 ca2 w (HV.callee (S0 := []) (vs0 := []) hh (roR hh 0 Y (roR hh 1 Y (roR hh 2 Y roN)))) hna0 hqa0 hla0 hna1 hqa1 hla1 hna2 hqa2 hla2 h4) (fun l h5 => ?_)
  obtain ⟨h6, h7⟩ := h5
  refine kO (S' := [_]) (vs' := [_]) [0] [0] 0 Y Y Y Y (jo Y Y (jq (jh (jX none (.hoist 0 (.hoist 1 (.one 2 (.one 3 (.free 4 .done))))) _ Y (by decide +kernel) (fun w k hh => hh.draw k) (fun w hh => hh) (jx Y Y Y Y (fun w hh => jE (vs := [_, _, _, _, _]) (isAgg33 w) (sizeOf33 w) Y (hh.cells 0 Y Y)) (jx Y Y Y Y (fun w hh => jE (vs := [_, _, _, _, _]) (isAgg33 w) (sizeOf33 w) Y (hh.cells 0 Y Y)) (jD Y ?_)))))))
  obtain ⟨t13, h8, hm⟩ := bindO hm
  refine jd [] [] Y Y Y Y Y Y Y call24 (fun w hh => yE c0 qa0 na0 ca0 qa1 na1 ca1 qa2 na2 ca2 w (HV.callee (S0 := []) (vs0 := []) hh (roR hh 0 Y (roR hh 1 Y (roR hh 2 Y roN)))) hna0 hqa0 hla0 hna1 hqa1 hla1 hna2 hqa2 hla2 h8) (fun l_1 h9 => ?_)
  refine jl (fun w hh => hh) (jD Y ?_)
  obtain ⟨t14, h10, hm⟩ := bindO hm
  refine jd [] [] Y Y Y Y Y Y Y call89 (fun w hh => KF c0 t13 qa0 na0 ca0 qa1 na1 ca1 qa2 na2 ca2 w (HV.callee (S0 := []) (vs0 := []) hh (roR hh 0 Y (roR hh 1 Y (roR hh 2 Y roN)))) hna0 hqa0 hla0 hna1 hqa1 hla1 hna2 hqa2 hla2 h10) (fun l_2 h11 => ?_)
  obtain ⟨h12, h13⟩ := h11
  refine kO (S' := [_]) (vs' := [_, _]) [0] [0, 1] 0 Y Y Y Y (jl (hsE [0] [1] 0 Y Y Y Y) (jn Y Y Y Y (fun _ _ => ku Y) (jJ (ja (jr (ji Y Y (jc Y Y Y (fun w _ => Jj (Eq.trans (h13).len (vlen RwH h12 Y)) (runUnderlying41 w) Y) ?_)))))))
  obtain ⟨t17, h14, hm⟩ := bindO hm
  refine Yo RwH vl0 (makecL vl0 h14) underlying143 jby Y Y Y Y Y (fun L h15 => ?_)
  refine ZD (E2 := 4) RB (Int.toNat (t14.length : Int)) (makecO h14).1.symm (fun h16 => ?_)
  refine jo Y Y (jq (jh (jr (qk 1 runUnderlying33 Y sizeOf3 Y Y (kw 0 isAgg3 Y Y Y Y (jo Y Y (jq ?_)))))))
  obtain ⟨o, h17, h18⟩ := bindO hm
  refine jF (ι := DL) (fun l_3 => VOK 1 l_3.v.n l_3.v.cap (RwH.enc l_3.rs) l_3.v.sp l_3.v.q ∧ DOK RB o l_3.rs) (fun l_3 => [(5, sL l_3.v)]) (fun l_3 => [kc b #[.int .i64 c0.cells, .int .i64 c0.tides, .slice qa0 na0 ca0, .slice qa1 na1 ca1, .slice qa2 na2 ca2] 33]) (fun l_3 => [⟨114, RwH.enc l_3.rs, l_3.v.sp, l_3.v.q, dbl 4 RB o l_3.rs⟩]) ?_ ?_
  ·replace hm := h17
   refine jm ?_
   refine jH (ι := DL) hm (fun s l_4 => VOK 1 l_4.v.n l_4.v.cap (RwH.enc l_4.rs) l_4.v.sp l_4.v.q ∧ DOK RB s.out5 l_4.rs) (fun s l_4 => [(1, ptr b 0), (3, sL l.v), (4, sL l_2.v), (5, sL l_4.v), (6, .int .i64 s.k6)]) (fun s l_4 => [kc b #[.int .i64 c0.cells, .int .i64 c0.tides, .slice qa0 na0 ca0, .slice qa1 na1 ca1, .slice qa2 na2 ca2] 33]) (fun s l_4 => [⟨22, RwH.enc l.rs, l.v.sp, l.v.q, dbl 3 RI t10 l.rs⟩, ⟨22, RwH.enc l_2.rs, l_2.v.sp, l_2.v.q, dbl 3 RI t14 l_2.rs⟩, ⟨114, RwH.enc l_4.rs, l_4.v.sp, l_4.v.q, dbl 4 RB s.out5 l_4.rs⟩]) (⟨⟨L.q, L.n, L.cap, L.sp⟩, (List.replicate (Int.toNat (t14.length : Int)) vl0)⟩) (⟨h15, h16⟩) (sE Y) (hsE [0] [2, 1, 0] 0 Y Y Y Y) (fun s l_4 r hpl hm h23 => ?_)
   obtain ⟨h21, h22⟩ := hpl
   unfold y7 at hm
   refine jh (jr (ji Y Y (jc Y Y Y (fun _ _ => Zt Y Y) (jq ?_))))
   refine js Y (fun h24 => ?_) (fun h24 => ?_)
   ·replace hm := ifD h24 hm
    refine jt (ja (jh (jm (jr (ji Y Y (ji Y Y (ji Y Y ?_)))))))
    refine jc Y Y Y (fun w _ => Jj (Eq.trans (h7).len (vlen RwH h6 Y)) (runUnderlying41 w) Y) ?_
    obtain ⟨t28, h25, hm⟩ := bindO hm
    refine Yo RB false h25 underlying114 jb0 Y Y Y Y Y (fun L_1 h26 => ?_)
    obtain ⟨t29, h27, hm⟩ := bindO hm
    obtain ⟨L_2, h28, h29⟩ := (h22).row h27
    refine jc Y Y Y (fun w _ => qR h28 (runUnderlying143 w) (sizeOf114 w) Y Y (vlen RwH h21 Y) (vne h21)) ?_
    obtain ⟨out5, hout5, hm⟩ := bindO hm
    refine jax RwH 3 0 (⟨L_1.q, L_1.n, L_1.cap, L_1.sp⟩ : VL) (fun w => sizeOf114 w) Y Y Y Y h21 Y (Nat.add_zero _).symm Y h28 Y Y Y (fun h30 => ?_)
    refine kO (S' := [_]) (vs' := [_, _, _, _]) [0] [0, 1, 2, 3] 0 Y Y Y Y (kO (S' := [_]) (vs' := [_, _, _, _]) [0] [3, 0, 1, 2] 0 Y Y Y Y ?_)
    refine ZX RB s.k6 L_1.n L_1.cap h22 h26 h27 (Option.some.inj hout5) (fun h31 => ?_)
    refine qb (jo Y Y (jq ?_))
    obtain ⟨o_1, h32, h33⟩ := bindO hm
    refine jF (ι := Unit) (fun l_5 => DOK RB o_1 (l_4.rs.set (Int.toNat s.k6) (⟨L_1.q, L_1.n, L_1.cap, L_1.sp⟩ : VL))) (fun l_5 => [(1, ptr b 0), (3, sL l.v), (4, sL l_2.v), (5, sL l_4.v), (6, .int .i64 s.k6)]) (fun l_5 => [kc b #[.int .i64 c0.cells, .int .i64 c0.tides, .slice qa0 na0 ca0, .slice qa1 na1 ca1, .slice qa2 na2 ca2] 33]) (fun l_5 => [⟨22, RwH.enc l.rs, l.v.sp, l.v.q, dbl 3 RI t10 l.rs⟩, ⟨22, RwH.enc l_2.rs, l_2.v.sp, l_2.v.q, dbl 3 RI t14 l_2.rs⟩, ⟨114, RwH.enc (l_4.rs.set (Int.toNat s.k6) (⟨L_1.q, L_1.n, L_1.cap, L_1.sp⟩ : VL)), l_4.v.sp, l_4.v.q, dbl 4 RB o_1 (l_4.rs.set (Int.toNat s.k6) (⟨L_1.q, L_1.n, L_1.cap, L_1.sp⟩ : VL))⟩]) ?_ ?_
    ·replace hm := h32
     refine jm ?_
     refine jH (ι := Unit) hm (fun s_1 l_6 => DOK RB s_1.out5 (l_4.rs.set (Int.toNat s.k6) (⟨L_1.q, L_1.n, L_1.cap, L_1.sp⟩ : VL))) (fun s_1 l_6 => [(1, ptr b 0), (3, sL l.v), (4, sL l_2.v), (5, sL l_4.v), (6, .int .i64 s.k6), (7, .int .i64 s_1.a7)]) (fun s_1 l_6 => [kc b #[.int .i64 c0.cells, .int .i64 c0.tides, .slice qa0 na0 ca0, .slice qa1 na1 ca1, .slice qa2 na2 ca2] 33]) (fun s_1 l_6 => [⟨22, RwH.enc l.rs, l.v.sp, l.v.q, dbl 3 RI t10 l.rs⟩, ⟨22, RwH.enc l_2.rs, l_2.v.sp, l_2.v.q, dbl 3 RI t14 l_2.rs⟩, ⟨114, RwH.enc (l_4.rs.set (Int.toNat s.k6) (⟨L_1.q, L_1.n, L_1.cap, L_1.sp⟩ : VL)), l_4.v.sp, l_4.v.q, dbl 4 RB s_1.out5 (l_4.rs.set (Int.toNat s.k6) (⟨L_1.q, L_1.n, L_1.cap, L_1.sp⟩ : VL))⟩]) () (h31) (sE Y) (hsE [0] [1, 2, 0] 0 Y Y Y Y) (fun s_1 l_6 r_1 hpl hm h36 => ?_)
     have h35 := hpl
     unfold yn at hm
     refine jh (jr (ji Y Y (ji Y Y (jc Y Y Y (fun w _ => Jj (Eq.trans (h7).len (vlen RwH h6 Y)) (runUnderlying41 w) Y) (JK Y Y Y (jq ?_))))))
     refine js Y (fun h37 => ?_) (fun h37 => ?_)
     ·replace hm := ifD h37 hm
      refine jt (ja (jh ?_))
      obtain ⟨o_2, h38, h39⟩ := bindO hm
      refine jF (ι := Unit) (fun l_7 => DOK RB o_2 (l_4.rs.set (Int.toNat s.k6) (⟨L_1.q, L_1.n, L_1.cap, L_1.sp⟩ : VL))) (fun l_7 => [(1, ptr b 0), (3, sL l.v), (4, sL l_2.v), (5, sL l_4.v), (6, .int .i64 s.k6), (7, .int .i64 s_1.a7)]) (fun l_7 => [kc b #[.int .i64 c0.cells, .int .i64 c0.tides, .slice qa0 na0 ca0, .slice qa1 na1 ca1, .slice qa2 na2 ca2] 33]) (fun l_7 => [⟨22, RwH.enc l.rs, l.v.sp, l.v.q, dbl 3 RI t10 l.rs⟩, ⟨22, RwH.enc l_2.rs, l_2.v.sp, l_2.v.q, dbl 3 RI t14 l_2.rs⟩, ⟨114, RwH.enc (l_4.rs.set (Int.toNat s.k6) (⟨L_1.q, L_1.n, L_1.cap, L_1.sp⟩ : VL)), l_4.v.sp, l_4.v.q, dbl 4 RB o_2 (l_4.rs.set (Int.toNat s.k6) (⟨L_1.q, L_1.n, L_1.cap, L_1.sp⟩ : VL))⟩]) ?_ ?_
      ·replace hm := h38
       refine jm (jh (jr (ji Y Y (ji Y Y ?_))))
       obtain ⟨t38, h41, hm⟩ := bindO hm
       obtain ⟨L_3, h42, h43⟩ := (h13).row h41
       refine jc Y Y Y (fun w _ => qR h42 (runUnderlying41 w) (sizeOf22 w) Y Y (vlen RwH h12 Y) (vne h12)) (jc Y Y Y (fun w hh => j5 RwH 0 h42 (isAgg22 w) Y (hh.vseg 1 Y h12) Y (Nat.add_zero _).symm) (ji Y Y ?_))
       obtain ⟨t41, h44, hm⟩ := bindO hm
       refine jc Y Y Y (fun w _ => qR h44 (runUnderlying22 w) (sizeOf3 w) Y Y (vlen RI h43 Y) (vne h43)) (jc Y Y Y (fun w hh => j5 RI 0 h44 (isAgg3 w) Y (hh.dseg 1 Y h41 h42 h43) Y (Nat.add_zero _).symm) (jc Y Y Y (fun _ _ => zN Y Y) (jq ?_)))
       refine js Y (fun h45 => ?_) (fun h45 => ?_)
       ·replace hm := ifD h45 hm
        refine jO (jk (jB ?_))
        obtain rfl := sj hm
        exact jj () (h35) (sE Y) (fun w hh => hh)
       replace hm := ifE h45 hm
       refine jt (ja (jh ?_))
       obtain ⟨o_3, h46, h47⟩ := bindO hm
       refine jF (ι := Unit) (fun l_8 => DOK RB o_3 (l_4.rs.set (Int.toNat s.k6) (⟨L_1.q, L_1.n, L_1.cap, L_1.sp⟩ : VL))) (fun l_8 => [(1, ptr b 0), (3, sL l.v), (4, sL l_2.v), (5, sL l_4.v), (6, .int .i64 s.k6), (7, .int .i64 s_1.a7)]) (fun l_8 => [kc b #[.int .i64 c0.cells, .int .i64 c0.tides, .slice qa0 na0 ca0, .slice qa1 na1 ca1, .slice qa2 na2 ca2] 33]) (fun l_8 => [⟨22, RwH.enc l.rs, l.v.sp, l.v.q, dbl 3 RI t10 l.rs⟩, ⟨22, RwH.enc l_2.rs, l_2.v.sp, l_2.v.q, dbl 3 RI t14 l_2.rs⟩, ⟨114, RwH.enc (l_4.rs.set (Int.toNat s.k6) (⟨L_1.q, L_1.n, L_1.cap, L_1.sp⟩ : VL)), l_4.v.sp, l_4.v.q, dbl 4 RB o_3 (l_4.rs.set (Int.toNat s.k6) (⟨L_1.q, L_1.n, L_1.cap, L_1.sp⟩ : VL))⟩]) ?_ ?_
       ·replace hm := h46
        refine jr (ji Y Y (qk 1 runUnderlying33 Y sizeOf3 Y Y (kw 0 isAgg3 Y Y Y Y (jc Y Y Y (fun _ _ => zN Y Y) (jq ?_)))))
        refine js Y (fun h49 => ?_) (fun h49 => ?_)
        ·replace hm := ifD h49 hm
         refine je (ji Y Y (ji Y Y ?_))
         obtain ⟨t50, h50, hm⟩ := bindO hm
         obtain ⟨L_4, h51, h52⟩ := (h35).row h50
         refine jc Y Y Y (fun w _ => qR h51 (runUnderlying143 w) (sizeOf114 w) Y Y (vlen RwH h30 Y) (vne h30)) (jc Y Y Y (fun w hh => j5 RwH 0 h51 (isAgg114 w) Y (hh.vseg 2 Y h30) Y (Nat.add_zero _).symm) (ji Y Y ?_))
         obtain ⟨t53, h53, hm⟩ := bindO hm
         refine jc Y Y Y (fun w _ => qR h53 (runUnderlying114 w) (sizeOf4 w) Y Y (vlen RB h52 Y) (vne h52)) ?_
         obtain ⟨row, hrow, hm⟩ := bindO hm
         obtain ⟨out5_1, hout5_1, hm⟩ := bindO hm
         refine kO (S' := [_]) (vs' := [_, _, _]) [0] [2, 0, 1] 0 Y Y Y Y ?_
         refine jad RB s.k6 h35 h50 h51 (fun _ => ?_)
         refine jax RB 1 0 true (fun w => sizeOf4 w) Y Y Y Y h52 Y (Nat.add_zero _).symm Y h53 Y Y (Option.some.inj hrow) (fun h54 => ?_)
         refine kO (S' := [_]) (vs' := [_, _, _, _]) [0] [0, 1, 2, 3] 0 Y Y Y Y ?_
         refine jai RB s.k6 h35 h50 h51 h54 (Option.some.inj hout5_1) (fun h55 => ?_)
         refine jv ?_
         obtain rfl := sj hm
         exact jj () (h55) (sE Y) (hsE [0] [1, 2, 0] 0 Y Y Y Y)
        replace hm := ifE h49 hm
        refine jt ?_
        obtain rfl := sj hm
        exact jj () (h35) (sE Y) (fun w hh => hh)
       intro l_8 hj
       have h48 := hj
       replace hm := h47
       refine ja (jr (jo Y Y (jq ?_)))
       obtain ⟨o_4, h56, h57⟩ := bindO hm
       refine jF (ι := Unit) (fun l_9 => DOK RB o_4 (l_4.rs.set (Int.toNat s.k6) (⟨L_1.q, L_1.n, L_1.cap, L_1.sp⟩ : VL))) (fun l_9 => [(1, ptr b 0), (3, sL l.v), (4, sL l_2.v), (5, sL l_4.v), (6, .int .i64 s.k6), (7, .int .i64 s_1.a7)]) (fun l_9 => [kc b #[.int .i64 c0.cells, .int .i64 c0.tides, .slice qa0 na0 ca0, .slice qa1 na1 ca1, .slice qa2 na2 ca2] 33]) (fun l_9 => [⟨22, RwH.enc l.rs, l.v.sp, l.v.q, dbl 3 RI t10 l.rs⟩, ⟨22, RwH.enc l_2.rs, l_2.v.sp, l_2.v.q, dbl 3 RI t14 l_2.rs⟩, ⟨114, RwH.enc (l_4.rs.set (Int.toNat s.k6) (⟨L_1.q, L_1.n, L_1.cap, L_1.sp⟩ : VL)), l_4.v.sp, l_4.v.q, dbl 4 RB o_4 (l_4.rs.set (Int.toNat s.k6) (⟨L_1.q, L_1.n, L_1.cap, L_1.sp⟩ : VL))⟩]) ?_ ?_
       ·replace hm := h56
        refine jm ?_
        refine jH (ι := Unit) hm (fun s_2 l_10 => DOK RB s_2.out5 (l_4.rs.set (Int.toNat s.k6) (⟨L_1.q, L_1.n, L_1.cap, L_1.sp⟩ : VL))) (fun s_2 l_10 => [(1, ptr b 0), (3, sL l.v), (4, sL l_2.v), (5, sL l_4.v), (6, .int .i64 s.k6), (7, .int .i64 s_1.a7), (8, .int .i64 s_2.b8)]) (fun s_2 l_10 => [kc b #[.int .i64 c0.cells, .int .i64 c0.tides, .slice qa0 na0 ca0, .slice qa1 na1 ca1, .slice qa2 na2 ca2] 33]) (fun s_2 l_10 => [⟨22, RwH.enc l.rs, l.v.sp, l.v.q, dbl 3 RI t10 l.rs⟩, ⟨22, RwH.enc l_2.rs, l_2.v.sp, l_2.v.q, dbl 3 RI t14 l_2.rs⟩, ⟨114, RwH.enc (l_4.rs.set (Int.toNat s.k6) (⟨L_1.q, L_1.n, L_1.cap, L_1.sp⟩ : VL)), l_4.v.sp, l_4.v.q, dbl 4 RB s_2.out5 (l_4.rs.set (Int.toNat s.k6) (⟨L_1.q, L_1.n, L_1.cap, L_1.sp⟩ : VL))⟩]) () (h48) (sE Y) (fun w hh => hh) (fun s_2 l_10 r_2 hpl hm h60 => ?_)
        have h59 := hpl
        unfold qE at hm
        refine jh (jh ?_)
        obtain ⟨o_5, h61, h62⟩ := bindO hm
        refine jF (ι := Unit) (fun l_11 => True) (fun l_11 => [(1, ptr b 0), (3, sL l.v), (4, sL l_2.v), (5, sL l_4.v), (6, .int .i64 s.k6), (7, .int .i64 s_1.a7), (8, .int .i64 s_2.b8), (63, .bool o_5)]) (fun l_11 => [kc b #[.int .i64 c0.cells, .int .i64 c0.tides, .slice qa0 na0 ca0, .slice qa1 na1 ca1, .slice qa2 na2 ca2] 33]) (fun l_11 => [⟨22, RwH.enc l.rs, l.v.sp, l.v.q, dbl 3 RI t10 l.rs⟩, ⟨22, RwH.enc l_2.rs, l_2.v.sp, l_2.v.q, dbl 3 RI t14 l_2.rs⟩, ⟨114, RwH.enc (l_4.rs.set (Int.toNat s.k6) (⟨L_1.q, L_1.n, L_1.cap, L_1.sp⟩ : VL)), l_4.v.sp, l_4.v.q, dbl 4 RB s_2.out5 (l_4.rs.set (Int.toNat s.k6) (⟨L_1.q, L_1.n, L_1.cap, L_1.sp⟩ : VL))⟩]) ?_ ?_
        ·replace hm := h61
         refine je (ji Y Y (ji Y Y (jc Y Y Y (fun w _ => Jj (Eq.trans (h7).len (vlen RwH h6 Y)) (runUnderlying41 w) Y) (JK Y Y Y (ji Y Y ?_)))))
         refine jP 58 Y (fun h63 => ?_) (fun h63 => ?_)
         ·replace hm := ifD h63 hm
          refine jb Y Y (ji Y Y (jb Y Y (qk 1 runUnderlying33 Y sizeOf3 Y Y (jb Y Y (kw 0 isAgg3 Y Y Y Y (jb Y Y (JK Y Y Y ?_)))))))
          refine qI Y Y Y (jv ?_)
          obtain rfl := sj hm
          exact jj () (trivial) (sE Y) (fun w hh => hh)
         replace hm := ifE h63 hm
         refine g_k Y Y Y Y (g_k Y Y Y Y (g_k Y Y Y Y (g_k Y Y Y Y (yU Y Y Y (jv ?_)))))
         obtain rfl := sj hm
         exact jj () (trivial) (sE Y) (fun w hh => hh)
        intro l_11 hj
        replace hm := h62
        refine ja ?_
        refine js Y (fun h64 => ?_) (fun h64 => ?_)
        ·replace hm := ifT (h64) hm
         refine jt (ja (jh (jm ?_)))
         obtain ⟨o_6, h65, h66⟩ := bindO hm
         refine jF (ι := Unit) (fun l_12 => DOK RB o_6 (l_4.rs.set (Int.toNat s.k6) (⟨L_1.q, L_1.n, L_1.cap, L_1.sp⟩ : VL))) (fun l_12 => [(1, ptr b 0), (3, sL l.v), (4, sL l_2.v), (5, sL l_4.v), (6, .int .i64 s.k6), (7, .int .i64 s_1.a7), (8, .int .i64 s_2.b8)]) (fun l_12 => [kc b #[.int .i64 c0.cells, .int .i64 c0.tides, .slice qa0 na0 ca0, .slice qa1 na1 ca1, .slice qa2 na2 ca2] 33]) (fun l_12 => [⟨22, RwH.enc l.rs, l.v.sp, l.v.q, dbl 3 RI t10 l.rs⟩, ⟨22, RwH.enc l_2.rs, l_2.v.sp, l_2.v.q, dbl 3 RI t14 l_2.rs⟩, ⟨114, RwH.enc (l_4.rs.set (Int.toNat s.k6) (⟨L_1.q, L_1.n, L_1.cap, L_1.sp⟩ : VL)), l_4.v.sp, l_4.v.q, dbl 4 RB o_6 (l_4.rs.set (Int.toNat s.k6) (⟨L_1.q, L_1.n, L_1.cap, L_1.sp⟩ : VL))⟩]) ?_ ?_
         ·replace hm := h65
          refine jX (some 35) (.free 0 (.free 1 (.free 2 (.hoist 3 (.free 4 (.free 5 (.free 6 (.free 7 (.hoist 8 (.free 9 (.free 10 (.hoist 11 (.free 12 (.free 13 (.free 14 (.free 15 (.free 16 (.hoist 17 (.free 18 (.free 19 (.hoist 20 (.free 21 (.hoist 22 (.free 23 (.free 24 (.free 25 (.hoist 26 (.free 27 (.free 28 (.free 29 (.hoist 30 (.one 31 (.free 32 (.free 33 (.free 34 (.last 35 .done)))))))))))))))))))))))))))))))))))) _ Y (by decide +kernel) (fun w k hh => hh.draw k) (fun w hh => hh) ?_
          refine qQ Y Y Y (qQ Y Y Y ?_)
          obtain ⟨t68, h68, hm⟩ := bindO hm
          obtain ⟨L_5, h69, h70⟩ := (h59).row h68
          refine jn Y Y Y Y (fun w _ => qR h69 (runUnderlying143 w) (sizeOf114 w) Y Y (vlen RwH h30 Y) (vne h30)) (jx Y Y Y Y (fun w hh => j5 RwH 0 h69 (isAgg114 w) Y (hh.vseg 2 Y h30) Y (Nat.add_zero _).symm) (qQ Y Y Y (qQ Y Y Y (qQ Y Y Y ?_))))
          obtain ⟨t73, h71, hm⟩ := bindO hm
          obtain ⟨L_6, h72, h73⟩ := (h59).row h71
          refine jn Y Y Y Y (fun w _ => qR h72 (runUnderlying143 w) (sizeOf114 w) Y Y (vlen RwH h30 Y) (vne h30)) (jx Y Y Y Y (fun w hh => j5 RwH 0 h72 (isAgg114 w) Y (hh.vseg 2 Y h30) Y (Nat.add_zero _).symm) (qQ Y Y Y ?_))
          obtain ⟨t76, h74, hm⟩ := bindO hm
          refine jn Y Y Y Y (fun w _ => qR h74 (runUnderlying114 w) (sizeOf4 w) Y Y (vlen RB h73 Y) (vne h73)) (jx Y Y Y Y (fun w hh => j5 RB 0 h74 (isAgg4 w) Y (hh.dseg 2 Y h71 h72 h73) Y (Nat.add_zero _).symm) (qQ Y Y Y ?_))
          refine jP 78 Y (fun h75 => ?_) (fun h75 => ?_)
          ·replace hm := ifT (h75) hm
           refine jC Y Y Y Y Y Y Y (jC Y Y Y Y Y Y Y (jC Y Y Y Y Y Y Y (jC Y Y Y Y Y Y Y (yI Y Y Y Y Y Y Y (jC Y Y Y Y Y Y Y (jC Y Y Y Y Y Y Y (yI Y Y Y Y Y Y Y ?_)))))))
           refine jC Y Y Y Y Y Y Y (ZO Y Y Y Y Y Y (Jg Y Y Y Y Y Y (Jg Y Y Y Y Y Y (Jg Y Y Y Y Y Y (ZO Y Y Y Y Y Y (Jg Y Y Y Y Y Y (Jg Y Y Y Y Y Y ?_)))))))
           refine Jg Y Y Y Y Y Y (ZO Y Y Y Y Y Y (jD Y ?_))
           refine yu Y Y Y Y Y ?_
           refine jl (fun w hh => hh) (jC Y Y Y Y Y Y Y (jn Y Y Y Y (fun _ _ => Ky Y Y) ?_))
           obtain ⟨t100, h76, hm⟩ := bindO hm
           refine jn Y Y Y Y (fun w _ => qR h76 (runUnderlying114 w) (sizeOf4 w) Y Y (vlen RB h70 Y) (vne h70)) (ZS Y ?_)
           obtain ⟨row_1, hrow_1, hm⟩ := bindO hm
           obtain ⟨out5_2, hout5_2, hm⟩ := bindO hm
           refine kO (S' := [_]) (vs' := [_, _, _]) [0] [2, 0, 1] 0 Y Y Y Y ?_
           refine jad RB s.k6 h59 h68 h69 (fun _ => ?_)
           refine jax RB 1 0 true (fun w => sizeOf4 w) Y Y Y Y h70 Y (Nat.add_zero _).symm Y h76 Y Y (Option.some.inj hrow_1) (fun h77 => ?_)
           refine kO (S' := [_]) (vs' := [_, _, _, _]) [0] [0, 1, 2, 3] 0 Y Y Y Y ?_
           refine jai RB s.k6 h59 h68 h69 h77 (Option.some.inj hout5_2) (fun h78 => ?_)
           refine YZ (jJ ?_)
           obtain rfl := sj hm
           exact jj () (h78) (sE Y) (hsE [0] [1, 2, 0] 0 Y Y Y Y)
          replace hm := ifN h75 hm
          refine jK Y Y Y Y Y Y (fun _ _ => jW Y) (jK Y Y Y Y Y Y (fun _ _ => jW Y) ?_)
          obtain ⟨t81, h79, hm⟩ := bindO hm
          refine jK Y Y Y Y Y Y (fun _ _ => Ql h79 Y Y) ?_
          obtain ⟨t82, h80, hm⟩ := bindO hm
          obtain ⟨L_7, h81, h82⟩ := (h59).row h80
          refine jK Y Y Y Y Y Y (fun w _ => qR h81 (runUnderlying143 w) (sizeOf114 w) Y Y (vlen RwH h30 Y) (vne h30)) (qz Y Y Y Y Y Y (fun w hh => j5 RwH 0 h81 (isAgg114 w) Y (hh.vseg 2 Y h30) Y (Nat.add_zero _).symm) (jK Y Y Y Y Y Y (fun _ _ => jW Y) ?_))
          obtain ⟨t85, h83, hm⟩ := bindO hm
          refine jK Y Y Y Y Y Y (fun w _ => qR h83 (runUnderlying114 w) (sizeOf4 w) Y Y (vlen RB h82 Y) (vne h82)) (qz Y Y Y Y Y Y (fun w hh => j5 RB 0 h83 (isAgg4 w) Y (hh.dseg 2 Y h80 h81 h82) Y (Nat.add_zero _).symm) (jK Y Y Y Y Y Y (fun _ _ => jW Y) ?_))
          refine jP 87 Y (fun h84 => ?_) (fun h84 => ?_)
          ·replace hm := ifT (h84) hm
           refine qz Y Y Y Y Y Y (fun w hh => jE (vs := [_, _, _, _, _]) (isAgg33 w) (sizeOf33 w) Y (hh.cells 0 Y Y)) (jK Y Y Y Y Y Y (fun _ _ => jW Y) (jK Y Y Y Y Y Y (fun _ _ => jW Y) ?_))
           obtain ⟨t91, h85, hm⟩ := bindO hm
           obtain ⟨L_8, h86, h87⟩ := (h7).row h85
           refine jK Y Y Y Y Y Y (fun w _ => qR h86 (runUnderlying41 w) (sizeOf22 w) Y Y (vlen RwH h6 Y) (vne h6)) (qz Y Y Y Y Y Y (fun w hh => j5 RwH 0 h86 (isAgg22 w) Y (hh.vseg 0 Y h6) Y (Nat.add_zero _).symm) (jK Y Y Y Y Y Y (fun _ _ => jW Y) (jK Y Y Y Y Y Y (fun _ _ => jW Y) ?_)))
           obtain ⟨t95, h88, hm⟩ := bindO hm
           obtain ⟨L_9, h89, h90⟩ := (h7).row h88
           refine jK Y Y Y Y Y Y (fun w _ => qR h89 (runUnderlying41 w) (sizeOf22 w) Y Y (vlen RwH h6 Y) (vne h6)) (qz Y Y Y Y Y Y (fun w hh => j5 RwH 0 h89 (isAgg22 w) Y (hh.vseg 0 Y h6) Y (Nat.add_zero _).symm) (jD Y (jb Y Y ?_)))
           obtain ⟨t97, h91, hm⟩ := bindO hm
           refine jd [] [] Y Y Y Y Y Y Y call92 (fun w hh => Q6 c0 t91 t95 qa0 na0 ca0 qa1 na1 ca1 qa2 na2 ca2 (qA L_8.q) L_8.n L_8.cap (qA L_9.q) L_9.n L_9.cap w (HV.callee (S0 := []) (vs0 := []) hh (roR hh 0 Y (roR hh 1 Y (roR hh 2 Y (roC (hh.dsepA (S0 := []) (vs0 := []) 0 Y h85 h86 h87) (roC (hh.dsepA (S0 := []) (vs0 := []) 0 Y h88 h89 h90) roN)))))) hna0 hqa0 hla0 hna1 hqa1 hla1 hna2 hqa2 hla2 (vlen RI h87 Y) (AOK.q (vne h87)) (h87).hle (vlen RI h90 Y) (AOK.q (vne h90)) (h90).hle h91) (fun l_13 h92 => ?_)
           refine jl (fun w hh => hh) (jK Y Y Y Y Y Y (fun _ _ => Ky Y Y) (jn Y Y Y Y (fun _ _ => z1 Y Y) ?_))
           obtain ⟨t100_1, h93, hm⟩ := bindO hm
           refine jn Y Y Y Y (fun w _ => qR h93 (runUnderlying114 w) (sizeOf4 w) Y Y (vlen RB h70 Y) (vne h70)) (ZS Y ?_)
           obtain ⟨row_2, hrow_2, hm⟩ := bindO hm
           obtain ⟨out5_3, hout5_3, hm⟩ := bindO hm
           refine kO (S' := [_]) (vs' := [_, _, _]) [0] [2, 0, 1] 0 Y Y Y Y ?_
           refine jad RB s.k6 h59 h68 h69 (fun _ => ?_)
           refine jax RB 1 0 t97 (fun w => sizeOf4 w) Y Y Y Y h70 Y (Nat.add_zero _).symm Y h93 Y Y (Option.some.inj hrow_2) (fun h94 => ?_)
           refine kO (S' := [_]) (vs' := [_, _, _, _]) [0] [0, 1, 2, 3] 0 Y Y Y Y ?_
           refine jai RB s.k6 h59 h68 h69 h94 (Option.some.inj hout5_3) (fun h95 => ?_)
           refine YZ (jJ ?_)
           obtain rfl := sj hm
           exact jj () (h95) (sE Y) (hsE [0] [1, 2, 0] 0 Y Y Y Y)
          replace hm := ifN h84 hm
          refine yI Y Y Y Y Y Y Y (jC Y Y Y Y Y Y Y (jC Y Y Y Y Y Y Y (jC Y Y Y Y Y Y Y (yI Y Y Y Y Y Y Y (jC Y Y Y Y Y Y Y (jC Y Y Y Y Y Y Y (jC Y Y Y Y Y Y Y ?_)))))))
          refine yI Y Y Y Y Y Y Y (jD Y (g_k Y Y Y Y (jl (fun w hh => hh) (jK Y Y Y Y Y Y (fun _ _ => z1 Y Y) (jn Y Y Y Y (fun _ _ => z1 Y Y) ?_)))))
          obtain ⟨t100_2, h96, hm⟩ := bindO hm
          refine jn Y Y Y Y (fun w _ => qR h96 (runUnderlying114 w) (sizeOf4 w) Y Y (vlen RB h70 Y) (vne h70)) (ZS Y ?_)
          obtain ⟨row_3, hrow_3, hm⟩ := bindO hm
          obtain ⟨out5_4, hout5_4, hm⟩ := bindO hm
          refine kO (S' := [_]) (vs' := [_, _, _]) [0] [2, 0, 1] 0 Y Y Y Y ?_
          refine jad RB s.k6 h59 h68 h69 (fun _ => ?_)
          refine jax RB 1 0 false (fun w => sizeOf4 w) Y Y Y Y h70 Y (Nat.add_zero _).symm Y h96 Y Y (Option.some.inj hrow_3) (fun h97 => ?_)
          refine kO (S' := [_]) (vs' := [_, _, _, _]) [0] [0, 1, 2, 3] 0 Y Y Y Y ?_
          refine jai RB s.k6 h59 h68 h69 h97 (Option.some.inj hout5_4) (fun h98 => ?_)
          refine YZ (jJ ?_)
          obtain rfl := sj hm
          exact jj () (h98) (sE Y) (hsE [0] [1, 2, 0] 0 Y Y Y Y)
         intro l_12 hj
         have h67 := hj
         replace hm := h66
         refine jw (ja (je (ji Y Y ?_)))
         obtain ⟨t65, h99, hm⟩ := bindO hm
         refine Jv h99 Y Y Y (jo Y Y (jv ?_))
         obtain rfl := sj hm
         refine ja ?_
         exact jz _ () Y (h67) (sE Y) (fun w hh => hh)
        replace hm := ifN h64 hm
        refine jO (jk (jk (jB ?_)))
        obtain rfl := sj hm
        have hbo := h60 _ Y
        subst hbo
        exact jj () (h59) (sE Y) (fun w hh => hh)
       intro l_9 hj
       have h58 := hj
       replace hm := h57
       refine jw ?_
       obtain rfl := sj hm
       exact jj () (h58) (sE Y) (fun w hh => hh)
      intro l_7 hj
      have h40 := hj
      replace hm := h39
      refine ja (je (ji Y Y ?_))
      obtain ⟨t35, h100, hm⟩ := bindO hm
      refine Jv h100 Y Y Y (jo Y Y (jv ?_))
      obtain rfl := sj hm
      refine ja ?_
      exact jz _ () Y (h40) (sE Y) (fun w hh => hh)
     replace hm := ifE h37 hm
     refine jO (jk (jk (jB ?_)))
     obtain rfl := sj hm
     have hbo := h36 _ Y
     subst hbo
     exact jj () (h35) (sE Y) (fun w hh => hh)
    intro l_5 hj
    have h34 := hj
    replace hm := h33
    refine jw (ja (je (ji Y Y ?_)))
    obtain ⟨t23, h101, hm⟩ := bindO hm
    refine jc Y Y Y (fun _ _ => zC h101 Y Y) (jo Y Y (jv ?_))
    obtain rfl := sj hm
    refine ja ?_
    exact jz _ (⟨⟨l_4.v.q, l_4.v.n, l_4.v.cap, l_4.v.sp⟩, (l_4.rs.set (Int.toNat s.k6) (⟨L_1.q, L_1.n, L_1.cap, L_1.sp⟩ : VL))⟩) Y (⟨h30, h34⟩) (sE Y) (fun w hh => hh)
   replace hm := ifE h24 hm
   refine jO (jk (jk (jB ?_)))
   obtain rfl := sj hm
   have hbo := h23 _ Y
   subst hbo
   exact jj l_4 (⟨h21, h22⟩) (sE Y) (hsE [0] [2] 0 Y Y Y Y)
  intro l_3 hj
  obtain ⟨h19, h20⟩ := hj
  replace hm := h18
  refine ja (jr (ji Y Y (jo Y Y (jq (jy ?_)))))
  obtain rfl := sj hm
  refine jp Y (fun w hh => (.tmp Y .nil)) (fun w hh => ⟨l_3, rfl, ⟨h19, h20⟩, hh.se [] [0] 3 Y Y Y rfl⟩)
end Go.Proofs.Wb

namespace Go.Proofs.Wb
set_option maxHeartbeats 4000000
set_option maxRecDepth 100000
open Go Go.Fw Go.Gx Go.Sb
open Tryz
set_option linter.unusedVariables false
def qO (s10 : (List Sand)) (s21 : (List Sand)) (s : Int) : Option (Int ⊕ (Unit ⊕ Bool)) :=
 if s < (s10.length : Int) then
 ((ix s10 s).bind fun t18 =>
 (ix s21 s).bind fun t22 =>
 if (⟨(⟨t18.span.lo, t18.span.hi⟩ : Span), t18.reach⟩ : Sand) = (⟨(⟨t22.span.lo, t22.span.hi⟩ : Span), t22.reach⟩ : Sand) then
 ((addc s 1).bind fun t25 =>
 some (.inl t25)) else
 (some (.inr (.inr false)))) else
 (some (.inr (.inl ())))
def k4 (s10 : (List Sand)) (s21 : (List Sand)) : Option Bool :=
 if (s10.length : Int) = (s21.length : Int) then
 ((iterM FU (qO s10 s21) 0).bind fun o =>
 oc o (fun j => some true) (fun r_1 => some r_1)) else
 (some false)
theorem K0 (s10 : (List Sand)) (s21 : (List Sand)) (qa0 : Option Addr) (na0 ca0 : Nat) (qa1 : Option Addr) (na1 ca1 : Nat) (w : World) (hw : HV w (keys [] []) [] [] [(aB qa0, aO qa0, RSa.enc s10), (aB qa1, aO qa1, RSa.enc s21)] w) (hna0 : s10.length = na0) (hqa0 : AOK na0 qa0) (hla0 : na0 ≤ ca0) (hna1 : s21.length = na1) (hqa1 : AOK na1 qa1) (hla1 : na1 ≤ ca1) {res : Bool} (hm : k4 s10 s21 = some res) :
    Calls Tryz.prog 164 #[.slice qa0 na0 ca0, .slice qa1 na1 ca1] w (fun en w' => ∃ l : Unit, en = .returned (.bool res) ∧ (True) ∧ HV w (keys [] []) [] [] [] w') := by
  unfold k4 at hm
  refine yd func164 Y ntmps164 Y (e := [(0, _), (1, _)]) Y hw (jr (jo Y Y (jq (jh (jr (ji Y Y (jc Y Y Y (fun w _ => jQ hna0 (runUnderlying23 w) Y) ?_)))))))
  refine ji Y Y (jc Y Y Y (fun w _ => jQ hna1 (runUnderlying23 w) Y) (jc Y Y Y (fun _ _ => JG Y Y) (jq ?_)))
  refine js Y (fun h1 => ?_) (fun h1 => ?_)
  ·replace hm := ifF (of_ndec_true h1) hm
   refine jr (jo Y Y (jq (jy (jg ?_))))
   obtain rfl := sj hm
   refine jp Y (fun w hh => (.tmp Y .nil)) (fun w hh => ⟨(), rfl, trivial, hh.se [] [] 2 Y Y Y rfl⟩)
  replace hm := ifT (of_ndec_false h1) hm
  refine jt (ja (jh (jr (ji Y Y (jc Y Y Y (fun w _ => jQ hna0 (runUnderlying23 w) Y) (ji Y Y (jq ?_)))))))
  obtain ⟨o, h2, h3⟩ := bindO hm
  refine jF (ι := Unit) (fun j => o = .inl j) (fun j => []) (fun j => []) (fun j => []) ?_ ?_
  ·replace hm := h2
   refine jm ?_
   refine jH (ι := Unit) hm (fun s l => True) (fun s l => [(0, .slice qa0 na0 ca0), (1, .slice qa1 na1 ca1), (12, .int .i64 (s10.length : Int)), (13, .int .i64 s)]) (fun s l => []) (fun s l => []) () (trivial) (sE Y) (fun w hh => hh) (fun s l r hpl hm h4 => ?_)
   unfold qO at hm
   refine jr (JK Y Y Y (jq (jh ?_)))
   refine js Y (fun h5 => ?_) (fun h5 => ?_)
   ·replace hm := ifD h5 hm
    refine jt (ja (jh (jm (jr (ji Y Y (jo Y Y (jq ?_)))))))
    refine jh ?_
    refine jX none (.free 0 (.free 1 (.free 2 (.hoist 3 (.free 4 (.free 5 (.free 6 (.hoist 7 (.free 8 .done))))))))) _ Y (by decide +kernel) (fun w k hh => hh.draw k) (fun w hh => hh) ?_
    refine qQ Y Y Y (qQ Y Y Y ?_)
    obtain ⟨t18, h6, hm⟩ := bindO hm
    refine jn Y Y Y Y (fun w _ => qP h6 (runUnderlying23 w) (sizeOf98 w) Y Y hna0 hqa0) ?_
    refine jx Y Y Y Y (fun w hh => z7 RSa 0 [.int .i64 t18.span.lo, .int .i64 t18.span.hi, .int .i64 t18.reach] h6 (isAgg98 w) (sizeOf98 w) Y (hh.seg 0 Y) Y (Nat.add_zero _).symm) ?_
    refine qQ Y Y Y (qQ Y Y Y ?_)
    obtain ⟨t22, h7, hm⟩ := bindO hm
    refine jn Y Y Y Y (fun w _ => qP h7 (runUnderlying23 w) (sizeOf98 w) Y Y hna1 hqa1) ?_
    refine jx Y Y Y Y (fun w hh => z7 RSa 0 [.int .i64 t22.span.lo, .int .i64 t22.span.hi, .int .i64 t22.reach] h7 (isAgg98 w) (sizeOf98 w) Y (hh.seg 1 Y) Y (Nat.add_zero _).symm) ?_
    refine jn Y Y Y Y (fun w _ => YD (jb1 (⟨(⟨t18.span.lo, t18.span.hi⟩ : Span), t18.reach⟩ : Sand) (⟨(⟨t22.span.lo, t22.span.hi⟩ : Span), t22.reach⟩ : Sand) w) jbS Y Y) ?_
    refine jJ (ja ?_)
    refine js Y (fun h8 => ?_) (fun h8 => ?_)
    ·replace hm := ifF (of_ndec_true h8) hm
     refine jr (jo Y Y (jq (jy (jA (jg (jg (jA ?_)))))))
     obtain rfl := sj hm
     have hbo := h4 _ Y
     subst hbo
     refine jg ?_
     replace hm := ocR h3
     refine jg ?_
     obtain rfl := sj hm
     refine jp Y (fun w hh => (.tmp Y .nil)) (fun w hh => ⟨(), rfl, trivial, hh.se [] [] 2 Y Y Y rfl⟩)
    replace hm := ifT (of_ndec_false h8) hm
    refine jt (jw (ja (je ?_)))
    obtain ⟨t25, h9, hm⟩ := bindO hm
    refine Jv h9 Y Y Y (ji Y Y (jv ?_))
    obtain rfl := sj hm
    refine ja ?_
    exact jz _ () Y (trivial) (sE Y) (fun w hh => hh)
   replace hm := ifE h5 hm
   refine jO (jk (jk (jB ?_)))
   obtain rfl := sj hm
   have hbo := h4 _ Y
   subst hbo
   exact jj () (Y) (.nil) (fun w hh => hh)
  intro j hj
  have h10 := hj
  subst h10
  replace hm := ocL h3
  refine ja (jr (jo Y Y (jq (jy ?_))))
  obtain rfl := sj hm
  refine jp Y (fun w hh => (.tmp Y .nil)) (fun w hh => ⟨(), rfl, trivial, hh.se [] [] 2 Y Y Y rfl⟩)
def zV (a0 : (List Sand)) (b1 : (List Sand)) : Option Bool :=
 (k4 a0 b1).bind fun t7 =>
 some t7
theorem Zu (a0 : (List Sand)) (b1 : (List Sand)) (qa0 : Option Addr) (na0 ca0 : Nat) (qa1 : Option Addr) (na1 ca1 : Nat) (w : World) (hw : HV w (keys [] []) [] [] [(aB qa0, aO qa0, RSa.enc a0), (aB qa1, aO qa1, RSa.enc b1)] w) (hna0 : a0.length = na0) (hqa0 : AOK na0 qa0) (hla0 : na0 ≤ ca0) (hna1 : b1.length = na1) (hqa1 : AOK na1 qa1) (hla1 : na1 ≤ ca1) {res : Bool} (hm : zV a0 b1 = some res) :
    Calls Tryz.prog 103 #[.slice qa0 na0 ca0, .slice qa1 na1 ca1] w (fun en w' => ∃ l : Unit, en = .returned (.bool res) ∧ (True) ∧ HV w (keys [] []) [] [] [] w') := by
  unfold zV at hm
  refine yd func103 Y ntmps103 Y (e := [(0, _), (1, _)]) Y hw (jr (jo Y Y (qb (ji Y Y (ji Y Y ?_)))))
  obtain ⟨t7, h1, hm⟩ := bindO hm
  refine jd [] [] Y Y Y Y Y Y Y call164 (fun w hh => K0 a0 b1 qa0 na0 ca0 qa1 na1 ca1 w (HV.callee (S0 := []) (vs0 := []) hh (roR hh 0 Y (roR hh 1 Y roN))) hna0 hqa0 hla0 hna1 hqa1 hla1 h1) (fun l h2 => ?_)
  refine jo Y Y (jq (jy ?_))
  obtain rfl := sj hm
  refine jp Y (fun w hh => (.tmp Y .nil)) (fun w hh => ⟨(), rfl, trivial, hh.se [] [] 2 Y Y Y rfl⟩)
def qy (s10 : (List Sight)) (s21 : (List Sight)) (s : Int) : Option (Int ⊕ (Unit ⊕ Bool)) :=
 if s < (s10.length : Int) then
 ((ix s10 s).bind fun t18 =>
 (ix s21 s).bind fun t22 =>
 if t18 = (⟨t22.after, t22.cell, t22.upright⟩ : Sight) then
 ((addc s 1).bind fun t25 =>
 some (.inl t25)) else
 (some (.inr (.inr false)))) else
 (some (.inr (.inl ())))
def kF (s10 : (List Sight)) (s21 : (List Sight)) : Option Bool :=
 if (s10.length : Int) = (s21.length : Int) then
 ((iterM FU (qy s10 s21) 0).bind fun o =>
 oc o (fun j => some true) (fun r_1 => some r_1)) else
 (some false)
theorem KQ (s10 : (List Sight)) (s21 : (List Sight)) (qa0 : Option Addr) (na0 ca0 : Nat) (qa1 : Option Addr) (na1 ca1 : Nat) (w : World) (hw : HV w (keys [] []) [] [] [(aB qa0, aO qa0, RSi.enc s10), (aB qa1, aO qa1, RSi.enc s21)] w) (hna0 : s10.length = na0) (hqa0 : AOK na0 qa0) (hla0 : na0 ≤ ca0) (hna1 : s21.length = na1) (hqa1 : AOK na1 qa1) (hla1 : na1 ≤ ca1) {res : Bool} (hm : kF s10 s21 = some res) :
    Calls Tryz.prog 165 #[.slice qa0 na0 ca0, .slice qa1 na1 ca1] w (fun en w' => ∃ l : Unit, en = .returned (.bool res) ∧ (True) ∧ HV w (keys [] []) [] [] [] w') := by
  unfold kF at hm
  refine yd func165 Y ntmps165 Y (e := [(0, _), (1, _)]) Y hw (jr (jo Y Y (jq (jh (jr (ji Y Y (jc Y Y Y (fun w _ => jQ hna0 (runUnderlying24 w) Y) ?_)))))))
  refine ji Y Y (jc Y Y Y (fun w _ => jQ hna1 (runUnderlying24 w) Y) (jc Y Y Y (fun _ _ => JG Y Y) (jq ?_)))
  refine js Y (fun h1 => ?_) (fun h1 => ?_)
  ·replace hm := ifF (of_ndec_true h1) hm
   refine jr (jo Y Y (jq (jy (jg ?_))))
   obtain rfl := sj hm
   refine jp Y (fun w hh => (.tmp Y .nil)) (fun w hh => ⟨(), rfl, trivial, hh.se [] [] 2 Y Y Y rfl⟩)
  replace hm := ifT (of_ndec_false h1) hm
  refine jt (ja (jh (jr (ji Y Y (jc Y Y Y (fun w _ => jQ hna0 (runUnderlying24 w) Y) (ji Y Y (jq ?_)))))))
  obtain ⟨o, h2, h3⟩ := bindO hm
  refine jF (ι := Unit) (fun j => o = .inl j) (fun j => []) (fun j => []) (fun j => []) ?_ ?_
  ·replace hm := h2
   refine jm ?_
   refine jH (ι := Unit) hm (fun s l => True) (fun s l => [(0, .slice qa0 na0 ca0), (1, .slice qa1 na1 ca1), (12, .int .i64 (s10.length : Int)), (13, .int .i64 s)]) (fun s l => []) (fun s l => []) () (trivial) (sE Y) (fun w hh => hh) (fun s l r hpl hm h4 => ?_)
   unfold qy at hm
   refine jr (JK Y Y Y (jq (jh ?_)))
   refine js Y (fun h5 => ?_) (fun h5 => ?_)
   ·replace hm := ifD h5 hm
    refine jt (ja (jh (jm (jr (ji Y Y (jo Y Y (jq ?_)))))))
    refine jh ?_
    refine jX none (.free 0 (.free 1 (.free 2 (.hoist 3 (.free 4 (.free 5 (.free 6 (.hoist 7 (.free 8 .done))))))))) _ Y (by decide +kernel) (fun w k hh => hh.draw k) (fun w hh => hh) ?_
    refine qQ Y Y Y (qQ Y Y Y ?_)
    obtain ⟨t18, h6, hm⟩ := bindO hm
    refine jn Y Y Y Y (fun w _ => qP h6 (runUnderlying24 w) (sizeOf55 w) Y Y hna0 hqa0) ?_
    refine jx Y Y Y Y (fun w hh => z7 RSi 0 [.int .i64 t18.after, .int .i64 t18.cell, .bool t18.upright] h6 (isAgg55 w) (sizeOf55 w) Y (hh.seg 0 Y) Y (Nat.add_zero _).symm) ?_
    refine qQ Y Y Y (qQ Y Y Y ?_)
    obtain ⟨t22, h7, hm⟩ := bindO hm
    refine jn Y Y Y Y (fun w _ => qP h7 (runUnderlying24 w) (sizeOf55 w) Y Y hna1 hqa1) ?_
    refine jx Y Y Y Y (fun w hh => z7 RSi 0 [.int .i64 t22.after, .int .i64 t22.cell, .bool t22.upright] h7 (isAgg55 w) (sizeOf55 w) Y (hh.seg 1 Y) Y (Nat.add_zero _).symm) ?_
    refine jn Y Y Y Y (fun w _ => YD (jbm t18 (⟨t22.after, t22.cell, t22.upright⟩ : Sight) w) jaN Y Y) (jJ (ja ?_))
    refine js Y (fun h8 => ?_) (fun h8 => ?_)
    ·replace hm := ifF (of_ndec_true h8) hm
     refine jr (jo Y Y (jq (jy (jA (jg (jg (jA ?_)))))))
     obtain rfl := sj hm
     have hbo := h4 _ Y
     subst hbo
     refine jg ?_
     replace hm := ocR h3
     refine jg ?_
     obtain rfl := sj hm
     refine jp Y (fun w hh => (.tmp Y .nil)) (fun w hh => ⟨(), rfl, trivial, hh.se [] [] 2 Y Y Y rfl⟩)
    replace hm := ifT (of_ndec_false h8) hm
    refine jt (jw (ja (je ?_)))
    obtain ⟨t25, h9, hm⟩ := bindO hm
    refine Jv h9 Y Y Y (ji Y Y (jv ?_))
    obtain rfl := sj hm
    refine ja ?_
    exact jz _ () Y (trivial) (sE Y) (fun w hh => hh)
   replace hm := ifE h5 hm
   refine jO (jk (jk (jB ?_)))
   obtain rfl := sj hm
   have hbo := h4 _ Y
   subst hbo
   exact jj () (Y) (.nil) (fun w hh => hh)
  intro j hj
  have h10 := hj
  subst h10
  replace hm := ocL h3
  refine ja (jr (jo Y Y (jq (jy ?_))))
  obtain rfl := sj hm
  refine jp Y (fun w hh => (.tmp Y .nil)) (fun w hh => ⟨(), rfl, trivial, hh.se [] [] 2 Y Y Y rfl⟩)
def zI (a0 : (List Sight)) (b1 : (List Sight)) : Option Bool :=
 (kF a0 b1).bind fun t7 =>
 some t7
theorem Za (a0 : (List Sight)) (b1 : (List Sight)) (qa0 : Option Addr) (na0 ca0 : Nat) (qa1 : Option Addr) (na1 ca1 : Nat) (w : World) (hw : HV w (keys [] []) [] [] [(aB qa0, aO qa0, RSi.enc a0), (aB qa1, aO qa1, RSi.enc b1)] w) (hna0 : a0.length = na0) (hqa0 : AOK na0 qa0) (hla0 : na0 ≤ ca0) (hna1 : b1.length = na1) (hqa1 : AOK na1 qa1) (hla1 : na1 ≤ ca1) {res : Bool} (hm : zI a0 b1 = some res) :
    Calls Tryz.prog 104 #[.slice qa0 na0 ca0, .slice qa1 na1 ca1] w (fun en w' => ∃ l : Unit, en = .returned (.bool res) ∧ (True) ∧ HV w (keys [] []) [] [] [] w') := by
  unfold zI at hm
  refine yd func104 Y ntmps104 Y (e := [(0, _), (1, _)]) Y hw (jr (jo Y Y (qb (ji Y Y (ji Y Y ?_)))))
  obtain ⟨t7, h1, hm⟩ := bindO hm
  refine jd [] [] Y Y Y Y Y Y Y call165 (fun w hh => KQ a0 b1 qa0 na0 ca0 qa1 na1 ca1 w (HV.callee (S0 := []) (vs0 := []) hh (roR hh 0 Y (roR hh 1 Y roN))) hna0 hqa0 hla0 hna1 hqa1 hla1 h1) (fun l h2 => ?_)
  refine jo Y Y (jq (jy ?_))
  obtain rfl := sj hm
  refine jp Y (fun w hh => (.tmp Y .nil)) (fun w hh => ⟨(), rfl, trivial, hh.se [] [] 2 Y Y Y rfl⟩)
def zA (a0 : Channel) (b1 : Channel) : Option Bool :=
 (if a0.cells = b1.cells then
 (if a0.tides = b1.tides then
 ((KD a0.fords b1.fords).bind fun t22 =>
 if t22 = true then
 ((zV a0.sands b1.sands).bind fun t29 =>
 if t29 = true then
 ((zI a0.sights b1.sights).bind fun t36 =>
 some t36) else
 (some false)) else
 (some false)) else
 (some false)) else
 (some false)).bind fun o =>
 some o
theorem Zf (a0 : Channel) (b1 : Channel) (qa0 : Option Addr) (na0 ca0 : Nat) (qa1 : Option Addr) (na1 ca1 : Nat) (qa2 : Option Addr) (na2 ca2 : Nat) (qa3 : Option Addr) (na3 ca3 : Nat) (qa4 : Option Addr) (na4 ca4 : Nat) (qa5 : Option Addr) (na5 ca5 : Nat) (w : World) (hw : HV w (keys [] []) [] [] [(aB qa0, aO qa0, RI.enc a0.fords), (aB qa1, aO qa1, RSa.enc a0.sands), (aB qa2, aO qa2, RSi.enc a0.sights), (aB qa3, aO qa3, RI.enc b1.fords), (aB qa4, aO qa4, RSa.enc b1.sands), (aB qa5, aO qa5, RSi.enc b1.sights)] w) (hna0 : a0.fords.length = na0) (hqa0 : AOK na0 qa0) (hla0 : na0 ≤ ca0) (hna1 : a0.sands.length = na1) (hqa1 : AOK na1 qa1) (hla1 : na1 ≤ ca1) (hna2 : a0.sights.length = na2) (hqa2 : AOK na2 qa2) (hla2 : na2 ≤ ca2) (hna3 : b1.fords.length = na3) (hqa3 : AOK na3 qa3) (hla3 : na3 ≤ ca3) (hna4 : b1.sands.length = na4) (hqa4 : AOK na4 qa4) (hla4 : na4 ≤ ca4) (hna5 : b1.sights.length = na5) (hqa5 : AOK na5 qa5) (hla5 : na5 ≤ ca5) {res : Bool} (hm : zA a0 b1 = some res) :
    Calls Tryz.prog 31 #[.agg #[.int .i64 a0.cells, .int .i64 a0.tides, .slice qa0 na0 ca0, .slice qa1 na1 ca1, .slice qa2 na2 ca2], .agg #[.int .i64 b1.cells, .int .i64 b1.tides, .slice qa3 na3 ca3, .slice qa4 na4 ca4, .slice qa5 na5 ca5]] w (fun en w' => ∃ l : Unit, en = .returned (.bool res) ∧ (True) ∧ HV w (keys [] []) [] [] [] w') := by
  unfold zA at hm
  refine yd func31 Y ntmps31 Y (e := [(0, _), (1, _)]) Y hw (jr ?_)
  refine jL Y Y (fun b h1 => ?_)
  refine jL Y Y (fun b_1 h2 => ?_)
  refine jo Y Y (jq (jh ?_))
  obtain ⟨o, h3, h4⟩ := bindO hm
  refine jF (ι := Unit) (fun l => True) (fun l => [(4, .bool o)]) (fun l => [kc b_1 #[.int .i64 b1.cells, .int .i64 b1.tides, .slice qa3 na3 ca3, .slice qa4 na4 ca4, .slice qa5 na5 ca5] 26, kc b #[.int .i64 a0.cells, .int .i64 a0.tides, .slice qa0 na0 ca0, .slice qa1 na1 ca1, .slice qa2 na2 ca2] 26]) (fun l => []) ?_ ?_
  ·replace hm := h3
   refine je (qk 0 runUnderlying26 Y sizeOf3 Y Y (kw 1 isAgg3 Y Y Y Y (qk 0 runUnderlying26 Y sizeOf3 Y Y (kw 0 isAgg3 Y Y Y Y (jc Y Y Y (fun _ _ => zN Y Y) (ji Y Y ?_))))))
   refine jP 10 Y (fun h5 => ?_) (fun h5 => ?_)
   ·replace hm := ifD h5 hm
    refine jb Y Y (qk 1 runUnderlying26 Y sizeOf3 Y Y (jb Y Y (kw 1 isAgg3 Y Y Y Y (jb Y Y (qk 1 runUnderlying26 Y sizeOf3 Y Y (jb Y Y (kw 0 isAgg3 Y Y Y Y ?_)))))))
    refine jb Y Y (jc Y Y Y (fun _ _ => zN Y Y) (qI Y Y Y (ji Y Y ?_)))
    refine jP 17 Y (fun h6 => ?_) (fun h6 => ?_)
    ·replace hm := ifD h6 hm
     refine jb Y Y (qk 2 runUnderlying26 Y sizeOf22 Y Y (jb Y Y (kw 1 isAgg22 Y Y Y Y (jb Y Y (qk 2 runUnderlying26 Y sizeOf22 Y Y (jb Y Y (kw 0 isAgg22 Y Y Y Y ?_)))))))
     refine jb Y Y ?_
     obtain ⟨t22, h7, hm⟩ := bindO hm
     refine jd [] [] Y Y Y Y Y Y Y call45 (fun w hh => YG a0.fords b1.fords qa0 na0 ca0 qa3 na3 ca3 w (HV.callee (S0 := []) (vs0 := []) hh (roR hh 0 Y (roR hh 3 Y roN))) hna0 hqa0 hla0 hna3 hqa3 hla3 h7) (fun l_1 h8 => ?_)
     refine qI Y Y Y (ji Y Y ?_)
     refine jP 24 Y (fun h9 => ?_) (fun h9 => ?_)
     ·replace hm := ifT (h9) hm
      refine jb Y Y (qk 3 runUnderlying26 Y sizeOf23 Y Y (jb Y Y (kw 1 isAgg23 Y Y Y Y (jb Y Y (qk 3 runUnderlying26 Y sizeOf23 Y Y (jb Y Y (kw 0 isAgg23 Y Y Y Y ?_)))))))
      refine jb Y Y ?_
      obtain ⟨t29, h10, hm⟩ := bindO hm
      refine jd [] [] Y Y Y Y Y Y Y call103 (fun w hh => Zu a0.sands b1.sands qa1 na1 ca1 qa4 na4 ca4 w (HV.callee (S0 := []) (vs0 := []) hh (roR hh 1 Y (roR hh 4 Y roN))) hna1 hqa1 hla1 hna4 hqa4 hla4 h10) (fun l_2 h11 => ?_)
      refine qI Y Y Y (ji Y Y ?_)
      refine jP 31 Y (fun h12 => ?_) (fun h12 => ?_)
      ·replace hm := ifT (h12) hm
       refine jb Y Y (qk 4 runUnderlying26 Y sizeOf24 Y Y (jb Y Y (kw 1 isAgg24 Y Y Y Y (jb Y Y (qk 4 runUnderlying26 Y sizeOf24 Y Y (jb Y Y (kw 0 isAgg24 Y Y Y Y ?_)))))))
       refine jb Y Y ?_
       obtain ⟨t36, h13, hm⟩ := bindO hm
       refine jd [] [] Y Y Y Y Y Y Y call104 (fun w hh => Za a0.sights b1.sights qa2 na2 ca2 qa5 na5 ca5 w (HV.callee (S0 := []) (vs0 := []) hh (roR hh 2 Y (roR hh 5 Y roN))) hna2 hqa2 hla2 hna5 hqa5 hla5 h13) (fun l_3 h14 => ?_)
       refine qI Y Y Y (jo Y Y (jv ?_))
       obtain rfl := sj hm
       exact jj () (trivial) (sE Y) (fun w hh => hh)
      replace hm := ifN h12 hm
      refine g_k Y Y Y Y (g_k Y Y Y Y (g_k Y Y Y Y (g_k Y Y Y Y (g_k Y Y Y Y (yU Y Y Y (jo Y Y (jv ?_)))))))
      obtain rfl := sj hm
      exact jj () (trivial) (sE Y) (fun w hh => hh)
     replace hm := ifN h9 hm
     refine g_k Y Y Y Y (g_k Y Y Y Y (g_k Y Y Y Y (g_k Y Y Y Y (g_k Y Y Y Y (yU Y Y Y (ji Y Y (g_k Y Y Y Y ?_)))))))
     refine g_k Y Y Y Y (g_k Y Y Y Y (g_k Y Y Y Y (g_k Y Y Y Y (yU Y Y Y (jo Y Y (jv ?_))))))
     obtain rfl := sj hm
     exact jj () (trivial) (sE Y) (fun w hh => hh)
    replace hm := ifE h6 hm
    refine g_k Y Y Y Y (g_k Y Y Y Y (g_k Y Y Y Y (g_k Y Y Y Y (g_k Y Y Y Y (yU Y Y Y (ji Y Y (g_k Y Y Y Y ?_)))))))
    refine g_k Y Y Y Y (g_k Y Y Y Y (g_k Y Y Y Y (g_k Y Y Y Y (yU Y Y Y (ji Y Y (g_k Y Y Y Y (g_k Y Y Y Y ?_)))))))
    refine g_k Y Y Y Y (g_k Y Y Y Y (g_k Y Y Y Y (yU Y Y Y (jo Y Y (jv ?_)))))
    obtain rfl := sj hm
    exact jj () (trivial) (sE Y) (fun w hh => hh)
   replace hm := ifE h5 hm
   refine g_k Y Y Y Y (g_k Y Y Y Y (g_k Y Y Y Y (g_k Y Y Y Y (g_k Y Y Y Y (yU Y Y Y (ji Y Y (g_k Y Y Y Y ?_)))))))
   refine g_k Y Y Y Y (g_k Y Y Y Y (g_k Y Y Y Y (g_k Y Y Y Y (yU Y Y Y (ji Y Y (g_k Y Y Y Y (g_k Y Y Y Y ?_)))))))
   refine g_k Y Y Y Y (g_k Y Y Y Y (g_k Y Y Y Y (yU Y Y Y (ji Y Y (g_k Y Y Y Y (g_k Y Y Y Y (g_k Y Y Y Y ?_)))))))
   refine g_k Y Y Y Y (g_k Y Y Y Y (yU Y Y Y (jo Y Y (jv ?_))))
   obtain rfl := sj hm
   exact jj () (trivial) (sE Y) (fun w hh => hh)
  intro l hj
  replace hm := h4
  refine ja (jy ?_)
  obtain rfl := sj hm
  refine jp Y (fun w hh => (.tmp Y .nil)) (fun w hh => ⟨(), rfl, trivial, hh.se [] [] 6 Y Y Y rfl⟩)
end Go.Proofs.Wb

