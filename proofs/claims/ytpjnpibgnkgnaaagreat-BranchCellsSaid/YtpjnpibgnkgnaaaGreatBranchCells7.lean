/- What the functions that the law BranchCells reaches come to, and why it holds: part 7. -/
import Derived.Test.YtpjnpibgnkgnaaaGreatBranchCells6
namespace Go.Proofs.Wb
set_option maxHeartbeats 4000000
set_option maxRecDepth 100000
open Go Go.Fw Go.Gx Go.Sb
open Tryz
set_option linter.unusedVariables false
theorem jbx : (Tryz.prog.info? 4).map (fun i => (i.zero, i.size, i.bytes)) = some (some (.bool false), 1, 1) := by kernel_rfl
theorem ja4 : (Tryz.prog.info? 114).map (fun i => (i.zero, i.size, i.bytes)) = some (some (.slice none 0 0), 1, 24) := by kernel_rfl
theorem jaW : (Tryz.prog.info? 138).map (fun i => (i.zero, i.size, i.bytes)) = some (some (.agg #[.int .i64 0, .int .i64 0, .int .i64 0]), 3, 24) := by kernel_rfl
theorem jaZ : (Tryz.prog.info? 139).map (fun i => (i.zero, i.size, i.bytes)) = some (some (.agg #[.int .i64 0, .int .i64 0, .bool false]), 3, 24) := by kernel_rfl
theorem jaX : Tryz.prog.stoodInHeld 50 = false := by decide +kernel
theorem jbk : Tryz.prog.eqGuardType Tryz.prog.depth 98 = false := by decide +kernel
theorem jbo : Tryz.prog.stoodInHeld 98 = false := by decide +kernel
theorem jby (x y : Sand) (w : World) : (Op.equalIn 10000 98 (.agg (RSa.cells x).toArray) (.agg (RSa.cells y).toArray)).run Tryz.prog w = .ok (decide (x = y)) w := by
  have h := equal_structG (xs := (RSa.cells x).toArray) (ys := (RSa.cells y).toArray) underlying98 jbo (.sub (us := [_, _]) (vs := [_, _]) Y (fun w => isAgg50 w) (fun w => sizeOf50 w) Y Y Y Y underlying50 jaX (.int Y (fun w => isAgg3 w) ⟨_, underlying3⟩ Y Y (.int Y (fun w => isAgg3 w) ⟨_, underlying3⟩ Y Y .nil)) (.int Y (fun w => isAgg3 w) ⟨_, underlying3⟩ Y Y .nil)) w
  rw [h]
  congr 1
  obtain ⟨⟨x0_0, x0_1⟩, x1⟩ := x
  obtain ⟨⟨y0_0, y0_1⟩, y1⟩ := y
  rw [Bool.eq_iff_iff]
  simp only [Bool.and_eq_true, decide_eq_true_eq, Sand.mk.injEq, Span.mk.injEq, and_true]
def yW (c0 : Channel) : Option Bool :=
 (if 10 < (c0.fords.length : Int) then
 (some true) else
 (if 10 < (c0.sands.length : Int) then
 (some true) else
 (some (decide (14 < (c0.sights.length : Int)))))).bind fun o =>
 some o
theorem Yz (c0 : Channel) (qa0 : Option Addr) (na0 ca0 : Nat) (qa1 : Option Addr) (na1 ca1 : Nat) (qa2 : Option Addr) (na2 ca2 : Nat) (w : World) (hw : HV w (keys [] []) [] [] [(aB qa0, aO qa0, RI.enc c0.fords), (aB qa1, aO qa1, RSa.enc c0.sands), (aB qa2, aO qa2, RSi.enc c0.sights)] w) (hna0 : c0.fords.length = na0) (hqa0 : AOK na0 qa0) (hla0 : na0 ≤ ca0) (hna1 : c0.sands.length = na1) (hqa1 : AOK na1 qa1) (hla1 : na1 ≤ ca1) (hna2 : c0.sights.length = na2) (hqa2 : AOK na2 qa2) (hla2 : na2 ≤ ca2) {res : Bool} (hm : yW c0 = some res) :
    Calls Tryz.prog 53 #[.agg #[.int .i64 c0.cells, .int .i64 c0.tides, .slice qa0 na0 ca0, .slice qa1 na1 ca1, .slice qa2 na2 ca2]] w (fun en w' => ∃ l : Unit, en = .returned (.bool res) ∧ (True) ∧ HV w (keys [] []) [] [] [] w') := by
  unfold yW at hm
  refine qU func53 Y ntmps53 Y (e := [(0, _)]) Y hw (jr ?_)
  refine jI Y Y (fun b h1 => ?_)
  refine jm Y Y (jp (jj ?_))
  obtain ⟨o, h2, h3⟩ := bindO hm
  refine jE (ι := Unit) (fun l => True) (fun l => [(2, .bool o)]) (fun l => [kc b #[.int .i64 c0.cells, .int .i64 c0.tides, .slice qa0 na0 ca0, .slice qa1 na1 ca1, .slice qa2 na2 ca2] 26]) (fun l => []) ?_ ?_
  ·replace hm := h2
   refine je (qC 2 runUnderlying26 Y sizeOf22 Y Y (qf 0 isAgg22 Y Y Y Y (jc Y Y Y (fun w _ => jR hna0 (runUnderlying22 w) Y) (jc Y Y Y (fun _ _ => Q8 Y Y) (jh Y Y ?_)))))
   refine jM 7 Y (fun h4 => ?_) (fun h4 => ?_)
   ·replace hm := ifD h4 hm
    refine g_k Y Y Y Y (g_k Y Y Y Y (g_k Y Y Y Y (g_k Y Y Y Y (yF Y Y Y (jh Y Y (g_k Y Y Y Y (g_k Y Y Y Y ?_)))))))
    refine g_k Y Y Y Y (g_k Y Y Y Y (yF Y Y Y (jm Y Y (ju ?_))))
    obtain rfl := sj hm
    exact ji () (trivial) (sE Y) (fun w hh => hh)
   replace hm := ifE h4 hm
   refine jb Y Y (qC 3 runUnderlying26 Y sizeOf23 Y Y (jb Y Y (qf 0 isAgg23 Y Y Y Y (jb Y Y (jc Y Y Y (fun w _ => jR hna1 (runUnderlying23 w) Y) (jb Y Y (jc Y Y Y (fun _ _ => Q8 Y Y) ?_)))))))
   refine qE Y Y Y (jh Y Y ?_)
   refine jM 13 Y (fun h5 => ?_) (fun h5 => ?_)
   ·replace hm := ifD h5 hm
    refine g_k Y Y Y Y (g_k Y Y Y Y (g_k Y Y Y Y (g_k Y Y Y Y (yF Y Y Y (jm Y Y (ju ?_))))))
    obtain rfl := sj hm
    exact ji () (trivial) (sE Y) (fun w hh => hh)
   replace hm := ifE h5 hm
   refine jb Y Y (qC 4 runUnderlying26 Y sizeOf24 Y Y (jb Y Y (qf 0 isAgg24 Y Y Y Y (jb Y Y (jc Y Y Y (fun w _ => jR hna2 (runUnderlying24 w) Y) (jb Y Y (jc Y Y Y (fun _ _ => Q8 Y Y) ?_)))))))
   refine qE Y Y Y (jm Y Y (ju ?_))
   obtain rfl := sj hm
   exact ji () (trivial) (sE Y) (fun w hh => hh)
  intro l hj
  replace hm := h3
  refine ja (jw ?_)
  obtain rfl := sj hm
  refine jn Y (fun w hh => (.tmp Y .nil)) (fun w hh => ⟨(), rfl, trivial, hh.se [] [] 3 Y Y Y rfl⟩)
def zt (c0 : Channel) : Option Bool :=
 ((yW c0).bind fun t4 =>
 if t4 = true then
 (some true) else
 (if (c0.fords.length : Int) = 3 then
 (some true) else
 (if 8 < c0.cells then
 (some (decide (c0.cells ≤ 10))) else
 (some false)))).bind fun o =>
 some o
theorem YY (c0 : Channel) (qa0 : Option Addr) (na0 ca0 : Nat) (qa1 : Option Addr) (na1 ca1 : Nat) (qa2 : Option Addr) (na2 ca2 : Nat) (w : World) (hw : HV w (keys [] []) [] [] [(aB qa0, aO qa0, RI.enc c0.fords), (aB qa1, aO qa1, RSa.enc c0.sands), (aB qa2, aO qa2, RSi.enc c0.sights)] w) (hna0 : c0.fords.length = na0) (hqa0 : AOK na0 qa0) (hla0 : na0 ≤ ca0) (hna1 : c0.sands.length = na1) (hqa1 : AOK na1 qa1) (hla1 : na1 ≤ ca1) (hna2 : c0.sights.length = na2) (hqa2 : AOK na2 qa2) (hla2 : na2 ≤ ca2) {res : Bool} (hm : zt c0 = some res) :
    Calls Tryz.prog 18 #[.agg #[.int .i64 c0.cells, .int .i64 c0.tides, .slice qa0 na0 ca0, .slice qa1 na1 ca1, .slice qa2 na2 ca2]] w (fun en w' => ∃ l : Unit, en = .returned (.bool res) ∧ (True) ∧ HV w (keys [] []) [] [] [] w') := by
  unfold zt at hm
  refine qU func18 Y ntmps18 Y (e := [(0, _)]) Y hw (jr ?_)
  refine jI Y Y (fun b h1 => ?_)
  refine jm Y Y (jp (jj ?_))
  obtain ⟨o, h2, h3⟩ := bindO hm
  refine jE (ι := Unit) (fun l => True) (fun l => [(2, .bool o)]) (fun l => [kc b #[.int .i64 c0.cells, .int .i64 c0.tides, .slice qa0 na0 ca0, .slice qa1 na1 ca1, .slice qa2 na2 ca2] 26]) (fun l => []) ?_ ?_
  ·replace hm := h2
   refine je (zT [_, _, _, _, _] 0 isAgg26 sizeOf26 Y Y Y Y ?_)
   obtain ⟨t4, h4, hm⟩ := bindO hm
   refine jd [] [] Y Y Y Y Y Y Y call53 (fun w hh => Yz c0 qa0 na0 ca0 qa1 na1 ca1 qa2 na2 ca2 w (HV.callee (S0 := []) (vs0 := []) hh (roR hh 0 Y (roR hh 1 Y (roR hh 2 Y roN)))) hna0 hqa0 hla0 hna1 hqa1 hla1 hna2 hqa2 hla2 h4) (fun l_1 h5 => ?_)
   refine jh Y Y ?_
   refine jM 5 Y (fun h6 => ?_) (fun h6 => ?_)
   ·replace hm := ifT (h6) hm
    refine g_k Y Y Y Y (g_k Y Y Y Y (g_k Y Y Y Y (g_k Y Y Y Y (yF Y Y Y (jh Y Y (g_k Y Y Y Y (g_k Y Y Y Y ?_)))))))
    refine g_k Y Y Y Y (g_k Y Y Y Y ?_)
    refine qt Y Y Y Y Y ?_
    refine qt Y Y Y Y Y ?_
    refine qt Y Y Y Y Y ?_
    refine g_k Y Y Y Y (yF Y Y Y (jm Y Y (ju ?_)))
    obtain rfl := sj hm
    exact ji () (trivial) (sE Y) (fun w hh => hh)
   replace hm := ifN h6 hm
   refine jb Y Y (qC 2 runUnderlying26 Y sizeOf22 Y Y (jb Y Y (qf 0 isAgg22 Y Y Y Y (jb Y Y (jc Y Y Y (fun w _ => jR hna0 (runUnderlying22 w) Y) (jb Y Y (jc Y Y Y (fun _ _ => zf Y Y) ?_)))))))
   refine qE Y Y Y (jh Y Y ?_)
   refine jM 11 Y (fun h7 => ?_) (fun h7 => ?_)
   ·replace hm := ifD h7 hm
    refine g_k Y Y Y Y (g_k Y Y Y Y (g_k Y Y Y Y (g_k Y Y Y Y ?_)))
    refine qt Y Y Y Y Y ?_
    refine qt Y Y Y Y Y ?_
    refine qt Y Y Y Y Y ?_
    refine g_k Y Y Y Y (yF Y Y Y (jm Y Y (ju ?_)))
    obtain rfl := sj hm
    exact ji () (trivial) (sE Y) (fun w hh => hh)
   replace hm := ifE h7 hm
   refine jb Y Y (qC 0 runUnderlying26 Y sizeOf3 Y Y (jb Y Y (qf 0 isAgg3 Y Y Y Y (jb Y Y (jc Y Y Y (fun _ _ => Q8 Y Y) (jb Y Y (jh Y Y ?_)))))))
   refine jM 15 Y (fun h8 => ?_) (fun h8 => ?_)
   ·replace hm := ifD h8 hm
    refine jb Y Y (qC 0 runUnderlying26 Y sizeOf3 Y Y (jb Y Y (qf 0 isAgg3 Y Y Y Y (jb Y Y (jc Y Y Y (fun _ _ => Z3 Y Y) (jb Y Y (yF Y Y Y ?_)))))))
    refine qE Y Y Y (jm Y Y (ju ?_))
    obtain rfl := sj hm
    exact ji () (trivial) (sE Y) (fun w hh => hh)
   replace hm := ifE h8 hm
   refine g_k Y Y Y Y (g_k Y Y Y Y (g_k Y Y Y Y (jb Y Y (qE Y Y Y (qE Y Y Y (jm Y Y (ju ?_)))))))
   obtain rfl := sj hm
   exact ji () (trivial) (sE Y) (fun w hh => hh)
  intro l hj
  replace hm := h3
  refine ja (jw ?_)
  obtain rfl := sj hm
  refine jn Y (fun w hh => (.tmp Y .nil)) (fun w hh => ⟨(), rfl, trivial, hh.se [] [] 3 Y Y Y rfl⟩)
def KJ (l0 : (List Int)) : Option (List Int) :=
 (makec 8 0 0 (l0.length : Int)).bind fun t5 =>
 (appc 8 t5 l0).bind fun t7 =>
 some t7
theorem Yw (l0 : (List Int)) (qa0 : Option Addr) (na0 ca0 : Nat) (w : World) (hw : HV w (keys [] []) [] [] [(aB qa0, aO qa0, RI.enc l0)] w) (hna0 : l0.length = na0) (hqa0 : AOK na0 qa0) (hla0 : na0 ≤ ca0) {res : (List Int)} (hm : KJ l0 = some res) :
    Calls Tryz.prog 46 #[.slice qa0 na0 ca0] w (fun en w' => ∃ l : VL, en = .returned (sL l) ∧ (VOK 1 l.n l.cap (RI.enc res) l.sp l.q) ∧ HV w (keys [] []) [] [vL 3 l (RI.enc res)] [] w') := by
  unfold KJ at hm
  refine qU func46 Y ntmps46 Y (e := [(0, _)]) Y hw (jr (jc Y Y Y (fun _ _ => kd Y) (qe (jh Y Y (jc Y Y Y (fun w _ => jR hna0 (runUnderlying22 w) Y) ?_)))))
  obtain ⟨t5, h2, hm⟩ := bindO hm
  refine Q9 RI 0 h2 underlying22 KX Y Y Y Y Y (fun L h3 => ?_)
  refine jh Y Y ?_
  obtain ⟨t7, h4, hm⟩ := bindO hm
  refine zE RI 0 h4 underlying22 KX Y Y Y Y Y h3 Y Y hna0 hqa0 (fun w hh => (hh.seg 0 Y)) Y (fun L_1 h5 h5n => ?_)
  refine kC (S' := []) (vs' := [_]) [] [0] 0 Y Y Y Y (jm Y Y (jp (jw ?_)))
  obtain rfl := sj hm
  refine jn Y (fun w hh => (.tmp Y .nil)) (fun w hh => ⟨L_1, rfl, h5, hh.se [] [0] 1 Y Y Y rfl⟩)
def Jk (l0 : (List Sand)) : Option (List Sand) :=
 (makec 24 (⟨(⟨0, 0⟩ : Span), 0⟩ : Sand) 0 (l0.length : Int)).bind fun t5 =>
 (appc 24 t5 l0).bind fun t7 =>
 some t7
theorem YV (l0 : (List Sand)) (qa0 : Option Addr) (na0 ca0 : Nat) (w : World) (hw : HV w (keys [] []) [] [] [(aB qa0, aO qa0, RSa.enc l0)] w) (hna0 : l0.length = na0) (hqa0 : AOK na0 qa0) (hla0 : na0 ≤ ca0) {res : (List Sand)} (hm : Jk l0 = some res) :
    Calls Tryz.prog 86 #[.slice qa0 na0 ca0] w (fun en w' => ∃ l : VL, en = .returned (sL l) ∧ (VOK 3 l.n l.cap (RSa.enc res) l.sp l.q) ∧ HV w (keys [] []) [] [vL 98 l (RSa.enc res)] [] w') := by
  unfold Jk at hm
  refine qU func86 Y ntmps86 Y (e := [(0, _)]) Y hw (jr (jc Y Y Y (fun _ _ => kd Y) (qe (jh Y Y (jc Y Y Y (fun w _ => jR hna0 (runUnderlying23 w) Y) ?_)))))
  obtain ⟨t5, h2, hm⟩ := bindO hm
  refine Q9 RSa (⟨(⟨0, 0⟩ : Span), 0⟩ : Sand) h2 underlying23 jan Y Y Y Y Y (fun L h3 => ?_)
  refine jh Y Y ?_
  obtain ⟨t7, h4, hm⟩ := bindO hm
  refine zE RSa 0 h4 underlying23 jan Y Y Y Y Y h3 Y Y hna0 hqa0 (fun w hh => (hh.seg 0 Y)) Y (fun L_1 h5 h5n => ?_)
  refine kC (S' := []) (vs' := [_]) [] [0] 0 Y Y Y Y (jm Y Y (jp (jw ?_)))
  obtain rfl := sj hm
  refine jn Y (fun w hh => (.tmp Y .nil)) (fun w hh => ⟨L_1, rfl, h5, hh.se [] [0] 1 Y Y Y rfl⟩)
def zV (l0 : (List Sight)) : Option (List Sight) :=
 (makec 24 (⟨0, 0, false⟩ : Sight) 0 (l0.length : Int)).bind fun t5 =>
 (appc 24 t5 l0).bind fun t7 =>
 some t7
theorem Yv (l0 : (List Sight)) (qa0 : Option Addr) (na0 ca0 : Nat) (w : World) (hw : HV w (keys [] []) [] [] [(aB qa0, aO qa0, RSi.enc l0)] w) (hna0 : l0.length = na0) (hqa0 : AOK na0 qa0) (hla0 : na0 ≤ ca0) {res : (List Sight)} (hm : zV l0 = some res) :
    Calls Tryz.prog 87 #[.slice qa0 na0 ca0] w (fun en w' => ∃ l : VL, en = .returned (sL l) ∧ (VOK 3 l.n l.cap (RSi.enc res) l.sp l.q) ∧ HV w (keys [] []) [] [vL 55 l (RSi.enc res)] [] w') := by
  unfold zV at hm
  refine qU func87 Y ntmps87 Y (e := [(0, _)]) Y hw (jr (jc Y Y Y (fun _ _ => kd Y) (qe (jh Y Y (jc Y Y Y (fun w _ => jR hna0 (runUnderlying24 w) Y) ?_)))))
  obtain ⟨t5, h2, hm⟩ := bindO hm
  refine Q9 RSi (⟨0, 0, false⟩ : Sight) h2 underlying24 ZR Y Y Y Y Y (fun L h3 => ?_)
  refine jh Y Y ?_
  obtain ⟨t7, h4, hm⟩ := bindO hm
  refine zE RSi 0 h4 underlying24 ZR Y Y Y Y Y h3 Y Y hna0 hqa0 (fun w hh => (hh.seg 0 Y)) Y (fun L_1 h5 h5n => ?_)
  refine kC (S' := []) (vs' := [_]) [] [0] 0 Y Y Y Y (jm Y Y (jp (jw ?_)))
  obtain rfl := sj hm
  refine jn Y (fun w hh => (.tmp Y .nil)) (fun w hh => ⟨L_1, rfl, h5, hh.se [] [0] 1 Y Y Y rfl⟩)
def zN (c0 : Channel) : Option Channel :=
 (KJ c0.fords).bind fun t9 =>
 (Jk c0.sands).bind fun t12 =>
 (zV c0.sights).bind fun t15 =>
 some (⟨c0.cells, c0.tides, t9, t12, t15⟩ : Channel)
theorem JK (c0 : Channel) (qa0 : Option Addr) (na0 ca0 : Nat) (qa1 : Option Addr) (na1 ca1 : Nat) (qa2 : Option Addr) (na2 ca2 : Nat) (w : World) (hw : HV w (keys [] []) [] [] [(aB qa0, aO qa0, RI.enc c0.fords), (aB qa1, aO qa1, RSa.enc c0.sands), (aB qa2, aO qa2, RSi.enc c0.sights)] w) (hna0 : c0.fords.length = na0) (hqa0 : AOK na0 qa0) (hla0 : na0 ≤ ca0) (hna1 : c0.sands.length = na1) (hqa1 : AOK na1 qa1) (hla1 : na1 ≤ ca1) (hna2 : c0.sights.length = na2) (hqa2 : AOK na2 qa2) (hla2 : na2 ≤ ca2) {res : Channel} (hm : zN c0 = some res) :
    Calls Tryz.prog 20 #[.agg #[.int .i64 c0.cells, .int .i64 c0.tides, .slice qa0 na0 ca0, .slice qa1 na1 ca1, .slice qa2 na2 ca2]] w (fun en w' => ∃ l : VL × VL × VL, en = .returned (.agg #[.int .i64 res.cells, .int .i64 res.tides, sL l.1, sL l.2.1, sL l.2.2]) ∧ (VOK 1 l.1.n l.1.cap (RI.enc res.fords) l.1.sp l.1.q ∧ VOK 3 l.2.1.n l.2.1.cap (RSa.enc res.sands) l.2.1.sp l.2.1.q ∧ VOK 3 l.2.2.n l.2.2.cap (RSi.enc res.sights) l.2.2.sp l.2.2.q) ∧ HV w (keys [] []) [] [vL 3 l.1 (RI.enc res.fords), vL 98 l.2.1 (RSa.enc res.sands), vL 55 l.2.2 (RSi.enc res.sights)] [] w') := by
  unfold zN at hm
  refine qU func20 Y ntmps20 Y (e := [(0, _)]) Y hw (jr ?_)
  refine jI Y Y (fun b h4 => ?_)
  refine jx (fun w => zeroValue26 w) Y (fun b_1 h5 => ?_)
  refine jp (jj ?_)
  refine kn none (.free 0 (.hoist 1 (.free 2 (.hoist 3 (.free 4 (.hoist 5 (.free 7 (.hoist 8 (.free 10 (.hoist 11 (.one 6 (.one 9 (.one 12 (.free 13 (.one 14 .done))))))))))))))) (HV _ _ [kc b #[.int .i64 c0.cells, .int .i64 c0.tides, .slice qa0 na0 ca0, .slice qa1 na1 ca1, .slice qa2 na2 ca2] 26] [] _) Y (by decide +kernel) (fun w k hh => hh.draw k) (hsE [1] [] 0 Y Y Y Y) ?_
  refine KE 0 runUnderlying26 sizeOf3 Y Y Y Y (Qm 0 isAgg3 Y Y Y Y Y (KE 1 runUnderlying26 sizeOf3 Y Y Y Y (Qm 0 isAgg3 Y Y Y Y Y (KE 2 runUnderlying26 sizeOf22 Y Y Y Y (Qm 0 isAgg22 Y Y Y Y Y (KE 3 runUnderlying26 sizeOf23 Y Y Y Y (Qm 0 isAgg23 Y Y Y Y Y ?_)))))))
  refine KE 4 runUnderlying26 sizeOf24 Y Y Y Y (Qm 0 isAgg24 Y Y Y Y Y (jK Y ?_))
  obtain ⟨t9, h6, hm⟩ := bindO hm
  refine jd [] [] Y Y Y Y Y Y Y call46 (fun w hh => Yw c0.fords qa0 na0 ca0 w (HV.callee (S0 := []) (vs0 := []) hh (roR hh 0 Y roN)) hna0 hqa0 hla0 h6) (fun l h7 => ?_)
  have h8 := h7
  refine kC (S' := [_, _]) (vs' := [_]) [0, 1] [0] 0 Y Y Y Y (jq (hsE [1] [] 0 Y Y Y Y) (jK Y ?_))
  obtain ⟨t12, h9, hm⟩ := bindO hm
  refine jd [] [] Y Y Y Y Y Y Y call86 (fun w hh => YV c0.sands qa1 na1 ca1 w (HV.callee (S0 := []) (vs0 := []) hh (roR hh 1 Y roN)) hna1 hqa1 hla1 h9) (fun l_1 h10 => ?_)
  have h11 := h10
  refine kC (S' := [_, _]) (vs' := [_, _]) [0, 1] [0, 1] 0 Y Y Y Y (jq (hsE [1] [] 0 Y Y Y Y) (jK Y ?_))
  obtain ⟨t15, h12, hm⟩ := bindO hm
  refine jd [] [] Y Y Y Y Y Y Y call87 (fun w hh => Yv c0.sights qa2 na2 ca2 w (HV.callee (S0 := []) (vs0 := []) hh (roR hh 2 Y roN)) hna2 hqa2 hla2 h12) (fun l_2 h13 => ?_)
  have h14 := h13
  refine kC (S' := [_, _]) (vs' := [_, _, _]) [0, 1] [0, 1, 2] 0 Y Y Y Y (jq (hsE [1] [] 0 Y Y Y Y) (jo Y Y Y Y (fun _ _ => qL (vs := [(0, _), (1, _), (2, _), (3, _), (4, _)]) (cells := [_, _, _, _, _]) Y Y) (jK Y (kv (us := #[_, _, _, _, _]) (cs' := [_, _, _, _, _]) (S' := [_, _]) 0 (fun w => sizeOf26 w) Y Y Y Y Y Y Y (jq (hsE [1] [] 0 Y Y Y Y) (jO (ja ?_)))))))
  refine jw ?_
  obtain rfl := sj hm
  refine jn Y (fun w hh => (.cell Y (loadVar_agg (vs := [_, _, _, _, _]) (isAgg26 _) (sizeOf26 _) (hh.cells 0 Y Y)) .nil)) (fun w hh => ⟨(l, l_1, l_2), rfl, ⟨h8, h11, h14⟩, hh.se [] [2, 1, 0] 3 Y Y Y rfl⟩)
structure qO where
  t19 : Int
  out3_sands : (List Sand)
def z2 (c0 : Channel) (s : qO) : Option (qO ⊕ (List Sand)) :=
 if s.t19 < (c0.sands.length : Int) then
 ((ix c0.sands s.t19).bind fun t21 =>
 (appc 24 s.out3_sands [(⟨(⟨t21.span.lo, t21.span.hi⟩ : Span), t21.reach⟩ : Sand)]).bind fun t27 =>
 (addc s.t19 1).bind fun t29 =>
 some (.inl (⟨t29, t27⟩ : qO))) else
 (some (.inr s.out3_sands))
structure qH where
  t33 : Int
  out3_sights : (List Sight)
def zW (c0 : Channel) (s_1 : qH) : Option (qH ⊕ (List Sight)) :=
 if s_1.t33 < (c0.sights.length : Int) then
 ((ix c0.sights s_1.t33).bind fun t35 =>
 (appc 24 s_1.out3_sights [t35]).bind fun t41 =>
 (addc s_1.t33 1).bind fun t43 =>
 some (.inl (⟨t43, t41⟩ : qH))) else
 (some (.inr s_1.out3_sights))
def yI (c0 : Channel) : Option Channel :=
 ((KJ c0.fords).bind fun t14 =>
 some (⟨c0.cells, c0.tides, t14, [], []⟩ : Channel)).bind fun o =>
 (iterM FU (z2 c0) (⟨0, o.sands⟩ : qO)).bind fun o_1 =>
 (iterM FU (zW c0) (⟨0, o.sights⟩ : qH)).bind fun o_2 =>
 some (⟨o.cells, o.tides, o.fords, o_1, o_2⟩ : Channel)
theorem zH (c0 : Channel) (qa0 : Option Addr) (na0 ca0 : Nat) (qa1 : Option Addr) (na1 ca1 : Nat) (qa2 : Option Addr) (na2 ca2 : Nat) (w : World) (hw : HV w (keys [] []) [] [] [(aB qa0, aO qa0, RI.enc c0.fords), (aB qa1, aO qa1, RSa.enc c0.sands), (aB qa2, aO qa2, RSi.enc c0.sights)] w) (hna0 : c0.fords.length = na0) (hqa0 : AOK na0 qa0) (hla0 : na0 ≤ ca0) (hna1 : c0.sands.length = na1) (hqa1 : AOK na1 qa1) (hla1 : na1 ≤ ca1) (hna2 : c0.sights.length = na2) (hqa2 : AOK na2 qa2) (hla2 : na2 ≤ ca2) {res : Channel} (hm : yI c0 = some res) :
    Calls Tryz.prog 21 #[.agg #[.int .i64 c0.cells, .int .i64 c0.tides, .slice qa0 na0 ca0, .slice qa1 na1 ca1, .slice qa2 na2 ca2]] w (fun en w' => ∃ l : VL × VL × VL, en = .returned (.agg #[.int .i64 res.cells, .int .i64 res.tides, sL l.1, sL l.2.1, sL l.2.2]) ∧ (VOK 1 l.1.n l.1.cap (RI.enc res.fords) l.1.sp l.1.q ∧ VOK 3 l.2.1.n l.2.1.cap (RSa.enc res.sands) l.2.1.sp l.2.1.q ∧ VOK 3 l.2.2.n l.2.2.cap (RSi.enc res.sights) l.2.2.sp l.2.2.q) ∧ HV w (keys [] []) [] [vL 3 l.1 (RI.enc res.fords), vL 138 l.2.1 (RSa.enc res.sands), vL 139 l.2.2 (RSi.enc res.sights)] [] w') := by
  unfold yI at hm
  refine qU func21 Y ntmps21 Y (e := [(0, _)]) Y hw (jr ?_)
  refine jI Y Y (fun b h4 => ?_)
  refine jx (fun w => zeroValue33 w) Y (fun b_1 h5 => ?_)
  refine jp (jj ?_)
  obtain ⟨o, h6, h7⟩ := bindO hm
  refine jE (ι := Nat × VL × VL × VL) (fun l => VOK 1 l.2.1.n l.2.1.cap (RI.enc o.fords) l.2.1.sp l.2.1.q ∧ VOK 3 l.2.2.1.n l.2.2.1.cap (RSa.enc o.sands) l.2.2.1.sp l.2.2.1.q ∧ VOK 3 l.2.2.2.n l.2.2.2.cap (RSi.enc o.sights) l.2.2.2.sp l.2.2.2.q) (fun l => [(1, ptr b 0), (2, ptr b_1 0), (3, ptr l.1 0)]) (fun l => [kc b_1 #[.int .i64 0, .int .i64 0, slv none 0 0, slv none 0 0, slv none 0 0] 33, kc b #[.int .i64 c0.cells, .int .i64 c0.tides, .slice qa0 na0 ca0, .slice qa1 na1 ca1, .slice qa2 na2 ca2] 26, kc l.1 #[.int .i64 o.cells, .int .i64 o.tides, sL l.2.1, sL l.2.2.1, sL l.2.2.2] 33]) (fun l => [vL 3 l.2.1 (RI.enc o.fords), vL 138 l.2.2.1 (RSa.enc o.sands), vL 139 l.2.2.2 (RSi.enc o.sights)]) ?_ ?_
  ·replace hm := h6
   obtain ⟨t14, h11, hm⟩ := bindO hm
   refine kn none (.free 0 (.hoist 1 (.free 2 (.hoist 3 (.free 4 (.hoist 5 (.br (.alt 6 (.free 7 (.one 8 (.one 9 .done))) (.alt 8 (.one 6 (.free 7 (.one 9 .done))) .nil))))))))) _ Y (by decide +kernel) (fun w k hh => hh.draw k) (fun w hh => hh) ?_
   refine KE 0 runUnderlying26 sizeOf3 Y Y Y Y (Qm 1 isAgg3 Y Y Y Y Y (KE 1 runUnderlying26 sizeOf3 Y Y Y Y (Qm 1 isAgg3 Y Y Y Y Y (KE 2 runUnderlying26 sizeOf22 Y Y Y Y (Qm 1 isAgg22 Y Y Y Y Y (Zu ?_))))))
   refine yH Y ?_ ?_
   ·refine jd [] [] Y Y Y Y Y Y Y call46 (fun w hh => Yw c0.fords qa0 na0 ca0 w (HV.callee (S0 := []) (vs0 := []) hh (roR hh 0 Y roN)) hna0 hqa0 hla0 h11) (fun l_1 h12 => ?_)
    have h13 := h12
    refine kC (S' := [_, _]) (vs' := [_]) [0, 1] [0] 0 Y Y Y Y (jq (hsE [0, 1] [] 0 Y Y Y Y) (jo Y Y Y Y (fun _ _ => qL (vs := [(0, _), (1, _), (2, _)]) (cells := [_, _, _, _, _]) Y Y) (jK Y ?_)))
    refine jx (fun w => zeroValue33 w) Y (fun b_2 h14 => ?_)
    refine jq (hsE [1, 2] [] 0 Y Y Y Y) (jK Y (kv (us := #[_, _, _, _, _]) (cs' := [_, _, _, _, _]) (S' := [_, _, _]) 0 (fun w => sizeOf33 w) Y Y Y Y Y Y Y (jq (hsE [1, 2] [] 0 Y Y Y Y) (jO (yk 138 (yk 139 ?_))))))
    obtain rfl := sj hm
    exact ji (b_2, l_1, ⟨none, 0, 0, []⟩, ⟨none, 0, 0, []⟩) (⟨h13, VOK.nil, VOK.nil⟩) (sE Y) (hsE [1, 2, 0] [2, 1, 0] 0 Y Y Y Y)
   refine yH Y ?_ ?_
   refine jx (fun w => zeroValue33 w) Y (fun b_3 h15 => ?_)
   refine jq (hsE [1, 2] [] 0 Y Y Y Y) (jK Y ?_)
   refine jd [] [] Y Y Y Y Y Y Y call46 (fun w hh => Yw c0.fords qa0 na0 ca0 w (HV.callee (S0 := []) (vs0 := []) hh (roR hh 0 Y roN)) hna0 hqa0 hla0 h11) (fun l_2 h16 => ?_)
   have h17 := h16
   refine kC (S' := [_, _, _]) (vs' := [_]) [0, 1, 2] [0] 0 Y Y Y Y (jq (hsE [1, 2] [] 0 Y Y Y Y) (jo Y Y Y Y (fun _ _ => qL (vs := [(0, _), (1, _), (2, _)]) (cells := [_, _, _, _, _]) Y Y) (jK Y (kv (us := #[_, _, _, _, _]) (cs' := [_, _, _, _, _]) (S' := [_, _, _]) 0 (fun w => sizeOf33 w) Y Y Y Y Y Y Y (jq (hsE [1, 2] [] 0 Y Y Y Y) (jO (yk 138 ?_)))))))
   refine yk 139 ?_
   obtain rfl := sj hm
   exact ji (b_3, l_2, ⟨none, 0, 0, []⟩, ⟨none, 0, 0, []⟩) (⟨h17, VOK.nil, VOK.nil⟩) (sE Y) (hsE [1, 2, 0] [2, 1, 0] 0 Y Y Y Y)
   exact Qa
  intro l hj
  obtain ⟨h8, h9, h10⟩ := hj
  replace hm := h7
  refine ja (jj (jr (qC 3 runUnderlying26 Y sizeOf23 Y Y (qf 1 isAgg23 Y Y Y Y (jc Y Y Y (fun w _ => jR hna1 (runUnderlying23 w) Y) (jh Y Y (jp ?_)))))))
  obtain ⟨o_1, h18, h19⟩ := bindO hm
  refine jE (ι := VL) (fun l_3 => VOK 3 l_3.n l_3.cap (RSa.enc o_1) l_3.sp l_3.q) (fun l_3 => [(1, ptr b 0), (2, ptr b_1 0), (3, ptr l.1 0)]) (fun l_3 => [kc b_1 #[.int .i64 0, .int .i64 0, slv none 0 0, slv none 0 0, slv none 0 0] 33, kc b #[.int .i64 c0.cells, .int .i64 c0.tides, .slice qa0 na0 ca0, .slice qa1 na1 ca1, .slice qa2 na2 ca2] 26, kc l.1 #[.int .i64 o.cells, .int .i64 o.tides, sL l.2.1, sL l_3, sL l.2.2.2] 33]) (fun l_3 => [vL 3 l.2.1 (RI.enc o.fords), vL 138 l_3 (RSa.enc o_1), vL 139 l.2.2.2 (RSi.enc o.sights)]) ?_ ?_
  ·replace hm := h18
   refine jl ?_
   refine jG (ι := VL) hm (fun s l_4 => VOK 3 l_4.n l_4.cap (RSa.enc s.out3_sands) l_4.sp l_4.q) (fun s l_4 => [(1, ptr b 0), (2, ptr b_1 0), (3, ptr l.1 0), (17, .slice qa1 na1 ca1), (18, .int .i64 (c0.sands.length : Int)), (19, .int .i64 s.t19)]) (fun s l_4 => [kc b_1 #[.int .i64 0, .int .i64 0, slv none 0 0, slv none 0 0, slv none 0 0] 33, kc b #[.int .i64 c0.cells, .int .i64 c0.tides, .slice qa0 na0 ca0, .slice qa1 na1 ca1, .slice qa2 na2 ca2] 26, kc l.1 #[.int .i64 o.cells, .int .i64 o.tides, sL l.2.1, sL l_4, sL l.2.2.2] 33]) (fun s l_4 => [vL 3 l.2.1 (RI.enc o.fords), vL 138 l_4 (RSa.enc s.out3_sands), vL 139 l.2.2.2 (RSi.enc o.sights)]) l.2.2.1 (h9) (sE Y) (fun w hh => hh) (fun s l_4 r hpl hm h22 => ?_)
   have h21 := hpl
   unfold z2 at hm
   refine jr (JC Y Y Y (jp (jj ?_)))
   refine jt Y (fun h23 => ?_) (fun h23 => ?_)
   ·replace hm := ifD h23 hm
    refine js (ja (jj (jl (jr ?_))))
    obtain ⟨t21, h24, hm⟩ := bindO hm
    refine jc Y Y Y (fun w _ => yn h24 (runUnderlying23 w) (sizeOf98 w) Y Y hna1 hqa1) ?_
    refine jc Y Y Y (fun w hh => Jf RSa 0 [.int .i64 t21.span.lo, .int .i64 t21.span.hi, .int .i64 t21.reach] h24 (isAgg98 w) (sizeOf98 w) Y (hh.seg 1 Y) Y (Nat.add_zero _).symm) ?_
    refine jx (fun w => zeroValue98 w) Y (fun b_4 h25 => ?_)
    refine kv (us := #[_, _, _]) (cs' := [_, _, _]) (S' := [_, _, _, _]) 0 (fun w => sizeOf98 w) Y Y Y Y Y Y Y (jp (je (qC 3 runUnderlying33 Y sizeOf30 Y Y (qf 3 isAgg30 Y Y Y Y (zT [_, _, _] 0 isAgg98 sizeOf98 Y Y Y Y ?_)))))
    refine qo RSa [(⟨(⟨t21.span.lo, t21.span.hi⟩ : Span), t21.reach⟩ : Sand)] (ps := [(0, _)]) (cells := [_, _, _]) (fun w => runUnderlying30 w) (fun w => sizeOf138 w) (fun w => zeroValue138 w) Y Y Y Y Y Y Y Y (fun L h26 => ?_)
    obtain ⟨t27, h27, hm⟩ := bindO hm
    refine zE RSa 2 h27 underlying30 jaW Y Y Y Y Y h21 Y Y (vlen RSa h26 Y) (AOK.q (vne h26)) (fun w hh => (hh.vsegA 0 Y h26)) Y (fun L_1 h28 h28n => ?_)
    refine kC (S' := [_, _, _, _]) (vs' := [_, _, _, _]) [0, 1, 2, 3] [0, 1, 2, 3] 0 Y Y Y Y (qC 3 runUnderlying33 Y sizeOf30 Y Y (zU (cs' := #[_, _, _, _, _]) (S' := [_, _, _, _]) 3 (fun w => sizeOf30 w) Y Y Y Y Y Y Y (ju (jv (ja (je ?_))))))
    obtain ⟨t29, h29, hm⟩ := bindO hm
    refine JB h29 Y Y Y (jh Y Y (ju ?_))
    obtain rfl := sj hm
    refine ja ?_
    exact jA _ L_1 Y (h28) (sE Y) (hsE [1, 2, 3] [1, 2, 3] 0 Y Y Y Y)
   replace hm := ifE h23 hm
   refine jQ (jk (jk (jC ?_)))
   obtain rfl := sj hm
   have hbo := h22 _ Y
   subst hbo
   exact ji l_4 (h21) (sE Y) (fun w hh => hh)
  intro l_3 hj
  have h20 := hj
  replace hm := h19
  refine ja (jj (jr (qC 4 runUnderlying26 Y sizeOf24 Y Y (qf 1 isAgg24 Y Y Y Y (jc Y Y Y (fun w _ => jR hna2 (runUnderlying24 w) Y) (jh Y Y (jp ?_)))))))
  obtain ⟨o_2, h30, h31⟩ := bindO hm
  refine jE (ι := VL) (fun l_5 => VOK 3 l_5.n l_5.cap (RSi.enc o_2) l_5.sp l_5.q) (fun l_5 => [(2, ptr b_1 0), (3, ptr l.1 0)]) (fun l_5 => [kc b_1 #[.int .i64 0, .int .i64 0, slv none 0 0, slv none 0 0, slv none 0 0] 33, kc b #[.int .i64 c0.cells, .int .i64 c0.tides, .slice qa0 na0 ca0, .slice qa1 na1 ca1, .slice qa2 na2 ca2] 26, kc l.1 #[.int .i64 o.cells, .int .i64 o.tides, sL l.2.1, sL l_3, sL l_5] 33]) (fun l_5 => [vL 3 l.2.1 (RI.enc o.fords), vL 138 l_3 (RSa.enc o_1), vL 139 l_5 (RSi.enc o_2)]) ?_ ?_
  ·replace hm := h30
   refine jl ?_
   refine jG (ι := VL) hm (fun s_1 l_6 => VOK 3 l_6.n l_6.cap (RSi.enc s_1.out3_sights) l_6.sp l_6.q) (fun s_1 l_6 => [(2, ptr b_1 0), (3, ptr l.1 0), (31, .slice qa2 na2 ca2), (32, .int .i64 (c0.sights.length : Int)), (33, .int .i64 s_1.t33)]) (fun s_1 l_6 => [kc b_1 #[.int .i64 0, .int .i64 0, slv none 0 0, slv none 0 0, slv none 0 0] 33, kc b #[.int .i64 c0.cells, .int .i64 c0.tides, .slice qa0 na0 ca0, .slice qa1 na1 ca1, .slice qa2 na2 ca2] 26, kc l.1 #[.int .i64 o.cells, .int .i64 o.tides, sL l.2.1, sL l_3, sL l_6] 33]) (fun s_1 l_6 => [vL 3 l.2.1 (RI.enc o.fords), vL 138 l_3 (RSa.enc o_1), vL 139 l_6 (RSi.enc s_1.out3_sights)]) l.2.2.2 (h10) (sE Y) (fun w hh => hh) (fun s_1 l_6 r_1 hpl hm h34 => ?_)
   have h33 := hpl
   unfold zW at hm
   refine jr (JC Y Y Y (jp (jj ?_)))
   refine jt Y (fun h35 => ?_) (fun h35 => ?_)
   ·replace hm := ifD h35 hm
    refine js (ja (jj (jl (jr ?_))))
    obtain ⟨t35, h36, hm⟩ := bindO hm
    refine jc Y Y Y (fun w _ => yn h36 (runUnderlying24 w) (sizeOf55 w) Y Y hna2 hqa2) ?_
    refine jc Y Y Y (fun w hh => Jf RSi 0 [.int .i64 t35.after, .int .i64 t35.cell, .bool t35.upright] h36 (isAgg55 w) (sizeOf55 w) Y (hh.seg 2 Y) Y (Nat.add_zero _).symm) ?_
    refine jx (fun w => zeroValue55 w) Y (fun b_5 h37 => ?_)
    refine kv (us := #[_, _, _]) (cs' := [_, _, _]) (S' := [_, _, _, _]) 0 (fun w => sizeOf55 w) Y Y Y Y Y Y Y (jp (je (qC 4 runUnderlying33 Y sizeOf31 Y Y (qf 3 isAgg31 Y Y Y Y (zT [_, _, _] 0 isAgg55 sizeOf55 Y Y Y Y ?_)))))
    refine qo RSi [t35] (ps := [(0, _)]) (cells := [_, _, _]) (fun w => runUnderlying31 w) (fun w => sizeOf139 w) (fun w => zeroValue139 w) Y Y Y Y Y Y Y Y (fun L_2 h38 => ?_)
    obtain ⟨t41, h39, hm⟩ := bindO hm
    refine zE RSi 3 h39 underlying31 jaZ Y Y Y Y Y h33 Y Y (vlen RSi h38 Y) (AOK.q (vne h38)) (fun w hh => (hh.vsegA 0 Y h38)) Y (fun L_3 h40 h40n => ?_)
    refine kC (S' := [_, _, _, _]) (vs' := [_, _, _, _]) [0, 1, 2, 3] [0, 1, 2, 3] 0 Y Y Y Y (qC 4 runUnderlying33 Y sizeOf31 Y Y (zU (cs' := #[_, _, _, _, _]) (S' := [_, _, _, _]) 3 (fun w => sizeOf31 w) Y Y Y Y Y Y Y (ju (jv (ja (je ?_))))))
    obtain ⟨t43, h41, hm⟩ := bindO hm
    refine JB h41 Y Y Y (jh Y Y (ju ?_))
    obtain rfl := sj hm
    refine ja ?_
    exact jA _ L_3 Y (h40) (sE Y) (hsE [1, 2, 3] [1, 2, 3] 0 Y Y Y Y)
   replace hm := ifE h35 hm
   refine jQ (jk (jk (jC ?_)))
   obtain rfl := sj hm
   have hbo := h34 _ Y
   subst hbo
   exact ji l_6 (h33) (sE Y) (fun w hh => hh)
  intro l_5 hj
  have h32 := hj
  replace hm := h31
  refine ja (jr (zT [_, _, _, _, _] 2 isAgg33 sizeOf33 Y Y Y Y (kv (us := #[_, _, _, _, _]) (cs' := [_, _, _, _, _]) (S' := [_, _, _]) 0 (fun w => sizeOf33 w) Y Y Y Y Y Y Y (jp (jw ?_)))))
  obtain rfl := sj hm
  refine jn Y (fun w hh => (.cell Y (loadVar_agg (vs := [_, _, _, _, _]) (isAgg33 _) (sizeOf33 _) (hh.cells 0 Y Y)) .nil)) (fun w hh => ⟨(l.2.1, l_3, l_5), rfl, ⟨h8, h20, h32⟩, hh.se [] [0, 1, 2] 3 Y Y Y rfl⟩)
def jD (n0 : Int) (lo1 : Int) (hi2 : Int) : Option Bool :=
 (if n0 < lo1 then
 (some true) else
 (some (decide (hi2 < n0)))).bind fun o =>
 some o
theorem kk (n0 : Int) (lo1 : Int) (hi2 : Int)  (w : World) (hw : HV w (keys [] []) [] [] [] w)  {res : Bool} (hm : jD n0 lo1 hi2 = some res) :
    Calls Tryz.prog 88 #[.int .i64 n0, .int .i64 lo1, .int .i64 hi2] w (fun en w' => ∃ l : Unit, en = .returned (.bool res) ∧ (True) ∧ HV w (keys [] []) [] [] [] w') := by
  unfold jD at hm
  refine qU func88 Y ntmps88 Y (e := [(0, _), (1, _), (2, _)]) Y hw (jr (jm Y Y (jp (jj ?_))))
  obtain ⟨o, h1, h2⟩ := bindO hm
  refine jE (ι := Unit) (fun l => True) (fun l => [(6, .bool o)]) (fun l => []) (fun l => []) ?_ ?_
  ·replace hm := h1
   refine je (jh Y Y (jh Y Y (JC Y Y Y (jh Y Y ?_))))
   refine jM 10 Y (fun h3 => ?_) (fun h3 => ?_)
   ·replace hm := ifD h3 hm
    refine g_k Y Y Y Y (g_k Y Y Y Y (g_k Y Y Y Y (yF Y Y Y (jm Y Y (ju ?_)))))
    obtain rfl := sj hm
    exact ji () (trivial) (sE Y) (fun w hh => hh)
   replace hm := ifE h3 hm
   refine jb Y Y (jh Y Y (jb Y Y (jh Y Y (jb Y Y (jc Y Y Y (fun _ _ => Q8 Y Y) (qE Y Y Y (jm Y Y ?_)))))))
   refine ju ?_
   obtain rfl := sj hm
   exact ji () (trivial) (sE Y) (fun w hh => hh)
  intro l hj
  replace hm := h2
  refine ja (jw ?_)
  obtain rfl := sj hm
  refine jn Y (fun w hh => (.tmp Y .nil)) (fun w hh => ⟨(), rfl, trivial, hh⟩)
def y5 (c0 : Channel) (s : Int) : Option (Int ⊕ (Unit ⊕ Int)) :=
 if s < (c0.sands.length : Int) then
 ((ix c0.sands s).bind fun t46 =>
 (jD t46.reach 1 2).bind fun t49 =>
 if t49 = true then
 (some (.inr (.inr 3))) else
 ((addc s 1).bind fun t42 =>
 some (.inl t42))) else
 (some (.inr (.inl ())))
def ze (c0 : Channel) (s_1 : Int) : Option (Int ⊕ (Unit ⊕ Int)) :=
 if s_1 < (c0.sights.length : Int) then
 ((ix c0.sights s_1).bind fun t60 =>
 (jD t60.after 0 c0.tides).bind fun t65 =>
 if t65 = true then
 (some (.inr (.inr 3))) else
 ((addc s_1 1).bind fun t56 =>
 some (.inl t56))) else
 (some (.inr (.inl ())))
def y7 (c0 : Channel) (s_2 : Int) : Option (Int ⊕ (Unit ⊕ Int)) :=
 if s_2 < (c0.fords.length : Int) then
 ((ix c0.fords s_2).bind fun t76 =>
 (subc c0.cells 1).bind fun t80 =>
 (jD t76 0 t80).bind fun t81 =>
 if t81 = true then
 (some (.inr (.inr 1))) else
 ((addc s_2 1).bind fun t72 =>
 some (.inl t72))) else
 (some (.inr (.inl ())))
def y8 (c0 : Channel) (s_3 : Int) : Option (Int ⊕ (Unit ⊕ Int)) :=
 if s_3 < (c0.sands.length : Int) then
 (((ix c0.sands s_3).bind fun t92 =>
 (subc c0.cells 1).bind fun t98 =>
 (jD t92.span.lo 0 t98).bind fun t99 =>
 if t99 = true then
 (some true) else
 ((ix c0.sands s_3).bind fun t104 =>
 (subc c0.cells 1).bind fun t110 =>
 (jD t104.span.hi 0 t110).bind fun t111 =>
 some t111)).bind fun o_5 =>
 if o_5 = true then
 (some (.inr (.inr 1))) else
 ((addc s_3 1).bind fun t88 =>
 some (.inl t88))) else
 (some (.inr (.inl ())))
def y9 (c0 : Channel) (s_4 : Int) : Option (Int ⊕ (Unit ⊕ Int)) :=
 if s_4 < (c0.sights.length : Int) then
 ((ix c0.sights s_4).bind fun t123 =>
 (subc c0.cells 1).bind fun t128 =>
 (jD t123.cell 0 t128).bind fun t129 =>
 if t129 = true then
 (some (.inr (.inr 1))) else
 ((addc s_4 1).bind fun t119 =>
 some (.inl t119))) else
 (some (.inr (.inl ())))
def kF (c0 : Channel) (s_5 : Int) : Option (Int ⊕ (Unit ⊕ Int)) :=
 if s_5 < (c0.fords.length : Int) then
 ((ix c0.fords s_5).bind fun t140 =>
 (subc s_5 1).bind fun t145 =>
 (ix c0.fords t145).bind fun t146 =>
 if t140 ≤ t146 then
 (some (.inr (.inr 4))) else
 ((addc s_5 1).bind fun t136 =>
 some (.inl t136))) else
 (some (.inr (.inl ())))
def zd (c0 : Channel) (s_6 : Int) : Option (Int ⊕ (Unit ⊕ Int)) :=
 if s_6 < (c0.sands.length : Int) then
 ((ix c0.sands s_6).bind fun t159 =>
 (ix c0.sands s_6).bind fun t166 =>
 if t166.span.hi < t159.span.lo then
 (some (.inr (.inr 4))) else
 ((addc s_6 1).bind fun t155 =>
 some (.inl t155))) else
 (some (.inr (.inl ())))
def yc (c0 : Channel) : Option Int :=
 ((jD c0.cells 2 10).bind fun t12 =>
 if t12 = true then
 (some true) else
 ((jD c0.tides 0 4).bind fun t16 =>
 if t16 = true then
 (some true) else
 ((jD (c0.fords.length : Int) 1 3).bind fun t22 =>
 if t22 = true then
 (some true) else
 (if 4 < (c0.sands.length : Int) then
 (some true) else
 (some (decide (8 < (c0.sights.length : Int)))))))).bind fun o =>
 if o = true then
 (some 2) else
 ((iterM FU (y5 c0) 0).bind fun o_1 =>
 oc o_1 (fun j => (iterM FU (ze c0) 0).bind fun o_2 =>
 oc o_2 (fun j_1 => (iterM FU (y7 c0) 0).bind fun o_3 =>
 oc o_3 (fun j_2 => (iterM FU (y8 c0) 0).bind fun o_4 =>
 oc o_4 (fun j_3 => (iterM FU (y9 c0) 0).bind fun o_6 =>
 oc o_6 (fun j_4 => (iterM FU (kF c0) 1).bind fun o_7 =>
 oc o_7 (fun j_5 => (iterM FU (zd c0) 0).bind fun o_8 =>
 oc o_8 (fun j_6 => some 0) (fun r_7 => some r_7)) (fun r_8 => some r_8)) (fun r_9 => some r_9)) (fun r_10 => some r_10)) (fun r_11 => some r_11)) (fun r_12 => some r_12)) (fun r_13 => some r_13))
theorem K7 (c0 : Channel) (qa0 : Option Addr) (na0 ca0 : Nat) (qa1 : Option Addr) (na1 ca1 : Nat) (qa2 : Option Addr) (na2 ca2 : Nat) (w : World) (hw : HV w (keys [] []) [] [] [(aB qa0, aO qa0, RI.enc c0.fords), (aB qa1, aO qa1, RSa.enc c0.sands), (aB qa2, aO qa2, RSi.enc c0.sights)] w) (hna0 : c0.fords.length = na0) (hqa0 : AOK na0 qa0) (hla0 : na0 ≤ ca0) (hna1 : c0.sands.length = na1) (hqa1 : AOK na1 qa1) (hla1 : na1 ≤ ca1) (hna2 : c0.sights.length = na2) (hqa2 : AOK na2 qa2) (hla2 : na2 ≤ ca2) {res : Int} (hm : yc c0 = some res) :
    Calls Tryz.prog 22 #[.agg #[.int .i64 c0.cells, .int .i64 c0.tides, .slice qa0 na0 ca0, .slice qa1 na1 ca1, .slice qa2 na2 ca2]] w (fun en w' => ∃ l : Unit, en = .returned (.int .i64 res) ∧ (True) ∧ HV w (keys [] []) [] [] [] w') := by
  unfold yc at hm
  refine qU func22 Y ntmps22 Y (e := [(0, _)]) Y hw (jr ?_)
  refine jI Y Y (fun b h1 => ?_)
  refine jm Y Y (jp (jj (jj ?_)))
  obtain ⟨o, h2, h3⟩ := bindO hm
  refine jE (ι := Unit) (fun l => True) (fun l => [(1, ptr b 0), (35, .bool o)]) (fun l => [kc b #[.int .i64 c0.cells, .int .i64 c0.tides, .slice qa0 na0 ca0, .slice qa1 na1 ca1, .slice qa2 na2 ca2] 33]) (fun l => []) ?_ ?_
  ·replace hm := h2
   refine je (qC 0 runUnderlying33 Y sizeOf3 Y Y (qf 0 isAgg3 Y Y Y Y ?_))
   obtain ⟨t12, h4, hm⟩ := bindO hm
   refine jd [] [] Y Y Y Y Y Y Y call88 (fun w hh => kk c0.cells 2 10 w (HV.callee (S0 := []) (vs0 := []) hh roN)  h4) (fun l_1 h5 => ?_)
   refine jh Y Y ?_
   refine jM 13 Y (fun h6 => ?_) (fun h6 => ?_)
   ·replace hm := ifT (h6) hm
    refine g_k Y Y Y Y (g_k Y Y Y Y (g_k Y Y Y Y (yF Y Y Y (jh Y Y (g_k Y Y Y Y (g_k Y Y Y Y (g_k Y Y Y Y ?_)))))))
    refine g_k Y Y Y Y (yF Y Y Y (jh Y Y (g_k Y Y Y Y (g_k Y Y Y Y (g_k Y Y Y Y (g_k Y Y Y Y (yF Y Y Y ?_)))))))
    refine jh Y Y (g_k Y Y Y Y (g_k Y Y Y Y (g_k Y Y Y Y (g_k Y Y Y Y (yF Y Y Y (ju ?_))))))
    obtain rfl := sj hm
    exact ji () (trivial) (sE Y) (fun w hh => hh)
   replace hm := ifN h6 hm
   refine jb Y Y (qC 1 runUnderlying33 Y sizeOf3 Y Y (jb Y Y (qf 0 isAgg3 Y Y Y Y (jb Y Y ?_))))
   obtain ⟨t16, h7, hm⟩ := bindO hm
   refine jd [] [] Y Y Y Y Y Y Y call88 (fun w hh => kk c0.tides 0 4 w (HV.callee (S0 := []) (vs0 := []) hh roN)  h7) (fun l_2 h8 => ?_)
   refine qE Y Y Y (jh Y Y ?_)
   refine jM 18 Y (fun h9 => ?_) (fun h9 => ?_)
   ·replace hm := ifT (h9) hm
    refine g_k Y Y Y Y (g_k Y Y Y Y (g_k Y Y Y Y (g_k Y Y Y Y (yF Y Y Y (jh Y Y (g_k Y Y Y Y (g_k Y Y Y Y ?_)))))))
    refine g_k Y Y Y Y (g_k Y Y Y Y (yF Y Y Y (jh Y Y (g_k Y Y Y Y (g_k Y Y Y Y (g_k Y Y Y Y (g_k Y Y Y Y ?_)))))))
    refine yF Y Y Y (ju ?_)
    obtain rfl := sj hm
    exact ji () (trivial) (sE Y) (fun w hh => hh)
   replace hm := ifN h9 hm
   refine jb Y Y (qC 2 runUnderlying33 Y sizeOf22 Y Y (jb Y Y (qf 0 isAgg22 Y Y Y Y (jb Y Y (jc Y Y Y (fun w _ => jR hna0 (runUnderlying22 w) Y) (jb Y Y ?_))))))
   obtain ⟨t22, h10, hm⟩ := bindO hm
   refine jd [] [] Y Y Y Y Y Y Y call88 (fun w hh => kk (c0.fords.length : Int) 1 3 w (HV.callee (S0 := []) (vs0 := []) hh roN)  h10) (fun l_3 h11 => ?_)
   refine qE Y Y Y (jh Y Y ?_)
   refine jM 24 Y (fun h12 => ?_) (fun h12 => ?_)
   ·replace hm := ifT (h12) hm
    refine g_k Y Y Y Y (g_k Y Y Y Y (g_k Y Y Y Y (g_k Y Y Y Y (yF Y Y Y (jh Y Y (g_k Y Y Y Y (g_k Y Y Y Y ?_)))))))
    refine g_k Y Y Y Y (g_k Y Y Y Y (yF Y Y Y (ju ?_)))
    obtain rfl := sj hm
    exact ji () (trivial) (sE Y) (fun w hh => hh)
   replace hm := ifN h12 hm
   refine jb Y Y (qC 3 runUnderlying33 Y sizeOf30 Y Y (jb Y Y (qf 0 isAgg30 Y Y Y Y (jb Y Y (jc Y Y Y (fun w _ => jR hna1 (runUnderlying30 w) Y) (jb Y Y (jc Y Y Y (fun _ _ => Q8 Y Y) ?_)))))))
   refine qE Y Y Y (jh Y Y ?_)
   refine jM 30 Y (fun h13 => ?_) (fun h13 => ?_)
   ·replace hm := ifD h13 hm
    refine g_k Y Y Y Y (g_k Y Y Y Y (g_k Y Y Y Y (g_k Y Y Y Y (yF Y Y Y (ju ?_)))))
    obtain rfl := sj hm
    exact ji () (trivial) (sE Y) (fun w hh => hh)
   replace hm := ifE h13 hm
   refine jb Y Y (qC 4 runUnderlying33 Y sizeOf31 Y Y (jb Y Y (qf 0 isAgg31 Y Y Y Y (jb Y Y (jc Y Y Y (fun w _ => jR hna2 (runUnderlying31 w) Y) (jb Y Y (jc Y Y Y (fun _ _ => Q8 Y Y) ?_)))))))
   refine qE Y Y Y (ju ?_)
   obtain rfl := sj hm
   exact ji () (trivial) (sE Y) (fun w hh => hh)
  intro l hj
  replace hm := h3
  refine ja ?_
  refine jt Y (fun h14 => ?_) (fun h14 => ?_)
  ·replace hm := ifT (h14) hm
   refine jr (jm Y Y (jp (jw (jg ?_))))
   obtain rfl := sj hm
   refine jn Y (fun w hh => (.tmp Y .nil)) (fun w hh => ⟨(), rfl, trivial, hh.se [] [] 3 Y Y Y rfl⟩)
  replace hm := ifN h14 hm
  refine js (ja (jj (jr (jm Y Y (jp ?_)))))
  obtain ⟨o_1, h15, h16⟩ := bindO hm
  refine jE (ι := Unit) (fun j => o_1 = .inl j) (fun j => [(1, ptr b 0)]) (fun j => [kc b #[.int .i64 c0.cells, .int .i64 c0.tides, .slice qa0 na0 ca0, .slice qa1 na1 ca1, .slice qa2 na2 ca2] 33]) (fun j => []) ?_ ?_
  ·replace hm := h15
   refine jl ?_
   refine jG (ι := Unit) hm (fun s l_4 => True) (fun s l_4 => [(1, ptr b 0), (3, .int .i64 s)]) (fun s l_4 => [kc b #[.int .i64 c0.cells, .int .i64 c0.tides, .slice qa0 na0 ca0, .slice qa1 na1 ca1, .slice qa2 na2 ca2] 33]) (fun s l_4 => []) () (trivial) (sE Y) (fun w hh => hh) (fun s l_4 r hpl hm h17 => ?_)
   unfold y5 at hm
   refine jj (jr (jh Y Y (qC 3 runUnderlying33 Y sizeOf30 Y Y (qf 0 isAgg30 Y Y Y Y (jc Y Y Y (fun w _ => jR hna1 (runUnderlying30 w) Y) (JC Y Y Y (jp ?_)))))))
   refine jt Y (fun h18 => ?_) (fun h18 => ?_)
   ·replace hm := ifD h18 hm
    refine js (ja (jj (jl (jr (qC 3 runUnderlying33 Y sizeOf30 Y Y (qf 0 isAgg30 Y Y Y Y (jh Y Y ?_)))))))
    obtain ⟨t46, h19, hm⟩ := bindO hm
    refine jc Y Y Y (fun w _ => yn h19 (runUnderlying30 w) (sizeOf138 w) Y Y hna1 hqa1) (qC 2 runUnderlying138 Y sizeOf3 Y Y (jc Y Y Y (fun w hh => kA RSa 2 h19 (isAgg3 w) Y (hh.seg 1 Y) Y Y) ?_))
    obtain ⟨t49, h20, hm⟩ := bindO hm
    refine jd [] [] Y Y Y Y Y Y Y call88 (fun w hh => kk t46.reach 1 2 w (HV.callee (S0 := []) (vs0 := []) hh roN)  h20) (fun l_5 h21 => ?_)
    refine jp ?_
    refine jt Y (fun h22 => ?_) (fun h22 => ?_)
    ·replace hm := ifT (h22) hm
     refine jr (jm Y Y (jp (jw (jz (jg (jg (jz ?_)))))))
     obtain rfl := sj hm
     have hbo := h17 _ Y
     subst hbo
     refine jg ?_
     replace hm := ocR h16
     refine jg ?_
     obtain rfl := sj hm
     refine jn Y (fun w hh => (.tmp Y .nil)) (fun w hh => ⟨(), rfl, trivial, hh.se [] [] 3 Y Y Y rfl⟩)
    replace hm := ifN h22 hm
    refine js (jv (ja (je (jh Y Y ?_))))
    obtain ⟨t42, h23, hm⟩ := bindO hm
    refine JB h23 Y Y Y (jm Y Y (ju ?_))
    obtain rfl := sj hm
    refine ja ?_
    exact jA _ () Y (trivial) (sE Y) (fun w hh => hh)
   replace hm := ifE h18 hm
   refine jQ (jk (jk (jC ?_)))
   obtain rfl := sj hm
   have hbo := h17 _ Y
   subst hbo
   exact ji () (Y) (sE Y) (fun w hh => hh)
  intro j hj
  have h24 := hj
  subst h24
  replace hm := ocL h16
  refine ja (jj (jr (jm Y Y (jp ?_))))
  obtain ⟨o_2, h25, h26⟩ := bindO hm
  refine jE (ι := Unit) (fun j_1 => o_2 = .inl j_1) (fun j_1 => [(1, ptr b 0)]) (fun j_1 => [kc b #[.int .i64 c0.cells, .int .i64 c0.tides, .slice qa0 na0 ca0, .slice qa1 na1 ca1, .slice qa2 na2 ca2] 33]) (fun j_1 => []) ?_ ?_
  ·replace hm := h25
   refine jl ?_
   refine jG (ι := Unit) hm (fun s_1 l_6 => True) (fun s_1 l_6 => [(1, ptr b 0), (4, .int .i64 s_1)]) (fun s_1 l_6 => [kc b #[.int .i64 c0.cells, .int .i64 c0.tides, .slice qa0 na0 ca0, .slice qa1 na1 ca1, .slice qa2 na2 ca2] 33]) (fun s_1 l_6 => []) () (trivial) (sE Y) (fun w hh => hh) (fun s_1 l_6 r_1 hpl hm h27 => ?_)
   unfold ze at hm
   refine jj (jr (jh Y Y (qC 4 runUnderlying33 Y sizeOf31 Y Y (qf 0 isAgg31 Y Y Y Y (jc Y Y Y (fun w _ => jR hna2 (runUnderlying31 w) Y) (JC Y Y Y (jp ?_)))))))
   refine jt Y (fun h28 => ?_) (fun h28 => ?_)
   ·replace hm := ifD h28 hm
    refine js (ja (jj (jl (jj ?_))))
    refine kn none (.free 0 (.hoist 1 (.free 2 (.free 3 (.free 4 (.hoist 5 (.free 6 (.hoist 7 (.one 8 .done))))))))) _ Y (by decide +kernel) (fun w k hh => hh.draw k) (fun w hh => hh) ?_
    refine KE 4 runUnderlying33 sizeOf31 Y Y Y Y (Qm 0 isAgg31 Y Y Y Y Y (yi Y Y Y ?_))
    obtain ⟨t60, h29, hm⟩ := bindO hm
    refine jo Y Y Y Y (fun w _ => yn h29 (runUnderlying31 w) (sizeOf139 w) Y Y hna2 hqa2) (KE 0 runUnderlying139 sizeOf3 Y Y Y Y (jy Y Y Y Y (fun w hh => kA RSi 0 h29 (isAgg3 w) Y (hh.seg 2 Y) Y Y) (KE 1 runUnderlying33 sizeOf3 Y Y Y Y (Qm 0 isAgg3 Y Y Y Y Y (jK Y ?_)))))
    obtain ⟨t65, h30, hm⟩ := bindO hm
    refine jd [] [] Y Y Y Y Y Y Y call88 (fun w hh => kk t60.after 0 c0.tides w (HV.callee (S0 := []) (vs0 := []) hh roN)  h30) (fun l_7 h31 => ?_)
    refine jq (fun w hh => hh) (jO (ja ?_))
    refine jt Y (fun h32 => ?_) (fun h32 => ?_)
    ·replace hm := ifT (h32) hm
     refine jr (jm Y Y (jp (jw (jz (jg (jg (jz ?_)))))))
     obtain rfl := sj hm
     have hbo := h27 _ Y
     subst hbo
     refine jg ?_
     replace hm := ocR h26
     refine jg ?_
     obtain rfl := sj hm
     refine jn Y (fun w hh => (.tmp Y .nil)) (fun w hh => ⟨(), rfl, trivial, hh.se [] [] 3 Y Y Y rfl⟩)
    replace hm := ifN h32 hm
    refine js (jv (ja (je (jh Y Y ?_))))
    obtain ⟨t56, h33, hm⟩ := bindO hm
    refine JB h33 Y Y Y (jm Y Y (ju ?_))
    obtain rfl := sj hm
    refine ja ?_
    exact jA _ () Y (trivial) (sE Y) (fun w hh => hh)
   replace hm := ifE h28 hm
   refine jQ (jk (jk (jC ?_)))
   obtain rfl := sj hm
   have hbo := h27 _ Y
   subst hbo
   exact ji () (Y) (sE Y) (fun w hh => hh)
  intro j_1 hj
  have h34 := hj
  subst h34
  replace hm := ocL h26
  refine ja (jj (jr (jm Y Y (jp ?_))))
  obtain ⟨o_3, h35, h36⟩ := bindO hm
  refine jE (ι := Unit) (fun j_2 => o_3 = .inl j_2) (fun j_2 => [(1, ptr b 0)]) (fun j_2 => [kc b #[.int .i64 c0.cells, .int .i64 c0.tides, .slice qa0 na0 ca0, .slice qa1 na1 ca1, .slice qa2 na2 ca2] 33]) (fun j_2 => []) ?_ ?_
  ·replace hm := h35
   refine jl ?_
   refine jG (ι := Unit) hm (fun s_2 l_8 => True) (fun s_2 l_8 => [(1, ptr b 0), (5, .int .i64 s_2)]) (fun s_2 l_8 => [kc b #[.int .i64 c0.cells, .int .i64 c0.tides, .slice qa0 na0 ca0, .slice qa1 na1 ca1, .slice qa2 na2 ca2] 33]) (fun s_2 l_8 => []) () (trivial) (sE Y) (fun w hh => hh) (fun s_2 l_8 r_2 hpl hm h37 => ?_)
   unfold y7 at hm
   refine jj (jr (jh Y Y (qC 2 runUnderlying33 Y sizeOf22 Y Y (qf 0 isAgg22 Y Y Y Y (jc Y Y Y (fun w _ => jR hna0 (runUnderlying22 w) Y) (JC Y Y Y (jp ?_)))))))
   refine jt Y (fun h38 => ?_) (fun h38 => ?_)
   ·replace hm := ifD h38 hm
    refine js (ja (jj (jl (jj ?_))))
    refine kn none (.free 0 (.hoist 1 (.free 2 (.free 3 (.hoist 4 (.free 5 (.hoist 6 (.free 7 (.one 8 .done))))))))) _ Y (by decide +kernel) (fun w k hh => hh.draw k) (fun w hh => hh) ?_
    refine KE 2 runUnderlying33 sizeOf22 Y Y Y Y (Qm 0 isAgg22 Y Y Y Y Y (yi Y Y Y ?_))
    obtain ⟨t76, h39, hm⟩ := bindO hm
    refine jo Y Y Y Y (fun w _ => yn h39 (runUnderlying22 w) (sizeOf3 w) Y Y hna0 hqa0) (jy Y Y Y Y (fun w hh => kA RI 0 h39 (isAgg3 w) Y (hh.seg 0 Y) Y (Nat.add_zero _).symm) (KE 0 runUnderlying33 sizeOf3 Y Y Y Y (Qm 0 isAgg3 Y Y Y Y Y ?_)))
    obtain ⟨t80, h40, hm⟩ := bindO hm
    refine jo Y Y Y Y (fun _ _ => Jd h40 Y Y) (jK Y ?_)
    obtain ⟨t81, h41, hm⟩ := bindO hm
    refine jd [] [] Y Y Y Y Y Y Y call88 (fun w hh => kk t76 0 t80 w (HV.callee (S0 := []) (vs0 := []) hh roN)  h41) (fun l_9 h42 => ?_)
    refine jq (fun w hh => hh) (jO (ja ?_))
    refine jt Y (fun h43 => ?_) (fun h43 => ?_)
    ·replace hm := ifT (h43) hm
     refine jr (jm Y Y (jp (jw (jz (jg (jg (jz ?_)))))))
     obtain rfl := sj hm
     have hbo := h37 _ Y
     subst hbo
     refine jg ?_
     replace hm := ocR h36
     refine jg ?_
     obtain rfl := sj hm
     refine jn Y (fun w hh => (.tmp Y .nil)) (fun w hh => ⟨(), rfl, trivial, hh.se [] [] 3 Y Y Y rfl⟩)
    replace hm := ifN h43 hm
    refine js (jv (ja (je (jh Y Y ?_))))
    obtain ⟨t72, h44, hm⟩ := bindO hm
    refine JB h44 Y Y Y (jm Y Y (ju ?_))
    obtain rfl := sj hm
    refine ja ?_
    exact jA _ () Y (trivial) (sE Y) (fun w hh => hh)
   replace hm := ifE h38 hm
   refine jQ (jk (jk (jC ?_)))
   obtain rfl := sj hm
   have hbo := h37 _ Y
   subst hbo
   exact ji () (Y) (sE Y) (fun w hh => hh)
  intro j_2 hj
  have h45 := hj
  subst h45
  replace hm := ocL h36
  refine ja (jj (jr (jm Y Y (jp ?_))))
  obtain ⟨o_4, h46, h47⟩ := bindO hm
  refine jE (ι := Unit) (fun j_3 => o_4 = .inl j_3) (fun j_3 => [(1, ptr b 0)]) (fun j_3 => [kc b #[.int .i64 c0.cells, .int .i64 c0.tides, .slice qa0 na0 ca0, .slice qa1 na1 ca1, .slice qa2 na2 ca2] 33]) (fun j_3 => []) ?_ ?_
  ·replace hm := h46
   refine jl ?_
   refine jG (ι := Unit) hm (fun s_3 l_10 => True) (fun s_3 l_10 => [(1, ptr b 0), (6, .int .i64 s_3)]) (fun s_3 l_10 => [kc b #[.int .i64 c0.cells, .int .i64 c0.tides, .slice qa0 na0 ca0, .slice qa1 na1 ca1, .slice qa2 na2 ca2] 33]) (fun s_3 l_10 => []) () (trivial) (sE Y) (fun w hh => hh) (fun s_3 l_10 r_3 hpl hm h48 => ?_)
   unfold y8 at hm
   refine jj (jr (jh Y Y (qC 3 runUnderlying33 Y sizeOf30 Y Y (qf 0 isAgg30 Y Y Y Y (jc Y Y Y (fun w _ => jR hna1 (runUnderlying30 w) Y) (JC Y Y Y (jp ?_)))))))
   refine jt Y (fun h49 => ?_) (fun h49 => ?_)
   ·replace hm := ifD h49 hm
    refine js (ja (jj (jl (jj ?_))))
    obtain ⟨o_5, h50, h51⟩ := bindO hm
    refine jE (ι := Unit) (fun l_11 => True) (fun l_11 => [(1, ptr b 0), (6, .int .i64 s_3), (112, .bool o_5)]) (fun l_11 => [kc b #[.int .i64 c0.cells, .int .i64 c0.tides, .slice qa0 na0 ca0, .slice qa1 na1 ca1, .slice qa2 na2 ca2] 33]) (fun l_11 => []) ?_ ?_
    ·replace hm := h50
     refine kn none (.free 0 (.hoist 1 (.free 2 (.free 3 (.free 4 (.free 5 (.hoist 6 (.free 7 (.hoist 8 (.free 9 (.one 10 (.free 11 (.free 12 (.hoist 13 (.free 14 (.free 15 (.free 16 (.free 17 (.hoist 18 (.free 19 (.hoist 20 (.free 21 (.one 22 (.free 23 .done)))))))))))))))))))))))) _ Y (by decide +kernel) (fun w k hh => hh.draw k) (fun w hh => hh) ?_
     refine KE 3 runUnderlying33 sizeOf30 Y Y Y Y (Qm 0 isAgg30 Y Y Y Y Y (yi Y Y Y ?_))
     obtain ⟨t92, h52, hm⟩ := bindO hm
     refine jo Y Y Y Y (fun w _ => yn h52 (runUnderlying30 w) (sizeOf138 w) Y Y hna1 hqa1) (KE 0 runUnderlying138 sizeOf50 Y Y Y Y (KE 0 runUnderlying50 sizeOf3 Y Y Y Y (jy Y Y Y Y (fun w hh => kA RSa 0 h52 (isAgg3 w) Y (hh.seg 1 Y) Y (by first | rfl | simp only [Nat.add_assoc])) (KE 0 runUnderlying33 sizeOf3 Y Y Y Y (Qm 0 isAgg3 Y Y Y Y Y ?_)))))
     obtain ⟨t98, h53, hm⟩ := bindO hm
     refine jo Y Y Y Y (fun _ _ => Jd h53 Y Y) (jK Y ?_)
     obtain ⟨t99, h54, hm⟩ := bindO hm
     refine jd [] [] Y Y Y Y Y Y Y call88 (fun w hh => kk t92.span.lo 0 t98 w (HV.callee (S0 := []) (vs0 := []) hh roN)  h54) (fun l_12 h55 => ?_)
     refine jq (fun w hh => hh) (yi Y Y Y ?_)
     refine jM 100 Y (fun h56 => ?_) (fun h56 => ?_)
     ·replace hm := ifT (h56) hm
      refine jB Y Y Y Y Y Y Y (yl Y Y Y Y Y Y Y (jB Y Y Y Y Y Y Y (jB Y Y Y Y Y Y Y (jB Y Y Y Y Y Y Y (jB Y Y Y Y Y Y Y (yl Y Y Y Y Y Y Y (jB Y Y Y Y Y Y Y ?_)))))))
      refine yl Y Y Y Y Y Y Y (jB Y Y Y Y Y Y Y (jK Y (g_k Y Y Y Y (jq (fun w hh => hh) (jo Y Y Y Y (fun _ _ => JQ Y Y) (jO ?_))))))
      obtain rfl := sj hm
      exact ji () (trivial) (sE Y) (fun w hh => hh)
     replace hm := ifN h56 hm
     refine jF Y Y Y Y Y Y (fun w _ => jH 3 (runUnderlying33 w) Y (sizeOf30 w) Y) (k8 Y Y Y Y Y Y (fun w hh => jJ (isAgg30 w) Y (hh.cell 0 Y Y)) (jF Y Y Y Y Y Y (fun _ _ => jV Y) ?_))
     obtain ⟨t104, h57, hm⟩ := bindO hm
     refine jF Y Y Y Y Y Y (fun w _ => yn h57 (runUnderlying30 w) (sizeOf138 w) Y Y hna1 hqa1) (jF Y Y Y Y Y Y (fun w _ => jH 0 (runUnderlying138 w) Y (sizeOf50 w) Y) (jF Y Y Y Y Y Y (fun w _ => jH 1 (runUnderlying50 w) Y (sizeOf3 w) Y) (k8 Y Y Y Y Y Y (fun w hh => kA RSa 1 h57 (isAgg3 w) Y (hh.seg 1 Y) Y (by first | rfl | simp only [Nat.add_assoc])) (jF Y Y Y Y Y Y (fun w _ => jH 0 (runUnderlying33 w) Y (sizeOf3 w) Y) (k8 Y Y Y Y Y Y (fun w hh => jJ (isAgg3 w) Y (hh.cell 0 Y Y)) ?_)))))
     obtain ⟨t110, h58, hm⟩ := bindO hm
     refine jF Y Y Y Y Y Y (fun _ _ => Jd h58 Y Y) (jK Y (jb Y Y ?_))
     obtain ⟨t111, h59, hm⟩ := bindO hm
     refine jd [] [] Y Y Y Y Y Y Y call88 (fun w hh => kk t104.span.hi 0 t110 w (HV.callee (S0 := []) (vs0 := []) hh roN)  h59) (fun l_13 h60 => ?_)
     refine jq (fun w hh => hh) (jo Y Y Y Y (fun _ _ => zD Y Y) (jO ?_))
     obtain rfl := sj hm
     exact ji () (trivial) (sE Y) (fun w hh => hh)
    intro l_11 hj
    replace hm := h51
    refine ja ?_
    refine jt Y (fun h61 => ?_) (fun h61 => ?_)
    ·replace hm := ifT (h61) hm
     refine jr (jm Y Y (jp (jw (jz (jg (jg (jz ?_)))))))
     obtain rfl := sj hm
     have hbo := h48 _ Y
     subst hbo
     refine jg ?_
     replace hm := ocR h47
     refine jg ?_
     obtain rfl := sj hm
     refine jn Y (fun w hh => (.tmp Y .nil)) (fun w hh => ⟨(), rfl, trivial, hh.se [] [] 3 Y Y Y rfl⟩)
    replace hm := ifN h61 hm
    refine js (jv (ja (je (jh Y Y ?_))))
    obtain ⟨t88, h62, hm⟩ := bindO hm
    refine JB h62 Y Y Y (jm Y Y (ju ?_))
    obtain rfl := sj hm
    refine ja ?_
    exact jA _ () Y (trivial) (sE Y) (fun w hh => hh)
   replace hm := ifE h49 hm
   refine jQ (jk (jk (jC ?_)))
   obtain rfl := sj hm
   have hbo := h48 _ Y
   subst hbo
   exact ji () (Y) (sE Y) (fun w hh => hh)
  intro j_3 hj
  have h63 := hj
  subst h63
  replace hm := ocL h47
  refine ja (jj (jr (jm Y Y (jp ?_))))
  obtain ⟨o_6, h64, h65⟩ := bindO hm
  refine jE (ι := Unit) (fun j_4 => o_6 = .inl j_4) (fun j_4 => [(1, ptr b 0)]) (fun j_4 => [kc b #[.int .i64 c0.cells, .int .i64 c0.tides, .slice qa0 na0 ca0, .slice qa1 na1 ca1, .slice qa2 na2 ca2] 33]) (fun j_4 => []) ?_ ?_
  ·replace hm := h64
   refine jl ?_
   refine jG (ι := Unit) hm (fun s_4 l_14 => True) (fun s_4 l_14 => [(1, ptr b 0), (7, .int .i64 s_4)]) (fun s_4 l_14 => [kc b #[.int .i64 c0.cells, .int .i64 c0.tides, .slice qa0 na0 ca0, .slice qa1 na1 ca1, .slice qa2 na2 ca2] 33]) (fun s_4 l_14 => []) () (trivial) (sE Y) (fun w hh => hh) (fun s_4 l_14 r_4 hpl hm h66 => ?_)
   unfold y9 at hm
   refine jj (jr (jh Y Y (qC 4 runUnderlying33 Y sizeOf31 Y Y (qf 0 isAgg31 Y Y Y Y (jc Y Y Y (fun w _ => jR hna2 (runUnderlying31 w) Y) (JC Y Y Y (jp ?_)))))))
   refine jt Y (fun h67 => ?_) (fun h67 => ?_)
   ·replace hm := ifD h67 hm
    refine js (ja (jj (jl (jj ?_))))
    refine kn none (.free 0 (.hoist 1 (.free 2 (.free 3 (.free 4 (.hoist 5 (.free 6 (.hoist 7 (.free 8 (.one 9 .done)))))))))) _ Y (by decide +kernel) (fun w k hh => hh.draw k) (fun w hh => hh) ?_
    refine KE 4 runUnderlying33 sizeOf31 Y Y Y Y (Qm 0 isAgg31 Y Y Y Y Y (yi Y Y Y ?_))
    obtain ⟨t123, h68, hm⟩ := bindO hm
    refine jo Y Y Y Y (fun w _ => yn h68 (runUnderlying31 w) (sizeOf139 w) Y Y hna2 hqa2) (KE 1 runUnderlying139 sizeOf3 Y Y Y Y (jy Y Y Y Y (fun w hh => kA RSi 1 h68 (isAgg3 w) Y (hh.seg 2 Y) Y Y) (KE 0 runUnderlying33 sizeOf3 Y Y Y Y (Qm 0 isAgg3 Y Y Y Y Y ?_))))
    obtain ⟨t128, h69, hm⟩ := bindO hm
    refine jo Y Y Y Y (fun _ _ => Jd h69 Y Y) (jK Y ?_)
    obtain ⟨t129, h70, hm⟩ := bindO hm
    refine jd [] [] Y Y Y Y Y Y Y call88 (fun w hh => kk t123.cell 0 t128 w (HV.callee (S0 := []) (vs0 := []) hh roN)  h70) (fun l_15 h71 => ?_)
    refine jq (fun w hh => hh) (jO (ja ?_))
    refine jt Y (fun h72 => ?_) (fun h72 => ?_)
    ·replace hm := ifT (h72) hm
     refine jr (jm Y Y (jp (jw (jz (jg (jg (jz ?_)))))))
     obtain rfl := sj hm
     have hbo := h66 _ Y
     subst hbo
     refine jg ?_
     replace hm := ocR h65
     refine jg ?_
     obtain rfl := sj hm
     refine jn Y (fun w hh => (.tmp Y .nil)) (fun w hh => ⟨(), rfl, trivial, hh.se [] [] 3 Y Y Y rfl⟩)
    replace hm := ifN h72 hm
    refine js (jv (ja (je (jh Y Y ?_))))
    obtain ⟨t119, h73, hm⟩ := bindO hm
    refine JB h73 Y Y Y (jm Y Y (ju ?_))
    obtain rfl := sj hm
    refine ja ?_
    exact jA _ () Y (trivial) (sE Y) (fun w hh => hh)
   replace hm := ifE h67 hm
   refine jQ (jk (jk (jC ?_)))
   obtain rfl := sj hm
   have hbo := h66 _ Y
   subst hbo
   exact ji () (Y) (sE Y) (fun w hh => hh)
  intro j_4 hj
  have h74 := hj
  subst h74
  replace hm := ocL h65
  refine ja (jj (jr (jm Y Y (jp ?_))))
  obtain ⟨o_7, h75, h76⟩ := bindO hm
  refine jE (ι := Unit) (fun j_5 => o_7 = .inl j_5) (fun j_5 => [(1, ptr b 0)]) (fun j_5 => [kc b #[.int .i64 c0.cells, .int .i64 c0.tides, .slice qa0 na0 ca0, .slice qa1 na1 ca1, .slice qa2 na2 ca2] 33]) (fun j_5 => []) ?_ ?_
  ·replace hm := h75
   refine jl ?_
   refine jG (ι := Unit) hm (fun s_5 l_16 => True) (fun s_5 l_16 => [(1, ptr b 0), (8, .int .i64 s_5)]) (fun s_5 l_16 => [kc b #[.int .i64 c0.cells, .int .i64 c0.tides, .slice qa0 na0 ca0, .slice qa1 na1 ca1, .slice qa2 na2 ca2] 33]) (fun s_5 l_16 => []) () (trivial) (sE Y) (fun w hh => hh) (fun s_5 l_16 r_5 hpl hm h77 => ?_)
   unfold kF at hm
   refine jj (jr (jh Y Y (qC 2 runUnderlying33 Y sizeOf22 Y Y (qf 0 isAgg22 Y Y Y Y (jc Y Y Y (fun w _ => jR hna0 (runUnderlying22 w) Y) (JC Y Y Y (jp ?_)))))))
   refine jt Y (fun h78 => ?_) (fun h78 => ?_)
   ·replace hm := ifD h78 hm
    refine js (ja (jj (jl (jj ?_))))
    refine kn none (.free 0 (.hoist 1 (.free 2 (.free 3 (.hoist 4 (.free 5 (.hoist 6 (.free 7 (.free 8 (.free 9 (.hoist 10 (.free 11 .done)))))))))))) _ Y (by decide +kernel) (fun w k hh => hh.draw k) (fun w hh => hh) ?_
    refine KE 2 runUnderlying33 sizeOf22 Y Y Y Y (Qm 0 isAgg22 Y Y Y Y Y (yi Y Y Y ?_))
    obtain ⟨t140, h79, hm⟩ := bindO hm
    refine jo Y Y Y Y (fun w _ => yn h79 (runUnderlying22 w) (sizeOf3 w) Y Y hna0 hqa0) (jy Y Y Y Y (fun w hh => kA RI 0 h79 (isAgg3 w) Y (hh.seg 0 Y) Y (Nat.add_zero _).symm) (KE 2 runUnderlying33 sizeOf22 Y Y Y Y (Qm 0 isAgg22 Y Y Y Y Y (yi Y Y Y ?_))))
    obtain ⟨t145, h80, hm⟩ := bindO hm
    refine jo Y Y Y Y (fun _ _ => Jd h80 Y Y) ?_
    obtain ⟨t146, h81, hm⟩ := bindO hm
    refine jo Y Y Y Y (fun w _ => yn h81 (runUnderlying22 w) (sizeOf3 w) Y Y hna0 hqa0) (jy Y Y Y Y (fun w hh => kA RI 0 h81 (isAgg3 w) Y (hh.seg 0 Y) Y (Nat.add_zero _).symm) (jo Y Y Y Y (fun _ _ => Z3 Y Y) (jO (ja ?_))))
    refine jt Y (fun h82 => ?_) (fun h82 => ?_)
    ·replace hm := ifD h82 hm
     refine jr (jm Y Y (jp (jw (jz (jg (jg (jz ?_)))))))
     obtain rfl := sj hm
     have hbo := h77 _ Y
     subst hbo
     refine jg ?_
     replace hm := ocR h76
     refine jg ?_
     obtain rfl := sj hm
     refine jn Y (fun w hh => (.tmp Y .nil)) (fun w hh => ⟨(), rfl, trivial, hh.se [] [] 3 Y Y Y rfl⟩)
    replace hm := ifE h82 hm
    refine js (jv (ja (je (jh Y Y ?_))))
    obtain ⟨t136, h83, hm⟩ := bindO hm
    refine JB h83 Y Y Y (jm Y Y (ju ?_))
    obtain rfl := sj hm
    refine ja ?_
    exact jA _ () Y (trivial) (sE Y) (fun w hh => hh)
   replace hm := ifE h78 hm
   refine jQ (jk (jk (jC ?_)))
   obtain rfl := sj hm
   have hbo := h77 _ Y
   subst hbo
   exact ji () (Y) (sE Y) (fun w hh => hh)
  intro j_5 hj
  have h84 := hj
  subst h84
  replace hm := ocL h76
  refine ja (jj (jr (jm Y Y (jp ?_))))
  obtain ⟨o_8, h85, h86⟩ := bindO hm
  refine jE (ι := Unit) (fun j_6 => o_8 = .inl j_6) (fun j_6 => []) (fun j_6 => [kc b #[.int .i64 c0.cells, .int .i64 c0.tides, .slice qa0 na0 ca0, .slice qa1 na1 ca1, .slice qa2 na2 ca2] 33]) (fun j_6 => []) ?_ ?_
  ·replace hm := h85
   refine jl ?_
   refine jG (ι := Unit) hm (fun s_6 l_17 => True) (fun s_6 l_17 => [(1, ptr b 0), (9, .int .i64 s_6)]) (fun s_6 l_17 => [kc b #[.int .i64 c0.cells, .int .i64 c0.tides, .slice qa0 na0 ca0, .slice qa1 na1 ca1, .slice qa2 na2 ca2] 33]) (fun s_6 l_17 => []) () (trivial) (sE Y) (fun w hh => hh) (fun s_6 l_17 r_6 hpl hm h87 => ?_)
   unfold zd at hm
   refine jj (jr (jh Y Y (qC 3 runUnderlying33 Y sizeOf30 Y Y (qf 0 isAgg30 Y Y Y Y (jc Y Y Y (fun w _ => jR hna1 (runUnderlying30 w) Y) (JC Y Y Y (jp ?_)))))))
   refine jt Y (fun h88 => ?_) (fun h88 => ?_)
   ·replace hm := ifD h88 hm
    refine js (ja (jj (jl (jj ?_))))
    refine kn none (.free 0 (.hoist 1 (.free 2 (.free 3 (.free 4 (.free 5 (.hoist 6 (.free 7 (.hoist 8 (.free 9 (.free 10 (.free 11 (.free 12 (.hoist 13 (.free 14 .done))))))))))))))) _ Y (by decide +kernel) (fun w k hh => hh.draw k) (fun w hh => hh) ?_
    refine KE 3 runUnderlying33 sizeOf30 Y Y Y Y (Qm 0 isAgg30 Y Y Y Y Y (yi Y Y Y ?_))
    obtain ⟨t159, h89, hm⟩ := bindO hm
    refine jo Y Y Y Y (fun w _ => yn h89 (runUnderlying30 w) (sizeOf138 w) Y Y hna1 hqa1) (KE 0 runUnderlying138 sizeOf50 Y Y Y Y (KE 0 runUnderlying50 sizeOf3 Y Y Y Y (jy Y Y Y Y (fun w hh => kA RSa 0 h89 (isAgg3 w) Y (hh.seg 1 Y) Y (by first | rfl | simp only [Nat.add_assoc])) (KE 3 runUnderlying33 sizeOf30 Y Y Y Y (Qm 0 isAgg30 Y Y Y Y Y (yi Y Y Y ?_))))))
    obtain ⟨t166, h90, hm⟩ := bindO hm
    refine jo Y Y Y Y (fun w _ => yn h90 (runUnderlying30 w) (sizeOf138 w) Y Y hna1 hqa1) (KE 0 runUnderlying138 sizeOf50 Y Y Y Y (KE 1 runUnderlying50 sizeOf3 Y Y Y Y (jy Y Y Y Y (fun w hh => kA RSa 1 h90 (isAgg3 w) Y (hh.seg 1 Y) Y (by first | rfl | simp only [Nat.add_assoc])) (jo Y Y Y Y (fun _ _ => Q8 Y Y) (jO (ja ?_))))))
    refine jt Y (fun h91 => ?_) (fun h91 => ?_)
    ·replace hm := ifD h91 hm
     refine jr (jm Y Y (jp (jw (jz (jg (jg (jz ?_)))))))
     obtain rfl := sj hm
     have hbo := h87 _ Y
     subst hbo
     refine jg ?_
     replace hm := ocR h86
     refine jg ?_
     obtain rfl := sj hm
     refine jn Y (fun w hh => (.tmp Y .nil)) (fun w hh => ⟨(), rfl, trivial, hh.se [] [] 3 Y Y Y rfl⟩)
    replace hm := ifE h91 hm
    refine js (jv (ja (je (jh Y Y ?_))))
    obtain ⟨t155, h92, hm⟩ := bindO hm
    refine JB h92 Y Y Y (jm Y Y (ju ?_))
    obtain rfl := sj hm
    refine ja ?_
    exact jA _ () Y (trivial) (sE Y) (fun w hh => hh)
   replace hm := ifE h88 hm
   refine jQ (jk (jk (jC ?_)))
   obtain rfl := sj hm
   have hbo := h87 _ Y
   subst hbo
   exact ji () (Y) (.nil) (fun w hh => hh)
  intro j_6 hj
  have h93 := hj
  subst h93
  replace hm := ocL h86
  refine ja (jr (jm Y Y (jp (jw ?_))))
  obtain rfl := sj hm
  refine jn Y (fun w hh => (.tmp Y .nil)) (fun w hh => ⟨(), rfl, trivial, hh.se [] [] 3 Y Y Y rfl⟩)
structure kY where
  n3 : Int
  i4 : Int
def kS (c0 : Channel) (s : kY) : Option (kY ⊕ Int) :=
 if s.i4 < (c0.sights.length : Int) then
 ((mulc 2 s.n3).bind fun t13 =>
 (addc s.i4 1).bind fun t11 =>
 some (.inl (⟨t13, t11⟩ : kY))) else
 (some (.inr s.n3))
def kf (c0 : Channel) : Option Int :=
 (iterM FU (kS c0) (⟨1, 0⟩ : kY)).bind fun o =>
 (subc o 1).bind fun t15 =>
 some t15
theorem Ke (c0 : Channel) (qa0 : Option Addr) (na0 ca0 : Nat) (qa1 : Option Addr) (na1 ca1 : Nat) (qa2 : Option Addr) (na2 ca2 : Nat) (w : World) (hw : HV w (keys [] []) [] [] [(aB qa0, aO qa0, RI.enc c0.fords), (aB qa1, aO qa1, RSa.enc c0.sands), (aB qa2, aO qa2, RSi.enc c0.sights)] w) (hna0 : c0.fords.length = na0) (hqa0 : AOK na0 qa0) (hla0 : na0 ≤ ca0) (hna1 : c0.sands.length = na1) (hqa1 : AOK na1 qa1) (hla1 : na1 ≤ ca1) (hna2 : c0.sights.length = na2) (hqa2 : AOK na2 qa2) (hla2 : na2 ≤ ca2) {res : Int} (hm : kf c0 = some res) :
    Calls Tryz.prog 24 #[.agg #[.int .i64 c0.cells, .int .i64 c0.tides, .slice qa0 na0 ca0, .slice qa1 na1 ca1, .slice qa2 na2 ca2]] w (fun en w' => ∃ l : Unit, en = .returned (.int .i64 res) ∧ (True) ∧ HV w (keys [] []) [] [] [] w') := by
  unfold kf at hm
  refine qU func24 Y ntmps24 Y (e := [(0, _)]) Y hw (jr ?_)
  refine jI Y Y (fun b h1 => ?_)
  refine jm Y Y (qe (jm Y Y (jp (jj (jr (jm Y Y (jp ?_)))))))
  obtain ⟨o, h2, h3⟩ := bindO hm
  refine jE (ι := Unit) (fun l => True) (fun l => [(3, .int .i64 o)]) (fun l => [kc b #[.int .i64 c0.cells, .int .i64 c0.tides, .slice qa0 na0 ca0, .slice qa1 na1 ca1, .slice qa2 na2 ca2] 33]) (fun l => []) ?_ ?_
  ·replace hm := h2
   refine jl ?_
   refine jG (ι := Unit) hm (fun s l_1 => True) (fun s l_1 => [(1, ptr b 0), (3, .int .i64 s.n3), (4, .int .i64 s.i4)]) (fun s l_1 => [kc b #[.int .i64 c0.cells, .int .i64 c0.tides, .slice qa0 na0 ca0, .slice qa1 na1 ca1, .slice qa2 na2 ca2] 33]) (fun s l_1 => []) () (trivial) (sE Y) (fun w hh => hh) (fun s l_1 r hpl hm h4 => ?_)
   unfold kS at hm
   refine jj (jr (jh Y Y (qC 4 runUnderlying33 Y sizeOf31 Y Y (qf 0 isAgg31 Y Y Y Y (jc Y Y Y (fun w _ => jR hna2 (runUnderlying31 w) Y) (JC Y Y Y (jp ?_)))))))
   refine jt Y (fun h5 => ?_) (fun h5 => ?_)
   ·replace hm := ifD h5 hm
    refine js (ja (jj (jl (je (jh Y Y ?_)))))
    obtain ⟨t13, h6, hm⟩ := bindO hm
    refine jc Y Y Y (fun _ _ => jbt h6 Y Y) (jm Y Y (ju (jv (ja (je (jh Y Y ?_))))))
    obtain ⟨t11, h7, hm⟩ := bindO hm
    refine JB h7 Y Y Y (jm Y Y (ju ?_))
    obtain rfl := sj hm
    refine ja ?_
    exact jA _ () Y (trivial) (sE Y) (fun w hh => hh)
   replace hm := ifE h5 hm
   refine jQ (jk (jk (jC ?_)))
   obtain rfl := sj hm
   have hbo := h4 _ Y
   subst hbo
   exact ji () (trivial) (sE Y) (fun w hh => hh)
  intro l hj
  replace hm := h3
  refine ja (jr (jh Y Y ?_))
  obtain ⟨t15, h8, hm⟩ := bindO hm
  refine jc Y Y Y (fun _ _ => Jd h8 Y Y) (jm Y Y (jp (jw ?_)))
  obtain rfl := sj hm
  refine jn Y (fun w hh => (.tmp Y .nil)) (fun w hh => ⟨(), rfl, trivial, hh.se [] [] 3 Y Y Y rfl⟩)
structure q3 where
  n8 : Int
  out7 : (List (List Int))
structure zc where
  i10 : Int
  out7 : (List (List Int))
def qj (t25 : (List (List Int))) (s : q3) (s_1 : zc) : Option (zc ⊕ (List (List Int))) :=
 if s_1.i10 < (t25.length : Int) then
 ((ix t25 s_1.i10).bind fun t37 =>
 (appc 8 [s.n8] t37).bind fun t39 =>
 (appc 24 s_1.out7 [t39]).bind fun t41 =>
 (addc s_1.i10 1).bind fun t31 =>
 some (.inl (⟨t31, t41⟩ : zc))) else
 (some (.inr s_1.out7))
def ql (below2 : Int) (many0 : Int) (rec_ : Int → Int → Int → Option (List (List Int))) (s : q3) : Option (q3 ⊕ (List (List Int))) :=
 if s.n8 < below2 then
 ((subc many0 1).bind fun t21 =>
 (addc s.n8 1).bind fun t23 =>
 (rec_ t21 t23 below2).bind fun t25 =>
 (iterM FU (qj t25 s) (⟨0, s.out7⟩ : zc)).bind fun o_1 =>
 (addc s.n8 1).bind fun t19 =>
 some (.inl (⟨t19, o_1⟩ : q3))) else
 (some (.inr s.out7))
def zs (rec_ : Int → Int → Int → Option (List (List Int))) (many0 : Int) (from1 : Int) (below2 : Int) : Option (List (List Int)) :=
 if many0 = 0 then
 (some ([[]])) else
 ((iterM FU (ql below2 many0 rec_) (⟨from1, ([] : List (List Int))⟩ : q3)).bind fun o =>
 some o)
def kt : Nat → Int → Int → Int → Option (List (List Int))
  | 0, _, _, _ => none
  | fu + 1, many0, from1, below2 => zs (kt fu) many0 from1 below2
theorem YG (fu_ : Nat) : ∀ (many0 : Int) (from1 : Int) (below2 : Int)  (w : World) (hw : HV w (keys [] []) [] [] [] w)  {res : (List (List Int))} (hm : kt fu_ many0 from1 below2 = some res),
    Calls Tryz.prog 158 #[.int .i64 many0, .int .i64 from1, .int .i64 below2] w (fun en w' => ∃ l : DL, en = .returned (sL l.v) ∧ (VOK 1 l.v.n l.v.cap (RwH.enc l.rs) l.v.sp l.v.q ∧ DOK RI res l.rs) ∧ HV w (keys [] []) [] [⟨22, RwH.enc l.rs, l.v.sp, l.v.q, dbl 3 RI res l.rs⟩] [] w') := by
  induction fu_ with
  | zero =>
    intros
    rename_i hm
    exact absurd hm (by simp [kt])
  | succ fu_ ih =>
  intro many0 from1 below2 w hw res hm
  replace hm : zs (kt fu_) many0 from1 below2 = some res := hm
  unfold zs at hm
  refine qU func158 Y ntmps158 Y (e := [(0, _), (1, _), (2, _)]) Y hw (jr (jc Y Y Y (fun _ _ => kd Y) (jp (jj (jr (jh Y Y (jc Y Y Y (fun _ _ => zf Y Y) ?_)))))))
  refine jp ?_
  refine jt Y (fun h3 => ?_) (fun h3 => ?_)
  ·replace hm := ifD h3 hm
   refine jr ?_
   refine qo RwH [vl0] (ps := [(0, _)]) (cells := [_]) (fun w => runUnderlying41 w) (fun w => sizeOf22 w) (fun w => zeroValue22 w) Y Y Y Y Y Y Y Y (fun L h4 => ?_)
   refine Y8 (E2 := 3) RI 1 (Y : _ = ([[]] : List (List Int))) (fun h5 => ?_)
   have h6 : DOK RI ([[]]) [vl0] := h5
   refine jaf (S' := []) (vs' := [⟨22, RwH.enc [vl0], L.sp, L.q, dbl 3 RI ([[]]) [vl0]⟩]) [] [0] 0 (by decide) (by decide) Y Y Y (jm Y Y (jp (jw (jg ?_))))
   obtain rfl := sj hm
   refine jn Y (fun w hh => (.tmp Y .nil)) (fun w hh => ⟨⟨⟨L.q, L.n, L.cap, L.sp⟩, [vl0]⟩, rfl, ⟨h4, h6⟩, hh⟩)
  replace hm := ifE h3 hm
  refine js (ja (jr (jc Y Y Y (fun _ _ => kd Y) (jp (jj (jr (jh Y Y ?_)))))))
  refine jm Y Y (jp (yk 22 ?_))
  obtain ⟨o, h7, h8⟩ := bindO hm
  refine jE (ι := DL) (fun l => VOK 1 l.v.n l.v.cap (RwH.enc l.rs) l.v.sp l.v.q ∧ DOK RI o l.rs) (fun l => [(7, sL l.v)]) (fun l => []) (fun l => [⟨22, RwH.enc l.rs, l.v.sp, l.v.q, dbl 3 RI o l.rs⟩]) ?_ ?_
  ·replace hm := h7
   refine jl ?_
   refine jG (ι := DL) hm (fun s l_1 => VOK 1 l_1.v.n l_1.v.cap (RwH.enc l_1.rs) l_1.v.sp l_1.v.q ∧ DOK RI s.out7 l_1.rs) (fun s l_1 => [(0, .int .i64 many0), (2, .int .i64 below2), (7, sL l_1.v), (8, .int .i64 s.n8)]) (fun s l_1 => []) (fun s l_1 => [⟨22, RwH.enc l_1.rs, l_1.v.sp, l_1.v.q, dbl 3 RI s.out7 l_1.rs⟩]) (⟨⟨none, 0, 0, []⟩, []⟩) (⟨VOK.nil, DOK.nil⟩) (sE Y) (fun w hh => hh) (fun s l_1 r hpl hm h13 => ?_)
   obtain ⟨h11, h12⟩ := hpl
   unfold ql at hm
   refine jj (jr (jh Y Y (jh Y Y (JC Y Y Y (jp ?_)))))
   refine jt Y (fun h14 => ?_) (fun h14 => ?_)
   ·replace hm := ifD h14 hm
    refine js (ja (jj (jl (jr (jh Y Y ?_)))))
    obtain ⟨t21, h15, hm⟩ := bindO hm
    refine jc Y Y Y (fun _ _ => Jd h15 Y Y) (jh Y Y ?_)
    obtain ⟨t23, h16, hm⟩ := bindO hm
    refine JB h16 Y Y Y (jh Y Y ?_)
    obtain ⟨t25, h17, hm⟩ := bindO hm
    refine jd [] [] Y Y Y Y Y Y Y call158 (fun w hh => ih t21 t23 below2 w (HV.callee (S0 := []) (vs0 := []) hh roN)  h17) (fun l_2 h18 => ?_)
    obtain ⟨h19, h20⟩ := h18
    refine kC (S' := []) (vs' := [_, _]) [] [0, 1] 0 Y Y Y Y (jm Y Y (qe (jm Y Y (jp ?_))))
    obtain ⟨o_1, h21, h22⟩ := bindO hm
    refine jE (ι := DL) (fun l_3 => VOK 1 l_3.v.n l_3.v.cap (RwH.enc l_3.rs) l_3.v.sp l_3.v.q ∧ DOK RI o_1 l_3.rs) (fun l_3 => [(0, .int .i64 many0), (2, .int .i64 below2), (7, sL l_3.v), (8, .int .i64 s.n8)]) (fun l_3 => []) (fun l_3 => [⟨22, RwH.enc l_3.rs, l_3.v.sp, l_3.v.q, dbl 3 RI o_1 l_3.rs⟩]) ?_ ?_
    ·replace hm := h21
     refine jl ?_
     refine jG (ι := DL) hm (fun s_1 l_4 => VOK 1 l_4.v.n l_4.v.cap (RwH.enc l_4.rs) l_4.v.sp l_4.v.q ∧ DOK RI s_1.out7 l_4.rs) (fun s_1 l_4 => [(0, .int .i64 many0), (2, .int .i64 below2), (7, sL l_4.v), (8, .int .i64 s.n8), (9, sL l_2.v), (10, .int .i64 s_1.i10)]) (fun s_1 l_4 => []) (fun s_1 l_4 => [⟨22, RwH.enc l_4.rs, l_4.v.sp, l_4.v.q, dbl 3 RI s_1.out7 l_4.rs⟩, ⟨22, RwH.enc l_2.rs, l_2.v.sp, l_2.v.q, dbl 3 RI t25 l_2.rs⟩]) l_1 (⟨h11, h12⟩) (sE Y) (hsE [] [1, 0] 0 Y Y Y Y) (fun s_1 l_4 r_1 hpl hm h27 => ?_)
     obtain ⟨h25, h26⟩ := hpl
     unfold qj at hm
     refine jj (jr (jh Y Y (jh Y Y (jc Y Y Y (fun w _ => JO (Eq.trans (h20).len (vlen RwH h19 Y)) (runUnderlying41 w) Y) (JC Y Y Y (jp ?_))))))
     refine jt Y (fun h28 => ?_) (fun h28 => ?_)
     ·replace hm := ifD h28 hm
      refine js (ja (jj (jl (je (jh Y Y (jh Y Y ?_))))))
      refine qo RI [s.n8] (ps := [(0, _)]) (cells := [_]) (fun w => runUnderlying22 w) (fun w => sizeOf3 w) (fun w => zeroValue3 w) Y Y Y Y Y Y Y Y (fun L_1 h29 => ?_)
      refine jh Y Y (jh Y Y ?_)
      obtain ⟨t37, h30, hm⟩ := bindO hm
      obtain ⟨L_2, h31, h32⟩ := (h20).row h30
      refine jc Y Y Y (fun w _ => qV h31 (runUnderlying41 w) (sizeOf22 w) Y Y (vlen RwH h19 Y) (vne h19)) (jc Y Y Y (fun w hh => kA RwH 0 h31 (isAgg22 w) Y (hh.vseg 2 Y h19) Y (Nat.add_zero _).symm) ?_)
      obtain ⟨t39, h33, hm⟩ := bindO hm
      refine zE RI 0 h33 underlying22 KX Y Y Y Y Y h29 Y Y (vlen RI h32 Y) (AOK.q (vne h32)) (fun w hh => (hh.dsegA 2 Y h30 h31 h32)) Y (fun L_3 h34 h34n => ?_)
      refine kC (S' := []) (vs' := [_, _, _]) [] [0, 1, 2] 0 Y Y Y Y ?_
      refine qo RwH [(⟨L_3.q, L_3.n, L_3.cap, L_3.sp⟩ : VL)] (ps := [(0, _)]) (cells := [_]) (fun w => runUnderlying41 w) (fun w => sizeOf22 w) (fun w => zeroValue22 w) Y Y Y Y Y Y Y Y (fun L_4 h35 => ?_)
      refine Y8 (E2 := 3) RI 1 (Y : _ = ([[]] : List (List Int))) (fun h36 => ?_)
      refine kC (S' := []) (vs' := [_, _, _, _]) [] [0, 1, 2, 3] 0 Y Y Y Y ?_
      refine Zn RI (l' := [t39]) 0 L_3.n L_3.cap h36 h34 Y Y (fun h37 => ?_)
      have h38 : DOK RI [t39] [(⟨L_3.q, L_3.n, L_3.cap, L_3.sp⟩ : VL)] := h37
      refine jaf (S' := []) (vs' := [⟨22, RwH.enc [(⟨L_3.q, L_3.n, L_3.cap, L_3.sp⟩ : VL)], L_4.sp, L_4.q, dbl 3 RI [t39] [(⟨L_3.q, L_3.n, L_3.cap, L_3.sp⟩ : VL)]⟩, ⟨22, RwH.enc l_4.rs, l_4.v.sp, l_4.v.q, dbl 3 RI s_1.out7 l_4.rs⟩, ⟨22, RwH.enc l_2.rs, l_2.v.sp, l_2.v.q, dbl 3 RI t25 l_2.rs⟩]) [] [0, 1, 2] 0 (by decide) (by decide) Y Y Y ?_
      obtain ⟨t41, h39, hm⟩ := bindO hm
      refine zE RwH 1 (appcL h39 (h26).len (h38).len) underlying41 jao Y Y Y Y Y h25 Y Y (vlen RwH h35 Y) (AOK.q (vne h35)) (fun w hh => (hh.vsegA 0 Y h35)) Y (fun L_5 h40 _ => ?_)
      refine kC (S' := []) (vs' := [_, _, _]) [] [0, 1, 2] 0 Y Y Y Y (kC (S' := []) (vs' := [_, _, _]) [] [1, 0, 2] 0 Y Y Y Y ?_)
      refine ZL RI h26 h38 (appcO h39).1.symm (fun h41 => ?_)
      refine jm Y Y (ju (jv (ja (je (jh Y Y ?_)))))
      obtain ⟨t31, h42, hm⟩ := bindO hm
      refine JB h42 Y Y Y (jm Y Y (ju ?_))
      obtain rfl := sj hm
      refine ja ?_
      exact jA _ (⟨⟨L_5.q, L_5.n, L_5.cap, L_5.sp⟩, (l_4.rs ++ [(⟨L_3.q, L_3.n, L_3.cap, L_3.sp⟩ : VL)])⟩) Y (⟨h40, h41⟩) (sE Y) (fun w hh => hh)
     replace hm := ifE h28 hm
     refine jQ (jk (jk (jC ?_)))
     obtain rfl := sj hm
     have hbo := h27 _ Y
     subst hbo
     exact ji l_4 (⟨h25, h26⟩) (sE Y) (hsE [] [0] 0 Y Y Y Y)
    intro l_3 hj
    obtain ⟨h23, h24⟩ := hj
    replace hm := h22
    refine jv (ja (je (jh Y Y ?_)))
    obtain ⟨t19, h43, hm⟩ := bindO hm
    refine JB h43 Y Y Y (jm Y Y (ju ?_))
    obtain rfl := sj hm
    refine ja ?_
    exact jA _ l_3 Y (⟨h23, h24⟩) (sE Y) (fun w hh => hh)
   replace hm := ifE h14 hm
   refine jQ (jk (jk (jC ?_)))
   obtain rfl := sj hm
   have hbo := h13 _ Y
   subst hbo
   exact ji l_1 (⟨h11, h12⟩) (sE Y) (fun w hh => hh)
  intro l hj
  obtain ⟨h9, h10⟩ := hj
  replace hm := h8
  refine ja (jr (jh Y Y (jm Y Y (jp (jw ?_)))))
  obtain rfl := sj hm
  refine jn Y (fun w hh => (.tmp Y .nil)) (fun w hh => ⟨l, rfl, ⟨h9, h10⟩, hh⟩)
def kX (c0 : Channel) : Option (List (List Int)) :=
 (kt FU (c0.fords.length : Int) 0 c0.cells).bind fun t8 =>
 some t8
theorem z1 (c0 : Channel) (qa0 : Option Addr) (na0 ca0 : Nat) (qa1 : Option Addr) (na1 ca1 : Nat) (qa2 : Option Addr) (na2 ca2 : Nat) (w : World) (hw : HV w (keys [] []) [] [] [(aB qa0, aO qa0, RI.enc c0.fords), (aB qa1, aO qa1, RSa.enc c0.sands), (aB qa2, aO qa2, RSi.enc c0.sights)] w) (hna0 : c0.fords.length = na0) (hqa0 : AOK na0 qa0) (hla0 : na0 ≤ ca0) (hna1 : c0.sands.length = na1) (hqa1 : AOK na1 qa1) (hla1 : na1 ≤ ca1) (hna2 : c0.sights.length = na2) (hqa2 : AOK na2 qa2) (hla2 : na2 ≤ ca2) {res : (List (List Int))} (hm : kX c0 = some res) :
    Calls Tryz.prog 90 #[.agg #[.int .i64 c0.cells, .int .i64 c0.tides, .slice qa0 na0 ca0, .slice qa1 na1 ca1, .slice qa2 na2 ca2]] w (fun en w' => ∃ l : DL, en = .returned (sL l.v) ∧ (VOK 1 l.v.n l.v.cap (RwH.enc l.rs) l.v.sp l.v.q ∧ DOK RI res l.rs) ∧ HV w (keys [] []) [] [⟨22, RwH.enc l.rs, l.v.sp, l.v.q, dbl 3 RI res l.rs⟩] [] w') := by
  unfold kX at hm
  refine qU func90 Y ntmps90 Y (e := [(0, _)]) Y hw (jr ?_)
  refine jI Y Y (fun b h3 => ?_)
  refine jc Y Y Y (fun _ _ => kd Y) (qe (qC 2 runUnderlying33 Y sizeOf22 Y Y (qf 0 isAgg22 Y Y Y Y (jc Y Y Y (fun w _ => jR hna0 (runUnderlying22 w) Y) (qC 0 runUnderlying33 Y sizeOf3 Y Y (qf 0 isAgg3 Y Y Y Y ?_))))))
  obtain ⟨t8, h4, hm⟩ := bindO hm
  refine jd [] [] Y Y Y Y Y Y Y call158 (fun w hh => YG FU (c0.fords.length : Int) 0 c0.cells w (HV.callee (S0 := []) (vs0 := []) hh roN)  h4) (fun l h5 => ?_)
  obtain ⟨h6, h7⟩ := h5
  refine kC (S' := [_]) (vs' := [_]) [0] [0] 0 Y Y Y Y (jm Y Y (jp (jw ?_)))
  obtain rfl := sj hm
  refine jn Y (fun w hh => (.tmp Y .nil)) (fun w hh => ⟨l, rfl, ⟨h6, h7⟩, hh.se [] [0] 3 Y Y Y rfl⟩)
def yz (l0 : (List Int)) (n1 : Int) (s : Int) : Option (Int ⊕ (Unit ⊕ Bool)) :=
 if s < (l0.length : Int) then
 ((ix l0 s).bind fun t14 =>
 if t14 = n1 then
 (some (.inr (.inr true))) else
 ((addc s 1).bind fun t11 =>
 some (.inl t11))) else
 (some (.inr (.inl ())))
def yb (l0 : (List Int)) (n1 : Int) : Option Bool :=
 (iterM FU (yz l0 n1) 0).bind fun o =>
 oc o (fun j => some false) (fun r_1 => some r_1)
theorem KH (l0 : (List Int)) (n1 : Int) (qa0 : Option Addr) (na0 ca0 : Nat) (w : World) (hw : HV w (keys [] []) [] [] [(aB qa0, aO qa0, RI.enc l0)] w) (hna0 : l0.length = na0) (hqa0 : AOK na0 qa0) (hla0 : na0 ≤ ca0) {res : Bool} (hm : yb l0 n1 = some res) :
    Calls Tryz.prog 105 #[.slice qa0 na0 ca0, .int .i64 n1] w (fun en w' => ∃ l : Unit, en = .returned (.bool res) ∧ (True) ∧ HV w (keys [] []) [] [] [] w') := by
  unfold yb at hm
  refine qU func105 Y ntmps105 Y (e := [(0, _), (1, _)]) Y hw (jr (jm Y Y (jp (jj (jr (jm Y Y (jp ?_)))))))
  obtain ⟨o, h1, h2⟩ := bindO hm
  refine jE (ι := Unit) (fun j => o = .inl j) (fun j => []) (fun j => []) (fun j => []) ?_ ?_
  ·replace hm := h1
   refine jl ?_
   refine jG (ι := Unit) hm (fun s l => True) (fun s l => [(0, .slice qa0 na0 ca0), (1, .int .i64 n1), (5, .int .i64 s)]) (fun s l => []) (fun s l => []) () (trivial) (sE Y) (fun w hh => hh) (fun s l r hpl hm h3 => ?_)
   unfold yz at hm
   refine jj (jr (jh Y Y (jh Y Y (jc Y Y Y (fun w _ => jR hna0 (runUnderlying22 w) Y) (JC Y Y Y (jp ?_))))))
   refine jt Y (fun h4 => ?_) (fun h4 => ?_)
   ·replace hm := ifD h4 hm
    refine js (ja (jj (jl (jr (jh Y Y (jh Y Y ?_))))))
    obtain ⟨t14, h5, hm⟩ := bindO hm
    refine jc Y Y Y (fun w _ => yn h5 (runUnderlying22 w) (sizeOf3 w) Y Y hna0 hqa0) (jc Y Y Y (fun w hh => kA RI 0 h5 (isAgg3 w) Y (hh.seg 0 Y) Y (Nat.add_zero _).symm) (jh Y Y (jc Y Y Y (fun _ _ => zf Y Y) (jp ?_))))
    refine jt Y (fun h6 => ?_) (fun h6 => ?_)
    ·replace hm := ifD h6 hm
     refine jr (jm Y Y (jp (jw (jz (jg (jg (jz ?_)))))))
     obtain rfl := sj hm
     have hbo := h3 _ Y
     subst hbo
     refine jg ?_
     replace hm := ocR h2
     refine jg ?_
     obtain rfl := sj hm
     refine jn Y (fun w hh => (.tmp Y .nil)) (fun w hh => ⟨(), rfl, trivial, hh.se [] [] 1 Y Y Y rfl⟩)
    replace hm := ifE h6 hm
    refine js (jv (ja (je (jh Y Y ?_))))
    obtain ⟨t11, h7, hm⟩ := bindO hm
    refine JB h7 Y Y Y (jm Y Y (ju ?_))
    obtain rfl := sj hm
    refine ja ?_
    exact jA _ () Y (trivial) (sE Y) (fun w hh => hh)
   replace hm := ifE h4 hm
   refine jQ (jk (jk (jC ?_)))
   obtain rfl := sj hm
   have hbo := h3 _ Y
   subst hbo
   exact ji () (Y) (.nil) (fun w hh => hh)
  intro j hj
  have h8 := hj
  subst h8
  replace hm := ocL h2
  refine ja (jr (jm Y Y (jp (jw ?_))))
  obtain rfl := sj hm
  refine jn Y (fun w hh => (.tmp Y .nil)) (fun w hh => ⟨(), rfl, trivial, hh.se [] [] 1 Y Y Y rfl⟩)
structure qP where
  set3 : Int
  i9 : Int
def qK (c0 : Channel) (after1 : Int) (l2 : (List Int)) (s : qP) : Option (qP ⊕ (Unit ⊕ Bool)) :=
 if s.i9 < (c0.sights.length : Int) then
 ((ix c0.sights s.i9).bind fun t21 =>
 ((remc s.set3 2).bind fun t24 =>
 if t24 = 1 then
 (if t21.after = after1 then
 ((yb l2 t21.cell).bind fun t36 =>
 some (!(t36 == t21.upright))) else
 (some false)) else
 (some false)).bind fun o_1 =>
 if o_1 = true then
 (some (.inr (.inr false))) else
 ((quoc s.set3 2).bind fun t42 =>
 (addc s.i9 1).bind fun t17 =>
 some (.inl (⟨t42, t17⟩ : qP)))) else
 (some (.inr (.inl ())))
def yy (c0 : Channel) (after1 : Int) (l2 : (List Int)) (set3 : Int) : Option Bool :=
 (iterM FU (qK c0 after1 l2) (⟨set3, 0⟩ : qP)).bind fun o =>
 oc o (fun j => some true) (fun r_1 => some r_1)
theorem Yo (c0 : Channel) (after1 : Int) (l2 : (List Int)) (set3 : Int) (qa0 : Option Addr) (na0 ca0 : Nat) (qa1 : Option Addr) (na1 ca1 : Nat) (qa2 : Option Addr) (na2 ca2 : Nat) (qa3 : Option Addr) (na3 ca3 : Nat) (w : World) (hw : HV w (keys [] []) [] [] [(aB qa0, aO qa0, RI.enc c0.fords), (aB qa1, aO qa1, RSa.enc c0.sands), (aB qa2, aO qa2, RSi.enc c0.sights), (aB qa3, aO qa3, RI.enc l2)] w) (hna0 : c0.fords.length = na0) (hqa0 : AOK na0 qa0) (hla0 : na0 ≤ ca0) (hna1 : c0.sands.length = na1) (hqa1 : AOK na1 qa1) (hla1 : na1 ≤ ca1) (hna2 : c0.sights.length = na2) (hqa2 : AOK na2 qa2) (hla2 : na2 ≤ ca2) (hna3 : l2.length = na3) (hqa3 : AOK na3 qa3) (hla3 : na3 ≤ ca3) {res : Bool} (hm : yy c0 after1 l2 set3 = some res) :
    Calls Tryz.prog 102 #[.agg #[.int .i64 c0.cells, .int .i64 c0.tides, .slice qa0 na0 ca0, .slice qa1 na1 ca1, .slice qa2 na2 ca2], .int .i64 after1, .slice qa3 na3 ca3, .int .i64 set3] w (fun en w' => ∃ l : Unit, en = .returned (.bool res) ∧ (True) ∧ HV w (keys [] []) [] [] [] w') := by
  unfold yy at hm
  refine qU func102 Y ntmps102 Y (e := [(0, _), (1, _), (2, _), (3, _)]) Y hw (jr ?_)
  refine jI Y Y (fun b h1 => ?_)
  refine jm Y Y (jp (jj (jr (jm Y Y (jp ?_)))))
  obtain ⟨o, h2, h3⟩ := bindO hm
  refine jE (ι := Unit) (fun j => o = .inl j) (fun j => []) (fun j => [kc b #[.int .i64 c0.cells, .int .i64 c0.tides, .slice qa0 na0 ca0, .slice qa1 na1 ca1, .slice qa2 na2 ca2] 33]) (fun j => []) ?_ ?_
  ·replace hm := h2
   refine jl ?_
   refine jG (ι := Unit) hm (fun s l => True) (fun s l => [(1, .int .i64 after1), (2, .slice qa3 na3 ca3), (3, .int .i64 s.set3), (4, ptr b 0), (9, .int .i64 s.i9)]) (fun s l => [kc b #[.int .i64 c0.cells, .int .i64 c0.tides, .slice qa0 na0 ca0, .slice qa1 na1 ca1, .slice qa2 na2 ca2] 33]) (fun s l => []) () (trivial) (sE Y) (fun w hh => hh) (fun s l r hpl hm h4 => ?_)
   unfold qK at hm
   refine jj (jr (jh Y Y (qC 4 runUnderlying33 Y sizeOf31 Y Y (qf 0 isAgg31 Y Y Y Y (jc Y Y Y (fun w _ => jR hna2 (runUnderlying31 w) Y) (JC Y Y Y (jp ?_)))))))
   refine jt Y (fun h5 => ?_) (fun h5 => ?_)
   ·replace hm := ifD h5 hm
    refine js (ja (jj (jl (jr (qC 4 runUnderlying33 Y sizeOf31 Y Y (qf 0 isAgg31 Y Y Y Y (jh Y Y ?_)))))))
    obtain ⟨t21, h6, hm⟩ := bindO hm
    refine jc Y Y Y (fun w _ => yn h6 (runUnderlying31 w) (sizeOf139 w) Y Y hna2 hqa2) ?_
    refine jc Y Y Y (fun w hh => Jf RSi 0 [.int .i64 t21.after, .int .i64 t21.cell, .bool t21.upright] h6 (isAgg139 w) (sizeOf139 w) Y (hh.seg 2 Y) Y (Nat.add_zero _).symm) ?_
    refine jx (fun w => zeroValue139 w) Y (fun b_1 h7 => ?_)
    refine kv (us := #[_, _, _]) (cs' := [_, _, _]) (S' := [_, _]) 0 (fun w => sizeOf139 w) Y Y Y Y Y Y Y (jp (jj (jj ?_)))
    obtain ⟨o_1, h8, h9⟩ := bindO hm
    refine jE (ι := Unit) (fun l_1 => True) (fun l_1 => [(1, .int .i64 after1), (2, .slice qa3 na3 ca3), (3, .int .i64 s.set3), (4, ptr b 0), (9, .int .i64 s.i9), (40, .bool o_1)]) (fun l_1 => [kc b_1 #[.int .i64 t21.after, .int .i64 t21.cell, .bool t21.upright] 139, kc b #[.int .i64 c0.cells, .int .i64 c0.tides, .slice qa0 na0 ca0, .slice qa1 na1 ca1, .slice qa2 na2 ca2] 33]) (fun l_1 => []) ?_ ?_
    ·replace hm := h8
     refine kn none (.free 0 (.free 1 (.free 2 (.free 3 (.free 4 (.hoist 5 (.free 6 (.free 7 (.free 8 (.free 9 (.free 10 (.free 11 (.hoist 12 (.free 14 (.hoist 15 (.one 13 (.free 16 (.free 17 .done)))))))))))))))))) _ Y (by decide +kernel) (fun w k hh => hh.draw k) (fun w hh => hh) ?_
     refine yi Y Y Y ?_
     obtain ⟨t24, h10, hm⟩ := bindO hm
     refine jo Y Y Y Y (fun _ _ => jbv h10 Y Y) (jo Y Y Y Y (fun _ _ => zf Y Y) (yi Y Y Y ?_))
     refine jM 26 Y (fun h11 => ?_) (fun h11 => ?_)
     ·replace hm := ifD h11 hm
      refine jF Y Y Y Y Y Y (fun w _ => jH 0 (runUnderlying139 w) Y (sizeOf3 w) Y) (k8 Y Y Y Y Y Y (fun w hh => jJ (isAgg3 w) Y (hh.cell 0 Y Y)) (jF Y Y Y Y Y Y (fun _ _ => jV Y) (jF Y Y Y Y Y Y (fun _ _ => zf Y Y) (jo Y Y Y Y (fun _ _ => JQ Y Y) (yi Y Y Y ?_)))))
      refine jM 32 Y (fun h12 => ?_) (fun h12 => ?_)
      ·replace hm := ifD h12 hm
       refine jF Y Y Y Y Y Y (fun _ _ => jV Y) (jF Y Y Y Y Y Y (fun w _ => jH 1 (runUnderlying139 w) Y (sizeOf3 w) Y) (k8 Y Y Y Y Y Y (fun w hh => jJ (isAgg3 w) Y (hh.cell 0 Y Y)) (jF Y Y Y Y Y Y (fun w _ => jH 2 (runUnderlying139 w) Y (sizeOf4 w) Y) (k8 Y Y Y Y Y Y (fun w hh => jJ (isAgg4 w) Y (hh.cell 0 Y Y)) (jK Y (jb Y Y ?_))))))
       obtain ⟨t36, h13, hm⟩ := bindO hm
       refine jd [] [] Y Y Y Y Y Y Y call105 (fun w hh => KH l2 t21.cell qa3 na3 ca3 w (HV.callee (S0 := []) (vs0 := []) hh (roR hh 3 Y roN)) hna3 hqa3 hla3 h13) (fun l_2 h14 => ?_)
       refine jq (fun w hh => hh) (jF Y Y Y Y Y Y (fun w _ => Zp (runUnderlying4 w) Y Y) (jo Y Y Y Y (fun _ _ => JQ Y Y) (jO ?_)))
       obtain rfl := sj hm
       exact ji () (trivial) (sE Y) (fun w hh => hh)
      replace hm := ifE h12 hm
      refine jB Y Y Y Y Y Y Y (jB Y Y Y Y Y Y Y (yl Y Y Y Y Y Y Y (jB Y Y Y Y Y Y Y (yl Y Y Y Y Y Y Y (jK Y (g_k Y Y Y Y (jq (fun w hh => hh) ?_)))))))
      refine jB Y Y Y Y Y Y Y (jo Y Y Y Y (fun _ _ => zD Y Y) (jO ?_))
      obtain rfl := sj hm
      exact ji () (trivial) (sE Y) (fun w hh => hh)
     replace hm := ifE h11 hm
     refine jB Y Y Y Y Y Y Y (yl Y Y Y Y Y Y Y (jB Y Y Y Y Y Y Y (jB Y Y Y Y Y Y Y (jo Y Y Y Y (fun _ _ => zD Y Y) (yi Y Y Y (jB Y Y Y Y Y Y Y (jB Y Y Y Y Y Y Y ?_)))))))
     refine yl Y Y Y Y Y Y Y (jB Y Y Y Y Y Y Y (yl Y Y Y Y Y Y Y (jK Y (g_k Y Y Y Y (jq (fun w hh => hh) (jB Y Y Y Y Y Y Y (jo Y Y Y Y (fun _ _ => zD Y Y) ?_)))))))
     refine jO ?_
     obtain rfl := sj hm
     exact ji () (trivial) (sE Y) (fun w hh => hh)
    intro l_1 hj
    replace hm := h9
    refine ja ?_
    refine jt Y (fun h15 => ?_) (fun h15 => ?_)
    ·replace hm := ifT (h15) hm
     refine jr (jm Y Y (jp (jw (jg (jz (jg (jg ?_)))))))
     refine jz ?_
     obtain rfl := sj hm
     have hbo := h4 _ Y
     subst hbo
     refine jg ?_
     replace hm := ocR h3
     refine jg ?_
     obtain rfl := sj hm
     refine jn Y (fun w hh => (.tmp Y .nil)) (fun w hh => ⟨(), rfl, trivial, hh.se [] [] 4 Y Y Y rfl⟩)
    replace hm := ifN h15 hm
    refine js (ja (je (jh Y Y ?_)))
    obtain ⟨t42, h16, hm⟩ := bindO hm
    refine jc Y Y Y (fun _ _ => jbu h16 Y Y) (jm Y Y (ju (jv (ja (je (jh Y Y ?_))))))
    obtain ⟨t17, h17, hm⟩ := bindO hm
    refine JB h17 Y Y Y (jm Y Y (ju ?_))
    obtain rfl := sj hm
    refine ja ?_
    exact jA _ () Y (trivial) (sE Y) (hsE [1] [] 0 Y Y Y Y)
   replace hm := ifE h5 hm
   refine jQ (jk (jk (jC ?_)))
   obtain rfl := sj hm
   have hbo := h4 _ Y
   subst hbo
   exact ji () (Y) (.nil) (fun w hh => hh)
  intro j hj
  have h18 := hj
  subst h18
  replace hm := ocL h3
  refine ja (jr (jm Y Y (jp (jw ?_))))
  obtain rfl := sj hm
  refine jn Y (fun w hh => (.tmp Y .nil)) (fun w hh => ⟨(), rfl, trivial, hh.se [] [] 4 Y Y Y rfl⟩)
def JA (a0 : (List Int)) (b1 : (List Int)) (s : Int) : Option (Int ⊕ (Unit ⊕ Bool)) :=
 if s < (a0.length : Int) then
 ((ix a0 s).bind fun t19 =>
 (ix b1 s).bind fun t23 =>
 if t19 = t23 then
 ((addc s 1).bind fun t16 =>
 some (.inl t16)) else
 (some (.inr (.inr false)))) else
 (some (.inr (.inl ())))
def zu (a0 : (List Int)) (b1 : (List Int)) : Option Bool :=
 if (a0.length : Int) = (b1.length : Int) then
 ((iterM FU (JA a0 b1) 0).bind fun o =>
 oc o (fun j => some true) (fun r_1 => some r_1)) else
 (some false)
theorem YT (a0 : (List Int)) (b1 : (List Int)) (qa0 : Option Addr) (na0 ca0 : Nat) (qa1 : Option Addr) (na1 ca1 : Nat) (w : World) (hw : HV w (keys [] []) [] [] [(aB qa0, aO qa0, RI.enc a0), (aB qa1, aO qa1, RI.enc b1)] w) (hna0 : a0.length = na0) (hqa0 : AOK na0 qa0) (hla0 : na0 ≤ ca0) (hna1 : b1.length = na1) (hqa1 : AOK na1 qa1) (hla1 : na1 ≤ ca1) {res : Bool} (hm : zu a0 b1 = some res) :
    Calls Tryz.prog 101 #[.slice qa0 na0 ca0, .slice qa1 na1 ca1] w (fun en w' => ∃ l : Unit, en = .returned (.bool res) ∧ (True) ∧ HV w (keys [] []) [] [] [] w') := by
  unfold zu at hm
  refine qU func101 Y ntmps101 Y (e := [(0, _), (1, _)]) Y hw (jr (jm Y Y (jp (jj (jr (jh Y Y (jc Y Y Y (fun w _ => jR hna0 (runUnderlying22 w) Y) ?_)))))))
  refine jh Y Y (jc Y Y Y (fun w _ => jR hna1 (runUnderlying22 w) Y) (jc Y Y Y (fun _ _ => Kh Y Y) (jp ?_)))
  refine jt Y (fun h1 => ?_) (fun h1 => ?_)
  ·replace hm := ifF (of_ndec_true h1) hm
   refine jr (jm Y Y (jp (jw (jg ?_))))
   obtain rfl := sj hm
   refine jn Y (fun w hh => (.tmp Y .nil)) (fun w hh => ⟨(), rfl, trivial, hh.se [] [] 2 Y Y Y rfl⟩)
  replace hm := ifT (of_ndec_false h1) hm
  refine js (ja (jj (jr (jm Y Y (jp ?_)))))
  obtain ⟨o, h2, h3⟩ := bindO hm
  refine jE (ι := Unit) (fun j => o = .inl j) (fun j => []) (fun j => []) (fun j => []) ?_ ?_
  ·replace hm := h2
   refine jl ?_
   refine jG (ι := Unit) hm (fun s l => True) (fun s l => [(0, .slice qa0 na0 ca0), (1, .slice qa1 na1 ca1), (5, .int .i64 s)]) (fun s l => []) (fun s l => []) () (trivial) (sE Y) (fun w hh => hh) (fun s l r hpl hm h4 => ?_)
   unfold JA at hm
   refine jj (jr (jh Y Y (jh Y Y (jc Y Y Y (fun w _ => jR hna0 (runUnderlying22 w) Y) (JC Y Y Y (jp ?_))))))
   refine jt Y (fun h5 => ?_) (fun h5 => ?_)
   ·replace hm := ifD h5 hm
    refine js (ja (jj (jl (jj ?_))))
    refine kn none (.free 0 (.free 1 (.free 2 (.hoist 3 (.free 4 (.free 5 (.free 6 (.hoist 7 (.free 8 .done))))))))) _ Y (by decide +kernel) (fun w k hh => hh.draw k) (fun w hh => hh) ?_
    refine yi Y Y Y (yi Y Y Y ?_)
    obtain ⟨t19, h6, hm⟩ := bindO hm
    refine jo Y Y Y Y (fun w _ => yn h6 (runUnderlying22 w) (sizeOf3 w) Y Y hna0 hqa0) (jy Y Y Y Y (fun w hh => kA RI 0 h6 (isAgg3 w) Y (hh.seg 0 Y) Y (Nat.add_zero _).symm) (yi Y Y Y (yi Y Y Y ?_)))
    obtain ⟨t23, h7, hm⟩ := bindO hm
    refine jo Y Y Y Y (fun w _ => yn h7 (runUnderlying22 w) (sizeOf3 w) Y Y hna1 hqa1) (jy Y Y Y Y (fun w hh => kA RI 0 h7 (isAgg3 w) Y (hh.seg 1 Y) Y (Nat.add_zero _).symm) (jo Y Y Y Y (fun _ _ => Kh Y Y) (jO (ja ?_))))
    refine jt Y (fun h8 => ?_) (fun h8 => ?_)
    ·replace hm := ifF (of_ndec_true h8) hm
     refine jr (jm Y Y (jp (jw (jz (jg (jg (jz ?_)))))))
     obtain rfl := sj hm
     have hbo := h4 _ Y
     subst hbo
     refine jg ?_
     replace hm := ocR h3
     refine jg ?_
     obtain rfl := sj hm
     refine jn Y (fun w hh => (.tmp Y .nil)) (fun w hh => ⟨(), rfl, trivial, hh.se [] [] 2 Y Y Y rfl⟩)
    replace hm := ifT (of_ndec_false h8) hm
    refine js (jv (ja (je (jh Y Y ?_))))
    obtain ⟨t16, h9, hm⟩ := bindO hm
    refine JB h9 Y Y Y (jm Y Y (ju ?_))
    obtain rfl := sj hm
    refine ja ?_
    exact jA _ () Y (trivial) (sE Y) (fun w hh => hh)
   replace hm := ifE h5 hm
   refine jQ (jk (jk (jC ?_)))
   obtain rfl := sj hm
   have hbo := h4 _ Y
   subst hbo
   exact ji () (Y) (.nil) (fun w hh => hh)
  intro j hj
  have h10 := hj
  subst h10
  replace hm := ocL h3
  refine ja (jr (jm Y Y (jp (jw ?_))))
  obtain rfl := sj hm
  refine jn Y (fun w hh => (.tmp Y .nil)) (fun w hh => ⟨(), rfl, trivial, hh.se [] [] 2 Y Y Y rfl⟩)
structure qY where
  r5 : Int
  i6 : Int
def q4 (c0 : Channel) (cell1 : Int) (s : qY) : Option (qY ⊕ Int) :=
 if s.i6 < (c0.sands.length : Int) then
 (((ix c0.sands s.i6).bind fun t18 =>
 (ix c0.sands s.i6).bind fun t25 =>
 (jD cell1 t18.span.lo t25.span.hi).bind fun t29 =>
 if (!t29) = true then
 ((ix c0.sands s.i6).bind fun t35 =>
 some (max s.r5 t35.reach)) else
 (some s.r5)).bind fun o_1 =>
 (addc s.i6 1).bind fun t13 =>
 some (.inl (⟨o_1, t13⟩ : qY))) else
 (some (.inr s.r5))
def yU (c0 : Channel) (cell1 : Int) : Option Int :=
 (iterM FU (q4 c0 cell1) (⟨0, 0⟩ : qY)).bind fun o =>
 some o
theorem YD (c0 : Channel) (cell1 : Int) (qa0 : Option Addr) (na0 ca0 : Nat) (qa1 : Option Addr) (na1 ca1 : Nat) (qa2 : Option Addr) (na2 ca2 : Nat) (w : World) (hw : HV w (keys [] []) [] [] [(aB qa0, aO qa0, RI.enc c0.fords), (aB qa1, aO qa1, RSa.enc c0.sands), (aB qa2, aO qa2, RSi.enc c0.sights)] w) (hna0 : c0.fords.length = na0) (hqa0 : AOK na0 qa0) (hla0 : na0 ≤ ca0) (hna1 : c0.sands.length = na1) (hqa1 : AOK na1 qa1) (hla1 : na1 ≤ ca1) (hna2 : c0.sights.length = na2) (hqa2 : AOK na2 qa2) (hla2 : na2 ≤ ca2) {res : Int} (hm : yU c0 cell1 = some res) :
    Calls Tryz.prog 57 #[.agg #[.int .i64 c0.cells, .int .i64 c0.tides, .slice qa0 na0 ca0, .slice qa1 na1 ca1, .slice qa2 na2 ca2], .int .i64 cell1] w (fun en w' => ∃ l : Unit, en = .returned (.int .i64 res) ∧ (True) ∧ HV w (keys [] []) [] [] [] w') := by
  unfold yU at hm
  refine qU func57 Y ntmps57 Y (e := [(0, _), (1, _)]) Y hw (jr ?_)
  refine jI Y Y (fun b h1 => ?_)
  refine jm Y Y (qe (jm Y Y (jp (jj (jr (jm Y Y (jp ?_)))))))
  obtain ⟨o, h2, h3⟩ := bindO hm
  refine jE (ι := Unit) (fun l => True) (fun l => [(5, .int .i64 o)]) (fun l => [kc b #[.int .i64 c0.cells, .int .i64 c0.tides, .slice qa0 na0 ca0, .slice qa1 na1 ca1, .slice qa2 na2 ca2] 33]) (fun l => []) ?_ ?_
  ·replace hm := h2
   refine jl ?_
   refine jG (ι := Unit) hm (fun s l_1 => True) (fun s l_1 => [(1, .int .i64 cell1), (2, ptr b 0), (5, .int .i64 s.r5), (6, .int .i64 s.i6)]) (fun s l_1 => [kc b #[.int .i64 c0.cells, .int .i64 c0.tides, .slice qa0 na0 ca0, .slice qa1 na1 ca1, .slice qa2 na2 ca2] 33]) (fun s l_1 => []) () (trivial) (sE Y) (fun w hh => hh) (fun s l_1 r hpl hm h4 => ?_)
   unfold q4 at hm
   refine jj (jr (jh Y Y (qC 3 runUnderlying33 Y sizeOf30 Y Y (qf 0 isAgg30 Y Y Y Y (jc Y Y Y (fun w _ => jR hna1 (runUnderlying30 w) Y) (JC Y Y Y (jp ?_)))))))
   refine jt Y (fun h5 => ?_) (fun h5 => ?_)
   ·replace hm := ifD h5 hm
    refine js (ja (jj ?_))
    obtain ⟨o_1, h6, h7⟩ := bindO hm
    refine jE (ι := Unit) (fun l_2 => True) (fun l_2 => [(1, .int .i64 cell1), (2, ptr b 0), (5, .int .i64 o_1), (6, .int .i64 s.i6)]) (fun l_2 => [kc b #[.int .i64 c0.cells, .int .i64 c0.tides, .slice qa0 na0 ca0, .slice qa1 na1 ca1, .slice qa2 na2 ca2] 33]) (fun l_2 => []) ?_ ?_
    ·replace hm := h6
     refine jl (jj ?_)
     refine kn none (.free 0 (.free 1 (.hoist 2 (.free 3 (.free 4 (.free 5 (.free 6 (.hoist 7 (.free 8 (.hoist 9 (.free 10 (.free 11 (.free 12 (.free 13 (.hoist 14 (.one 15 (.free 16 .done))))))))))))))))) _ Y (by decide +kernel) (fun w k hh => hh.draw k) (fun w hh => hh) ?_
     refine yi Y Y Y (KE 3 runUnderlying33 sizeOf30 Y Y Y Y (Qm 0 isAgg30 Y Y Y Y Y (yi Y Y Y ?_)))
     obtain ⟨t18, h8, hm⟩ := bindO hm
     refine jo Y Y Y Y (fun w _ => yn h8 (runUnderlying30 w) (sizeOf138 w) Y Y hna1 hqa1) (KE 0 runUnderlying138 sizeOf50 Y Y Y Y (KE 0 runUnderlying50 sizeOf3 Y Y Y Y (jy Y Y Y Y (fun w hh => kA RSa 0 h8 (isAgg3 w) Y (hh.seg 1 Y) Y (by first | rfl | simp only [Nat.add_assoc])) (KE 3 runUnderlying33 sizeOf30 Y Y Y Y (Qm 0 isAgg30 Y Y Y Y Y (yi Y Y Y ?_))))))
     obtain ⟨t25, h9, hm⟩ := bindO hm
     refine jo Y Y Y Y (fun w _ => yn h9 (runUnderlying30 w) (sizeOf138 w) Y Y hna1 hqa1) (KE 0 runUnderlying138 sizeOf50 Y Y Y Y (KE 1 runUnderlying50 sizeOf3 Y Y Y Y (jy Y Y Y Y (fun w hh => kA RSa 1 h9 (isAgg3 w) Y (hh.seg 1 Y) Y (by first | rfl | simp only [Nat.add_assoc])) (jK Y ?_))))
     obtain ⟨t29, h10, hm⟩ := bindO hm
     refine jd [] [] Y Y Y Y Y Y Y call88 (fun w hh => kk cell1 t18.span.lo t25.span.hi w (HV.callee (S0 := []) (vs0 := []) hh roN)  h10) (fun l_3 h11 => ?_)
     refine jq (fun w hh => hh) (jo Y Y Y Y (fun _ _ => zL Y) (jO (ja ?_)))
     refine jt Y (fun h12 => ?_) (fun h12 => ?_)
     ·replace hm := ifT (h12) hm
      refine je (jh Y Y (qC 3 runUnderlying33 Y sizeOf30 Y Y (qf 0 isAgg30 Y Y Y Y (jh Y Y ?_))))
      obtain ⟨t35, h13, hm⟩ := bindO hm
      refine jc Y Y Y (fun w _ => yn h13 (runUnderlying30 w) (sizeOf138 w) Y Y hna1 hqa1) (qC 2 runUnderlying138 Y sizeOf3 Y Y (jc Y Y Y (fun w hh => kA RSa 2 h13 (isAgg3 w) Y (hh.seg 1 Y) Y Y) (jc Y Y Y (fun _ _ => jaE Y Y) (jm Y Y (ju (jv ?_))))))
      obtain rfl := sj hm
      exact ji () (trivial) (sE Y) (fun w hh => hh)
     replace hm := ifN h12 hm
     refine js (jv ?_)
     obtain rfl := sj hm
     exact ji () (trivial) (sE Y) (fun w hh => hh)
    intro l_2 hj
    replace hm := h7
    refine ja (je (jh Y Y ?_))
    obtain ⟨t13, h14, hm⟩ := bindO hm
    refine JB h14 Y Y Y (jm Y Y (ju ?_))
    obtain rfl := sj hm
    refine ja ?_
    exact jA _ () Y (trivial) (sE Y) (fun w hh => hh)
   replace hm := ifE h5 hm
   refine jQ (jk (jk (jC ?_)))
   obtain rfl := sj hm
   have hbo := h4 _ Y
   subst hbo
   exact ji () (trivial) (sE Y) (fun w hh => hh)
  intro l hj
  replace hm := h3
  refine ja (jr (jh Y Y (jm Y Y (jp (jw ?_)))))
  obtain rfl := sj hm
  refine jn Y (fun w hh => (.tmp Y .nil)) (fun w hh => ⟨(), rfl, trivial, hh.se [] [] 3 Y Y Y rfl⟩)
def yK (a1 : (List Int)) (c0 : Channel) (b2 : (List Int)) (s : Int) : Option (Int ⊕ (Unit ⊕ Bool)) :=
 if s < (a1.length : Int) then
 ((ix a1 s).bind fun t18 =>
 (yU c0 t18).bind fun t20 =>
 (ix b2 s).bind fun t23 =>
 (ix a1 s).bind fun t27 =>
 (subc t27 t20).bind fun t30 =>
 (ix a1 s).bind fun t33 =>
 (addc t33 t20).bind fun t36 =>
 (jD t23 t30 t36).bind fun t37 =>
 if t37 = true then
 (some (.inr (.inr false))) else
 ((addc s 1).bind fun t14 =>
 some (.inl t14))) else
 (some (.inr (.inl ())))
def yT (c0 : Channel) (a1 : (List Int)) (b2 : (List Int)) : Option Bool :=
 (iterM FU (yK a1 c0 b2) 0).bind fun o =>
 oc o (fun j => some true) (fun r_1 => some r_1)
theorem QI (c0 : Channel) (a1 : (List Int)) (b2 : (List Int)) (qa0 : Option Addr) (na0 ca0 : Nat) (qa1 : Option Addr) (na1 ca1 : Nat) (qa2 : Option Addr) (na2 ca2 : Nat) (qa3 : Option Addr) (na3 ca3 : Nat) (qa4 : Option Addr) (na4 ca4 : Nat) (w : World) (hw : HV w (keys [] []) [] [] [(aB qa0, aO qa0, RI.enc c0.fords), (aB qa1, aO qa1, RSa.enc c0.sands), (aB qa2, aO qa2, RSi.enc c0.sights), (aB qa3, aO qa3, RI.enc a1), (aB qa4, aO qa4, RI.enc b2)] w) (hna0 : c0.fords.length = na0) (hqa0 : AOK na0 qa0) (hla0 : na0 ≤ ca0) (hna1 : c0.sands.length = na1) (hqa1 : AOK na1 qa1) (hla1 : na1 ≤ ca1) (hna2 : c0.sights.length = na2) (hqa2 : AOK na2 qa2) (hla2 : na2 ≤ ca2) (hna3 : a1.length = na3) (hqa3 : AOK na3 qa3) (hla3 : na3 ≤ ca3) (hna4 : b2.length = na4) (hqa4 : AOK na4 qa4) (hla4 : na4 ≤ ca4) {res : Bool} (hm : yT c0 a1 b2 = some res) :
    Calls Tryz.prog 92 #[.agg #[.int .i64 c0.cells, .int .i64 c0.tides, .slice qa0 na0 ca0, .slice qa1 na1 ca1, .slice qa2 na2 ca2], .slice qa3 na3 ca3, .slice qa4 na4 ca4] w (fun en w' => ∃ l : Unit, en = .returned (.bool res) ∧ (True) ∧ HV w (keys [] []) [] [] [] w') := by
  unfold yT at hm
  refine qU func92 Y ntmps92 Y (e := [(0, _), (1, _), (2, _)]) Y hw (jr ?_)
  refine jI Y Y (fun b h1 => ?_)
  refine jm Y Y (jp (jj (jr (jm Y Y (jp ?_)))))
  obtain ⟨o, h2, h3⟩ := bindO hm
  refine jE (ι := Unit) (fun j => o = .inl j) (fun j => []) (fun j => [kc b #[.int .i64 c0.cells, .int .i64 c0.tides, .slice qa0 na0 ca0, .slice qa1 na1 ca1, .slice qa2 na2 ca2] 33]) (fun j => []) ?_ ?_
  ·replace hm := h2
   refine jl ?_
   refine jG (ι := Unit) hm (fun s l => True) (fun s l => [(1, .slice qa3 na3 ca3), (2, .slice qa4 na4 ca4), (3, ptr b 0), (7, .int .i64 s)]) (fun s l => [kc b #[.int .i64 c0.cells, .int .i64 c0.tides, .slice qa0 na0 ca0, .slice qa1 na1 ca1, .slice qa2 na2 ca2] 33]) (fun s l => []) () (trivial) (sE Y) (fun w hh => hh) (fun s l r hpl hm h4 => ?_)
   unfold yK at hm
   refine jj (jr (jh Y Y (jh Y Y (jc Y Y Y (fun w _ => jR hna3 (runUnderlying22 w) Y) (JC Y Y Y (jp ?_))))))
   refine jt Y (fun h5 => ?_) (fun h5 => ?_)
   ·replace hm := ifD h5 hm
    refine js (ja (jj (jl (jj (kn none (.hoist 0 (.free 1 (.free 2 (.free 3 (.hoist 4 (.one 5 (.free 6 .done))))))) _ Y (by decide +kernel) (fun w k hh => hh.draw k) (fun w hh => hh) (jy Y Y Y Y (fun w hh => jN (vs := [_, _, _, _, _]) (isAgg33 w) (sizeOf33 w) Y (hh.cells 0 Y Y)) (yi Y Y Y ?_)))))))
    refine yi Y Y Y ?_
    obtain ⟨t18, h6, hm⟩ := bindO hm
    refine jo Y Y Y Y (fun w _ => yn h6 (runUnderlying22 w) (sizeOf3 w) Y Y hna3 hqa3) (jy Y Y Y Y (fun w hh => kA RI 0 h6 (isAgg3 w) Y (hh.seg 3 Y) Y (Nat.add_zero _).symm) (jK Y ?_))
    obtain ⟨t20, h7, hm⟩ := bindO hm
    refine jd [] [] Y Y Y Y Y Y Y call57 (fun w hh => YD c0 t18 qa0 na0 ca0 qa1 na1 ca1 qa2 na2 ca2 w (HV.callee (S0 := []) (vs0 := []) hh (roR hh 0 Y (roR hh 1 Y (roR hh 2 Y roN)))) hna0 hqa0 hla0 hna1 hqa1 hla1 hna2 hqa2 hla2 h7) (fun l_1 h8 => ?_)
    refine jq (fun w hh => hh) (jo Y Y Y Y (fun _ _ => kG Y) (jO (ja (jj ?_))))
    refine kn none (.free 0 (.free 1 (.free 2 (.hoist 3 (.free 4 (.free 5 (.free 6 (.hoist 7 (.free 8 (.free 9 (.free 10 (.free 11 (.free 12 (.hoist 13 (.free 14 (.free 15 (.one 16 .done))))))))))))))))) _ Y (by decide +kernel) (fun w k hh => hh.draw k) (fun w hh => hh) ?_
    refine yi Y Y Y (yi Y Y Y ?_)
    obtain ⟨t23, h9, hm⟩ := bindO hm
    refine jo Y Y Y Y (fun w _ => yn h9 (runUnderlying22 w) (sizeOf3 w) Y Y hna4 hqa4) (jy Y Y Y Y (fun w hh => kA RI 0 h9 (isAgg3 w) Y (hh.seg 4 Y) Y (Nat.add_zero _).symm) (yi Y Y Y (yi Y Y Y ?_)))
    obtain ⟨t27, h10, hm⟩ := bindO hm
    refine jo Y Y Y Y (fun w _ => yn h10 (runUnderlying22 w) (sizeOf3 w) Y Y hna3 hqa3) (jy Y Y Y Y (fun w hh => kA RI 0 h10 (isAgg3 w) Y (hh.seg 3 Y) Y (Nat.add_zero _).symm) (yi Y Y Y ?_))
    obtain ⟨t30, h11, hm⟩ := bindO hm
    refine jo Y Y Y Y (fun _ _ => Jd h11 Y Y) (yi Y Y Y (yi Y Y Y ?_))
    obtain ⟨t33, h12, hm⟩ := bindO hm
    refine jo Y Y Y Y (fun w _ => yn h12 (runUnderlying22 w) (sizeOf3 w) Y Y hna3 hqa3) (jy Y Y Y Y (fun w hh => kA RI 0 h12 (isAgg3 w) Y (hh.seg 3 Y) Y (Nat.add_zero _).symm) (yi Y Y Y ?_))
    obtain ⟨t36, h13, hm⟩ := bindO hm
    refine jo Y Y Y Y (fun _ _ => KV h13 Y Y) (jK Y ?_)
    obtain ⟨t37, h14, hm⟩ := bindO hm
    refine jd [] [] Y Y Y Y Y Y Y call88 (fun w hh => kk t23 t30 t36 w (HV.callee (S0 := []) (vs0 := []) hh roN)  h14) (fun l_2 h15 => ?_)
    refine jq (fun w hh => hh) (jO (ja ?_))
    refine jt Y (fun h16 => ?_) (fun h16 => ?_)
    ·replace hm := ifT (h16) hm
     refine jr (jm Y Y (jp (jw (jz (jg (jg (jz ?_)))))))
     obtain rfl := sj hm
     have hbo := h4 _ Y
     subst hbo
     refine jg ?_
     replace hm := ocR h3
     refine jg ?_
     obtain rfl := sj hm
     refine jn Y (fun w hh => (.tmp Y .nil)) (fun w hh => ⟨(), rfl, trivial, hh.se [] [] 5 Y Y Y rfl⟩)
    replace hm := ifN h16 hm
    refine js (jv (ja (je (jh Y Y ?_))))
    obtain ⟨t14, h17, hm⟩ := bindO hm
    refine JB h17 Y Y Y (jm Y Y (ju ?_))
    obtain rfl := sj hm
    refine ja ?_
    exact jA _ () Y (trivial) (sE Y) (fun w hh => hh)
   replace hm := ifE h5 hm
   refine jQ (jk (jk (jC ?_)))
   obtain rfl := sj hm
   have hbo := h4 _ Y
   subst hbo
   exact ji () (Y) (.nil) (fun w hh => hh)
  intro j hj
  have h18 := hj
  subst h18
  replace hm := ocL h3
  refine ja (jr (jm Y Y (jp (jw ?_))))
  obtain rfl := sj hm
  refine jn Y (fun w hh => (.tmp Y .nil)) (fun w hh => ⟨(), rfl, trivial, hh.se [] [] 5 Y Y Y rfl⟩)
end Go.Proofs.Wb

namespace Go.Proofs.Wb
set_option maxHeartbeats 4000000
set_option maxRecDepth 100000
open Go Go.Fw Go.Gx Go.Sb
open Tryz
set_option linter.unusedVariables false
structure qw where
  k7 : Int
  out6 : (List (List Int))
structure ym where
  b9 : Int
  t21 : (List Int)
structure zp where
  a10 : Int
  t21 : (List Int)
def kp (t12 : (List (List Int))) (s : qw) (s_1 : ym) (c0 : Channel) (s_2 : zp) : Option (zp ⊕ (List Int)) :=
 (if s_2.a10 < (t12.length : Int) then
 (some (decide (0 < s.k7))) else
 (some false)).bind fun o_6 =>
 if o_6 = true then
 ((((subc s.k7 1).bind fun t63 =>
 (ix s.out6 t63).bind fun t64 =>
 (ix t64 s_2.a10).bind fun t67 =>
 if 0 < t67 then
 ((ix t12 s_2.a10).bind fun t74 =>
 (ix t12 s_1.b9).bind fun t78 =>
 (yT c0 t74 t78).bind fun t80 =>
 some t80) else
 (some false)).bind fun o_8 =>
 if o_8 = true then
 ((ix s_2.t21 s_1.b9).bind fun t86 =>
 (subc s.k7 1).bind fun t90 =>
 (ix s.out6 t90).bind fun t91 =>
 (ix t91 s_2.a10).bind fun t94 =>
 (addc t86 t94).bind fun t96 =>
 (ix s_2.t21 s_1.b9).bind fun t97 =>
 (some (s_2.t21.set (Int.toNat s_1.b9) t96)).bind fun t21_2 =>
 some t21_2) else
 (some s_2.t21)).bind fun o_7 =>
 (addc s_2.a10 1).bind fun t60 =>
 some (.inl (⟨t60, o_7⟩ : zp))) else
 (some (.inr s_2.t21))
def qx (t12 : (List (List Int))) (c0 : Channel) (s : qw) (set1 : Int) (s_1 : ym) : Option (ym ⊕ (List Int)) :=
 if s_1.b9 < (t12.length : Int) then
 (((ix t12 s_1.b9).bind fun t32 =>
 (yy c0 s.k7 t32 set1).bind fun t35 =>
 if (!t35) = true then
 (some s_1.t21) else
 (((if s.k7 = 0 then
 ((ix t12 s_1.b9).bind fun t42 =>
 (zu t42 c0.fords).bind fun t46 =>
 some t46) else
 (some false)).bind fun o_4 =>
 if o_4 = true then
 ((ix s_1.t21 s_1.b9).bind fun t50 =>
 (some (s_1.t21.set (Int.toNat s_1.b9) 1)).bind fun t21_1 =>
 some t21_1) else
 (some s_1.t21)).bind fun o_3 =>
 (iterM FU (kp t12 s s_1 c0) (⟨0, o_3⟩ : zp)).bind fun o_5 =>
 some o_5)).bind fun o_2 =>
 (addc s_1.b9 1).bind fun t27 =>
 some (.inl (⟨t27, o_2⟩ : ym))) else
 (some (.inr s_1.t21))
def qz (c0 : Channel) (t12 : (List (List Int))) (set1 : Int) (s : qw) : Option (qw ⊕ (List (List Int))) :=
 if s.k7 ≤ c0.tides then
 ((makec 8 0 (t12.length : Int) (t12.length : Int)).bind fun t21 =>
 (iterM FU (qx t12 c0 s set1) (⟨0, t21⟩ : ym)).bind fun o_1 =>
 (appc 24 s.out6 [o_1]).bind fun t101 =>
 (addc s.k7 1).bind fun t18 =>
 some (.inl (⟨t18, t101⟩ : qw))) else
 (some (.inr s.out6))
def yt (c0 : Channel) (set1 : Int) : Option (List (List Int)) :=
 (kX c0).bind fun t12 =>
 (iterM FU (qz c0 t12 set1) (⟨0, ([] : List (List Int))⟩ : qw)).bind fun o =>
 some o
theorem Qu (c0 : Channel) (set1 : Int) (qa0 : Option Addr) (na0 ca0 : Nat) (qa1 : Option Addr) (na1 ca1 : Nat) (qa2 : Option Addr) (na2 ca2 : Nat) (w : World) (hw : HV w (keys [] []) [] [] [(aB qa0, aO qa0, RI.enc c0.fords), (aB qa1, aO qa1, RSa.enc c0.sands), (aB qa2, aO qa2, RSi.enc c0.sights)] w) (hna0 : c0.fords.length = na0) (hqa0 : AOK na0 qa0) (hla0 : na0 ≤ ca0) (hna1 : c0.sands.length = na1) (hqa1 : AOK na1 qa1) (hla1 : na1 ≤ ca1) (hna2 : c0.sights.length = na2) (hqa2 : AOK na2 qa2) (hla2 : na2 ≤ ca2) {res : (List (List Int))} (hm : yt c0 set1 = some res) :
    Calls Tryz.prog 89 #[.agg #[.int .i64 c0.cells, .int .i64 c0.tides, .slice qa0 na0 ca0, .slice qa1 na1 ca1, .slice qa2 na2 ca2], .int .i64 set1] w (fun en w' => ∃ l : DL, en = .returned (sL l.v) ∧ (VOK 1 l.v.n l.v.cap (RwH.enc l.rs) l.v.sp l.v.q ∧ DOK RI res l.rs) ∧ HV w (keys [] []) [] [⟨22, RwH.enc l.rs, l.v.sp, l.v.q, dbl 3 RI res l.rs⟩] [] w') := by
  unfold yt at hm
  refine qU func89 Y ntmps89 Y (e := [(0, _), (1, _)]) Y hw (jr ?_)
  refine jI Y Y (fun b h3 => ?_)
  refine jc Y Y Y (fun _ _ => kd Y) (qe (zT [_, _, _, _, _] 0 isAgg33 sizeOf33 Y Y Y Y ?_))
  obtain ⟨t12, h4, hm⟩ := bindO hm
  refine jd [] [] Y Y Y Y Y Y Y call90 (fun w hh => z1 c0 qa0 na0 ca0 qa1 na1 ca1 qa2 na2 ca2 w (HV.callee (S0 := []) (vs0 := []) hh (roR hh 0 Y (roR hh 1 Y (roR hh 2 Y roN)))) hna0 hqa0 hla0 hna1 hqa1 hla1 hna2 hqa2 hla2 h4) (fun l h5 => ?_)
  obtain ⟨h6, h7⟩ := h5
  refine kC (S' := [_]) (vs' := [_]) [0] [0] 0 Y Y Y Y (jm Y Y (qe (jc Y Y Y (fun _ _ => kd Y) (jp (jj (jr (jm Y Y ?_)))))))
  refine jp (yk 22 ?_)
  obtain ⟨o, h8, h9⟩ := bindO hm
  refine jE (ι := DL) (fun l_1 => VOK 1 l_1.v.n l_1.v.cap (RwH.enc l_1.rs) l_1.v.sp l_1.v.q ∧ DOK RI o l_1.rs) (fun l_1 => [(6, sL l_1.v)]) (fun l_1 => [kc b #[.int .i64 c0.cells, .int .i64 c0.tides, .slice qa0 na0 ca0, .slice qa1 na1 ca1, .slice qa2 na2 ca2] 33]) (fun l_1 => [⟨22, RwH.enc l_1.rs, l_1.v.sp, l_1.v.q, dbl 3 RI o l_1.rs⟩]) ?_ ?_
  ·replace hm := h8
   refine jl ?_
   refine jG (ι := DL) hm (fun s l_2 => VOK 1 l_2.v.n l_2.v.cap (RwH.enc l_2.rs) l_2.v.sp l_2.v.q ∧ DOK RI s.out6 l_2.rs) (fun s l_2 => [(1, .int .i64 set1), (2, ptr b 0), (5, sL l.v), (6, sL l_2.v), (7, .int .i64 s.k7)]) (fun s l_2 => [kc b #[.int .i64 c0.cells, .int .i64 c0.tides, .slice qa0 na0 ca0, .slice qa1 na1 ca1, .slice qa2 na2 ca2] 33]) (fun s l_2 => [⟨22, RwH.enc l.rs, l.v.sp, l.v.q, dbl 3 RI t12 l.rs⟩, ⟨22, RwH.enc l_2.rs, l_2.v.sp, l_2.v.q, dbl 3 RI s.out6 l_2.rs⟩]) (⟨⟨none, 0, 0, []⟩, []⟩) (⟨VOK.nil, DOK.nil⟩) (sE Y) (hsE [0] [1, 0] 0 Y Y Y Y) (fun s l_2 r hpl hm h14 => ?_)
   obtain ⟨h12, h13⟩ := hpl
   unfold qz at hm
   refine jj (jr (jh Y Y (qC 1 runUnderlying33 Y sizeOf3 Y Y (qf 0 isAgg3 Y Y Y Y (jc Y Y Y (fun _ _ => Z3 Y Y) (jp ?_))))))
   refine jt Y (fun h15 => ?_) (fun h15 => ?_)
   ·replace hm := ifD h15 hm
    refine js (ja (jj (jl (jr (jh Y Y (jc Y Y Y (fun w _ => JO (Eq.trans (h7).len (vlen RwH h6 Y)) (runUnderlying41 w) Y) ?_))))))
    obtain ⟨t21, h16, hm⟩ := bindO hm
    refine Q9 RI 0 h16 underlying22 KX Y Y Y Y Y (fun L h17 => ?_)
    refine jm Y Y (jp (jj (jr (jm Y Y (jp ?_)))))
    obtain ⟨o_1, h18, h19⟩ := bindO hm
    refine jE (ι := Unit) (fun l_3 => VOK 1 L.n L.cap (RI.enc o_1) L.sp L.q) (fun l_3 => [(1, .int .i64 set1), (2, ptr b 0), (5, sL l.v), (6, sL l_2.v), (7, .int .i64 s.k7), (8, sL L)]) (fun l_3 => [kc b #[.int .i64 c0.cells, .int .i64 c0.tides, .slice qa0 na0 ca0, .slice qa1 na1 ca1, .slice qa2 na2 ca2] 33]) (fun l_3 => [⟨22, RwH.enc l.rs, l.v.sp, l.v.q, dbl 3 RI t12 l.rs⟩, ⟨22, RwH.enc l_2.rs, l_2.v.sp, l_2.v.q, dbl 3 RI s.out6 l_2.rs⟩, vL 3 L (RI.enc o_1)]) ?_ ?_
    ·replace hm := h18
     refine jl ?_
     refine jG (ι := Unit) hm (fun s_1 l_4 => VOK 1 L.n L.cap (RI.enc s_1.t21) L.sp L.q) (fun s_1 l_4 => [(1, .int .i64 set1), (2, ptr b 0), (5, sL l.v), (6, sL l_2.v), (7, .int .i64 s.k7), (8, sL L), (9, .int .i64 s_1.b9)]) (fun s_1 l_4 => [kc b #[.int .i64 c0.cells, .int .i64 c0.tides, .slice qa0 na0 ca0, .slice qa1 na1 ca1, .slice qa2 na2 ca2] 33]) (fun s_1 l_4 => [⟨22, RwH.enc l.rs, l.v.sp, l.v.q, dbl 3 RI t12 l.rs⟩, ⟨22, RwH.enc l_2.rs, l_2.v.sp, l_2.v.q, dbl 3 RI s.out6 l_2.rs⟩, vL 3 L (RI.enc s_1.t21)]) () (h17) (sE Y) (hsE [0] [1, 2, 0] 0 Y Y Y Y) (fun s_1 l_4 r_1 hpl hm h22 => ?_)
     have h21 := hpl
     unfold qx at hm
     refine jj (jr (jh Y Y (jh Y Y (jc Y Y Y (fun w _ => JO (Eq.trans (h7).len (vlen RwH h6 Y)) (runUnderlying41 w) Y) (JC Y Y Y (jp ?_))))))
     refine jt Y (fun h23 => ?_) (fun h23 => ?_)
     ·replace hm := ifD h23 hm
      refine js (ja (jj ?_))
      obtain ⟨o_2, h24, h25⟩ := bindO hm
      refine jE (ι := Unit) (fun l_5 => VOK 1 L.n L.cap (RI.enc o_2) L.sp L.q) (fun l_5 => [(1, .int .i64 set1), (2, ptr b 0), (5, sL l.v), (6, sL l_2.v), (7, .int .i64 s.k7), (8, sL L), (9, .int .i64 s_1.b9)]) (fun l_5 => [kc b #[.int .i64 c0.cells, .int .i64 c0.tides, .slice qa0 na0 ca0, .slice qa1 na1 ca1, .slice qa2 na2 ca2] 33]) (fun l_5 => [⟨22, RwH.enc l.rs, l.v.sp, l.v.q, dbl 3 RI t12 l.rs⟩, ⟨22, RwH.enc l_2.rs, l_2.v.sp, l_2.v.q, dbl 3 RI s.out6 l_2.rs⟩, vL 3 L (RI.enc o_2)]) ?_ ?_
      ·replace hm := h24
       refine jl (jj (jj ?_))
       refine kn none (.hoist 0 (.free 1 (.free 2 (.free 3 (.free 4 (.hoist 5 (.free 6 (.one 7 (.free 8 .done))))))))) _ Y (by decide +kernel) (fun w k hh => hh.draw k) (fun w hh => hh) ?_
       refine jy Y Y Y Y (fun w hh => jN (vs := [_, _, _, _, _]) (isAgg33 w) (sizeOf33 w) Y (hh.cells 0 Y Y)) (yi Y Y Y (yi Y Y Y (yi Y Y Y ?_)))
       obtain ⟨t32, h27, hm⟩ := bindO hm
       obtain ⟨L_1, h28, h29⟩ := (h7).row h27
       refine jo Y Y Y Y (fun w _ => qV h28 (runUnderlying41 w) (sizeOf22 w) Y Y (vlen RwH h6 Y) (vne h6)) (jy Y Y Y Y (fun w hh => kA RwH 0 h28 (isAgg22 w) Y (hh.vseg 0 Y h6) Y (Nat.add_zero _).symm) (yi Y Y Y (jK Y ?_)))
       obtain ⟨t35, h30, hm⟩ := bindO hm
       refine jd [] [] Y Y Y Y Y Y Y call102 (fun w hh => Yo c0 s.k7 t32 set1 qa0 na0 ca0 qa1 na1 ca1 qa2 na2 ca2 (qA L_1.q) L_1.n L_1.cap w (HV.callee (S0 := []) (vs0 := []) hh (roR hh 0 Y (roR hh 1 Y (roR hh 2 Y (roC (hh.dsepA (S0 := []) (vs0 := []) 0 Y h27 h28 h29) roN))))) hna0 hqa0 hla0 hna1 hqa1 hla1 hna2 hqa2 hla2 (vlen RI h29 Y) (AOK.q (vne h29)) (h29).hle h30) (fun l_6 h31 => ?_)
       refine jq (fun w hh => hh) (jo Y Y Y Y (fun _ _ => zL Y) (jO (ja ?_)))
       refine jt Y (fun h32 => ?_) (fun h32 => ?_)
       ·replace hm := ifT (h32) hm
        refine jQ (jk (jC ?_))
        obtain rfl := sj hm
        exact ji () (h21) (sE Y) (fun w hh => hh)
       replace hm := ifN h32 hm
       refine js (ja (jj ?_))
       obtain ⟨o_3, h33, h34⟩ := bindO hm
       refine jE (ι := Unit) (fun l_7 => VOK 1 L.n L.cap (RI.enc o_3) L.sp L.q) (fun l_7 => [(1, .int .i64 set1), (2, ptr b 0), (5, sL l.v), (6, sL l_2.v), (7, .int .i64 s.k7), (8, sL L), (9, .int .i64 s_1.b9)]) (fun l_7 => [kc b #[.int .i64 c0.cells, .int .i64 c0.tides, .slice qa0 na0 ca0, .slice qa1 na1 ca1, .slice qa2 na2 ca2] 33]) (fun l_7 => [⟨22, RwH.enc l.rs, l.v.sp, l.v.q, dbl 3 RI t12 l.rs⟩, ⟨22, RwH.enc l_2.rs, l_2.v.sp, l_2.v.q, dbl 3 RI s.out6 l_2.rs⟩, vL 3 L (RI.enc o_3)]) ?_ ?_
       ·replace hm := h33
        refine jj ?_
        obtain ⟨o_4, h36, h37⟩ := bindO hm
        refine jE (ι := Unit) (fun l_8 => True) (fun l_8 => [(1, .int .i64 set1), (2, ptr b 0), (5, sL l.v), (6, sL l_2.v), (7, .int .i64 s.k7), (8, sL L), (9, .int .i64 s_1.b9), (47, .bool o_4)]) (fun l_8 => [kc b #[.int .i64 c0.cells, .int .i64 c0.tides, .slice qa0 na0 ca0, .slice qa1 na1 ca1, .slice qa2 na2 ca2] 33]) (fun l_8 => [⟨22, RwH.enc l.rs, l.v.sp, l.v.q, dbl 3 RI t12 l.rs⟩, ⟨22, RwH.enc l_2.rs, l_2.v.sp, l_2.v.q, dbl 3 RI s.out6 l_2.rs⟩, vL 3 L (RI.enc s_1.t21)]) ?_ ?_
        ·replace hm := h36
         refine kn none (.free 0 (.free 1 (.free 2 (.free 3 (.free 4 (.free 5 (.hoist 6 (.free 7 (.hoist 8 (.one 9 (.free 10 .done))))))))))) _ Y (by decide +kernel) (fun w k hh => hh.draw k) (fun w hh => hh) ?_
         refine yi Y Y Y (jo Y Y Y Y (fun _ _ => zf Y Y) (yi Y Y Y ?_))
         refine jM 39 Y (fun h38 => ?_) (fun h38 => ?_)
         ·replace hm := ifD h38 hm
          refine jF Y Y Y Y Y Y (fun _ _ => jV Y) (jF Y Y Y Y Y Y (fun _ _ => jV Y) ?_)
          obtain ⟨t42, h39, hm⟩ := bindO hm
          obtain ⟨L_2, h40, h41⟩ := (h7).row h39
          refine jF Y Y Y Y Y Y (fun w _ => qV h40 (runUnderlying41 w) (sizeOf22 w) Y Y (vlen RwH h6 Y) (vne h6)) (k8 Y Y Y Y Y Y (fun w hh => kA RwH 0 h40 (isAgg22 w) Y (hh.vseg 0 Y h6) Y (Nat.add_zero _).symm) (jF Y Y Y Y Y Y (fun w _ => jH 2 (runUnderlying33 w) Y (sizeOf22 w) Y) (k8 Y Y Y Y Y Y (fun w hh => jJ (isAgg22 w) Y (hh.cell 0 Y Y)) (jK Y (jb Y Y ?_)))))
          obtain ⟨t46, h42, hm⟩ := bindO hm
          refine jd [] [] Y Y Y Y Y Y Y call101 (fun w hh => YT t42 c0.fords (qA L_2.q) L_2.n L_2.cap qa0 na0 ca0 w (HV.callee (S0 := []) (vs0 := []) hh (roC (hh.dsepA (S0 := []) (vs0 := []) 0 Y h39 h40 h41) (roR hh 0 Y roN))) (vlen RI h41 Y) (AOK.q (vne h41)) (h41).hle hna0 hqa0 hla0 h42) (fun l_9 h43 => ?_)
          refine jq (fun w hh => hh) (jo Y Y Y Y (fun _ _ => JQ Y Y) (jO ?_))
          obtain rfl := sj hm
          exact ji () (trivial) (sE Y) (fun w hh => hh)
         replace hm := ifE h38 hm
         refine jB Y Y Y Y Y Y Y (jB Y Y Y Y Y Y Y (jB Y Y Y Y Y Y Y (yl Y Y Y Y Y Y Y (jB Y Y Y Y Y Y Y (yl Y Y Y Y Y Y Y (jK Y (g_k Y Y Y Y ?_)))))))
         refine jq (fun w hh => hh) (jo Y Y Y Y (fun _ _ => zD Y Y) (jO ?_))
         obtain rfl := sj hm
         exact ji () (trivial) (sE Y) (fun w hh => hh)
        intro l_8 hj
        replace hm := h37
        refine ja ?_
        refine jt Y (fun h44 => ?_) (fun h44 => ?_)
        ·replace hm := ifT (h44) hm
         refine je (jh Y Y (jh Y Y ?_))
         obtain ⟨t50, h45, hm⟩ := bindO hm
         refine jc Y Y Y (fun w _ => qV h45 (runUnderlying22 w) (sizeOf3 w) Y Y (vlen RI h21 Y) (vne h21)) ?_
         obtain ⟨t21_1, ht21_1, hm⟩ := bindO hm
         refine jaa RI 2 0 1 (fun w => sizeOf3 w) Y Y Y Y h21 Y (Nat.add_zero _).symm Y h45 Y Y (Option.some.inj ht21_1) (fun h46 => ?_)
         refine kC (S' := [_]) (vs' := [_, _, _]) [0] [0, 1, 2] 0 Y Y Y Y (ju ?_)
         obtain rfl := sj hm
         exact ji () (h46) (sE Y) (fun w hh => hh)
        replace hm := ifN h44 hm
        refine js ?_
        obtain rfl := sj hm
        exact ji () (h21) (sE Y) (fun w hh => hh)
       intro l_7 hj
       have h35 := hj
       replace hm := h34
       refine ja (jr (jm Y Y (jp ?_)))
       obtain ⟨o_5, h47, h48⟩ := bindO hm
       refine jE (ι := Unit) (fun l_10 => VOK 1 L.n L.cap (RI.enc o_5) L.sp L.q) (fun l_10 => [(1, .int .i64 set1), (2, ptr b 0), (5, sL l.v), (6, sL l_2.v), (7, .int .i64 s.k7), (8, sL L), (9, .int .i64 s_1.b9)]) (fun l_10 => [kc b #[.int .i64 c0.cells, .int .i64 c0.tides, .slice qa0 na0 ca0, .slice qa1 na1 ca1, .slice qa2 na2 ca2] 33]) (fun l_10 => [⟨22, RwH.enc l.rs, l.v.sp, l.v.q, dbl 3 RI t12 l.rs⟩, ⟨22, RwH.enc l_2.rs, l_2.v.sp, l_2.v.q, dbl 3 RI s.out6 l_2.rs⟩, vL 3 L (RI.enc o_5)]) ?_ ?_
       ·replace hm := h47
        refine jl ?_
        refine jG (ι := Unit) hm (fun s_2 l_11 => VOK 1 L.n L.cap (RI.enc s_2.t21) L.sp L.q) (fun s_2 l_11 => [(1, .int .i64 set1), (2, ptr b 0), (5, sL l.v), (6, sL l_2.v), (7, .int .i64 s.k7), (8, sL L), (9, .int .i64 s_1.b9), (10, .int .i64 s_2.a10)]) (fun s_2 l_11 => [kc b #[.int .i64 c0.cells, .int .i64 c0.tides, .slice qa0 na0 ca0, .slice qa1 na1 ca1, .slice qa2 na2 ca2] 33]) (fun s_2 l_11 => [⟨22, RwH.enc l.rs, l.v.sp, l.v.q, dbl 3 RI t12 l.rs⟩, ⟨22, RwH.enc l_2.rs, l_2.v.sp, l_2.v.q, dbl 3 RI s.out6 l_2.rs⟩, vL 3 L (RI.enc s_2.t21)]) () (h35) (sE Y) (fun w hh => hh) (fun s_2 l_11 r_2 hpl hm h51 => ?_)
        have h50 := hpl
        unfold kp at hm
        refine jj (jj ?_)
        obtain ⟨o_6, h52, h53⟩ := bindO hm
        refine jE (ι := Unit) (fun l_12 => True) (fun l_12 => [(1, .int .i64 set1), (2, ptr b 0), (5, sL l.v), (6, sL l_2.v), (7, .int .i64 s.k7), (8, sL L), (9, .int .i64 s_1.b9), (10, .int .i64 s_2.a10), (58, .bool o_6)]) (fun l_12 => [kc b #[.int .i64 c0.cells, .int .i64 c0.tides, .slice qa0 na0 ca0, .slice qa1 na1 ca1, .slice qa2 na2 ca2] 33]) (fun l_12 => [⟨22, RwH.enc l.rs, l.v.sp, l.v.q, dbl 3 RI t12 l.rs⟩, ⟨22, RwH.enc l_2.rs, l_2.v.sp, l_2.v.q, dbl 3 RI s.out6 l_2.rs⟩, vL 3 L (RI.enc s_2.t21)]) ?_ ?_
        ·replace hm := h52
         refine je (jh Y Y (jh Y Y (jc Y Y Y (fun w _ => JO (Eq.trans (h7).len (vlen RwH h6 Y)) (runUnderlying41 w) Y) (JC Y Y Y (jh Y Y ?_)))))
         refine jM 55 Y (fun h54 => ?_) (fun h54 => ?_)
         ·replace hm := ifD h54 hm
          refine jb Y Y (jh Y Y (jb Y Y (jc Y Y Y (fun _ _ => Q8 Y Y) (yF Y Y Y (ju ?_)))))
          obtain rfl := sj hm
          exact ji () (trivial) (sE Y) (fun w hh => hh)
         replace hm := ifE h54 hm
         refine g_k Y Y Y Y (g_k Y Y Y Y (qE Y Y Y (ju ?_)))
         obtain rfl := sj hm
         exact ji () (trivial) (sE Y) (fun w hh => hh)
        intro l_12 hj
        replace hm := h53
        refine ja ?_
        refine jt Y (fun h55 => ?_) (fun h55 => ?_)
        ·replace hm := ifT (h55) hm
         refine js (ja (jj ?_))
         obtain ⟨o_7, h56, h57⟩ := bindO hm
         refine jE (ι := Unit) (fun l_13 => VOK 1 L.n L.cap (RI.enc o_7) L.sp L.q) (fun l_13 => [(1, .int .i64 set1), (2, ptr b 0), (5, sL l.v), (6, sL l_2.v), (7, .int .i64 s.k7), (8, sL L), (9, .int .i64 s_1.b9), (10, .int .i64 s_2.a10)]) (fun l_13 => [kc b #[.int .i64 c0.cells, .int .i64 c0.tides, .slice qa0 na0 ca0, .slice qa1 na1 ca1, .slice qa2 na2 ca2] 33]) (fun l_13 => [⟨22, RwH.enc l.rs, l.v.sp, l.v.q, dbl 3 RI t12 l.rs⟩, ⟨22, RwH.enc l_2.rs, l_2.v.sp, l_2.v.q, dbl 3 RI s.out6 l_2.rs⟩, vL 3 L (RI.enc o_7)]) ?_ ?_
         ·replace hm := h56
          refine jl (jj ?_)
          obtain ⟨o_8, h59, h60⟩ := bindO hm
          refine jE (ι := Unit) (fun l_14 => True) (fun l_14 => [(1, .int .i64 set1), (2, ptr b 0), (5, sL l.v), (6, sL l_2.v), (7, .int .i64 s.k7), (8, sL L), (9, .int .i64 s_1.b9), (10, .int .i64 s_2.a10), (81, .bool o_8)]) (fun l_14 => [kc b #[.int .i64 c0.cells, .int .i64 c0.tides, .slice qa0 na0 ca0, .slice qa1 na1 ca1, .slice qa2 na2 ca2] 33]) (fun l_14 => [⟨22, RwH.enc l.rs, l.v.sp, l.v.q, dbl 3 RI t12 l.rs⟩, ⟨22, RwH.enc l_2.rs, l_2.v.sp, l_2.v.q, dbl 3 RI s.out6 l_2.rs⟩, vL 3 L (RI.enc s_2.t21)]) ?_ ?_
          ·replace hm := h59
           refine kn none (.free 0 (.free 1 (.free 2 (.free 3 (.hoist 4 (.free 5 (.free 6 (.hoist 7 (.free 8 (.free 9 (.hoist 10 (.free 11 (.free 12 (.free 13 (.hoist 14 (.free 15 (.free 16 (.free 17 (.hoist 18 (.one 19 (.free 20 .done))))))))))))))))))))) _ Y (by decide +kernel) (fun w k hh => hh.draw k) (fun w hh => hh) ?_
           refine yi Y Y Y (yi Y Y Y ?_)
           obtain ⟨t63, h61, hm⟩ := bindO hm
           refine jo Y Y Y Y (fun _ _ => Jd h61 Y Y) ?_
           obtain ⟨t64, h62, hm⟩ := bindO hm
           obtain ⟨L_3, h63, h64⟩ := (h13).row h62
           refine jo Y Y Y Y (fun w _ => qV h63 (runUnderlying41 w) (sizeOf22 w) Y Y (vlen RwH h12 Y) (vne h12)) (jy Y Y Y Y (fun w hh => kA RwH 0 h63 (isAgg22 w) Y (hh.vseg 1 Y h12) Y (Nat.add_zero _).symm) (yi Y Y Y ?_))
           obtain ⟨t67, h65, hm⟩ := bindO hm
           refine jo Y Y Y Y (fun w _ => qV h65 (runUnderlying22 w) (sizeOf3 w) Y Y (vlen RI h64 Y) (vne h64)) (jy Y Y Y Y (fun w hh => kA RI 0 h65 (isAgg3 w) Y (hh.dseg 1 Y h62 h63 h64) Y (Nat.add_zero _).symm) (jo Y Y Y Y (fun _ _ => Q8 Y Y) (yi Y Y Y ?_)))
           refine jM 70 Y (fun h66 => ?_) (fun h66 => ?_)
           ·replace hm := ifD h66 hm
            refine k8 Y Y Y Y Y Y (fun w hh => jN (vs := [_, _, _, _, _]) (isAgg33 w) (sizeOf33 w) Y (hh.cells 0 Y Y)) (jF Y Y Y Y Y Y (fun _ _ => jV Y) (jF Y Y Y Y Y Y (fun _ _ => jV Y) ?_))
            obtain ⟨t74, h67, hm⟩ := bindO hm
            obtain ⟨L_4, h68, h69⟩ := (h7).row h67
            refine jF Y Y Y Y Y Y (fun w _ => qV h68 (runUnderlying41 w) (sizeOf22 w) Y Y (vlen RwH h6 Y) (vne h6)) (k8 Y Y Y Y Y Y (fun w hh => kA RwH 0 h68 (isAgg22 w) Y (hh.vseg 0 Y h6) Y (Nat.add_zero _).symm) (jF Y Y Y Y Y Y (fun _ _ => jV Y) (jF Y Y Y Y Y Y (fun _ _ => jV Y) ?_)))
            obtain ⟨t78, h70, hm⟩ := bindO hm
            obtain ⟨L_5, h71, h72⟩ := (h7).row h70
            refine jF Y Y Y Y Y Y (fun w _ => qV h71 (runUnderlying41 w) (sizeOf22 w) Y Y (vlen RwH h6 Y) (vne h6)) (k8 Y Y Y Y Y Y (fun w hh => kA RwH 0 h71 (isAgg22 w) Y (hh.vseg 0 Y h6) Y (Nat.add_zero _).symm) (jK Y (jb Y Y ?_)))
            obtain ⟨t80, h73, hm⟩ := bindO hm
            refine jd [] [] Y Y Y Y Y Y Y call92 (fun w hh => QI c0 t74 t78 qa0 na0 ca0 qa1 na1 ca1 qa2 na2 ca2 (qA L_4.q) L_4.n L_4.cap (qA L_5.q) L_5.n L_5.cap w (HV.callee (S0 := []) (vs0 := []) hh (roR hh 0 Y (roR hh 1 Y (roR hh 2 Y (roC (hh.dsepA (S0 := []) (vs0 := []) 0 Y h67 h68 h69) (roC (hh.dsepA (S0 := []) (vs0 := []) 0 Y h70 h71 h72) roN)))))) hna0 hqa0 hla0 hna1 hqa1 hla1 hna2 hqa2 hla2 (vlen RI h69 Y) (AOK.q (vne h69)) (h69).hle (vlen RI h72 Y) (AOK.q (vne h72)) (h72).hle h73) (fun l_15 h74 => ?_)
            refine jq (fun w hh => hh) (jo Y Y Y Y (fun _ _ => JQ Y Y) (jO ?_))
            obtain rfl := sj hm
            exact ji () (trivial) (sE Y) (fun w hh => hh)
           replace hm := ifE h66 hm
           refine yl Y Y Y Y Y Y Y (jB Y Y Y Y Y Y Y (jB Y Y Y Y Y Y Y (jB Y Y Y Y Y Y Y (yl Y Y Y Y Y Y Y (jB Y Y Y Y Y Y Y (jB Y Y Y Y Y Y Y (jB Y Y Y Y Y Y Y ?_)))))))
           refine yl Y Y Y Y Y Y Y (jK Y (g_k Y Y Y Y (jq (fun w hh => hh) (jo Y Y Y Y (fun _ _ => zD Y Y) (jO ?_)))))
           obtain rfl := sj hm
           exact ji () (trivial) (sE Y) (fun w hh => hh)
          intro l_14 hj
          replace hm := h60
          refine ja ?_
          refine jt Y (fun h75 => ?_) (fun h75 => ?_)
          ·replace hm := ifT (h75) hm
           refine kn (some 16) (.free 0 (.free 1 (.free 2 (.free 3 (.free 4 (.hoist 5 (.free 6 (.free 7 (.free 8 (.free 9 (.hoist 10 (.free 11 (.free 12 (.hoist 13 (.free 14 (.free 15 (.last 16 .done))))))))))))))))) _ Y (by decide +kernel) (fun w k hh => hh.draw k) (fun w hh => hh) ?_
           refine yi Y Y Y (yi Y Y Y (yi Y Y Y (yi Y Y Y ?_)))
           obtain ⟨t86, h76, hm⟩ := bindO hm
           refine jo Y Y Y Y (fun w _ => qV h76 (runUnderlying22 w) (sizeOf3 w) Y Y (vlen RI h50 Y) (vne h50)) (jy Y Y Y Y (fun w hh => kA RI 0 h76 (isAgg3 w) Y (hh.vseg 2 Y h50) Y (Nat.add_zero _).symm) (yi Y Y Y (yi Y Y Y ?_)))
           obtain ⟨t90, h77, hm⟩ := bindO hm
           refine jo Y Y Y Y (fun _ _ => Jd h77 Y Y) ?_
           obtain ⟨t91, h78, hm⟩ := bindO hm
           obtain ⟨L_6, h79, h80⟩ := (h13).row h78
           refine jo Y Y Y Y (fun w _ => qV h79 (runUnderlying41 w) (sizeOf22 w) Y Y (vlen RwH h12 Y) (vne h12)) (jy Y Y Y Y (fun w hh => kA RwH 0 h79 (isAgg22 w) Y (hh.vseg 1 Y h12) Y (Nat.add_zero _).symm) (yi Y Y Y ?_))
           obtain ⟨t94, h81, hm⟩ := bindO hm
           refine jo Y Y Y Y (fun w _ => qV h81 (runUnderlying22 w) (sizeOf3 w) Y Y (vlen RI h80 Y) (vne h80)) (jy Y Y Y Y (fun w hh => kA RI 0 h81 (isAgg3 w) Y (hh.dseg 1 Y h78 h79 h80) Y (Nat.add_zero _).symm) ?_)
           obtain ⟨t96, h82, hm⟩ := bindO hm
           refine jo Y Y Y Y (fun _ _ => KV h82 Y Y) ?_
           obtain ⟨t97, h83, hm⟩ := bindO hm
           refine jo Y Y Y Y (fun w _ => qV h83 (runUnderlying22 w) (sizeOf3 w) Y Y (vlen RI h50 Y) (vne h50)) (Zo Y ?_)
           obtain ⟨t21_2, ht21_2, hm⟩ := bindO hm
           refine jaa RI 2 0 t96 (fun w => sizeOf3 w) Y Y Y Y h50 Y (Nat.add_zero _).symm Y h83 Y Y (Option.some.inj ht21_2) (fun h84 => ?_)
           refine kC (S' := [_]) (vs' := [_, _, _]) [0] [0, 1, 2] 0 Y Y Y Y (YH (jO (jv ?_)))
           obtain rfl := sj hm
           exact ji () (h84) (sE Y) (fun w hh => hh)
          replace hm := ifN h75 hm
          refine js (jv ?_)
          obtain rfl := sj hm
          exact ji () (h50) (sE Y) (fun w hh => hh)
         intro l_13 hj
         have h58 := hj
         replace hm := h57
         refine ja (je (jh Y Y ?_))
         obtain ⟨t60, h85, hm⟩ := bindO hm
         refine JB h85 Y Y Y (jm Y Y (ju ?_))
         obtain rfl := sj hm
         refine ja ?_
         exact jA _ () Y (h58) (sE Y) (fun w hh => hh)
        replace hm := ifN h55 hm
        refine jQ (jk (jk (jC ?_)))
        obtain rfl := sj hm
        have hbo := h51 _ Y
        subst hbo
        exact ji () (h50) (sE Y) (fun w hh => hh)
       intro l_10 hj
       have h49 := hj
       replace hm := h48
       refine jv ?_
       obtain rfl := sj hm
       exact ji () (h49) (sE Y) (fun w hh => hh)
      intro l_5 hj
      have h26 := hj
      replace hm := h25
      refine ja (je (jh Y Y ?_))
      obtain ⟨t27, h86, hm⟩ := bindO hm
      refine JB h86 Y Y Y (jm Y Y (ju ?_))
      obtain rfl := sj hm
      refine ja ?_
      exact jA _ () Y (h26) (sE Y) (fun w hh => hh)
     replace hm := ifE h23 hm
     refine jQ (jk (jk (jC ?_)))
     obtain rfl := sj hm
     have hbo := h22 _ Y
     subst hbo
     exact ji () (h21) (sE Y) (fun w hh => hh)
    intro l_3 hj
    have h20 := hj
    replace hm := h19
    refine ja (je (jh Y Y (jh Y Y ?_)))
    refine qo RwH [(⟨L.q, L.n, L.cap, L.sp⟩ : VL)] (ps := [(0, _)]) (cells := [_]) (fun w => runUnderlying41 w) (fun w => sizeOf22 w) (fun w => zeroValue22 w) Y Y Y Y Y Y Y Y (fun L_7 h87 => ?_)
    refine Y8 (E2 := 3) RI 1 (Y : _ = ([[]] : List (List Int))) (fun h88 => ?_)
    refine kC (S' := [_]) (vs' := [_, _, _, _]) [0] [0, 3, 1, 2] 0 Y Y Y Y ?_
    refine Zn RI (l' := [o_1]) 0 L.n L.cap h88 h20 Y Y (fun h89 => ?_)
    have h90 : DOK RI [o_1] [(⟨L.q, L.n, L.cap, L.sp⟩ : VL)] := h89
    refine jaf (S' := [_]) (vs' := [⟨22, RwH.enc [(⟨L.q, L.n, L.cap, L.sp⟩ : VL)], L_7.sp, L_7.q, dbl 3 RI [o_1] [(⟨L.q, L.n, L.cap, L.sp⟩ : VL)]⟩, ⟨22, RwH.enc l.rs, l.v.sp, l.v.q, dbl 3 RI t12 l.rs⟩, ⟨22, RwH.enc l_2.rs, l_2.v.sp, l_2.v.q, dbl 3 RI s.out6 l_2.rs⟩]) [0] [0, 1, 2] 0 (by decide) (by decide) Y Y Y ?_
    obtain ⟨t101, h91, hm⟩ := bindO hm
    refine zE RwH 2 (appcL h91 (h13).len (h90).len) underlying41 jao Y Y Y Y Y h12 Y Y (vlen RwH h87 Y) (AOK.q (vne h87)) (fun w hh => (hh.vsegA 0 Y h87)) Y (fun L_8 h92 _ => ?_)
    refine kC (S' := [_]) (vs' := [_, _, _]) [0] [0, 1, 2] 0 Y Y Y Y (kC (S' := [_]) (vs' := [_, _, _]) [0] [2, 0, 1] 0 Y Y Y Y ?_)
    refine ZL RI h13 h90 (appcO h91).1.symm (fun h93 => ?_)
    refine jm Y Y (ju (jv (ja (je (jh Y Y ?_)))))
    obtain ⟨t18, h94, hm⟩ := bindO hm
    refine JB h94 Y Y Y (jm Y Y (ju ?_))
    obtain rfl := sj hm
    refine ja ?_
    exact jA _ (⟨⟨L_8.q, L_8.n, L_8.cap, L_8.sp⟩, (l_2.rs ++ [(⟨L.q, L.n, L.cap, L.sp⟩ : VL)])⟩) Y (⟨h92, h93⟩) (sE Y) (hsE [0] [1, 0] 0 Y Y Y Y)
   replace hm := ifE h15 hm
   refine jQ (jk (jk (jC ?_)))
   obtain rfl := sj hm
   have hbo := h14 _ Y
   subst hbo
   exact ji l_2 (⟨h12, h13⟩) (sE Y) (hsE [0] [1] 0 Y Y Y Y)
  intro l_1 hj
  obtain ⟨h10, h11⟩ := hj
  replace hm := h9
  refine ja (jr (jh Y Y (jm Y Y (jp (jw ?_)))))
  obtain rfl := sj hm
  refine jn Y (fun w hh => (.tmp Y .nil)) (fun w hh => ⟨l_1, rfl, ⟨h10, h11⟩, hh.se [] [0] 3 Y Y Y rfl⟩)
structure zb where
  n6 : Int
  a7 : Int
def qi (t10 : (List (List Int))) (c0 : Channel) (s : zb) : Option (zb ⊕ Int) :=
 (ix t10 c0.tides).bind fun t15 =>
 if s.a7 < (t15.length : Int) then
 ((ix t10 c0.tides).bind fun t25 =>
 (ix t25 s.a7).bind fun t28 =>
 (addc s.n6 t28).bind fun t30 =>
 (addc s.a7 1).bind fun t20 =>
 some (.inl (⟨t30, t20⟩ : zb))) else
 (some (.inr s.n6))
def ya (c0 : Channel) (set1 : Int) : Option Int :=
 (yt c0 set1).bind fun t10 =>
 (iterM FU (qi t10 c0) (⟨0, 0⟩ : zb)).bind fun o =>
 some o
theorem YK (c0 : Channel) (set1 : Int) (qa0 : Option Addr) (na0 ca0 : Nat) (qa1 : Option Addr) (na1 ca1 : Nat) (qa2 : Option Addr) (na2 ca2 : Nat) (w : World) (hw : HV w (keys [] []) [] [] [(aB qa0, aO qa0, RI.enc c0.fords), (aB qa1, aO qa1, RSa.enc c0.sands), (aB qa2, aO qa2, RSi.enc c0.sights)] w) (hna0 : c0.fords.length = na0) (hqa0 : AOK na0 qa0) (hla0 : na0 ≤ ca0) (hna1 : c0.sands.length = na1) (hqa1 : AOK na1 qa1) (hla1 : na1 ≤ ca1) (hna2 : c0.sights.length = na2) (hqa2 : AOK na2 qa2) (hla2 : na2 ≤ ca2) {res : Int} (hm : ya c0 set1 = some res) :
    Calls Tryz.prog 23 #[.agg #[.int .i64 c0.cells, .int .i64 c0.tides, .slice qa0 na0 ca0, .slice qa1 na1 ca1, .slice qa2 na2 ca2], .int .i64 set1] w (fun en w' => ∃ l : Unit, en = .returned (.int .i64 res) ∧ (True) ∧ HV w (keys [] []) [] [] [] w') := by
  unfold ya at hm
  refine qU func23 Y ntmps23 Y (e := [(0, _), (1, _)]) Y hw (jr ?_)
  refine jI Y Y (fun b h1 => ?_)
  refine jm Y Y (qe (zT [_, _, _, _, _] 0 isAgg33 sizeOf33 Y Y Y Y (jh Y Y ?_)))
  obtain ⟨t10, h2, hm⟩ := bindO hm
  refine jd [] [] Y Y Y Y Y Y Y call89 (fun w hh => Qu c0 set1 qa0 na0 ca0 qa1 na1 ca1 qa2 na2 ca2 w (HV.callee (S0 := []) (vs0 := []) hh (roR hh 0 Y (roR hh 1 Y (roR hh 2 Y roN)))) hna0 hqa0 hla0 hna1 hqa1 hla1 hna2 hqa2 hla2 h2) (fun l h3 => ?_)
  obtain ⟨h4, h5⟩ := h3
  refine kC (S' := [_]) (vs' := [_]) [0] [0] 0 Y Y Y Y (jm Y Y (qe (jm Y Y (jp (jj (jr (jm Y Y ?_)))))))
  refine jp ?_
  obtain ⟨o, h6, h7⟩ := bindO hm
  refine jE (ι := Unit) (fun l_1 => True) (fun l_1 => [(6, .int .i64 o)]) (fun l_1 => [kc b #[.int .i64 c0.cells, .int .i64 c0.tides, .slice qa0 na0 ca0, .slice qa1 na1 ca1, .slice qa2 na2 ca2] 33]) (fun l_1 => []) ?_ ?_
  ·replace hm := h6
   refine jl ?_
   refine jG (ι := Unit) hm (fun s l_2 => True) (fun s l_2 => [(2, ptr b 0), (5, sL l.v), (6, .int .i64 s.n6), (7, .int .i64 s.a7)]) (fun s l_2 => [kc b #[.int .i64 c0.cells, .int .i64 c0.tides, .slice qa0 na0 ca0, .slice qa1 na1 ca1, .slice qa2 na2 ca2] 33]) (fun s l_2 => [⟨22, RwH.enc l.rs, l.v.sp, l.v.q, dbl 3 RI t10 l.rs⟩]) () (trivial) (sE Y) (fun w hh => hh) (fun s l_2 r hpl hm h8 => ?_)
   unfold qi at hm
   refine jj (jr (jh Y Y (jh Y Y (qC 1 runUnderlying33 Y sizeOf3 Y Y (qf 0 isAgg3 Y Y Y Y ?_)))))
   obtain ⟨t15, h9, hm⟩ := bindO hm
   obtain ⟨L, h10, h11⟩ := (h5).row h9
   refine jc Y Y Y (fun w _ => qV h10 (runUnderlying41 w) (sizeOf22 w) Y Y (vlen RwH h4 Y) (vne h4)) (jc Y Y Y (fun w hh => kA RwH 0 h10 (isAgg22 w) Y (hh.vseg 0 Y h4) Y (Nat.add_zero _).symm) (jc Y Y Y (fun w _ => JO (vlen RI h11 Y) (runUnderlying22 w) Y) (JC Y Y Y (jp ?_))))
   refine jt Y (fun h12 => ?_) (fun h12 => ?_)
   ·replace hm := ifD h12 hm
    refine js (ja (jj (jl (je (jh Y Y (jh Y Y (qC 1 runUnderlying33 Y sizeOf3 Y Y ?_)))))))
    refine qf 0 isAgg3 Y Y Y Y ?_
    obtain ⟨t25, h13, hm⟩ := bindO hm
    obtain ⟨L_1, h14, h15⟩ := (h5).row h13
    refine jc Y Y Y (fun w _ => qV h14 (runUnderlying41 w) (sizeOf22 w) Y Y (vlen RwH h4 Y) (vne h4)) (jc Y Y Y (fun w hh => kA RwH 0 h14 (isAgg22 w) Y (hh.vseg 0 Y h4) Y (Nat.add_zero _).symm) (jh Y Y ?_))
    obtain ⟨t28, h16, hm⟩ := bindO hm
    refine jc Y Y Y (fun w _ => qV h16 (runUnderlying22 w) (sizeOf3 w) Y Y (vlen RI h15 Y) (vne h15)) (jc Y Y Y (fun w hh => kA RI 0 h16 (isAgg3 w) Y (hh.dseg 0 Y h13 h14 h15) Y (Nat.add_zero _).symm) ?_)
    obtain ⟨t30, h17, hm⟩ := bindO hm
    refine JB h17 Y Y Y (jm Y Y (ju (jv (ja (je (jh Y Y ?_))))))
    obtain ⟨t20, h18, hm⟩ := bindO hm
    refine JB h18 Y Y Y (jm Y Y (ju ?_))
    obtain rfl := sj hm
    refine ja ?_
    exact jA _ () Y (trivial) (sE Y) (fun w hh => hh)
   replace hm := ifE h12 hm
   refine jQ (jk (jk (jC ?_)))
   obtain rfl := sj hm
   have hbo := h8 _ Y
   subst hbo
   exact ji () (trivial) (sE Y) (hsE [0] [] 0 Y Y Y Y)
  intro l_1 hj
  replace hm := h7
  refine ja (jr (jh Y Y (jm Y Y (jp (jw ?_)))))
  obtain rfl := sj hm
  refine jn Y (fun w hh => (.tmp Y .nil)) (fun w hh => ⟨(), rfl, trivial, hh.se [] [] 3 Y Y Y rfl⟩)
structure ye where
  k6 : Int
  out5 : (List (List Bool))
structure y4 where
  a7 : Int
  out5 : (List (List Bool))
structure zZ where
  b8 : Int
  out5 : (List (List Bool))
def qv (t10 : (List (List Int))) (s : ye) (c0 : Channel) (s_1 : y4) (s_2 : zZ) : Option (zZ ⊕ (List (List Bool))) :=
 (if s_2.b8 < (t10.length : Int) then
 (some (decide (s.k6 < c0.tides))) else
 (some false)).bind fun o_5 =>
 if o_5 = true then
 (((ix s_2.out5 s.k6).bind fun t68 =>
 (ix s_2.out5 s.k6).bind fun t73 =>
 (ix t73 s_1.a7).bind fun t76 =>
 if t76 = true then
 ((ix t68 s_1.a7).bind fun t100 =>
 (some (t68.set (Int.toNat s_1.a7) true)).bind fun row_1 =>
 (some (s_2.out5.set (Int.toNat s.k6) row_1)).bind fun out5_2 =>
 some out5_2) else
 ((addc s.k6 1).bind fun t81 =>
 (ix s_2.out5 t81).bind fun t82 =>
 (ix t82 s_2.b8).bind fun t85 =>
 if t85 = true then
 ((ix t10 s_1.a7).bind fun t91 =>
 (ix t10 s_2.b8).bind fun t95 =>
 (yT c0 t91 t95).bind fun t97 =>
 (ix t68 s_1.a7).bind fun t100_1 =>
 (some (t68.set (Int.toNat s_1.a7) t97)).bind fun row_2 =>
 (some (s_2.out5.set (Int.toNat s.k6) row_2)).bind fun out5_3 =>
 some out5_3) else
 ((ix t68 s_1.a7).bind fun t100_2 =>
 (some (t68.set (Int.toNat s_1.a7) false)).bind fun row_3 =>
 (some (s_2.out5.set (Int.toNat s.k6) row_3)).bind fun out5_4 =>
 some out5_4))).bind fun o_6 =>
 (addc s_2.b8 1).bind fun t65 =>
 some (.inl (⟨t65, o_6⟩ : zZ))) else
 (some (.inr s_2.out5))
def q6 (t10 : (List (List Int))) (t14 : (List (List Int))) (s : ye) (c0 : Channel) (s_1 : y4) : Option (y4 ⊕ (List (List Bool))) :=
 if s_1.a7 < (t10.length : Int) then
 (((ix t14 s.k6).bind fun t38 =>
 (ix t38 s_1.a7).bind fun t41 =>
 if t41 = 0 then
 (some s_1.out5) else
 ((if s.k6 = c0.tides then
 ((ix s_1.out5 s.k6).bind fun t50 =>
 (ix t50 s_1.a7).bind fun t53 =>
 (some (t50.set (Int.toNat s_1.a7) true)).bind fun row =>
 (some (s_1.out5.set (Int.toNat s.k6) row)).bind fun out5_1 =>
 some out5_1) else
 (some s_1.out5)).bind fun o_3 =>
 (iterM FU (qv t10 s c0 s_1) (⟨0, o_3⟩ : zZ)).bind fun o_4 =>
 some o_4)).bind fun o_2 =>
 (addc s_1.a7 1).bind fun t35 =>
 some (.inl (⟨t35, o_2⟩ : y4))) else
 (some (.inr s_1.out5))
def yV (t10 : (List (List Int))) (t14 : (List (List Int))) (c0 : Channel) (s : ye) : Option (ye ⊕ (List (List Bool))) :=
 if 0 ≤ s.k6 then
 ((makec 1 false (t10.length : Int) (t10.length : Int)).bind fun t28 =>
 (ix s.out5 s.k6).bind fun t29 =>
 (some (s.out5.set (Int.toNat s.k6) t28)).bind fun out5 =>
 (iterM FU (q6 t10 t14 s c0) (⟨0, out5⟩ : y4)).bind fun o_1 =>
 (subc s.k6 1).bind fun t23 =>
 some (.inl (⟨t23, o_1⟩ : ye))) else
 (some (.inr s.out5))
def zn (c0 : Channel) : Option (List (List Bool)) :=
 (kX c0).bind fun t10 =>
 (kf c0).bind fun t13 =>
 (yt c0 t13).bind fun t14 =>
 (makec 24 ([] : (List Bool)) (t14.length : Int) (t14.length : Int)).bind fun t17 =>
 (iterM FU (yV t10 t14 c0) (⟨c0.tides, t17⟩ : ye)).bind fun o =>
 some o
theorem QW (c0 : Channel) (qa0 : Option Addr) (na0 ca0 : Nat) (qa1 : Option Addr) (na1 ca1 : Nat) (qa2 : Option Addr) (na2 ca2 : Nat) (w : World) (hw : HV w (keys [] []) [] [] [(aB qa0, aO qa0, RI.enc c0.fords), (aB qa1, aO qa1, RSa.enc c0.sands), (aB qa2, aO qa2, RSi.enc c0.sights)] w) (hna0 : c0.fords.length = na0) (hqa0 : AOK na0 qa0) (hla0 : na0 ≤ ca0) (hna1 : c0.sands.length = na1) (hqa1 : AOK na1 qa1) (hla1 : na1 ≤ ca1) (hna2 : c0.sights.length = na2) (hqa2 : AOK na2 qa2) (hla2 : na2 ≤ ca2) {res : (List (List Bool))} (hm : zn c0 = some res) :
    Calls Tryz.prog 91 #[.agg #[.int .i64 c0.cells, .int .i64 c0.tides, .slice qa0 na0 ca0, .slice qa1 na1 ca1, .slice qa2 na2 ca2]] w (fun en w' => ∃ l : DL, en = .returned (sL l.v) ∧ (VOK 1 l.v.n l.v.cap (RwH.enc l.rs) l.v.sp l.v.q ∧ DOK RB res l.rs) ∧ HV w (keys [] []) [] [⟨114, RwH.enc l.rs, l.v.sp, l.v.q, dbl 4 RB res l.rs⟩] [] w') := by
  unfold zn at hm
  refine qU func91 Y ntmps91 Y (e := [(0, _)]) Y hw (jr ?_)
  refine jI Y Y (fun b h3 => ?_)
  refine jc Y Y Y (fun _ _ => kd Y) (qe (zT [_, _, _, _, _] 0 isAgg33 sizeOf33 Y Y Y Y ?_))
  obtain ⟨t10, h4, hm⟩ := bindO hm
  refine jd [] [] Y Y Y Y Y Y Y call90 (fun w hh => z1 c0 qa0 na0 ca0 qa1 na1 ca1 qa2 na2 ca2 w (HV.callee (S0 := []) (vs0 := []) hh (roR hh 0 Y (roR hh 1 Y (roR hh 2 Y roN)))) hna0 hqa0 hla0 hna1 hqa1 hla1 hna2 hqa2 hla2 h4) (fun l h5 => ?_)
  obtain ⟨h6, h7⟩ := h5
  refine kC (S' := [_]) (vs' := [_]) [0] [0] 0 Y Y Y Y (jm Y Y (jp (jj (kn none (.hoist 0 (.hoist 1 (.one 2 (.one 3 (.free 4 .done))))) _ Y (by decide +kernel) (fun w k hh => hh.draw k) (fun w hh => hh) (jy Y Y Y Y (fun w hh => jN (vs := [_, _, _, _, _]) (isAgg33 w) (sizeOf33 w) Y (hh.cells 0 Y Y)) (jy Y Y Y Y (fun w hh => jN (vs := [_, _, _, _, _]) (isAgg33 w) (sizeOf33 w) Y (hh.cells 0 Y Y)) (jK Y ?_)))))))
  obtain ⟨t13, h8, hm⟩ := bindO hm
  refine jd [] [] Y Y Y Y Y Y Y call24 (fun w hh => Ke c0 qa0 na0 ca0 qa1 na1 ca1 qa2 na2 ca2 w (HV.callee (S0 := []) (vs0 := []) hh (roR hh 0 Y (roR hh 1 Y (roR hh 2 Y roN)))) hna0 hqa0 hla0 hna1 hqa1 hla1 hna2 hqa2 hla2 h8) (fun l_1 h9 => ?_)
  refine jq (fun w hh => hh) (jK Y ?_)
  obtain ⟨t14, h10, hm⟩ := bindO hm
  refine jd [] [] Y Y Y Y Y Y Y call89 (fun w hh => Qu c0 t13 qa0 na0 ca0 qa1 na1 ca1 qa2 na2 ca2 w (HV.callee (S0 := []) (vs0 := []) hh (roR hh 0 Y (roR hh 1 Y (roR hh 2 Y roN)))) hna0 hqa0 hla0 hna1 hqa1 hla1 hna2 hqa2 hla2 h10) (fun l_2 h11 => ?_)
  obtain ⟨h12, h13⟩ := h11
  refine kC (S' := [_]) (vs' := [_, _]) [0] [0, 1] 0 Y Y Y Y (jq (hsE [0] [1] 0 Y Y Y Y) (jo Y Y Y Y (fun _ _ => kG Y) (jO (ja (jr (jh Y Y (jc Y Y Y (fun w _ => JO (Eq.trans (h13).len (vlen RwH h12 Y)) (runUnderlying41 w) Y) ?_)))))))
  obtain ⟨t17, h14, hm⟩ := bindO hm
  refine Q9 RwH vl0 (makecL vl0 h14) underlying143 ja4 Y Y Y Y Y (fun L h15 => ?_)
  refine Y8 (E2 := 4) RB (Int.toNat (t14.length : Int)) (makecO h14).1.symm (fun h16 => ?_)
  refine jm Y Y (jp (jj (jr (qC 1 runUnderlying33 Y sizeOf3 Y Y (qf 0 isAgg3 Y Y Y Y (jm Y Y (jp ?_)))))))
  obtain ⟨o, h17, h18⟩ := bindO hm
  refine jE (ι := DL) (fun l_3 => VOK 1 l_3.v.n l_3.v.cap (RwH.enc l_3.rs) l_3.v.sp l_3.v.q ∧ DOK RB o l_3.rs) (fun l_3 => [(5, sL l_3.v)]) (fun l_3 => [kc b #[.int .i64 c0.cells, .int .i64 c0.tides, .slice qa0 na0 ca0, .slice qa1 na1 ca1, .slice qa2 na2 ca2] 33]) (fun l_3 => [⟨114, RwH.enc l_3.rs, l_3.v.sp, l_3.v.q, dbl 4 RB o l_3.rs⟩]) ?_ ?_
  ·replace hm := h17
   refine jl ?_
   refine jG (ι := DL) hm (fun s l_4 => VOK 1 l_4.v.n l_4.v.cap (RwH.enc l_4.rs) l_4.v.sp l_4.v.q ∧ DOK RB s.out5 l_4.rs) (fun s l_4 => [(1, ptr b 0), (3, sL l.v), (4, sL l_2.v), (5, sL l_4.v), (6, .int .i64 s.k6)]) (fun s l_4 => [kc b #[.int .i64 c0.cells, .int .i64 c0.tides, .slice qa0 na0 ca0, .slice qa1 na1 ca1, .slice qa2 na2 ca2] 33]) (fun s l_4 => [⟨22, RwH.enc l.rs, l.v.sp, l.v.q, dbl 3 RI t10 l.rs⟩, ⟨22, RwH.enc l_2.rs, l_2.v.sp, l_2.v.q, dbl 3 RI t14 l_2.rs⟩, ⟨114, RwH.enc l_4.rs, l_4.v.sp, l_4.v.q, dbl 4 RB s.out5 l_4.rs⟩]) (⟨⟨L.q, L.n, L.cap, L.sp⟩, (List.replicate (Int.toNat (t14.length : Int)) vl0)⟩) (⟨h15, h16⟩) (sE Y) (hsE [0] [2, 1, 0] 0 Y Y Y Y) (fun s l_4 r hpl hm h23 => ?_)
   obtain ⟨h21, h22⟩ := hpl
   unfold yV at hm
   refine jj (jr (jh Y Y (jc Y Y Y (fun _ _ => Y1 Y Y) (jp ?_))))
   refine jt Y (fun h24 => ?_) (fun h24 => ?_)
   ·replace hm := ifD h24 hm
    refine js (ja (jj (jl (jr (jh Y Y (jh Y Y (jh Y Y ?_)))))))
    refine jc Y Y Y (fun w _ => JO (Eq.trans (h7).len (vlen RwH h6 Y)) (runUnderlying41 w) Y) ?_
    obtain ⟨t28, h25, hm⟩ := bindO hm
    refine Q9 RB false h25 underlying114 jbx Y Y Y Y Y (fun L_1 h26 => ?_)
    obtain ⟨t29, h27, hm⟩ := bindO hm
    obtain ⟨L_2, h28, h29⟩ := (h22).row h27
    refine jc Y Y Y (fun w _ => qV h28 (runUnderlying143 w) (sizeOf114 w) Y Y (vlen RwH h21 Y) (vne h21)) ?_
    obtain ⟨out5, hout5, hm⟩ := bindO hm
    refine jaa RwH 3 0 (⟨L_1.q, L_1.n, L_1.cap, L_1.sp⟩ : VL) (fun w => sizeOf114 w) Y Y Y Y h21 Y (Nat.add_zero _).symm Y h28 Y Y Y (fun h30 => ?_)
    refine kC (S' := [_]) (vs' := [_, _, _, _]) [0] [0, 1, 2, 3] 0 Y Y Y Y (kC (S' := [_]) (vs' := [_, _, _, _]) [0] [3, 0, 1, 2] 0 Y Y Y Y ?_)
    refine Zn RB s.k6 L_1.n L_1.cap h22 h26 h27 (Option.some.inj hout5) (fun h31 => ?_)
    refine qe (jm Y Y (jp ?_))
    obtain ⟨o_1, h32, h33⟩ := bindO hm
    refine jE (ι := Unit) (fun l_5 => DOK RB o_1 (l_4.rs.set (Int.toNat s.k6) (⟨L_1.q, L_1.n, L_1.cap, L_1.sp⟩ : VL))) (fun l_5 => [(1, ptr b 0), (3, sL l.v), (4, sL l_2.v), (5, sL l_4.v), (6, .int .i64 s.k6)]) (fun l_5 => [kc b #[.int .i64 c0.cells, .int .i64 c0.tides, .slice qa0 na0 ca0, .slice qa1 na1 ca1, .slice qa2 na2 ca2] 33]) (fun l_5 => [⟨22, RwH.enc l.rs, l.v.sp, l.v.q, dbl 3 RI t10 l.rs⟩, ⟨22, RwH.enc l_2.rs, l_2.v.sp, l_2.v.q, dbl 3 RI t14 l_2.rs⟩, ⟨114, RwH.enc (l_4.rs.set (Int.toNat s.k6) (⟨L_1.q, L_1.n, L_1.cap, L_1.sp⟩ : VL)), l_4.v.sp, l_4.v.q, dbl 4 RB o_1 (l_4.rs.set (Int.toNat s.k6) (⟨L_1.q, L_1.n, L_1.cap, L_1.sp⟩ : VL))⟩]) ?_ ?_
    ·replace hm := h32
     refine jl ?_
     refine jG (ι := Unit) hm (fun s_1 l_6 => DOK RB s_1.out5 (l_4.rs.set (Int.toNat s.k6) (⟨L_1.q, L_1.n, L_1.cap, L_1.sp⟩ : VL))) (fun s_1 l_6 => [(1, ptr b 0), (3, sL l.v), (4, sL l_2.v), (5, sL l_4.v), (6, .int .i64 s.k6), (7, .int .i64 s_1.a7)]) (fun s_1 l_6 => [kc b #[.int .i64 c0.cells, .int .i64 c0.tides, .slice qa0 na0 ca0, .slice qa1 na1 ca1, .slice qa2 na2 ca2] 33]) (fun s_1 l_6 => [⟨22, RwH.enc l.rs, l.v.sp, l.v.q, dbl 3 RI t10 l.rs⟩, ⟨22, RwH.enc l_2.rs, l_2.v.sp, l_2.v.q, dbl 3 RI t14 l_2.rs⟩, ⟨114, RwH.enc (l_4.rs.set (Int.toNat s.k6) (⟨L_1.q, L_1.n, L_1.cap, L_1.sp⟩ : VL)), l_4.v.sp, l_4.v.q, dbl 4 RB s_1.out5 (l_4.rs.set (Int.toNat s.k6) (⟨L_1.q, L_1.n, L_1.cap, L_1.sp⟩ : VL))⟩]) () (h31) (sE Y) (hsE [0] [1, 2, 0] 0 Y Y Y Y) (fun s_1 l_6 r_1 hpl hm h36 => ?_)
     have h35 := hpl
     unfold q6 at hm
     refine jj (jr (jh Y Y (jh Y Y (jc Y Y Y (fun w _ => JO (Eq.trans (h7).len (vlen RwH h6 Y)) (runUnderlying41 w) Y) (JC Y Y Y (jp ?_))))))
     refine jt Y (fun h37 => ?_) (fun h37 => ?_)
     ·replace hm := ifD h37 hm
      refine js (ja (jj ?_))
      obtain ⟨o_2, h38, h39⟩ := bindO hm
      refine jE (ι := Unit) (fun l_7 => DOK RB o_2 (l_4.rs.set (Int.toNat s.k6) (⟨L_1.q, L_1.n, L_1.cap, L_1.sp⟩ : VL))) (fun l_7 => [(1, ptr b 0), (3, sL l.v), (4, sL l_2.v), (5, sL l_4.v), (6, .int .i64 s.k6), (7, .int .i64 s_1.a7)]) (fun l_7 => [kc b #[.int .i64 c0.cells, .int .i64 c0.tides, .slice qa0 na0 ca0, .slice qa1 na1 ca1, .slice qa2 na2 ca2] 33]) (fun l_7 => [⟨22, RwH.enc l.rs, l.v.sp, l.v.q, dbl 3 RI t10 l.rs⟩, ⟨22, RwH.enc l_2.rs, l_2.v.sp, l_2.v.q, dbl 3 RI t14 l_2.rs⟩, ⟨114, RwH.enc (l_4.rs.set (Int.toNat s.k6) (⟨L_1.q, L_1.n, L_1.cap, L_1.sp⟩ : VL)), l_4.v.sp, l_4.v.q, dbl 4 RB o_2 (l_4.rs.set (Int.toNat s.k6) (⟨L_1.q, L_1.n, L_1.cap, L_1.sp⟩ : VL))⟩]) ?_ ?_
      ·replace hm := h38
       refine jl (jj (jr (jh Y Y (jh Y Y ?_))))
       obtain ⟨t38, h41, hm⟩ := bindO hm
       obtain ⟨L_3, h42, h43⟩ := (h13).row h41
       refine jc Y Y Y (fun w _ => qV h42 (runUnderlying41 w) (sizeOf22 w) Y Y (vlen RwH h12 Y) (vne h12)) (jc Y Y Y (fun w hh => kA RwH 0 h42 (isAgg22 w) Y (hh.vseg 1 Y h12) Y (Nat.add_zero _).symm) (jh Y Y ?_))
       obtain ⟨t41, h44, hm⟩ := bindO hm
       refine jc Y Y Y (fun w _ => qV h44 (runUnderlying22 w) (sizeOf3 w) Y Y (vlen RI h43 Y) (vne h43)) (jc Y Y Y (fun w hh => kA RI 0 h44 (isAgg3 w) Y (hh.dseg 1 Y h41 h42 h43) Y (Nat.add_zero _).symm) (jc Y Y Y (fun _ _ => zf Y Y) (jp ?_)))
       refine jt Y (fun h45 => ?_) (fun h45 => ?_)
       ·replace hm := ifD h45 hm
        refine jQ (jk (jC ?_))
        obtain rfl := sj hm
        exact ji () (h35) (sE Y) (fun w hh => hh)
       replace hm := ifE h45 hm
       refine js (ja (jj ?_))
       obtain ⟨o_3, h46, h47⟩ := bindO hm
       refine jE (ι := Unit) (fun l_8 => DOK RB o_3 (l_4.rs.set (Int.toNat s.k6) (⟨L_1.q, L_1.n, L_1.cap, L_1.sp⟩ : VL))) (fun l_8 => [(1, ptr b 0), (3, sL l.v), (4, sL l_2.v), (5, sL l_4.v), (6, .int .i64 s.k6), (7, .int .i64 s_1.a7)]) (fun l_8 => [kc b #[.int .i64 c0.cells, .int .i64 c0.tides, .slice qa0 na0 ca0, .slice qa1 na1 ca1, .slice qa2 na2 ca2] 33]) (fun l_8 => [⟨22, RwH.enc l.rs, l.v.sp, l.v.q, dbl 3 RI t10 l.rs⟩, ⟨22, RwH.enc l_2.rs, l_2.v.sp, l_2.v.q, dbl 3 RI t14 l_2.rs⟩, ⟨114, RwH.enc (l_4.rs.set (Int.toNat s.k6) (⟨L_1.q, L_1.n, L_1.cap, L_1.sp⟩ : VL)), l_4.v.sp, l_4.v.q, dbl 4 RB o_3 (l_4.rs.set (Int.toNat s.k6) (⟨L_1.q, L_1.n, L_1.cap, L_1.sp⟩ : VL))⟩]) ?_ ?_
       ·replace hm := h46
        refine jr (jh Y Y (qC 1 runUnderlying33 Y sizeOf3 Y Y (qf 0 isAgg3 Y Y Y Y (jc Y Y Y (fun _ _ => zf Y Y) (jp ?_)))))
        refine jt Y (fun h49 => ?_) (fun h49 => ?_)
        ·replace hm := ifD h49 hm
         refine je (jh Y Y (jh Y Y ?_))
         obtain ⟨t50, h50, hm⟩ := bindO hm
         obtain ⟨L_4, h51, h52⟩ := (h35).row h50
         refine jc Y Y Y (fun w _ => qV h51 (runUnderlying143 w) (sizeOf114 w) Y Y (vlen RwH h30 Y) (vne h30)) (jc Y Y Y (fun w hh => kA RwH 0 h51 (isAgg114 w) Y (hh.vseg 2 Y h30) Y (Nat.add_zero _).symm) (jh Y Y ?_))
         obtain ⟨t53, h53, hm⟩ := bindO hm
         refine jc Y Y Y (fun w _ => qV h53 (runUnderlying114 w) (sizeOf4 w) Y Y (vlen RB h52 Y) (vne h52)) ?_
         obtain ⟨row, hrow, hm⟩ := bindO hm
         obtain ⟨out5_1, hout5_1, hm⟩ := bindO hm
         refine kC (S' := [_]) (vs' := [_, _, _]) [0] [2, 0, 1] 0 Y Y Y Y ?_
         refine ZV RB s.k6 h35 h50 h51 (fun _ => ?_)
         refine jaa RB 1 0 true (fun w => sizeOf4 w) Y Y Y Y h52 Y (Nat.add_zero _).symm Y h53 Y Y (Option.some.inj hrow) (fun h54 => ?_)
         refine kC (S' := [_]) (vs' := [_, _, _, _]) [0] [0, 1, 2, 3] 0 Y Y Y Y ?_
         refine ZN RB s.k6 h35 h50 h51 h54 (Option.some.inj hout5_1) (fun h55 => ?_)
         refine ju ?_
         obtain rfl := sj hm
         exact ji () (h55) (sE Y) (hsE [0] [1, 2, 0] 0 Y Y Y Y)
        replace hm := ifE h49 hm
        refine js ?_
        obtain rfl := sj hm
        exact ji () (h35) (sE Y) (fun w hh => hh)
       intro l_8 hj
       have h48 := hj
       replace hm := h47
       refine ja (jr (jm Y Y (jp ?_)))
       obtain ⟨o_4, h56, h57⟩ := bindO hm
       refine jE (ι := Unit) (fun l_9 => DOK RB o_4 (l_4.rs.set (Int.toNat s.k6) (⟨L_1.q, L_1.n, L_1.cap, L_1.sp⟩ : VL))) (fun l_9 => [(1, ptr b 0), (3, sL l.v), (4, sL l_2.v), (5, sL l_4.v), (6, .int .i64 s.k6), (7, .int .i64 s_1.a7)]) (fun l_9 => [kc b #[.int .i64 c0.cells, .int .i64 c0.tides, .slice qa0 na0 ca0, .slice qa1 na1 ca1, .slice qa2 na2 ca2] 33]) (fun l_9 => [⟨22, RwH.enc l.rs, l.v.sp, l.v.q, dbl 3 RI t10 l.rs⟩, ⟨22, RwH.enc l_2.rs, l_2.v.sp, l_2.v.q, dbl 3 RI t14 l_2.rs⟩, ⟨114, RwH.enc (l_4.rs.set (Int.toNat s.k6) (⟨L_1.q, L_1.n, L_1.cap, L_1.sp⟩ : VL)), l_4.v.sp, l_4.v.q, dbl 4 RB o_4 (l_4.rs.set (Int.toNat s.k6) (⟨L_1.q, L_1.n, L_1.cap, L_1.sp⟩ : VL))⟩]) ?_ ?_
       ·replace hm := h56
        refine jl ?_
        refine jG (ι := Unit) hm (fun s_2 l_10 => DOK RB s_2.out5 (l_4.rs.set (Int.toNat s.k6) (⟨L_1.q, L_1.n, L_1.cap, L_1.sp⟩ : VL))) (fun s_2 l_10 => [(1, ptr b 0), (3, sL l.v), (4, sL l_2.v), (5, sL l_4.v), (6, .int .i64 s.k6), (7, .int .i64 s_1.a7), (8, .int .i64 s_2.b8)]) (fun s_2 l_10 => [kc b #[.int .i64 c0.cells, .int .i64 c0.tides, .slice qa0 na0 ca0, .slice qa1 na1 ca1, .slice qa2 na2 ca2] 33]) (fun s_2 l_10 => [⟨22, RwH.enc l.rs, l.v.sp, l.v.q, dbl 3 RI t10 l.rs⟩, ⟨22, RwH.enc l_2.rs, l_2.v.sp, l_2.v.q, dbl 3 RI t14 l_2.rs⟩, ⟨114, RwH.enc (l_4.rs.set (Int.toNat s.k6) (⟨L_1.q, L_1.n, L_1.cap, L_1.sp⟩ : VL)), l_4.v.sp, l_4.v.q, dbl 4 RB s_2.out5 (l_4.rs.set (Int.toNat s.k6) (⟨L_1.q, L_1.n, L_1.cap, L_1.sp⟩ : VL))⟩]) () (h48) (sE Y) (fun w hh => hh) (fun s_2 l_10 r_2 hpl hm h60 => ?_)
        have h59 := hpl
        unfold qv at hm
        refine jj (jj ?_)
        obtain ⟨o_5, h61, h62⟩ := bindO hm
        refine jE (ι := Unit) (fun l_11 => True) (fun l_11 => [(1, ptr b 0), (3, sL l.v), (4, sL l_2.v), (5, sL l_4.v), (6, .int .i64 s.k6), (7, .int .i64 s_1.a7), (8, .int .i64 s_2.b8), (63, .bool o_5)]) (fun l_11 => [kc b #[.int .i64 c0.cells, .int .i64 c0.tides, .slice qa0 na0 ca0, .slice qa1 na1 ca1, .slice qa2 na2 ca2] 33]) (fun l_11 => [⟨22, RwH.enc l.rs, l.v.sp, l.v.q, dbl 3 RI t10 l.rs⟩, ⟨22, RwH.enc l_2.rs, l_2.v.sp, l_2.v.q, dbl 3 RI t14 l_2.rs⟩, ⟨114, RwH.enc (l_4.rs.set (Int.toNat s.k6) (⟨L_1.q, L_1.n, L_1.cap, L_1.sp⟩ : VL)), l_4.v.sp, l_4.v.q, dbl 4 RB s_2.out5 (l_4.rs.set (Int.toNat s.k6) (⟨L_1.q, L_1.n, L_1.cap, L_1.sp⟩ : VL))⟩]) ?_ ?_
        ·replace hm := h61
         refine je (jh Y Y (jh Y Y (jc Y Y Y (fun w _ => JO (Eq.trans (h7).len (vlen RwH h6 Y)) (runUnderlying41 w) Y) (JC Y Y Y (jh Y Y ?_)))))
         refine jM 58 Y (fun h63 => ?_) (fun h63 => ?_)
         ·replace hm := ifD h63 hm
          refine jb Y Y (jh Y Y (jb Y Y (qC 1 runUnderlying33 Y sizeOf3 Y Y (jb Y Y (qf 0 isAgg3 Y Y Y Y (jb Y Y (JC Y Y Y ?_)))))))
          refine yF Y Y Y (ju ?_)
          obtain rfl := sj hm
          exact ji () (trivial) (sE Y) (fun w hh => hh)
         replace hm := ifE h63 hm
         refine g_k Y Y Y Y (g_k Y Y Y Y (g_k Y Y Y Y (g_k Y Y Y Y (qE Y Y Y (ju ?_)))))
         obtain rfl := sj hm
         exact ji () (trivial) (sE Y) (fun w hh => hh)
        intro l_11 hj
        replace hm := h62
        refine ja ?_
        refine jt Y (fun h64 => ?_) (fun h64 => ?_)
        ·replace hm := ifT (h64) hm
         refine js (ja (jj (jl ?_)))
         obtain ⟨o_6, h65, h66⟩ := bindO hm
         refine jE (ι := Unit) (fun l_12 => DOK RB o_6 (l_4.rs.set (Int.toNat s.k6) (⟨L_1.q, L_1.n, L_1.cap, L_1.sp⟩ : VL))) (fun l_12 => [(1, ptr b 0), (3, sL l.v), (4, sL l_2.v), (5, sL l_4.v), (6, .int .i64 s.k6), (7, .int .i64 s_1.a7), (8, .int .i64 s_2.b8)]) (fun l_12 => [kc b #[.int .i64 c0.cells, .int .i64 c0.tides, .slice qa0 na0 ca0, .slice qa1 na1 ca1, .slice qa2 na2 ca2] 33]) (fun l_12 => [⟨22, RwH.enc l.rs, l.v.sp, l.v.q, dbl 3 RI t10 l.rs⟩, ⟨22, RwH.enc l_2.rs, l_2.v.sp, l_2.v.q, dbl 3 RI t14 l_2.rs⟩, ⟨114, RwH.enc (l_4.rs.set (Int.toNat s.k6) (⟨L_1.q, L_1.n, L_1.cap, L_1.sp⟩ : VL)), l_4.v.sp, l_4.v.q, dbl 4 RB o_6 (l_4.rs.set (Int.toNat s.k6) (⟨L_1.q, L_1.n, L_1.cap, L_1.sp⟩ : VL))⟩]) ?_ ?_
         ·replace hm := h65
          refine kn (some 35) (.free 0 (.free 1 (.free 2 (.hoist 3 (.free 4 (.free 5 (.free 6 (.free 7 (.hoist 8 (.free 9 (.free 10 (.hoist 11 (.free 12 (.free 13 (.free 14 (.free 15 (.free 16 (.hoist 17 (.free 18 (.free 19 (.hoist 20 (.free 21 (.hoist 22 (.free 23 (.free 24 (.free 25 (.hoist 26 (.free 27 (.free 28 (.free 29 (.hoist 30 (.one 31 (.free 32 (.free 33 (.free 34 (.last 35 .done)))))))))))))))))))))))))))))))))))) _ Y (by decide +kernel) (fun w k hh => hh.draw k) (fun w hh => hh) ?_
          refine yi Y Y Y (yi Y Y Y ?_)
          obtain ⟨t68, h68, hm⟩ := bindO hm
          obtain ⟨L_5, h69, h70⟩ := (h59).row h68
          refine jo Y Y Y Y (fun w _ => qV h69 (runUnderlying143 w) (sizeOf114 w) Y Y (vlen RwH h30 Y) (vne h30)) (jy Y Y Y Y (fun w hh => kA RwH 0 h69 (isAgg114 w) Y (hh.vseg 2 Y h30) Y (Nat.add_zero _).symm) (yi Y Y Y (yi Y Y Y (yi Y Y Y ?_))))
          obtain ⟨t73, h71, hm⟩ := bindO hm
          obtain ⟨L_6, h72, h73⟩ := (h59).row h71
          refine jo Y Y Y Y (fun w _ => qV h72 (runUnderlying143 w) (sizeOf114 w) Y Y (vlen RwH h30 Y) (vne h30)) (jy Y Y Y Y (fun w hh => kA RwH 0 h72 (isAgg114 w) Y (hh.vseg 2 Y h30) Y (Nat.add_zero _).symm) (yi Y Y Y ?_))
          obtain ⟨t76, h74, hm⟩ := bindO hm
          refine jo Y Y Y Y (fun w _ => qV h74 (runUnderlying114 w) (sizeOf4 w) Y Y (vlen RB h73 Y) (vne h73)) (jy Y Y Y Y (fun w hh => kA RB 0 h74 (isAgg4 w) Y (hh.dseg 2 Y h71 h72 h73) Y (Nat.add_zero _).symm) (yi Y Y Y ?_))
          refine jM 78 Y (fun h75 => ?_) (fun h75 => ?_)
          ·replace hm := ifT (h75) hm
           refine jB Y Y Y Y Y Y Y (jB Y Y Y Y Y Y Y (jB Y Y Y Y Y Y Y (jB Y Y Y Y Y Y Y (yl Y Y Y Y Y Y Y (jB Y Y Y Y Y Y Y (jB Y Y Y Y Y Y Y (yl Y Y Y Y Y Y Y ?_)))))))
           refine jB Y Y Y Y Y Y Y (Zi Y Y Y Y Y Y (Ja Y Y Y Y Y Y (Ja Y Y Y Y Y Y (Ja Y Y Y Y Y Y (Zi Y Y Y Y Y Y (Ja Y Y Y Y Y Y (Ja Y Y Y Y Y Y ?_)))))))
           refine Ja Y Y Y Y Y Y (Zi Y Y Y Y Y Y (jK Y ?_))
           refine qt Y Y Y Y Y ?_
           refine jq (fun w hh => hh) (jB Y Y Y Y Y Y Y (jo Y Y Y Y (fun _ _ => JQ Y Y) ?_))
           obtain ⟨t100, h76, hm⟩ := bindO hm
           refine jo Y Y Y Y (fun w _ => qV h76 (runUnderlying114 w) (sizeOf4 w) Y Y (vlen RB h70 Y) (vne h70)) (Zo Y ?_)
           obtain ⟨row_1, hrow_1, hm⟩ := bindO hm
           obtain ⟨out5_2, hout5_2, hm⟩ := bindO hm
           refine kC (S' := [_]) (vs' := [_, _, _]) [0] [2, 0, 1] 0 Y Y Y Y ?_
           refine ZV RB s.k6 h59 h68 h69 (fun _ => ?_)
           refine jaa RB 1 0 true (fun w => sizeOf4 w) Y Y Y Y h70 Y (Nat.add_zero _).symm Y h76 Y Y (Option.some.inj hrow_1) (fun h77 => ?_)
           refine kC (S' := [_]) (vs' := [_, _, _, _]) [0] [0, 1, 2, 3] 0 Y Y Y Y ?_
           refine ZN RB s.k6 h59 h68 h69 h77 (Option.some.inj hout5_2) (fun h78 => ?_)
           refine YH (jO ?_)
           obtain rfl := sj hm
           exact ji () (h78) (sE Y) (hsE [0] [1, 2, 0] 0 Y Y Y Y)
          replace hm := ifN h75 hm
          refine jF Y Y Y Y Y Y (fun _ _ => jV Y) (jF Y Y Y Y Y Y (fun _ _ => jV Y) ?_)
          obtain ⟨t81, h79, hm⟩ := bindO hm
          refine jF Y Y Y Y Y Y (fun _ _ => KV h79 Y Y) ?_
          obtain ⟨t82, h80, hm⟩ := bindO hm
          obtain ⟨L_7, h81, h82⟩ := (h59).row h80
          refine jF Y Y Y Y Y Y (fun w _ => qV h81 (runUnderlying143 w) (sizeOf114 w) Y Y (vlen RwH h30 Y) (vne h30)) (k8 Y Y Y Y Y Y (fun w hh => kA RwH 0 h81 (isAgg114 w) Y (hh.vseg 2 Y h30) Y (Nat.add_zero _).symm) (jF Y Y Y Y Y Y (fun _ _ => jV Y) ?_))
          obtain ⟨t85, h83, hm⟩ := bindO hm
          refine jF Y Y Y Y Y Y (fun w _ => qV h83 (runUnderlying114 w) (sizeOf4 w) Y Y (vlen RB h82 Y) (vne h82)) (k8 Y Y Y Y Y Y (fun w hh => kA RB 0 h83 (isAgg4 w) Y (hh.dseg 2 Y h80 h81 h82) Y (Nat.add_zero _).symm) (jF Y Y Y Y Y Y (fun _ _ => jV Y) ?_))
          refine jM 87 Y (fun h84 => ?_) (fun h84 => ?_)
          ·replace hm := ifT (h84) hm
           refine k8 Y Y Y Y Y Y (fun w hh => jN (vs := [_, _, _, _, _]) (isAgg33 w) (sizeOf33 w) Y (hh.cells 0 Y Y)) (jF Y Y Y Y Y Y (fun _ _ => jV Y) (jF Y Y Y Y Y Y (fun _ _ => jV Y) ?_))
           obtain ⟨t91, h85, hm⟩ := bindO hm
           obtain ⟨L_8, h86, h87⟩ := (h7).row h85
           refine jF Y Y Y Y Y Y (fun w _ => qV h86 (runUnderlying41 w) (sizeOf22 w) Y Y (vlen RwH h6 Y) (vne h6)) (k8 Y Y Y Y Y Y (fun w hh => kA RwH 0 h86 (isAgg22 w) Y (hh.vseg 0 Y h6) Y (Nat.add_zero _).symm) (jF Y Y Y Y Y Y (fun _ _ => jV Y) (jF Y Y Y Y Y Y (fun _ _ => jV Y) ?_)))
           obtain ⟨t95, h88, hm⟩ := bindO hm
           obtain ⟨L_9, h89, h90⟩ := (h7).row h88
           refine jF Y Y Y Y Y Y (fun w _ => qV h89 (runUnderlying41 w) (sizeOf22 w) Y Y (vlen RwH h6 Y) (vne h6)) (k8 Y Y Y Y Y Y (fun w hh => kA RwH 0 h89 (isAgg22 w) Y (hh.vseg 0 Y h6) Y (Nat.add_zero _).symm) (jK Y (jb Y Y ?_)))
           obtain ⟨t97, h91, hm⟩ := bindO hm
           refine jd [] [] Y Y Y Y Y Y Y call92 (fun w hh => QI c0 t91 t95 qa0 na0 ca0 qa1 na1 ca1 qa2 na2 ca2 (qA L_8.q) L_8.n L_8.cap (qA L_9.q) L_9.n L_9.cap w (HV.callee (S0 := []) (vs0 := []) hh (roR hh 0 Y (roR hh 1 Y (roR hh 2 Y (roC (hh.dsepA (S0 := []) (vs0 := []) 0 Y h85 h86 h87) (roC (hh.dsepA (S0 := []) (vs0 := []) 0 Y h88 h89 h90) roN)))))) hna0 hqa0 hla0 hna1 hqa1 hla1 hna2 hqa2 hla2 (vlen RI h87 Y) (AOK.q (vne h87)) (h87).hle (vlen RI h90 Y) (AOK.q (vne h90)) (h90).hle h91) (fun l_13 h92 => ?_)
           refine jq (fun w hh => hh) (jF Y Y Y Y Y Y (fun _ _ => JQ Y Y) (jo Y Y Y Y (fun _ _ => zD Y Y) ?_))
           obtain ⟨t100_1, h93, hm⟩ := bindO hm
           refine jo Y Y Y Y (fun w _ => qV h93 (runUnderlying114 w) (sizeOf4 w) Y Y (vlen RB h70 Y) (vne h70)) (Zo Y ?_)
           obtain ⟨row_2, hrow_2, hm⟩ := bindO hm
           obtain ⟨out5_3, hout5_3, hm⟩ := bindO hm
           refine kC (S' := [_]) (vs' := [_, _, _]) [0] [2, 0, 1] 0 Y Y Y Y ?_
           refine ZV RB s.k6 h59 h68 h69 (fun _ => ?_)
           refine jaa RB 1 0 t97 (fun w => sizeOf4 w) Y Y Y Y h70 Y (Nat.add_zero _).symm Y h93 Y Y (Option.some.inj hrow_2) (fun h94 => ?_)
           refine kC (S' := [_]) (vs' := [_, _, _, _]) [0] [0, 1, 2, 3] 0 Y Y Y Y ?_
           refine ZN RB s.k6 h59 h68 h69 h94 (Option.some.inj hout5_3) (fun h95 => ?_)
           refine YH (jO ?_)
           obtain rfl := sj hm
           exact ji () (h95) (sE Y) (hsE [0] [1, 2, 0] 0 Y Y Y Y)
          replace hm := ifN h84 hm
          refine yl Y Y Y Y Y Y Y (jB Y Y Y Y Y Y Y (jB Y Y Y Y Y Y Y (jB Y Y Y Y Y Y Y (yl Y Y Y Y Y Y Y (jB Y Y Y Y Y Y Y (jB Y Y Y Y Y Y Y (jB Y Y Y Y Y Y Y ?_)))))))
          refine yl Y Y Y Y Y Y Y (jK Y (g_k Y Y Y Y (jq (fun w hh => hh) (jF Y Y Y Y Y Y (fun _ _ => zD Y Y) (jo Y Y Y Y (fun _ _ => zD Y Y) ?_)))))
          obtain ⟨t100_2, h96, hm⟩ := bindO hm
          refine jo Y Y Y Y (fun w _ => qV h96 (runUnderlying114 w) (sizeOf4 w) Y Y (vlen RB h70 Y) (vne h70)) (Zo Y ?_)
          obtain ⟨row_3, hrow_3, hm⟩ := bindO hm
          obtain ⟨out5_4, hout5_4, hm⟩ := bindO hm
          refine kC (S' := [_]) (vs' := [_, _, _]) [0] [2, 0, 1] 0 Y Y Y Y ?_
          refine ZV RB s.k6 h59 h68 h69 (fun _ => ?_)
          refine jaa RB 1 0 false (fun w => sizeOf4 w) Y Y Y Y h70 Y (Nat.add_zero _).symm Y h96 Y Y (Option.some.inj hrow_3) (fun h97 => ?_)
          refine kC (S' := [_]) (vs' := [_, _, _, _]) [0] [0, 1, 2, 3] 0 Y Y Y Y ?_
          refine ZN RB s.k6 h59 h68 h69 h97 (Option.some.inj hout5_4) (fun h98 => ?_)
          refine YH (jO ?_)
          obtain rfl := sj hm
          exact ji () (h98) (sE Y) (hsE [0] [1, 2, 0] 0 Y Y Y Y)
         intro l_12 hj
         have h67 := hj
         replace hm := h66
         refine jv (ja (je (jh Y Y ?_)))
         obtain ⟨t65, h99, hm⟩ := bindO hm
         refine JB h99 Y Y Y (jm Y Y (ju ?_))
         obtain rfl := sj hm
         refine ja ?_
         exact jA _ () Y (h67) (sE Y) (fun w hh => hh)
        replace hm := ifN h64 hm
        refine jQ (jk (jk (jC ?_)))
        obtain rfl := sj hm
        have hbo := h60 _ Y
        subst hbo
        exact ji () (h59) (sE Y) (fun w hh => hh)
       intro l_9 hj
       have h58 := hj
       replace hm := h57
       refine jv ?_
       obtain rfl := sj hm
       exact ji () (h58) (sE Y) (fun w hh => hh)
      intro l_7 hj
      have h40 := hj
      replace hm := h39
      refine ja (je (jh Y Y ?_))
      obtain ⟨t35, h100, hm⟩ := bindO hm
      refine JB h100 Y Y Y (jm Y Y (ju ?_))
      obtain rfl := sj hm
      refine ja ?_
      exact jA _ () Y (h40) (sE Y) (fun w hh => hh)
     replace hm := ifE h37 hm
     refine jQ (jk (jk (jC ?_)))
     obtain rfl := sj hm
     have hbo := h36 _ Y
     subst hbo
     exact ji () (h35) (sE Y) (fun w hh => hh)
    intro l_5 hj
    have h34 := hj
    replace hm := h33
    refine jv (ja (je (jh Y Y ?_)))
    obtain ⟨t23, h101, hm⟩ := bindO hm
    refine jc Y Y Y (fun _ _ => Jd h101 Y Y) (jm Y Y (ju ?_))
    obtain rfl := sj hm
    refine ja ?_
    exact jA _ (⟨⟨l_4.v.q, l_4.v.n, l_4.v.cap, l_4.v.sp⟩, (l_4.rs.set (Int.toNat s.k6) (⟨L_1.q, L_1.n, L_1.cap, L_1.sp⟩ : VL))⟩) Y (⟨h30, h34⟩) (sE Y) (fun w hh => hh)
   replace hm := ifE h24 hm
   refine jQ (jk (jk (jC ?_)))
   obtain rfl := sj hm
   have hbo := h23 _ Y
   subst hbo
   exact ji l_4 (⟨h21, h22⟩) (sE Y) (hsE [0] [2] 0 Y Y Y Y)
  intro l_3 hj
  obtain ⟨h19, h20⟩ := hj
  replace hm := h18
  refine ja (jr (jh Y Y (jm Y Y (jp (jw ?_)))))
  obtain rfl := sj hm
  refine jn Y (fun w hh => (.tmp Y .nil)) (fun w hh => ⟨l_3, rfl, ⟨h19, h20⟩, hh.se [] [0] 3 Y Y Y rfl⟩)
end Go.Proofs.Wb

namespace Go.Proofs.Wb
set_option maxHeartbeats 4000000
set_option maxRecDepth 100000
open Go Go.Fw Go.Gx Go.Sb
open Tryz
set_option linter.unusedVariables false
def qD (s10 : (List Sand)) (s21 : (List Sand)) (s : Int) : Option (Int ⊕ (Unit ⊕ Bool)) :=
 if s < (s10.length : Int) then
 ((ix s10 s).bind fun t18 =>
 (ix s21 s).bind fun t22 =>
 if (⟨(⟨t18.span.lo, t18.span.hi⟩ : Span), t18.reach⟩ : Sand) = (⟨(⟨t22.span.lo, t22.span.hi⟩ : Span), t22.reach⟩ : Sand) then
 ((addc s 1).bind fun t25 =>
 some (.inl t25)) else
 (some (.inr (.inr false)))) else
 (some (.inr (.inl ())))
def k4 (s10 : (List Sand)) (s21 : (List Sand)) : Option Bool :=
 if (s10.length : Int) = (s21.length : Int) then
 ((iterM FU (qD s10 s21) 0).bind fun o =>
 oc o (fun j => some true) (fun r_1 => some r_1)) else
 (some false)
theorem KL (s10 : (List Sand)) (s21 : (List Sand)) (qa0 : Option Addr) (na0 ca0 : Nat) (qa1 : Option Addr) (na1 ca1 : Nat) (w : World) (hw : HV w (keys [] []) [] [] [(aB qa0, aO qa0, RSa.enc s10), (aB qa1, aO qa1, RSa.enc s21)] w) (hna0 : s10.length = na0) (hqa0 : AOK na0 qa0) (hla0 : na0 ≤ ca0) (hna1 : s21.length = na1) (hqa1 : AOK na1 qa1) (hla1 : na1 ≤ ca1) {res : Bool} (hm : k4 s10 s21 = some res) :
    Calls Tryz.prog 164 #[.slice qa0 na0 ca0, .slice qa1 na1 ca1] w (fun en w' => ∃ l : Unit, en = .returned (.bool res) ∧ (True) ∧ HV w (keys [] []) [] [] [] w') := by
  unfold k4 at hm
  refine qU func164 Y ntmps164 Y (e := [(0, _), (1, _)]) Y hw (jr (jm Y Y (jp (jj (jr (jh Y Y (jc Y Y Y (fun w _ => jR hna0 (runUnderlying23 w) Y) ?_)))))))
  refine jh Y Y (jc Y Y Y (fun w _ => jR hna1 (runUnderlying23 w) Y) (jc Y Y Y (fun _ _ => Kh Y Y) (jp ?_)))
  refine jt Y (fun h1 => ?_) (fun h1 => ?_)
  ·replace hm := ifF (of_ndec_true h1) hm
   refine jr (jm Y Y (jp (jw (jg ?_))))
   obtain rfl := sj hm
   refine jn Y (fun w hh => (.tmp Y .nil)) (fun w hh => ⟨(), rfl, trivial, hh.se [] [] 2 Y Y Y rfl⟩)
  replace hm := ifT (of_ndec_false h1) hm
  refine js (ja (jj (jr (jh Y Y (jc Y Y Y (fun w _ => jR hna0 (runUnderlying23 w) Y) (jh Y Y (jp ?_)))))))
  obtain ⟨o, h2, h3⟩ := bindO hm
  refine jE (ι := Unit) (fun j => o = .inl j) (fun j => []) (fun j => []) (fun j => []) ?_ ?_
  ·replace hm := h2
   refine jl ?_
   refine jG (ι := Unit) hm (fun s l => True) (fun s l => [(0, .slice qa0 na0 ca0), (1, .slice qa1 na1 ca1), (12, .int .i64 (s10.length : Int)), (13, .int .i64 s)]) (fun s l => []) (fun s l => []) () (trivial) (sE Y) (fun w hh => hh) (fun s l r hpl hm h4 => ?_)
   unfold qD at hm
   refine jr (JC Y Y Y (jp (jj ?_)))
   refine jt Y (fun h5 => ?_) (fun h5 => ?_)
   ·replace hm := ifD h5 hm
    refine js (ja (jj (jl (jr (jh Y Y (jm Y Y (jp ?_)))))))
    refine jj ?_
    refine kn none (.free 0 (.free 1 (.free 2 (.hoist 3 (.free 4 (.free 5 (.free 6 (.hoist 7 (.free 8 .done))))))))) _ Y (by decide +kernel) (fun w k hh => hh.draw k) (fun w hh => hh) ?_
    refine yi Y Y Y (yi Y Y Y ?_)
    obtain ⟨t18, h6, hm⟩ := bindO hm
    refine jo Y Y Y Y (fun w _ => yn h6 (runUnderlying23 w) (sizeOf98 w) Y Y hna0 hqa0) ?_
    refine jy Y Y Y Y (fun w hh => Jf RSa 0 [.int .i64 t18.span.lo, .int .i64 t18.span.hi, .int .i64 t18.reach] h6 (isAgg98 w) (sizeOf98 w) Y (hh.seg 0 Y) Y (Nat.add_zero _).symm) ?_
    refine yi Y Y Y (yi Y Y Y ?_)
    obtain ⟨t22, h7, hm⟩ := bindO hm
    refine jo Y Y Y Y (fun w _ => yn h7 (runUnderlying23 w) (sizeOf98 w) Y Y hna1 hqa1) ?_
    refine jy Y Y Y Y (fun w hh => Jf RSa 0 [.int .i64 t22.span.lo, .int .i64 t22.span.hi, .int .i64 t22.reach] h7 (isAgg98 w) (sizeOf98 w) Y (hh.seg 1 Y) Y (Nat.add_zero _).symm) ?_
    refine jo Y Y Y Y (fun w _ => ZQ (jby (⟨(⟨t18.span.lo, t18.span.hi⟩ : Span), t18.reach⟩ : Sand) (⟨(⟨t22.span.lo, t22.span.hi⟩ : Span), t22.reach⟩ : Sand) w) jbk Y Y) ?_
    refine jO (ja ?_)
    refine jt Y (fun h8 => ?_) (fun h8 => ?_)
    ·replace hm := ifF (of_ndec_true h8) hm
     refine jr (jm Y Y (jp (jw (jz (jg (jg (jz ?_)))))))
     obtain rfl := sj hm
     have hbo := h4 _ Y
     subst hbo
     refine jg ?_
     replace hm := ocR h3
     refine jg ?_
     obtain rfl := sj hm
     refine jn Y (fun w hh => (.tmp Y .nil)) (fun w hh => ⟨(), rfl, trivial, hh.se [] [] 2 Y Y Y rfl⟩)
    replace hm := ifT (of_ndec_false h8) hm
    refine js (jv (ja (je ?_)))
    obtain ⟨t25, h9, hm⟩ := bindO hm
    refine JB h9 Y Y Y (jh Y Y (ju ?_))
    obtain rfl := sj hm
    refine ja ?_
    exact jA _ () Y (trivial) (sE Y) (fun w hh => hh)
   replace hm := ifE h5 hm
   refine jQ (jk (jk (jC ?_)))
   obtain rfl := sj hm
   have hbo := h4 _ Y
   subst hbo
   exact ji () (Y) (.nil) (fun w hh => hh)
  intro j hj
  have h10 := hj
  subst h10
  replace hm := ocL h3
  refine ja (jr (jm Y Y (jp (jw ?_))))
  obtain rfl := sj hm
  refine jn Y (fun w hh => (.tmp Y .nil)) (fun w hh => ⟨(), rfl, trivial, hh.se [] [] 2 Y Y Y rfl⟩)
def zS (a0 : (List Sand)) (b1 : (List Sand)) : Option Bool :=
 (k4 a0 b1).bind fun t7 =>
 some t7
theorem Y6 (a0 : (List Sand)) (b1 : (List Sand)) (qa0 : Option Addr) (na0 ca0 : Nat) (qa1 : Option Addr) (na1 ca1 : Nat) (w : World) (hw : HV w (keys [] []) [] [] [(aB qa0, aO qa0, RSa.enc a0), (aB qa1, aO qa1, RSa.enc b1)] w) (hna0 : a0.length = na0) (hqa0 : AOK na0 qa0) (hla0 : na0 ≤ ca0) (hna1 : b1.length = na1) (hqa1 : AOK na1 qa1) (hla1 : na1 ≤ ca1) {res : Bool} (hm : zS a0 b1 = some res) :
    Calls Tryz.prog 103 #[.slice qa0 na0 ca0, .slice qa1 na1 ca1] w (fun en w' => ∃ l : Unit, en = .returned (.bool res) ∧ (True) ∧ HV w (keys [] []) [] [] [] w') := by
  unfold zS at hm
  refine qU func103 Y ntmps103 Y (e := [(0, _), (1, _)]) Y hw (jr (jm Y Y (qe (jh Y Y (jh Y Y ?_)))))
  obtain ⟨t7, h1, hm⟩ := bindO hm
  refine jd [] [] Y Y Y Y Y Y Y call164 (fun w hh => KL a0 b1 qa0 na0 ca0 qa1 na1 ca1 w (HV.callee (S0 := []) (vs0 := []) hh (roR hh 0 Y (roR hh 1 Y roN))) hna0 hqa0 hla0 hna1 hqa1 hla1 h1) (fun l h2 => ?_)
  refine jm Y Y (jp (jw ?_))
  obtain rfl := sj hm
  refine jn Y (fun w hh => (.tmp Y .nil)) (fun w hh => ⟨(), rfl, trivial, hh.se [] [] 2 Y Y Y rfl⟩)
def qr (s10 : (List Sight)) (s21 : (List Sight)) (s : Int) : Option (Int ⊕ (Unit ⊕ Bool)) :=
 if s < (s10.length : Int) then
 ((ix s10 s).bind fun t18 =>
 (ix s21 s).bind fun t22 =>
 if t18 = (⟨t22.after, t22.cell, t22.upright⟩ : Sight) then
 ((addc s 1).bind fun t25 =>
 some (.inl t25)) else
 (some (.inr (.inr false)))) else
 (some (.inr (.inl ())))
def kK (s10 : (List Sight)) (s21 : (List Sight)) : Option Bool :=
 if (s10.length : Int) = (s21.length : Int) then
 ((iterM FU (qr s10 s21) 0).bind fun o =>
 oc o (fun j => some true) (fun r_1 => some r_1)) else
 (some false)
theorem Kj (s10 : (List Sight)) (s21 : (List Sight)) (qa0 : Option Addr) (na0 ca0 : Nat) (qa1 : Option Addr) (na1 ca1 : Nat) (w : World) (hw : HV w (keys [] []) [] [] [(aB qa0, aO qa0, RSi.enc s10), (aB qa1, aO qa1, RSi.enc s21)] w) (hna0 : s10.length = na0) (hqa0 : AOK na0 qa0) (hla0 : na0 ≤ ca0) (hna1 : s21.length = na1) (hqa1 : AOK na1 qa1) (hla1 : na1 ≤ ca1) {res : Bool} (hm : kK s10 s21 = some res) :
    Calls Tryz.prog 165 #[.slice qa0 na0 ca0, .slice qa1 na1 ca1] w (fun en w' => ∃ l : Unit, en = .returned (.bool res) ∧ (True) ∧ HV w (keys [] []) [] [] [] w') := by
  unfold kK at hm
  refine qU func165 Y ntmps165 Y (e := [(0, _), (1, _)]) Y hw (jr (jm Y Y (jp (jj (jr (jh Y Y (jc Y Y Y (fun w _ => jR hna0 (runUnderlying24 w) Y) ?_)))))))
  refine jh Y Y (jc Y Y Y (fun w _ => jR hna1 (runUnderlying24 w) Y) (jc Y Y Y (fun _ _ => Kh Y Y) (jp ?_)))
  refine jt Y (fun h1 => ?_) (fun h1 => ?_)
  ·replace hm := ifF (of_ndec_true h1) hm
   refine jr (jm Y Y (jp (jw (jg ?_))))
   obtain rfl := sj hm
   refine jn Y (fun w hh => (.tmp Y .nil)) (fun w hh => ⟨(), rfl, trivial, hh.se [] [] 2 Y Y Y rfl⟩)
  replace hm := ifT (of_ndec_false h1) hm
  refine js (ja (jj (jr (jh Y Y (jc Y Y Y (fun w _ => jR hna0 (runUnderlying24 w) Y) (jh Y Y (jp ?_)))))))
  obtain ⟨o, h2, h3⟩ := bindO hm
  refine jE (ι := Unit) (fun j => o = .inl j) (fun j => []) (fun j => []) (fun j => []) ?_ ?_
  ·replace hm := h2
   refine jl ?_
   refine jG (ι := Unit) hm (fun s l => True) (fun s l => [(0, .slice qa0 na0 ca0), (1, .slice qa1 na1 ca1), (12, .int .i64 (s10.length : Int)), (13, .int .i64 s)]) (fun s l => []) (fun s l => []) () (trivial) (sE Y) (fun w hh => hh) (fun s l r hpl hm h4 => ?_)
   unfold qr at hm
   refine jr (JC Y Y Y (jp (jj ?_)))
   refine jt Y (fun h5 => ?_) (fun h5 => ?_)
   ·replace hm := ifD h5 hm
    refine js (ja (jj (jl (jr (jh Y Y (jm Y Y (jp ?_)))))))
    refine jj ?_
    refine kn none (.free 0 (.free 1 (.free 2 (.hoist 3 (.free 4 (.free 5 (.free 6 (.hoist 7 (.free 8 .done))))))))) _ Y (by decide +kernel) (fun w k hh => hh.draw k) (fun w hh => hh) ?_
    refine yi Y Y Y (yi Y Y Y ?_)
    obtain ⟨t18, h6, hm⟩ := bindO hm
    refine jo Y Y Y Y (fun w _ => yn h6 (runUnderlying24 w) (sizeOf55 w) Y Y hna0 hqa0) ?_
    refine jy Y Y Y Y (fun w hh => Jf RSi 0 [.int .i64 t18.after, .int .i64 t18.cell, .bool t18.upright] h6 (isAgg55 w) (sizeOf55 w) Y (hh.seg 0 Y) Y (Nat.add_zero _).symm) ?_
    refine yi Y Y Y (yi Y Y Y ?_)
    obtain ⟨t22, h7, hm⟩ := bindO hm
    refine jo Y Y Y Y (fun w _ => yn h7 (runUnderlying24 w) (sizeOf55 w) Y Y hna1 hqa1) ?_
    refine jy Y Y Y Y (fun w hh => Jf RSi 0 [.int .i64 t22.after, .int .i64 t22.cell, .bool t22.upright] h7 (isAgg55 w) (sizeOf55 w) Y (hh.seg 1 Y) Y (Nat.add_zero _).symm) ?_
    refine jo Y Y Y Y (fun w _ => ZQ (ja9 t18 (⟨t22.after, t22.cell, t22.upright⟩ : Sight) w) jaG Y Y) (jO (ja ?_))
    refine jt Y (fun h8 => ?_) (fun h8 => ?_)
    ·replace hm := ifF (of_ndec_true h8) hm
     refine jr (jm Y Y (jp (jw (jz (jg (jg (jz ?_)))))))
     obtain rfl := sj hm
     have hbo := h4 _ Y
     subst hbo
     refine jg ?_
     replace hm := ocR h3
     refine jg ?_
     obtain rfl := sj hm
     refine jn Y (fun w hh => (.tmp Y .nil)) (fun w hh => ⟨(), rfl, trivial, hh.se [] [] 2 Y Y Y rfl⟩)
    replace hm := ifT (of_ndec_false h8) hm
    refine js (jv (ja (je ?_)))
    obtain ⟨t25, h9, hm⟩ := bindO hm
    refine JB h9 Y Y Y (jh Y Y (ju ?_))
    obtain rfl := sj hm
    refine ja ?_
    exact jA _ () Y (trivial) (sE Y) (fun w hh => hh)
   replace hm := ifE h5 hm
   refine jQ (jk (jk (jC ?_)))
   obtain rfl := sj hm
   have hbo := h4 _ Y
   subst hbo
   exact ji () (Y) (.nil) (fun w hh => hh)
  intro j hj
  have h10 := hj
  subst h10
  replace hm := ocL h3
  refine ja (jr (jm Y Y (jp (jw ?_))))
  obtain rfl := sj hm
  refine jn Y (fun w hh => (.tmp Y .nil)) (fun w hh => ⟨(), rfl, trivial, hh.se [] [] 2 Y Y Y rfl⟩)
def zo (a0 : (List Sight)) (b1 : (List Sight)) : Option Bool :=
 (kK a0 b1).bind fun t7 =>
 some t7
theorem YM (a0 : (List Sight)) (b1 : (List Sight)) (qa0 : Option Addr) (na0 ca0 : Nat) (qa1 : Option Addr) (na1 ca1 : Nat) (w : World) (hw : HV w (keys [] []) [] [] [(aB qa0, aO qa0, RSi.enc a0), (aB qa1, aO qa1, RSi.enc b1)] w) (hna0 : a0.length = na0) (hqa0 : AOK na0 qa0) (hla0 : na0 ≤ ca0) (hna1 : b1.length = na1) (hqa1 : AOK na1 qa1) (hla1 : na1 ≤ ca1) {res : Bool} (hm : zo a0 b1 = some res) :
    Calls Tryz.prog 104 #[.slice qa0 na0 ca0, .slice qa1 na1 ca1] w (fun en w' => ∃ l : Unit, en = .returned (.bool res) ∧ (True) ∧ HV w (keys [] []) [] [] [] w') := by
  unfold zo at hm
  refine qU func104 Y ntmps104 Y (e := [(0, _), (1, _)]) Y hw (jr (jm Y Y (qe (jh Y Y (jh Y Y ?_)))))
  obtain ⟨t7, h1, hm⟩ := bindO hm
  refine jd [] [] Y Y Y Y Y Y Y call165 (fun w hh => Kj a0 b1 qa0 na0 ca0 qa1 na1 ca1 w (HV.callee (S0 := []) (vs0 := []) hh (roR hh 0 Y (roR hh 1 Y roN))) hna0 hqa0 hla0 hna1 hqa1 hla1 h1) (fun l h2 => ?_)
  refine jm Y Y (jp (jw ?_))
  obtain rfl := sj hm
  refine jn Y (fun w hh => (.tmp Y .nil)) (fun w hh => ⟨(), rfl, trivial, hh.se [] [] 2 Y Y Y rfl⟩)
def zq (a0 : Channel) (b1 : Channel) : Option Bool :=
 (if a0.cells = b1.cells then
 (if a0.tides = b1.tides then
 ((zQ a0.fords b1.fords).bind fun t22 =>
 if t22 = true then
 ((zS a0.sands b1.sands).bind fun t29 =>
 if t29 = true then
 ((zo a0.sights b1.sights).bind fun t36 =>
 some t36) else
 (some false)) else
 (some false)) else
 (some false)) else
 (some false)).bind fun o =>
 some o
theorem YP (a0 : Channel) (b1 : Channel) (qa0 : Option Addr) (na0 ca0 : Nat) (qa1 : Option Addr) (na1 ca1 : Nat) (qa2 : Option Addr) (na2 ca2 : Nat) (qa3 : Option Addr) (na3 ca3 : Nat) (qa4 : Option Addr) (na4 ca4 : Nat) (qa5 : Option Addr) (na5 ca5 : Nat) (w : World) (hw : HV w (keys [] []) [] [] [(aB qa0, aO qa0, RI.enc a0.fords), (aB qa1, aO qa1, RSa.enc a0.sands), (aB qa2, aO qa2, RSi.enc a0.sights), (aB qa3, aO qa3, RI.enc b1.fords), (aB qa4, aO qa4, RSa.enc b1.sands), (aB qa5, aO qa5, RSi.enc b1.sights)] w) (hna0 : a0.fords.length = na0) (hqa0 : AOK na0 qa0) (hla0 : na0 ≤ ca0) (hna1 : a0.sands.length = na1) (hqa1 : AOK na1 qa1) (hla1 : na1 ≤ ca1) (hna2 : a0.sights.length = na2) (hqa2 : AOK na2 qa2) (hla2 : na2 ≤ ca2) (hna3 : b1.fords.length = na3) (hqa3 : AOK na3 qa3) (hla3 : na3 ≤ ca3) (hna4 : b1.sands.length = na4) (hqa4 : AOK na4 qa4) (hla4 : na4 ≤ ca4) (hna5 : b1.sights.length = na5) (hqa5 : AOK na5 qa5) (hla5 : na5 ≤ ca5) {res : Bool} (hm : zq a0 b1 = some res) :
    Calls Tryz.prog 31 #[.agg #[.int .i64 a0.cells, .int .i64 a0.tides, .slice qa0 na0 ca0, .slice qa1 na1 ca1, .slice qa2 na2 ca2], .agg #[.int .i64 b1.cells, .int .i64 b1.tides, .slice qa3 na3 ca3, .slice qa4 na4 ca4, .slice qa5 na5 ca5]] w (fun en w' => ∃ l : Unit, en = .returned (.bool res) ∧ (True) ∧ HV w (keys [] []) [] [] [] w') := by
  unfold zq at hm
  refine qU func31 Y ntmps31 Y (e := [(0, _), (1, _)]) Y hw (jr ?_)
  refine jI Y Y (fun b h1 => ?_)
  refine jI Y Y (fun b_1 h2 => ?_)
  refine jm Y Y (jp (jj ?_))
  obtain ⟨o, h3, h4⟩ := bindO hm
  refine jE (ι := Unit) (fun l => True) (fun l => [(4, .bool o)]) (fun l => [kc b_1 #[.int .i64 b1.cells, .int .i64 b1.tides, .slice qa3 na3 ca3, .slice qa4 na4 ca4, .slice qa5 na5 ca5] 26, kc b #[.int .i64 a0.cells, .int .i64 a0.tides, .slice qa0 na0 ca0, .slice qa1 na1 ca1, .slice qa2 na2 ca2] 26]) (fun l => []) ?_ ?_
  ·replace hm := h3
   refine je (qC 0 runUnderlying26 Y sizeOf3 Y Y (qf 1 isAgg3 Y Y Y Y (qC 0 runUnderlying26 Y sizeOf3 Y Y (qf 0 isAgg3 Y Y Y Y (jc Y Y Y (fun _ _ => zf Y Y) (jh Y Y ?_))))))
   refine jM 10 Y (fun h5 => ?_) (fun h5 => ?_)
   ·replace hm := ifD h5 hm
    refine jb Y Y (qC 1 runUnderlying26 Y sizeOf3 Y Y (jb Y Y (qf 1 isAgg3 Y Y Y Y (jb Y Y (qC 1 runUnderlying26 Y sizeOf3 Y Y (jb Y Y (qf 0 isAgg3 Y Y Y Y ?_)))))))
    refine jb Y Y (jc Y Y Y (fun _ _ => zf Y Y) (yF Y Y Y (jh Y Y ?_)))
    refine jM 17 Y (fun h6 => ?_) (fun h6 => ?_)
    ·replace hm := ifD h6 hm
     refine jb Y Y (qC 2 runUnderlying26 Y sizeOf22 Y Y (jb Y Y (qf 1 isAgg22 Y Y Y Y (jb Y Y (qC 2 runUnderlying26 Y sizeOf22 Y Y (jb Y Y (qf 0 isAgg22 Y Y Y Y ?_)))))))
     refine jb Y Y ?_
     obtain ⟨t22, h7, hm⟩ := bindO hm
     refine jd [] [] Y Y Y Y Y Y Y call45 (fun w hh => KF a0.fords b1.fords qa0 na0 ca0 qa3 na3 ca3 w (HV.callee (S0 := []) (vs0 := []) hh (roR hh 0 Y (roR hh 3 Y roN))) hna0 hqa0 hla0 hna3 hqa3 hla3 h7) (fun l_1 h8 => ?_)
     refine yF Y Y Y (jh Y Y ?_)
     refine jM 24 Y (fun h9 => ?_) (fun h9 => ?_)
     ·replace hm := ifT (h9) hm
      refine jb Y Y (qC 3 runUnderlying26 Y sizeOf23 Y Y (jb Y Y (qf 1 isAgg23 Y Y Y Y (jb Y Y (qC 3 runUnderlying26 Y sizeOf23 Y Y (jb Y Y (qf 0 isAgg23 Y Y Y Y ?_)))))))
      refine jb Y Y ?_
      obtain ⟨t29, h10, hm⟩ := bindO hm
      refine jd [] [] Y Y Y Y Y Y Y call103 (fun w hh => Y6 a0.sands b1.sands qa1 na1 ca1 qa4 na4 ca4 w (HV.callee (S0 := []) (vs0 := []) hh (roR hh 1 Y (roR hh 4 Y roN))) hna1 hqa1 hla1 hna4 hqa4 hla4 h10) (fun l_2 h11 => ?_)
      refine yF Y Y Y (jh Y Y ?_)
      refine jM 31 Y (fun h12 => ?_) (fun h12 => ?_)
      ·replace hm := ifT (h12) hm
       refine jb Y Y (qC 4 runUnderlying26 Y sizeOf24 Y Y (jb Y Y (qf 1 isAgg24 Y Y Y Y (jb Y Y (qC 4 runUnderlying26 Y sizeOf24 Y Y (jb Y Y (qf 0 isAgg24 Y Y Y Y ?_)))))))
       refine jb Y Y ?_
       obtain ⟨t36, h13, hm⟩ := bindO hm
       refine jd [] [] Y Y Y Y Y Y Y call104 (fun w hh => YM a0.sights b1.sights qa2 na2 ca2 qa5 na5 ca5 w (HV.callee (S0 := []) (vs0 := []) hh (roR hh 2 Y (roR hh 5 Y roN))) hna2 hqa2 hla2 hna5 hqa5 hla5 h13) (fun l_3 h14 => ?_)
       refine yF Y Y Y (jm Y Y (ju ?_))
       obtain rfl := sj hm
       exact ji () (trivial) (sE Y) (fun w hh => hh)
      replace hm := ifN h12 hm
      refine g_k Y Y Y Y (g_k Y Y Y Y (g_k Y Y Y Y (g_k Y Y Y Y (g_k Y Y Y Y (qE Y Y Y (jm Y Y (ju ?_)))))))
      obtain rfl := sj hm
      exact ji () (trivial) (sE Y) (fun w hh => hh)
     replace hm := ifN h9 hm
     refine g_k Y Y Y Y (g_k Y Y Y Y (g_k Y Y Y Y (g_k Y Y Y Y (g_k Y Y Y Y (qE Y Y Y (jh Y Y (g_k Y Y Y Y ?_)))))))
     refine g_k Y Y Y Y (g_k Y Y Y Y (g_k Y Y Y Y (g_k Y Y Y Y (qE Y Y Y (jm Y Y (ju ?_))))))
     obtain rfl := sj hm
     exact ji () (trivial) (sE Y) (fun w hh => hh)
    replace hm := ifE h6 hm
    refine g_k Y Y Y Y (g_k Y Y Y Y (g_k Y Y Y Y (g_k Y Y Y Y (g_k Y Y Y Y (qE Y Y Y (jh Y Y (g_k Y Y Y Y ?_)))))))
    refine g_k Y Y Y Y (g_k Y Y Y Y (g_k Y Y Y Y (g_k Y Y Y Y (qE Y Y Y (jh Y Y (g_k Y Y Y Y (g_k Y Y Y Y ?_)))))))
    refine g_k Y Y Y Y (g_k Y Y Y Y (g_k Y Y Y Y (qE Y Y Y (jm Y Y (ju ?_)))))
    obtain rfl := sj hm
    exact ji () (trivial) (sE Y) (fun w hh => hh)
   replace hm := ifE h5 hm
   refine g_k Y Y Y Y (g_k Y Y Y Y (g_k Y Y Y Y (g_k Y Y Y Y (g_k Y Y Y Y (qE Y Y Y (jh Y Y (g_k Y Y Y Y ?_)))))))
   refine g_k Y Y Y Y (g_k Y Y Y Y (g_k Y Y Y Y (g_k Y Y Y Y (qE Y Y Y (jh Y Y (g_k Y Y Y Y (g_k Y Y Y Y ?_)))))))
   refine g_k Y Y Y Y (g_k Y Y Y Y (g_k Y Y Y Y (qE Y Y Y (jh Y Y (g_k Y Y Y Y (g_k Y Y Y Y (g_k Y Y Y Y ?_)))))))
   refine g_k Y Y Y Y (g_k Y Y Y Y (qE Y Y Y (jm Y Y (ju ?_))))
   obtain rfl := sj hm
   exact ji () (trivial) (sE Y) (fun w hh => hh)
  intro l hj
  replace hm := h4
  refine ja (jw ?_)
  obtain rfl := sj hm
  refine jn Y (fun w hh => (.tmp Y .nil)) (fun w hh => ⟨(), rfl, trivial, hh.se [] [] 6 Y Y Y rfl⟩)
end Go.Proofs.Wb

namespace Go.Proofs.Wb
set_option maxHeartbeats 4000000
set_option maxRecDepth 100000
open Go Go.Fw Go.Gx Go.Sb
open Tryz
set_option linter.unusedVariables false

structure qZ where
  x10 : Int
  out9 : (List Int)
structure y6 where
  is11 : Bool
  a12 : Int
def qh (t14 : (List (List Int))) (t16 : (List (List Bool))) (after1 : Int) (ford2 : Int) (s : qZ) (s_1 : y6) : Option (y6 ⊕ Bool) :=
 if s_1.a12 < (t14.length : Int) then
 ((if s_1.is11 = true then
 (some true) else
 ((ix t16 after1).bind fun t33 =>
 (ix t33 s_1.a12).bind fun t36 =>
 if t36 = true then
 ((ix t14 s_1.a12).bind fun t41 =>
 (ix t41 ford2).bind fun t44 =>
 some (decide (t44 = s.x10))) else
 (some false))).bind fun o_3 =>
 (addc s_1.a12 1).bind fun t28 =>
 some (.inl (⟨o_3, t28⟩ : y6))) else
 (some (.inr s_1.is11))
def qk (c0 : Channel) (t14 : (List (List Int))) (t16 : (List (List Bool))) (after1 : Int) (ford2 : Int) (s : qZ) : Option (qZ ⊕ (List Int)) :=
 if s.x10 < c0.cells then
 (((iterM FU (qh t14 t16 after1 ford2 s) (⟨false, 0⟩ : y6)).bind fun o_2 =>
 if o_2 = true then
 ((appc 8 s.out9 [s.x10]).bind fun t54 =>
 some t54) else
 (some s.out9)).bind fun o_1 =>
 (addc s.x10 1).bind fun t22 =>
 some (.inl (⟨t22, o_1⟩ : qZ))) else
 (some (.inr s.out9))
def yY (c0 : Channel) (after1 : Int) (ford2 : Int) : Option (List Int) :=
 (kX c0).bind fun t14 =>
 (zn c0).bind fun t16 =>
 (iterM FU (qk c0 t14 t16 after1 ford2) (⟨0, []⟩ : qZ)).bind fun o =>
 some o
theorem YJ (c0 : Channel) (after1 : Int) (ford2 : Int) (qa0 : Option Addr) (na0 ca0 : Nat) (qa1 : Option Addr) (na1 ca1 : Nat) (qa2 : Option Addr) (na2 ca2 : Nat) (w : World) (hw : HV w (keys [] []) [] [] [(aB qa0, aO qa0, RI.enc c0.fords), (aB qa1, aO qa1, RSa.enc c0.sands), (aB qa2, aO qa2, RSi.enc c0.sights)] w) (hna0 : c0.fords.length = na0) (hqa0 : AOK na0 qa0) (hla0 : na0 ≤ ca0) (hna1 : c0.sands.length = na1) (hqa1 : AOK na1 qa1) (hla1 : na1 ≤ ca1) (hna2 : c0.sights.length = na2) (hqa2 : AOK na2 qa2) (hla2 : na2 ≤ ca2) {res : (List Int)} (hm : yY c0 after1 ford2 = some res) :
    Calls Tryz.prog 40 #[.agg #[.int .i64 c0.cells, .int .i64 c0.tides, .slice qa0 na0 ca0, .slice qa1 na1 ca1, .slice qa2 na2 ca2], .int .i64 after1, .int .i64 ford2] w (fun en w' => ∃ l : VL, en = .returned (sL l) ∧ (VOK 1 l.n l.cap (RI.enc res) l.sp l.q) ∧ HV w (keys [] []) [] [vL 3 l (RI.enc res)] [] w') := by
  unfold yY at hm
  refine qU func40 Y ntmps40 Y (e := [(0, _), (1, _), (2, _)]) Y hw (jr ?_)
  refine jI Y Y (fun b h2 => ?_)
  refine jc Y Y Y (fun _ _ => kd Y) (qe (zT [_, _, _, _, _] 0 isAgg33 sizeOf33 Y Y Y Y ?_))
  obtain ⟨t14, h3, hm⟩ := bindO hm
  refine jd [] [] Y Y Y Y Y Y Y call90 (fun w hh => z1 c0 qa0 na0 ca0 qa1 na1 ca1 qa2 na2 ca2 w (HV.callee (S0 := []) (vs0 := []) hh (roR hh 0 Y (roR hh 1 Y (roR hh 2 Y roN)))) hna0 hqa0 hla0 hna1 hqa1 hla1 hna2 hqa2 hla2 h3) (fun l h4 => ?_)
  obtain ⟨h5, h6⟩ := h4
  refine kC (S' := [_]) (vs' := [_]) [0] [0] 0 Y Y Y Y (jm Y Y (qe (zT [_, _, _, _, _] 0 isAgg33 sizeOf33 Y Y Y Y ?_)))
  obtain ⟨t16, h7, hm⟩ := bindO hm
  refine jd [] [] Y Y Y Y Y Y Y call91 (fun w hh => QW c0 qa0 na0 ca0 qa1 na1 ca1 qa2 na2 ca2 w (HV.callee (S0 := []) (vs0 := []) hh (roR hh 0 Y (roR hh 1 Y (roR hh 2 Y roN)))) hna0 hqa0 hla0 hna1 hqa1 hla1 hna2 hqa2 hla2 h7) (fun l_1 h8 => ?_)
  obtain ⟨h9, h10⟩ := h8
  refine kC (S' := [_]) (vs' := [_, _]) [0] [0, 1] 0 Y Y Y Y (jm Y Y (qe (jc Y Y Y (fun _ _ => kd Y) (jp (jj (jr (jm Y Y ?_)))))))
  refine jp (yk 3 ?_)
  obtain ⟨o, h11, h12⟩ := bindO hm
  refine jE (ι := VL) (fun l_2 => VOK 1 l_2.n l_2.cap (RI.enc o) l_2.sp l_2.q) (fun l_2 => [(9, sL l_2)]) (fun l_2 => [kc b #[.int .i64 c0.cells, .int .i64 c0.tides, .slice qa0 na0 ca0, .slice qa1 na1 ca1, .slice qa2 na2 ca2] 33]) (fun l_2 => [vL 3 l_2 (RI.enc o)]) ?_ ?_
  ·replace hm := h11
   refine jl ?_
   refine jG (ι := VL) hm (fun s l_3 => VOK 1 l_3.n l_3.cap (RI.enc s.out9) l_3.sp l_3.q) (fun s l_3 => [(1, .int .i64 after1), (2, .int .i64 ford2), (3, ptr b 0), (7, sL l.v), (8, sL l_1.v), (9, sL l_3), (10, .int .i64 s.x10)]) (fun s l_3 => [kc b #[.int .i64 c0.cells, .int .i64 c0.tides, .slice qa0 na0 ca0, .slice qa1 na1 ca1, .slice qa2 na2 ca2] 33]) (fun s l_3 => [⟨22, RwH.enc l.rs, l.v.sp, l.v.q, dbl 3 RI t14 l.rs⟩, ⟨114, RwH.enc l_1.rs, l_1.v.sp, l_1.v.q, dbl 4 RB t16 l_1.rs⟩, vL 3 l_3 (RI.enc s.out9)]) ⟨none, 0, 0, []⟩ (VOK.nil) (sE Y) (hsE [0] [2, 1, 0] 0 Y Y Y Y) (fun s l_3 r hpl hm h15 => ?_)
   have h14 := hpl
   unfold qk at hm
   refine jj (jr (jh Y Y (qC 0 runUnderlying33 Y sizeOf3 Y Y (qf 0 isAgg3 Y Y Y Y (JC Y Y Y (jp ?_))))))
   refine jt Y (fun h16 => ?_) (fun h16 => ?_)
   ·replace hm := ifD h16 hm
    refine js (ja (jj ?_))
    obtain ⟨o_1, h17, h18⟩ := bindO hm
    refine jE (ι := VL) (fun l_4 => VOK 1 l_4.n l_4.cap (RI.enc o_1) l_4.sp l_4.q) (fun l_4 => [(1, .int .i64 after1), (2, .int .i64 ford2), (3, ptr b 0), (7, sL l.v), (8, sL l_1.v), (9, sL l_4), (10, .int .i64 s.x10)]) (fun l_4 => [kc b #[.int .i64 c0.cells, .int .i64 c0.tides, .slice qa0 na0 ca0, .slice qa1 na1 ca1, .slice qa2 na2 ca2] 33]) (fun l_4 => [⟨22, RwH.enc l.rs, l.v.sp, l.v.q, dbl 3 RI t14 l.rs⟩, ⟨114, RwH.enc l_1.rs, l_1.v.sp, l_1.v.q, dbl 4 RB t16 l_1.rs⟩, vL 3 l_4 (RI.enc o_1)]) ?_ ?_
    ·replace hm := h17
     refine jl (jr (jm Y Y (jp (jj (jr (jm Y Y (jp ?_)))))))
     obtain ⟨o_2, h20, h21⟩ := bindO hm
     refine jE (ι := Unit) (fun l_5 => True) (fun l_5 => [(1, .int .i64 after1), (2, .int .i64 ford2), (3, ptr b 0), (7, sL l.v), (8, sL l_1.v), (9, sL l_3), (10, .int .i64 s.x10), (11, .bool o_2)]) (fun l_5 => [kc b #[.int .i64 c0.cells, .int .i64 c0.tides, .slice qa0 na0 ca0, .slice qa1 na1 ca1, .slice qa2 na2 ca2] 33]) (fun l_5 => [⟨22, RwH.enc l.rs, l.v.sp, l.v.q, dbl 3 RI t14 l.rs⟩, ⟨114, RwH.enc l_1.rs, l_1.v.sp, l_1.v.q, dbl 4 RB t16 l_1.rs⟩, vL 3 l_3 (RI.enc s.out9)]) ?_ ?_
     ·replace hm := h20
      refine jl ?_
      refine jG (ι := Unit) hm (fun s_1 l_6 => True) (fun s_1 l_6 => [(1, .int .i64 after1), (2, .int .i64 ford2), (3, ptr b 0), (7, sL l.v), (8, sL l_1.v), (9, sL l_3), (10, .int .i64 s.x10), (11, .bool s_1.is11), (12, .int .i64 s_1.a12)]) (fun s_1 l_6 => [kc b #[.int .i64 c0.cells, .int .i64 c0.tides, .slice qa0 na0 ca0, .slice qa1 na1 ca1, .slice qa2 na2 ca2] 33]) (fun s_1 l_6 => [⟨22, RwH.enc l.rs, l.v.sp, l.v.q, dbl 3 RI t14 l.rs⟩, ⟨114, RwH.enc l_1.rs, l_1.v.sp, l_1.v.q, dbl 4 RB t16 l_1.rs⟩, vL 3 l_3 (RI.enc s.out9)]) () (trivial) (sE Y) (fun w hh => hh) (fun s_1 l_6 r_1 hpl hm h22 => ?_)
      unfold qh at hm
      refine jj (jr (jh Y Y (jh Y Y (jc Y Y Y (fun w _ => JO (Eq.trans (h6).len (vlen RwH h5 Y)) (runUnderlying41 w) Y) (JC Y Y Y (jp ?_))))))
      refine jt Y (fun h23 => ?_) (fun h23 => ?_)
      ·replace hm := ifD h23 hm
       refine js (ja (jj ?_))
       obtain ⟨o_3, h24, h25⟩ := bindO hm
       refine jE (ι := Unit) (fun l_7 => True) (fun l_7 => [(1, .int .i64 after1), (2, .int .i64 ford2), (3, ptr b 0), (7, sL l.v), (8, sL l_1.v), (9, sL l_3), (10, .int .i64 s.x10), (11, .bool o_3), (12, .int .i64 s_1.a12)]) (fun l_7 => [kc b #[.int .i64 c0.cells, .int .i64 c0.tides, .slice qa0 na0 ca0, .slice qa1 na1 ca1, .slice qa2 na2 ca2] 33]) (fun l_7 => [⟨22, RwH.enc l.rs, l.v.sp, l.v.q, dbl 3 RI t14 l.rs⟩, ⟨114, RwH.enc l_1.rs, l_1.v.sp, l_1.v.q, dbl 4 RB t16 l_1.rs⟩, vL 3 l_3 (RI.enc s.out9)]) ?_ ?_
       ·replace hm := h24
        refine jl (je (jh Y Y (jh Y Y ?_)))
        refine jM 30 Y (fun h26 => ?_) (fun h26 => ?_)
        ·replace hm := ifT (h26) hm
         refine g_k Y Y Y Y (g_k Y Y Y Y (g_k Y Y Y Y (g_k Y Y Y Y (g_k Y Y Y Y (g_k Y Y Y Y (g_k Y Y Y Y (g_k Y Y Y Y ?_)))))))
         refine qt Y Y Y Y Y ?_
         refine qt Y Y Y Y Y ?_
         refine qt Y Y Y Y Y ?_
         refine qt Y Y Y Y Y ?_
         refine qt Y Y Y Y Y ?_
         refine qt Y Y Y Y Y ?_
         refine qt Y Y Y Y Y ?_
         refine qt Y Y Y Y Y ?_
         refine qt Y Y Y Y Y ?_
         refine g_k Y Y Y Y (yF Y Y Y (jm Y Y (ju (jv ?_))))
         obtain rfl := sj hm
         exact ji () (trivial) (sE Y) (fun w hh => hh)
        replace hm := ifN h26 hm
        refine jb Y Y (jh Y Y (jb Y Y (jh Y Y (jb Y Y ?_))))
        obtain ⟨t33, h27, hm⟩ := bindO hm
        obtain ⟨L, h28, h29⟩ := (h10).row h27
        refine jc Y Y Y (fun w _ => qV h28 (runUnderlying143 w) (sizeOf114 w) Y Y (vlen RwH h9 Y) (vne h9)) (jb Y Y (jc Y Y Y (fun w hh => kA RwH 0 h28 (isAgg114 w) Y (hh.vseg 1 Y h9) Y (Nat.add_zero _).symm) (jb Y Y (jh Y Y (jb Y Y ?_)))))
        obtain ⟨t36, h30, hm⟩ := bindO hm
        refine jc Y Y Y (fun w _ => qV h30 (runUnderlying114 w) (sizeOf4 w) Y Y (vlen RB h29 Y) (vne h29)) (jb Y Y (jc Y Y Y (fun w hh => kA RB 0 h30 (isAgg4 w) Y (hh.dseg 1 Y h27 h28 h29) Y (Nat.add_zero _).symm) (jb Y Y (jh Y Y ?_))))
        refine jM 38 Y (fun h31 => ?_) (fun h31 => ?_)
        ·replace hm := ifT (h31) hm
         refine jb Y Y (jh Y Y (jb Y Y (jh Y Y (jb Y Y ?_))))
         obtain ⟨t41, h32, hm⟩ := bindO hm
         obtain ⟨L_1, h33, h34⟩ := (h6).row h32
         refine jc Y Y Y (fun w _ => qV h33 (runUnderlying41 w) (sizeOf22 w) Y Y (vlen RwH h5 Y) (vne h5)) (jb Y Y (jc Y Y Y (fun w hh => kA RwH 0 h33 (isAgg22 w) Y (hh.vseg 0 Y h5) Y (Nat.add_zero _).symm) (jb Y Y (jh Y Y (jb Y Y ?_)))))
         obtain ⟨t44, h35, hm⟩ := bindO hm
         refine jc Y Y Y (fun w _ => qV h35 (runUnderlying22 w) (sizeOf3 w) Y Y (vlen RI h34 Y) (vne h34)) (jb Y Y (jc Y Y Y (fun w hh => kA RI 0 h35 (isAgg3 w) Y (hh.dseg 0 Y h32 h33 h34) Y (Nat.add_zero _).symm) (jb Y Y (jh Y Y (jb Y Y (jc Y Y Y (fun _ _ => zf Y Y) (jb Y Y ?_)))))))
         refine yF Y Y Y (qE Y Y Y (jm Y Y (ju (jv ?_))))
         obtain rfl := sj hm
         exact ji () (trivial) (sE Y) (fun w hh => hh)
        replace hm := ifN h31 hm
        refine g_k Y Y Y Y (g_k Y Y Y Y (g_k Y Y Y Y (g_k Y Y Y Y (g_k Y Y Y Y (g_k Y Y Y Y (g_k Y Y Y Y (g_k Y Y Y Y ?_)))))))
        refine g_k Y Y Y Y (jb Y Y (qE Y Y Y (qE Y Y Y (jm Y Y (ju (jv ?_))))))
        obtain rfl := sj hm
        exact ji () (trivial) (sE Y) (fun w hh => hh)
       intro l_7 hj
       replace hm := h25
       refine ja (je (jh Y Y ?_))
       obtain ⟨t28, h36, hm⟩ := bindO hm
       refine JB h36 Y Y Y (jm Y Y (ju ?_))
       obtain rfl := sj hm
       refine ja ?_
       exact jA _ () Y (trivial) (sE Y) (fun w hh => hh)
      replace hm := ifE h23 hm
      refine jQ (jk (jk (jC ?_)))
      obtain rfl := sj hm
      have hbo := h22 _ Y
      subst hbo
      exact ji () (trivial) (sE Y) (fun w hh => hh)
     intro l_5 hj
     replace hm := h21
     refine ja (jr (jh Y Y (jp ?_)))
     refine jt Y (fun h37 => ?_) (fun h37 => ?_)
     ·replace hm := ifT (h37) hm
      refine je (jh Y Y (jh Y Y ?_))
      refine qo RI [s.x10] (ps := [(0, _)]) (cells := [_]) (fun w => runUnderlying22 w) (fun w => sizeOf3 w) (fun w => zeroValue3 w) Y Y Y Y Y Y Y Y (fun L_2 h38 => ?_)
      obtain ⟨t54, h39, hm⟩ := bindO hm
      refine zE RI 3 h39 underlying22 KX Y Y Y Y Y h14 Y Y (vlen RI h38 Y) (AOK.q (vne h38)) (fun w hh => (hh.vsegA 0 Y h38)) Y (fun L_3 h40 h40n => ?_)
      refine kC (S' := [_]) (vs' := [_, _, _, _]) [0] [0, 1, 2, 3] 0 Y Y Y Y (jm Y Y (ju (jv ?_)))
      obtain rfl := sj hm
      exact ji L_3 (h40) (sE Y) (hsE [0] [1, 2, 3] 0 Y Y Y Y)
     replace hm := ifN h37 hm
     refine js (jv ?_)
     obtain rfl := sj hm
     exact ji l_3 (h14) (sE Y) (fun w hh => hh)
    intro l_4 hj
    have h19 := hj
    replace hm := h18
    refine ja (je (jh Y Y ?_))
    obtain ⟨t22, h41, hm⟩ := bindO hm
    refine JB h41 Y Y Y (jm Y Y (ju ?_))
    obtain rfl := sj hm
    refine ja ?_
    exact jA _ l_4 Y (h19) (sE Y) (fun w hh => hh)
   replace hm := ifE h16 hm
   refine jQ (jk (jk (jC ?_)))
   obtain rfl := sj hm
   have hbo := h15 _ Y
   subst hbo
   exact ji l_3 (h14) (sE Y) (hsE [0] [2] 0 Y Y Y Y)
  intro l_2 hj
  have h13 := hj
  replace hm := h12
  refine ja (jr (jh Y Y (jm Y Y (jp (jw ?_)))))
  obtain rfl := sj hm
  refine jn Y (fun w hh => (.tmp Y .nil)) (fun w hh => ⟨l_2, rfl, h13, hh.se [] [0] 3 Y Y Y rfl⟩)
end Go.Proofs.Wb

namespace Go.Proofs.Wb
set_option maxHeartbeats 4000000
set_option maxRecDepth 100000
open Go Go.Fw Go.Gx Go.Sb
open Tryz
set_option linter.unusedVariables false

structure Jh where
  r0 : (List Int)
  r1 : (List Int)
structure Ko where
  sure8 : (List Int)
  bare9 : (List Int)
structure qF where
  x10 : Int
  sure8 : (List Int)
  bare9 : (List Int)
structure Ku where
  sure8 : (List Int)
  bare9 : (List Int)
structure Ks where
  always11 : Bool
  never12 : Bool
structure yN where
  always11 : Bool
  never12 : Bool
  a13 : Int
structure zX where
  always11 : Bool
  never12 : Bool
def k9 (t15 : (List (List Int))) (t17 : (List (List Bool))) (after1 : Int) (s : qF) (s_1 : yN) : Option (yN ⊕ Ks) :=
 if s_1.a13 < (t15.length : Int) then
 (((ix t17 after1).bind fun t32 =>
 (ix t32 s_1.a13).bind fun t35 =>
 if t35 = true then
 ((if s_1.always11 = true then
 ((ix t15 s_1.a13).bind fun t41 =>
 (yb t41 s.x10).bind fun t44 =>
 some t44) else
 (some false)).bind fun o_4 =>
 if s_1.never12 = true then
 ((ix t15 s_1.a13).bind fun t50 =>
 (yb t50 s.x10).bind fun t53 =>
 some (⟨o_4, (!t53)⟩ : zX)) else
 (some (⟨o_4, false⟩ : zX))) else
 (some (⟨s_1.always11, s_1.never12⟩ : zX))).bind fun o_3 =>
 (addc s_1.a13 1).bind fun t29 =>
 some (.inl (⟨o_3.always11, o_3.never12, t29⟩ : yN))) else
 (some (.inr (⟨s_1.always11, s_1.never12⟩ : Ks)))
def kZ (c0 : Channel) (t15 : (List (List Int))) (t17 : (List (List Bool))) (after1 : Int) (s : qF) : Option (qF ⊕ Ko) :=
 if s.x10 < c0.cells then
 (((iterM FU (k9 t15 t17 after1 s) (⟨true, true, 0⟩ : yN)).bind fun o_2 =>
 (if o_2.always11 = true then
 ((appc 8 s.sure8 [s.x10]).bind fun t60 =>
 some t60) else
 (some s.sure8)).bind fun o_5 =>
 if o_2.never12 = true then
 ((appc 8 s.bare9 [s.x10]).bind fun t65 =>
 some (⟨o_5, t65⟩ : Ku)) else
 (some (⟨o_5, s.bare9⟩ : Ku))).bind fun o_1 =>
 (addc s.x10 1).bind fun t23 =>
 some (.inl (⟨t23, o_1.sure8, o_1.bare9⟩ : qF))) else
 (some (.inr (⟨s.sure8, s.bare9⟩ : Ko)))
def yJ (c0 : Channel) (after1 : Int) : Option Jh :=
 (kX c0).bind fun t15 =>
 (zn c0).bind fun t17 =>
 (iterM FU (kZ c0 t15 t17 after1) (⟨0, [], []⟩ : qF)).bind fun o =>
 some (⟨o.sure8, o.bare9⟩ : Jh)
theorem Yq (c0 : Channel) (after1 : Int) (qa0 : Option Addr) (na0 ca0 : Nat) (qa1 : Option Addr) (na1 ca1 : Nat) (qa2 : Option Addr) (na2 ca2 : Nat) (w : World) (hw : HV w (keys [] []) [] [] [(aB qa0, aO qa0, RI.enc c0.fords), (aB qa1, aO qa1, RSa.enc c0.sands), (aB qa2, aO qa2, RSi.enc c0.sights)] w) (hna0 : c0.fords.length = na0) (hqa0 : AOK na0 qa0) (hla0 : na0 ≤ ca0) (hna1 : c0.sands.length = na1) (hqa1 : AOK na1 qa1) (hla1 : na1 ≤ ca1) (hna2 : c0.sights.length = na2) (hqa2 : AOK na2 qa2) (hla2 : na2 ≤ ca2) {res : Jh} (hm : yJ c0 after1 = some res) :
    Calls Tryz.prog 41 #[.agg #[.int .i64 c0.cells, .int .i64 c0.tides, .slice qa0 na0 ca0, .slice qa1 na1 ca1, .slice qa2 na2 ca2], .int .i64 after1] w (fun en w' => ∃ l : VL × VL, en = .returned (.tuple #[sL l.1, sL l.2]) ∧ (VOK 1 l.1.n l.1.cap (RI.enc res.r0) l.1.sp l.1.q ∧ VOK 1 l.2.n l.2.cap (RI.enc res.r1) l.2.sp l.2.q) ∧ HV w (keys [] []) [] [vL 3 l.1 (RI.enc res.r0), vL 3 l.2 (RI.enc res.r1)] [] w') := by
  unfold yJ at hm
  refine qU func41 Y ntmps41 Y (e := [(0, _), (1, _)]) Y hw (jr ?_)
  refine jI Y Y (fun b h3 => ?_)
  refine jc Y Y Y (fun _ _ => kd Y) (jc Y Y Y (fun _ _ => kd Y) (qe (zT [_, _, _, _, _] 0 isAgg33 sizeOf33 Y Y Y Y ?_)))
  obtain ⟨t15, h4, hm⟩ := bindO hm
  refine jd [] [] Y Y Y Y Y Y Y call90 (fun w hh => z1 c0 qa0 na0 ca0 qa1 na1 ca1 qa2 na2 ca2 w (HV.callee (S0 := []) (vs0 := []) hh (roR hh 0 Y (roR hh 1 Y (roR hh 2 Y roN)))) hna0 hqa0 hla0 hna1 hqa1 hla1 hna2 hqa2 hla2 h4) (fun l h5 => ?_)
  obtain ⟨h6, h7⟩ := h5
  refine kC (S' := [_]) (vs' := [_]) [0] [0] 0 Y Y Y Y (jm Y Y (qe (zT [_, _, _, _, _] 0 isAgg33 sizeOf33 Y Y Y Y ?_)))
  obtain ⟨t17, h8, hm⟩ := bindO hm
  refine jd [] [] Y Y Y Y Y Y Y call91 (fun w hh => QW c0 qa0 na0 ca0 qa1 na1 ca1 qa2 na2 ca2 w (HV.callee (S0 := []) (vs0 := []) hh (roR hh 0 Y (roR hh 1 Y (roR hh 2 Y roN)))) hna0 hqa0 hla0 hna1 hqa1 hla1 hna2 hqa2 hla2 h8) (fun l_1 h9 => ?_)
  obtain ⟨h10, h11⟩ := h9
  refine kC (S' := [_]) (vs' := [_, _]) [0] [0, 1] 0 Y Y Y Y (jm Y Y (qe (jc Y Y Y (fun _ _ => kd Y) (jc Y Y Y (fun _ _ => kd Y) (jp (jj (jr ?_)))))))
  refine jm Y Y (jp (yk 3 (yk 3 ?_)))
  obtain ⟨o, h12, h13⟩ := bindO hm
  refine jE (ι := VL × VL) (fun l_2 => VOK 1 l_2.1.n l_2.1.cap (RI.enc o.sure8) l_2.1.sp l_2.1.q ∧ VOK 1 l_2.2.n l_2.2.cap (RI.enc o.bare9) l_2.2.sp l_2.2.q) (fun l_2 => [(8, sL l_2.1), (9, sL l_2.2)]) (fun l_2 => [kc b #[.int .i64 c0.cells, .int .i64 c0.tides, .slice qa0 na0 ca0, .slice qa1 na1 ca1, .slice qa2 na2 ca2] 33]) (fun l_2 => [vL 3 l_2.1 (RI.enc o.sure8), vL 3 l_2.2 (RI.enc o.bare9)]) ?_ ?_
  ·replace hm := h12
   refine jl ?_
   refine jG (ι := VL × VL) hm (fun s l_3 => VOK 1 l_3.1.n l_3.1.cap (RI.enc s.sure8) l_3.1.sp l_3.1.q ∧ VOK 1 l_3.2.n l_3.2.cap (RI.enc s.bare9) l_3.2.sp l_3.2.q) (fun s l_3 => [(1, .int .i64 after1), (2, ptr b 0), (6, sL l.v), (7, sL l_1.v), (8, sL l_3.1), (9, sL l_3.2), (10, .int .i64 s.x10)]) (fun s l_3 => [kc b #[.int .i64 c0.cells, .int .i64 c0.tides, .slice qa0 na0 ca0, .slice qa1 na1 ca1, .slice qa2 na2 ca2] 33]) (fun s l_3 => [⟨22, RwH.enc l.rs, l.v.sp, l.v.q, dbl 3 RI t15 l.rs⟩, ⟨114, RwH.enc l_1.rs, l_1.v.sp, l_1.v.q, dbl 4 RB t17 l_1.rs⟩, vL 3 l_3.1 (RI.enc s.sure8), vL 3 l_3.2 (RI.enc s.bare9)]) (⟨none, 0, 0, []⟩, ⟨none, 0, 0, []⟩) (⟨VOK.nil, VOK.nil⟩) (sE Y) (hsE [0] [3, 2, 1, 0] 0 Y Y Y Y) (fun s l_3 r hpl hm h18 => ?_)
   obtain ⟨h16, h17⟩ := hpl
   unfold kZ at hm
   refine jj (jr (jh Y Y (qC 0 runUnderlying33 Y sizeOf3 Y Y (qf 0 isAgg3 Y Y Y Y (JC Y Y Y (jp ?_))))))
   refine jt Y (fun h19 => ?_) (fun h19 => ?_)
   ·replace hm := ifD h19 hm
    refine js (ja (jj ?_))
    obtain ⟨o_1, h20, h21⟩ := bindO hm
    refine jE (ι := VL × VL) (fun l_4 => VOK 1 l_4.1.n l_4.1.cap (RI.enc o_1.sure8) l_4.1.sp l_4.1.q ∧ VOK 1 l_4.2.n l_4.2.cap (RI.enc o_1.bare9) l_4.2.sp l_4.2.q) (fun l_4 => [(1, .int .i64 after1), (2, ptr b 0), (6, sL l.v), (7, sL l_1.v), (8, sL l_4.1), (9, sL l_4.2), (10, .int .i64 s.x10)]) (fun l_4 => [kc b #[.int .i64 c0.cells, .int .i64 c0.tides, .slice qa0 na0 ca0, .slice qa1 na1 ca1, .slice qa2 na2 ca2] 33]) (fun l_4 => [⟨22, RwH.enc l.rs, l.v.sp, l.v.q, dbl 3 RI t15 l.rs⟩, ⟨114, RwH.enc l_1.rs, l_1.v.sp, l_1.v.q, dbl 4 RB t17 l_1.rs⟩, vL 3 l_4.1 (RI.enc o_1.sure8), vL 3 l_4.2 (RI.enc o_1.bare9)]) ?_ ?_
    ·replace hm := h20
     refine jl (jr (jm Y Y (jm Y Y (jp (jj (jr (jm Y Y ?_)))))))
     refine jp ?_
     obtain ⟨o_2, h24, h25⟩ := bindO hm
     refine jE (ι := Unit) (fun l_5 => True) (fun l_5 => [(1, .int .i64 after1), (2, ptr b 0), (6, sL l.v), (7, sL l_1.v), (8, sL l_3.1), (9, sL l_3.2), (10, .int .i64 s.x10), (11, .bool o_2.always11), (12, .bool o_2.never12)]) (fun l_5 => [kc b #[.int .i64 c0.cells, .int .i64 c0.tides, .slice qa0 na0 ca0, .slice qa1 na1 ca1, .slice qa2 na2 ca2] 33]) (fun l_5 => [⟨22, RwH.enc l.rs, l.v.sp, l.v.q, dbl 3 RI t15 l.rs⟩, ⟨114, RwH.enc l_1.rs, l_1.v.sp, l_1.v.q, dbl 4 RB t17 l_1.rs⟩, vL 3 l_3.1 (RI.enc s.sure8), vL 3 l_3.2 (RI.enc s.bare9)]) ?_ ?_
     ·replace hm := h24
      refine jl ?_
      refine jG (ι := Unit) hm (fun s_1 l_6 => True) (fun s_1 l_6 => [(1, .int .i64 after1), (2, ptr b 0), (6, sL l.v), (7, sL l_1.v), (8, sL l_3.1), (9, sL l_3.2), (10, .int .i64 s.x10), (11, .bool s_1.always11), (12, .bool s_1.never12), (13, .int .i64 s_1.a13)]) (fun s_1 l_6 => [kc b #[.int .i64 c0.cells, .int .i64 c0.tides, .slice qa0 na0 ca0, .slice qa1 na1 ca1, .slice qa2 na2 ca2] 33]) (fun s_1 l_6 => [⟨22, RwH.enc l.rs, l.v.sp, l.v.q, dbl 3 RI t15 l.rs⟩, ⟨114, RwH.enc l_1.rs, l_1.v.sp, l_1.v.q, dbl 4 RB t17 l_1.rs⟩, vL 3 l_3.1 (RI.enc s.sure8), vL 3 l_3.2 (RI.enc s.bare9)]) () (trivial) (sE Y) (fun w hh => hh) (fun s_1 l_6 r_1 hpl hm h26 => ?_)
      unfold k9 at hm
      refine jj (jr (jh Y Y (jh Y Y (jc Y Y Y (fun w _ => JO (Eq.trans (h7).len (vlen RwH h6 Y)) (runUnderlying41 w) Y) (JC Y Y Y (jp ?_))))))
      refine jt Y (fun h27 => ?_) (fun h27 => ?_)
      ·replace hm := ifD h27 hm
       refine js (ja (jj ?_))
       obtain ⟨o_3, h28, h29⟩ := bindO hm
       refine jE (ι := Unit) (fun l_7 => True) (fun l_7 => [(1, .int .i64 after1), (2, ptr b 0), (6, sL l.v), (7, sL l_1.v), (8, sL l_3.1), (9, sL l_3.2), (10, .int .i64 s.x10), (11, .bool o_3.always11), (12, .bool o_3.never12), (13, .int .i64 s_1.a13)]) (fun l_7 => [kc b #[.int .i64 c0.cells, .int .i64 c0.tides, .slice qa0 na0 ca0, .slice qa1 na1 ca1, .slice qa2 na2 ca2] 33]) (fun l_7 => [⟨22, RwH.enc l.rs, l.v.sp, l.v.q, dbl 3 RI t15 l.rs⟩, ⟨114, RwH.enc l_1.rs, l_1.v.sp, l_1.v.q, dbl 4 RB t17 l_1.rs⟩, vL 3 l_3.1 (RI.enc s.sure8), vL 3 l_3.2 (RI.enc s.bare9)]) ?_ ?_
       ·replace hm := h28
        refine jl (jr (jh Y Y (jh Y Y ?_)))
        obtain ⟨t32, h30, hm⟩ := bindO hm
        obtain ⟨L, h31, h32⟩ := (h11).row h30
        refine jc Y Y Y (fun w _ => qV h31 (runUnderlying143 w) (sizeOf114 w) Y Y (vlen RwH h10 Y) (vne h10)) (jc Y Y Y (fun w hh => kA RwH 0 h31 (isAgg114 w) Y (hh.vseg 1 Y h10) Y (Nat.add_zero _).symm) (jh Y Y ?_))
        obtain ⟨t35, h33, hm⟩ := bindO hm
        refine jc Y Y Y (fun w _ => qV h33 (runUnderlying114 w) (sizeOf4 w) Y Y (vlen RB h32 Y) (vne h32)) (jc Y Y Y (fun w hh => kA RB 0 h33 (isAgg4 w) Y (hh.dseg 1 Y h30 h31 h32) Y (Nat.add_zero _).symm) (jp ?_))
        refine jt Y (fun h34 => ?_) (fun h34 => ?_)
        ·replace hm := ifT (h34) hm
         refine jj ?_
         obtain ⟨o_4, h35, h36⟩ := bindO hm
         refine jE (ι := Unit) (fun l_8 => True) (fun l_8 => [(1, .int .i64 after1), (2, ptr b 0), (6, sL l.v), (7, sL l_1.v), (8, sL l_3.1), (9, sL l_3.2), (10, .int .i64 s.x10), (11, .bool o_4), (12, .bool s_1.never12), (13, .int .i64 s_1.a13)]) (fun l_8 => [kc b #[.int .i64 c0.cells, .int .i64 c0.tides, .slice qa0 na0 ca0, .slice qa1 na1 ca1, .slice qa2 na2 ca2] 33]) (fun l_8 => [⟨22, RwH.enc l.rs, l.v.sp, l.v.q, dbl 3 RI t15 l.rs⟩, ⟨114, RwH.enc l_1.rs, l_1.v.sp, l_1.v.q, dbl 4 RB t17 l_1.rs⟩, vL 3 l_3.1 (RI.enc s.sure8), vL 3 l_3.2 (RI.enc s.bare9)]) ?_ ?_
         ·replace hm := h35
          refine je (jh Y Y (jh Y Y ?_))
          refine jM 38 Y (fun h37 => ?_) (fun h37 => ?_)
          ·replace hm := ifT (h37) hm
           refine jb Y Y (jh Y Y (jb Y Y (jh Y Y (jb Y Y ?_))))
           obtain ⟨t41, h38, hm⟩ := bindO hm
           obtain ⟨L_1, h39, h40⟩ := (h7).row h38
           refine jc Y Y Y (fun w _ => qV h39 (runUnderlying41 w) (sizeOf22 w) Y Y (vlen RwH h6 Y) (vne h6)) (jb Y Y (jc Y Y Y (fun w hh => kA RwH 0 h39 (isAgg22 w) Y (hh.vseg 0 Y h6) Y (Nat.add_zero _).symm) (jb Y Y (jh Y Y (jb Y Y ?_)))))
           obtain ⟨t44, h41, hm⟩ := bindO hm
           refine jd [] [] Y Y Y Y Y Y Y call105 (fun w hh => KH t41 s.x10 (qA L_1.q) L_1.n L_1.cap w (HV.callee (S0 := []) (vs0 := []) hh (roC (hh.dsepA (S0 := []) (vs0 := []) 0 Y h38 h39 h40) roN)) (vlen RI h40 Y) (AOK.q (vne h40)) (h40).hle h41) (fun l_9 h42 => ?_)
           refine yF Y Y Y (jm Y Y (ju ?_))
           obtain rfl := sj hm
           exact ji () (trivial) (sE Y) (fun w hh => hh)
          replace hm := ifN h37 hm
          refine g_k Y Y Y Y (g_k Y Y Y Y (g_k Y Y Y Y (g_k Y Y Y Y (g_k Y Y Y Y (g_k Y Y Y Y (qE Y Y Y (jm Y Y ?_)))))))
          refine ju ?_
          obtain rfl := sj hm
          exact ji () (trivial) (sE Y) (fun w hh => hh)
         intro l_8 hj
         replace hm := h36
         refine ja (je (jh Y Y (jh Y Y ?_)))
         refine jM 47 Y (fun h43 => ?_) (fun h43 => ?_)
         ·replace hm := ifT (h43) hm
          refine jb Y Y (jh Y Y (jb Y Y (jh Y Y (jb Y Y ?_))))
          obtain ⟨t50, h44, hm⟩ := bindO hm
          obtain ⟨L_2, h45, h46⟩ := (h7).row h44
          refine jc Y Y Y (fun w _ => qV h45 (runUnderlying41 w) (sizeOf22 w) Y Y (vlen RwH h6 Y) (vne h6)) (jb Y Y (jc Y Y Y (fun w hh => kA RwH 0 h45 (isAgg22 w) Y (hh.vseg 0 Y h6) Y (Nat.add_zero _).symm) (jb Y Y (jh Y Y (jb Y Y ?_)))))
          obtain ⟨t53, h47, hm⟩ := bindO hm
          refine jd [] [] Y Y Y Y Y Y Y call105 (fun w hh => KH t50 s.x10 (qA L_2.q) L_2.n L_2.cap w (HV.callee (S0 := []) (vs0 := []) hh (roC (hh.dsepA (S0 := []) (vs0 := []) 0 Y h44 h45 h46) roN)) (vlen RI h46 Y) (AOK.q (vne h46)) (h46).hle h47) (fun l_10 h48 => ?_)
          refine jb Y Y (jc Y Y Y (fun _ _ => zL Y) (yF Y Y Y (jm Y Y (ju (jv ?_)))))
          obtain rfl := sj hm
          exact ji () (trivial) (sE Y) (fun w hh => hh)
         replace hm := ifN h43 hm
         refine g_k Y Y Y Y (g_k Y Y Y Y (g_k Y Y Y Y (g_k Y Y Y Y (g_k Y Y Y Y (g_k Y Y Y Y (g_k Y Y Y Y (qE Y Y Y ?_)))))))
         refine jm Y Y (ju (jv ?_))
         obtain rfl := sj hm
         exact ji () (trivial) (sE Y) (fun w hh => hh)
        replace hm := ifN h34 hm
        refine js (jv ?_)
        obtain rfl := sj hm
        exact ji () (trivial) (sE Y) (fun w hh => hh)
       intro l_7 hj
       replace hm := h29
       refine ja (je (jh Y Y ?_))
       obtain ⟨t29, h49, hm⟩ := bindO hm
       refine JB h49 Y Y Y (jm Y Y (ju ?_))
       obtain rfl := sj hm
       refine ja ?_
       exact jA _ () Y (trivial) (sE Y) (fun w hh => hh)
      replace hm := ifE h27 hm
      refine jQ (jk (jk (jC ?_)))
      obtain rfl := sj hm
      have hbo := h26 _ Y
      subst hbo
      exact ji () (trivial) (sE Y) (fun w hh => hh)
     intro l_5 hj
     replace hm := h25
     refine ja (jj ?_)
     obtain ⟨o_5, h50, h51⟩ := bindO hm
     refine jE (ι := VL) (fun l_11 => VOK 1 l_11.n l_11.cap (RI.enc o_5) l_11.sp l_11.q) (fun l_11 => [(1, .int .i64 after1), (2, ptr b 0), (6, sL l.v), (7, sL l_1.v), (8, sL l_11), (9, sL l_3.2), (10, .int .i64 s.x10), (12, .bool o_2.never12)]) (fun l_11 => [kc b #[.int .i64 c0.cells, .int .i64 c0.tides, .slice qa0 na0 ca0, .slice qa1 na1 ca1, .slice qa2 na2 ca2] 33]) (fun l_11 => [⟨22, RwH.enc l.rs, l.v.sp, l.v.q, dbl 3 RI t15 l.rs⟩, ⟨114, RwH.enc l_1.rs, l_1.v.sp, l_1.v.q, dbl 4 RB t17 l_1.rs⟩, vL 3 l_11 (RI.enc o_5), vL 3 l_3.2 (RI.enc s.bare9)]) ?_ ?_
     ·replace hm := h50
      refine jr (jh Y Y (jp ?_))
      refine jt Y (fun h53 => ?_) (fun h53 => ?_)
      ·replace hm := ifT (h53) hm
       refine je (jh Y Y (jh Y Y ?_))
       refine qo RI [s.x10] (ps := [(0, _)]) (cells := [_]) (fun w => runUnderlying22 w) (fun w => sizeOf3 w) (fun w => zeroValue3 w) Y Y Y Y Y Y Y Y (fun L_3 h54 => ?_)
       obtain ⟨t60, h55, hm⟩ := bindO hm
       refine zE RI 3 h55 underlying22 KX Y Y Y Y Y h16 Y Y (vlen RI h54 Y) (AOK.q (vne h54)) (fun w hh => (hh.vsegA 0 Y h54)) Y (fun L_4 h56 h56n => ?_)
       refine kC (S' := [_]) (vs' := [_, _, _, _, _]) [0] [0, 1, 2, 3, 4] 0 Y Y Y Y (jm Y Y (ju ?_))
       obtain rfl := sj hm
       exact ji L_4 (h56) (sE Y) (hsE [0] [1, 2, 3, 4] 0 Y Y Y Y)
      replace hm := ifN h53 hm
      refine js ?_
      obtain rfl := sj hm
      exact ji l_3.1 (h16) (sE Y) (fun w hh => hh)
     intro l_11 hj
     have h52 := hj
     replace hm := h51
     refine ja (jr (jh Y Y (jp ?_)))
     refine jt Y (fun h57 => ?_) (fun h57 => ?_)
     ·replace hm := ifT (h57) hm
      refine je (jh Y Y (jh Y Y ?_))
      refine qo RI [s.x10] (ps := [(0, _)]) (cells := [_]) (fun w => runUnderlying22 w) (fun w => sizeOf3 w) (fun w => zeroValue3 w) Y Y Y Y Y Y Y Y (fun L_5 h58 => ?_)
      obtain ⟨t65, h59, hm⟩ := bindO hm
      refine zE RI 4 h59 underlying22 KX Y Y Y Y Y h17 Y Y (vlen RI h58 Y) (AOK.q (vne h58)) (fun w hh => (hh.vsegA 0 Y h58)) Y (fun L_6 h60 h60n => ?_)
      refine kC (S' := [_]) (vs' := [_, _, _, _, _]) [0] [0, 1, 2, 3, 4] 0 Y Y Y Y (jm Y Y (ju (jv ?_)))
      obtain rfl := sj hm
      exact ji (l_11, L_6) (⟨h52, h60⟩) (sE Y) (hsE [0] [1, 2, 3, 4] 0 Y Y Y Y)
     replace hm := ifN h57 hm
     refine js (jv ?_)
     obtain rfl := sj hm
     exact ji (l_11, l_3.2) (⟨h52, h17⟩) (sE Y) (fun w hh => hh)
    intro l_4 hj
    obtain ⟨h22, h23⟩ := hj
    replace hm := h21
    refine ja (je (jh Y Y ?_))
    obtain ⟨t23, h61, hm⟩ := bindO hm
    refine JB h61 Y Y Y (jm Y Y (ju ?_))
    obtain rfl := sj hm
    refine ja ?_
    exact jA _ (l_4.1, l_4.2) Y (⟨h22, h23⟩) (sE Y) (fun w hh => hh)
   replace hm := ifE h19 hm
   refine jQ (jk (jk (jC ?_)))
   obtain rfl := sj hm
   have hbo := h18 _ Y
   subst hbo
   exact ji (l_3.1, l_3.2) (⟨h16, h17⟩) (sE Y) (hsE [0] [2, 3] 0 Y Y Y Y)
  intro l_2 hj
  obtain ⟨h14, h15⟩ := hj
  replace hm := h13
  refine ja (jr (jh Y Y (jh Y Y (jm Y Y (jm Y Y (jp (jw ?_)))))))
  obtain rfl := sj hm
  refine jn Y (fun w hh => (.tmp Y (.tmp Y .nil))) (fun w hh => ⟨(l_2.1, l_2.2), rfl, ⟨h14, h15⟩, hh.se [] [0, 1] 3 Y Y Y rfl⟩)
def KB (with0 : Int) (of1 : Int) : Option Bool :=
 some (decide (with0 = of1))
theorem Zr (with0 : Int) (of1 : Int)  (w : World) (hw : HV w (keys [] []) [] [] [] w)  {res : Bool} (hm : KB with0 of1 = some res) :
    Calls Tryz.prog 116 #[.int .i64 with0, .int .i64 of1] w (fun en w' => ∃ l : Unit, en = .returned (.bool res) ∧ (True) ∧ HV w (keys [] []) [] [] [] w') := by
  unfold KB at hm
  refine qU func116 Y ntmps116 Y (e := [(0, _), (1, _)]) Y hw (jr (jm Y Y (qe (jh Y Y (jh Y Y (jc Y Y Y (fun _ _ => zf Y Y) (jm Y Y ?_)))))))
  refine jp (jw ?_)
  obtain rfl := sj hm
  refine jn Y (fun w hh => (.tmp Y .nil)) (fun w hh => ⟨(), rfl, trivial, hh⟩)
structure yR where
  r1 : Int
  r0 : (List Int)
structure zw where
  t38 : Int
  out11 : (List Int)
structure Jq where
  n13 : Int
  t46 : Int
def yu (t43 : (List State)) (t29b : jT) (c0 : Channel) (s : zw) (s_1 : Jq) : Option (Jq ⊕ Int) :=
 if s_1.t46 < (t43.length : Int) then
 (((ix t43 s_1.t46).bind fun t48 =>
 (km t29b.t14_0 t29b.t14_1 c0.fords c0.sands c0.sights t29b.t14_5 (⟨t48.after, (⟨t48.at_.c0, t48.at_.c1, t48.at_.c2⟩ : Cells)⟩ : State)).bind fun t52 =>
 (kb t52 s.t38).bind fun t54 =>
 if t54 = true then
 ((addc s_1.n13 1).bind fun t56 =>
 some t56) else
 (some s_1.n13)).bind fun o_3 =>
 (addc s_1.t46 1).bind fun t57 =>
 some (.inl (⟨o_3, t57⟩ : Jq))) else
 (some (.inr s_1.n13))
def yr (c0 : Channel) (t29b : jT) (after1 : Int) (s : zw) : Option (zw ⊕ (List Int)) :=
 if s.t38 < c0.cells then
 (((ix t29b.r1 after1).bind fun t43 =>
 (iterM FU (yu t43 t29b c0 s) (⟨0, 0⟩ : Jq)).bind fun o_2 =>
 (ix t29b.r1 after1).bind fun t62 =>
 (KB o_2 (t62.length : Int)).bind fun t65 =>
 if t65 = true then
 ((appc 8 s.out11 [s.t38]).bind fun t69 =>
 some t69) else
 (some s.out11)).bind fun o_1 =>
 (addc s.t38 1).bind fun t70 =>
 some (.inl (⟨t70, o_1⟩ : zw))) else
 (some (.inr s.out11))
def KA (c0 : Channel) (after1 : Int) : Option yR :=
 (yf c0).bind fun t17 =>
 if t17 = 0 then
 ((j6 c0 after1).bind fun t25 =>
 if (!t25) = true then
 (some (⟨3, []⟩ : yR)) else
 ((qq c0).bind fun t29 =>
 oc t29 (fun t29a => some (⟨t29a, []⟩ : yR)) (fun t29b => (iterM FU (yr c0 t29b after1) (⟨0, []⟩ : zw)).bind fun o =>
 some (⟨0, o⟩ : yR)))) else
 (some (⟨t17, []⟩ : yR))
theorem Zs (c0 : Channel) (after1 : Int) (qa0 : Option Addr) (na0 ca0 : Nat) (qa1 : Option Addr) (na1 ca1 : Nat) (qa2 : Option Addr) (na2 ca2 : Nat) (w : World) (hw : HV w (keys [] []) [] [] [(aB qa0, aO qa0, RI.enc c0.fords), (aB qa1, aO qa1, RSa.enc c0.sands), (aB qa2, aO qa2, RSi.enc c0.sights)] w) (hna0 : c0.fords.length = na0) (hqa0 : AOK na0 qa0) (hla0 : na0 ≤ ca0) (hna1 : c0.sands.length = na1) (hqa1 : AOK na1 qa1) (hla1 : na1 ≤ ca1) (hna2 : c0.sights.length = na2) (hqa2 : AOK na2 qa2) (hla2 : na2 ≤ ca2) {res : yR} (hm : KA c0 after1 = some res) :
    Calls Tryz.prog 115 #[.agg #[.int .i64 c0.cells, .int .i64 c0.tides, .slice qa0 na0 ca0, .slice qa1 na1 ca1, .slice qa2 na2 ca2], .int .i64 after1, .func (.func 116) #[] #[]] w (fun en w' => ∃ l : VL, en = .returned (.tuple #[sL l, .int .i64 res.r1]) ∧ (VOK 1 l.n l.cap (RI.enc res.r0) l.sp l.q) ∧ HV w (keys [] []) [] [vL 3 l (RI.enc res.r0)] [] w') := by
  unfold KA at hm
  refine qU func115 Y ntmps115 Y (e := [(0, _), (1, _), (2, _)]) Y hw (jr ?_)
  refine jI Y Y (fun b h2 => ?_)
  refine jc Y Y Y (fun _ _ => kd Y) (jm Y Y (qe (zT [_, _, _, _, _] 0 isAgg26 sizeOf26 Y Y Y Y ?_)))
  obtain ⟨t17, h3, hm⟩ := bindO hm
  refine jd [] [] Y Y Y Y Y Y Y call55 (fun w hh => JY c0 qa0 na0 ca0 qa1 na1 ca1 qa2 na2 ca2 w (HV.callee (S0 := []) (vs0 := []) hh (roR hh 0 Y (roR hh 1 Y (roR hh 2 Y roN)))) hna0 hqa0 hla0 hna1 hqa1 hla1 hna2 hqa2 hla2 h3) (fun l h4 => ?_)
  refine jm Y Y (jp (jj (jl (jr (jh Y Y (jc Y Y Y (fun _ _ => Kh Y Y) (jm Y Y ?_)))))))
  refine jp ?_
  refine jt Y (fun h5 => ?_) (fun h5 => ?_)
  ·replace hm := ifF (of_ndec_true h5) hm
   refine jr (jh Y Y (jc Y Y Y (fun _ _ => kd Y) (jm Y Y (jp (jw (jz (jg ?_)))))))
   refine yk 3 ?_
   obtain rfl := sj hm
   refine jn Y (fun w hh => (.tmp Y (.tmp Y .nil))) (fun w hh => ⟨⟨none, 0, 0, []⟩, rfl, VOK.nil, hh.se [] [0] 3 Y Y Y rfl⟩)
  replace hm := ifT (of_ndec_false h5) hm
  refine jr (zT [_, _, _, _, _] 0 isAgg26 sizeOf26 Y Y Y Y (jh Y Y ?_))
  obtain ⟨t25, h6, hm⟩ := bindO hm
  refine jd [] [] Y Y Y Y Y Y Y call112 (fun w hh => za c0 after1 qa0 na0 ca0 qa1 na1 ca1 qa2 na2 ca2 w (HV.callee (S0 := []) (vs0 := []) hh (roR hh 0 Y (roR hh 1 Y (roR hh 2 Y roN)))) hna0 hqa0 hla0 hna1 hqa1 hla1 hna2 hqa2 hla2 h6) (fun l_1 h7 => ?_)
  refine jc Y Y Y (fun _ _ => zL Y) (jm Y Y (jp ?_))
  refine jt Y (fun h8 => ?_) (fun h8 => ?_)
  ·replace hm := ifT (h8) hm
   refine jr (jc Y Y Y (fun _ _ => kd Y) (jm Y Y (jp (jw (jz (jg (yk 3 ?_)))))))
   obtain rfl := sj hm
   refine jn Y (fun w hh => (.tmp Y (.tmp Y .nil))) (fun w hh => ⟨⟨none, 0, 0, []⟩, rfl, VOK.nil, hh.se [] [0] 3 Y Y Y rfl⟩)
  replace hm := ifN h8 hm
  refine js (jv (ja (jr (zT [_, _, _, _, _] 0 isAgg26 sizeOf26 Y Y Y Y ?_))))
  obtain ⟨t29, h9, hm⟩ := bindO hm
  rcases t29 with t29a | t29b
  ·replace hm := ocL hm
   refine jd [] [] Y Y Y Y Y Y Y call95 (fun w hh => kx c0 qa0 na0 ca0 qa1 na1 ca1 qa2 na2 ca2 w (HV.callee (S0 := []) (vs0 := []) hh (roR hh 0 Y (roR hh 1 Y (roR hh 2 Y roN)))) hna0 hqa0 hla0 hna1 hqa1 hla1 hna2 hqa2 hla2 h9) (fun l_2 h10 => ?_)
   have h11 := h10
   refine jh Y Y (zJ Y Y Y (zJ Y Y Y (zJ Y Y Y (jm Y Y (jm Y Y (jm Y Y (jp ?_)))))))
   refine jj (jr (jh Y Y (jc Y Y Y (fun _ _ => YX h11 Y Y) (jp (J8 Y Y (jr (jh Y Y ?_)))))))
   refine jc Y Y Y (fun _ _ => kd Y) (jm Y Y (jp (jw (jg (yk 3 ?_)))))
   obtain rfl := sj hm
   refine jn Y (fun w hh => (.tmp Y (.tmp Y .nil))) (fun w hh => ⟨⟨none, 0, 0, []⟩, rfl, VOK.nil, hh.se [] [0] 3 Y Y Y rfl⟩)
  replace hm := ocR hm
  refine jd [] [] Y Y Y Y Y Y Y call95 (fun w hh => kx c0 qa0 na0 ca0 qa1 na1 ca1 qa2 na2 ca2 w (HV.callee (S0 := []) (vs0 := []) hh (roR hh 0 Y (roR hh 1 Y (roR hh 2 Y roN)))) hna0 hqa0 hla0 hna1 hqa1 hla1 hna2 hqa2 hla2 h9) (fun l_3 h12 => ?_)
  obtain ⟨h13, h14, h15⟩ := h12
  refine kC (S' := [_, _]) (vs' := [_, _]) [0, 1] [0, 1] 0 Y Y Y Y (jh Y Y (zJ Y Y Y (zJ Y Y Y (zJ Y Y Y (jm Y Y (jm Y Y (jm Y Y ?_)))))))
  refine jp (jj (jr (jh Y Y (jc Y Y Y (fun _ _ => Kh Y Y) (jp (J9 Y Y (js ?_)))))))
  refine ja (jr (jc Y Y Y (fun _ _ => kd Y) (jp (jj (jr (qC 0 runUnderlying26 Y sizeOf3 Y Y (qf 1 isAgg3 Y Y Y Y ?_)))))))
  refine jh Y Y (jp (yk 3 ?_))
  obtain ⟨o, h16, h17⟩ := bindO hm
  refine jE (ι := VL) (fun l_4 => VOK 1 l_4.n l_4.cap (RI.enc o) l_4.sp l_4.q) (fun l_4 => [(11, sL l_4)]) (fun l_4 => [kc l_3.1 #[.int .i64 t29b.t14_0, .int .i64 t29b.t14_1, .slice qa0 na0 ca0, .slice qa1 na1 ca1, .slice qa2 na2 ca2, sL l_3.2.2] 175, kc b #[.int .i64 c0.cells, .int .i64 c0.tides, .slice qa0 na0 ca0, .slice qa1 na1 ca1, .slice qa2 na2 ca2] 26]) (fun l_4 => [vL 3 l_4 (RI.enc o), vL 3 l_3.2.2 (RI.enc t29b.t14_5)]) ?_ ?_
  ·replace hm := h16
   refine jl ?_
   refine jG (ι := VL) hm (fun s l_5 => VOK 1 l_5.n l_5.cap (RI.enc s.out11) l_5.sp l_5.q) (fun s l_5 => [(1, .int .i64 after1), (2, .func (.func 116) #[] #[]), (9, ptr l_3.1 0), (10, sL l_3.2.1.v), (11, sL l_5), (37, .int .i64 c0.cells), (38, .int .i64 s.t38)]) (fun s l_5 => [kc l_3.1 #[.int .i64 t29b.t14_0, .int .i64 t29b.t14_1, .slice qa0 na0 ca0, .slice qa1 na1 ca1, .slice qa2 na2 ca2, sL l_3.2.2] 175, kc b #[.int .i64 c0.cells, .int .i64 c0.tides, .slice qa0 na0 ca0, .slice qa1 na1 ca1, .slice qa2 na2 ca2] 26]) (fun s l_5 => [⟨155, RwH.enc l_3.2.1.rs, l_3.2.1.v.sp, l_3.2.1.v.q, dbl 159 RSta t29b.r1 l_3.2.1.rs⟩, vL 3 l_5 (RI.enc s.out11), vL 3 l_3.2.2 (RI.enc t29b.t14_5)]) ⟨none, 0, 0, []⟩ (VOK.nil) (sE Y) (hsE [0, 1] [1, 0, 2] 0 Y Y Y Y) (fun s l_5 r hpl hm h20 => ?_)
   have h19 := hpl
   unfold yr at hm
   refine jr (JC Y Y Y (jp (jj ?_)))
   refine jt Y (fun h21 => ?_) (fun h21 => ?_)
   ·replace hm := ifD h21 hm
    refine js (ja (jj ?_))
    obtain ⟨o_1, h22, h23⟩ := bindO hm
    refine jE (ι := VL) (fun l_6 => VOK 1 l_6.n l_6.cap (RI.enc o_1) l_6.sp l_6.q) (fun l_6 => [(1, .int .i64 after1), (2, .func (.func 116) #[] #[]), (9, ptr l_3.1 0), (10, sL l_3.2.1.v), (11, sL l_6), (37, .int .i64 c0.cells), (38, .int .i64 s.t38)]) (fun l_6 => [kc l_3.1 #[.int .i64 t29b.t14_0, .int .i64 t29b.t14_1, .slice qa0 na0 ca0, .slice qa1 na1 ca1, .slice qa2 na2 ca2, sL l_3.2.2] 175, kc b #[.int .i64 c0.cells, .int .i64 c0.tides, .slice qa0 na0 ca0, .slice qa1 na1 ca1, .slice qa2 na2 ca2] 26]) (fun l_6 => [⟨155, RwH.enc l_3.2.1.rs, l_3.2.1.v.sp, l_3.2.1.v.q, dbl 159 RSta t29b.r1 l_3.2.1.rs⟩, vL 3 l_6 (RI.enc o_1), vL 3 l_3.2.2 (RI.enc t29b.t14_5)]) ?_ ?_
    ·replace hm := h22
     refine jl (jr (jh Y Y (jm Y Y (qe (jm Y Y (jp (jj ?_)))))))
     refine jr (jh Y Y (jh Y Y ?_))
     obtain ⟨t43, h25, hm⟩ := bindO hm
     obtain ⟨L, h26, h27⟩ := (h14).row h25
     refine jc Y Y Y (fun w _ => qV h26 (runUnderlying150 w) (sizeOf155 w) Y Y (vlen RwH h13 Y) (vne h13)) (jc Y Y Y (fun w hh => kA RwH 0 h26 (isAgg155 w) Y (hh.vseg 0 Y h13) Y (Nat.add_zero _).symm) (jc Y Y Y (fun w _ => JO (vlen RSta h27 Y) (runUnderlying155 w) Y) (jh Y Y (jp ?_))))
     obtain ⟨o_2, h28, h29⟩ := bindO hm
     refine jE (ι := Unit) (fun l_7 => True) (fun l_7 => [(1, .int .i64 after1), (2, .func (.func 116) #[] #[]), (9, ptr l_3.1 0), (10, sL l_3.2.1.v), (11, sL l_5), (12, .int .i64 s.t38), (13, .int .i64 o_2), (37, .int .i64 c0.cells), (38, .int .i64 s.t38)]) (fun l_7 => [kc l_3.1 #[.int .i64 t29b.t14_0, .int .i64 t29b.t14_1, .slice qa0 na0 ca0, .slice qa1 na1 ca1, .slice qa2 na2 ca2, sL l_3.2.2] 175, kc b #[.int .i64 c0.cells, .int .i64 c0.tides, .slice qa0 na0 ca0, .slice qa1 na1 ca1, .slice qa2 na2 ca2] 26]) (fun l_7 => [⟨155, RwH.enc l_3.2.1.rs, l_3.2.1.v.sp, l_3.2.1.v.q, dbl 159 RSta t29b.r1 l_3.2.1.rs⟩, vL 3 l_5 (RI.enc s.out11), vL 3 l_3.2.2 (RI.enc t29b.t14_5)]) ?_ ?_
     ·replace hm := h28
      refine jl ?_
      refine jG (ι := Unit) hm (fun s_1 l_8 => True) (fun s_1 l_8 => [(1, .int .i64 after1), (2, .func (.func 116) #[] #[]), (9, ptr l_3.1 0), (10, sL l_3.2.1.v), (11, sL l_5), (12, .int .i64 s.t38), (13, .int .i64 s_1.n13), (37, .int .i64 c0.cells), (38, .int .i64 s.t38), (44, sL L), (45, .int .i64 (t43.length : Int)), (46, .int .i64 s_1.t46)]) (fun s_1 l_8 => [kc l_3.1 #[.int .i64 t29b.t14_0, .int .i64 t29b.t14_1, .slice qa0 na0 ca0, .slice qa1 na1 ca1, .slice qa2 na2 ca2, sL l_3.2.2] 175, kc b #[.int .i64 c0.cells, .int .i64 c0.tides, .slice qa0 na0 ca0, .slice qa1 na1 ca1, .slice qa2 na2 ca2] 26]) (fun s_1 l_8 => [⟨155, RwH.enc l_3.2.1.rs, l_3.2.1.v.sp, l_3.2.1.v.q, dbl 159 RSta t29b.r1 l_3.2.1.rs⟩, vL 3 l_5 (RI.enc s.out11), vL 3 l_3.2.2 (RI.enc t29b.t14_5)]) () (trivial) (sE Y) (fun w hh => hh) (fun s_1 l_8 r_1 hpl hm h30 => ?_)
      unfold yu at hm
      refine jr (JC Y Y Y (jp (jj ?_)))
      refine jt Y (fun h31 => ?_) (fun h31 => ?_)
      ·replace hm := ifD h31 hm
       refine js (ja (jj ?_))
       obtain ⟨o_3, h32, h33⟩ := bindO hm
       refine jE (ι := Unit) (fun l_9 => True) (fun l_9 => [(1, .int .i64 after1), (2, .func (.func 116) #[] #[]), (9, ptr l_3.1 0), (10, sL l_3.2.1.v), (11, sL l_5), (12, .int .i64 s.t38), (13, .int .i64 o_3), (37, .int .i64 c0.cells), (38, .int .i64 s.t38), (44, sL L), (45, .int .i64 (t43.length : Int)), (46, .int .i64 s_1.t46)]) (fun l_9 => [kc l_3.1 #[.int .i64 t29b.t14_0, .int .i64 t29b.t14_1, .slice qa0 na0 ca0, .slice qa1 na1 ca1, .slice qa2 na2 ca2, sL l_3.2.2] 175, kc b #[.int .i64 c0.cells, .int .i64 c0.tides, .slice qa0 na0 ca0, .slice qa1 na1 ca1, .slice qa2 na2 ca2] 26]) (fun l_9 => [⟨155, RwH.enc l_3.2.1.rs, l_3.2.1.v.sp, l_3.2.1.v.q, dbl 159 RSta t29b.r1 l_3.2.1.rs⟩, vL 3 l_5 (RI.enc s.out11), vL 3 l_3.2.2 (RI.enc t29b.t14_5)]) ?_ ?_
       ·replace hm := h32
        refine jl (jr ?_)
        obtain ⟨t48, h34, hm⟩ := bindO hm
        refine jc Y Y Y (fun w _ => qV h34 (runUnderlying155 w) (sizeOf159 w) Y Y (vlen RSta h27 Y) (vne h27)) ?_
        refine jc Y Y Y (fun w hh => Jf RSta 0 [.int .i64 t48.after, .int .i64 t48.at_.c0, .int .i64 t48.at_.c1, .int .i64 t48.at_.c2] h34 (isAgg159 w) (sizeOf159 w) Y (hh.dseg 0 Y h25 h26 h27) Y (Nat.add_zero _).symm) ?_
        refine jx (fun w => zeroValue159 w) Y (fun b_1 h35 => ?_)
        refine kv (us := #[_, _, _, _]) (cs' := [_, _, _, _]) (S' := [_, _, _]) 0 (fun w => sizeOf159 w) Y Y Y Y Y Y Y (qe (jh Y Y (zT [_, _, _, _] 0 isAgg159 sizeOf159 Y Y Y Y ?_)))
        obtain ⟨t52, h36, hm⟩ := bindO hm
        refine jd [] [] Y Y Y Y Y Y Y call100 (fun w hh => yv t29b.t14_0 t29b.t14_1 c0.fords c0.sands c0.sights t29b.t14_5 (⟨t48.after, (⟨t48.at_.c0, t48.at_.c1, t48.at_.c2⟩ : Cells)⟩ : State) l_3.1 qa0 na0 ca0 qa1 na1 ca1 qa2 na2 ca2 (qA l_3.2.2.q) l_3.2.2.n l_3.2.2.cap w (HV.callee (S0 := []) (vs0 := []) hh (roC (bsep (hh.bseg 1 Y)) (roR hh 0 Y (roR hh 1 Y (roR hh 2 Y (roC (hh.vsepA 2 Y h15) roN)))))) hna0 hqa0 hla0 hna1 hqa1 hla1 hna2 hqa2 hla2 (vlen RI h15 Y) (AOK.q (vne h15)) (h15).hle h36) (fun l_10 h37 => ?_)
        have h38 := h37
        refine kC (S' := [_, _, _]) (vs' := [_, _, _, _]) [0, 1, 2] [0, 1, 2, 3] 0 Y Y Y Y (jh Y Y ?_)
        obtain ⟨t54, h39, hm⟩ := bindO hm
        refine jd [] [] Y Y Y Y Y Y Y call64 (fun w hh => yG t52 s.t38 (qA l_10.q) l_10.n l_10.cap w (HV.callee (S0 := []) (vs0 := []) hh (roC (hh.vsepA 0 Y h38) roN)) (vlen RI h38 Y) (AOK.q (vne h38)) (h38).hle h39) (fun l_11 h40 => ?_)
        refine jp ?_
        refine jt Y (fun h41 => ?_) (fun h41 => ?_)
        ·replace hm := ifT (h41) hm
         refine je (jh Y Y ?_)
         obtain ⟨t56, h42, hm⟩ := bindO hm
         refine JB h42 Y Y Y (jm Y Y (ju (jv ?_)))
         obtain rfl := sj hm
         exact ji () (trivial) (sE Y) (hsE [1, 2] [1, 2, 3] 0 Y Y Y Y)
        replace hm := ifN h41 hm
        refine js (jv ?_)
        obtain rfl := sj hm
        exact ji () (trivial) (sE Y) (hsE [1, 2] [1, 2, 3] 0 Y Y Y Y)
       intro l_9 hj
       replace hm := h33
       refine ja (je ?_)
       obtain ⟨t57, h43, hm⟩ := bindO hm
       refine JB h43 Y Y Y (jh Y Y (ju ?_))
       obtain rfl := sj hm
       refine ja ?_
       exact jA _ () Y (trivial) (sE Y) (fun w hh => hh)
      replace hm := ifE h31 hm
      refine jQ (jk (jk (jC ?_)))
      obtain rfl := sj hm
      have hbo := h30 _ Y
      subst hbo
      exact ji () (trivial) (sE Y) (fun w hh => hh)
     intro l_7 hj
     replace hm := h29
     refine ja (jr (jh Y Y (jh Y Y (jh Y Y (jh Y Y ?_)))))
     obtain ⟨t62, h44, hm⟩ := bindO hm
     obtain ⟨L_1, h45, h46⟩ := (h14).row h44
     refine jc Y Y Y (fun w _ => qV h45 (runUnderlying150 w) (sizeOf155 w) Y Y (vlen RwH h13 Y) (vne h13)) (jc Y Y Y (fun w hh => kA RwH 0 h45 (isAgg155 w) Y (hh.vseg 0 Y h13) Y (Nat.add_zero _).symm) (jc Y Y Y (fun w _ => JO (vlen RSta h46 Y) (runUnderlying155 w) Y) ?_))
     obtain ⟨t65, h47, hm⟩ := bindO hm
     refine jd [] [] Y Y Y Y Y Y Y call116 (fun w hh => Zr o_2 (t62.length : Int) w (HV.callee (S0 := []) (vs0 := []) hh roN)  h47) (fun l_12 h48 => ?_)
     refine jp ?_
     refine jt Y (fun h49 => ?_) (fun h49 => ?_)
     ·replace hm := ifT (h49) hm
      refine je (jh Y Y (jh Y Y ?_))
      refine qo RI [s.t38] (ps := [(0, _)]) (cells := [_]) (fun w => runUnderlying22 w) (fun w => sizeOf3 w) (fun w => zeroValue3 w) Y Y Y Y Y Y Y Y (fun L_2 h50 => ?_)
      obtain ⟨t69, h51, hm⟩ := bindO hm
      refine zE RI 2 h51 underlying22 KX Y Y Y Y Y h19 Y Y (vlen RI h50 Y) (AOK.q (vne h50)) (fun w hh => (hh.vsegA 0 Y h50)) Y (fun L_3 h52 h52n => ?_)
      refine kC (S' := [_, _]) (vs' := [_, _, _, _]) [0, 1] [0, 1, 2, 3] 0 Y Y Y Y (jm Y Y (ju (jv ?_)))
      obtain rfl := sj hm
      exact ji L_3 (h52) (sE Y) (hsE [0, 1] [1, 2, 3] 0 Y Y Y Y)
     replace hm := ifN h49 hm
     refine js (jv ?_)
     obtain rfl := sj hm
     exact ji l_5 (h19) (sE Y) (fun w hh => hh)
    intro l_6 hj
    have h24 := hj
    replace hm := h23
    refine ja (je ?_)
    obtain ⟨t70, h53, hm⟩ := bindO hm
    refine JB h53 Y Y Y (jh Y Y (ju ?_))
    obtain rfl := sj hm
    refine ja ?_
    exact jA _ l_6 Y (h24) (sE Y) (fun w hh => hh)
   replace hm := ifE h21 hm
   refine jQ (jk (jk (jC ?_)))
   obtain rfl := sj hm
   have hbo := h20 _ Y
   subst hbo
   exact ji l_5 (h19) (sE Y) (hsE [0, 1] [1, 2] 0 Y Y Y Y)
  intro l_4 hj
  have h18 := hj
  replace hm := h17
  refine ja (jr (jh Y Y (jm Y Y (jm Y Y (jp (jw ?_))))))
  obtain rfl := sj hm
  refine jn Y (fun w hh => (.tmp Y (.tmp Y .nil))) (fun w hh => ⟨l_4, rfl, h18, hh.se [] [0] 3 Y Y Y rfl⟩)
structure K6 where
  r1 : Int
  r0 : (List Int)
def Kx (c0 : Channel) (after1 : Int) : Option K6 :=
 (KA c0 after1).bind fun t8 =>
 some (⟨t8.r1, t8.r0⟩ : K6)
theorem ZY (c0 : Channel) (after1 : Int) (qa0 : Option Addr) (na0 ca0 : Nat) (qa1 : Option Addr) (na1 ca1 : Nat) (qa2 : Option Addr) (na2 ca2 : Nat) (w : World) (hw : HV w (keys [] []) [] [] [(aB qa0, aO qa0, RI.enc c0.fords), (aB qa1, aO qa1, RSa.enc c0.sands), (aB qa2, aO qa2, RSi.enc c0.sights)] w) (hna0 : c0.fords.length = na0) (hqa0 : AOK na0 qa0) (hla0 : na0 ≤ ca0) (hna1 : c0.sands.length = na1) (hqa1 : AOK na1 qa1) (hla1 : na1 ≤ ca1) (hna2 : c0.sights.length = na2) (hqa2 : AOK na2 qa2) (hla2 : na2 ≤ ca2) {res : K6} (hm : Kx c0 after1 = some res) :
    Calls Tryz.prog 43 #[.agg #[.int .i64 c0.cells, .int .i64 c0.tides, .slice qa0 na0 ca0, .slice qa1 na1 ca1, .slice qa2 na2 ca2], .int .i64 after1] w (fun en w' => ∃ l : VL, en = .returned (.tuple #[sL l, .int .i64 res.r1]) ∧ (VOK 1 l.n l.cap (RI.enc res.r0) l.sp l.q) ∧ HV w (keys [] []) [] [vL 3 l (RI.enc res.r0)] [] w') := by
  unfold Kx at hm
  refine qU func43 Y ntmps43 Y (e := [(0, _), (1, _)]) Y hw (jr ?_)
  refine jI Y Y (fun b h2 => ?_)
  refine jc Y Y Y (fun _ _ => kd Y) (jm Y Y (qe (zT [_, _, _, _, _] 0 isAgg26 sizeOf26 Y Y Y Y (jh Y Y ?_))))
  obtain ⟨t8, h3, hm⟩ := bindO hm
  refine jd [] [] Y Y Y Y Y Y Y call115 (fun w hh => Zs c0 after1 qa0 na0 ca0 qa1 na1 ca1 qa2 na2 ca2 w (HV.callee (S0 := []) (vs0 := []) hh (roR hh 0 Y (roR hh 1 Y (roR hh 2 Y roN)))) hna0 hqa0 hla0 hna1 hqa1 hla1 hna2 hqa2 hla2 h3) (fun l h4 => ?_)
  have h5 := h4
  refine kC (S' := [_]) (vs' := [_]) [0] [0] 0 Y Y Y Y (zJ Y Y Y (zJ Y Y Y (jm Y Y (jm Y Y (jp (jw ?_))))))
  obtain rfl := sj hm
  refine jn Y (fun w hh => (.tmp Y (.tmp Y .nil))) (fun w hh => ⟨l, rfl, h5, hh.se [] [0] 3 Y Y Y rfl⟩)
def Kq (with0 : Int) (of1 : Int) : Option Bool :=
 some (decide (with0 = 0))
theorem Zw (with0 : Int) (of1 : Int)  (w : World) (hw : HV w (keys [] []) [] [] [] w)  {res : Bool} (hm : Kq with0 of1 = some res) :
    Calls Tryz.prog 117 #[.int .i64 with0, .int .i64 of1] w (fun en w' => ∃ l : Unit, en = .returned (.bool res) ∧ (True) ∧ HV w (keys [] []) [] [] [] w') := by
  unfold Kq at hm
  refine qU func117 Y ntmps117 Y (e := [(0, _), (1, _)]) Y hw (jr (jm Y Y (qe (jh Y Y (jc Y Y Y (fun _ _ => zf Y Y) (jm Y Y (jp ?_)))))))
  refine jw ?_
  obtain rfl := sj hm
  refine jn Y (fun w hh => (.tmp Y .nil)) (fun w hh => ⟨(), rfl, trivial, hh⟩)
structure q7 where
  r1 : Int
  r0 : (List Int)
structure yE where
  t38 : Int
  out11 : (List Int)
structure zG where
  n13 : Int
  t46 : Int
def qS (t43 : (List State)) (t29b : jT) (c0 : Channel) (s : yE) (s_1 : zG) : Option (zG ⊕ Int) :=
 if s_1.t46 < (t43.length : Int) then
 (((ix t43 s_1.t46).bind fun t48 =>
 (km t29b.t14_0 t29b.t14_1 c0.fords c0.sands c0.sights t29b.t14_5 (⟨t48.after, (⟨t48.at_.c0, t48.at_.c1, t48.at_.c2⟩ : Cells)⟩ : State)).bind fun t52 =>
 (kb t52 s.t38).bind fun t54 =>
 if t54 = true then
 ((addc s_1.n13 1).bind fun t56 =>
 some t56) else
 (some s_1.n13)).bind fun o_3 =>
 (addc s_1.t46 1).bind fun t57 =>
 some (.inl (⟨o_3, t57⟩ : zG))) else
 (some (.inr s_1.n13))
def qT (c0 : Channel) (t29b : jT) (after1 : Int) (s : yE) : Option (yE ⊕ (List Int)) :=
 if s.t38 < c0.cells then
 (((ix t29b.r1 after1).bind fun t43 =>
 (iterM FU (qS t43 t29b c0 s) (⟨0, 0⟩ : zG)).bind fun o_2 =>
 (ix t29b.r1 after1).bind fun t62 =>
 (Kq o_2 (t62.length : Int)).bind fun t65 =>
 if t65 = true then
 ((appc 8 s.out11 [s.t38]).bind fun t69 =>
 some t69) else
 (some s.out11)).bind fun o_1 =>
 (addc s.t38 1).bind fun t70 =>
 some (.inl (⟨t70, o_1⟩ : yE))) else
 (some (.inr s.out11))
def JJ (c0 : Channel) (after1 : Int) : Option q7 :=
 (yf c0).bind fun t17 =>
 if t17 = 0 then
 ((j6 c0 after1).bind fun t25 =>
 if (!t25) = true then
 (some (⟨3, []⟩ : q7)) else
 ((qq c0).bind fun t29 =>
 oc t29 (fun t29a => some (⟨t29a, []⟩ : q7)) (fun t29b => (iterM FU (qT c0 t29b after1) (⟨0, []⟩ : yE)).bind fun o =>
 some (⟨0, o⟩ : q7)))) else
 (some (⟨t17, []⟩ : q7))
theorem Y5 (c0 : Channel) (after1 : Int) (qa0 : Option Addr) (na0 ca0 : Nat) (qa1 : Option Addr) (na1 ca1 : Nat) (qa2 : Option Addr) (na2 ca2 : Nat) (w : World) (hw : HV w (keys [] []) [] [] [(aB qa0, aO qa0, RI.enc c0.fords), (aB qa1, aO qa1, RSa.enc c0.sands), (aB qa2, aO qa2, RSi.enc c0.sights)] w) (hna0 : c0.fords.length = na0) (hqa0 : AOK na0 qa0) (hla0 : na0 ≤ ca0) (hna1 : c0.sands.length = na1) (hqa1 : AOK na1 qa1) (hla1 : na1 ≤ ca1) (hna2 : c0.sights.length = na2) (hqa2 : AOK na2 qa2) (hla2 : na2 ≤ ca2) {res : q7} (hm : JJ c0 after1 = some res) :
    Calls Tryz.prog 115 #[.agg #[.int .i64 c0.cells, .int .i64 c0.tides, .slice qa0 na0 ca0, .slice qa1 na1 ca1, .slice qa2 na2 ca2], .int .i64 after1, .func (.func 117) #[] #[]] w (fun en w' => ∃ l : VL, en = .returned (.tuple #[sL l, .int .i64 res.r1]) ∧ (VOK 1 l.n l.cap (RI.enc res.r0) l.sp l.q) ∧ HV w (keys [] []) [] [vL 3 l (RI.enc res.r0)] [] w') := by
  unfold JJ at hm
  refine qU func115 Y ntmps115 Y (e := [(0, _), (1, _), (2, _)]) Y hw (jr ?_)
  refine jI Y Y (fun b h2 => ?_)
  refine jc Y Y Y (fun _ _ => kd Y) (jm Y Y (qe (zT [_, _, _, _, _] 0 isAgg26 sizeOf26 Y Y Y Y ?_)))
  obtain ⟨t17, h3, hm⟩ := bindO hm
  refine jd [] [] Y Y Y Y Y Y Y call55 (fun w hh => JY c0 qa0 na0 ca0 qa1 na1 ca1 qa2 na2 ca2 w (HV.callee (S0 := []) (vs0 := []) hh (roR hh 0 Y (roR hh 1 Y (roR hh 2 Y roN)))) hna0 hqa0 hla0 hna1 hqa1 hla1 hna2 hqa2 hla2 h3) (fun l h4 => ?_)
  refine jm Y Y (jp (jj (jl (jr (jh Y Y (jc Y Y Y (fun _ _ => Kh Y Y) (jm Y Y ?_)))))))
  refine jp ?_
  refine jt Y (fun h5 => ?_) (fun h5 => ?_)
  ·replace hm := ifF (of_ndec_true h5) hm
   refine jr (jh Y Y (jc Y Y Y (fun _ _ => kd Y) (jm Y Y (jp (jw (jz (jg ?_)))))))
   refine yk 3 ?_
   obtain rfl := sj hm
   refine jn Y (fun w hh => (.tmp Y (.tmp Y .nil))) (fun w hh => ⟨⟨none, 0, 0, []⟩, rfl, VOK.nil, hh.se [] [0] 3 Y Y Y rfl⟩)
  replace hm := ifT (of_ndec_false h5) hm
  refine jr (zT [_, _, _, _, _] 0 isAgg26 sizeOf26 Y Y Y Y (jh Y Y ?_))
  obtain ⟨t25, h6, hm⟩ := bindO hm
  refine jd [] [] Y Y Y Y Y Y Y call112 (fun w hh => za c0 after1 qa0 na0 ca0 qa1 na1 ca1 qa2 na2 ca2 w (HV.callee (S0 := []) (vs0 := []) hh (roR hh 0 Y (roR hh 1 Y (roR hh 2 Y roN)))) hna0 hqa0 hla0 hna1 hqa1 hla1 hna2 hqa2 hla2 h6) (fun l_1 h7 => ?_)
  refine jc Y Y Y (fun _ _ => zL Y) (jm Y Y (jp ?_))
  refine jt Y (fun h8 => ?_) (fun h8 => ?_)
  ·replace hm := ifT (h8) hm
   refine jr (jc Y Y Y (fun _ _ => kd Y) (jm Y Y (jp (jw (jz (jg (yk 3 ?_)))))))
   obtain rfl := sj hm
   refine jn Y (fun w hh => (.tmp Y (.tmp Y .nil))) (fun w hh => ⟨⟨none, 0, 0, []⟩, rfl, VOK.nil, hh.se [] [0] 3 Y Y Y rfl⟩)
  replace hm := ifN h8 hm
  refine js (jv (ja (jr (zT [_, _, _, _, _] 0 isAgg26 sizeOf26 Y Y Y Y ?_))))
  obtain ⟨t29, h9, hm⟩ := bindO hm
  rcases t29 with t29a | t29b
  ·replace hm := ocL hm
   refine jd [] [] Y Y Y Y Y Y Y call95 (fun w hh => kx c0 qa0 na0 ca0 qa1 na1 ca1 qa2 na2 ca2 w (HV.callee (S0 := []) (vs0 := []) hh (roR hh 0 Y (roR hh 1 Y (roR hh 2 Y roN)))) hna0 hqa0 hla0 hna1 hqa1 hla1 hna2 hqa2 hla2 h9) (fun l_2 h10 => ?_)
   have h11 := h10
   refine jh Y Y (zJ Y Y Y (zJ Y Y Y (zJ Y Y Y (jm Y Y (jm Y Y (jm Y Y (jp ?_)))))))
   refine jj (jr (jh Y Y (jc Y Y Y (fun _ _ => YX h11 Y Y) (jp (J8 Y Y (jr (jh Y Y ?_)))))))
   refine jc Y Y Y (fun _ _ => kd Y) (jm Y Y (jp (jw (jg (yk 3 ?_)))))
   obtain rfl := sj hm
   refine jn Y (fun w hh => (.tmp Y (.tmp Y .nil))) (fun w hh => ⟨⟨none, 0, 0, []⟩, rfl, VOK.nil, hh.se [] [0] 3 Y Y Y rfl⟩)
  replace hm := ocR hm
  refine jd [] [] Y Y Y Y Y Y Y call95 (fun w hh => kx c0 qa0 na0 ca0 qa1 na1 ca1 qa2 na2 ca2 w (HV.callee (S0 := []) (vs0 := []) hh (roR hh 0 Y (roR hh 1 Y (roR hh 2 Y roN)))) hna0 hqa0 hla0 hna1 hqa1 hla1 hna2 hqa2 hla2 h9) (fun l_3 h12 => ?_)
  obtain ⟨h13, h14, h15⟩ := h12
  refine kC (S' := [_, _]) (vs' := [_, _]) [0, 1] [0, 1] 0 Y Y Y Y (jh Y Y (zJ Y Y Y (zJ Y Y Y (zJ Y Y Y (jm Y Y (jm Y Y (jm Y Y ?_)))))))
  refine jp (jj (jr (jh Y Y (jc Y Y Y (fun _ _ => Kh Y Y) (jp (J9 Y Y (js ?_)))))))
  refine ja (jr (jc Y Y Y (fun _ _ => kd Y) (jp (jj (jr (qC 0 runUnderlying26 Y sizeOf3 Y Y (qf 1 isAgg3 Y Y Y Y ?_)))))))
  refine jh Y Y (jp (yk 3 ?_))
  obtain ⟨o, h16, h17⟩ := bindO hm
  refine jE (ι := VL) (fun l_4 => VOK 1 l_4.n l_4.cap (RI.enc o) l_4.sp l_4.q) (fun l_4 => [(11, sL l_4)]) (fun l_4 => [kc l_3.1 #[.int .i64 t29b.t14_0, .int .i64 t29b.t14_1, .slice qa0 na0 ca0, .slice qa1 na1 ca1, .slice qa2 na2 ca2, sL l_3.2.2] 175, kc b #[.int .i64 c0.cells, .int .i64 c0.tides, .slice qa0 na0 ca0, .slice qa1 na1 ca1, .slice qa2 na2 ca2] 26]) (fun l_4 => [vL 3 l_4 (RI.enc o), vL 3 l_3.2.2 (RI.enc t29b.t14_5)]) ?_ ?_
  ·replace hm := h16
   refine jl ?_
   refine jG (ι := VL) hm (fun s l_5 => VOK 1 l_5.n l_5.cap (RI.enc s.out11) l_5.sp l_5.q) (fun s l_5 => [(1, .int .i64 after1), (2, .func (.func 117) #[] #[]), (9, ptr l_3.1 0), (10, sL l_3.2.1.v), (11, sL l_5), (37, .int .i64 c0.cells), (38, .int .i64 s.t38)]) (fun s l_5 => [kc l_3.1 #[.int .i64 t29b.t14_0, .int .i64 t29b.t14_1, .slice qa0 na0 ca0, .slice qa1 na1 ca1, .slice qa2 na2 ca2, sL l_3.2.2] 175, kc b #[.int .i64 c0.cells, .int .i64 c0.tides, .slice qa0 na0 ca0, .slice qa1 na1 ca1, .slice qa2 na2 ca2] 26]) (fun s l_5 => [⟨155, RwH.enc l_3.2.1.rs, l_3.2.1.v.sp, l_3.2.1.v.q, dbl 159 RSta t29b.r1 l_3.2.1.rs⟩, vL 3 l_5 (RI.enc s.out11), vL 3 l_3.2.2 (RI.enc t29b.t14_5)]) ⟨none, 0, 0, []⟩ (VOK.nil) (sE Y) (hsE [0, 1] [1, 0, 2] 0 Y Y Y Y) (fun s l_5 r hpl hm h20 => ?_)
   have h19 := hpl
   unfold qT at hm
   refine jr (JC Y Y Y (jp (jj ?_)))
   refine jt Y (fun h21 => ?_) (fun h21 => ?_)
   ·replace hm := ifD h21 hm
    refine js (ja (jj ?_))
    obtain ⟨o_1, h22, h23⟩ := bindO hm
    refine jE (ι := VL) (fun l_6 => VOK 1 l_6.n l_6.cap (RI.enc o_1) l_6.sp l_6.q) (fun l_6 => [(1, .int .i64 after1), (2, .func (.func 117) #[] #[]), (9, ptr l_3.1 0), (10, sL l_3.2.1.v), (11, sL l_6), (37, .int .i64 c0.cells), (38, .int .i64 s.t38)]) (fun l_6 => [kc l_3.1 #[.int .i64 t29b.t14_0, .int .i64 t29b.t14_1, .slice qa0 na0 ca0, .slice qa1 na1 ca1, .slice qa2 na2 ca2, sL l_3.2.2] 175, kc b #[.int .i64 c0.cells, .int .i64 c0.tides, .slice qa0 na0 ca0, .slice qa1 na1 ca1, .slice qa2 na2 ca2] 26]) (fun l_6 => [⟨155, RwH.enc l_3.2.1.rs, l_3.2.1.v.sp, l_3.2.1.v.q, dbl 159 RSta t29b.r1 l_3.2.1.rs⟩, vL 3 l_6 (RI.enc o_1), vL 3 l_3.2.2 (RI.enc t29b.t14_5)]) ?_ ?_
    ·replace hm := h22
     refine jl (jr (jh Y Y (jm Y Y (qe (jm Y Y (jp (jj ?_)))))))
     refine jr (jh Y Y (jh Y Y ?_))
     obtain ⟨t43, h25, hm⟩ := bindO hm
     obtain ⟨L, h26, h27⟩ := (h14).row h25
     refine jc Y Y Y (fun w _ => qV h26 (runUnderlying150 w) (sizeOf155 w) Y Y (vlen RwH h13 Y) (vne h13)) (jc Y Y Y (fun w hh => kA RwH 0 h26 (isAgg155 w) Y (hh.vseg 0 Y h13) Y (Nat.add_zero _).symm) (jc Y Y Y (fun w _ => JO (vlen RSta h27 Y) (runUnderlying155 w) Y) (jh Y Y (jp ?_))))
     obtain ⟨o_2, h28, h29⟩ := bindO hm
     refine jE (ι := Unit) (fun l_7 => True) (fun l_7 => [(1, .int .i64 after1), (2, .func (.func 117) #[] #[]), (9, ptr l_3.1 0), (10, sL l_3.2.1.v), (11, sL l_5), (12, .int .i64 s.t38), (13, .int .i64 o_2), (37, .int .i64 c0.cells), (38, .int .i64 s.t38)]) (fun l_7 => [kc l_3.1 #[.int .i64 t29b.t14_0, .int .i64 t29b.t14_1, .slice qa0 na0 ca0, .slice qa1 na1 ca1, .slice qa2 na2 ca2, sL l_3.2.2] 175, kc b #[.int .i64 c0.cells, .int .i64 c0.tides, .slice qa0 na0 ca0, .slice qa1 na1 ca1, .slice qa2 na2 ca2] 26]) (fun l_7 => [⟨155, RwH.enc l_3.2.1.rs, l_3.2.1.v.sp, l_3.2.1.v.q, dbl 159 RSta t29b.r1 l_3.2.1.rs⟩, vL 3 l_5 (RI.enc s.out11), vL 3 l_3.2.2 (RI.enc t29b.t14_5)]) ?_ ?_
     ·replace hm := h28
      refine jl ?_
      refine jG (ι := Unit) hm (fun s_1 l_8 => True) (fun s_1 l_8 => [(1, .int .i64 after1), (2, .func (.func 117) #[] #[]), (9, ptr l_3.1 0), (10, sL l_3.2.1.v), (11, sL l_5), (12, .int .i64 s.t38), (13, .int .i64 s_1.n13), (37, .int .i64 c0.cells), (38, .int .i64 s.t38), (44, sL L), (45, .int .i64 (t43.length : Int)), (46, .int .i64 s_1.t46)]) (fun s_1 l_8 => [kc l_3.1 #[.int .i64 t29b.t14_0, .int .i64 t29b.t14_1, .slice qa0 na0 ca0, .slice qa1 na1 ca1, .slice qa2 na2 ca2, sL l_3.2.2] 175, kc b #[.int .i64 c0.cells, .int .i64 c0.tides, .slice qa0 na0 ca0, .slice qa1 na1 ca1, .slice qa2 na2 ca2] 26]) (fun s_1 l_8 => [⟨155, RwH.enc l_3.2.1.rs, l_3.2.1.v.sp, l_3.2.1.v.q, dbl 159 RSta t29b.r1 l_3.2.1.rs⟩, vL 3 l_5 (RI.enc s.out11), vL 3 l_3.2.2 (RI.enc t29b.t14_5)]) () (trivial) (sE Y) (fun w hh => hh) (fun s_1 l_8 r_1 hpl hm h30 => ?_)
      unfold qS at hm
      refine jr (JC Y Y Y (jp (jj ?_)))
      refine jt Y (fun h31 => ?_) (fun h31 => ?_)
      ·replace hm := ifD h31 hm
       refine js (ja (jj ?_))
       obtain ⟨o_3, h32, h33⟩ := bindO hm
       refine jE (ι := Unit) (fun l_9 => True) (fun l_9 => [(1, .int .i64 after1), (2, .func (.func 117) #[] #[]), (9, ptr l_3.1 0), (10, sL l_3.2.1.v), (11, sL l_5), (12, .int .i64 s.t38), (13, .int .i64 o_3), (37, .int .i64 c0.cells), (38, .int .i64 s.t38), (44, sL L), (45, .int .i64 (t43.length : Int)), (46, .int .i64 s_1.t46)]) (fun l_9 => [kc l_3.1 #[.int .i64 t29b.t14_0, .int .i64 t29b.t14_1, .slice qa0 na0 ca0, .slice qa1 na1 ca1, .slice qa2 na2 ca2, sL l_3.2.2] 175, kc b #[.int .i64 c0.cells, .int .i64 c0.tides, .slice qa0 na0 ca0, .slice qa1 na1 ca1, .slice qa2 na2 ca2] 26]) (fun l_9 => [⟨155, RwH.enc l_3.2.1.rs, l_3.2.1.v.sp, l_3.2.1.v.q, dbl 159 RSta t29b.r1 l_3.2.1.rs⟩, vL 3 l_5 (RI.enc s.out11), vL 3 l_3.2.2 (RI.enc t29b.t14_5)]) ?_ ?_
       ·replace hm := h32
        refine jl (jr ?_)
        obtain ⟨t48, h34, hm⟩ := bindO hm
        refine jc Y Y Y (fun w _ => qV h34 (runUnderlying155 w) (sizeOf159 w) Y Y (vlen RSta h27 Y) (vne h27)) ?_
        refine jc Y Y Y (fun w hh => Jf RSta 0 [.int .i64 t48.after, .int .i64 t48.at_.c0, .int .i64 t48.at_.c1, .int .i64 t48.at_.c2] h34 (isAgg159 w) (sizeOf159 w) Y (hh.dseg 0 Y h25 h26 h27) Y (Nat.add_zero _).symm) ?_
        refine jx (fun w => zeroValue159 w) Y (fun b_1 h35 => ?_)
        refine kv (us := #[_, _, _, _]) (cs' := [_, _, _, _]) (S' := [_, _, _]) 0 (fun w => sizeOf159 w) Y Y Y Y Y Y Y (qe (jh Y Y (zT [_, _, _, _] 0 isAgg159 sizeOf159 Y Y Y Y ?_)))
        obtain ⟨t52, h36, hm⟩ := bindO hm
        refine jd [] [] Y Y Y Y Y Y Y call100 (fun w hh => yv t29b.t14_0 t29b.t14_1 c0.fords c0.sands c0.sights t29b.t14_5 (⟨t48.after, (⟨t48.at_.c0, t48.at_.c1, t48.at_.c2⟩ : Cells)⟩ : State) l_3.1 qa0 na0 ca0 qa1 na1 ca1 qa2 na2 ca2 (qA l_3.2.2.q) l_3.2.2.n l_3.2.2.cap w (HV.callee (S0 := []) (vs0 := []) hh (roC (bsep (hh.bseg 1 Y)) (roR hh 0 Y (roR hh 1 Y (roR hh 2 Y (roC (hh.vsepA 2 Y h15) roN)))))) hna0 hqa0 hla0 hna1 hqa1 hla1 hna2 hqa2 hla2 (vlen RI h15 Y) (AOK.q (vne h15)) (h15).hle h36) (fun l_10 h37 => ?_)
        have h38 := h37
        refine kC (S' := [_, _, _]) (vs' := [_, _, _, _]) [0, 1, 2] [0, 1, 2, 3] 0 Y Y Y Y (jh Y Y ?_)
        obtain ⟨t54, h39, hm⟩ := bindO hm
        refine jd [] [] Y Y Y Y Y Y Y call64 (fun w hh => yG t52 s.t38 (qA l_10.q) l_10.n l_10.cap w (HV.callee (S0 := []) (vs0 := []) hh (roC (hh.vsepA 0 Y h38) roN)) (vlen RI h38 Y) (AOK.q (vne h38)) (h38).hle h39) (fun l_11 h40 => ?_)
        refine jp ?_
        refine jt Y (fun h41 => ?_) (fun h41 => ?_)
        ·replace hm := ifT (h41) hm
         refine je (jh Y Y ?_)
         obtain ⟨t56, h42, hm⟩ := bindO hm
         refine JB h42 Y Y Y (jm Y Y (ju (jv ?_)))
         obtain rfl := sj hm
         exact ji () (trivial) (sE Y) (hsE [1, 2] [1, 2, 3] 0 Y Y Y Y)
        replace hm := ifN h41 hm
        refine js (jv ?_)
        obtain rfl := sj hm
        exact ji () (trivial) (sE Y) (hsE [1, 2] [1, 2, 3] 0 Y Y Y Y)
       intro l_9 hj
       replace hm := h33
       refine ja (je ?_)
       obtain ⟨t57, h43, hm⟩ := bindO hm
       refine JB h43 Y Y Y (jh Y Y (ju ?_))
       obtain rfl := sj hm
       refine ja ?_
       exact jA _ () Y (trivial) (sE Y) (fun w hh => hh)
      replace hm := ifE h31 hm
      refine jQ (jk (jk (jC ?_)))
      obtain rfl := sj hm
      have hbo := h30 _ Y
      subst hbo
      exact ji () (trivial) (sE Y) (fun w hh => hh)
     intro l_7 hj
     replace hm := h29
     refine ja (jr (jh Y Y (jh Y Y (jh Y Y (jh Y Y ?_)))))
     obtain ⟨t62, h44, hm⟩ := bindO hm
     obtain ⟨L_1, h45, h46⟩ := (h14).row h44
     refine jc Y Y Y (fun w _ => qV h45 (runUnderlying150 w) (sizeOf155 w) Y Y (vlen RwH h13 Y) (vne h13)) (jc Y Y Y (fun w hh => kA RwH 0 h45 (isAgg155 w) Y (hh.vseg 0 Y h13) Y (Nat.add_zero _).symm) (jc Y Y Y (fun w _ => JO (vlen RSta h46 Y) (runUnderlying155 w) Y) ?_))
     obtain ⟨t65, h47, hm⟩ := bindO hm
     refine jd [] [] Y Y Y Y Y Y Y call117 (fun w hh => Zw o_2 (t62.length : Int) w (HV.callee (S0 := []) (vs0 := []) hh roN)  h47) (fun l_12 h48 => ?_)
     refine jp ?_
     refine jt Y (fun h49 => ?_) (fun h49 => ?_)
     ·replace hm := ifT (h49) hm
      refine je (jh Y Y (jh Y Y ?_))
      refine qo RI [s.t38] (ps := [(0, _)]) (cells := [_]) (fun w => runUnderlying22 w) (fun w => sizeOf3 w) (fun w => zeroValue3 w) Y Y Y Y Y Y Y Y (fun L_2 h50 => ?_)
      obtain ⟨t69, h51, hm⟩ := bindO hm
      refine zE RI 2 h51 underlying22 KX Y Y Y Y Y h19 Y Y (vlen RI h50 Y) (AOK.q (vne h50)) (fun w hh => (hh.vsegA 0 Y h50)) Y (fun L_3 h52 h52n => ?_)
      refine kC (S' := [_, _]) (vs' := [_, _, _, _]) [0, 1] [0, 1, 2, 3] 0 Y Y Y Y (jm Y Y (ju (jv ?_)))
      obtain rfl := sj hm
      exact ji L_3 (h52) (sE Y) (hsE [0, 1] [1, 2, 3] 0 Y Y Y Y)
     replace hm := ifN h49 hm
     refine js (jv ?_)
     obtain rfl := sj hm
     exact ji l_5 (h19) (sE Y) (fun w hh => hh)
    intro l_6 hj
    have h24 := hj
    replace hm := h23
    refine ja (je ?_)
    obtain ⟨t70, h53, hm⟩ := bindO hm
    refine JB h53 Y Y Y (jh Y Y (ju ?_))
    obtain rfl := sj hm
    refine ja ?_
    exact jA _ l_6 Y (h24) (sE Y) (fun w hh => hh)
   replace hm := ifE h21 hm
   refine jQ (jk (jk (jC ?_)))
   obtain rfl := sj hm
   have hbo := h20 _ Y
   subst hbo
   exact ji l_5 (h19) (sE Y) (hsE [0, 1] [1, 2] 0 Y Y Y Y)
  intro l_4 hj
  have h18 := hj
  replace hm := h17
  refine ja (jr (jh Y Y (jm Y Y (jm Y Y (jp (jw ?_))))))
  obtain rfl := sj hm
  refine jn Y (fun w hh => (.tmp Y (.tmp Y .nil))) (fun w hh => ⟨l_4, rfl, h18, hh.se [] [0] 3 Y Y Y rfl⟩)
structure Qc where
  r1 : Int
  r0 : (List Int)
def Kz (c0 : Channel) (after1 : Int) : Option Qc :=
 (JJ c0 after1).bind fun t8 =>
 some (⟨t8.r1, t8.r0⟩ : Qc)
theorem ZW (c0 : Channel) (after1 : Int) (qa0 : Option Addr) (na0 ca0 : Nat) (qa1 : Option Addr) (na1 ca1 : Nat) (qa2 : Option Addr) (na2 ca2 : Nat) (w : World) (hw : HV w (keys [] []) [] [] [(aB qa0, aO qa0, RI.enc c0.fords), (aB qa1, aO qa1, RSa.enc c0.sands), (aB qa2, aO qa2, RSi.enc c0.sights)] w) (hna0 : c0.fords.length = na0) (hqa0 : AOK na0 qa0) (hla0 : na0 ≤ ca0) (hna1 : c0.sands.length = na1) (hqa1 : AOK na1 qa1) (hla1 : na1 ≤ ca1) (hna2 : c0.sights.length = na2) (hqa2 : AOK na2 qa2) (hla2 : na2 ≤ ca2) {res : Qc} (hm : Kz c0 after1 = some res) :
    Calls Tryz.prog 44 #[.agg #[.int .i64 c0.cells, .int .i64 c0.tides, .slice qa0 na0 ca0, .slice qa1 na1 ca1, .slice qa2 na2 ca2], .int .i64 after1] w (fun en w' => ∃ l : VL, en = .returned (.tuple #[sL l, .int .i64 res.r1]) ∧ (VOK 1 l.n l.cap (RI.enc res.r0) l.sp l.q) ∧ HV w (keys [] []) [] [vL 3 l (RI.enc res.r0)] [] w') := by
  unfold Kz at hm
  refine qU func44 Y ntmps44 Y (e := [(0, _), (1, _)]) Y hw (jr ?_)
  refine jI Y Y (fun b h2 => ?_)
  refine jc Y Y Y (fun _ _ => kd Y) (jm Y Y (qe (zT [_, _, _, _, _] 0 isAgg26 sizeOf26 Y Y Y Y (jh Y Y ?_))))
  obtain ⟨t8, h3, hm⟩ := bindO hm
  refine jd [] [] Y Y Y Y Y Y Y call115 (fun w hh => Y5 c0 after1 qa0 na0 ca0 qa1 na1 ca1 qa2 na2 ca2 w (HV.callee (S0 := []) (vs0 := []) hh (roR hh 0 Y (roR hh 1 Y (roR hh 2 Y roN)))) hna0 hqa0 hla0 hna1 hqa1 hla1 hna2 hqa2 hla2 h3) (fun l h4 => ?_)
  have h5 := h4
  refine kC (S' := [_]) (vs' := [_]) [0] [0] 0 Y Y Y Y (zJ Y Y Y (zJ Y Y Y (jm Y Y (jm Y Y (jp (jw ?_))))))
  obtain rfl := sj hm
  refine jn Y (fun w hh => (.tmp Y (.tmp Y .nil))) (fun w hh => ⟨l, rfl, h5, hh.se [] [0] 3 Y Y Y rfl⟩)
end Go.Proofs.Wb

