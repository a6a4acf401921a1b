/- What the functions that the law BranchCourses reaches come to, and why it holds: part 8. -/
import Derived.Test.YtpjnpibgnkgnaaaGreatBranchCourses7
namespace Go.Proofs.Wb
set_option maxHeartbeats 4000000
set_option maxRecDepth 100000
open Go Go.Fw Go.Gx Go.Sb
open Tryz
set_option linter.unusedVariables false
theorem jbe : (Tryz.prog.info? 4).map (fun i => (i.zero, i.size, i.bytes)) = some (some (.bool false), 1, 1) := by kernel_rfl
theorem jaO : (Tryz.prog.info? 114).map (fun i => (i.zero, i.size, i.bytes)) = some (some (.slice none 0 0), 1, 24) := by kernel_rfl
theorem jaT : (Tryz.prog.info? 138).map (fun i => (i.zero, i.size, i.bytes)) = some (some (.agg #[.int .i64 0, .int .i64 0, .int .i64 0]), 3, 24) := by kernel_rfl
theorem jaP : (Tryz.prog.info? 139).map (fun i => (i.zero, i.size, i.bytes)) = some (some (.agg #[.int .i64 0, .int .i64 0, .bool false]), 3, 24) := by kernel_rfl
theorem jaH : Tryz.prog.stoodInHeld 50 = false := by decide +kernel
theorem ja9 : Tryz.prog.eqGuardType Tryz.prog.depth 98 = false := by decide +kernel
theorem ja5 : Tryz.prog.stoodInHeld 98 = false := by decide +kernel
theorem jbi (x y : Sand) (w : World) : (Op.equalIn 10000 98 (.agg (RSa.cells x).toArray) (.agg (RSa.cells y).toArray)).run Tryz.prog w = .ok (decide (x = y)) w := by
  have h := equal_structG (xs := (RSa.cells x).toArray) (ys := (RSa.cells y).toArray) underlying98 ja5 (.sub (us := [_, _]) (vs := [_, _]) Y (fun w => isAgg50 w) (fun w => sizeOf50 w) Y Y Y Y underlying50 jaH (.int Y (fun w => isAgg3 w) ⟨_, underlying3⟩ Y Y (.int Y (fun w => isAgg3 w) ⟨_, underlying3⟩ Y Y .nil)) (.int Y (fun w => isAgg3 w) ⟨_, underlying3⟩ Y Y .nil)) w
  rw [h]
  congr 1
  obtain ⟨⟨x0_0, x0_1⟩, x1⟩ := x
  obtain ⟨⟨y0_0, y0_1⟩, y1⟩ := y
  rw [Bool.eq_iff_iff]
  simp only [Bool.and_eq_true, decide_eq_true_eq, Sand.mk.injEq, Span.mk.injEq, and_true]
def yW (c0 : Channel) : Option Bool :=
 (if 10 < (c0.fords.length : Int) then
 (some true) else
 (if 10 < (c0.sands.length : Int) then
 (some true) else
 (some (decide (14 < (c0.sights.length : Int)))))).bind fun o =>
 some o
theorem Yn (c0 : Channel) (qa0 : Option Addr) (na0 ca0 : Nat) (qa1 : Option Addr) (na1 ca1 : Nat) (qa2 : Option Addr) (na2 ca2 : Nat) (w : World) (hw : HV w (keys [] []) [] [] [(aB qa0, aO qa0, RI.enc c0.fords), (aB qa1, aO qa1, RSa.enc c0.sands), (aB qa2, aO qa2, RSi.enc c0.sights)] w) (hna0 : c0.fords.length = na0) (hqa0 : AOK na0 qa0) (hla0 : na0 ≤ ca0) (hna1 : c0.sands.length = na1) (hqa1 : AOK na1 qa1) (hla1 : na1 ≤ ca1) (hna2 : c0.sights.length = na2) (hqa2 : AOK na2 qa2) (hla2 : na2 ≤ ca2) {res : Bool} (hm : yW c0 = some res) :
    Calls Tryz.prog 53 #[.agg #[.int .i64 c0.cells, .int .i64 c0.tides, .slice qa0 na0 ca0, .slice qa1 na1 ca1, .slice qa2 na2 ca2]] w (fun en w' => ∃ l : Unit, en = .returned (.bool res) ∧ (True) ∧ HV w (keys [] []) [] [] [] w') := by
  unfold yW at hm
  refine yd func53 Y ntmps53 Y (e := [(0, _)]) Y hw (jt ?_)
  refine jP Y Y (fun b h1 => ?_)
  refine jp Y Y (jq (jh ?_))
  obtain ⟨o, h2, h3⟩ := bindO hm
  refine jI (ι := Unit) (fun l => True) (fun l => [(2, .bool o)]) (fun l => [kc b #[.int .i64 c0.cells, .int .i64 c0.tides, .slice qa0 na0 ca0, .slice qa1 na1 ca1, .slice qa2 na2 ca2] 26]) (fun l => []) ?_ ?_
  ·replace hm := h2
   refine jg (qT 2 runUnderlying26 Y sizeOf22 Y Y (qq 0 isAgg22 Y Y Y Y (jc Y Y Y (fun w _ => jR hna0 (runUnderlying22 w) Y) (jc Y Y Y (fun _ _ => Qz Y Y) (jk Y Y ?_)))))
   refine jQ 7 Y (fun h4 => ?_) (fun h4 => ?_)
   ·replace hm := ifD h4 hm
    refine g_k Y Y Y Y (g_k Y Y Y Y (g_k Y Y Y Y (g_k Y Y Y Y (yx Y Y Y (jk Y Y (g_k Y Y Y Y (g_k Y Y Y Y ?_)))))))
    refine g_k Y Y Y Y (g_k Y Y Y Y (yx Y Y Y (jp Y Y (ju ?_))))
    obtain rfl := sj hm
    exact jj () (trivial) (sE Y) (fun w hh => hh)
   replace hm := ifE h4 hm
   refine jb Y Y (qT 3 runUnderlying26 Y sizeOf23 Y Y (jb Y Y (qq 0 isAgg23 Y Y Y Y (jb Y Y (jc Y Y Y (fun w _ => jR hna1 (runUnderlying23 w) Y) (jb Y Y (jc Y Y Y (fun _ _ => Qz Y Y) ?_)))))))
   refine y4 Y Y Y (jk Y Y ?_)
   refine jQ 13 Y (fun h5 => ?_) (fun h5 => ?_)
   ·replace hm := ifD h5 hm
    refine g_k Y Y Y Y (g_k Y Y Y Y (g_k Y Y Y Y (g_k Y Y Y Y (yx Y Y Y (jp Y Y (ju ?_))))))
    obtain rfl := sj hm
    exact jj () (trivial) (sE Y) (fun w hh => hh)
   replace hm := ifE h5 hm
   refine jb Y Y (qT 4 runUnderlying26 Y sizeOf24 Y Y (jb Y Y (qq 0 isAgg24 Y Y Y Y (jb Y Y (jc Y Y Y (fun w _ => jR hna2 (runUnderlying24 w) Y) (jb Y Y (jc Y Y Y (fun _ _ => Qz Y Y) ?_)))))))
   refine y4 Y Y Y (jp Y Y (ju ?_))
   obtain rfl := sj hm
   exact jj () (trivial) (sE Y) (fun w hh => hh)
  intro l hj
  replace hm := h3
  refine ja (jz ?_)
  obtain rfl := sj hm
  refine jn Y (fun w hh => (.tmp Y .nil)) (fun w hh => ⟨(), rfl, trivial, hh.se [] [] 3 Y Y Y rfl⟩)
def zp (c0 : Channel) : Option Bool :=
 ((yW c0).bind fun t4 =>
 if t4 = true then
 (some true) else
 (if (c0.fords.length : Int) = 3 then
 (some true) else
 (if 8 < c0.cells then
 (some (decide (c0.cells ≤ 10))) else
 (some false)))).bind fun o =>
 some o
theorem Yy (c0 : Channel) (qa0 : Option Addr) (na0 ca0 : Nat) (qa1 : Option Addr) (na1 ca1 : Nat) (qa2 : Option Addr) (na2 ca2 : Nat) (w : World) (hw : HV w (keys [] []) [] [] [(aB qa0, aO qa0, RI.enc c0.fords), (aB qa1, aO qa1, RSa.enc c0.sands), (aB qa2, aO qa2, RSi.enc c0.sights)] w) (hna0 : c0.fords.length = na0) (hqa0 : AOK na0 qa0) (hla0 : na0 ≤ ca0) (hna1 : c0.sands.length = na1) (hqa1 : AOK na1 qa1) (hla1 : na1 ≤ ca1) (hna2 : c0.sights.length = na2) (hqa2 : AOK na2 qa2) (hla2 : na2 ≤ ca2) {res : Bool} (hm : zp c0 = some res) :
    Calls Tryz.prog 18 #[.agg #[.int .i64 c0.cells, .int .i64 c0.tides, .slice qa0 na0 ca0, .slice qa1 na1 ca1, .slice qa2 na2 ca2]] w (fun en w' => ∃ l : Unit, en = .returned (.bool res) ∧ (True) ∧ HV w (keys [] []) [] [] [] w') := by
  unfold zp at hm
  refine yd func18 Y ntmps18 Y (e := [(0, _)]) Y hw (jt ?_)
  refine jP Y Y (fun b h1 => ?_)
  refine jp Y Y (jq (jh ?_))
  obtain ⟨o, h2, h3⟩ := bindO hm
  refine jI (ι := Unit) (fun l => True) (fun l => [(2, .bool o)]) (fun l => [kc b #[.int .i64 c0.cells, .int .i64 c0.tides, .slice qa0 na0 ca0, .slice qa1 na1 ca1, .slice qa2 na2 ca2] 26]) (fun l => []) ?_ ?_
  ·replace hm := h2
   refine jg (Jp [_, _, _, _, _] 0 isAgg26 sizeOf26 Y Y Y Y ?_)
   obtain ⟨t4, h4, hm⟩ := bindO hm
   refine jd [] [] Y Y Y Y Y Y Y call53 (fun w hh => Yn c0 qa0 na0 ca0 qa1 na1 ca1 qa2 na2 ca2 w (HV.callee (S0 := []) (vs0 := []) hh (roR hh 0 Y (roR hh 1 Y (roR hh 2 Y roN)))) hna0 hqa0 hla0 hna1 hqa1 hla1 hna2 hqa2 hla2 h4) (fun l_1 h5 => ?_)
   refine jk Y Y ?_
   refine jQ 5 Y (fun h6 => ?_) (fun h6 => ?_)
   ·replace hm := ifT (h6) hm
    refine g_k Y Y Y Y (g_k Y Y Y Y (g_k Y Y Y Y (g_k Y Y Y Y (yx Y Y Y (jk Y Y (g_k Y Y Y Y (g_k Y Y Y Y ?_)))))))
    refine g_k Y Y Y Y (g_k Y Y Y Y ?_)
    refine jU Y Y Y Y Y ?_
    refine jU Y Y Y Y Y ?_
    refine jU Y Y Y Y Y ?_
    refine g_k Y Y Y Y (yx Y Y Y (jp Y Y (ju ?_)))
    obtain rfl := sj hm
    exact jj () (trivial) (sE Y) (fun w hh => hh)
   replace hm := ifN h6 hm
   refine jb Y Y (qT 2 runUnderlying26 Y sizeOf22 Y Y (jb Y Y (qq 0 isAgg22 Y Y Y Y (jb Y Y (jc Y Y Y (fun w _ => jR hna0 (runUnderlying22 w) Y) (jb Y Y (jc Y Y Y (fun _ _ => Ju Y Y) ?_)))))))
   refine y4 Y Y Y (jk Y Y ?_)
   refine jQ 11 Y (fun h7 => ?_) (fun h7 => ?_)
   ·replace hm := ifD h7 hm
    refine g_k Y Y Y Y (g_k Y Y Y Y (g_k Y Y Y Y (g_k Y Y Y Y ?_)))
    refine jU Y Y Y Y Y ?_
    refine jU Y Y Y Y Y ?_
    refine jU Y Y Y Y Y ?_
    refine g_k Y Y Y Y (yx Y Y Y (jp Y Y (ju ?_)))
    obtain rfl := sj hm
    exact jj () (trivial) (sE Y) (fun w hh => hh)
   replace hm := ifE h7 hm
   refine jb Y Y (qT 0 runUnderlying26 Y sizeOf3 Y Y (jb Y Y (qq 0 isAgg3 Y Y Y Y (jb Y Y (jc Y Y Y (fun _ _ => Qz Y Y) (jb Y Y (jk Y Y ?_)))))))
   refine jQ 15 Y (fun h8 => ?_) (fun h8 => ?_)
   ·replace hm := ifD h8 hm
    refine jb Y Y (qT 0 runUnderlying26 Y sizeOf3 Y Y (jb Y Y (qq 0 isAgg3 Y Y Y Y (jb Y Y (jc Y Y Y (fun _ _ => Zo Y Y) (jb Y Y (yx Y Y Y ?_)))))))
    refine y4 Y Y Y (jp Y Y (ju ?_))
    obtain rfl := sj hm
    exact jj () (trivial) (sE Y) (fun w hh => hh)
   replace hm := ifE h8 hm
   refine g_k Y Y Y Y (g_k Y Y Y Y (g_k Y Y Y Y (jb Y Y (y4 Y Y Y (y4 Y Y Y (jp Y Y (ju ?_)))))))
   obtain rfl := sj hm
   exact jj () (trivial) (sE Y) (fun w hh => hh)
  intro l hj
  replace hm := h3
  refine ja (jz ?_)
  obtain rfl := sj hm
  refine jn Y (fun w hh => (.tmp Y .nil)) (fun w hh => ⟨(), rfl, trivial, hh.se [] [] 3 Y Y Y rfl⟩)
def Kz (l0 : (List Int)) : Option (List Int) :=
 (makec 8 0 0 (l0.length : Int)).bind fun t5 =>
 (appc 8 t5 l0).bind fun t7 =>
 some t7
theorem Yr (l0 : (List Int)) (qa0 : Option Addr) (na0 ca0 : Nat) (w : World) (hw : HV w (keys [] []) [] [] [(aB qa0, aO qa0, RI.enc l0)] w) (hna0 : l0.length = na0) (hqa0 : AOK na0 qa0) (hla0 : na0 ≤ ca0) {res : (List Int)} (hm : Kz l0 = some res) :
    Calls Tryz.prog 46 #[.slice qa0 na0 ca0] w (fun en w' => ∃ l : VL, en = .returned (sL l) ∧ (VOK 1 l.n l.cap (RI.enc res) l.sp l.q) ∧ HV w (keys [] []) [] [vL 3 l (RI.enc res)] [] w') := by
  unfold Kz at hm
  refine yd func46 Y ntmps46 Y (e := [(0, _)]) Y hw (jt (jc Y Y Y (fun _ _ => yq Y) (qs (jk Y Y (jc Y Y Y (fun w _ => jR hna0 (runUnderlying22 w) Y) ?_)))))
  obtain ⟨t5, h2, hm⟩ := bindO hm
  refine Qx RI 0 h2 underlying22 QH Y Y Y Y Y (fun L h3 => ?_)
  refine jk Y Y ?_
  obtain ⟨t7, h4, hm⟩ := bindO hm
  refine Js RI 0 h4 underlying22 QH Y Y Y Y Y h3 Y Y hna0 hqa0 (fun w hh => (hh.seg 0 Y)) Y (fun L_1 h5 h5n => ?_)
  refine k3 (S' := []) (vs' := [_]) [] [0] 0 Y Y Y Y (jp Y Y (jq (jz ?_)))
  obtain rfl := sj hm
  refine jn Y (fun w hh => (.tmp Y .nil)) (fun w hh => ⟨L_1, rfl, h5, hh.se [] [0] 1 Y Y Y rfl⟩)
def Jj (l0 : (List Sand)) : Option (List Sand) :=
 (makec 24 (⟨(⟨0, 0⟩ : Span), 0⟩ : Sand) 0 (l0.length : Int)).bind fun t5 =>
 (appc 24 t5 l0).bind fun t7 =>
 some t7
theorem YF (l0 : (List Sand)) (qa0 : Option Addr) (na0 ca0 : Nat) (w : World) (hw : HV w (keys [] []) [] [] [(aB qa0, aO qa0, RSa.enc l0)] w) (hna0 : l0.length = na0) (hqa0 : AOK na0 qa0) (hla0 : na0 ≤ ca0) {res : (List Sand)} (hm : Jj l0 = some res) :
    Calls Tryz.prog 86 #[.slice qa0 na0 ca0] w (fun en w' => ∃ l : VL, en = .returned (sL l) ∧ (VOK 3 l.n l.cap (RSa.enc res) l.sp l.q) ∧ HV w (keys [] []) [] [vL 98 l (RSa.enc res)] [] w') := by
  unfold Jj at hm
  refine yd func86 Y ntmps86 Y (e := [(0, _)]) Y hw (jt (jc Y Y Y (fun _ _ => yq Y) (qs (jk Y Y (jc Y Y Y (fun w _ => jR hna0 (runUnderlying23 w) Y) ?_)))))
  obtain ⟨t5, h2, hm⟩ := bindO hm
  refine Qx RSa (⟨(⟨0, 0⟩ : Span), 0⟩ : Sand) h2 underlying23 Z2 Y Y Y Y Y (fun L h3 => ?_)
  refine jk Y Y ?_
  obtain ⟨t7, h4, hm⟩ := bindO hm
  refine Js RSa 0 h4 underlying23 Z2 Y Y Y Y Y h3 Y Y hna0 hqa0 (fun w hh => (hh.seg 0 Y)) Y (fun L_1 h5 h5n => ?_)
  refine k3 (S' := []) (vs' := [_]) [] [0] 0 Y Y Y Y (jp Y Y (jq (jz ?_)))
  obtain rfl := sj hm
  refine jn Y (fun w hh => (.tmp Y .nil)) (fun w hh => ⟨L_1, rfl, h5, hh.se [] [0] 1 Y Y Y rfl⟩)
def zS (l0 : (List Sight)) : Option (List Sight) :=
 (makec 24 (⟨0, 0, false⟩ : Sight) 0 (l0.length : Int)).bind fun t5 =>
 (appc 24 t5 l0).bind fun t7 =>
 some t7
theorem Yh (l0 : (List Sight)) (qa0 : Option Addr) (na0 ca0 : Nat) (w : World) (hw : HV w (keys [] []) [] [] [(aB qa0, aO qa0, RSi.enc l0)] w) (hna0 : l0.length = na0) (hqa0 : AOK na0 qa0) (hla0 : na0 ≤ ca0) {res : (List Sight)} (hm : zS l0 = some res) :
    Calls Tryz.prog 87 #[.slice qa0 na0 ca0] w (fun en w' => ∃ l : VL, en = .returned (sL l) ∧ (VOK 3 l.n l.cap (RSi.enc res) l.sp l.q) ∧ HV w (keys [] []) [] [vL 55 l (RSi.enc res)] [] w') := by
  unfold zS at hm
  refine yd func87 Y ntmps87 Y (e := [(0, _)]) Y hw (jt (jc Y Y Y (fun _ _ => yq Y) (qs (jk Y Y (jc Y Y Y (fun w _ => jR hna0 (runUnderlying24 w) Y) ?_)))))
  obtain ⟨t5, h2, hm⟩ := bindO hm
  refine Qx RSi (⟨0, 0, false⟩ : Sight) h2 underlying24 Zw Y Y Y Y Y (fun L h3 => ?_)
  refine jk Y Y ?_
  obtain ⟨t7, h4, hm⟩ := bindO hm
  refine Js RSi 0 h4 underlying24 Zw Y Y Y Y Y h3 Y Y hna0 hqa0 (fun w hh => (hh.seg 0 Y)) Y (fun L_1 h5 h5n => ?_)
  refine k3 (S' := []) (vs' := [_]) [] [0] 0 Y Y Y Y (jp Y Y (jq (jz ?_)))
  obtain rfl := sj hm
  refine jn Y (fun w hh => (.tmp Y .nil)) (fun w hh => ⟨L_1, rfl, h5, hh.se [] [0] 1 Y Y Y rfl⟩)
def zJ (c0 : Channel) : Option Channel :=
 (Kz c0.fords).bind fun t9 =>
 (Jj c0.sands).bind fun t12 =>
 (zS c0.sights).bind fun t15 =>
 some (⟨c0.cells, c0.tides, t9, t12, t15⟩ : Channel)
theorem JI (c0 : Channel) (qa0 : Option Addr) (na0 ca0 : Nat) (qa1 : Option Addr) (na1 ca1 : Nat) (qa2 : Option Addr) (na2 ca2 : Nat) (w : World) (hw : HV w (keys [] []) [] [] [(aB qa0, aO qa0, RI.enc c0.fords), (aB qa1, aO qa1, RSa.enc c0.sands), (aB qa2, aO qa2, RSi.enc c0.sights)] w) (hna0 : c0.fords.length = na0) (hqa0 : AOK na0 qa0) (hla0 : na0 ≤ ca0) (hna1 : c0.sands.length = na1) (hqa1 : AOK na1 qa1) (hla1 : na1 ≤ ca1) (hna2 : c0.sights.length = na2) (hqa2 : AOK na2 qa2) (hla2 : na2 ≤ ca2) {res : Channel} (hm : zJ c0 = some res) :
    Calls Tryz.prog 20 #[.agg #[.int .i64 c0.cells, .int .i64 c0.tides, .slice qa0 na0 ca0, .slice qa1 na1 ca1, .slice qa2 na2 ca2]] w (fun en w' => ∃ l : VL × VL × VL, en = .returned (.agg #[.int .i64 res.cells, .int .i64 res.tides, sL l.1, sL l.2.1, sL l.2.2]) ∧ (VOK 1 l.1.n l.1.cap (RI.enc res.fords) l.1.sp l.1.q ∧ VOK 3 l.2.1.n l.2.1.cap (RSa.enc res.sands) l.2.1.sp l.2.1.q ∧ VOK 3 l.2.2.n l.2.2.cap (RSi.enc res.sights) l.2.2.sp l.2.2.q) ∧ HV w (keys [] []) [] [vL 3 l.1 (RI.enc res.fords), vL 98 l.2.1 (RSa.enc res.sands), vL 55 l.2.2 (RSi.enc res.sights)] [] w') := by
  unfold zJ at hm
  refine yd func20 Y ntmps20 Y (e := [(0, _)]) Y hw (jt ?_)
  refine jP Y Y (fun b h4 => ?_)
  refine jA (fun w => zeroValue26 w) Y (fun b_1 h5 => ?_)
  refine jq (jh ?_)
  refine j5 none (.free 0 (.hoist 1 (.free 2 (.hoist 3 (.free 4 (.hoist 5 (.free 7 (.hoist 8 (.free 10 (.hoist 11 (.one 6 (.one 9 (.one 12 (.free 13 (.one 14 .done))))))))))))))) (HV _ _ [kc b #[.int .i64 c0.cells, .int .i64 c0.tides, .slice qa0 na0 ca0, .slice qa1 na1 ca1, .slice qa2 na2 ca2] 26] [] _) Y (by decide +kernel) (fun w k hh => hh.draw k) (hsE [1] [] 0 Y Y Y Y) ?_
  refine Kk 0 runUnderlying26 sizeOf3 Y Y Y Y (K8 0 isAgg3 Y Y Y Y Y (Kk 1 runUnderlying26 sizeOf3 Y Y Y Y (K8 0 isAgg3 Y Y Y Y Y (Kk 2 runUnderlying26 sizeOf22 Y Y Y Y (K8 0 isAgg22 Y Y Y Y Y (Kk 3 runUnderlying26 sizeOf23 Y Y Y Y (K8 0 isAgg23 Y Y Y Y Y ?_)))))))
  refine Kk 4 runUnderlying26 sizeOf24 Y Y Y Y (K8 0 isAgg24 Y Y Y Y Y (jF Y ?_))
  obtain ⟨t9, h6, hm⟩ := bindO hm
  refine jd [] [] Y Y Y Y Y Y Y call46 (fun w hh => Yr c0.fords qa0 na0 ca0 w (HV.callee (S0 := []) (vs0 := []) hh (roR hh 0 Y roN)) hna0 hqa0 hla0 h6) (fun l h7 => ?_)
  have h8 := h7
  refine k3 (S' := [_, _]) (vs' := [_]) [0, 1] [0] 0 Y Y Y Y (jo (hsE [1] [] 0 Y Y Y Y) (jF Y ?_))
  obtain ⟨t12, h9, hm⟩ := bindO hm
  refine jd [] [] Y Y Y Y Y Y Y call86 (fun w hh => YF c0.sands qa1 na1 ca1 w (HV.callee (S0 := []) (vs0 := []) hh (roR hh 1 Y roN)) hna1 hqa1 hla1 h9) (fun l_1 h10 => ?_)
  have h11 := h10
  refine k3 (S' := [_, _]) (vs' := [_, _]) [0, 1] [0, 1] 0 Y Y Y Y (jo (hsE [1] [] 0 Y Y Y Y) (jF Y ?_))
  obtain ⟨t15, h12, hm⟩ := bindO hm
  refine jd [] [] Y Y Y Y Y Y Y call87 (fun w hh => Yh c0.sights qa2 na2 ca2 w (HV.callee (S0 := []) (vs0 := []) hh (roR hh 2 Y roN)) hna2 hqa2 hla2 h12) (fun l_2 h13 => ?_)
  have h14 := h13
  refine k3 (S' := [_, _]) (vs' := [_, _, _]) [0, 1] [0, 1, 2] 0 Y Y Y Y (jo (hsE [1] [] 0 Y Y Y Y) (jl Y Y Y Y (fun _ _ => qW (vs := [(0, _), (1, _), (2, _), (3, _), (4, _)]) (cells := [_, _, _, _, _]) Y Y) (jF Y (kE (us := #[_, _, _, _, _]) (cs' := [_, _, _, _, _]) (S' := [_, _]) 0 (fun w => sizeOf26 w) Y Y Y Y Y Y Y (jo (hsE [1] [] 0 Y Y Y Y) (jG (ja ?_)))))))
  refine jz ?_
  obtain rfl := sj hm
  refine jn Y (fun w hh => (.cell Y (loadVar_agg (vs := [_, _, _, _, _]) (isAgg26 _) (sizeOf26 _) (hh.cells 0 Y Y)) .nil)) (fun w hh => ⟨(l, l_1, l_2), rfl, ⟨h8, h11, h14⟩, hh.se [] [2, 1, 0] 3 Y Y Y rfl⟩)
structure qU where
  t19 : Int
  out3_sands : (List Sand)
def zW (c0 : Channel) (s : qU) : Option (qU ⊕ (List Sand)) :=
 if s.t19 < (c0.sands.length : Int) then
 ((ix c0.sands s.t19).bind fun t21 =>
 (appc 24 s.out3_sands [(⟨(⟨t21.span.lo, t21.span.hi⟩ : Span), t21.reach⟩ : Sand)]).bind fun t27 =>
 (addc s.t19 1).bind fun t29 =>
 some (.inl (⟨t29, t27⟩ : qU))) else
 (some (.inr s.out3_sands))
structure qO where
  t33 : Int
  out3_sights : (List Sight)
def zY (c0 : Channel) (s_1 : qO) : Option (qO ⊕ (List Sight)) :=
 if s_1.t33 < (c0.sights.length : Int) then
 ((ix c0.sights s_1.t33).bind fun t35 =>
 (appc 24 s_1.out3_sights [t35]).bind fun t41 =>
 (addc s_1.t33 1).bind fun t43 =>
 some (.inl (⟨t43, t41⟩ : qO))) else
 (some (.inr s_1.out3_sights))
def yO (c0 : Channel) : Option Channel :=
 ((Kz c0.fords).bind fun t14 =>
 some (⟨c0.cells, c0.tides, t14, [], []⟩ : Channel)).bind fun o =>
 (iterM FU (zW c0) (⟨0, o.sands⟩ : qU)).bind fun o_1 =>
 (iterM FU (zY c0) (⟨0, o.sights⟩ : qO)).bind fun o_2 =>
 some (⟨o.cells, o.tides, o.fords, o_1, o_2⟩ : Channel)
theorem zH (c0 : Channel) (qa0 : Option Addr) (na0 ca0 : Nat) (qa1 : Option Addr) (na1 ca1 : Nat) (qa2 : Option Addr) (na2 ca2 : Nat) (w : World) (hw : HV w (keys [] []) [] [] [(aB qa0, aO qa0, RI.enc c0.fords), (aB qa1, aO qa1, RSa.enc c0.sands), (aB qa2, aO qa2, RSi.enc c0.sights)] w) (hna0 : c0.fords.length = na0) (hqa0 : AOK na0 qa0) (hla0 : na0 ≤ ca0) (hna1 : c0.sands.length = na1) (hqa1 : AOK na1 qa1) (hla1 : na1 ≤ ca1) (hna2 : c0.sights.length = na2) (hqa2 : AOK na2 qa2) (hla2 : na2 ≤ ca2) {res : Channel} (hm : yO c0 = some res) :
    Calls Tryz.prog 21 #[.agg #[.int .i64 c0.cells, .int .i64 c0.tides, .slice qa0 na0 ca0, .slice qa1 na1 ca1, .slice qa2 na2 ca2]] w (fun en w' => ∃ l : VL × VL × VL, en = .returned (.agg #[.int .i64 res.cells, .int .i64 res.tides, sL l.1, sL l.2.1, sL l.2.2]) ∧ (VOK 1 l.1.n l.1.cap (RI.enc res.fords) l.1.sp l.1.q ∧ VOK 3 l.2.1.n l.2.1.cap (RSa.enc res.sands) l.2.1.sp l.2.1.q ∧ VOK 3 l.2.2.n l.2.2.cap (RSi.enc res.sights) l.2.2.sp l.2.2.q) ∧ HV w (keys [] []) [] [vL 3 l.1 (RI.enc res.fords), vL 138 l.2.1 (RSa.enc res.sands), vL 139 l.2.2 (RSi.enc res.sights)] [] w') := by
  unfold yO at hm
  refine yd func21 Y ntmps21 Y (e := [(0, _)]) Y hw (jt ?_)
  refine jP Y Y (fun b h4 => ?_)
  refine jA (fun w => zeroValue33 w) Y (fun b_1 h5 => ?_)
  refine jq (jh ?_)
  obtain ⟨o, h6, h7⟩ := bindO hm
  refine jI (ι := Nat × VL × VL × VL) (fun l => VOK 1 l.2.1.n l.2.1.cap (RI.enc o.fords) l.2.1.sp l.2.1.q ∧ VOK 3 l.2.2.1.n l.2.2.1.cap (RSa.enc o.sands) l.2.2.1.sp l.2.2.1.q ∧ VOK 3 l.2.2.2.n l.2.2.2.cap (RSi.enc o.sights) l.2.2.2.sp l.2.2.2.q) (fun l => [(1, ptr b 0), (2, ptr b_1 0), (3, ptr l.1 0)]) (fun l => [kc b_1 #[.int .i64 0, .int .i64 0, slv none 0 0, slv none 0 0, slv none 0 0] 33, kc b #[.int .i64 c0.cells, .int .i64 c0.tides, .slice qa0 na0 ca0, .slice qa1 na1 ca1, .slice qa2 na2 ca2] 26, kc l.1 #[.int .i64 o.cells, .int .i64 o.tides, sL l.2.1, sL l.2.2.1, sL l.2.2.2] 33]) (fun l => [vL 3 l.2.1 (RI.enc o.fords), vL 138 l.2.2.1 (RSa.enc o.sands), vL 139 l.2.2.2 (RSi.enc o.sights)]) ?_ ?_
  ·replace hm := h6
   obtain ⟨t14, h11, hm⟩ := bindO hm
   refine j5 none (.free 0 (.hoist 1 (.free 2 (.hoist 3 (.free 4 (.hoist 5 (.br (.alt 6 (.free 7 (.one 8 (.one 9 .done))) (.alt 8 (.one 6 (.free 7 (.one 9 .done))) .nil))))))))) _ Y (by decide +kernel) (fun w k hh => hh.draw k) (fun w hh => hh) ?_
   refine Kk 0 runUnderlying26 sizeOf3 Y Y Y Y (K8 1 isAgg3 Y Y Y Y Y (Kk 1 runUnderlying26 sizeOf3 Y Y Y Y (K8 1 isAgg3 Y Y Y Y Y (Kk 2 runUnderlying26 sizeOf22 Y Y Y Y (K8 1 isAgg22 Y Y Y Y Y (Y7 ?_))))))
   refine yK Y ?_ ?_
   ·refine jd [] [] Y Y Y Y Y Y Y call46 (fun w hh => Yr c0.fords qa0 na0 ca0 w (HV.callee (S0 := []) (vs0 := []) hh (roR hh 0 Y roN)) hna0 hqa0 hla0 h11) (fun l_1 h12 => ?_)
    have h13 := h12
    refine k3 (S' := [_, _]) (vs' := [_]) [0, 1] [0] 0 Y Y Y Y (jo (hsE [0, 1] [] 0 Y Y Y Y) (jl Y Y Y Y (fun _ _ => qW (vs := [(0, _), (1, _), (2, _)]) (cells := [_, _, _, _, _]) Y Y) (jF Y ?_)))
    refine jA (fun w => zeroValue33 w) Y (fun b_2 h14 => ?_)
    refine jo (hsE [1, 2] [] 0 Y Y Y Y) (jF Y (kE (us := #[_, _, _, _, _]) (cs' := [_, _, _, _, _]) (S' := [_, _, _]) 0 (fun w => sizeOf33 w) Y Y Y Y Y Y Y (jo (hsE [1, 2] [] 0 Y Y Y Y) (jG (JY 138 (JY 139 ?_))))))
    obtain rfl := sj hm
    exact jj (b_2, l_1, ⟨none, 0, 0, []⟩, ⟨none, 0, 0, []⟩) (⟨h13, VOK.nil, VOK.nil⟩) (sE Y) (hsE [1, 2, 0] [2, 1, 0] 0 Y Y Y Y)
   refine yK Y ?_ ?_
   refine jA (fun w => zeroValue33 w) Y (fun b_3 h15 => ?_)
   refine jo (hsE [1, 2] [] 0 Y Y Y Y) (jF Y ?_)
   refine jd [] [] Y Y Y Y Y Y Y call46 (fun w hh => Yr c0.fords qa0 na0 ca0 w (HV.callee (S0 := []) (vs0 := []) hh (roR hh 0 Y roN)) hna0 hqa0 hla0 h11) (fun l_2 h16 => ?_)
   have h17 := h16
   refine k3 (S' := [_, _, _]) (vs' := [_]) [0, 1, 2] [0] 0 Y Y Y Y (jo (hsE [1, 2] [] 0 Y Y Y Y) (jl Y Y Y Y (fun _ _ => qW (vs := [(0, _), (1, _), (2, _)]) (cells := [_, _, _, _, _]) Y Y) (jF Y (kE (us := #[_, _, _, _, _]) (cs' := [_, _, _, _, _]) (S' := [_, _, _]) 0 (fun w => sizeOf33 w) Y Y Y Y Y Y Y (jo (hsE [1, 2] [] 0 Y Y Y Y) (jG (JY 138 ?_)))))))
   refine JY 139 ?_
   obtain rfl := sj hm
   exact jj (b_3, l_2, ⟨none, 0, 0, []⟩, ⟨none, 0, 0, []⟩) (⟨h17, VOK.nil, VOK.nil⟩) (sE Y) (hsE [1, 2, 0] [2, 1, 0] 0 Y Y Y Y)
   exact K5
  intro l hj
  obtain ⟨h8, h9, h10⟩ := hj
  replace hm := h7
  refine ja (jh (jt (qT 3 runUnderlying26 Y sizeOf23 Y Y (qq 1 isAgg23 Y Y Y Y (jc Y Y Y (fun w _ => jR hna1 (runUnderlying23 w) Y) (jk Y Y (jq ?_)))))))
  obtain ⟨o_1, h18, h19⟩ := bindO hm
  refine jI (ι := VL) (fun l_3 => VOK 3 l_3.n l_3.cap (RSa.enc o_1) l_3.sp l_3.q) (fun l_3 => [(1, ptr b 0), (2, ptr b_1 0), (3, ptr l.1 0)]) (fun l_3 => [kc b_1 #[.int .i64 0, .int .i64 0, slv none 0 0, slv none 0 0, slv none 0 0] 33, kc b #[.int .i64 c0.cells, .int .i64 c0.tides, .slice qa0 na0 ca0, .slice qa1 na1 ca1, .slice qa2 na2 ca2] 26, kc l.1 #[.int .i64 o.cells, .int .i64 o.tides, sL l.2.1, sL l_3, sL l.2.2.2] 33]) (fun l_3 => [vL 3 l.2.1 (RI.enc o.fords), vL 138 l_3 (RSa.enc o_1), vL 139 l.2.2.2 (RSi.enc o.sights)]) ?_ ?_
  ·replace hm := h18
   refine jm ?_
   refine jM (ι := VL) hm (fun s l_4 => VOK 3 l_4.n l_4.cap (RSa.enc s.out3_sands) l_4.sp l_4.q) (fun s l_4 => [(1, ptr b 0), (2, ptr b_1 0), (3, ptr l.1 0), (17, .slice qa1 na1 ca1), (18, .int .i64 (c0.sands.length : Int)), (19, .int .i64 s.t19)]) (fun s l_4 => [kc b_1 #[.int .i64 0, .int .i64 0, slv none 0 0, slv none 0 0, slv none 0 0] 33, kc b #[.int .i64 c0.cells, .int .i64 c0.tides, .slice qa0 na0 ca0, .slice qa1 na1 ca1, .slice qa2 na2 ca2] 26, kc l.1 #[.int .i64 o.cells, .int .i64 o.tides, sL l.2.1, sL l_4, sL l.2.2.2] 33]) (fun s l_4 => [vL 3 l.2.1 (RI.enc o.fords), vL 138 l_4 (RSa.enc s.out3_sands), vL 139 l.2.2.2 (RSi.enc o.sights)]) l.2.2.1 (h9) (sE Y) (fun w hh => hh) (fun s l_4 r hpl hm h22 => ?_)
   have h21 := hpl
   unfold zW at hm
   refine jt (Jo Y Y Y (jq (jh ?_)))
   refine jr Y (fun h23 => ?_) (fun h23 => ?_)
   ·replace hm := ifD h23 hm
    refine js (ja (jh (jm (jt ?_))))
    obtain ⟨t21, h24, hm⟩ := bindO hm
    refine jc Y Y Y (fun w _ => qx h24 (runUnderlying23 w) (sizeOf98 w) Y Y hna1 hqa1) ?_
    refine jc Y Y Y (fun w hh => Jy RSa 0 [.int .i64 t21.span.lo, .int .i64 t21.span.hi, .int .i64 t21.reach] h24 (isAgg98 w) (sizeOf98 w) Y (hh.seg 1 Y) Y (Nat.add_zero _).symm) ?_
    refine jA (fun w => zeroValue98 w) Y (fun b_4 h25 => ?_)
    refine kE (us := #[_, _, _]) (cs' := [_, _, _]) (S' := [_, _, _, _]) 0 (fun w => sizeOf98 w) Y Y Y Y Y Y Y (jq (jg (qT 3 runUnderlying33 Y sizeOf30 Y Y (qq 3 isAgg30 Y Y Y Y (Jp [_, _, _] 0 isAgg98 sizeOf98 Y Y Y Y ?_)))))
    refine q4 RSa [(⟨(⟨t21.span.lo, t21.span.hi⟩ : Span), t21.reach⟩ : Sand)] (ps := [(0, _)]) (cells := [_, _, _]) (fun w => runUnderlying30 w) (fun w => sizeOf138 w) (fun w => zeroValue138 w) Y Y Y Y Y Y Y Y (fun L h26 => ?_)
    obtain ⟨t27, h27, hm⟩ := bindO hm
    refine Js RSa 2 h27 underlying30 jaT Y Y Y Y Y h21 Y Y (vlen RSa h26 Y) (AOK.q (vne h26)) (fun w hh => (hh.vsegA 0 Y h26)) Y (fun L_1 h28 h28n => ?_)
    refine k3 (S' := [_, _, _, _]) (vs' := [_, _, _, _]) [0, 1, 2, 3] [0, 1, 2, 3] 0 Y Y Y Y (qT 3 runUnderlying33 Y sizeOf30 Y Y (zR (cs' := #[_, _, _, _, _]) (S' := [_, _, _, _]) 3 (fun w => sizeOf30 w) Y Y Y Y Y Y Y (ju (jx (ja (jg ?_))))))
    obtain ⟨t29, h29, hm⟩ := bindO hm
    refine JG h29 Y Y Y (jk Y Y (ju ?_))
    obtain rfl := sj hm
    refine ja ?_
    exact jC _ L_1 Y (h28) (sE Y) (hsE [1, 2, 3] [1, 2, 3] 0 Y Y Y Y)
   replace hm := ifE h23 hm
   refine jS (ji (ji (jD ?_)))
   obtain rfl := sj hm
   have hbo := h22 _ Y
   subst hbo
   exact jj l_4 (h21) (sE Y) (fun w hh => hh)
  intro l_3 hj
  have h20 := hj
  replace hm := h19
  refine ja (jh (jt (qT 4 runUnderlying26 Y sizeOf24 Y Y (qq 1 isAgg24 Y Y Y Y (jc Y Y Y (fun w _ => jR hna2 (runUnderlying24 w) Y) (jk Y Y (jq ?_)))))))
  obtain ⟨o_2, h30, h31⟩ := bindO hm
  refine jI (ι := VL) (fun l_5 => VOK 3 l_5.n l_5.cap (RSi.enc o_2) l_5.sp l_5.q) (fun l_5 => [(2, ptr b_1 0), (3, ptr l.1 0)]) (fun l_5 => [kc b_1 #[.int .i64 0, .int .i64 0, slv none 0 0, slv none 0 0, slv none 0 0] 33, kc b #[.int .i64 c0.cells, .int .i64 c0.tides, .slice qa0 na0 ca0, .slice qa1 na1 ca1, .slice qa2 na2 ca2] 26, kc l.1 #[.int .i64 o.cells, .int .i64 o.tides, sL l.2.1, sL l_3, sL l_5] 33]) (fun l_5 => [vL 3 l.2.1 (RI.enc o.fords), vL 138 l_3 (RSa.enc o_1), vL 139 l_5 (RSi.enc o_2)]) ?_ ?_
  ·replace hm := h30
   refine jm ?_
   refine jM (ι := VL) hm (fun s_1 l_6 => VOK 3 l_6.n l_6.cap (RSi.enc s_1.out3_sights) l_6.sp l_6.q) (fun s_1 l_6 => [(2, ptr b_1 0), (3, ptr l.1 0), (31, .slice qa2 na2 ca2), (32, .int .i64 (c0.sights.length : Int)), (33, .int .i64 s_1.t33)]) (fun s_1 l_6 => [kc b_1 #[.int .i64 0, .int .i64 0, slv none 0 0, slv none 0 0, slv none 0 0] 33, kc b #[.int .i64 c0.cells, .int .i64 c0.tides, .slice qa0 na0 ca0, .slice qa1 na1 ca1, .slice qa2 na2 ca2] 26, kc l.1 #[.int .i64 o.cells, .int .i64 o.tides, sL l.2.1, sL l_3, sL l_6] 33]) (fun s_1 l_6 => [vL 3 l.2.1 (RI.enc o.fords), vL 138 l_3 (RSa.enc o_1), vL 139 l_6 (RSi.enc s_1.out3_sights)]) l.2.2.2 (h10) (sE Y) (fun w hh => hh) (fun s_1 l_6 r_1 hpl hm h34 => ?_)
   have h33 := hpl
   unfold zY at hm
   refine jt (Jo Y Y Y (jq (jh ?_)))
   refine jr Y (fun h35 => ?_) (fun h35 => ?_)
   ·replace hm := ifD h35 hm
    refine js (ja (jh (jm (jt ?_))))
    obtain ⟨t35, h36, hm⟩ := bindO hm
    refine jc Y Y Y (fun w _ => qx h36 (runUnderlying24 w) (sizeOf55 w) Y Y hna2 hqa2) ?_
    refine jc Y Y Y (fun w hh => Jy RSi 0 [.int .i64 t35.after, .int .i64 t35.cell, .bool t35.upright] h36 (isAgg55 w) (sizeOf55 w) Y (hh.seg 2 Y) Y (Nat.add_zero _).symm) ?_
    refine jA (fun w => zeroValue55 w) Y (fun b_5 h37 => ?_)
    refine kE (us := #[_, _, _]) (cs' := [_, _, _]) (S' := [_, _, _, _]) 0 (fun w => sizeOf55 w) Y Y Y Y Y Y Y (jq (jg (qT 4 runUnderlying33 Y sizeOf31 Y Y (qq 3 isAgg31 Y Y Y Y (Jp [_, _, _] 0 isAgg55 sizeOf55 Y Y Y Y ?_)))))
    refine q4 RSi [t35] (ps := [(0, _)]) (cells := [_, _, _]) (fun w => runUnderlying31 w) (fun w => sizeOf139 w) (fun w => zeroValue139 w) Y Y Y Y Y Y Y Y (fun L_2 h38 => ?_)
    obtain ⟨t41, h39, hm⟩ := bindO hm
    refine Js RSi 3 h39 underlying31 jaP Y Y Y Y Y h33 Y Y (vlen RSi h38 Y) (AOK.q (vne h38)) (fun w hh => (hh.vsegA 0 Y h38)) Y (fun L_3 h40 h40n => ?_)
    refine k3 (S' := [_, _, _, _]) (vs' := [_, _, _, _]) [0, 1, 2, 3] [0, 1, 2, 3] 0 Y Y Y Y (qT 4 runUnderlying33 Y sizeOf31 Y Y (zR (cs' := #[_, _, _, _, _]) (S' := [_, _, _, _]) 3 (fun w => sizeOf31 w) Y Y Y Y Y Y Y (ju (jx (ja (jg ?_))))))
    obtain ⟨t43, h41, hm⟩ := bindO hm
    refine JG h41 Y Y Y (jk Y Y (ju ?_))
    obtain rfl := sj hm
    refine ja ?_
    exact jC _ L_3 Y (h40) (sE Y) (hsE [1, 2, 3] [1, 2, 3] 0 Y Y Y Y)
   replace hm := ifE h35 hm
   refine jS (ji (ji (jD ?_)))
   obtain rfl := sj hm
   have hbo := h34 _ Y
   subst hbo
   exact jj l_6 (h33) (sE Y) (fun w hh => hh)
  intro l_5 hj
  have h32 := hj
  replace hm := h31
  refine ja (jt (Jp [_, _, _, _, _] 2 isAgg33 sizeOf33 Y Y Y Y (kE (us := #[_, _, _, _, _]) (cs' := [_, _, _, _, _]) (S' := [_, _, _]) 0 (fun w => sizeOf33 w) Y Y Y Y Y Y Y (jq (jz ?_)))))
  obtain rfl := sj hm
  refine jn Y (fun w hh => (.cell Y (loadVar_agg (vs := [_, _, _, _, _]) (isAgg33 _) (sizeOf33 _) (hh.cells 0 Y Y)) .nil)) (fun w hh => ⟨(l.2.1, l_3, l_5), rfl, ⟨h8, h20, h32⟩, hh.se [] [0, 1, 2] 3 Y Y Y rfl⟩)
def jE (n0 : Int) (lo1 : Int) (hi2 : Int) : Option Bool :=
 (if n0 < lo1 then
 (some true) else
 (some (decide (hi2 < n0)))).bind fun o =>
 some o
theorem kb (n0 : Int) (lo1 : Int) (hi2 : Int)  (w : World) (hw : HV w (keys [] []) [] [] [] w)  {res : Bool} (hm : jE n0 lo1 hi2 = some res) :
    Calls Tryz.prog 88 #[.int .i64 n0, .int .i64 lo1, .int .i64 hi2] w (fun en w' => ∃ l : Unit, en = .returned (.bool res) ∧ (True) ∧ HV w (keys [] []) [] [] [] w') := by
  unfold jE at hm
  refine yd func88 Y ntmps88 Y (e := [(0, _), (1, _), (2, _)]) Y hw (jt (jp Y Y (jq (jh ?_))))
  obtain ⟨o, h1, h2⟩ := bindO hm
  refine jI (ι := Unit) (fun l => True) (fun l => [(6, .bool o)]) (fun l => []) (fun l => []) ?_ ?_
  ·replace hm := h1
   refine jg (jk Y Y (jk Y Y (Jo Y Y Y (jk Y Y ?_))))
   refine jQ 10 Y (fun h3 => ?_) (fun h3 => ?_)
   ·replace hm := ifD h3 hm
    refine g_k Y Y Y Y (g_k Y Y Y Y (g_k Y Y Y Y (yx Y Y Y (jp Y Y (ju ?_)))))
    obtain rfl := sj hm
    exact jj () (trivial) (sE Y) (fun w hh => hh)
   replace hm := ifE h3 hm
   refine jb Y Y (jk Y Y (jb Y Y (jk Y Y (jb Y Y (jc Y Y Y (fun _ _ => Qz Y Y) (y4 Y Y Y (jp Y Y ?_)))))))
   refine ju ?_
   obtain rfl := sj hm
   exact jj () (trivial) (sE Y) (fun w hh => hh)
  intro l hj
  replace hm := h2
  refine ja (jz ?_)
  obtain rfl := sj hm
  refine jn Y (fun w hh => (.tmp Y .nil)) (fun w hh => ⟨(), rfl, trivial, hh⟩)
def zb (c0 : Channel) (s : Int) : Option (Int ⊕ (Unit ⊕ Int)) :=
 if s < (c0.sands.length : Int) then
 ((ix c0.sands s).bind fun t46 =>
 (jE t46.reach 1 2).bind fun t49 =>
 if t49 = true then
 (some (.inr (.inr 3))) else
 ((addc s 1).bind fun t42 =>
 some (.inl t42))) else
 (some (.inr (.inl ())))
def zc (c0 : Channel) (s_1 : Int) : Option (Int ⊕ (Unit ⊕ Int)) :=
 if s_1 < (c0.sights.length : Int) then
 ((ix c0.sights s_1).bind fun t60 =>
 (jE t60.after 0 c0.tides).bind fun t65 =>
 if t65 = true then
 (some (.inr (.inr 3))) else
 ((addc s_1 1).bind fun t56 =>
 some (.inl t56))) else
 (some (.inr (.inl ())))
def y9 (c0 : Channel) (s_2 : Int) : Option (Int ⊕ (Unit ⊕ Int)) :=
 if s_2 < (c0.fords.length : Int) then
 ((ix c0.fords s_2).bind fun t76 =>
 (subc c0.cells 1).bind fun t80 =>
 (jE t76 0 t80).bind fun t81 =>
 if t81 = true then
 (some (.inr (.inr 1))) else
 ((addc s_2 1).bind fun t72 =>
 some (.inl t72))) else
 (some (.inr (.inl ())))
def y7 (c0 : Channel) (s_3 : Int) : Option (Int ⊕ (Unit ⊕ Int)) :=
 if s_3 < (c0.sands.length : Int) then
 (((ix c0.sands s_3).bind fun t92 =>
 (subc c0.cells 1).bind fun t98 =>
 (jE t92.span.lo 0 t98).bind fun t99 =>
 if t99 = true then
 (some true) else
 ((ix c0.sands s_3).bind fun t104 =>
 (subc c0.cells 1).bind fun t110 =>
 (jE t104.span.hi 0 t110).bind fun t111 =>
 some t111)).bind fun o_5 =>
 if o_5 = true then
 (some (.inr (.inr 1))) else
 ((addc s_3 1).bind fun t88 =>
 some (.inl t88))) else
 (some (.inr (.inl ())))
def zd (c0 : Channel) (s_4 : Int) : Option (Int ⊕ (Unit ⊕ Int)) :=
 if s_4 < (c0.sights.length : Int) then
 ((ix c0.sights s_4).bind fun t123 =>
 (subc c0.cells 1).bind fun t128 =>
 (jE t123.cell 0 t128).bind fun t129 =>
 if t129 = true then
 (some (.inr (.inr 1))) else
 ((addc s_4 1).bind fun t119 =>
 some (.inl t119))) else
 (some (.inr (.inl ())))
def kF (c0 : Channel) (s_5 : Int) : Option (Int ⊕ (Unit ⊕ Int)) :=
 if s_5 < (c0.fords.length : Int) then
 ((ix c0.fords s_5).bind fun t140 =>
 (subc s_5 1).bind fun t145 =>
 (ix c0.fords t145).bind fun t146 =>
 if t140 ≤ t146 then
 (some (.inr (.inr 4))) else
 ((addc s_5 1).bind fun t136 =>
 some (.inl t136))) else
 (some (.inr (.inl ())))
def y5 (c0 : Channel) (s_6 : Int) : Option (Int ⊕ (Unit ⊕ Int)) :=
 if s_6 < (c0.sands.length : Int) then
 ((ix c0.sands s_6).bind fun t159 =>
 (ix c0.sands s_6).bind fun t166 =>
 if t166.span.hi < t159.span.lo then
 (some (.inr (.inr 4))) else
 ((addc s_6 1).bind fun t155 =>
 some (.inl t155))) else
 (some (.inr (.inl ())))
def yT (c0 : Channel) : Option Int :=
 ((jE c0.cells 2 10).bind fun t12 =>
 if t12 = true then
 (some true) else
 ((jE c0.tides 0 4).bind fun t16 =>
 if t16 = true then
 (some true) else
 ((jE (c0.fords.length : Int) 1 3).bind fun t22 =>
 if t22 = true then
 (some true) else
 (if 4 < (c0.sands.length : Int) then
 (some true) else
 (some (decide (8 < (c0.sights.length : Int)))))))).bind fun o =>
 if o = true then
 (some 2) else
 ((iterM FU (zb c0) 0).bind fun o_1 =>
 oc o_1 (fun j => (iterM FU (zc c0) 0).bind fun o_2 =>
 oc o_2 (fun j_1 => (iterM FU (y9 c0) 0).bind fun o_3 =>
 oc o_3 (fun j_2 => (iterM FU (y7 c0) 0).bind fun o_4 =>
 oc o_4 (fun j_3 => (iterM FU (zd c0) 0).bind fun o_6 =>
 oc o_6 (fun j_4 => (iterM FU (kF c0) 1).bind fun o_7 =>
 oc o_7 (fun j_5 => (iterM FU (y5 c0) 0).bind fun o_8 =>
 oc o_8 (fun j_6 => some 0) (fun r_7 => some r_7)) (fun r_8 => some r_8)) (fun r_9 => some r_9)) (fun r_10 => some r_10)) (fun r_11 => some r_11)) (fun r_12 => some r_12)) (fun r_13 => some r_13))
theorem Yi (c0 : Channel) (qa0 : Option Addr) (na0 ca0 : Nat) (qa1 : Option Addr) (na1 ca1 : Nat) (qa2 : Option Addr) (na2 ca2 : Nat) (w : World) (hw : HV w (keys [] []) [] [] [(aB qa0, aO qa0, RI.enc c0.fords), (aB qa1, aO qa1, RSa.enc c0.sands), (aB qa2, aO qa2, RSi.enc c0.sights)] w) (hna0 : c0.fords.length = na0) (hqa0 : AOK na0 qa0) (hla0 : na0 ≤ ca0) (hna1 : c0.sands.length = na1) (hqa1 : AOK na1 qa1) (hla1 : na1 ≤ ca1) (hna2 : c0.sights.length = na2) (hqa2 : AOK na2 qa2) (hla2 : na2 ≤ ca2) {res : Int} (hm : yT c0 = some res) :
    Calls Tryz.prog 22 #[.agg #[.int .i64 c0.cells, .int .i64 c0.tides, .slice qa0 na0 ca0, .slice qa1 na1 ca1, .slice qa2 na2 ca2]] w (fun en w' => ∃ l : Unit, en = .returned (.int .i64 res) ∧ (True) ∧ HV w (keys [] []) [] [] [] w') := by
  unfold yT at hm
  refine yd func22 Y ntmps22 Y (e := [(0, _)]) Y hw (jt ?_)
  refine jP Y Y (fun b h1 => ?_)
  refine jp Y Y (jq (jh (jh ?_)))
  obtain ⟨o, h2, h3⟩ := bindO hm
  refine jI (ι := Unit) (fun l => True) (fun l => [(1, ptr b 0), (35, .bool o)]) (fun l => [kc b #[.int .i64 c0.cells, .int .i64 c0.tides, .slice qa0 na0 ca0, .slice qa1 na1 ca1, .slice qa2 na2 ca2] 33]) (fun l => []) ?_ ?_
  ·replace hm := h2
   refine jg (qT 0 runUnderlying33 Y sizeOf3 Y Y (qq 0 isAgg3 Y Y Y Y ?_))
   obtain ⟨t12, h4, hm⟩ := bindO hm
   refine jd [] [] Y Y Y Y Y Y Y call88 (fun w hh => kb c0.cells 2 10 w (HV.callee (S0 := []) (vs0 := []) hh roN)  h4) (fun l_1 h5 => ?_)
   refine jk Y Y ?_
   refine jQ 13 Y (fun h6 => ?_) (fun h6 => ?_)
   ·replace hm := ifT (h6) hm
    refine g_k Y Y Y Y (g_k Y Y Y Y (g_k Y Y Y Y (yx Y Y Y (jk Y Y (g_k Y Y Y Y (g_k Y Y Y Y (g_k Y Y Y Y ?_)))))))
    refine g_k Y Y Y Y (yx Y Y Y (jk Y Y (g_k Y Y Y Y (g_k Y Y Y Y (g_k Y Y Y Y (g_k Y Y Y Y (yx Y Y Y ?_)))))))
    refine jk Y Y (g_k Y Y Y Y (g_k Y Y Y Y (g_k Y Y Y Y (g_k Y Y Y Y (yx Y Y Y (ju ?_))))))
    obtain rfl := sj hm
    exact jj () (trivial) (sE Y) (fun w hh => hh)
   replace hm := ifN h6 hm
   refine jb Y Y (qT 1 runUnderlying33 Y sizeOf3 Y Y (jb Y Y (qq 0 isAgg3 Y Y Y Y (jb Y Y ?_))))
   obtain ⟨t16, h7, hm⟩ := bindO hm
   refine jd [] [] Y Y Y Y Y Y Y call88 (fun w hh => kb c0.tides 0 4 w (HV.callee (S0 := []) (vs0 := []) hh roN)  h7) (fun l_2 h8 => ?_)
   refine y4 Y Y Y (jk Y Y ?_)
   refine jQ 18 Y (fun h9 => ?_) (fun h9 => ?_)
   ·replace hm := ifT (h9) hm
    refine g_k Y Y Y Y (g_k Y Y Y Y (g_k Y Y Y Y (g_k Y Y Y Y (yx Y Y Y (jk Y Y (g_k Y Y Y Y (g_k Y Y Y Y ?_)))))))
    refine g_k Y Y Y Y (g_k Y Y Y Y (yx Y Y Y (jk Y Y (g_k Y Y Y Y (g_k Y Y Y Y (g_k Y Y Y Y (g_k Y Y Y Y ?_)))))))
    refine yx Y Y Y (ju ?_)
    obtain rfl := sj hm
    exact jj () (trivial) (sE Y) (fun w hh => hh)
   replace hm := ifN h9 hm
   refine jb Y Y (qT 2 runUnderlying33 Y sizeOf22 Y Y (jb Y Y (qq 0 isAgg22 Y Y Y Y (jb Y Y (jc Y Y Y (fun w _ => jR hna0 (runUnderlying22 w) Y) (jb Y Y ?_))))))
   obtain ⟨t22, h10, hm⟩ := bindO hm
   refine jd [] [] Y Y Y Y Y Y Y call88 (fun w hh => kb (c0.fords.length : Int) 1 3 w (HV.callee (S0 := []) (vs0 := []) hh roN)  h10) (fun l_3 h11 => ?_)
   refine y4 Y Y Y (jk Y Y ?_)
   refine jQ 24 Y (fun h12 => ?_) (fun h12 => ?_)
   ·replace hm := ifT (h12) hm
    refine g_k Y Y Y Y (g_k Y Y Y Y (g_k Y Y Y Y (g_k Y Y Y Y (yx Y Y Y (jk Y Y (g_k Y Y Y Y (g_k Y Y Y Y ?_)))))))
    refine g_k Y Y Y Y (g_k Y Y Y Y (yx Y Y Y (ju ?_)))
    obtain rfl := sj hm
    exact jj () (trivial) (sE Y) (fun w hh => hh)
   replace hm := ifN h12 hm
   refine jb Y Y (qT 3 runUnderlying33 Y sizeOf30 Y Y (jb Y Y (qq 0 isAgg30 Y Y Y Y (jb Y Y (jc Y Y Y (fun w _ => jR hna1 (runUnderlying30 w) Y) (jb Y Y (jc Y Y Y (fun _ _ => Qz Y Y) ?_)))))))
   refine y4 Y Y Y (jk Y Y ?_)
   refine jQ 30 Y (fun h13 => ?_) (fun h13 => ?_)
   ·replace hm := ifD h13 hm
    refine g_k Y Y Y Y (g_k Y Y Y Y (g_k Y Y Y Y (g_k Y Y Y Y (yx Y Y Y (ju ?_)))))
    obtain rfl := sj hm
    exact jj () (trivial) (sE Y) (fun w hh => hh)
   replace hm := ifE h13 hm
   refine jb Y Y (qT 4 runUnderlying33 Y sizeOf31 Y Y (jb Y Y (qq 0 isAgg31 Y Y Y Y (jb Y Y (jc Y Y Y (fun w _ => jR hna2 (runUnderlying31 w) Y) (jb Y Y (jc Y Y Y (fun _ _ => Qz Y Y) ?_)))))))
   refine y4 Y Y Y (ju ?_)
   obtain rfl := sj hm
   exact jj () (trivial) (sE Y) (fun w hh => hh)
  intro l hj
  replace hm := h3
  refine ja ?_
  refine jr Y (fun h14 => ?_) (fun h14 => ?_)
  ·replace hm := ifT (h14) hm
   refine jt (jp Y Y (jq (jz (je ?_))))
   obtain rfl := sj hm
   refine jn Y (fun w hh => (.tmp Y .nil)) (fun w hh => ⟨(), rfl, trivial, hh.se [] [] 3 Y Y Y rfl⟩)
  replace hm := ifN h14 hm
  refine js (ja (jh (jt (jp Y Y (jq ?_)))))
  obtain ⟨o_1, h15, h16⟩ := bindO hm
  refine jI (ι := Unit) (fun j => o_1 = .inl j) (fun j => [(1, ptr b 0)]) (fun j => [kc b #[.int .i64 c0.cells, .int .i64 c0.tides, .slice qa0 na0 ca0, .slice qa1 na1 ca1, .slice qa2 na2 ca2] 33]) (fun j => []) ?_ ?_
  ·replace hm := h15
   refine jm ?_
   refine jM (ι := Unit) hm (fun s l_4 => True) (fun s l_4 => [(1, ptr b 0), (3, .int .i64 s)]) (fun s l_4 => [kc b #[.int .i64 c0.cells, .int .i64 c0.tides, .slice qa0 na0 ca0, .slice qa1 na1 ca1, .slice qa2 na2 ca2] 33]) (fun s l_4 => []) () (trivial) (sE Y) (fun w hh => hh) (fun s l_4 r hpl hm h17 => ?_)
   unfold zb at hm
   refine jh (jt (jk Y Y (qT 3 runUnderlying33 Y sizeOf30 Y Y (qq 0 isAgg30 Y Y Y Y (jc Y Y Y (fun w _ => jR hna1 (runUnderlying30 w) Y) (Jo Y Y Y (jq ?_)))))))
   refine jr Y (fun h18 => ?_) (fun h18 => ?_)
   ·replace hm := ifD h18 hm
    refine js (ja (jh (jm (jt (qT 3 runUnderlying33 Y sizeOf30 Y Y (qq 0 isAgg30 Y Y Y Y (jk Y Y ?_)))))))
    obtain ⟨t46, h19, hm⟩ := bindO hm
    refine jc Y Y Y (fun w _ => qx h19 (runUnderlying30 w) (sizeOf138 w) Y Y hna1 hqa1) (qT 2 runUnderlying138 Y sizeOf3 Y Y (jc Y Y Y (fun w hh => ka RSa 2 h19 (isAgg3 w) Y (hh.seg 1 Y) Y Y) ?_))
    obtain ⟨t49, h20, hm⟩ := bindO hm
    refine jd [] [] Y Y Y Y Y Y Y call88 (fun w hh => kb t46.reach 1 2 w (HV.callee (S0 := []) (vs0 := []) hh roN)  h20) (fun l_5 h21 => ?_)
    refine jq ?_
    refine jr Y (fun h22 => ?_) (fun h22 => ?_)
    ·replace hm := ifT (h22) hm
     refine jt (jp Y Y (jq (jz (jB (je (je (jB ?_)))))))
     obtain rfl := sj hm
     have hbo := h17 _ Y
     subst hbo
     refine je ?_
     replace hm := ocR h16
     refine je ?_
     obtain rfl := sj hm
     refine jn Y (fun w hh => (.tmp Y .nil)) (fun w hh => ⟨(), rfl, trivial, hh.se [] [] 3 Y Y Y rfl⟩)
    replace hm := ifN h22 hm
    refine js (jx (ja (jg (jk Y Y ?_))))
    obtain ⟨t42, h23, hm⟩ := bindO hm
    refine JG h23 Y Y Y (jp Y Y (ju ?_))
    obtain rfl := sj hm
    refine ja ?_
    exact jC _ () Y (trivial) (sE Y) (fun w hh => hh)
   replace hm := ifE h18 hm
   refine jS (ji (ji (jD ?_)))
   obtain rfl := sj hm
   have hbo := h17 _ Y
   subst hbo
   exact jj () (Y) (sE Y) (fun w hh => hh)
  intro j hj
  have h24 := hj
  subst h24
  replace hm := ocL h16
  refine ja (jh (jt (jp Y Y (jq ?_))))
  obtain ⟨o_2, h25, h26⟩ := bindO hm
  refine jI (ι := Unit) (fun j_1 => o_2 = .inl j_1) (fun j_1 => [(1, ptr b 0)]) (fun j_1 => [kc b #[.int .i64 c0.cells, .int .i64 c0.tides, .slice qa0 na0 ca0, .slice qa1 na1 ca1, .slice qa2 na2 ca2] 33]) (fun j_1 => []) ?_ ?_
  ·replace hm := h25
   refine jm ?_
   refine jM (ι := Unit) hm (fun s_1 l_6 => True) (fun s_1 l_6 => [(1, ptr b 0), (4, .int .i64 s_1)]) (fun s_1 l_6 => [kc b #[.int .i64 c0.cells, .int .i64 c0.tides, .slice qa0 na0 ca0, .slice qa1 na1 ca1, .slice qa2 na2 ca2] 33]) (fun s_1 l_6 => []) () (trivial) (sE Y) (fun w hh => hh) (fun s_1 l_6 r_1 hpl hm h27 => ?_)
   unfold zc at hm
   refine jh (jt (jk Y Y (qT 4 runUnderlying33 Y sizeOf31 Y Y (qq 0 isAgg31 Y Y Y Y (jc Y Y Y (fun w _ => jR hna2 (runUnderlying31 w) Y) (Jo Y Y Y (jq ?_)))))))
   refine jr Y (fun h28 => ?_) (fun h28 => ?_)
   ·replace hm := ifD h28 hm
    refine js (ja (jh (jm (jh ?_))))
    refine j5 none (.free 0 (.hoist 1 (.free 2 (.free 3 (.free 4 (.hoist 5 (.free 6 (.hoist 7 (.one 8 .done))))))))) _ Y (by decide +kernel) (fun w k hh => hh.draw k) (fun w hh => hh) ?_
    refine Kk 4 runUnderlying33 sizeOf31 Y Y Y Y (K8 0 isAgg31 Y Y Y Y Y (k9 Y Y Y ?_))
    obtain ⟨t60, h29, hm⟩ := bindO hm
    refine jl Y Y Y Y (fun w _ => qx h29 (runUnderlying31 w) (sizeOf139 w) Y Y hna2 hqa2) (Kk 0 runUnderlying139 sizeOf3 Y Y Y Y (jw Y Y Y Y (fun w hh => ka RSi 0 h29 (isAgg3 w) Y (hh.seg 2 Y) Y Y) (Kk 1 runUnderlying33 sizeOf3 Y Y Y Y (K8 0 isAgg3 Y Y Y Y Y (jF Y ?_)))))
    obtain ⟨t65, h30, hm⟩ := bindO hm
    refine jd [] [] Y Y Y Y Y Y Y call88 (fun w hh => kb t60.after 0 c0.tides w (HV.callee (S0 := []) (vs0 := []) hh roN)  h30) (fun l_7 h31 => ?_)
    refine jo (fun w hh => hh) (jG (ja ?_))
    refine jr Y (fun h32 => ?_) (fun h32 => ?_)
    ·replace hm := ifT (h32) hm
     refine jt (jp Y Y (jq (jz (jB (je (je (jB ?_)))))))
     obtain rfl := sj hm
     have hbo := h27 _ Y
     subst hbo
     refine je ?_
     replace hm := ocR h26
     refine je ?_
     obtain rfl := sj hm
     refine jn Y (fun w hh => (.tmp Y .nil)) (fun w hh => ⟨(), rfl, trivial, hh.se [] [] 3 Y Y Y rfl⟩)
    replace hm := ifN h32 hm
    refine js (jx (ja (jg (jk Y Y ?_))))
    obtain ⟨t56, h33, hm⟩ := bindO hm
    refine JG h33 Y Y Y (jp Y Y (ju ?_))
    obtain rfl := sj hm
    refine ja ?_
    exact jC _ () Y (trivial) (sE Y) (fun w hh => hh)
   replace hm := ifE h28 hm
   refine jS (ji (ji (jD ?_)))
   obtain rfl := sj hm
   have hbo := h27 _ Y
   subst hbo
   exact jj () (Y) (sE Y) (fun w hh => hh)
  intro j_1 hj
  have h34 := hj
  subst h34
  replace hm := ocL h26
  refine ja (jh (jt (jp Y Y (jq ?_))))
  obtain ⟨o_3, h35, h36⟩ := bindO hm
  refine jI (ι := Unit) (fun j_2 => o_3 = .inl j_2) (fun j_2 => [(1, ptr b 0)]) (fun j_2 => [kc b #[.int .i64 c0.cells, .int .i64 c0.tides, .slice qa0 na0 ca0, .slice qa1 na1 ca1, .slice qa2 na2 ca2] 33]) (fun j_2 => []) ?_ ?_
  ·replace hm := h35
   refine jm ?_
   refine jM (ι := Unit) hm (fun s_2 l_8 => True) (fun s_2 l_8 => [(1, ptr b 0), (5, .int .i64 s_2)]) (fun s_2 l_8 => [kc b #[.int .i64 c0.cells, .int .i64 c0.tides, .slice qa0 na0 ca0, .slice qa1 na1 ca1, .slice qa2 na2 ca2] 33]) (fun s_2 l_8 => []) () (trivial) (sE Y) (fun w hh => hh) (fun s_2 l_8 r_2 hpl hm h37 => ?_)
   unfold y9 at hm
   refine jh (jt (jk Y Y (qT 2 runUnderlying33 Y sizeOf22 Y Y (qq 0 isAgg22 Y Y Y Y (jc Y Y Y (fun w _ => jR hna0 (runUnderlying22 w) Y) (Jo Y Y Y (jq ?_)))))))
   refine jr Y (fun h38 => ?_) (fun h38 => ?_)
   ·replace hm := ifD h38 hm
    refine js (ja (jh (jm (jh ?_))))
    refine j5 none (.free 0 (.hoist 1 (.free 2 (.free 3 (.hoist 4 (.free 5 (.hoist 6 (.free 7 (.one 8 .done))))))))) _ Y (by decide +kernel) (fun w k hh => hh.draw k) (fun w hh => hh) ?_
    refine Kk 2 runUnderlying33 sizeOf22 Y Y Y Y (K8 0 isAgg22 Y Y Y Y Y (k9 Y Y Y ?_))
    obtain ⟨t76, h39, hm⟩ := bindO hm
    refine jl Y Y Y Y (fun w _ => qx h39 (runUnderlying22 w) (sizeOf3 w) Y Y hna0 hqa0) (jw Y Y Y Y (fun w hh => ka RI 0 h39 (isAgg3 w) Y (hh.seg 0 Y) Y (Nat.add_zero _).symm) (Kk 0 runUnderlying33 sizeOf3 Y Y Y Y (K8 0 isAgg3 Y Y Y Y Y ?_)))
    obtain ⟨t80, h40, hm⟩ := bindO hm
    refine jl Y Y Y Y (fun _ _ => yX h40 Y Y) (jF Y ?_)
    obtain ⟨t81, h41, hm⟩ := bindO hm
    refine jd [] [] Y Y Y Y Y Y Y call88 (fun w hh => kb t76 0 t80 w (HV.callee (S0 := []) (vs0 := []) hh roN)  h41) (fun l_9 h42 => ?_)
    refine jo (fun w hh => hh) (jG (ja ?_))
    refine jr Y (fun h43 => ?_) (fun h43 => ?_)
    ·replace hm := ifT (h43) hm
     refine jt (jp Y Y (jq (jz (jB (je (je (jB ?_)))))))
     obtain rfl := sj hm
     have hbo := h37 _ Y
     subst hbo
     refine je ?_
     replace hm := ocR h36
     refine je ?_
     obtain rfl := sj hm
     refine jn Y (fun w hh => (.tmp Y .nil)) (fun w hh => ⟨(), rfl, trivial, hh.se [] [] 3 Y Y Y rfl⟩)
    replace hm := ifN h43 hm
    refine js (jx (ja (jg (jk Y Y ?_))))
    obtain ⟨t72, h44, hm⟩ := bindO hm
    refine JG h44 Y Y Y (jp Y Y (ju ?_))
    obtain rfl := sj hm
    refine ja ?_
    exact jC _ () Y (trivial) (sE Y) (fun w hh => hh)
   replace hm := ifE h38 hm
   refine jS (ji (ji (jD ?_)))
   obtain rfl := sj hm
   have hbo := h37 _ Y
   subst hbo
   exact jj () (Y) (sE Y) (fun w hh => hh)
  intro j_2 hj
  have h45 := hj
  subst h45
  replace hm := ocL h36
  refine ja (jh (jt (jp Y Y (jq ?_))))
  obtain ⟨o_4, h46, h47⟩ := bindO hm
  refine jI (ι := Unit) (fun j_3 => o_4 = .inl j_3) (fun j_3 => [(1, ptr b 0)]) (fun j_3 => [kc b #[.int .i64 c0.cells, .int .i64 c0.tides, .slice qa0 na0 ca0, .slice qa1 na1 ca1, .slice qa2 na2 ca2] 33]) (fun j_3 => []) ?_ ?_
  ·replace hm := h46
   refine jm ?_
   refine jM (ι := Unit) hm (fun s_3 l_10 => True) (fun s_3 l_10 => [(1, ptr b 0), (6, .int .i64 s_3)]) (fun s_3 l_10 => [kc b #[.int .i64 c0.cells, .int .i64 c0.tides, .slice qa0 na0 ca0, .slice qa1 na1 ca1, .slice qa2 na2 ca2] 33]) (fun s_3 l_10 => []) () (trivial) (sE Y) (fun w hh => hh) (fun s_3 l_10 r_3 hpl hm h48 => ?_)
   unfold y7 at hm
   refine jh (jt (jk Y Y (qT 3 runUnderlying33 Y sizeOf30 Y Y (qq 0 isAgg30 Y Y Y Y (jc Y Y Y (fun w _ => jR hna1 (runUnderlying30 w) Y) (Jo Y Y Y (jq ?_)))))))
   refine jr Y (fun h49 => ?_) (fun h49 => ?_)
   ·replace hm := ifD h49 hm
    refine js (ja (jh (jm (jh ?_))))
    obtain ⟨o_5, h50, h51⟩ := bindO hm
    refine jI (ι := Unit) (fun l_11 => True) (fun l_11 => [(1, ptr b 0), (6, .int .i64 s_3), (112, .bool o_5)]) (fun l_11 => [kc b #[.int .i64 c0.cells, .int .i64 c0.tides, .slice qa0 na0 ca0, .slice qa1 na1 ca1, .slice qa2 na2 ca2] 33]) (fun l_11 => []) ?_ ?_
    ·replace hm := h50
     refine j5 none (.free 0 (.hoist 1 (.free 2 (.free 3 (.free 4 (.free 5 (.hoist 6 (.free 7 (.hoist 8 (.free 9 (.one 10 (.free 11 (.free 12 (.hoist 13 (.free 14 (.free 15 (.free 16 (.free 17 (.hoist 18 (.free 19 (.hoist 20 (.free 21 (.one 22 (.free 23 .done)))))))))))))))))))))))) _ Y (by decide +kernel) (fun w k hh => hh.draw k) (fun w hh => hh) ?_
     refine Kk 3 runUnderlying33 sizeOf30 Y Y Y Y (K8 0 isAgg30 Y Y Y Y Y (k9 Y Y Y ?_))
     obtain ⟨t92, h52, hm⟩ := bindO hm
     refine jl Y Y Y Y (fun w _ => qx h52 (runUnderlying30 w) (sizeOf138 w) Y Y hna1 hqa1) (Kk 0 runUnderlying138 sizeOf50 Y Y Y Y (Kk 0 runUnderlying50 sizeOf3 Y Y Y Y (jw Y Y Y Y (fun w hh => ka RSa 0 h52 (isAgg3 w) Y (hh.seg 1 Y) Y (by first | rfl | simp only [Nat.add_assoc])) (Kk 0 runUnderlying33 sizeOf3 Y Y Y Y (K8 0 isAgg3 Y Y Y Y Y ?_)))))
     obtain ⟨t98, h53, hm⟩ := bindO hm
     refine jl Y Y Y Y (fun _ _ => yX h53 Y Y) (jF Y ?_)
     obtain ⟨t99, h54, hm⟩ := bindO hm
     refine jd [] [] Y Y Y Y Y Y Y call88 (fun w hh => kb t92.span.lo 0 t98 w (HV.callee (S0 := []) (vs0 := []) hh roN)  h54) (fun l_12 h55 => ?_)
     refine jo (fun w hh => hh) (k9 Y Y Y ?_)
     refine jQ 100 Y (fun h56 => ?_) (fun h56 => ?_)
     ·replace hm := ifT (h56) hm
      refine jv Y Y Y Y Y Y Y (qi Y Y Y Y Y Y Y (jv Y Y Y Y Y Y Y (jv Y Y Y Y Y Y Y (jv Y Y Y Y Y Y Y (jv Y Y Y Y Y Y Y (qi Y Y Y Y Y Y Y (jv Y Y Y Y Y Y Y ?_)))))))
      refine qi Y Y Y Y Y Y Y (jv Y Y Y Y Y Y Y (jF Y (g_k Y Y Y Y (jo (fun w hh => hh) (jl Y Y Y Y (fun _ _ => zD Y Y) (jG ?_))))))
      obtain rfl := sj hm
      exact jj () (trivial) (sE Y) (fun w hh => hh)
     replace hm := ifN h56 hm
     refine jy Y Y Y Y Y Y (fun w _ => jJ 3 (runUnderlying33 w) Y (sizeOf30 w) Y) (jZ Y Y Y Y Y Y (fun w hh => jL (isAgg30 w) Y (hh.cell 0 Y Y)) (jy Y Y Y Y Y Y (fun _ _ => jN Y) ?_))
     obtain ⟨t104, h57, hm⟩ := bindO hm
     refine jy Y Y Y Y Y Y (fun w _ => qx h57 (runUnderlying30 w) (sizeOf138 w) Y Y hna1 hqa1) (jy Y Y Y Y Y Y (fun w _ => jJ 0 (runUnderlying138 w) Y (sizeOf50 w) Y) (jy Y Y Y Y Y Y (fun w _ => jJ 1 (runUnderlying50 w) Y (sizeOf3 w) Y) (jZ Y Y Y Y Y Y (fun w hh => ka RSa 1 h57 (isAgg3 w) Y (hh.seg 1 Y) Y (by first | rfl | simp only [Nat.add_assoc])) (jy Y Y Y Y Y Y (fun w _ => jJ 0 (runUnderlying33 w) Y (sizeOf3 w) Y) (jZ Y Y Y Y Y Y (fun w hh => jL (isAgg3 w) Y (hh.cell 0 Y Y)) ?_)))))
     obtain ⟨t110, h58, hm⟩ := bindO hm
     refine jy Y Y Y Y Y Y (fun _ _ => yX h58 Y Y) (jF Y (jb Y Y ?_))
     obtain ⟨t111, h59, hm⟩ := bindO hm
     refine jd [] [] Y Y Y Y Y Y Y call88 (fun w hh => kb t104.span.hi 0 t110 w (HV.callee (S0 := []) (vs0 := []) hh roN)  h59) (fun l_13 h60 => ?_)
     refine jo (fun w hh => hh) (jl Y Y Y Y (fun _ _ => q5 Y Y) (jG ?_))
     obtain rfl := sj hm
     exact jj () (trivial) (sE Y) (fun w hh => hh)
    intro l_11 hj
    replace hm := h51
    refine ja ?_
    refine jr Y (fun h61 => ?_) (fun h61 => ?_)
    ·replace hm := ifT (h61) hm
     refine jt (jp Y Y (jq (jz (jB (je (je (jB ?_)))))))
     obtain rfl := sj hm
     have hbo := h48 _ Y
     subst hbo
     refine je ?_
     replace hm := ocR h47
     refine je ?_
     obtain rfl := sj hm
     refine jn Y (fun w hh => (.tmp Y .nil)) (fun w hh => ⟨(), rfl, trivial, hh.se [] [] 3 Y Y Y rfl⟩)
    replace hm := ifN h61 hm
    refine js (jx (ja (jg (jk Y Y ?_))))
    obtain ⟨t88, h62, hm⟩ := bindO hm
    refine JG h62 Y Y Y (jp Y Y (ju ?_))
    obtain rfl := sj hm
    refine ja ?_
    exact jC _ () Y (trivial) (sE Y) (fun w hh => hh)
   replace hm := ifE h49 hm
   refine jS (ji (ji (jD ?_)))
   obtain rfl := sj hm
   have hbo := h48 _ Y
   subst hbo
   exact jj () (Y) (sE Y) (fun w hh => hh)
  intro j_3 hj
  have h63 := hj
  subst h63
  replace hm := ocL h47
  refine ja (jh (jt (jp Y Y (jq ?_))))
  obtain ⟨o_6, h64, h65⟩ := bindO hm
  refine jI (ι := Unit) (fun j_4 => o_6 = .inl j_4) (fun j_4 => [(1, ptr b 0)]) (fun j_4 => [kc b #[.int .i64 c0.cells, .int .i64 c0.tides, .slice qa0 na0 ca0, .slice qa1 na1 ca1, .slice qa2 na2 ca2] 33]) (fun j_4 => []) ?_ ?_
  ·replace hm := h64
   refine jm ?_
   refine jM (ι := Unit) hm (fun s_4 l_14 => True) (fun s_4 l_14 => [(1, ptr b 0), (7, .int .i64 s_4)]) (fun s_4 l_14 => [kc b #[.int .i64 c0.cells, .int .i64 c0.tides, .slice qa0 na0 ca0, .slice qa1 na1 ca1, .slice qa2 na2 ca2] 33]) (fun s_4 l_14 => []) () (trivial) (sE Y) (fun w hh => hh) (fun s_4 l_14 r_4 hpl hm h66 => ?_)
   unfold zd at hm
   refine jh (jt (jk Y Y (qT 4 runUnderlying33 Y sizeOf31 Y Y (qq 0 isAgg31 Y Y Y Y (jc Y Y Y (fun w _ => jR hna2 (runUnderlying31 w) Y) (Jo Y Y Y (jq ?_)))))))
   refine jr Y (fun h67 => ?_) (fun h67 => ?_)
   ·replace hm := ifD h67 hm
    refine js (ja (jh (jm (jh ?_))))
    refine j5 none (.free 0 (.hoist 1 (.free 2 (.free 3 (.free 4 (.hoist 5 (.free 6 (.hoist 7 (.free 8 (.one 9 .done)))))))))) _ Y (by decide +kernel) (fun w k hh => hh.draw k) (fun w hh => hh) ?_
    refine Kk 4 runUnderlying33 sizeOf31 Y Y Y Y (K8 0 isAgg31 Y Y Y Y Y (k9 Y Y Y ?_))
    obtain ⟨t123, h68, hm⟩ := bindO hm
    refine jl Y Y Y Y (fun w _ => qx h68 (runUnderlying31 w) (sizeOf139 w) Y Y hna2 hqa2) (Kk 1 runUnderlying139 sizeOf3 Y Y Y Y (jw Y Y Y Y (fun w hh => ka RSi 1 h68 (isAgg3 w) Y (hh.seg 2 Y) Y Y) (Kk 0 runUnderlying33 sizeOf3 Y Y Y Y (K8 0 isAgg3 Y Y Y Y Y ?_))))
    obtain ⟨t128, h69, hm⟩ := bindO hm
    refine jl Y Y Y Y (fun _ _ => yX h69 Y Y) (jF Y ?_)
    obtain ⟨t129, h70, hm⟩ := bindO hm
    refine jd [] [] Y Y Y Y Y Y Y call88 (fun w hh => kb t123.cell 0 t128 w (HV.callee (S0 := []) (vs0 := []) hh roN)  h70) (fun l_15 h71 => ?_)
    refine jo (fun w hh => hh) (jG (ja ?_))
    refine jr Y (fun h72 => ?_) (fun h72 => ?_)
    ·replace hm := ifT (h72) hm
     refine jt (jp Y Y (jq (jz (jB (je (je (jB ?_)))))))
     obtain rfl := sj hm
     have hbo := h66 _ Y
     subst hbo
     refine je ?_
     replace hm := ocR h65
     refine je ?_
     obtain rfl := sj hm
     refine jn Y (fun w hh => (.tmp Y .nil)) (fun w hh => ⟨(), rfl, trivial, hh.se [] [] 3 Y Y Y rfl⟩)
    replace hm := ifN h72 hm
    refine js (jx (ja (jg (jk Y Y ?_))))
    obtain ⟨t119, h73, hm⟩ := bindO hm
    refine JG h73 Y Y Y (jp Y Y (ju ?_))
    obtain rfl := sj hm
    refine ja ?_
    exact jC _ () Y (trivial) (sE Y) (fun w hh => hh)
   replace hm := ifE h67 hm
   refine jS (ji (ji (jD ?_)))
   obtain rfl := sj hm
   have hbo := h66 _ Y
   subst hbo
   exact jj () (Y) (sE Y) (fun w hh => hh)
  intro j_4 hj
  have h74 := hj
  subst h74
  replace hm := ocL h65
  refine ja (jh (jt (jp Y Y (jq ?_))))
  obtain ⟨o_7, h75, h76⟩ := bindO hm
  refine jI (ι := Unit) (fun j_5 => o_7 = .inl j_5) (fun j_5 => [(1, ptr b 0)]) (fun j_5 => [kc b #[.int .i64 c0.cells, .int .i64 c0.tides, .slice qa0 na0 ca0, .slice qa1 na1 ca1, .slice qa2 na2 ca2] 33]) (fun j_5 => []) ?_ ?_
  ·replace hm := h75
   refine jm ?_
   refine jM (ι := Unit) hm (fun s_5 l_16 => True) (fun s_5 l_16 => [(1, ptr b 0), (8, .int .i64 s_5)]) (fun s_5 l_16 => [kc b #[.int .i64 c0.cells, .int .i64 c0.tides, .slice qa0 na0 ca0, .slice qa1 na1 ca1, .slice qa2 na2 ca2] 33]) (fun s_5 l_16 => []) () (trivial) (sE Y) (fun w hh => hh) (fun s_5 l_16 r_5 hpl hm h77 => ?_)
   unfold kF at hm
   refine jh (jt (jk Y Y (qT 2 runUnderlying33 Y sizeOf22 Y Y (qq 0 isAgg22 Y Y Y Y (jc Y Y Y (fun w _ => jR hna0 (runUnderlying22 w) Y) (Jo Y Y Y (jq ?_)))))))
   refine jr Y (fun h78 => ?_) (fun h78 => ?_)
   ·replace hm := ifD h78 hm
    refine js (ja (jh (jm (jh ?_))))
    refine j5 none (.free 0 (.hoist 1 (.free 2 (.free 3 (.hoist 4 (.free 5 (.hoist 6 (.free 7 (.free 8 (.free 9 (.hoist 10 (.free 11 .done)))))))))))) _ Y (by decide +kernel) (fun w k hh => hh.draw k) (fun w hh => hh) ?_
    refine Kk 2 runUnderlying33 sizeOf22 Y Y Y Y (K8 0 isAgg22 Y Y Y Y Y (k9 Y Y Y ?_))
    obtain ⟨t140, h79, hm⟩ := bindO hm
    refine jl Y Y Y Y (fun w _ => qx h79 (runUnderlying22 w) (sizeOf3 w) Y Y hna0 hqa0) (jw Y Y Y Y (fun w hh => ka RI 0 h79 (isAgg3 w) Y (hh.seg 0 Y) Y (Nat.add_zero _).symm) (Kk 2 runUnderlying33 sizeOf22 Y Y Y Y (K8 0 isAgg22 Y Y Y Y Y (k9 Y Y Y ?_))))
    obtain ⟨t145, h80, hm⟩ := bindO hm
    refine jl Y Y Y Y (fun _ _ => yX h80 Y Y) ?_
    obtain ⟨t146, h81, hm⟩ := bindO hm
    refine jl Y Y Y Y (fun w _ => qx h81 (runUnderlying22 w) (sizeOf3 w) Y Y hna0 hqa0) (jw Y Y Y Y (fun w hh => ka RI 0 h81 (isAgg3 w) Y (hh.seg 0 Y) Y (Nat.add_zero _).symm) (jl Y Y Y Y (fun _ _ => Zo Y Y) (jG (ja ?_))))
    refine jr Y (fun h82 => ?_) (fun h82 => ?_)
    ·replace hm := ifD h82 hm
     refine jt (jp Y Y (jq (jz (jB (je (je (jB ?_)))))))
     obtain rfl := sj hm
     have hbo := h77 _ Y
     subst hbo
     refine je ?_
     replace hm := ocR h76
     refine je ?_
     obtain rfl := sj hm
     refine jn Y (fun w hh => (.tmp Y .nil)) (fun w hh => ⟨(), rfl, trivial, hh.se [] [] 3 Y Y Y rfl⟩)
    replace hm := ifE h82 hm
    refine js (jx (ja (jg (jk Y Y ?_))))
    obtain ⟨t136, h83, hm⟩ := bindO hm
    refine JG h83 Y Y Y (jp Y Y (ju ?_))
    obtain rfl := sj hm
    refine ja ?_
    exact jC _ () Y (trivial) (sE Y) (fun w hh => hh)
   replace hm := ifE h78 hm
   refine jS (ji (ji (jD ?_)))
   obtain rfl := sj hm
   have hbo := h77 _ Y
   subst hbo
   exact jj () (Y) (sE Y) (fun w hh => hh)
  intro j_5 hj
  have h84 := hj
  subst h84
  replace hm := ocL h76
  refine ja (jh (jt (jp Y Y (jq ?_))))
  obtain ⟨o_8, h85, h86⟩ := bindO hm
  refine jI (ι := Unit) (fun j_6 => o_8 = .inl j_6) (fun j_6 => []) (fun j_6 => [kc b #[.int .i64 c0.cells, .int .i64 c0.tides, .slice qa0 na0 ca0, .slice qa1 na1 ca1, .slice qa2 na2 ca2] 33]) (fun j_6 => []) ?_ ?_
  ·replace hm := h85
   refine jm ?_
   refine jM (ι := Unit) hm (fun s_6 l_17 => True) (fun s_6 l_17 => [(1, ptr b 0), (9, .int .i64 s_6)]) (fun s_6 l_17 => [kc b #[.int .i64 c0.cells, .int .i64 c0.tides, .slice qa0 na0 ca0, .slice qa1 na1 ca1, .slice qa2 na2 ca2] 33]) (fun s_6 l_17 => []) () (trivial) (sE Y) (fun w hh => hh) (fun s_6 l_17 r_6 hpl hm h87 => ?_)
   unfold y5 at hm
   refine jh (jt (jk Y Y (qT 3 runUnderlying33 Y sizeOf30 Y Y (qq 0 isAgg30 Y Y Y Y (jc Y Y Y (fun w _ => jR hna1 (runUnderlying30 w) Y) (Jo Y Y Y (jq ?_)))))))
   refine jr Y (fun h88 => ?_) (fun h88 => ?_)
   ·replace hm := ifD h88 hm
    refine js (ja (jh (jm (jh ?_))))
    refine j5 none (.free 0 (.hoist 1 (.free 2 (.free 3 (.free 4 (.free 5 (.hoist 6 (.free 7 (.hoist 8 (.free 9 (.free 10 (.free 11 (.free 12 (.hoist 13 (.free 14 .done))))))))))))))) _ Y (by decide +kernel) (fun w k hh => hh.draw k) (fun w hh => hh) ?_
    refine Kk 3 runUnderlying33 sizeOf30 Y Y Y Y (K8 0 isAgg30 Y Y Y Y Y (k9 Y Y Y ?_))
    obtain ⟨t159, h89, hm⟩ := bindO hm
    refine jl Y Y Y Y (fun w _ => qx h89 (runUnderlying30 w) (sizeOf138 w) Y Y hna1 hqa1) (Kk 0 runUnderlying138 sizeOf50 Y Y Y Y (Kk 0 runUnderlying50 sizeOf3 Y Y Y Y (jw Y Y Y Y (fun w hh => ka RSa 0 h89 (isAgg3 w) Y (hh.seg 1 Y) Y (by first | rfl | simp only [Nat.add_assoc])) (Kk 3 runUnderlying33 sizeOf30 Y Y Y Y (K8 0 isAgg30 Y Y Y Y Y (k9 Y Y Y ?_))))))
    obtain ⟨t166, h90, hm⟩ := bindO hm
    refine jl Y Y Y Y (fun w _ => qx h90 (runUnderlying30 w) (sizeOf138 w) Y Y hna1 hqa1) (Kk 0 runUnderlying138 sizeOf50 Y Y Y Y (Kk 1 runUnderlying50 sizeOf3 Y Y Y Y (jw Y Y Y Y (fun w hh => ka RSa 1 h90 (isAgg3 w) Y (hh.seg 1 Y) Y (by first | rfl | simp only [Nat.add_assoc])) (jl Y Y Y Y (fun _ _ => Qz Y Y) (jG (ja ?_))))))
    refine jr Y (fun h91 => ?_) (fun h91 => ?_)
    ·replace hm := ifD h91 hm
     refine jt (jp Y Y (jq (jz (jB (je (je (jB ?_)))))))
     obtain rfl := sj hm
     have hbo := h87 _ Y
     subst hbo
     refine je ?_
     replace hm := ocR h86
     refine je ?_
     obtain rfl := sj hm
     refine jn Y (fun w hh => (.tmp Y .nil)) (fun w hh => ⟨(), rfl, trivial, hh.se [] [] 3 Y Y Y rfl⟩)
    replace hm := ifE h91 hm
    refine js (jx (ja (jg (jk Y Y ?_))))
    obtain ⟨t155, h92, hm⟩ := bindO hm
    refine JG h92 Y Y Y (jp Y Y (ju ?_))
    obtain rfl := sj hm
    refine ja ?_
    exact jC _ () Y (trivial) (sE Y) (fun w hh => hh)
   replace hm := ifE h88 hm
   refine jS (ji (ji (jD ?_)))
   obtain rfl := sj hm
   have hbo := h87 _ Y
   subst hbo
   exact jj () (Y) (.nil) (fun w hh => hh)
  intro j_6 hj
  have h93 := hj
  subst h93
  replace hm := ocL h86
  refine ja (jt (jp Y Y (jq (jz ?_))))
  obtain rfl := sj hm
  refine jn Y (fun w hh => (.tmp Y .nil)) (fun w hh => ⟨(), rfl, trivial, hh.se [] [] 3 Y Y Y rfl⟩)
structure kV where
  n3 : Int
  i4 : Int
def kX (c0 : Channel) (s : kV) : Option (kV ⊕ Int) :=
 if s.i4 < (c0.sights.length : Int) then
 ((mulc 2 s.n3).bind fun t13 =>
 (addc s.i4 1).bind fun t11 =>
 some (.inl (⟨t13, t11⟩ : kV))) else
 (some (.inr s.n3))
def jK (c0 : Channel) : Option Int :=
 (iterM FU (kX c0) (⟨1, 0⟩ : kV)).bind fun o =>
 (subc o 1).bind fun t15 =>
 some t15
theorem yB (c0 : Channel) (qa0 : Option Addr) (na0 ca0 : Nat) (qa1 : Option Addr) (na1 ca1 : Nat) (qa2 : Option Addr) (na2 ca2 : Nat) (w : World) (hw : HV w (keys [] []) [] [] [(aB qa0, aO qa0, RI.enc c0.fords), (aB qa1, aO qa1, RSa.enc c0.sands), (aB qa2, aO qa2, RSi.enc c0.sights)] w) (hna0 : c0.fords.length = na0) (hqa0 : AOK na0 qa0) (hla0 : na0 ≤ ca0) (hna1 : c0.sands.length = na1) (hqa1 : AOK na1 qa1) (hla1 : na1 ≤ ca1) (hna2 : c0.sights.length = na2) (hqa2 : AOK na2 qa2) (hla2 : na2 ≤ ca2) {res : Int} (hm : jK c0 = some res) :
    Calls Tryz.prog 24 #[.agg #[.int .i64 c0.cells, .int .i64 c0.tides, .slice qa0 na0 ca0, .slice qa1 na1 ca1, .slice qa2 na2 ca2]] w (fun en w' => ∃ l : Unit, en = .returned (.int .i64 res) ∧ (True) ∧ HV w (keys [] []) [] [] [] w') := by
  unfold jK at hm
  refine yd func24 Y ntmps24 Y (e := [(0, _)]) Y hw (jt ?_)
  refine jP Y Y (fun b h1 => ?_)
  refine jp Y Y (qs (jp Y Y (jq (jh (jt (jp Y Y (jq ?_)))))))
  obtain ⟨o, h2, h3⟩ := bindO hm
  refine jI (ι := Unit) (fun l => True) (fun l => [(3, .int .i64 o)]) (fun l => [kc b #[.int .i64 c0.cells, .int .i64 c0.tides, .slice qa0 na0 ca0, .slice qa1 na1 ca1, .slice qa2 na2 ca2] 33]) (fun l => []) ?_ ?_
  ·replace hm := h2
   refine jm ?_
   refine jM (ι := Unit) hm (fun s l_1 => True) (fun s l_1 => [(1, ptr b 0), (3, .int .i64 s.n3), (4, .int .i64 s.i4)]) (fun s l_1 => [kc b #[.int .i64 c0.cells, .int .i64 c0.tides, .slice qa0 na0 ca0, .slice qa1 na1 ca1, .slice qa2 na2 ca2] 33]) (fun s l_1 => []) () (trivial) (sE Y) (fun w hh => hh) (fun s l_1 r hpl hm h4 => ?_)
   unfold kX at hm
   refine jh (jt (jk Y Y (qT 4 runUnderlying33 Y sizeOf31 Y Y (qq 0 isAgg31 Y Y Y Y (jc Y Y Y (fun w _ => jR hna2 (runUnderlying31 w) Y) (Jo Y Y Y (jq ?_)))))))
   refine jr Y (fun h5 => ?_) (fun h5 => ?_)
   ·replace hm := ifD h5 hm
    refine js (ja (jh (jm (jg (jk Y Y ?_)))))
    obtain ⟨t13, h6, hm⟩ := bindO hm
    refine jc Y Y Y (fun _ _ => jbh h6 Y Y) (jp Y Y (ju (jx (ja (jg (jk Y Y ?_))))))
    obtain ⟨t11, h7, hm⟩ := bindO hm
    refine JG h7 Y Y Y (jp Y Y (ju ?_))
    obtain rfl := sj hm
    refine ja ?_
    exact jC _ () Y (trivial) (sE Y) (fun w hh => hh)
   replace hm := ifE h5 hm
   refine jS (ji (ji (jD ?_)))
   obtain rfl := sj hm
   have hbo := h4 _ Y
   subst hbo
   exact jj () (trivial) (sE Y) (fun w hh => hh)
  intro l hj
  replace hm := h3
  refine ja (jt (jk Y Y ?_))
  obtain ⟨t15, h8, hm⟩ := bindO hm
  refine jc Y Y Y (fun _ _ => yX h8 Y Y) (jp Y Y (jq (jz ?_)))
  obtain rfl := sj hm
  refine jn Y (fun w hh => (.tmp Y .nil)) (fun w hh => ⟨(), rfl, trivial, hh.se [] [] 3 Y Y Y rfl⟩)
structure q8 where
  n8 : Int
  out7 : (List (List Int))
structure y8 where
  i10 : Int
  out7 : (List (List Int))
def qo (t25 : (List (List Int))) (s : q8) (s_1 : y8) : Option (y8 ⊕ (List (List Int))) :=
 if s_1.i10 < (t25.length : Int) then
 ((ix t25 s_1.i10).bind fun t37 =>
 (appc 8 [s.n8] t37).bind fun t39 =>
 (appc 24 s_1.out7 [t39]).bind fun t41 =>
 (addc s_1.i10 1).bind fun t31 =>
 some (.inl (⟨t31, t41⟩ : y8))) else
 (some (.inr s_1.out7))
def ql (below2 : Int) (many0 : Int) (rec_ : Int → Int → Int → Option (List (List Int))) (s : q8) : Option (q8 ⊕ (List (List Int))) :=
 if s.n8 < below2 then
 ((subc many0 1).bind fun t21 =>
 (addc s.n8 1).bind fun t23 =>
 (rec_ t21 t23 below2).bind fun t25 =>
 (iterM FU (qo t25 s) (⟨0, s.out7⟩ : y8)).bind fun o_1 =>
 (addc s.n8 1).bind fun t19 =>
 some (.inl (⟨t19, o_1⟩ : q8))) else
 (some (.inr s.out7))
def zw (rec_ : Int → Int → Int → Option (List (List Int))) (many0 : Int) (from1 : Int) (below2 : Int) : Option (List (List Int)) :=
 if many0 = 0 then
 (some ([[]])) else
 ((iterM FU (ql below2 many0 rec_) (⟨from1, ([] : List (List Int))⟩ : q8)).bind fun o =>
 some o)
def kv : Nat → Int → Int → Int → Option (List (List Int))
  | 0, _, _, _ => none
  | fu + 1, many0, from1, below2 => zw (kv fu) many0 from1 below2
theorem Yk (fu_ : Nat) : ∀ (many0 : Int) (from1 : Int) (below2 : Int)  (w : World) (hw : HV w (keys [] []) [] [] [] w)  {res : (List (List Int))} (hm : kv fu_ many0 from1 below2 = some res),
    Calls Tryz.prog 158 #[.int .i64 many0, .int .i64 from1, .int .i64 below2] w (fun en w' => ∃ l : DL, en = .returned (sL l.v) ∧ (VOK 1 l.v.n l.v.cap (RwH.enc l.rs) l.v.sp l.v.q ∧ DOK RI res l.rs) ∧ HV w (keys [] []) [] [⟨22, RwH.enc l.rs, l.v.sp, l.v.q, dbl 3 RI res l.rs⟩] [] w') := by
  induction fu_ with
  | zero =>
    intros
    rename_i hm
    exact absurd hm (by simp [kv])
  | succ fu_ ih =>
  intro many0 from1 below2 w hw res hm
  replace hm : zw (kv fu_) many0 from1 below2 = some res := hm
  unfold zw at hm
  refine yd func158 Y ntmps158 Y (e := [(0, _), (1, _), (2, _)]) Y hw (jt (jc Y Y Y (fun _ _ => yq Y) (jq (jh (jt (jk Y Y (jc Y Y Y (fun _ _ => Ju Y Y) ?_)))))))
  refine jq ?_
  refine jr Y (fun h3 => ?_) (fun h3 => ?_)
  ·replace hm := ifD h3 hm
   refine jt ?_
   refine q4 RwH [vl0] (ps := [(0, _)]) (cells := [_]) (fun w => runUnderlying41 w) (fun w => sizeOf22 w) (fun w => zeroValue22 w) Y Y Y Y Y Y Y Y (fun L h4 => ?_)
   refine YP (E2 := 3) RI 1 (Y : _ = ([[]] : List (List Int))) (fun h5 => ?_)
   have h6 : DOK RI ([[]]) [vl0] := h5
   refine Z7 (S' := []) (vs' := [⟨22, RwH.enc [vl0], L.sp, L.q, dbl 3 RI ([[]]) [vl0]⟩]) [] [0] 0 (by decide) (by decide) Y Y Y (jp Y Y (jq (jz (je ?_))))
   obtain rfl := sj hm
   refine jn Y (fun w hh => (.tmp Y .nil)) (fun w hh => ⟨⟨⟨L.q, L.n, L.cap, L.sp⟩, [vl0]⟩, rfl, ⟨h4, h6⟩, hh⟩)
  replace hm := ifE h3 hm
  refine js (ja (jt (jc Y Y Y (fun _ _ => yq Y) (jq (jh (jt (jk Y Y ?_)))))))
  refine jp Y Y (jq (JY 22 ?_))
  obtain ⟨o, h7, h8⟩ := bindO hm
  refine jI (ι := DL) (fun l => VOK 1 l.v.n l.v.cap (RwH.enc l.rs) l.v.sp l.v.q ∧ DOK RI o l.rs) (fun l => [(7, sL l.v)]) (fun l => []) (fun l => [⟨22, RwH.enc l.rs, l.v.sp, l.v.q, dbl 3 RI o l.rs⟩]) ?_ ?_
  ·replace hm := h7
   refine jm ?_
   refine jM (ι := DL) hm (fun s l_1 => VOK 1 l_1.v.n l_1.v.cap (RwH.enc l_1.rs) l_1.v.sp l_1.v.q ∧ DOK RI s.out7 l_1.rs) (fun s l_1 => [(0, .int .i64 many0), (2, .int .i64 below2), (7, sL l_1.v), (8, .int .i64 s.n8)]) (fun s l_1 => []) (fun s l_1 => [⟨22, RwH.enc l_1.rs, l_1.v.sp, l_1.v.q, dbl 3 RI s.out7 l_1.rs⟩]) (⟨⟨none, 0, 0, []⟩, []⟩) (⟨VOK.nil, DOK.nil⟩) (sE Y) (fun w hh => hh) (fun s l_1 r hpl hm h13 => ?_)
   obtain ⟨h11, h12⟩ := hpl
   unfold ql at hm
   refine jh (jt (jk Y Y (jk Y Y (Jo Y Y Y (jq ?_)))))
   refine jr Y (fun h14 => ?_) (fun h14 => ?_)
   ·replace hm := ifD h14 hm
    refine js (ja (jh (jm (jt (jk Y Y ?_)))))
    obtain ⟨t21, h15, hm⟩ := bindO hm
    refine jc Y Y Y (fun _ _ => yX h15 Y Y) (jk Y Y ?_)
    obtain ⟨t23, h16, hm⟩ := bindO hm
    refine JG h16 Y Y Y (jk Y Y ?_)
    obtain ⟨t25, h17, hm⟩ := bindO hm
    refine jd [] [] Y Y Y Y Y Y Y call158 (fun w hh => ih t21 t23 below2 w (HV.callee (S0 := []) (vs0 := []) hh roN)  h17) (fun l_2 h18 => ?_)
    obtain ⟨h19, h20⟩ := h18
    refine k3 (S' := []) (vs' := [_, _]) [] [0, 1] 0 Y Y Y Y (jp Y Y (qs (jp Y Y (jq ?_))))
    obtain ⟨o_1, h21, h22⟩ := bindO hm
    refine jI (ι := DL) (fun l_3 => VOK 1 l_3.v.n l_3.v.cap (RwH.enc l_3.rs) l_3.v.sp l_3.v.q ∧ DOK RI o_1 l_3.rs) (fun l_3 => [(0, .int .i64 many0), (2, .int .i64 below2), (7, sL l_3.v), (8, .int .i64 s.n8)]) (fun l_3 => []) (fun l_3 => [⟨22, RwH.enc l_3.rs, l_3.v.sp, l_3.v.q, dbl 3 RI o_1 l_3.rs⟩]) ?_ ?_
    ·replace hm := h21
     refine jm ?_
     refine jM (ι := DL) hm (fun s_1 l_4 => VOK 1 l_4.v.n l_4.v.cap (RwH.enc l_4.rs) l_4.v.sp l_4.v.q ∧ DOK RI s_1.out7 l_4.rs) (fun s_1 l_4 => [(0, .int .i64 many0), (2, .int .i64 below2), (7, sL l_4.v), (8, .int .i64 s.n8), (9, sL l_2.v), (10, .int .i64 s_1.i10)]) (fun s_1 l_4 => []) (fun s_1 l_4 => [⟨22, RwH.enc l_4.rs, l_4.v.sp, l_4.v.q, dbl 3 RI s_1.out7 l_4.rs⟩, ⟨22, RwH.enc l_2.rs, l_2.v.sp, l_2.v.q, dbl 3 RI t25 l_2.rs⟩]) l_1 (⟨h11, h12⟩) (sE Y) (hsE [] [1, 0] 0 Y Y Y Y) (fun s_1 l_4 r_1 hpl hm h27 => ?_)
     obtain ⟨h25, h26⟩ := hpl
     unfold qo at hm
     refine jh (jt (jk Y Y (jk Y Y (jc Y Y Y (fun w _ => Jh (Eq.trans (h20).len (vlen RwH h19 Y)) (runUnderlying41 w) Y) (Jo Y Y Y (jq ?_))))))
     refine jr Y (fun h28 => ?_) (fun h28 => ?_)
     ·replace hm := ifD h28 hm
      refine js (ja (jh (jm (jg (jk Y Y (jk Y Y ?_))))))
      refine q4 RI [s.n8] (ps := [(0, _)]) (cells := [_]) (fun w => runUnderlying22 w) (fun w => sizeOf3 w) (fun w => zeroValue3 w) Y Y Y Y Y Y Y Y (fun L_1 h29 => ?_)
      refine jk Y Y (jk Y Y ?_)
      obtain ⟨t37, h30, hm⟩ := bindO hm
      obtain ⟨L_2, h31, h32⟩ := (h20).row h30
      refine jc Y Y Y (fun w _ => qM h31 (runUnderlying41 w) (sizeOf22 w) Y Y (vlen RwH h19 Y) (vne h19)) (jc Y Y Y (fun w hh => ka RwH 0 h31 (isAgg22 w) Y (hh.vseg 2 Y h19) Y (Nat.add_zero _).symm) ?_)
      obtain ⟨t39, h33, hm⟩ := bindO hm
      refine Js RI 0 h33 underlying22 QH Y Y Y Y Y h29 Y Y (vlen RI h32 Y) (AOK.q (vne h32)) (fun w hh => (hh.dsegA 2 Y h30 h31 h32)) Y (fun L_3 h34 h34n => ?_)
      refine k3 (S' := []) (vs' := [_, _, _]) [] [0, 1, 2] 0 Y Y Y Y ?_
      refine q4 RwH [(⟨L_3.q, L_3.n, L_3.cap, L_3.sp⟩ : VL)] (ps := [(0, _)]) (cells := [_]) (fun w => runUnderlying41 w) (fun w => sizeOf22 w) (fun w => zeroValue22 w) Y Y Y Y Y Y Y Y (fun L_4 h35 => ?_)
      refine YP (E2 := 3) RI 1 (Y : _ = ([[]] : List (List Int))) (fun h36 => ?_)
      refine k3 (S' := []) (vs' := [_, _, _, _]) [] [0, 1, 2, 3] 0 Y Y Y Y ?_
      refine Ze RI (l' := [t39]) 0 L_3.n L_3.cap h36 h34 Y Y (fun h37 => ?_)
      have h38 : DOK RI [t39] [(⟨L_3.q, L_3.n, L_3.cap, L_3.sp⟩ : VL)] := h37
      refine Z7 (S' := []) (vs' := [⟨22, RwH.enc [(⟨L_3.q, L_3.n, L_3.cap, L_3.sp⟩ : VL)], L_4.sp, L_4.q, dbl 3 RI [t39] [(⟨L_3.q, L_3.n, L_3.cap, L_3.sp⟩ : VL)]⟩, ⟨22, RwH.enc l_4.rs, l_4.v.sp, l_4.v.q, dbl 3 RI s_1.out7 l_4.rs⟩, ⟨22, RwH.enc l_2.rs, l_2.v.sp, l_2.v.q, dbl 3 RI t25 l_2.rs⟩]) [] [0, 1, 2] 0 (by decide) (by decide) Y Y Y ?_
      obtain ⟨t41, h39, hm⟩ := bindO hm
      refine Js RwH 1 (appcL h39 (h26).len (h38).len) underlying41 ZX Y Y Y Y Y h25 Y Y (vlen RwH h35 Y) (AOK.q (vne h35)) (fun w hh => (hh.vsegA 0 Y h35)) Y (fun L_5 h40 _ => ?_)
      refine k3 (S' := []) (vs' := [_, _, _]) [] [0, 1, 2] 0 Y Y Y Y (k3 (S' := []) (vs' := [_, _, _]) [] [1, 0, 2] 0 Y Y Y Y ?_)
      refine Zz RI h26 h38 (appcO h39).1.symm (fun h41 => ?_)
      refine jp Y Y (ju (jx (ja (jg (jk Y Y ?_)))))
      obtain ⟨t31, h42, hm⟩ := bindO hm
      refine JG h42 Y Y Y (jp Y Y (ju ?_))
      obtain rfl := sj hm
      refine ja ?_
      exact jC _ (⟨⟨L_5.q, L_5.n, L_5.cap, L_5.sp⟩, (l_4.rs ++ [(⟨L_3.q, L_3.n, L_3.cap, L_3.sp⟩ : VL)])⟩) Y (⟨h40, h41⟩) (sE Y) (fun w hh => hh)
     replace hm := ifE h28 hm
     refine jS (ji (ji (jD ?_)))
     obtain rfl := sj hm
     have hbo := h27 _ Y
     subst hbo
     exact jj l_4 (⟨h25, h26⟩) (sE Y) (hsE [] [0] 0 Y Y Y Y)
    intro l_3 hj
    obtain ⟨h23, h24⟩ := hj
    replace hm := h22
    refine jx (ja (jg (jk Y Y ?_)))
    obtain ⟨t19, h43, hm⟩ := bindO hm
    refine JG h43 Y Y Y (jp Y Y (ju ?_))
    obtain rfl := sj hm
    refine ja ?_
    exact jC _ l_3 Y (⟨h23, h24⟩) (sE Y) (fun w hh => hh)
   replace hm := ifE h14 hm
   refine jS (ji (ji (jD ?_)))
   obtain rfl := sj hm
   have hbo := h13 _ Y
   subst hbo
   exact jj l_1 (⟨h11, h12⟩) (sE Y) (fun w hh => hh)
  intro l hj
  obtain ⟨h9, h10⟩ := hj
  replace hm := h8
  refine ja (jt (jk Y Y (jp Y Y (jq (jz ?_)))))
  obtain rfl := sj hm
  refine jn Y (fun w hh => (.tmp Y .nil)) (fun w hh => ⟨l, rfl, ⟨h9, h10⟩, hh⟩)
def qv (c0 : Channel) : Option (List (List Int)) :=
 (kv FU (c0.fords.length : Int) 0 c0.cells).bind fun t8 =>
 some t8
theorem Kb (c0 : Channel) (qa0 : Option Addr) (na0 ca0 : Nat) (qa1 : Option Addr) (na1 ca1 : Nat) (qa2 : Option Addr) (na2 ca2 : Nat) (w : World) (hw : HV w (keys [] []) [] [] [(aB qa0, aO qa0, RI.enc c0.fords), (aB qa1, aO qa1, RSa.enc c0.sands), (aB qa2, aO qa2, RSi.enc c0.sights)] w) (hna0 : c0.fords.length = na0) (hqa0 : AOK na0 qa0) (hla0 : na0 ≤ ca0) (hna1 : c0.sands.length = na1) (hqa1 : AOK na1 qa1) (hla1 : na1 ≤ ca1) (hna2 : c0.sights.length = na2) (hqa2 : AOK na2 qa2) (hla2 : na2 ≤ ca2) {res : (List (List Int))} (hm : qv c0 = some res) :
    Calls Tryz.prog 90 #[.agg #[.int .i64 c0.cells, .int .i64 c0.tides, .slice qa0 na0 ca0, .slice qa1 na1 ca1, .slice qa2 na2 ca2]] w (fun en w' => ∃ l : DL, en = .returned (sL l.v) ∧ (VOK 1 l.v.n l.v.cap (RwH.enc l.rs) l.v.sp l.v.q ∧ DOK RI res l.rs) ∧ HV w (keys [] []) [] [⟨22, RwH.enc l.rs, l.v.sp, l.v.q, dbl 3 RI res l.rs⟩] [] w') := by
  unfold qv at hm
  refine yd func90 Y ntmps90 Y (e := [(0, _)]) Y hw (jt ?_)
  refine jP Y Y (fun b h3 => ?_)
  refine jc Y Y Y (fun _ _ => yq Y) (qs (qT 2 runUnderlying33 Y sizeOf22 Y Y (qq 0 isAgg22 Y Y Y Y (jc Y Y Y (fun w _ => jR hna0 (runUnderlying22 w) Y) (qT 0 runUnderlying33 Y sizeOf3 Y Y (qq 0 isAgg3 Y Y Y Y ?_))))))
  obtain ⟨t8, h4, hm⟩ := bindO hm
  refine jd [] [] Y Y Y Y Y Y Y call158 (fun w hh => Yk FU (c0.fords.length : Int) 0 c0.cells w (HV.callee (S0 := []) (vs0 := []) hh roN)  h4) (fun l h5 => ?_)
  obtain ⟨h6, h7⟩ := h5
  refine k3 (S' := [_]) (vs' := [_]) [0] [0] 0 Y Y Y Y (jp Y Y (jq (jz ?_)))
  obtain rfl := sj hm
  refine jn Y (fun w hh => (.tmp Y .nil)) (fun w hh => ⟨l, rfl, ⟨h6, h7⟩, hh.se [] [0] 3 Y Y Y rfl⟩)
def yJ (l0 : (List Int)) (n1 : Int) (s : Int) : Option (Int ⊕ (Unit ⊕ Bool)) :=
 if s < (l0.length : Int) then
 ((ix l0 s).bind fun t14 =>
 if t14 = n1 then
 (some (.inr (.inr true))) else
 ((addc s 1).bind fun t11 =>
 some (.inl t11))) else
 (some (.inr (.inl ())))
def zP (l0 : (List Int)) (n1 : Int) : Option Bool :=
 (iterM FU (yJ l0 n1) 0).bind fun o =>
 oc o (fun j => some false) (fun r_1 => some r_1)
theorem YL (l0 : (List Int)) (n1 : Int) (qa0 : Option Addr) (na0 ca0 : Nat) (w : World) (hw : HV w (keys [] []) [] [] [(aB qa0, aO qa0, RI.enc l0)] w) (hna0 : l0.length = na0) (hqa0 : AOK na0 qa0) (hla0 : na0 ≤ ca0) {res : Bool} (hm : zP l0 n1 = some res) :
    Calls Tryz.prog 105 #[.slice qa0 na0 ca0, .int .i64 n1] w (fun en w' => ∃ l : Unit, en = .returned (.bool res) ∧ (True) ∧ HV w (keys [] []) [] [] [] w') := by
  unfold zP at hm
  refine yd func105 Y ntmps105 Y (e := [(0, _), (1, _)]) Y hw (jt (jp Y Y (jq (jh (jt (jp Y Y (jq ?_)))))))
  obtain ⟨o, h1, h2⟩ := bindO hm
  refine jI (ι := Unit) (fun j => o = .inl j) (fun j => []) (fun j => []) (fun j => []) ?_ ?_
  ·replace hm := h1
   refine jm ?_
   refine jM (ι := Unit) hm (fun s l => True) (fun s l => [(0, .slice qa0 na0 ca0), (1, .int .i64 n1), (5, .int .i64 s)]) (fun s l => []) (fun s l => []) () (trivial) (sE Y) (fun w hh => hh) (fun s l r hpl hm h3 => ?_)
   unfold yJ at hm
   refine jh (jt (jk Y Y (jk Y Y (jc Y Y Y (fun w _ => jR hna0 (runUnderlying22 w) Y) (Jo Y Y Y (jq ?_))))))
   refine jr Y (fun h4 => ?_) (fun h4 => ?_)
   ·replace hm := ifD h4 hm
    refine js (ja (jh (jm (jt (jk Y Y (jk Y Y ?_))))))
    obtain ⟨t14, h5, hm⟩ := bindO hm
    refine jc Y Y Y (fun w _ => qx h5 (runUnderlying22 w) (sizeOf3 w) Y Y hna0 hqa0) (jc Y Y Y (fun w hh => ka RI 0 h5 (isAgg3 w) Y (hh.seg 0 Y) Y (Nat.add_zero _).symm) (jk Y Y (jc Y Y Y (fun _ _ => Ju Y Y) (jq ?_))))
    refine jr Y (fun h6 => ?_) (fun h6 => ?_)
    ·replace hm := ifD h6 hm
     refine jt (jp Y Y (jq (jz (jB (je (je (jB ?_)))))))
     obtain rfl := sj hm
     have hbo := h3 _ Y
     subst hbo
     refine je ?_
     replace hm := ocR h2
     refine je ?_
     obtain rfl := sj hm
     refine jn Y (fun w hh => (.tmp Y .nil)) (fun w hh => ⟨(), rfl, trivial, hh.se [] [] 1 Y Y Y rfl⟩)
    replace hm := ifE h6 hm
    refine js (jx (ja (jg (jk Y Y ?_))))
    obtain ⟨t11, h7, hm⟩ := bindO hm
    refine JG h7 Y Y Y (jp Y Y (ju ?_))
    obtain rfl := sj hm
    refine ja ?_
    exact jC _ () Y (trivial) (sE Y) (fun w hh => hh)
   replace hm := ifE h4 hm
   refine jS (ji (ji (jD ?_)))
   obtain rfl := sj hm
   have hbo := h3 _ Y
   subst hbo
   exact jj () (Y) (.nil) (fun w hh => hh)
  intro j hj
  have h8 := hj
  subst h8
  replace hm := ocL h2
  refine ja (jt (jp Y Y (jq (jz ?_))))
  obtain rfl := sj hm
  refine jn Y (fun w hh => (.tmp Y .nil)) (fun w hh => ⟨(), rfl, trivial, hh.se [] [] 1 Y Y Y rfl⟩)
structure qV where
  set3 : Int
  i9 : Int
def qY (c0 : Channel) (after1 : Int) (l2 : (List Int)) (s : qV) : Option (qV ⊕ (Unit ⊕ Bool)) :=
 if s.i9 < (c0.sights.length : Int) then
 ((ix c0.sights s.i9).bind fun t21 =>
 ((remc s.set3 2).bind fun t24 =>
 if t24 = 1 then
 (if t21.after = after1 then
 ((zP l2 t21.cell).bind fun t36 =>
 some (!(t36 == t21.upright))) else
 (some false)) else
 (some false)).bind fun o_1 =>
 if o_1 = true then
 (some (.inr (.inr false))) else
 ((quoc s.set3 2).bind fun t42 =>
 (addc s.i9 1).bind fun t17 =>
 some (.inl (⟨t42, t17⟩ : qV)))) else
 (some (.inr (.inl ())))
def kk (c0 : Channel) (after1 : Int) (l2 : (List Int)) (set3 : Int) : Option Bool :=
 (iterM FU (qY c0 after1 l2) (⟨set3, 0⟩ : qV)).bind fun o =>
 oc o (fun j => some true) (fun r_1 => some r_1)
theorem JT (c0 : Channel) (after1 : Int) (l2 : (List Int)) (set3 : Int) (qa0 : Option Addr) (na0 ca0 : Nat) (qa1 : Option Addr) (na1 ca1 : Nat) (qa2 : Option Addr) (na2 ca2 : Nat) (qa3 : Option Addr) (na3 ca3 : Nat) (w : World) (hw : HV w (keys [] []) [] [] [(aB qa0, aO qa0, RI.enc c0.fords), (aB qa1, aO qa1, RSa.enc c0.sands), (aB qa2, aO qa2, RSi.enc c0.sights), (aB qa3, aO qa3, RI.enc l2)] w) (hna0 : c0.fords.length = na0) (hqa0 : AOK na0 qa0) (hla0 : na0 ≤ ca0) (hna1 : c0.sands.length = na1) (hqa1 : AOK na1 qa1) (hla1 : na1 ≤ ca1) (hna2 : c0.sights.length = na2) (hqa2 : AOK na2 qa2) (hla2 : na2 ≤ ca2) (hna3 : l2.length = na3) (hqa3 : AOK na3 qa3) (hla3 : na3 ≤ ca3) {res : Bool} (hm : kk c0 after1 l2 set3 = some res) :
    Calls Tryz.prog 102 #[.agg #[.int .i64 c0.cells, .int .i64 c0.tides, .slice qa0 na0 ca0, .slice qa1 na1 ca1, .slice qa2 na2 ca2], .int .i64 after1, .slice qa3 na3 ca3, .int .i64 set3] w (fun en w' => ∃ l : Unit, en = .returned (.bool res) ∧ (True) ∧ HV w (keys [] []) [] [] [] w') := by
  unfold kk at hm
  refine yd func102 Y ntmps102 Y (e := [(0, _), (1, _), (2, _), (3, _)]) Y hw (jt ?_)
  refine jP Y Y (fun b h1 => ?_)
  refine jp Y Y (jq (jh (jt (jp Y Y (jq ?_)))))
  obtain ⟨o, h2, h3⟩ := bindO hm
  refine jI (ι := Unit) (fun j => o = .inl j) (fun j => []) (fun j => [kc b #[.int .i64 c0.cells, .int .i64 c0.tides, .slice qa0 na0 ca0, .slice qa1 na1 ca1, .slice qa2 na2 ca2] 33]) (fun j => []) ?_ ?_
  ·replace hm := h2
   refine jm ?_
   refine jM (ι := Unit) hm (fun s l => True) (fun s l => [(1, .int .i64 after1), (2, .slice qa3 na3 ca3), (3, .int .i64 s.set3), (4, ptr b 0), (9, .int .i64 s.i9)]) (fun s l => [kc b #[.int .i64 c0.cells, .int .i64 c0.tides, .slice qa0 na0 ca0, .slice qa1 na1 ca1, .slice qa2 na2 ca2] 33]) (fun s l => []) () (trivial) (sE Y) (fun w hh => hh) (fun s l r hpl hm h4 => ?_)
   unfold qY at hm
   refine jh (jt (jk Y Y (qT 4 runUnderlying33 Y sizeOf31 Y Y (qq 0 isAgg31 Y Y Y Y (jc Y Y Y (fun w _ => jR hna2 (runUnderlying31 w) Y) (Jo Y Y Y (jq ?_)))))))
   refine jr Y (fun h5 => ?_) (fun h5 => ?_)
   ·replace hm := ifD h5 hm
    refine js (ja (jh (jm (jt (qT 4 runUnderlying33 Y sizeOf31 Y Y (qq 0 isAgg31 Y Y Y Y (jk Y Y ?_)))))))
    obtain ⟨t21, h6, hm⟩ := bindO hm
    refine jc Y Y Y (fun w _ => qx h6 (runUnderlying31 w) (sizeOf139 w) Y Y hna2 hqa2) ?_
    refine jc Y Y Y (fun w hh => Jy RSi 0 [.int .i64 t21.after, .int .i64 t21.cell, .bool t21.upright] h6 (isAgg139 w) (sizeOf139 w) Y (hh.seg 2 Y) Y (Nat.add_zero _).symm) ?_
    refine jA (fun w => zeroValue139 w) Y (fun b_1 h7 => ?_)
    refine kE (us := #[_, _, _]) (cs' := [_, _, _]) (S' := [_, _]) 0 (fun w => sizeOf139 w) Y Y Y Y Y Y Y (jq (jh (jh ?_)))
    obtain ⟨o_1, h8, h9⟩ := bindO hm
    refine jI (ι := Unit) (fun l_1 => True) (fun l_1 => [(1, .int .i64 after1), (2, .slice qa3 na3 ca3), (3, .int .i64 s.set3), (4, ptr b 0), (9, .int .i64 s.i9), (40, .bool o_1)]) (fun l_1 => [kc b_1 #[.int .i64 t21.after, .int .i64 t21.cell, .bool t21.upright] 139, kc b #[.int .i64 c0.cells, .int .i64 c0.tides, .slice qa0 na0 ca0, .slice qa1 na1 ca1, .slice qa2 na2 ca2] 33]) (fun l_1 => []) ?_ ?_
    ·replace hm := h8
     refine j5 none (.free 0 (.free 1 (.free 2 (.free 3 (.free 4 (.hoist 5 (.free 6 (.free 7 (.free 8 (.free 9 (.free 10 (.free 11 (.hoist 12 (.free 14 (.hoist 15 (.one 13 (.free 16 (.free 17 .done)))))))))))))))))) _ Y (by decide +kernel) (fun w k hh => hh.draw k) (fun w hh => hh) ?_
     refine k9 Y Y Y ?_
     obtain ⟨t24, h10, hm⟩ := bindO hm
     refine jl Y Y Y Y (fun _ _ => jbk h10 Y Y) (jl Y Y Y Y (fun _ _ => Ju Y Y) (k9 Y Y Y ?_))
     refine jQ 26 Y (fun h11 => ?_) (fun h11 => ?_)
     ·replace hm := ifD h11 hm
      refine jy Y Y Y Y Y Y (fun w _ => jJ 0 (runUnderlying139 w) Y (sizeOf3 w) Y) (jZ Y Y Y Y Y Y (fun w hh => jL (isAgg3 w) Y (hh.cell 0 Y Y)) (jy Y Y Y Y Y Y (fun _ _ => jN Y) (jy Y Y Y Y Y Y (fun _ _ => Ju Y Y) (jl Y Y Y Y (fun _ _ => zD Y Y) (k9 Y Y Y ?_)))))
      refine jQ 32 Y (fun h12 => ?_) (fun h12 => ?_)
      ·replace hm := ifD h12 hm
       refine jy Y Y Y Y Y Y (fun _ _ => jN Y) (jy Y Y Y Y Y Y (fun w _ => jJ 1 (runUnderlying139 w) Y (sizeOf3 w) Y) (jZ Y Y Y Y Y Y (fun w hh => jL (isAgg3 w) Y (hh.cell 0 Y Y)) (jy Y Y Y Y Y Y (fun w _ => jJ 2 (runUnderlying139 w) Y (sizeOf4 w) Y) (jZ Y Y Y Y Y Y (fun w hh => jL (isAgg4 w) Y (hh.cell 0 Y Y)) (jF Y (jb Y Y ?_))))))
       obtain ⟨t36, h13, hm⟩ := bindO hm
       refine jd [] [] Y Y Y Y Y Y Y call105 (fun w hh => YL l2 t21.cell qa3 na3 ca3 w (HV.callee (S0 := []) (vs0 := []) hh (roR hh 3 Y roN)) hna3 hqa3 hla3 h13) (fun l_2 h14 => ?_)
       refine jo (fun w hh => hh) (jy Y Y Y Y Y Y (fun w _ => Y4 (runUnderlying4 w) Y Y) (jl Y Y Y Y (fun _ _ => zD Y Y) (jG ?_)))
       obtain rfl := sj hm
       exact jj () (trivial) (sE Y) (fun w hh => hh)
      replace hm := ifE h12 hm
      refine jv Y Y Y Y Y Y Y (jv Y Y Y Y Y Y Y (qi Y Y Y Y Y Y Y (jv Y Y Y Y Y Y Y (qi Y Y Y Y Y Y Y (jF Y (g_k Y Y Y Y (jo (fun w hh => hh) ?_)))))))
      refine jv Y Y Y Y Y Y Y (jl Y Y Y Y (fun _ _ => q5 Y Y) (jG ?_))
      obtain rfl := sj hm
      exact jj () (trivial) (sE Y) (fun w hh => hh)
     replace hm := ifE h11 hm
     refine jv Y Y Y Y Y Y Y (qi Y Y Y Y Y Y Y (jv Y Y Y Y Y Y Y (jv Y Y Y Y Y Y Y (jl Y Y Y Y (fun _ _ => q5 Y Y) (k9 Y Y Y (jv Y Y Y Y Y Y Y (jv Y Y Y Y Y Y Y ?_)))))))
     refine qi Y Y Y Y Y Y Y (jv Y Y Y Y Y Y Y (qi Y Y Y Y Y Y Y (jF Y (g_k Y Y Y Y (jo (fun w hh => hh) (jv Y Y Y Y Y Y Y (jl Y Y Y Y (fun _ _ => q5 Y Y) ?_)))))))
     refine jG ?_
     obtain rfl := sj hm
     exact jj () (trivial) (sE Y) (fun w hh => hh)
    intro l_1 hj
    replace hm := h9
    refine ja ?_
    refine jr Y (fun h15 => ?_) (fun h15 => ?_)
    ·replace hm := ifT (h15) hm
     refine jt (jp Y Y (jq (jz (je (jB (je (je ?_)))))))
     refine jB ?_
     obtain rfl := sj hm
     have hbo := h4 _ Y
     subst hbo
     refine je ?_
     replace hm := ocR h3
     refine je ?_
     obtain rfl := sj hm
     refine jn Y (fun w hh => (.tmp Y .nil)) (fun w hh => ⟨(), rfl, trivial, hh.se [] [] 4 Y Y Y rfl⟩)
    replace hm := ifN h15 hm
    refine js (ja (jg (jk Y Y ?_)))
    obtain ⟨t42, h16, hm⟩ := bindO hm
    refine jc Y Y Y (fun _ _ => jbl h16 Y Y) (jp Y Y (ju (jx (ja (jg (jk Y Y ?_))))))
    obtain ⟨t17, h17, hm⟩ := bindO hm
    refine JG h17 Y Y Y (jp Y Y (ju ?_))
    obtain rfl := sj hm
    refine ja ?_
    exact jC _ () Y (trivial) (sE Y) (hsE [1] [] 0 Y Y Y Y)
   replace hm := ifE h5 hm
   refine jS (ji (ji (jD ?_)))
   obtain rfl := sj hm
   have hbo := h4 _ Y
   subst hbo
   exact jj () (Y) (.nil) (fun w hh => hh)
  intro j hj
  have h18 := hj
  subst h18
  replace hm := ocL h3
  refine ja (jt (jp Y Y (jq (jz ?_))))
  obtain rfl := sj hm
  refine jn Y (fun w hh => (.tmp Y .nil)) (fun w hh => ⟨(), rfl, trivial, hh.se [] [] 4 Y Y Y rfl⟩)
def Jw (a0 : (List Int)) (b1 : (List Int)) (s : Int) : Option (Int ⊕ (Unit ⊕ Bool)) :=
 if s < (a0.length : Int) then
 ((ix a0 s).bind fun t19 =>
 (ix b1 s).bind fun t23 =>
 if t19 = t23 then
 ((addc s 1).bind fun t16 =>
 some (.inl t16)) else
 (some (.inr (.inr false)))) else
 (some (.inr (.inl ())))
def yC (a0 : (List Int)) (b1 : (List Int)) : Option Bool :=
 if (a0.length : Int) = (b1.length : Int) then
 ((iterM FU (Jw a0 b1) 0).bind fun o =>
 oc o (fun j => some true) (fun r_1 => some r_1)) else
 (some false)
theorem Qk (a0 : (List Int)) (b1 : (List Int)) (qa0 : Option Addr) (na0 ca0 : Nat) (qa1 : Option Addr) (na1 ca1 : Nat) (w : World) (hw : HV w (keys [] []) [] [] [(aB qa0, aO qa0, RI.enc a0), (aB qa1, aO qa1, RI.enc b1)] w) (hna0 : a0.length = na0) (hqa0 : AOK na0 qa0) (hla0 : na0 ≤ ca0) (hna1 : b1.length = na1) (hqa1 : AOK na1 qa1) (hla1 : na1 ≤ ca1) {res : Bool} (hm : yC a0 b1 = some res) :
    Calls Tryz.prog 101 #[.slice qa0 na0 ca0, .slice qa1 na1 ca1] w (fun en w' => ∃ l : Unit, en = .returned (.bool res) ∧ (True) ∧ HV w (keys [] []) [] [] [] w') := by
  unfold yC at hm
  refine yd func101 Y ntmps101 Y (e := [(0, _), (1, _)]) Y hw (jt (jp Y Y (jq (jh (jt (jk Y Y (jc Y Y Y (fun w _ => jR hna0 (runUnderlying22 w) Y) ?_)))))))
  refine jk Y Y (jc Y Y Y (fun w _ => jR hna1 (runUnderlying22 w) Y) (jc Y Y Y (fun _ _ => Jr Y Y) (jq ?_)))
  refine jr Y (fun h1 => ?_) (fun h1 => ?_)
  ·replace hm := ifF (of_ndec_true h1) hm
   refine jt (jp Y Y (jq (jz (je ?_))))
   obtain rfl := sj hm
   refine jn Y (fun w hh => (.tmp Y .nil)) (fun w hh => ⟨(), rfl, trivial, hh.se [] [] 2 Y Y Y rfl⟩)
  replace hm := ifT (of_ndec_false h1) hm
  refine js (ja (jh (jt (jp Y Y (jq ?_)))))
  obtain ⟨o, h2, h3⟩ := bindO hm
  refine jI (ι := Unit) (fun j => o = .inl j) (fun j => []) (fun j => []) (fun j => []) ?_ ?_
  ·replace hm := h2
   refine jm ?_
   refine jM (ι := Unit) hm (fun s l => True) (fun s l => [(0, .slice qa0 na0 ca0), (1, .slice qa1 na1 ca1), (5, .int .i64 s)]) (fun s l => []) (fun s l => []) () (trivial) (sE Y) (fun w hh => hh) (fun s l r hpl hm h4 => ?_)
   unfold Jw at hm
   refine jh (jt (jk Y Y (jk Y Y (jc Y Y Y (fun w _ => jR hna0 (runUnderlying22 w) Y) (Jo Y Y Y (jq ?_))))))
   refine jr Y (fun h5 => ?_) (fun h5 => ?_)
   ·replace hm := ifD h5 hm
    refine js (ja (jh (jm (jh ?_))))
    refine j5 none (.free 0 (.free 1 (.free 2 (.hoist 3 (.free 4 (.free 5 (.free 6 (.hoist 7 (.free 8 .done))))))))) _ Y (by decide +kernel) (fun w k hh => hh.draw k) (fun w hh => hh) ?_
    refine k9 Y Y Y (k9 Y Y Y ?_)
    obtain ⟨t19, h6, hm⟩ := bindO hm
    refine jl Y Y Y Y (fun w _ => qx h6 (runUnderlying22 w) (sizeOf3 w) Y Y hna0 hqa0) (jw Y Y Y Y (fun w hh => ka RI 0 h6 (isAgg3 w) Y (hh.seg 0 Y) Y (Nat.add_zero _).symm) (k9 Y Y Y (k9 Y Y Y ?_)))
    obtain ⟨t23, h7, hm⟩ := bindO hm
    refine jl Y Y Y Y (fun w _ => qx h7 (runUnderlying22 w) (sizeOf3 w) Y Y hna1 hqa1) (jw Y Y Y Y (fun w hh => ka RI 0 h7 (isAgg3 w) Y (hh.seg 1 Y) Y (Nat.add_zero _).symm) (jl Y Y Y Y (fun _ _ => Jr Y Y) (jG (ja ?_))))
    refine jr Y (fun h8 => ?_) (fun h8 => ?_)
    ·replace hm := ifF (of_ndec_true h8) hm
     refine jt (jp Y Y (jq (jz (jB (je (je (jB ?_)))))))
     obtain rfl := sj hm
     have hbo := h4 _ Y
     subst hbo
     refine je ?_
     replace hm := ocR h3
     refine je ?_
     obtain rfl := sj hm
     refine jn Y (fun w hh => (.tmp Y .nil)) (fun w hh => ⟨(), rfl, trivial, hh.se [] [] 2 Y Y Y rfl⟩)
    replace hm := ifT (of_ndec_false h8) hm
    refine js (jx (ja (jg (jk Y Y ?_))))
    obtain ⟨t16, h9, hm⟩ := bindO hm
    refine JG h9 Y Y Y (jp Y Y (ju ?_))
    obtain rfl := sj hm
    refine ja ?_
    exact jC _ () Y (trivial) (sE Y) (fun w hh => hh)
   replace hm := ifE h5 hm
   refine jS (ji (ji (jD ?_)))
   obtain rfl := sj hm
   have hbo := h4 _ Y
   subst hbo
   exact jj () (Y) (.nil) (fun w hh => hh)
  intro j hj
  have h10 := hj
  subst h10
  replace hm := ocL h3
  refine ja (jt (jp Y Y (jq (jz ?_))))
  obtain rfl := sj hm
  refine jn Y (fun w hh => (.tmp Y .nil)) (fun w hh => ⟨(), rfl, trivial, hh.se [] [] 2 Y Y Y rfl⟩)
structure q9 where
  r5 : Int
  i6 : Int
def ya (c0 : Channel) (cell1 : Int) (s : q9) : Option (q9 ⊕ Int) :=
 if s.i6 < (c0.sands.length : Int) then
 (((ix c0.sands s.i6).bind fun t18 =>
 (ix c0.sands s.i6).bind fun t25 =>
 (jE cell1 t18.span.lo t25.span.hi).bind fun t29 =>
 if (!t29) = true then
 ((ix c0.sands s.i6).bind fun t35 =>
 some (max s.r5 t35.reach)) else
 (some s.r5)).bind fun o_1 =>
 (addc s.i6 1).bind fun t13 =>
 some (.inl (⟨o_1, t13⟩ : q9))) else
 (some (.inr s.r5))
def yZ (c0 : Channel) (cell1 : Int) : Option Int :=
 (iterM FU (ya c0 cell1) (⟨0, 0⟩ : q9)).bind fun o =>
 some o
theorem Ym (c0 : Channel) (cell1 : Int) (qa0 : Option Addr) (na0 ca0 : Nat) (qa1 : Option Addr) (na1 ca1 : Nat) (qa2 : Option Addr) (na2 ca2 : Nat) (w : World) (hw : HV w (keys [] []) [] [] [(aB qa0, aO qa0, RI.enc c0.fords), (aB qa1, aO qa1, RSa.enc c0.sands), (aB qa2, aO qa2, RSi.enc c0.sights)] w) (hna0 : c0.fords.length = na0) (hqa0 : AOK na0 qa0) (hla0 : na0 ≤ ca0) (hna1 : c0.sands.length = na1) (hqa1 : AOK na1 qa1) (hla1 : na1 ≤ ca1) (hna2 : c0.sights.length = na2) (hqa2 : AOK na2 qa2) (hla2 : na2 ≤ ca2) {res : Int} (hm : yZ c0 cell1 = some res) :
    Calls Tryz.prog 57 #[.agg #[.int .i64 c0.cells, .int .i64 c0.tides, .slice qa0 na0 ca0, .slice qa1 na1 ca1, .slice qa2 na2 ca2], .int .i64 cell1] w (fun en w' => ∃ l : Unit, en = .returned (.int .i64 res) ∧ (True) ∧ HV w (keys [] []) [] [] [] w') := by
  unfold yZ at hm
  refine yd func57 Y ntmps57 Y (e := [(0, _), (1, _)]) Y hw (jt ?_)
  refine jP Y Y (fun b h1 => ?_)
  refine jp Y Y (qs (jp Y Y (jq (jh (jt (jp Y Y (jq ?_)))))))
  obtain ⟨o, h2, h3⟩ := bindO hm
  refine jI (ι := Unit) (fun l => True) (fun l => [(5, .int .i64 o)]) (fun l => [kc b #[.int .i64 c0.cells, .int .i64 c0.tides, .slice qa0 na0 ca0, .slice qa1 na1 ca1, .slice qa2 na2 ca2] 33]) (fun l => []) ?_ ?_
  ·replace hm := h2
   refine jm ?_
   refine jM (ι := Unit) hm (fun s l_1 => True) (fun s l_1 => [(1, .int .i64 cell1), (2, ptr b 0), (5, .int .i64 s.r5), (6, .int .i64 s.i6)]) (fun s l_1 => [kc b #[.int .i64 c0.cells, .int .i64 c0.tides, .slice qa0 na0 ca0, .slice qa1 na1 ca1, .slice qa2 na2 ca2] 33]) (fun s l_1 => []) () (trivial) (sE Y) (fun w hh => hh) (fun s l_1 r hpl hm h4 => ?_)
   unfold ya at hm
   refine jh (jt (jk Y Y (qT 3 runUnderlying33 Y sizeOf30 Y Y (qq 0 isAgg30 Y Y Y Y (jc Y Y Y (fun w _ => jR hna1 (runUnderlying30 w) Y) (Jo Y Y Y (jq ?_)))))))
   refine jr Y (fun h5 => ?_) (fun h5 => ?_)
   ·replace hm := ifD h5 hm
    refine js (ja (jh ?_))
    obtain ⟨o_1, h6, h7⟩ := bindO hm
    refine jI (ι := Unit) (fun l_2 => True) (fun l_2 => [(1, .int .i64 cell1), (2, ptr b 0), (5, .int .i64 o_1), (6, .int .i64 s.i6)]) (fun l_2 => [kc b #[.int .i64 c0.cells, .int .i64 c0.tides, .slice qa0 na0 ca0, .slice qa1 na1 ca1, .slice qa2 na2 ca2] 33]) (fun l_2 => []) ?_ ?_
    ·replace hm := h6
     refine jm (jh ?_)
     refine j5 none (.free 0 (.free 1 (.hoist 2 (.free 3 (.free 4 (.free 5 (.free 6 (.hoist 7 (.free 8 (.hoist 9 (.free 10 (.free 11 (.free 12 (.free 13 (.hoist 14 (.one 15 (.free 16 .done))))))))))))))))) _ Y (by decide +kernel) (fun w k hh => hh.draw k) (fun w hh => hh) ?_
     refine k9 Y Y Y (Kk 3 runUnderlying33 sizeOf30 Y Y Y Y (K8 0 isAgg30 Y Y Y Y Y (k9 Y Y Y ?_)))
     obtain ⟨t18, h8, hm⟩ := bindO hm
     refine jl Y Y Y Y (fun w _ => qx h8 (runUnderlying30 w) (sizeOf138 w) Y Y hna1 hqa1) (Kk 0 runUnderlying138 sizeOf50 Y Y Y Y (Kk 0 runUnderlying50 sizeOf3 Y Y Y Y (jw Y Y Y Y (fun w hh => ka RSa 0 h8 (isAgg3 w) Y (hh.seg 1 Y) Y (by first | rfl | simp only [Nat.add_assoc])) (Kk 3 runUnderlying33 sizeOf30 Y Y Y Y (K8 0 isAgg30 Y Y Y Y Y (k9 Y Y Y ?_))))))
     obtain ⟨t25, h9, hm⟩ := bindO hm
     refine jl Y Y Y Y (fun w _ => qx h9 (runUnderlying30 w) (sizeOf138 w) Y Y hna1 hqa1) (Kk 0 runUnderlying138 sizeOf50 Y Y Y Y (Kk 1 runUnderlying50 sizeOf3 Y Y Y Y (jw Y Y Y Y (fun w hh => ka RSa 1 h9 (isAgg3 w) Y (hh.seg 1 Y) Y (by first | rfl | simp only [Nat.add_assoc])) (jF Y ?_))))
     obtain ⟨t29, h10, hm⟩ := bindO hm
     refine jd [] [] Y Y Y Y Y Y Y call88 (fun w hh => kb cell1 t18.span.lo t25.span.hi w (HV.callee (S0 := []) (vs0 := []) hh roN)  h10) (fun l_3 h11 => ?_)
     refine jo (fun w hh => hh) (jl Y Y Y Y (fun _ _ => ze Y) (jG (ja ?_)))
     refine jr Y (fun h12 => ?_) (fun h12 => ?_)
     ·replace hm := ifT (h12) hm
      refine jg (jk Y Y (qT 3 runUnderlying33 Y sizeOf30 Y Y (qq 0 isAgg30 Y Y Y Y (jk Y Y ?_))))
      obtain ⟨t35, h13, hm⟩ := bindO hm
      refine jc Y Y Y (fun w _ => qx h13 (runUnderlying30 w) (sizeOf138 w) Y Y hna1 hqa1) (qT 2 runUnderlying138 Y sizeOf3 Y Y (jc Y Y Y (fun w hh => ka RSa 2 h13 (isAgg3 w) Y (hh.seg 1 Y) Y Y) (jc Y Y Y (fun _ _ => Z3 Y Y) (jp Y Y (ju (jx ?_))))))
      obtain rfl := sj hm
      exact jj () (trivial) (sE Y) (fun w hh => hh)
     replace hm := ifN h12 hm
     refine js (jx ?_)
     obtain rfl := sj hm
     exact jj () (trivial) (sE Y) (fun w hh => hh)
    intro l_2 hj
    replace hm := h7
    refine ja (jg (jk Y Y ?_))
    obtain ⟨t13, h14, hm⟩ := bindO hm
    refine JG h14 Y Y Y (jp Y Y (ju ?_))
    obtain rfl := sj hm
    refine ja ?_
    exact jC _ () Y (trivial) (sE Y) (fun w hh => hh)
   replace hm := ifE h5 hm
   refine jS (ji (ji (jD ?_)))
   obtain rfl := sj hm
   have hbo := h4 _ Y
   subst hbo
   exact jj () (trivial) (sE Y) (fun w hh => hh)
  intro l hj
  replace hm := h3
  refine ja (jt (jk Y Y (jp Y Y (jq (jz ?_)))))
  obtain rfl := sj hm
  refine jn Y (fun w hh => (.tmp Y .nil)) (fun w hh => ⟨(), rfl, trivial, hh.se [] [] 3 Y Y Y rfl⟩)
def yM (a1 : (List Int)) (c0 : Channel) (b2 : (List Int)) (s : Int) : Option (Int ⊕ (Unit ⊕ Bool)) :=
 if s < (a1.length : Int) then
 ((ix a1 s).bind fun t18 =>
 (yZ c0 t18).bind fun t20 =>
 (ix b2 s).bind fun t23 =>
 (ix a1 s).bind fun t27 =>
 (subc t27 t20).bind fun t30 =>
 (ix a1 s).bind fun t33 =>
 (addc t33 t20).bind fun t36 =>
 (jE t23 t30 t36).bind fun t37 =>
 if t37 = true then
 (some (.inr (.inr false))) else
 ((addc s 1).bind fun t14 =>
 some (.inl t14))) else
 (some (.inr (.inl ())))
def qD (c0 : Channel) (a1 : (List Int)) (b2 : (List Int)) : Option Bool :=
 (iterM FU (yM a1 c0 b2) 0).bind fun o =>
 oc o (fun j => some true) (fun r_1 => some r_1)
theorem JL (c0 : Channel) (a1 : (List Int)) (b2 : (List Int)) (qa0 : Option Addr) (na0 ca0 : Nat) (qa1 : Option Addr) (na1 ca1 : Nat) (qa2 : Option Addr) (na2 ca2 : Nat) (qa3 : Option Addr) (na3 ca3 : Nat) (qa4 : Option Addr) (na4 ca4 : Nat) (w : World) (hw : HV w (keys [] []) [] [] [(aB qa0, aO qa0, RI.enc c0.fords), (aB qa1, aO qa1, RSa.enc c0.sands), (aB qa2, aO qa2, RSi.enc c0.sights), (aB qa3, aO qa3, RI.enc a1), (aB qa4, aO qa4, RI.enc b2)] w) (hna0 : c0.fords.length = na0) (hqa0 : AOK na0 qa0) (hla0 : na0 ≤ ca0) (hna1 : c0.sands.length = na1) (hqa1 : AOK na1 qa1) (hla1 : na1 ≤ ca1) (hna2 : c0.sights.length = na2) (hqa2 : AOK na2 qa2) (hla2 : na2 ≤ ca2) (hna3 : a1.length = na3) (hqa3 : AOK na3 qa3) (hla3 : na3 ≤ ca3) (hna4 : b2.length = na4) (hqa4 : AOK na4 qa4) (hla4 : na4 ≤ ca4) {res : Bool} (hm : qD c0 a1 b2 = some res) :
    Calls Tryz.prog 92 #[.agg #[.int .i64 c0.cells, .int .i64 c0.tides, .slice qa0 na0 ca0, .slice qa1 na1 ca1, .slice qa2 na2 ca2], .slice qa3 na3 ca3, .slice qa4 na4 ca4] w (fun en w' => ∃ l : Unit, en = .returned (.bool res) ∧ (True) ∧ HV w (keys [] []) [] [] [] w') := by
  unfold qD at hm
  refine yd func92 Y ntmps92 Y (e := [(0, _), (1, _), (2, _)]) Y hw (jt ?_)
  refine jP Y Y (fun b h1 => ?_)
  refine jp Y Y (jq (jh (jt (jp Y Y (jq ?_)))))
  obtain ⟨o, h2, h3⟩ := bindO hm
  refine jI (ι := Unit) (fun j => o = .inl j) (fun j => []) (fun j => [kc b #[.int .i64 c0.cells, .int .i64 c0.tides, .slice qa0 na0 ca0, .slice qa1 na1 ca1, .slice qa2 na2 ca2] 33]) (fun j => []) ?_ ?_
  ·replace hm := h2
   refine jm ?_
   refine jM (ι := Unit) hm (fun s l => True) (fun s l => [(1, .slice qa3 na3 ca3), (2, .slice qa4 na4 ca4), (3, ptr b 0), (7, .int .i64 s)]) (fun s l => [kc b #[.int .i64 c0.cells, .int .i64 c0.tides, .slice qa0 na0 ca0, .slice qa1 na1 ca1, .slice qa2 na2 ca2] 33]) (fun s l => []) () (trivial) (sE Y) (fun w hh => hh) (fun s l r hpl hm h4 => ?_)
   unfold yM at hm
   refine jh (jt (jk Y Y (jk Y Y (jc Y Y Y (fun w _ => jR hna3 (runUnderlying22 w) Y) (Jo Y Y Y (jq ?_))))))
   refine jr Y (fun h5 => ?_) (fun h5 => ?_)
   ·replace hm := ifD h5 hm
    refine js (ja (jh (jm (jh (j5 none (.hoist 0 (.free 1 (.free 2 (.free 3 (.hoist 4 (.one 5 (.free 6 .done))))))) _ Y (by decide +kernel) (fun w k hh => hh.draw k) (fun w hh => hh) (jw Y Y Y Y (fun w hh => jH (vs := [_, _, _, _, _]) (isAgg33 w) (sizeOf33 w) Y (hh.cells 0 Y Y)) (k9 Y Y Y ?_)))))))
    refine k9 Y Y Y ?_
    obtain ⟨t18, h6, hm⟩ := bindO hm
    refine jl Y Y Y Y (fun w _ => qx h6 (runUnderlying22 w) (sizeOf3 w) Y Y hna3 hqa3) (jw Y Y Y Y (fun w hh => ka RI 0 h6 (isAgg3 w) Y (hh.seg 3 Y) Y (Nat.add_zero _).symm) (jF Y ?_))
    obtain ⟨t20, h7, hm⟩ := bindO hm
    refine jd [] [] Y Y Y Y Y Y Y call57 (fun w hh => Ym c0 t18 qa0 na0 ca0 qa1 na1 ca1 qa2 na2 ca2 w (HV.callee (S0 := []) (vs0 := []) hh (roR hh 0 Y (roR hh 1 Y (roR hh 2 Y roN)))) hna0 hqa0 hla0 hna1 hqa1 hla1 hna2 hqa2 hla2 h7) (fun l_1 h8 => ?_)
    refine jo (fun w hh => hh) (jl Y Y Y Y (fun _ _ => kx Y) (jG (ja (jh ?_))))
    refine j5 none (.free 0 (.free 1 (.free 2 (.hoist 3 (.free 4 (.free 5 (.free 6 (.hoist 7 (.free 8 (.free 9 (.free 10 (.free 11 (.free 12 (.hoist 13 (.free 14 (.free 15 (.one 16 .done))))))))))))))))) _ Y (by decide +kernel) (fun w k hh => hh.draw k) (fun w hh => hh) ?_
    refine k9 Y Y Y (k9 Y Y Y ?_)
    obtain ⟨t23, h9, hm⟩ := bindO hm
    refine jl Y Y Y Y (fun w _ => qx h9 (runUnderlying22 w) (sizeOf3 w) Y Y hna4 hqa4) (jw Y Y Y Y (fun w hh => ka RI 0 h9 (isAgg3 w) Y (hh.seg 4 Y) Y (Nat.add_zero _).symm) (k9 Y Y Y (k9 Y Y Y ?_)))
    obtain ⟨t27, h10, hm⟩ := bindO hm
    refine jl Y Y Y Y (fun w _ => qx h10 (runUnderlying22 w) (sizeOf3 w) Y Y hna3 hqa3) (jw Y Y Y Y (fun w hh => ka RI 0 h10 (isAgg3 w) Y (hh.seg 3 Y) Y (Nat.add_zero _).symm) (k9 Y Y Y ?_))
    obtain ⟨t30, h11, hm⟩ := bindO hm
    refine jl Y Y Y Y (fun _ _ => yX h11 Y Y) (k9 Y Y Y (k9 Y Y Y ?_))
    obtain ⟨t33, h12, hm⟩ := bindO hm
    refine jl Y Y Y Y (fun w _ => qx h12 (runUnderlying22 w) (sizeOf3 w) Y Y hna3 hqa3) (jw Y Y Y Y (fun w hh => ka RI 0 h12 (isAgg3 w) Y (hh.seg 3 Y) Y (Nat.add_zero _).symm) (k9 Y Y Y ?_))
    obtain ⟨t36, h13, hm⟩ := bindO hm
    refine jl Y Y Y Y (fun _ _ => Kh h13 Y Y) (jF Y ?_)
    obtain ⟨t37, h14, hm⟩ := bindO hm
    refine jd [] [] Y Y Y Y Y Y Y call88 (fun w hh => kb t23 t30 t36 w (HV.callee (S0 := []) (vs0 := []) hh roN)  h14) (fun l_2 h15 => ?_)
    refine jo (fun w hh => hh) (jG (ja ?_))
    refine jr Y (fun h16 => ?_) (fun h16 => ?_)
    ·replace hm := ifT (h16) hm
     refine jt (jp Y Y (jq (jz (jB (je (je (jB ?_)))))))
     obtain rfl := sj hm
     have hbo := h4 _ Y
     subst hbo
     refine je ?_
     replace hm := ocR h3
     refine je ?_
     obtain rfl := sj hm
     refine jn Y (fun w hh => (.tmp Y .nil)) (fun w hh => ⟨(), rfl, trivial, hh.se [] [] 5 Y Y Y rfl⟩)
    replace hm := ifN h16 hm
    refine js (jx (ja (jg (jk Y Y ?_))))
    obtain ⟨t14, h17, hm⟩ := bindO hm
    refine JG h17 Y Y Y (jp Y Y (ju ?_))
    obtain rfl := sj hm
    refine ja ?_
    exact jC _ () Y (trivial) (sE Y) (fun w hh => hh)
   replace hm := ifE h5 hm
   refine jS (ji (ji (jD ?_)))
   obtain rfl := sj hm
   have hbo := h4 _ Y
   subst hbo
   exact jj () (Y) (.nil) (fun w hh => hh)
  intro j hj
  have h18 := hj
  subst h18
  replace hm := ocL h3
  refine ja (jt (jp Y Y (jq (jz ?_))))
  obtain rfl := sj hm
  refine jn Y (fun w hh => (.tmp Y .nil)) (fun w hh => ⟨(), rfl, trivial, hh.se [] [] 5 Y Y Y rfl⟩)
end Go.Proofs.Wb

namespace Go.Proofs.Wb
set_option maxHeartbeats 4000000
set_option maxRecDepth 100000
open Go Go.Fw Go.Gx Go.Sb
open Tryz
set_option linter.unusedVariables false
structure qG where
  k7 : Int
  out6 : (List (List Int))
structure yv where
  b9 : Int
  t21 : (List Int)
structure zu where
  a10 : Int
  t21 : (List Int)
def ks (t12 : (List (List Int))) (s : qG) (s_1 : yv) (c0 : Channel) (s_2 : zu) : Option (zu ⊕ (List Int)) :=
 (if s_2.a10 < (t12.length : Int) then
 (some (decide (0 < s.k7))) else
 (some false)).bind fun o_6 =>
 if o_6 = true then
 ((((subc s.k7 1).bind fun t63 =>
 (ix s.out6 t63).bind fun t64 =>
 (ix t64 s_2.a10).bind fun t67 =>
 if 0 < t67 then
 ((ix t12 s_2.a10).bind fun t74 =>
 (ix t12 s_1.b9).bind fun t78 =>
 (qD c0 t74 t78).bind fun t80 =>
 some t80) else
 (some false)).bind fun o_8 =>
 if o_8 = true then
 ((ix s_2.t21 s_1.b9).bind fun t86 =>
 (subc s.k7 1).bind fun t90 =>
 (ix s.out6 t90).bind fun t91 =>
 (ix t91 s_2.a10).bind fun t94 =>
 (addc t86 t94).bind fun t96 =>
 (ix s_2.t21 s_1.b9).bind fun t97 =>
 (some (s_2.t21.set (Int.toNat s_1.b9) t96)).bind fun t21_2 =>
 some t21_2) else
 (some s_2.t21)).bind fun o_7 =>
 (addc s_2.a10 1).bind fun t60 =>
 some (.inl (⟨t60, o_7⟩ : zu))) else
 (some (.inr s_2.t21))
def qK (t12 : (List (List Int))) (c0 : Channel) (s : qG) (set1 : Int) (s_1 : yv) : Option (yv ⊕ (List Int)) :=
 if s_1.b9 < (t12.length : Int) then
 (((ix t12 s_1.b9).bind fun t32 =>
 (kk c0 s.k7 t32 set1).bind fun t35 =>
 if (!t35) = true then
 (some s_1.t21) else
 (((if s.k7 = 0 then
 ((ix t12 s_1.b9).bind fun t42 =>
 (yC t42 c0.fords).bind fun t46 =>
 some t46) else
 (some false)).bind fun o_4 =>
 if o_4 = true then
 ((ix s_1.t21 s_1.b9).bind fun t50 =>
 (some (s_1.t21.set (Int.toNat s_1.b9) 1)).bind fun t21_1 =>
 some t21_1) else
 (some s_1.t21)).bind fun o_3 =>
 (iterM FU (ks t12 s s_1 c0) (⟨0, o_3⟩ : zu)).bind fun o_5 =>
 some o_5)).bind fun o_2 =>
 (addc s_1.b9 1).bind fun t27 =>
 some (.inl (⟨t27, o_2⟩ : yv))) else
 (some (.inr s_1.t21))
def qB (c0 : Channel) (t12 : (List (List Int))) (set1 : Int) (s : qG) : Option (qG ⊕ (List (List Int))) :=
 if s.k7 ≤ c0.tides then
 ((makec 8 0 (t12.length : Int) (t12.length : Int)).bind fun t21 =>
 (iterM FU (qK t12 c0 s set1) (⟨0, t21⟩ : yv)).bind fun o_1 =>
 (appc 24 s.out6 [o_1]).bind fun t101 =>
 (addc s.k7 1).bind fun t18 =>
 some (.inl (⟨t18, t101⟩ : qG))) else
 (some (.inr s.out6))
def yE (c0 : Channel) (set1 : Int) : Option (List (List Int)) :=
 (qv c0).bind fun t12 =>
 (iterM FU (qB c0 t12 set1) (⟨0, ([] : List (List Int))⟩ : qG)).bind fun o =>
 some o
theorem Qj (c0 : Channel) (set1 : Int) (qa0 : Option Addr) (na0 ca0 : Nat) (qa1 : Option Addr) (na1 ca1 : Nat) (qa2 : Option Addr) (na2 ca2 : Nat) (w : World) (hw : HV w (keys [] []) [] [] [(aB qa0, aO qa0, RI.enc c0.fords), (aB qa1, aO qa1, RSa.enc c0.sands), (aB qa2, aO qa2, RSi.enc c0.sights)] w) (hna0 : c0.fords.length = na0) (hqa0 : AOK na0 qa0) (hla0 : na0 ≤ ca0) (hna1 : c0.sands.length = na1) (hqa1 : AOK na1 qa1) (hla1 : na1 ≤ ca1) (hna2 : c0.sights.length = na2) (hqa2 : AOK na2 qa2) (hla2 : na2 ≤ ca2) {res : (List (List Int))} (hm : yE c0 set1 = some res) :
    Calls Tryz.prog 89 #[.agg #[.int .i64 c0.cells, .int .i64 c0.tides, .slice qa0 na0 ca0, .slice qa1 na1 ca1, .slice qa2 na2 ca2], .int .i64 set1] w (fun en w' => ∃ l : DL, en = .returned (sL l.v) ∧ (VOK 1 l.v.n l.v.cap (RwH.enc l.rs) l.v.sp l.v.q ∧ DOK RI res l.rs) ∧ HV w (keys [] []) [] [⟨22, RwH.enc l.rs, l.v.sp, l.v.q, dbl 3 RI res l.rs⟩] [] w') := by
  unfold yE at hm
  refine yd func89 Y ntmps89 Y (e := [(0, _), (1, _)]) Y hw (jt ?_)
  refine jP Y Y (fun b h3 => ?_)
  refine jc Y Y Y (fun _ _ => yq Y) (qs (Jp [_, _, _, _, _] 0 isAgg33 sizeOf33 Y Y Y Y ?_))
  obtain ⟨t12, h4, hm⟩ := bindO hm
  refine jd [] [] Y Y Y Y Y Y Y call90 (fun w hh => Kb c0 qa0 na0 ca0 qa1 na1 ca1 qa2 na2 ca2 w (HV.callee (S0 := []) (vs0 := []) hh (roR hh 0 Y (roR hh 1 Y (roR hh 2 Y roN)))) hna0 hqa0 hla0 hna1 hqa1 hla1 hna2 hqa2 hla2 h4) (fun l h5 => ?_)
  obtain ⟨h6, h7⟩ := h5
  refine k3 (S' := [_]) (vs' := [_]) [0] [0] 0 Y Y Y Y (jp Y Y (qs (jc Y Y Y (fun _ _ => yq Y) (jq (jh (jt (jp Y Y ?_)))))))
  refine jq (JY 22 ?_)
  obtain ⟨o, h8, h9⟩ := bindO hm
  refine jI (ι := DL) (fun l_1 => VOK 1 l_1.v.n l_1.v.cap (RwH.enc l_1.rs) l_1.v.sp l_1.v.q ∧ DOK RI o l_1.rs) (fun l_1 => [(6, sL l_1.v)]) (fun l_1 => [kc b #[.int .i64 c0.cells, .int .i64 c0.tides, .slice qa0 na0 ca0, .slice qa1 na1 ca1, .slice qa2 na2 ca2] 33]) (fun l_1 => [⟨22, RwH.enc l_1.rs, l_1.v.sp, l_1.v.q, dbl 3 RI o l_1.rs⟩]) ?_ ?_
  ·replace hm := h8
   refine jm ?_
   refine jM (ι := DL) hm (fun s l_2 => VOK 1 l_2.v.n l_2.v.cap (RwH.enc l_2.rs) l_2.v.sp l_2.v.q ∧ DOK RI s.out6 l_2.rs) (fun s l_2 => [(1, .int .i64 set1), (2, ptr b 0), (5, sL l.v), (6, sL l_2.v), (7, .int .i64 s.k7)]) (fun s l_2 => [kc b #[.int .i64 c0.cells, .int .i64 c0.tides, .slice qa0 na0 ca0, .slice qa1 na1 ca1, .slice qa2 na2 ca2] 33]) (fun s l_2 => [⟨22, RwH.enc l.rs, l.v.sp, l.v.q, dbl 3 RI t12 l.rs⟩, ⟨22, RwH.enc l_2.rs, l_2.v.sp, l_2.v.q, dbl 3 RI s.out6 l_2.rs⟩]) (⟨⟨none, 0, 0, []⟩, []⟩) (⟨VOK.nil, DOK.nil⟩) (sE Y) (hsE [0] [1, 0] 0 Y Y Y Y) (fun s l_2 r hpl hm h14 => ?_)
   obtain ⟨h12, h13⟩ := hpl
   unfold qB at hm
   refine jh (jt (jk Y Y (qT 1 runUnderlying33 Y sizeOf3 Y Y (qq 0 isAgg3 Y Y Y Y (jc Y Y Y (fun _ _ => Zo Y Y) (jq ?_))))))
   refine jr Y (fun h15 => ?_) (fun h15 => ?_)
   ·replace hm := ifD h15 hm
    refine js (ja (jh (jm (jt (jk Y Y (jc Y Y Y (fun w _ => Jh (Eq.trans (h7).len (vlen RwH h6 Y)) (runUnderlying41 w) Y) ?_))))))
    obtain ⟨t21, h16, hm⟩ := bindO hm
    refine Qx RI 0 h16 underlying22 QH Y Y Y Y Y (fun L h17 => ?_)
    refine jp Y Y (jq (jh (jt (jp Y Y (jq ?_)))))
    obtain ⟨o_1, h18, h19⟩ := bindO hm
    refine jI (ι := Unit) (fun l_3 => VOK 1 L.n L.cap (RI.enc o_1) L.sp L.q) (fun l_3 => [(1, .int .i64 set1), (2, ptr b 0), (5, sL l.v), (6, sL l_2.v), (7, .int .i64 s.k7), (8, sL L)]) (fun l_3 => [kc b #[.int .i64 c0.cells, .int .i64 c0.tides, .slice qa0 na0 ca0, .slice qa1 na1 ca1, .slice qa2 na2 ca2] 33]) (fun l_3 => [⟨22, RwH.enc l.rs, l.v.sp, l.v.q, dbl 3 RI t12 l.rs⟩, ⟨22, RwH.enc l_2.rs, l_2.v.sp, l_2.v.q, dbl 3 RI s.out6 l_2.rs⟩, vL 3 L (RI.enc o_1)]) ?_ ?_
    ·replace hm := h18
     refine jm ?_
     refine jM (ι := Unit) hm (fun s_1 l_4 => VOK 1 L.n L.cap (RI.enc s_1.t21) L.sp L.q) (fun s_1 l_4 => [(1, .int .i64 set1), (2, ptr b 0), (5, sL l.v), (6, sL l_2.v), (7, .int .i64 s.k7), (8, sL L), (9, .int .i64 s_1.b9)]) (fun s_1 l_4 => [kc b #[.int .i64 c0.cells, .int .i64 c0.tides, .slice qa0 na0 ca0, .slice qa1 na1 ca1, .slice qa2 na2 ca2] 33]) (fun s_1 l_4 => [⟨22, RwH.enc l.rs, l.v.sp, l.v.q, dbl 3 RI t12 l.rs⟩, ⟨22, RwH.enc l_2.rs, l_2.v.sp, l_2.v.q, dbl 3 RI s.out6 l_2.rs⟩, vL 3 L (RI.enc s_1.t21)]) () (h17) (sE Y) (hsE [0] [1, 2, 0] 0 Y Y Y Y) (fun s_1 l_4 r_1 hpl hm h22 => ?_)
     have h21 := hpl
     unfold qK at hm
     refine jh (jt (jk Y Y (jk Y Y (jc Y Y Y (fun w _ => Jh (Eq.trans (h7).len (vlen RwH h6 Y)) (runUnderlying41 w) Y) (Jo Y Y Y (jq ?_))))))
     refine jr Y (fun h23 => ?_) (fun h23 => ?_)
     ·replace hm := ifD h23 hm
      refine js (ja (jh ?_))
      obtain ⟨o_2, h24, h25⟩ := bindO hm
      refine jI (ι := Unit) (fun l_5 => VOK 1 L.n L.cap (RI.enc o_2) L.sp L.q) (fun l_5 => [(1, .int .i64 set1), (2, ptr b 0), (5, sL l.v), (6, sL l_2.v), (7, .int .i64 s.k7), (8, sL L), (9, .int .i64 s_1.b9)]) (fun l_5 => [kc b #[.int .i64 c0.cells, .int .i64 c0.tides, .slice qa0 na0 ca0, .slice qa1 na1 ca1, .slice qa2 na2 ca2] 33]) (fun l_5 => [⟨22, RwH.enc l.rs, l.v.sp, l.v.q, dbl 3 RI t12 l.rs⟩, ⟨22, RwH.enc l_2.rs, l_2.v.sp, l_2.v.q, dbl 3 RI s.out6 l_2.rs⟩, vL 3 L (RI.enc o_2)]) ?_ ?_
      ·replace hm := h24
       refine jm (jh (jh ?_))
       refine j5 none (.hoist 0 (.free 1 (.free 2 (.free 3 (.free 4 (.hoist 5 (.free 6 (.one 7 (.free 8 .done))))))))) _ Y (by decide +kernel) (fun w k hh => hh.draw k) (fun w hh => hh) ?_
       refine jw Y Y Y Y (fun w hh => jH (vs := [_, _, _, _, _]) (isAgg33 w) (sizeOf33 w) Y (hh.cells 0 Y Y)) (k9 Y Y Y (k9 Y Y Y (k9 Y Y Y ?_)))
       obtain ⟨t32, h27, hm⟩ := bindO hm
       obtain ⟨L_1, h28, h29⟩ := (h7).row h27
       refine jl Y Y Y Y (fun w _ => qM h28 (runUnderlying41 w) (sizeOf22 w) Y Y (vlen RwH h6 Y) (vne h6)) (jw Y Y Y Y (fun w hh => ka RwH 0 h28 (isAgg22 w) Y (hh.vseg 0 Y h6) Y (Nat.add_zero _).symm) (k9 Y Y Y (jF Y ?_)))
       obtain ⟨t35, h30, hm⟩ := bindO hm
       refine jd [] [] Y Y Y Y Y Y Y call102 (fun w hh => JT c0 s.k7 t32 set1 qa0 na0 ca0 qa1 na1 ca1 qa2 na2 ca2 (qA L_1.q) L_1.n L_1.cap w (HV.callee (S0 := []) (vs0 := []) hh (roR hh 0 Y (roR hh 1 Y (roR hh 2 Y (roC (hh.dsepA (S0 := []) (vs0 := []) 0 Y h27 h28 h29) roN))))) hna0 hqa0 hla0 hna1 hqa1 hla1 hna2 hqa2 hla2 (vlen RI h29 Y) (AOK.q (vne h29)) (h29).hle h30) (fun l_6 h31 => ?_)
       refine jo (fun w hh => hh) (jl Y Y Y Y (fun _ _ => ze Y) (jG (ja ?_)))
       refine jr Y (fun h32 => ?_) (fun h32 => ?_)
       ·replace hm := ifT (h32) hm
        refine jS (ji (jD ?_))
        obtain rfl := sj hm
        exact jj () (h21) (sE Y) (fun w hh => hh)
       replace hm := ifN h32 hm
       refine js (ja (jh ?_))
       obtain ⟨o_3, h33, h34⟩ := bindO hm
       refine jI (ι := Unit) (fun l_7 => VOK 1 L.n L.cap (RI.enc o_3) L.sp L.q) (fun l_7 => [(1, .int .i64 set1), (2, ptr b 0), (5, sL l.v), (6, sL l_2.v), (7, .int .i64 s.k7), (8, sL L), (9, .int .i64 s_1.b9)]) (fun l_7 => [kc b #[.int .i64 c0.cells, .int .i64 c0.tides, .slice qa0 na0 ca0, .slice qa1 na1 ca1, .slice qa2 na2 ca2] 33]) (fun l_7 => [⟨22, RwH.enc l.rs, l.v.sp, l.v.q, dbl 3 RI t12 l.rs⟩, ⟨22, RwH.enc l_2.rs, l_2.v.sp, l_2.v.q, dbl 3 RI s.out6 l_2.rs⟩, vL 3 L (RI.enc o_3)]) ?_ ?_
       ·replace hm := h33
        refine jh ?_
        obtain ⟨o_4, h36, h37⟩ := bindO hm
        refine jI (ι := Unit) (fun l_8 => True) (fun l_8 => [(1, .int .i64 set1), (2, ptr b 0), (5, sL l.v), (6, sL l_2.v), (7, .int .i64 s.k7), (8, sL L), (9, .int .i64 s_1.b9), (47, .bool o_4)]) (fun l_8 => [kc b #[.int .i64 c0.cells, .int .i64 c0.tides, .slice qa0 na0 ca0, .slice qa1 na1 ca1, .slice qa2 na2 ca2] 33]) (fun l_8 => [⟨22, RwH.enc l.rs, l.v.sp, l.v.q, dbl 3 RI t12 l.rs⟩, ⟨22, RwH.enc l_2.rs, l_2.v.sp, l_2.v.q, dbl 3 RI s.out6 l_2.rs⟩, vL 3 L (RI.enc s_1.t21)]) ?_ ?_
        ·replace hm := h36
         refine j5 none (.free 0 (.free 1 (.free 2 (.free 3 (.free 4 (.free 5 (.hoist 6 (.free 7 (.hoist 8 (.one 9 (.free 10 .done))))))))))) _ Y (by decide +kernel) (fun w k hh => hh.draw k) (fun w hh => hh) ?_
         refine k9 Y Y Y (jl Y Y Y Y (fun _ _ => Ju Y Y) (k9 Y Y Y ?_))
         refine jQ 39 Y (fun h38 => ?_) (fun h38 => ?_)
         ·replace hm := ifD h38 hm
          refine jy Y Y Y Y Y Y (fun _ _ => jN Y) (jy Y Y Y Y Y Y (fun _ _ => jN Y) ?_)
          obtain ⟨t42, h39, hm⟩ := bindO hm
          obtain ⟨L_2, h40, h41⟩ := (h7).row h39
          refine jy Y Y Y Y Y Y (fun w _ => qM h40 (runUnderlying41 w) (sizeOf22 w) Y Y (vlen RwH h6 Y) (vne h6)) (jZ Y Y Y Y Y Y (fun w hh => ka RwH 0 h40 (isAgg22 w) Y (hh.vseg 0 Y h6) Y (Nat.add_zero _).symm) (jy Y Y Y Y Y Y (fun w _ => jJ 2 (runUnderlying33 w) Y (sizeOf22 w) Y) (jZ Y Y Y Y Y Y (fun w hh => jL (isAgg22 w) Y (hh.cell 0 Y Y)) (jF Y (jb Y Y ?_)))))
          obtain ⟨t46, h42, hm⟩ := bindO hm
          refine jd [] [] Y Y Y Y Y Y Y call101 (fun w hh => Qk t42 c0.fords (qA L_2.q) L_2.n L_2.cap qa0 na0 ca0 w (HV.callee (S0 := []) (vs0 := []) hh (roC (hh.dsepA (S0 := []) (vs0 := []) 0 Y h39 h40 h41) (roR hh 0 Y roN))) (vlen RI h41 Y) (AOK.q (vne h41)) (h41).hle hna0 hqa0 hla0 h42) (fun l_9 h43 => ?_)
          refine jo (fun w hh => hh) (jl Y Y Y Y (fun _ _ => zD Y Y) (jG ?_))
          obtain rfl := sj hm
          exact jj () (trivial) (sE Y) (fun w hh => hh)
         replace hm := ifE h38 hm
         refine jv Y Y Y Y Y Y Y (jv Y Y Y Y Y Y Y (jv Y Y Y Y Y Y Y (qi Y Y Y Y Y Y Y (jv Y Y Y Y Y Y Y (qi Y Y Y Y Y Y Y (jF Y (g_k Y Y Y Y ?_)))))))
         refine jo (fun w hh => hh) (jl Y Y Y Y (fun _ _ => q5 Y Y) (jG ?_))
         obtain rfl := sj hm
         exact jj () (trivial) (sE Y) (fun w hh => hh)
        intro l_8 hj
        replace hm := h37
        refine ja ?_
        refine jr Y (fun h44 => ?_) (fun h44 => ?_)
        ·replace hm := ifT (h44) hm
         refine jg (jk Y Y (jk Y Y ?_))
         obtain ⟨t50, h45, hm⟩ := bindO hm
         refine jc Y Y Y (fun w _ => qM h45 (runUnderlying22 w) (sizeOf3 w) Y Y (vlen RI h21 Y) (vne h21)) ?_
         obtain ⟨t21_1, ht21_1, hm⟩ := bindO hm
         refine Zg RI 2 0 1 (fun w => sizeOf3 w) Y Y Y Y h21 Y (Nat.add_zero _).symm Y h45 Y Y (Option.some.inj ht21_1) (fun h46 => ?_)
         refine k3 (S' := [_]) (vs' := [_, _, _]) [0] [0, 1, 2] 0 Y Y Y Y (ju ?_)
         obtain rfl := sj hm
         exact jj () (h46) (sE Y) (fun w hh => hh)
        replace hm := ifN h44 hm
        refine js ?_
        obtain rfl := sj hm
        exact jj () (h21) (sE Y) (fun w hh => hh)
       intro l_7 hj
       have h35 := hj
       replace hm := h34
       refine ja (jt (jp Y Y (jq ?_)))
       obtain ⟨o_5, h47, h48⟩ := bindO hm
       refine jI (ι := Unit) (fun l_10 => VOK 1 L.n L.cap (RI.enc o_5) L.sp L.q) (fun l_10 => [(1, .int .i64 set1), (2, ptr b 0), (5, sL l.v), (6, sL l_2.v), (7, .int .i64 s.k7), (8, sL L), (9, .int .i64 s_1.b9)]) (fun l_10 => [kc b #[.int .i64 c0.cells, .int .i64 c0.tides, .slice qa0 na0 ca0, .slice qa1 na1 ca1, .slice qa2 na2 ca2] 33]) (fun l_10 => [⟨22, RwH.enc l.rs, l.v.sp, l.v.q, dbl 3 RI t12 l.rs⟩, ⟨22, RwH.enc l_2.rs, l_2.v.sp, l_2.v.q, dbl 3 RI s.out6 l_2.rs⟩, vL 3 L (RI.enc o_5)]) ?_ ?_
       ·replace hm := h47
        refine jm ?_
        refine jM (ι := Unit) hm (fun s_2 l_11 => VOK 1 L.n L.cap (RI.enc s_2.t21) L.sp L.q) (fun s_2 l_11 => [(1, .int .i64 set1), (2, ptr b 0), (5, sL l.v), (6, sL l_2.v), (7, .int .i64 s.k7), (8, sL L), (9, .int .i64 s_1.b9), (10, .int .i64 s_2.a10)]) (fun s_2 l_11 => [kc b #[.int .i64 c0.cells, .int .i64 c0.tides, .slice qa0 na0 ca0, .slice qa1 na1 ca1, .slice qa2 na2 ca2] 33]) (fun s_2 l_11 => [⟨22, RwH.enc l.rs, l.v.sp, l.v.q, dbl 3 RI t12 l.rs⟩, ⟨22, RwH.enc l_2.rs, l_2.v.sp, l_2.v.q, dbl 3 RI s.out6 l_2.rs⟩, vL 3 L (RI.enc s_2.t21)]) () (h35) (sE Y) (fun w hh => hh) (fun s_2 l_11 r_2 hpl hm h51 => ?_)
        have h50 := hpl
        unfold ks at hm
        refine jh (jh ?_)
        obtain ⟨o_6, h52, h53⟩ := bindO hm
        refine jI (ι := Unit) (fun l_12 => True) (fun l_12 => [(1, .int .i64 set1), (2, ptr b 0), (5, sL l.v), (6, sL l_2.v), (7, .int .i64 s.k7), (8, sL L), (9, .int .i64 s_1.b9), (10, .int .i64 s_2.a10), (58, .bool o_6)]) (fun l_12 => [kc b #[.int .i64 c0.cells, .int .i64 c0.tides, .slice qa0 na0 ca0, .slice qa1 na1 ca1, .slice qa2 na2 ca2] 33]) (fun l_12 => [⟨22, RwH.enc l.rs, l.v.sp, l.v.q, dbl 3 RI t12 l.rs⟩, ⟨22, RwH.enc l_2.rs, l_2.v.sp, l_2.v.q, dbl 3 RI s.out6 l_2.rs⟩, vL 3 L (RI.enc s_2.t21)]) ?_ ?_
        ·replace hm := h52
         refine jg (jk Y Y (jk Y Y (jc Y Y Y (fun w _ => Jh (Eq.trans (h7).len (vlen RwH h6 Y)) (runUnderlying41 w) Y) (Jo Y Y Y (jk Y Y ?_)))))
         refine jQ 55 Y (fun h54 => ?_) (fun h54 => ?_)
         ·replace hm := ifD h54 hm
          refine jb Y Y (jk Y Y (jb Y Y (jc Y Y Y (fun _ _ => Qz Y Y) (yx Y Y Y (ju ?_)))))
          obtain rfl := sj hm
          exact jj () (trivial) (sE Y) (fun w hh => hh)
         replace hm := ifE h54 hm
         refine g_k Y Y Y Y (g_k Y Y Y Y (y4 Y Y Y (ju ?_)))
         obtain rfl := sj hm
         exact jj () (trivial) (sE Y) (fun w hh => hh)
        intro l_12 hj
        replace hm := h53
        refine ja ?_
        refine jr Y (fun h55 => ?_) (fun h55 => ?_)
        ·replace hm := ifT (h55) hm
         refine js (ja (jh ?_))
         obtain ⟨o_7, h56, h57⟩ := bindO hm
         refine jI (ι := Unit) (fun l_13 => VOK 1 L.n L.cap (RI.enc o_7) L.sp L.q) (fun l_13 => [(1, .int .i64 set1), (2, ptr b 0), (5, sL l.v), (6, sL l_2.v), (7, .int .i64 s.k7), (8, sL L), (9, .int .i64 s_1.b9), (10, .int .i64 s_2.a10)]) (fun l_13 => [kc b #[.int .i64 c0.cells, .int .i64 c0.tides, .slice qa0 na0 ca0, .slice qa1 na1 ca1, .slice qa2 na2 ca2] 33]) (fun l_13 => [⟨22, RwH.enc l.rs, l.v.sp, l.v.q, dbl 3 RI t12 l.rs⟩, ⟨22, RwH.enc l_2.rs, l_2.v.sp, l_2.v.q, dbl 3 RI s.out6 l_2.rs⟩, vL 3 L (RI.enc o_7)]) ?_ ?_
         ·replace hm := h56
          refine jm (jh ?_)
          obtain ⟨o_8, h59, h60⟩ := bindO hm
          refine jI (ι := Unit) (fun l_14 => True) (fun l_14 => [(1, .int .i64 set1), (2, ptr b 0), (5, sL l.v), (6, sL l_2.v), (7, .int .i64 s.k7), (8, sL L), (9, .int .i64 s_1.b9), (10, .int .i64 s_2.a10), (81, .bool o_8)]) (fun l_14 => [kc b #[.int .i64 c0.cells, .int .i64 c0.tides, .slice qa0 na0 ca0, .slice qa1 na1 ca1, .slice qa2 na2 ca2] 33]) (fun l_14 => [⟨22, RwH.enc l.rs, l.v.sp, l.v.q, dbl 3 RI t12 l.rs⟩, ⟨22, RwH.enc l_2.rs, l_2.v.sp, l_2.v.q, dbl 3 RI s.out6 l_2.rs⟩, vL 3 L (RI.enc s_2.t21)]) ?_ ?_
          ·replace hm := h59
           refine j5 none (.free 0 (.free 1 (.free 2 (.free 3 (.hoist 4 (.free 5 (.free 6 (.hoist 7 (.free 8 (.free 9 (.hoist 10 (.free 11 (.free 12 (.free 13 (.hoist 14 (.free 15 (.free 16 (.free 17 (.hoist 18 (.one 19 (.free 20 .done))))))))))))))))))))) _ Y (by decide +kernel) (fun w k hh => hh.draw k) (fun w hh => hh) ?_
           refine k9 Y Y Y (k9 Y Y Y ?_)
           obtain ⟨t63, h61, hm⟩ := bindO hm
           refine jl Y Y Y Y (fun _ _ => yX h61 Y Y) ?_
           obtain ⟨t64, h62, hm⟩ := bindO hm
           obtain ⟨L_3, h63, h64⟩ := (h13).row h62
           refine jl Y Y Y Y (fun w _ => qM h63 (runUnderlying41 w) (sizeOf22 w) Y Y (vlen RwH h12 Y) (vne h12)) (jw Y Y Y Y (fun w hh => ka RwH 0 h63 (isAgg22 w) Y (hh.vseg 1 Y h12) Y (Nat.add_zero _).symm) (k9 Y Y Y ?_))
           obtain ⟨t67, h65, hm⟩ := bindO hm
           refine jl Y Y Y Y (fun w _ => qM h65 (runUnderlying22 w) (sizeOf3 w) Y Y (vlen RI h64 Y) (vne h64)) (jw Y Y Y Y (fun w hh => ka RI 0 h65 (isAgg3 w) Y (hh.dseg 1 Y h62 h63 h64) Y (Nat.add_zero _).symm) (jl Y Y Y Y (fun _ _ => Qz Y Y) (k9 Y Y Y ?_)))
           refine jQ 70 Y (fun h66 => ?_) (fun h66 => ?_)
           ·replace hm := ifD h66 hm
            refine jZ Y Y Y Y Y Y (fun w hh => jH (vs := [_, _, _, _, _]) (isAgg33 w) (sizeOf33 w) Y (hh.cells 0 Y Y)) (jy Y Y Y Y Y Y (fun _ _ => jN Y) (jy Y Y Y Y Y Y (fun _ _ => jN Y) ?_))
            obtain ⟨t74, h67, hm⟩ := bindO hm
            obtain ⟨L_4, h68, h69⟩ := (h7).row h67
            refine jy Y Y Y Y Y Y (fun w _ => qM h68 (runUnderlying41 w) (sizeOf22 w) Y Y (vlen RwH h6 Y) (vne h6)) (jZ Y Y Y Y Y Y (fun w hh => ka RwH 0 h68 (isAgg22 w) Y (hh.vseg 0 Y h6) Y (Nat.add_zero _).symm) (jy Y Y Y Y Y Y (fun _ _ => jN Y) (jy Y Y Y Y Y Y (fun _ _ => jN Y) ?_)))
            obtain ⟨t78, h70, hm⟩ := bindO hm
            obtain ⟨L_5, h71, h72⟩ := (h7).row h70
            refine jy Y Y Y Y Y Y (fun w _ => qM h71 (runUnderlying41 w) (sizeOf22 w) Y Y (vlen RwH h6 Y) (vne h6)) (jZ Y Y Y Y Y Y (fun w hh => ka RwH 0 h71 (isAgg22 w) Y (hh.vseg 0 Y h6) Y (Nat.add_zero _).symm) (jF Y (jb Y Y ?_)))
            obtain ⟨t80, h73, hm⟩ := bindO hm
            refine jd [] [] Y Y Y Y Y Y Y call92 (fun w hh => JL c0 t74 t78 qa0 na0 ca0 qa1 na1 ca1 qa2 na2 ca2 (qA L_4.q) L_4.n L_4.cap (qA L_5.q) L_5.n L_5.cap w (HV.callee (S0 := []) (vs0 := []) hh (roR hh 0 Y (roR hh 1 Y (roR hh 2 Y (roC (hh.dsepA (S0 := []) (vs0 := []) 0 Y h67 h68 h69) (roC (hh.dsepA (S0 := []) (vs0 := []) 0 Y h70 h71 h72) roN)))))) hna0 hqa0 hla0 hna1 hqa1 hla1 hna2 hqa2 hla2 (vlen RI h69 Y) (AOK.q (vne h69)) (h69).hle (vlen RI h72 Y) (AOK.q (vne h72)) (h72).hle h73) (fun l_15 h74 => ?_)
            refine jo (fun w hh => hh) (jl Y Y Y Y (fun _ _ => zD Y Y) (jG ?_))
            obtain rfl := sj hm
            exact jj () (trivial) (sE Y) (fun w hh => hh)
           replace hm := ifE h66 hm
           refine qi Y Y Y Y Y Y Y (jv Y Y Y Y Y Y Y (jv Y Y Y Y Y Y Y (jv Y Y Y Y Y Y Y (qi Y Y Y Y Y Y Y (jv Y Y Y Y Y Y Y (jv Y Y Y Y Y Y Y (jv Y Y Y Y Y Y Y ?_)))))))
           refine qi Y Y Y Y Y Y Y (jF Y (g_k Y Y Y Y (jo (fun w hh => hh) (jl Y Y Y Y (fun _ _ => q5 Y Y) (jG ?_)))))
           obtain rfl := sj hm
           exact jj () (trivial) (sE Y) (fun w hh => hh)
          intro l_14 hj
          replace hm := h60
          refine ja ?_
          refine jr Y (fun h75 => ?_) (fun h75 => ?_)
          ·replace hm := ifT (h75) hm
           refine j5 (some 16) (.free 0 (.free 1 (.free 2 (.free 3 (.free 4 (.hoist 5 (.free 6 (.free 7 (.free 8 (.free 9 (.hoist 10 (.free 11 (.free 12 (.hoist 13 (.free 14 (.free 15 (.last 16 .done))))))))))))))))) _ Y (by decide +kernel) (fun w k hh => hh.draw k) (fun w hh => hh) ?_
           refine k9 Y Y Y (k9 Y Y Y (k9 Y Y Y (k9 Y Y Y ?_)))
           obtain ⟨t86, h76, hm⟩ := bindO hm
           refine jl Y Y Y Y (fun w _ => qM h76 (runUnderlying22 w) (sizeOf3 w) Y Y (vlen RI h50 Y) (vne h50)) (jw Y Y Y Y (fun w hh => ka RI 0 h76 (isAgg3 w) Y (hh.vseg 2 Y h50) Y (Nat.add_zero _).symm) (k9 Y Y Y (k9 Y Y Y ?_)))
           obtain ⟨t90, h77, hm⟩ := bindO hm
           refine jl Y Y Y Y (fun _ _ => yX h77 Y Y) ?_
           obtain ⟨t91, h78, hm⟩ := bindO hm
           obtain ⟨L_6, h79, h80⟩ := (h13).row h78
           refine jl Y Y Y Y (fun w _ => qM h79 (runUnderlying41 w) (sizeOf22 w) Y Y (vlen RwH h12 Y) (vne h12)) (jw Y Y Y Y (fun w hh => ka RwH 0 h79 (isAgg22 w) Y (hh.vseg 1 Y h12) Y (Nat.add_zero _).symm) (k9 Y Y Y ?_))
           obtain ⟨t94, h81, hm⟩ := bindO hm
           refine jl Y Y Y Y (fun w _ => qM h81 (runUnderlying22 w) (sizeOf3 w) Y Y (vlen RI h80 Y) (vne h80)) (jw Y Y Y Y (fun w hh => ka RI 0 h81 (isAgg3 w) Y (hh.dseg 1 Y h78 h79 h80) Y (Nat.add_zero _).symm) ?_)
           obtain ⟨t96, h82, hm⟩ := bindO hm
           refine jl Y Y Y Y (fun _ _ => Kh h82 Y Y) ?_
           obtain ⟨t97, h83, hm⟩ := bindO hm
           refine jl Y Y Y Y (fun w _ => qM h83 (runUnderlying22 w) (sizeOf3 w) Y Y (vlen RI h50 Y) (vne h50)) (Za Y ?_)
           obtain ⟨t21_2, ht21_2, hm⟩ := bindO hm
           refine Zg RI 2 0 t96 (fun w => sizeOf3 w) Y Y Y Y h50 Y (Nat.add_zero _).symm Y h83 Y Y (Option.some.inj ht21_2) (fun h84 => ?_)
           refine k3 (S' := [_]) (vs' := [_, _, _]) [0] [0, 1, 2] 0 Y Y Y Y (Yg (jG (jx ?_)))
           obtain rfl := sj hm
           exact jj () (h84) (sE Y) (fun w hh => hh)
          replace hm := ifN h75 hm
          refine js (jx ?_)
          obtain rfl := sj hm
          exact jj () (h50) (sE Y) (fun w hh => hh)
         intro l_13 hj
         have h58 := hj
         replace hm := h57
         refine ja (jg (jk Y Y ?_))
         obtain ⟨t60, h85, hm⟩ := bindO hm
         refine JG h85 Y Y Y (jp Y Y (ju ?_))
         obtain rfl := sj hm
         refine ja ?_
         exact jC _ () Y (h58) (sE Y) (fun w hh => hh)
        replace hm := ifN h55 hm
        refine jS (ji (ji (jD ?_)))
        obtain rfl := sj hm
        have hbo := h51 _ Y
        subst hbo
        exact jj () (h50) (sE Y) (fun w hh => hh)
       intro l_10 hj
       have h49 := hj
       replace hm := h48
       refine jx ?_
       obtain rfl := sj hm
       exact jj () (h49) (sE Y) (fun w hh => hh)
      intro l_5 hj
      have h26 := hj
      replace hm := h25
      refine ja (jg (jk Y Y ?_))
      obtain ⟨t27, h86, hm⟩ := bindO hm
      refine JG h86 Y Y Y (jp Y Y (ju ?_))
      obtain rfl := sj hm
      refine ja ?_
      exact jC _ () Y (h26) (sE Y) (fun w hh => hh)
     replace hm := ifE h23 hm
     refine jS (ji (ji (jD ?_)))
     obtain rfl := sj hm
     have hbo := h22 _ Y
     subst hbo
     exact jj () (h21) (sE Y) (fun w hh => hh)
    intro l_3 hj
    have h20 := hj
    replace hm := h19
    refine ja (jg (jk Y Y (jk Y Y ?_)))
    refine q4 RwH [(⟨L.q, L.n, L.cap, L.sp⟩ : VL)] (ps := [(0, _)]) (cells := [_]) (fun w => runUnderlying41 w) (fun w => sizeOf22 w) (fun w => zeroValue22 w) Y Y Y Y Y Y Y Y (fun L_7 h87 => ?_)
    refine YP (E2 := 3) RI 1 (Y : _ = ([[]] : List (List Int))) (fun h88 => ?_)
    refine k3 (S' := [_]) (vs' := [_, _, _, _]) [0] [0, 3, 1, 2] 0 Y Y Y Y ?_
    refine Ze RI (l' := [o_1]) 0 L.n L.cap h88 h20 Y Y (fun h89 => ?_)
    have h90 : DOK RI [o_1] [(⟨L.q, L.n, L.cap, L.sp⟩ : VL)] := h89
    refine Z7 (S' := [_]) (vs' := [⟨22, RwH.enc [(⟨L.q, L.n, L.cap, L.sp⟩ : VL)], L_7.sp, L_7.q, dbl 3 RI [o_1] [(⟨L.q, L.n, L.cap, L.sp⟩ : VL)]⟩, ⟨22, RwH.enc l.rs, l.v.sp, l.v.q, dbl 3 RI t12 l.rs⟩, ⟨22, RwH.enc l_2.rs, l_2.v.sp, l_2.v.q, dbl 3 RI s.out6 l_2.rs⟩]) [0] [0, 1, 2] 0 (by decide) (by decide) Y Y Y ?_
    obtain ⟨t101, h91, hm⟩ := bindO hm
    refine Js RwH 2 (appcL h91 (h13).len (h90).len) underlying41 ZX Y Y Y Y Y h12 Y Y (vlen RwH h87 Y) (AOK.q (vne h87)) (fun w hh => (hh.vsegA 0 Y h87)) Y (fun L_8 h92 _ => ?_)
    refine k3 (S' := [_]) (vs' := [_, _, _]) [0] [0, 1, 2] 0 Y Y Y Y (k3 (S' := [_]) (vs' := [_, _, _]) [0] [2, 0, 1] 0 Y Y Y Y ?_)
    refine Zz RI h13 h90 (appcO h91).1.symm (fun h93 => ?_)
    refine jp Y Y (ju (jx (ja (jg (jk Y Y ?_)))))
    obtain ⟨t18, h94, hm⟩ := bindO hm
    refine JG h94 Y Y Y (jp Y Y (ju ?_))
    obtain rfl := sj hm
    refine ja ?_
    exact jC _ (⟨⟨L_8.q, L_8.n, L_8.cap, L_8.sp⟩, (l_2.rs ++ [(⟨L.q, L.n, L.cap, L.sp⟩ : VL)])⟩) Y (⟨h92, h93⟩) (sE Y) (hsE [0] [1, 0] 0 Y Y Y Y)
   replace hm := ifE h15 hm
   refine jS (ji (ji (jD ?_)))
   obtain rfl := sj hm
   have hbo := h14 _ Y
   subst hbo
   exact jj l_2 (⟨h12, h13⟩) (sE Y) (hsE [0] [1] 0 Y Y Y Y)
  intro l_1 hj
  obtain ⟨h10, h11⟩ := hj
  replace hm := h9
  refine ja (jt (jk Y Y (jp Y Y (jq (jz ?_)))))
  obtain rfl := sj hm
  refine jn Y (fun w hh => (.tmp Y .nil)) (fun w hh => ⟨l_1, rfl, ⟨h10, h11⟩, hh.se [] [0] 3 Y Y Y rfl⟩)
structure za where
  n6 : Int
  a7 : Int
def qm (t10 : (List (List Int))) (c0 : Channel) (s : za) : Option (za ⊕ Int) :=
 (ix t10 c0.tides).bind fun t15 =>
 if s.a7 < (t15.length : Int) then
 ((ix t10 c0.tides).bind fun t25 =>
 (ix t25 s.a7).bind fun t28 =>
 (addc s.n6 t28).bind fun t30 =>
 (addc s.a7 1).bind fun t20 =>
 some (.inl (⟨t30, t20⟩ : za))) else
 (some (.inr s.n6))
def yc (c0 : Channel) (set1 : Int) : Option Int :=
 (yE c0 set1).bind fun t10 =>
 (iterM FU (qm t10 c0) (⟨0, 0⟩ : za)).bind fun o =>
 some o
theorem Ye (c0 : Channel) (set1 : Int) (qa0 : Option Addr) (na0 ca0 : Nat) (qa1 : Option Addr) (na1 ca1 : Nat) (qa2 : Option Addr) (na2 ca2 : Nat) (w : World) (hw : HV w (keys [] []) [] [] [(aB qa0, aO qa0, RI.enc c0.fords), (aB qa1, aO qa1, RSa.enc c0.sands), (aB qa2, aO qa2, RSi.enc c0.sights)] w) (hna0 : c0.fords.length = na0) (hqa0 : AOK na0 qa0) (hla0 : na0 ≤ ca0) (hna1 : c0.sands.length = na1) (hqa1 : AOK na1 qa1) (hla1 : na1 ≤ ca1) (hna2 : c0.sights.length = na2) (hqa2 : AOK na2 qa2) (hla2 : na2 ≤ ca2) {res : Int} (hm : yc c0 set1 = some res) :
    Calls Tryz.prog 23 #[.agg #[.int .i64 c0.cells, .int .i64 c0.tides, .slice qa0 na0 ca0, .slice qa1 na1 ca1, .slice qa2 na2 ca2], .int .i64 set1] w (fun en w' => ∃ l : Unit, en = .returned (.int .i64 res) ∧ (True) ∧ HV w (keys [] []) [] [] [] w') := by
  unfold yc at hm
  refine yd func23 Y ntmps23 Y (e := [(0, _), (1, _)]) Y hw (jt ?_)
  refine jP Y Y (fun b h1 => ?_)
  refine jp Y Y (qs (Jp [_, _, _, _, _] 0 isAgg33 sizeOf33 Y Y Y Y (jk Y Y ?_)))
  obtain ⟨t10, h2, hm⟩ := bindO hm
  refine jd [] [] Y Y Y Y Y Y Y call89 (fun w hh => Qj c0 set1 qa0 na0 ca0 qa1 na1 ca1 qa2 na2 ca2 w (HV.callee (S0 := []) (vs0 := []) hh (roR hh 0 Y (roR hh 1 Y (roR hh 2 Y roN)))) hna0 hqa0 hla0 hna1 hqa1 hla1 hna2 hqa2 hla2 h2) (fun l h3 => ?_)
  obtain ⟨h4, h5⟩ := h3
  refine k3 (S' := [_]) (vs' := [_]) [0] [0] 0 Y Y Y Y (jp Y Y (qs (jp Y Y (jq (jh (jt (jp Y Y ?_)))))))
  refine jq ?_
  obtain ⟨o, h6, h7⟩ := bindO hm
  refine jI (ι := Unit) (fun l_1 => True) (fun l_1 => [(6, .int .i64 o)]) (fun l_1 => [kc b #[.int .i64 c0.cells, .int .i64 c0.tides, .slice qa0 na0 ca0, .slice qa1 na1 ca1, .slice qa2 na2 ca2] 33]) (fun l_1 => []) ?_ ?_
  ·replace hm := h6
   refine jm ?_
   refine jM (ι := Unit) hm (fun s l_2 => True) (fun s l_2 => [(2, ptr b 0), (5, sL l.v), (6, .int .i64 s.n6), (7, .int .i64 s.a7)]) (fun s l_2 => [kc b #[.int .i64 c0.cells, .int .i64 c0.tides, .slice qa0 na0 ca0, .slice qa1 na1 ca1, .slice qa2 na2 ca2] 33]) (fun s l_2 => [⟨22, RwH.enc l.rs, l.v.sp, l.v.q, dbl 3 RI t10 l.rs⟩]) () (trivial) (sE Y) (fun w hh => hh) (fun s l_2 r hpl hm h8 => ?_)
   unfold qm at hm
   refine jh (jt (jk Y Y (jk Y Y (qT 1 runUnderlying33 Y sizeOf3 Y Y (qq 0 isAgg3 Y Y Y Y ?_)))))
   obtain ⟨t15, h9, hm⟩ := bindO hm
   obtain ⟨L, h10, h11⟩ := (h5).row h9
   refine jc Y Y Y (fun w _ => qM h10 (runUnderlying41 w) (sizeOf22 w) Y Y (vlen RwH h4 Y) (vne h4)) (jc Y Y Y (fun w hh => ka RwH 0 h10 (isAgg22 w) Y (hh.vseg 0 Y h4) Y (Nat.add_zero _).symm) (jc Y Y Y (fun w _ => Jh (vlen RI h11 Y) (runUnderlying22 w) Y) (Jo Y Y Y (jq ?_))))
   refine jr Y (fun h12 => ?_) (fun h12 => ?_)
   ·replace hm := ifD h12 hm
    refine js (ja (jh (jm (jg (jk Y Y (jk Y Y (qT 1 runUnderlying33 Y sizeOf3 Y Y ?_)))))))
    refine qq 0 isAgg3 Y Y Y Y ?_
    obtain ⟨t25, h13, hm⟩ := bindO hm
    obtain ⟨L_1, h14, h15⟩ := (h5).row h13
    refine jc Y Y Y (fun w _ => qM h14 (runUnderlying41 w) (sizeOf22 w) Y Y (vlen RwH h4 Y) (vne h4)) (jc Y Y Y (fun w hh => ka RwH 0 h14 (isAgg22 w) Y (hh.vseg 0 Y h4) Y (Nat.add_zero _).symm) (jk Y Y ?_))
    obtain ⟨t28, h16, hm⟩ := bindO hm
    refine jc Y Y Y (fun w _ => qM h16 (runUnderlying22 w) (sizeOf3 w) Y Y (vlen RI h15 Y) (vne h15)) (jc Y Y Y (fun w hh => ka RI 0 h16 (isAgg3 w) Y (hh.dseg 0 Y h13 h14 h15) Y (Nat.add_zero _).symm) ?_)
    obtain ⟨t30, h17, hm⟩ := bindO hm
    refine JG h17 Y Y Y (jp Y Y (ju (jx (ja (jg (jk Y Y ?_))))))
    obtain ⟨t20, h18, hm⟩ := bindO hm
    refine JG h18 Y Y Y (jp Y Y (ju ?_))
    obtain rfl := sj hm
    refine ja ?_
    exact jC _ () Y (trivial) (sE Y) (fun w hh => hh)
   replace hm := ifE h12 hm
   refine jS (ji (ji (jD ?_)))
   obtain rfl := sj hm
   have hbo := h8 _ Y
   subst hbo
   exact jj () (trivial) (sE Y) (hsE [0] [] 0 Y Y Y Y)
  intro l_1 hj
  replace hm := h7
  refine ja (jt (jk Y Y (jp Y Y (jq (jz ?_)))))
  obtain rfl := sj hm
  refine jn Y (fun w hh => (.tmp Y .nil)) (fun w hh => ⟨(), rfl, trivial, hh.se [] [] 3 Y Y Y rfl⟩)
structure yh where
  k6 : Int
  out5 : (List (List Bool))
structure yU where
  a7 : Int
  out5 : (List (List Bool))
structure zX where
  b8 : Int
  out5 : (List (List Bool))
def qu (t10 : (List (List Int))) (s : yh) (c0 : Channel) (s_1 : yU) (s_2 : zX) : Option (zX ⊕ (List (List Bool))) :=
 (if s_2.b8 < (t10.length : Int) then
 (some (decide (s.k6 < c0.tides))) else
 (some false)).bind fun o_5 =>
 if o_5 = true then
 (((ix s_2.out5 s.k6).bind fun t68 =>
 (ix s_2.out5 s.k6).bind fun t73 =>
 (ix t73 s_1.a7).bind fun t76 =>
 if t76 = true then
 ((ix t68 s_1.a7).bind fun t100 =>
 (some (t68.set (Int.toNat s_1.a7) true)).bind fun row_1 =>
 (some (s_2.out5.set (Int.toNat s.k6) row_1)).bind fun out5_2 =>
 some out5_2) else
 ((addc s.k6 1).bind fun t81 =>
 (ix s_2.out5 t81).bind fun t82 =>
 (ix t82 s_2.b8).bind fun t85 =>
 if t85 = true then
 ((ix t10 s_1.a7).bind fun t91 =>
 (ix t10 s_2.b8).bind fun t95 =>
 (qD c0 t91 t95).bind fun t97 =>
 (ix t68 s_1.a7).bind fun t100_1 =>
 (some (t68.set (Int.toNat s_1.a7) t97)).bind fun row_2 =>
 (some (s_2.out5.set (Int.toNat s.k6) row_2)).bind fun out5_3 =>
 some out5_3) else
 ((ix t68 s_1.a7).bind fun t100_2 =>
 (some (t68.set (Int.toNat s_1.a7) false)).bind fun row_3 =>
 (some (s_2.out5.set (Int.toNat s.k6) row_3)).bind fun out5_4 =>
 some out5_4))).bind fun o_6 =>
 (addc s_2.b8 1).bind fun t65 =>
 some (.inl (⟨t65, o_6⟩ : zX))) else
 (some (.inr s_2.out5))
def yg (t10 : (List (List Int))) (t14 : (List (List Int))) (s : yh) (c0 : Channel) (s_1 : yU) : Option (yU ⊕ (List (List Bool))) :=
 if s_1.a7 < (t10.length : Int) then
 (((ix t14 s.k6).bind fun t38 =>
 (ix t38 s_1.a7).bind fun t41 =>
 if t41 = 0 then
 (some s_1.out5) else
 ((if s.k6 = c0.tides then
 ((ix s_1.out5 s.k6).bind fun t50 =>
 (ix t50 s_1.a7).bind fun t53 =>
 (some (t50.set (Int.toNat s_1.a7) true)).bind fun row =>
 (some (s_1.out5.set (Int.toNat s.k6) row)).bind fun out5_1 =>
 some out5_1) else
 (some s_1.out5)).bind fun o_3 =>
 (iterM FU (qu t10 s c0 s_1) (⟨0, o_3⟩ : zX)).bind fun o_4 =>
 some o_4)).bind fun o_2 =>
 (addc s_1.a7 1).bind fun t35 =>
 some (.inl (⟨t35, o_2⟩ : yU))) else
 (some (.inr s_1.out5))
def yV (t10 : (List (List Int))) (t14 : (List (List Int))) (c0 : Channel) (s : yh) : Option (yh ⊕ (List (List Bool))) :=
 if 0 ≤ s.k6 then
 ((makec 1 false (t10.length : Int) (t10.length : Int)).bind fun t28 =>
 (ix s.out5 s.k6).bind fun t29 =>
 (some (s.out5.set (Int.toNat s.k6) t28)).bind fun out5 =>
 (iterM FU (yg t10 t14 s c0) (⟨0, out5⟩ : yU)).bind fun o_1 =>
 (subc s.k6 1).bind fun t23 =>
 some (.inl (⟨t23, o_1⟩ : yh))) else
 (some (.inr s.out5))
def zZ (c0 : Channel) : Option (List (List Bool)) :=
 (qv c0).bind fun t10 =>
 (jK c0).bind fun t13 =>
 (yE c0 t13).bind fun t14 =>
 (makec 24 ([] : (List Bool)) (t14.length : Int) (t14.length : Int)).bind fun t17 =>
 (iterM FU (yV t10 t14 c0) (⟨c0.tides, t17⟩ : yh)).bind fun o =>
 some o
theorem YW (c0 : Channel) (qa0 : Option Addr) (na0 ca0 : Nat) (qa1 : Option Addr) (na1 ca1 : Nat) (qa2 : Option Addr) (na2 ca2 : Nat) (w : World) (hw : HV w (keys [] []) [] [] [(aB qa0, aO qa0, RI.enc c0.fords), (aB qa1, aO qa1, RSa.enc c0.sands), (aB qa2, aO qa2, RSi.enc c0.sights)] w) (hna0 : c0.fords.length = na0) (hqa0 : AOK na0 qa0) (hla0 : na0 ≤ ca0) (hna1 : c0.sands.length = na1) (hqa1 : AOK na1 qa1) (hla1 : na1 ≤ ca1) (hna2 : c0.sights.length = na2) (hqa2 : AOK na2 qa2) (hla2 : na2 ≤ ca2) {res : (List (List Bool))} (hm : zZ c0 = some res) :
    Calls Tryz.prog 91 #[.agg #[.int .i64 c0.cells, .int .i64 c0.tides, .slice qa0 na0 ca0, .slice qa1 na1 ca1, .slice qa2 na2 ca2]] w (fun en w' => ∃ l : DL, en = .returned (sL l.v) ∧ (VOK 1 l.v.n l.v.cap (RwH.enc l.rs) l.v.sp l.v.q ∧ DOK RB res l.rs) ∧ HV w (keys [] []) [] [⟨114, RwH.enc l.rs, l.v.sp, l.v.q, dbl 4 RB res l.rs⟩] [] w') := by
  unfold zZ at hm
  refine yd func91 Y ntmps91 Y (e := [(0, _)]) Y hw (jt ?_)
  refine jP Y Y (fun b h3 => ?_)
  refine jc Y Y Y (fun _ _ => yq Y) (qs (Jp [_, _, _, _, _] 0 isAgg33 sizeOf33 Y Y Y Y ?_))
  obtain ⟨t10, h4, hm⟩ := bindO hm
  refine jd [] [] Y Y Y Y Y Y Y call90 (fun w hh => Kb c0 qa0 na0 ca0 qa1 na1 ca1 qa2 na2 ca2 w (HV.callee (S0 := []) (vs0 := []) hh (roR hh 0 Y (roR hh 1 Y (roR hh 2 Y roN)))) hna0 hqa0 hla0 hna1 hqa1 hla1 hna2 hqa2 hla2 h4) (fun l h5 => ?_)
  obtain ⟨h6, h7⟩ := h5
  refine k3 (S' := [_]) (vs' := [_]) [0] [0] 0 Y Y Y Y (jp Y Y (jq (jh (j5 none (.hoist 0 (.hoist 1 (.one 2 (.one 3 (.free 4 .done))))) _ Y (by decide +kernel) (fun w k hh => hh.draw k) (fun w hh => hh) (jw Y Y Y Y (fun w hh => jH (vs := [_, _, _, _, _]) (isAgg33 w) (sizeOf33 w) Y (hh.cells 0 Y Y)) (jw Y Y Y Y (fun w hh => jH (vs := [_, _, _, _, _]) (isAgg33 w) (sizeOf33 w) Y (hh.cells 0 Y Y)) (jF Y ?_)))))))
  obtain ⟨t13, h8, hm⟩ := bindO hm
  refine jd [] [] Y Y Y Y Y Y Y call24 (fun w hh => yB c0 qa0 na0 ca0 qa1 na1 ca1 qa2 na2 ca2 w (HV.callee (S0 := []) (vs0 := []) hh (roR hh 0 Y (roR hh 1 Y (roR hh 2 Y roN)))) hna0 hqa0 hla0 hna1 hqa1 hla1 hna2 hqa2 hla2 h8) (fun l_1 h9 => ?_)
  refine jo (fun w hh => hh) (jF Y ?_)
  obtain ⟨t14, h10, hm⟩ := bindO hm
  refine jd [] [] Y Y Y Y Y Y Y call89 (fun w hh => Qj c0 t13 qa0 na0 ca0 qa1 na1 ca1 qa2 na2 ca2 w (HV.callee (S0 := []) (vs0 := []) hh (roR hh 0 Y (roR hh 1 Y (roR hh 2 Y roN)))) hna0 hqa0 hla0 hna1 hqa1 hla1 hna2 hqa2 hla2 h10) (fun l_2 h11 => ?_)
  obtain ⟨h12, h13⟩ := h11
  refine k3 (S' := [_]) (vs' := [_, _]) [0] [0, 1] 0 Y Y Y Y (jo (hsE [0] [1] 0 Y Y Y Y) (jl Y Y Y Y (fun _ _ => kx Y) (jG (ja (jt (jk Y Y (jc Y Y Y (fun w _ => Jh (Eq.trans (h13).len (vlen RwH h12 Y)) (runUnderlying41 w) Y) ?_)))))))
  obtain ⟨t17, h14, hm⟩ := bindO hm
  refine Qx RwH vl0 (makecL vl0 h14) underlying143 jaO Y Y Y Y Y (fun L h15 => ?_)
  refine YP (E2 := 4) RB (Int.toNat (t14.length : Int)) (makecO h14).1.symm (fun h16 => ?_)
  refine jp Y Y (jq (jh (jt (qT 1 runUnderlying33 Y sizeOf3 Y Y (qq 0 isAgg3 Y Y Y Y (jp Y Y (jq ?_)))))))
  obtain ⟨o, h17, h18⟩ := bindO hm
  refine jI (ι := DL) (fun l_3 => VOK 1 l_3.v.n l_3.v.cap (RwH.enc l_3.rs) l_3.v.sp l_3.v.q ∧ DOK RB o l_3.rs) (fun l_3 => [(5, sL l_3.v)]) (fun l_3 => [kc b #[.int .i64 c0.cells, .int .i64 c0.tides, .slice qa0 na0 ca0, .slice qa1 na1 ca1, .slice qa2 na2 ca2] 33]) (fun l_3 => [⟨114, RwH.enc l_3.rs, l_3.v.sp, l_3.v.q, dbl 4 RB o l_3.rs⟩]) ?_ ?_
  ·replace hm := h17
   refine jm ?_
   refine jM (ι := DL) hm (fun s l_4 => VOK 1 l_4.v.n l_4.v.cap (RwH.enc l_4.rs) l_4.v.sp l_4.v.q ∧ DOK RB s.out5 l_4.rs) (fun s l_4 => [(1, ptr b 0), (3, sL l.v), (4, sL l_2.v), (5, sL l_4.v), (6, .int .i64 s.k6)]) (fun s l_4 => [kc b #[.int .i64 c0.cells, .int .i64 c0.tides, .slice qa0 na0 ca0, .slice qa1 na1 ca1, .slice qa2 na2 ca2] 33]) (fun s l_4 => [⟨22, RwH.enc l.rs, l.v.sp, l.v.q, dbl 3 RI t10 l.rs⟩, ⟨22, RwH.enc l_2.rs, l_2.v.sp, l_2.v.q, dbl 3 RI t14 l_2.rs⟩, ⟨114, RwH.enc l_4.rs, l_4.v.sp, l_4.v.q, dbl 4 RB s.out5 l_4.rs⟩]) (⟨⟨L.q, L.n, L.cap, L.sp⟩, (List.replicate (Int.toNat (t14.length : Int)) vl0)⟩) (⟨h15, h16⟩) (sE Y) (hsE [0] [2, 1, 0] 0 Y Y Y Y) (fun s l_4 r hpl hm h23 => ?_)
   obtain ⟨h21, h22⟩ := hpl
   unfold yV at hm
   refine jh (jt (jk Y Y (jc Y Y Y (fun _ _ => YI Y Y) (jq ?_))))
   refine jr Y (fun h24 => ?_) (fun h24 => ?_)
   ·replace hm := ifD h24 hm
    refine js (ja (jh (jm (jt (jk Y Y (jk Y Y (jk Y Y ?_)))))))
    refine jc Y Y Y (fun w _ => Jh (Eq.trans (h7).len (vlen RwH h6 Y)) (runUnderlying41 w) Y) ?_
    obtain ⟨t28, h25, hm⟩ := bindO hm
    refine Qx RB false h25 underlying114 jbe Y Y Y Y Y (fun L_1 h26 => ?_)
    obtain ⟨t29, h27, hm⟩ := bindO hm
    obtain ⟨L_2, h28, h29⟩ := (h22).row h27
    refine jc Y Y Y (fun w _ => qM h28 (runUnderlying143 w) (sizeOf114 w) Y Y (vlen RwH h21 Y) (vne h21)) ?_
    obtain ⟨out5, hout5, hm⟩ := bindO hm
    refine Zg RwH 3 0 (⟨L_1.q, L_1.n, L_1.cap, L_1.sp⟩ : VL) (fun w => sizeOf114 w) Y Y Y Y h21 Y (Nat.add_zero _).symm Y h28 Y Y Y (fun h30 => ?_)
    refine k3 (S' := [_]) (vs' := [_, _, _, _]) [0] [0, 1, 2, 3] 0 Y Y Y Y (k3 (S' := [_]) (vs' := [_, _, _, _]) [0] [3, 0, 1, 2] 0 Y Y Y Y ?_)
    refine Ze RB s.k6 L_1.n L_1.cap h22 h26 h27 (Option.some.inj hout5) (fun h31 => ?_)
    refine qs (jp Y Y (jq ?_))
    obtain ⟨o_1, h32, h33⟩ := bindO hm
    refine jI (ι := Unit) (fun l_5 => DOK RB o_1 (l_4.rs.set (Int.toNat s.k6) (⟨L_1.q, L_1.n, L_1.cap, L_1.sp⟩ : VL))) (fun l_5 => [(1, ptr b 0), (3, sL l.v), (4, sL l_2.v), (5, sL l_4.v), (6, .int .i64 s.k6)]) (fun l_5 => [kc b #[.int .i64 c0.cells, .int .i64 c0.tides, .slice qa0 na0 ca0, .slice qa1 na1 ca1, .slice qa2 na2 ca2] 33]) (fun l_5 => [⟨22, RwH.enc l.rs, l.v.sp, l.v.q, dbl 3 RI t10 l.rs⟩, ⟨22, RwH.enc l_2.rs, l_2.v.sp, l_2.v.q, dbl 3 RI t14 l_2.rs⟩, ⟨114, RwH.enc (l_4.rs.set (Int.toNat s.k6) (⟨L_1.q, L_1.n, L_1.cap, L_1.sp⟩ : VL)), l_4.v.sp, l_4.v.q, dbl 4 RB o_1 (l_4.rs.set (Int.toNat s.k6) (⟨L_1.q, L_1.n, L_1.cap, L_1.sp⟩ : VL))⟩]) ?_ ?_
    ·replace hm := h32
     refine jm ?_
     refine jM (ι := Unit) hm (fun s_1 l_6 => DOK RB s_1.out5 (l_4.rs.set (Int.toNat s.k6) (⟨L_1.q, L_1.n, L_1.cap, L_1.sp⟩ : VL))) (fun s_1 l_6 => [(1, ptr b 0), (3, sL l.v), (4, sL l_2.v), (5, sL l_4.v), (6, .int .i64 s.k6), (7, .int .i64 s_1.a7)]) (fun s_1 l_6 => [kc b #[.int .i64 c0.cells, .int .i64 c0.tides, .slice qa0 na0 ca0, .slice qa1 na1 ca1, .slice qa2 na2 ca2] 33]) (fun s_1 l_6 => [⟨22, RwH.enc l.rs, l.v.sp, l.v.q, dbl 3 RI t10 l.rs⟩, ⟨22, RwH.enc l_2.rs, l_2.v.sp, l_2.v.q, dbl 3 RI t14 l_2.rs⟩, ⟨114, RwH.enc (l_4.rs.set (Int.toNat s.k6) (⟨L_1.q, L_1.n, L_1.cap, L_1.sp⟩ : VL)), l_4.v.sp, l_4.v.q, dbl 4 RB s_1.out5 (l_4.rs.set (Int.toNat s.k6) (⟨L_1.q, L_1.n, L_1.cap, L_1.sp⟩ : VL))⟩]) () (h31) (sE Y) (hsE [0] [1, 2, 0] 0 Y Y Y Y) (fun s_1 l_6 r_1 hpl hm h36 => ?_)
     have h35 := hpl
     unfold yg at hm
     refine jh (jt (jk Y Y (jk Y Y (jc Y Y Y (fun w _ => Jh (Eq.trans (h7).len (vlen RwH h6 Y)) (runUnderlying41 w) Y) (Jo Y Y Y (jq ?_))))))
     refine jr Y (fun h37 => ?_) (fun h37 => ?_)
     ·replace hm := ifD h37 hm
      refine js (ja (jh ?_))
      obtain ⟨o_2, h38, h39⟩ := bindO hm
      refine jI (ι := Unit) (fun l_7 => DOK RB o_2 (l_4.rs.set (Int.toNat s.k6) (⟨L_1.q, L_1.n, L_1.cap, L_1.sp⟩ : VL))) (fun l_7 => [(1, ptr b 0), (3, sL l.v), (4, sL l_2.v), (5, sL l_4.v), (6, .int .i64 s.k6), (7, .int .i64 s_1.a7)]) (fun l_7 => [kc b #[.int .i64 c0.cells, .int .i64 c0.tides, .slice qa0 na0 ca0, .slice qa1 na1 ca1, .slice qa2 na2 ca2] 33]) (fun l_7 => [⟨22, RwH.enc l.rs, l.v.sp, l.v.q, dbl 3 RI t10 l.rs⟩, ⟨22, RwH.enc l_2.rs, l_2.v.sp, l_2.v.q, dbl 3 RI t14 l_2.rs⟩, ⟨114, RwH.enc (l_4.rs.set (Int.toNat s.k6) (⟨L_1.q, L_1.n, L_1.cap, L_1.sp⟩ : VL)), l_4.v.sp, l_4.v.q, dbl 4 RB o_2 (l_4.rs.set (Int.toNat s.k6) (⟨L_1.q, L_1.n, L_1.cap, L_1.sp⟩ : VL))⟩]) ?_ ?_
      ·replace hm := h38
       refine jm (jh (jt (jk Y Y (jk Y Y ?_))))
       obtain ⟨t38, h41, hm⟩ := bindO hm
       obtain ⟨L_3, h42, h43⟩ := (h13).row h41
       refine jc Y Y Y (fun w _ => qM h42 (runUnderlying41 w) (sizeOf22 w) Y Y (vlen RwH h12 Y) (vne h12)) (jc Y Y Y (fun w hh => ka RwH 0 h42 (isAgg22 w) Y (hh.vseg 1 Y h12) Y (Nat.add_zero _).symm) (jk Y Y ?_))
       obtain ⟨t41, h44, hm⟩ := bindO hm
       refine jc Y Y Y (fun w _ => qM h44 (runUnderlying22 w) (sizeOf3 w) Y Y (vlen RI h43 Y) (vne h43)) (jc Y Y Y (fun w hh => ka RI 0 h44 (isAgg3 w) Y (hh.dseg 1 Y h41 h42 h43) Y (Nat.add_zero _).symm) (jc Y Y Y (fun _ _ => Ju Y Y) (jq ?_)))
       refine jr Y (fun h45 => ?_) (fun h45 => ?_)
       ·replace hm := ifD h45 hm
        refine jS (ji (jD ?_))
        obtain rfl := sj hm
        exact jj () (h35) (sE Y) (fun w hh => hh)
       replace hm := ifE h45 hm
       refine js (ja (jh ?_))
       obtain ⟨o_3, h46, h47⟩ := bindO hm
       refine jI (ι := Unit) (fun l_8 => DOK RB o_3 (l_4.rs.set (Int.toNat s.k6) (⟨L_1.q, L_1.n, L_1.cap, L_1.sp⟩ : VL))) (fun l_8 => [(1, ptr b 0), (3, sL l.v), (4, sL l_2.v), (5, sL l_4.v), (6, .int .i64 s.k6), (7, .int .i64 s_1.a7)]) (fun l_8 => [kc b #[.int .i64 c0.cells, .int .i64 c0.tides, .slice qa0 na0 ca0, .slice qa1 na1 ca1, .slice qa2 na2 ca2] 33]) (fun l_8 => [⟨22, RwH.enc l.rs, l.v.sp, l.v.q, dbl 3 RI t10 l.rs⟩, ⟨22, RwH.enc l_2.rs, l_2.v.sp, l_2.v.q, dbl 3 RI t14 l_2.rs⟩, ⟨114, RwH.enc (l_4.rs.set (Int.toNat s.k6) (⟨L_1.q, L_1.n, L_1.cap, L_1.sp⟩ : VL)), l_4.v.sp, l_4.v.q, dbl 4 RB o_3 (l_4.rs.set (Int.toNat s.k6) (⟨L_1.q, L_1.n, L_1.cap, L_1.sp⟩ : VL))⟩]) ?_ ?_
       ·replace hm := h46
        refine jt (jk Y Y (qT 1 runUnderlying33 Y sizeOf3 Y Y (qq 0 isAgg3 Y Y Y Y (jc Y Y Y (fun _ _ => Ju Y Y) (jq ?_)))))
        refine jr Y (fun h49 => ?_) (fun h49 => ?_)
        ·replace hm := ifD h49 hm
         refine jg (jk Y Y (jk Y Y ?_))
         obtain ⟨t50, h50, hm⟩ := bindO hm
         obtain ⟨L_4, h51, h52⟩ := (h35).row h50
         refine jc Y Y Y (fun w _ => qM h51 (runUnderlying143 w) (sizeOf114 w) Y Y (vlen RwH h30 Y) (vne h30)) (jc Y Y Y (fun w hh => ka RwH 0 h51 (isAgg114 w) Y (hh.vseg 2 Y h30) Y (Nat.add_zero _).symm) (jk Y Y ?_))
         obtain ⟨t53, h53, hm⟩ := bindO hm
         refine jc Y Y Y (fun w _ => qM h53 (runUnderlying114 w) (sizeOf4 w) Y Y (vlen RB h52 Y) (vne h52)) ?_
         obtain ⟨row, hrow, hm⟩ := bindO hm
         obtain ⟨out5_1, hout5_1, hm⟩ := bindO hm
         refine k3 (S' := [_]) (vs' := [_, _, _]) [0] [2, 0, 1] 0 Y Y Y Y ?_
         refine ZD RB s.k6 h35 h50 h51 (fun _ => ?_)
         refine Zg RB 1 0 true (fun w => sizeOf4 w) Y Y Y Y h52 Y (Nat.add_zero _).symm Y h53 Y Y (Option.some.inj hrow) (fun h54 => ?_)
         refine k3 (S' := [_]) (vs' := [_, _, _, _]) [0] [0, 1, 2, 3] 0 Y Y Y Y ?_
         refine ZI RB s.k6 h35 h50 h51 h54 (Option.some.inj hout5_1) (fun h55 => ?_)
         refine ju ?_
         obtain rfl := sj hm
         exact jj () (h55) (sE Y) (hsE [0] [1, 2, 0] 0 Y Y Y Y)
        replace hm := ifE h49 hm
        refine js ?_
        obtain rfl := sj hm
        exact jj () (h35) (sE Y) (fun w hh => hh)
       intro l_8 hj
       have h48 := hj
       replace hm := h47
       refine ja (jt (jp Y Y (jq ?_)))
       obtain ⟨o_4, h56, h57⟩ := bindO hm
       refine jI (ι := Unit) (fun l_9 => DOK RB o_4 (l_4.rs.set (Int.toNat s.k6) (⟨L_1.q, L_1.n, L_1.cap, L_1.sp⟩ : VL))) (fun l_9 => [(1, ptr b 0), (3, sL l.v), (4, sL l_2.v), (5, sL l_4.v), (6, .int .i64 s.k6), (7, .int .i64 s_1.a7)]) (fun l_9 => [kc b #[.int .i64 c0.cells, .int .i64 c0.tides, .slice qa0 na0 ca0, .slice qa1 na1 ca1, .slice qa2 na2 ca2] 33]) (fun l_9 => [⟨22, RwH.enc l.rs, l.v.sp, l.v.q, dbl 3 RI t10 l.rs⟩, ⟨22, RwH.enc l_2.rs, l_2.v.sp, l_2.v.q, dbl 3 RI t14 l_2.rs⟩, ⟨114, RwH.enc (l_4.rs.set (Int.toNat s.k6) (⟨L_1.q, L_1.n, L_1.cap, L_1.sp⟩ : VL)), l_4.v.sp, l_4.v.q, dbl 4 RB o_4 (l_4.rs.set (Int.toNat s.k6) (⟨L_1.q, L_1.n, L_1.cap, L_1.sp⟩ : VL))⟩]) ?_ ?_
       ·replace hm := h56
        refine jm ?_
        refine jM (ι := Unit) hm (fun s_2 l_10 => DOK RB s_2.out5 (l_4.rs.set (Int.toNat s.k6) (⟨L_1.q, L_1.n, L_1.cap, L_1.sp⟩ : VL))) (fun s_2 l_10 => [(1, ptr b 0), (3, sL l.v), (4, sL l_2.v), (5, sL l_4.v), (6, .int .i64 s.k6), (7, .int .i64 s_1.a7), (8, .int .i64 s_2.b8)]) (fun s_2 l_10 => [kc b #[.int .i64 c0.cells, .int .i64 c0.tides, .slice qa0 na0 ca0, .slice qa1 na1 ca1, .slice qa2 na2 ca2] 33]) (fun s_2 l_10 => [⟨22, RwH.enc l.rs, l.v.sp, l.v.q, dbl 3 RI t10 l.rs⟩, ⟨22, RwH.enc l_2.rs, l_2.v.sp, l_2.v.q, dbl 3 RI t14 l_2.rs⟩, ⟨114, RwH.enc (l_4.rs.set (Int.toNat s.k6) (⟨L_1.q, L_1.n, L_1.cap, L_1.sp⟩ : VL)), l_4.v.sp, l_4.v.q, dbl 4 RB s_2.out5 (l_4.rs.set (Int.toNat s.k6) (⟨L_1.q, L_1.n, L_1.cap, L_1.sp⟩ : VL))⟩]) () (h48) (sE Y) (fun w hh => hh) (fun s_2 l_10 r_2 hpl hm h60 => ?_)
        have h59 := hpl
        unfold qu at hm
        refine jh (jh ?_)
        obtain ⟨o_5, h61, h62⟩ := bindO hm
        refine jI (ι := Unit) (fun l_11 => True) (fun l_11 => [(1, ptr b 0), (3, sL l.v), (4, sL l_2.v), (5, sL l_4.v), (6, .int .i64 s.k6), (7, .int .i64 s_1.a7), (8, .int .i64 s_2.b8), (63, .bool o_5)]) (fun l_11 => [kc b #[.int .i64 c0.cells, .int .i64 c0.tides, .slice qa0 na0 ca0, .slice qa1 na1 ca1, .slice qa2 na2 ca2] 33]) (fun l_11 => [⟨22, RwH.enc l.rs, l.v.sp, l.v.q, dbl 3 RI t10 l.rs⟩, ⟨22, RwH.enc l_2.rs, l_2.v.sp, l_2.v.q, dbl 3 RI t14 l_2.rs⟩, ⟨114, RwH.enc (l_4.rs.set (Int.toNat s.k6) (⟨L_1.q, L_1.n, L_1.cap, L_1.sp⟩ : VL)), l_4.v.sp, l_4.v.q, dbl 4 RB s_2.out5 (l_4.rs.set (Int.toNat s.k6) (⟨L_1.q, L_1.n, L_1.cap, L_1.sp⟩ : VL))⟩]) ?_ ?_
        ·replace hm := h61
         refine jg (jk Y Y (jk Y Y (jc Y Y Y (fun w _ => Jh (Eq.trans (h7).len (vlen RwH h6 Y)) (runUnderlying41 w) Y) (Jo Y Y Y (jk Y Y ?_)))))
         refine jQ 58 Y (fun h63 => ?_) (fun h63 => ?_)
         ·replace hm := ifD h63 hm
          refine jb Y Y (jk Y Y (jb Y Y (qT 1 runUnderlying33 Y sizeOf3 Y Y (jb Y Y (qq 0 isAgg3 Y Y Y Y (jb Y Y (Jo Y Y Y ?_)))))))
          refine yx Y Y Y (ju ?_)
          obtain rfl := sj hm
          exact jj () (trivial) (sE Y) (fun w hh => hh)
         replace hm := ifE h63 hm
         refine g_k Y Y Y Y (g_k Y Y Y Y (g_k Y Y Y Y (g_k Y Y Y Y (y4 Y Y Y (ju ?_)))))
         obtain rfl := sj hm
         exact jj () (trivial) (sE Y) (fun w hh => hh)
        intro l_11 hj
        replace hm := h62
        refine ja ?_
        refine jr Y (fun h64 => ?_) (fun h64 => ?_)
        ·replace hm := ifT (h64) hm
         refine js (ja (jh (jm ?_)))
         obtain ⟨o_6, h65, h66⟩ := bindO hm
         refine jI (ι := Unit) (fun l_12 => DOK RB o_6 (l_4.rs.set (Int.toNat s.k6) (⟨L_1.q, L_1.n, L_1.cap, L_1.sp⟩ : VL))) (fun l_12 => [(1, ptr b 0), (3, sL l.v), (4, sL l_2.v), (5, sL l_4.v), (6, .int .i64 s.k6), (7, .int .i64 s_1.a7), (8, .int .i64 s_2.b8)]) (fun l_12 => [kc b #[.int .i64 c0.cells, .int .i64 c0.tides, .slice qa0 na0 ca0, .slice qa1 na1 ca1, .slice qa2 na2 ca2] 33]) (fun l_12 => [⟨22, RwH.enc l.rs, l.v.sp, l.v.q, dbl 3 RI t10 l.rs⟩, ⟨22, RwH.enc l_2.rs, l_2.v.sp, l_2.v.q, dbl 3 RI t14 l_2.rs⟩, ⟨114, RwH.enc (l_4.rs.set (Int.toNat s.k6) (⟨L_1.q, L_1.n, L_1.cap, L_1.sp⟩ : VL)), l_4.v.sp, l_4.v.q, dbl 4 RB o_6 (l_4.rs.set (Int.toNat s.k6) (⟨L_1.q, L_1.n, L_1.cap, L_1.sp⟩ : VL))⟩]) ?_ ?_
         ·replace hm := h65
          refine j5 (some 35) (.free 0 (.free 1 (.free 2 (.hoist 3 (.free 4 (.free 5 (.free 6 (.free 7 (.hoist 8 (.free 9 (.free 10 (.hoist 11 (.free 12 (.free 13 (.free 14 (.free 15 (.free 16 (.hoist 17 (.free 18 (.free 19 (.hoist 20 (.free 21 (.hoist 22 (.free 23 (.free 24 (.free 25 (.hoist 26 (.free 27 (.free 28 (.free 29 (.hoist 30 (.one 31 (.free 32 (.free 33 (.free 34 (.last 35 .done)))))))))))))))))))))))))))))))))))) _ Y (by decide +kernel) (fun w k hh => hh.draw k) (fun w hh => hh) ?_
          refine k9 Y Y Y (k9 Y Y Y ?_)
          obtain ⟨t68, h68, hm⟩ := bindO hm
          obtain ⟨L_5, h69, h70⟩ := (h59).row h68
          refine jl Y Y Y Y (fun w _ => qM h69 (runUnderlying143 w) (sizeOf114 w) Y Y (vlen RwH h30 Y) (vne h30)) (jw Y Y Y Y (fun w hh => ka RwH 0 h69 (isAgg114 w) Y (hh.vseg 2 Y h30) Y (Nat.add_zero _).symm) (k9 Y Y Y (k9 Y Y Y (k9 Y Y Y ?_))))
          obtain ⟨t73, h71, hm⟩ := bindO hm
          obtain ⟨L_6, h72, h73⟩ := (h59).row h71
          refine jl Y Y Y Y (fun w _ => qM h72 (runUnderlying143 w) (sizeOf114 w) Y Y (vlen RwH h30 Y) (vne h30)) (jw Y Y Y Y (fun w hh => ka RwH 0 h72 (isAgg114 w) Y (hh.vseg 2 Y h30) Y (Nat.add_zero _).symm) (k9 Y Y Y ?_))
          obtain ⟨t76, h74, hm⟩ := bindO hm
          refine jl Y Y Y Y (fun w _ => qM h74 (runUnderlying114 w) (sizeOf4 w) Y Y (vlen RB h73 Y) (vne h73)) (jw Y Y Y Y (fun w hh => ka RB 0 h74 (isAgg4 w) Y (hh.dseg 2 Y h71 h72 h73) Y (Nat.add_zero _).symm) (k9 Y Y Y ?_))
          refine jQ 78 Y (fun h75 => ?_) (fun h75 => ?_)
          ·replace hm := ifT (h75) hm
           refine jv Y Y Y Y Y Y Y (jv Y Y Y Y Y Y Y (jv Y Y Y Y Y Y Y (jv Y Y Y Y Y Y Y (qi Y Y Y Y Y Y Y (jv Y Y Y Y Y Y Y (jv Y Y Y Y Y Y Y (qi Y Y Y Y Y Y Y ?_)))))))
           refine jv Y Y Y Y Y Y Y (Q6 Y Y Y Y Y Y (qz Y Y Y Y Y Y (qz Y Y Y Y Y Y (qz Y Y Y Y Y Y (Q6 Y Y Y Y Y Y (qz Y Y Y Y Y Y (qz Y Y Y Y Y Y ?_)))))))
           refine qz Y Y Y Y Y Y (Q6 Y Y Y Y Y Y (jF Y ?_))
           refine jU Y Y Y Y Y ?_
           refine jo (fun w hh => hh) (jv Y Y Y Y Y Y Y (jl Y Y Y Y (fun _ _ => zD Y Y) ?_))
           obtain ⟨t100, h76, hm⟩ := bindO hm
           refine jl Y Y Y Y (fun w _ => qM h76 (runUnderlying114 w) (sizeOf4 w) Y Y (vlen RB h70 Y) (vne h70)) (Za Y ?_)
           obtain ⟨row_1, hrow_1, hm⟩ := bindO hm
           obtain ⟨out5_2, hout5_2, hm⟩ := bindO hm
           refine k3 (S' := [_]) (vs' := [_, _, _]) [0] [2, 0, 1] 0 Y Y Y Y ?_
           refine ZD RB s.k6 h59 h68 h69 (fun _ => ?_)
           refine Zg RB 1 0 true (fun w => sizeOf4 w) Y Y Y Y h70 Y (Nat.add_zero _).symm Y h76 Y Y (Option.some.inj hrow_1) (fun h77 => ?_)
           refine k3 (S' := [_]) (vs' := [_, _, _, _]) [0] [0, 1, 2, 3] 0 Y Y Y Y ?_
           refine ZI RB s.k6 h59 h68 h69 h77 (Option.some.inj hout5_2) (fun h78 => ?_)
           refine Yg (jG ?_)
           obtain rfl := sj hm
           exact jj () (h78) (sE Y) (hsE [0] [1, 2, 0] 0 Y Y Y Y)
          replace hm := ifN h75 hm
          refine jy Y Y Y Y Y Y (fun _ _ => jN Y) (jy Y Y Y Y Y Y (fun _ _ => jN Y) ?_)
          obtain ⟨t81, h79, hm⟩ := bindO hm
          refine jy Y Y Y Y Y Y (fun _ _ => Kh h79 Y Y) ?_
          obtain ⟨t82, h80, hm⟩ := bindO hm
          obtain ⟨L_7, h81, h82⟩ := (h59).row h80
          refine jy Y Y Y Y Y Y (fun w _ => qM h81 (runUnderlying143 w) (sizeOf114 w) Y Y (vlen RwH h30 Y) (vne h30)) (jZ Y Y Y Y Y Y (fun w hh => ka RwH 0 h81 (isAgg114 w) Y (hh.vseg 2 Y h30) Y (Nat.add_zero _).symm) (jy Y Y Y Y Y Y (fun _ _ => jN Y) ?_))
          obtain ⟨t85, h83, hm⟩ := bindO hm
          refine jy Y Y Y Y Y Y (fun w _ => qM h83 (runUnderlying114 w) (sizeOf4 w) Y Y (vlen RB h82 Y) (vne h82)) (jZ Y Y Y Y Y Y (fun w hh => ka RB 0 h83 (isAgg4 w) Y (hh.dseg 2 Y h80 h81 h82) Y (Nat.add_zero _).symm) (jy Y Y Y Y Y Y (fun _ _ => jN Y) ?_))
          refine jQ 87 Y (fun h84 => ?_) (fun h84 => ?_)
          ·replace hm := ifT (h84) hm
           refine jZ Y Y Y Y Y Y (fun w hh => jH (vs := [_, _, _, _, _]) (isAgg33 w) (sizeOf33 w) Y (hh.cells 0 Y Y)) (jy Y Y Y Y Y Y (fun _ _ => jN Y) (jy Y Y Y Y Y Y (fun _ _ => jN Y) ?_))
           obtain ⟨t91, h85, hm⟩ := bindO hm
           obtain ⟨L_8, h86, h87⟩ := (h7).row h85
           refine jy Y Y Y Y Y Y (fun w _ => qM h86 (runUnderlying41 w) (sizeOf22 w) Y Y (vlen RwH h6 Y) (vne h6)) (jZ Y Y Y Y Y Y (fun w hh => ka RwH 0 h86 (isAgg22 w) Y (hh.vseg 0 Y h6) Y (Nat.add_zero _).symm) (jy Y Y Y Y Y Y (fun _ _ => jN Y) (jy Y Y Y Y Y Y (fun _ _ => jN Y) ?_)))
           obtain ⟨t95, h88, hm⟩ := bindO hm
           obtain ⟨L_9, h89, h90⟩ := (h7).row h88
           refine jy Y Y Y Y Y Y (fun w _ => qM h89 (runUnderlying41 w) (sizeOf22 w) Y Y (vlen RwH h6 Y) (vne h6)) (jZ Y Y Y Y Y Y (fun w hh => ka RwH 0 h89 (isAgg22 w) Y (hh.vseg 0 Y h6) Y (Nat.add_zero _).symm) (jF Y (jb Y Y ?_)))
           obtain ⟨t97, h91, hm⟩ := bindO hm
           refine jd [] [] Y Y Y Y Y Y Y call92 (fun w hh => JL c0 t91 t95 qa0 na0 ca0 qa1 na1 ca1 qa2 na2 ca2 (qA L_8.q) L_8.n L_8.cap (qA L_9.q) L_9.n L_9.cap w (HV.callee (S0 := []) (vs0 := []) hh (roR hh 0 Y (roR hh 1 Y (roR hh 2 Y (roC (hh.dsepA (S0 := []) (vs0 := []) 0 Y h85 h86 h87) (roC (hh.dsepA (S0 := []) (vs0 := []) 0 Y h88 h89 h90) roN)))))) hna0 hqa0 hla0 hna1 hqa1 hla1 hna2 hqa2 hla2 (vlen RI h87 Y) (AOK.q (vne h87)) (h87).hle (vlen RI h90 Y) (AOK.q (vne h90)) (h90).hle h91) (fun l_13 h92 => ?_)
           refine jo (fun w hh => hh) (jy Y Y Y Y Y Y (fun _ _ => zD Y Y) (jl Y Y Y Y (fun _ _ => q5 Y Y) ?_))
           obtain ⟨t100_1, h93, hm⟩ := bindO hm
           refine jl Y Y Y Y (fun w _ => qM h93 (runUnderlying114 w) (sizeOf4 w) Y Y (vlen RB h70 Y) (vne h70)) (Za Y ?_)
           obtain ⟨row_2, hrow_2, hm⟩ := bindO hm
           obtain ⟨out5_3, hout5_3, hm⟩ := bindO hm
           refine k3 (S' := [_]) (vs' := [_, _, _]) [0] [2, 0, 1] 0 Y Y Y Y ?_
           refine ZD RB s.k6 h59 h68 h69 (fun _ => ?_)
           refine Zg RB 1 0 t97 (fun w => sizeOf4 w) Y Y Y Y h70 Y (Nat.add_zero _).symm Y h93 Y Y (Option.some.inj hrow_2) (fun h94 => ?_)
           refine k3 (S' := [_]) (vs' := [_, _, _, _]) [0] [0, 1, 2, 3] 0 Y Y Y Y ?_
           refine ZI RB s.k6 h59 h68 h69 h94 (Option.some.inj hout5_3) (fun h95 => ?_)
           refine Yg (jG ?_)
           obtain rfl := sj hm
           exact jj () (h95) (sE Y) (hsE [0] [1, 2, 0] 0 Y Y Y Y)
          replace hm := ifN h84 hm
          refine qi Y Y Y Y Y Y Y (jv Y Y Y Y Y Y Y (jv Y Y Y Y Y Y Y (jv Y Y Y Y Y Y Y (qi Y Y Y Y Y Y Y (jv Y Y Y Y Y Y Y (jv Y Y Y Y Y Y Y (jv Y Y Y Y Y Y Y ?_)))))))
          refine qi Y Y Y Y Y Y Y (jF Y (g_k Y Y Y Y (jo (fun w hh => hh) (jy Y Y Y Y Y Y (fun _ _ => q5 Y Y) (jl Y Y Y Y (fun _ _ => q5 Y Y) ?_)))))
          obtain ⟨t100_2, h96, hm⟩ := bindO hm
          refine jl Y Y Y Y (fun w _ => qM h96 (runUnderlying114 w) (sizeOf4 w) Y Y (vlen RB h70 Y) (vne h70)) (Za Y ?_)
          obtain ⟨row_3, hrow_3, hm⟩ := bindO hm
          obtain ⟨out5_4, hout5_4, hm⟩ := bindO hm
          refine k3 (S' := [_]) (vs' := [_, _, _]) [0] [2, 0, 1] 0 Y Y Y Y ?_
          refine ZD RB s.k6 h59 h68 h69 (fun _ => ?_)
          refine Zg RB 1 0 false (fun w => sizeOf4 w) Y Y Y Y h70 Y (Nat.add_zero _).symm Y h96 Y Y (Option.some.inj hrow_3) (fun h97 => ?_)
          refine k3 (S' := [_]) (vs' := [_, _, _, _]) [0] [0, 1, 2, 3] 0 Y Y Y Y ?_
          refine ZI RB s.k6 h59 h68 h69 h97 (Option.some.inj hout5_4) (fun h98 => ?_)
          refine Yg (jG ?_)
          obtain rfl := sj hm
          exact jj () (h98) (sE Y) (hsE [0] [1, 2, 0] 0 Y Y Y Y)
         intro l_12 hj
         have h67 := hj
         replace hm := h66
         refine jx (ja (jg (jk Y Y ?_)))
         obtain ⟨t65, h99, hm⟩ := bindO hm
         refine JG h99 Y Y Y (jp Y Y (ju ?_))
         obtain rfl := sj hm
         refine ja ?_
         exact jC _ () Y (h67) (sE Y) (fun w hh => hh)
        replace hm := ifN h64 hm
        refine jS (ji (ji (jD ?_)))
        obtain rfl := sj hm
        have hbo := h60 _ Y
        subst hbo
        exact jj () (h59) (sE Y) (fun w hh => hh)
       intro l_9 hj
       have h58 := hj
       replace hm := h57
       refine jx ?_
       obtain rfl := sj hm
       exact jj () (h58) (sE Y) (fun w hh => hh)
      intro l_7 hj
      have h40 := hj
      replace hm := h39
      refine ja (jg (jk Y Y ?_))
      obtain ⟨t35, h100, hm⟩ := bindO hm
      refine JG h100 Y Y Y (jp Y Y (ju ?_))
      obtain rfl := sj hm
      refine ja ?_
      exact jC _ () Y (h40) (sE Y) (fun w hh => hh)
     replace hm := ifE h37 hm
     refine jS (ji (ji (jD ?_)))
     obtain rfl := sj hm
     have hbo := h36 _ Y
     subst hbo
     exact jj () (h35) (sE Y) (fun w hh => hh)
    intro l_5 hj
    have h34 := hj
    replace hm := h33
    refine jx (ja (jg (jk Y Y ?_)))
    obtain ⟨t23, h101, hm⟩ := bindO hm
    refine jc Y Y Y (fun _ _ => yX h101 Y Y) (jp Y Y (ju ?_))
    obtain rfl := sj hm
    refine ja ?_
    exact jC _ (⟨⟨l_4.v.q, l_4.v.n, l_4.v.cap, l_4.v.sp⟩, (l_4.rs.set (Int.toNat s.k6) (⟨L_1.q, L_1.n, L_1.cap, L_1.sp⟩ : VL))⟩) Y (⟨h30, h34⟩) (sE Y) (fun w hh => hh)
   replace hm := ifE h24 hm
   refine jS (ji (ji (jD ?_)))
   obtain rfl := sj hm
   have hbo := h23 _ Y
   subst hbo
   exact jj l_4 (⟨h21, h22⟩) (sE Y) (hsE [0] [2] 0 Y Y Y Y)
  intro l_3 hj
  obtain ⟨h19, h20⟩ := hj
  replace hm := h18
  refine ja (jt (jk Y Y (jp Y Y (jq (jz ?_)))))
  obtain rfl := sj hm
  refine jn Y (fun w hh => (.tmp Y .nil)) (fun w hh => ⟨l_3, rfl, ⟨h19, h20⟩, hh.se [] [0] 3 Y Y Y rfl⟩)
structure y6 where
  n5 : Int
  i6 : Int
def qj (a0 : (List Int)) (b1 : (List Int)) (s : y6) : Option (y6 ⊕ Int) :=
 if s.i6 < (a0.length : Int) then
 ((ix a0 s.i6).bind fun t16 =>
 (ix b1 s.i6).bind fun t20 =>
 (subc t16 t20).bind fun t22 =>
 (ix b1 s.i6).bind fun t25 =>
 (ix a0 s.i6).bind fun t29 =>
 (subc t25 t29).bind fun t31 =>
 (addc s.n5 (max t22 t31)).bind fun t33 =>
 (addc s.i6 1).bind fun t12 =>
 some (.inl (⟨t33, t12⟩ : y6))) else
 (some (.inr s.n5))
def kU (a0 : (List Int)) (b1 : (List Int)) : Option Int :=
 (iterM FU (qj a0 b1) (⟨0, 0⟩ : y6)).bind fun o =>
 some o
theorem K6 (a0 : (List Int)) (b1 : (List Int)) (qa0 : Option Addr) (na0 ca0 : Nat) (qa1 : Option Addr) (na1 ca1 : Nat) (w : World) (hw : HV w (keys [] []) [] [] [(aB qa0, aO qa0, RI.enc a0), (aB qa1, aO qa1, RI.enc b1)] w) (hna0 : a0.length = na0) (hqa0 : AOK na0 qa0) (hla0 : na0 ≤ ca0) (hna1 : b1.length = na1) (hqa1 : AOK na1 qa1) (hla1 : na1 ≤ ca1) {res : Int} (hm : kU a0 b1 = some res) :
    Calls Tryz.prog 30 #[.slice qa0 na0 ca0, .slice qa1 na1 ca1] w (fun en w' => ∃ l : Unit, en = .returned (.int .i64 res) ∧ (True) ∧ HV w (keys [] []) [] [] [] w') := by
  unfold kU at hm
  refine yd func30 Y ntmps30 Y (e := [(0, _), (1, _)]) Y hw (jt (jp Y Y (qs (jp Y Y (jq (jh (jt ?_)))))))
  refine jp Y Y (jq ?_)
  obtain ⟨o, h1, h2⟩ := bindO hm
  refine jI (ι := Unit) (fun l => True) (fun l => [(5, .int .i64 o)]) (fun l => []) (fun l => []) ?_ ?_
  ·replace hm := h1
   refine jm ?_
   refine jM (ι := Unit) hm (fun s l_1 => True) (fun s l_1 => [(0, .slice qa0 na0 ca0), (1, .slice qa1 na1 ca1), (5, .int .i64 s.n5), (6, .int .i64 s.i6)]) (fun s l_1 => []) (fun s l_1 => []) () (trivial) (sE Y) (fun w hh => hh) (fun s l_1 r hpl hm h3 => ?_)
   unfold qj at hm
   refine jh (jt (jk Y Y (jk Y Y (jc Y Y Y (fun w _ => jR hna0 (runUnderlying22 w) Y) (Jo Y Y Y (jq ?_))))))
   refine jr Y (fun h4 => ?_) (fun h4 => ?_)
   ·replace hm := ifD h4 hm
    refine js (ja (jh (jm ?_)))
    refine j5 none (.free 0 (.free 1 (.free 2 (.free 3 (.hoist 4 (.free 5 (.free 6 (.free 7 (.hoist 8 (.free 9 (.free 10 (.free 11 (.free 12 (.hoist 13 (.free 14 (.free 15 (.free 16 (.hoist 17 (.free 18 (.free 19 (.free 20 (.free 21 .done)))))))))))))))))))))) _ Y (by decide +kernel) (fun w k hh => hh.draw k) (fun w hh => hh) ?_
    refine k9 Y Y Y (k9 Y Y Y (k9 Y Y Y ?_))
    obtain ⟨t16, h5, hm⟩ := bindO hm
    refine jl Y Y Y Y (fun w _ => qx h5 (runUnderlying22 w) (sizeOf3 w) Y Y hna0 hqa0) (jw Y Y Y Y (fun w hh => ka RI 0 h5 (isAgg3 w) Y (hh.seg 0 Y) Y (Nat.add_zero _).symm) (k9 Y Y Y (k9 Y Y Y ?_)))
    obtain ⟨t20, h6, hm⟩ := bindO hm
    refine jl Y Y Y Y (fun w _ => qx h6 (runUnderlying22 w) (sizeOf3 w) Y Y hna1 hqa1) (jw Y Y Y Y (fun w hh => ka RI 0 h6 (isAgg3 w) Y (hh.seg 1 Y) Y (Nat.add_zero _).symm) ?_)
    obtain ⟨t22, h7, hm⟩ := bindO hm
    refine jl Y Y Y Y (fun _ _ => yX h7 Y Y) (k9 Y Y Y (k9 Y Y Y ?_))
    obtain ⟨t25, h8, hm⟩ := bindO hm
    refine jl Y Y Y Y (fun w _ => qx h8 (runUnderlying22 w) (sizeOf3 w) Y Y hna1 hqa1) (jw Y Y Y Y (fun w hh => ka RI 0 h8 (isAgg3 w) Y (hh.seg 1 Y) Y (Nat.add_zero _).symm) (k9 Y Y Y (k9 Y Y Y ?_)))
    obtain ⟨t29, h9, hm⟩ := bindO hm
    refine jl Y Y Y Y (fun w _ => qx h9 (runUnderlying22 w) (sizeOf3 w) Y Y hna0 hqa0) (jw Y Y Y Y (fun w hh => ka RI 0 h9 (isAgg3 w) Y (hh.seg 0 Y) Y (Nat.add_zero _).symm) ?_)
    obtain ⟨t31, h10, hm⟩ := bindO hm
    refine jl Y Y Y Y (fun _ _ => yX h10 Y Y) (jl Y Y Y Y (fun _ _ => Z3 Y Y) ?_)
    obtain ⟨t33, h11, hm⟩ := bindO hm
    refine jl Y Y Y Y (fun _ _ => Kh h11 Y Y) (jl Y Y Y Y (fun _ _ => kx Y) (jG (jx (ja (jg (jk Y Y ?_))))))
    obtain ⟨t12, h12, hm⟩ := bindO hm
    refine JG h12 Y Y Y (jp Y Y (ju ?_))
    obtain rfl := sj hm
    refine ja ?_
    exact jC _ () Y (trivial) (sE Y) (fun w hh => hh)
   replace hm := ifE h4 hm
   refine jS (ji (ji (jD ?_)))
   obtain rfl := sj hm
   have hbo := h3 _ Y
   subst hbo
   exact jj () (trivial) (sE Y) (fun w hh => hh)
  intro l hj
  replace hm := h2
  refine ja (jt (jk Y Y (jp Y Y (jq (jz ?_)))))
  obtain rfl := sj hm
  refine jn Y (fun w hh => (.tmp Y .nil)) (fun w hh => ⟨(), rfl, trivial, hh.se [] [] 2 Y Y Y rfl⟩)
structure qE where
  k6 : Int
  few5 : (List Int)
structure yt where
  b8 : Int
  t28 : (List Int)
structure zx where
  a9 : Int
  t28 : (List Int)
def kp (t14 : (List (List Int))) (s : qE) (s_1 : yt) (c0 : Channel) (s_2 : zx) : Option (zx ⊕ (List Int)) :=
 (if s_2.a9 < (t14.length : Int) then
 (some (decide (0 < s.k6))) else
 (some false)).bind fun o_5 =>
 if o_5 = true then
 ((((ix s.few5 s_2.a9).bind fun t63 =>
 if t63 < 0 then
 (some true) else
 ((ix t14 s_2.a9).bind fun t70 =>
 (ix t14 s_1.b8).bind fun t74 =>
 (qD c0 t70 t74).bind fun t76 =>
 some (!t76))).bind fun o_7 =>
 if o_7 = true then
 (some s_2.t28) else
 ((ix s.few5 s_2.a9).bind fun t81 =>
 (ix t14 s_2.a9).bind fun t85 =>
 (ix t14 s_1.b8).bind fun t89 =>
 (kU t85 t89).bind fun t91 =>
 (addc t81 t91).bind fun t92 =>
 ((ix s_2.t28 s_1.b8).bind fun t95 =>
 if t95 < 0 then
 (some true) else
 ((ix s_2.t28 s_1.b8).bind fun t102 =>
 some (decide (t92 < t102)))).bind fun o_8 =>
 if o_8 = true then
 ((ix s_2.t28 s_1.b8).bind fun t109 =>
 (some (s_2.t28.set (Int.toNat s_1.b8) t92)).bind fun t28_3 =>
 some t28_3) else
 (some s_2.t28))).bind fun o_6 =>
 (addc s_2.a9 1).bind fun t60 =>
 some (.inl (⟨t60, o_6⟩ : zx))) else
 (some (.inr s_2.t28))
def qC (t14 : (List (List Int))) (t16 : (List (List Bool))) (s : qE) (c0 : Channel) (s_1 : yt) : Option (yt ⊕ (List Int)) :=
 if s_1.b8 < (t14.length : Int) then
 (((ix s_1.t28 s_1.b8).bind fun t37 =>
 (some (s_1.t28.set (Int.toNat s_1.b8) (-1))).bind fun t28_1 =>
 (ix t16 s.k6).bind fun t40 =>
 (ix t40 s_1.b8).bind fun t43 =>
 if (!t43) = true then
 (some t28_1) else
 ((if s.k6 = 0 then
 ((ix t28_1 s_1.b8).bind fun t50 =>
 (some (t28_1.set (Int.toNat s_1.b8) 0)).bind fun t28_2 =>
 some t28_2) else
 (some t28_1)).bind fun o_3 =>
 (iterM FU (kp t14 s s_1 c0) (⟨0, o_3⟩ : zx)).bind fun o_4 =>
 some o_4)).bind fun o_2 =>
 (addc s_1.b8 1).bind fun t34 =>
 some (.inl (⟨t34, o_2⟩ : yt))) else
 (some (.inr s_1.t28))
def qF (c0 : Channel) (t14 : (List (List Int))) (t16 : (List (List Bool))) (s : qE) : Option (qE ⊕ (List Int)) :=
 if s.k6 ≤ c0.tides then
 ((makec 8 0 (t14.length : Int) (t14.length : Int)).bind fun t28 =>
 (iterM FU (qC t14 t16 s c0) (⟨0, t28⟩ : yt)).bind fun o_1 =>
 (addc s.k6 1).bind fun t25 =>
 some (.inl (⟨t25, o_1⟩ : qE))) else
 (some (.inr s.few5))
structure zz where
  best11 : Int
  a12 : Int
def qJ (o : (List Int)) (s_3 : zz) : Option (zz ⊕ Int) :=
 if s_3.a12 < (o.length : Int) then
 ((((ix o s_3.a12).bind fun t119 =>
 if 0 ≤ t119 then
 (if s_3.best11 < 0 then
 (some true) else
 ((ix o s_3.a12).bind fun t128 =>
 some (decide (t128 < s_3.best11)))) else
 (some false)).bind fun o_11 =>
 if o_11 = true then
 ((ix o s_3.a12).bind fun t136 =>
 some t136) else
 (some s_3.best11)).bind fun o_10 =>
 (addc s_3.a12 1).bind fun t116 =>
 some (.inl (⟨o_10, t116⟩ : zz))) else
 (some (.inr s_3.best11))
def zs (c0 : Channel) : Option Int :=
 (qv c0).bind fun t14 =>
 (zZ c0).bind fun t16 =>
 (makec 8 0 (t14.length : Int) (t14.length : Int)).bind fun t19 =>
 (iterM FU (qF c0 t14 t16) (⟨0, t19⟩ : qE)).bind fun o =>
 (iterM FU (qJ o) (⟨-1, 0⟩ : zz)).bind fun o_9 =>
 some o_9
theorem Yz (c0 : Channel) (qa0 : Option Addr) (na0 ca0 : Nat) (qa1 : Option Addr) (na1 ca1 : Nat) (qa2 : Option Addr) (na2 ca2 : Nat) (w : World) (hw : HV w (keys [] []) [] [] [(aB qa0, aO qa0, RI.enc c0.fords), (aB qa1, aO qa1, RSa.enc c0.sands), (aB qa2, aO qa2, RSi.enc c0.sights)] w) (hna0 : c0.fords.length = na0) (hqa0 : AOK na0 qa0) (hla0 : na0 ≤ ca0) (hna1 : c0.sands.length = na1) (hqa1 : AOK na1 qa1) (hla1 : na1 ≤ ca1) (hna2 : c0.sights.length = na2) (hqa2 : AOK na2 qa2) (hla2 : na2 ≤ ca2) {res : Int} (hm : zs c0 = some res) :
    Calls Tryz.prog 25 #[.agg #[.int .i64 c0.cells, .int .i64 c0.tides, .slice qa0 na0 ca0, .slice qa1 na1 ca1, .slice qa2 na2 ca2]] w (fun en w' => ∃ l : Unit, en = .returned (.int .i64 res) ∧ (True) ∧ HV w (keys [] []) [] [] [] w') := by
  unfold zs at hm
  refine yd func25 Y ntmps25 Y (e := [(0, _)]) Y hw (jt ?_)
  refine jP Y Y (fun b h1 => ?_)
  refine jp Y Y (qs (Jp [_, _, _, _, _] 0 isAgg33 sizeOf33 Y Y Y Y ?_))
  obtain ⟨t14, h2, hm⟩ := bindO hm
  refine jd [] [] Y Y Y Y Y Y Y call90 (fun w hh => Kb c0 qa0 na0 ca0 qa1 na1 ca1 qa2 na2 ca2 w (HV.callee (S0 := []) (vs0 := []) hh (roR hh 0 Y (roR hh 1 Y (roR hh 2 Y roN)))) hna0 hqa0 hla0 hna1 hqa1 hla1 hna2 hqa2 hla2 h2) (fun l h3 => ?_)
  obtain ⟨h4, h5⟩ := h3
  refine k3 (S' := [_]) (vs' := [_]) [0] [0] 0 Y Y Y Y (jp Y Y (qs (Jp [_, _, _, _, _] 0 isAgg33 sizeOf33 Y Y Y Y ?_)))
  obtain ⟨t16, h6, hm⟩ := bindO hm
  refine jd [] [] Y Y Y Y Y Y Y call91 (fun w hh => YW c0 qa0 na0 ca0 qa1 na1 ca1 qa2 na2 ca2 w (HV.callee (S0 := []) (vs0 := []) hh (roR hh 0 Y (roR hh 1 Y (roR hh 2 Y roN)))) hna0 hqa0 hla0 hna1 hqa1 hla1 hna2 hqa2 hla2 h6) (fun l_1 h7 => ?_)
  obtain ⟨h8, h9⟩ := h7
  refine k3 (S' := [_]) (vs' := [_, _]) [0] [0, 1] 0 Y Y Y Y (jp Y Y (qs (jk Y Y (jc Y Y Y (fun w _ => Jh (Eq.trans (h5).len (vlen RwH h4 Y)) (runUnderlying41 w) Y) ?_))))
  obtain ⟨t19, h10, hm⟩ := bindO hm
  refine Qx RI 0 h10 underlying22 QH Y Y Y Y Y (fun L h11 => ?_)
  refine jp Y Y (jq (jh (jt (jp Y Y (jq ?_)))))
  obtain ⟨o, h12, h13⟩ := bindO hm
  refine jI (ι := VL) (fun l_2 => VOK 1 l_2.n l_2.cap (RI.enc o) l_2.sp l_2.q) (fun l_2 => [(5, sL l_2)]) (fun l_2 => [kc b #[.int .i64 c0.cells, .int .i64 c0.tides, .slice qa0 na0 ca0, .slice qa1 na1 ca1, .slice qa2 na2 ca2] 33]) (fun l_2 => [vL 3 l_2 (RI.enc o)]) ?_ ?_
  ·replace hm := h12
   refine jm ?_
   refine jM (ι := VL) hm (fun s l_3 => VOK 1 l_3.n l_3.cap (RI.enc s.few5) l_3.sp l_3.q) (fun s l_3 => [(1, ptr b 0), (3, sL l.v), (4, sL l_1.v), (5, sL l_3), (6, .int .i64 s.k6)]) (fun s l_3 => [kc b #[.int .i64 c0.cells, .int .i64 c0.tides, .slice qa0 na0 ca0, .slice qa1 na1 ca1, .slice qa2 na2 ca2] 33]) (fun s l_3 => [⟨22, RwH.enc l.rs, l.v.sp, l.v.q, dbl 3 RI t14 l.rs⟩, ⟨114, RwH.enc l_1.rs, l_1.v.sp, l_1.v.q, dbl 4 RB t16 l_1.rs⟩, vL 3 l_3 (RI.enc s.few5)]) L (h11) (sE Y) (hsE [0] [2, 1, 0] 0 Y Y Y Y) (fun s l_3 r hpl hm h16 => ?_)
   have h15 := hpl
   unfold qF at hm
   refine jh (jt (jk Y Y (qT 1 runUnderlying33 Y sizeOf3 Y Y (qq 0 isAgg3 Y Y Y Y (jc Y Y Y (fun _ _ => Zo Y Y) (jq ?_))))))
   refine jr Y (fun h17 => ?_) (fun h17 => ?_)
   ·replace hm := ifD h17 hm
    refine js (ja (jh (jm (jt (jk Y Y (jc Y Y Y (fun w _ => Jh (Eq.trans (h5).len (vlen RwH h4 Y)) (runUnderlying41 w) Y) ?_))))))
    obtain ⟨t28, h18, hm⟩ := bindO hm
    refine Qx RI 0 h18 underlying22 QH Y Y Y Y Y (fun L_1 h19 => ?_)
    refine jp Y Y (jq (jh (jt (jp Y Y (jq ?_)))))
    obtain ⟨o_1, h20, h21⟩ := bindO hm
    refine jI (ι := Unit) (fun l_4 => VOK 1 L_1.n L_1.cap (RI.enc o_1) L_1.sp L_1.q) (fun l_4 => [(1, ptr b 0), (3, sL l.v), (4, sL l_1.v), (6, .int .i64 s.k6), (7, sL L_1)]) (fun l_4 => [kc b #[.int .i64 c0.cells, .int .i64 c0.tides, .slice qa0 na0 ca0, .slice qa1 na1 ca1, .slice qa2 na2 ca2] 33]) (fun l_4 => [⟨22, RwH.enc l.rs, l.v.sp, l.v.q, dbl 3 RI t14 l.rs⟩, ⟨114, RwH.enc l_1.rs, l_1.v.sp, l_1.v.q, dbl 4 RB t16 l_1.rs⟩, vL 3 L_1 (RI.enc o_1)]) ?_ ?_
    ·replace hm := h20
     refine jm ?_
     refine jM (ι := Unit) hm (fun s_1 l_5 => VOK 1 L_1.n L_1.cap (RI.enc s_1.t28) L_1.sp L_1.q) (fun s_1 l_5 => [(1, ptr b 0), (3, sL l.v), (4, sL l_1.v), (5, sL l_3), (6, .int .i64 s.k6), (7, sL L_1), (8, .int .i64 s_1.b8)]) (fun s_1 l_5 => [kc b #[.int .i64 c0.cells, .int .i64 c0.tides, .slice qa0 na0 ca0, .slice qa1 na1 ca1, .slice qa2 na2 ca2] 33]) (fun s_1 l_5 => [⟨22, RwH.enc l.rs, l.v.sp, l.v.q, dbl 3 RI t14 l.rs⟩, ⟨114, RwH.enc l_1.rs, l_1.v.sp, l_1.v.q, dbl 4 RB t16 l_1.rs⟩, vL 3 l_3 (RI.enc s.few5), vL 3 L_1 (RI.enc s_1.t28)]) () (h19) (sE Y) (hsE [0] [1, 2, 3, 0] 0 Y Y Y Y) (fun s_1 l_5 r_1 hpl hm h24 => ?_)
     have h23 := hpl
     unfold qC at hm
     refine jh (jt (jk Y Y (jk Y Y (jc Y Y Y (fun w _ => Jh (Eq.trans (h5).len (vlen RwH h4 Y)) (runUnderlying41 w) Y) (Jo Y Y Y (jq ?_))))))
     refine jr Y (fun h25 => ?_) (fun h25 => ?_)
     ·replace hm := ifD h25 hm
      refine js (ja (jh ?_))
      obtain ⟨o_2, h26, h27⟩ := bindO hm
      refine jI (ι := Unit) (fun l_6 => VOK 1 L_1.n L_1.cap (RI.enc o_2) L_1.sp L_1.q) (fun l_6 => [(1, ptr b 0), (3, sL l.v), (4, sL l_1.v), (5, sL l_3), (6, .int .i64 s.k6), (7, sL L_1), (8, .int .i64 s_1.b8)]) (fun l_6 => [kc b #[.int .i64 c0.cells, .int .i64 c0.tides, .slice qa0 na0 ca0, .slice qa1 na1 ca1, .slice qa2 na2 ca2] 33]) (fun l_6 => [⟨22, RwH.enc l.rs, l.v.sp, l.v.q, dbl 3 RI t14 l.rs⟩, ⟨114, RwH.enc l_1.rs, l_1.v.sp, l_1.v.q, dbl 4 RB t16 l_1.rs⟩, vL 3 l_3 (RI.enc s.few5), vL 3 L_1 (RI.enc o_2)]) ?_ ?_
      ·replace hm := h26
       refine jm (jt (jk Y Y (jk Y Y ?_)))
       obtain ⟨t37, h29, hm⟩ := bindO hm
       refine jc Y Y Y (fun w _ => qM h29 (runUnderlying22 w) (sizeOf3 w) Y Y (vlen RI h23 Y) (vne h23)) ?_
       obtain ⟨t28_1, ht28_1, hm⟩ := bindO hm
       refine Zg RI 3 0 (-1) (fun w => sizeOf3 w) Y Y Y Y h23 Y (Nat.add_zero _).symm Y h29 Y Y (Option.some.inj ht28_1) (fun h30 => ?_)
       refine k3 (S' := [_]) (vs' := [_, _, _, _]) [0] [0, 1, 2, 3] 0 Y Y Y Y (jq (jh (jt (jk Y Y (jk Y Y ?_)))))
       obtain ⟨t40, h31, hm⟩ := bindO hm
       obtain ⟨L_2, h32, h33⟩ := (h9).row h31
       refine jc Y Y Y (fun w _ => qM h32 (runUnderlying143 w) (sizeOf114 w) Y Y (vlen RwH h8 Y) (vne h8)) (jc Y Y Y (fun w hh => ka RwH 0 h32 (isAgg114 w) Y (hh.vseg 1 Y h8) Y (Nat.add_zero _).symm) (jk Y Y ?_))
       obtain ⟨t43, h34, hm⟩ := bindO hm
       refine jc Y Y Y (fun w _ => qM h34 (runUnderlying114 w) (sizeOf4 w) Y Y (vlen RB h33 Y) (vne h33)) (jc Y Y Y (fun w hh => ka RB 0 h34 (isAgg4 w) Y (hh.dseg 1 Y h31 h32 h33) Y (Nat.add_zero _).symm) (jc Y Y Y (fun _ _ => ze Y) (jq ?_)))
       refine jr Y (fun h35 => ?_) (fun h35 => ?_)
       ·replace hm := ifT (h35) hm
        refine jS (ji (jD ?_))
        obtain rfl := sj hm
        exact jj () (h30) (sE Y) (fun w hh => hh)
       replace hm := ifN h35 hm
       refine js (ja (jh ?_))
       obtain ⟨o_3, h36, h37⟩ := bindO hm
       refine jI (ι := Unit) (fun l_7 => VOK 1 L_1.n L_1.cap (RI.enc o_3) L_1.sp L_1.q) (fun l_7 => [(1, ptr b 0), (3, sL l.v), (4, sL l_1.v), (5, sL l_3), (6, .int .i64 s.k6), (7, sL L_1), (8, .int .i64 s_1.b8)]) (fun l_7 => [kc b #[.int .i64 c0.cells, .int .i64 c0.tides, .slice qa0 na0 ca0, .slice qa1 na1 ca1, .slice qa2 na2 ca2] 33]) (fun l_7 => [⟨22, RwH.enc l.rs, l.v.sp, l.v.q, dbl 3 RI t14 l.rs⟩, ⟨114, RwH.enc l_1.rs, l_1.v.sp, l_1.v.q, dbl 4 RB t16 l_1.rs⟩, vL 3 l_3 (RI.enc s.few5), vL 3 L_1 (RI.enc o_3)]) ?_ ?_
       ·replace hm := h36
        refine jt (jk Y Y (jc Y Y Y (fun _ _ => Ju Y Y) (jq ?_)))
        refine jr Y (fun h39 => ?_) (fun h39 => ?_)
        ·replace hm := ifD h39 hm
         refine jg (jk Y Y (jk Y Y ?_))
         obtain ⟨t50, h40, hm⟩ := bindO hm
         refine jc Y Y Y (fun w _ => qM h40 (runUnderlying22 w) (sizeOf3 w) Y Y (vlen RI h30 Y) (vne h30)) ?_
         obtain ⟨t28_2, ht28_2, hm⟩ := bindO hm
         refine Zg RI 3 0 0 (fun w => sizeOf3 w) Y Y Y Y h30 Y (Nat.add_zero _).symm Y h40 Y Y (Option.some.inj ht28_2) (fun h41 => ?_)
         refine k3 (S' := [_]) (vs' := [_, _, _, _]) [0] [0, 1, 2, 3] 0 Y Y Y Y (ju ?_)
         obtain rfl := sj hm
         exact jj () (h41) (sE Y) (fun w hh => hh)
        replace hm := ifE h39 hm
        refine js ?_
        obtain rfl := sj hm
        exact jj () (h30) (sE Y) (fun w hh => hh)
       intro l_7 hj
       have h38 := hj
       replace hm := h37
       refine ja (jt (jp Y Y (jq ?_)))
       obtain ⟨o_4, h42, h43⟩ := bindO hm
       refine jI (ι := Unit) (fun l_8 => VOK 1 L_1.n L_1.cap (RI.enc o_4) L_1.sp L_1.q) (fun l_8 => [(1, ptr b 0), (3, sL l.v), (4, sL l_1.v), (5, sL l_3), (6, .int .i64 s.k6), (7, sL L_1), (8, .int .i64 s_1.b8)]) (fun l_8 => [kc b #[.int .i64 c0.cells, .int .i64 c0.tides, .slice qa0 na0 ca0, .slice qa1 na1 ca1, .slice qa2 na2 ca2] 33]) (fun l_8 => [⟨22, RwH.enc l.rs, l.v.sp, l.v.q, dbl 3 RI t14 l.rs⟩, ⟨114, RwH.enc l_1.rs, l_1.v.sp, l_1.v.q, dbl 4 RB t16 l_1.rs⟩, vL 3 l_3 (RI.enc s.few5), vL 3 L_1 (RI.enc o_4)]) ?_ ?_
       ·replace hm := h42
        refine jm ?_
        refine jM (ι := Unit) hm (fun s_2 l_9 => VOK 1 L_1.n L_1.cap (RI.enc s_2.t28) L_1.sp L_1.q) (fun s_2 l_9 => [(1, ptr b 0), (3, sL l.v), (4, sL l_1.v), (5, sL l_3), (6, .int .i64 s.k6), (7, sL L_1), (8, .int .i64 s_1.b8), (9, .int .i64 s_2.a9)]) (fun s_2 l_9 => [kc b #[.int .i64 c0.cells, .int .i64 c0.tides, .slice qa0 na0 ca0, .slice qa1 na1 ca1, .slice qa2 na2 ca2] 33]) (fun s_2 l_9 => [⟨22, RwH.enc l.rs, l.v.sp, l.v.q, dbl 3 RI t14 l.rs⟩, ⟨114, RwH.enc l_1.rs, l_1.v.sp, l_1.v.q, dbl 4 RB t16 l_1.rs⟩, vL 3 l_3 (RI.enc s.few5), vL 3 L_1 (RI.enc s_2.t28)]) () (h38) (sE Y) (fun w hh => hh) (fun s_2 l_9 r_2 hpl hm h46 => ?_)
        have h45 := hpl
        unfold kp at hm
        refine jh (jh ?_)
        obtain ⟨o_5, h47, h48⟩ := bindO hm
        refine jI (ι := Unit) (fun l_10 => True) (fun l_10 => [(1, ptr b 0), (3, sL l.v), (4, sL l_1.v), (5, sL l_3), (6, .int .i64 s.k6), (7, sL L_1), (8, .int .i64 s_1.b8), (9, .int .i64 s_2.a9), (58, .bool o_5)]) (fun l_10 => [kc b #[.int .i64 c0.cells, .int .i64 c0.tides, .slice qa0 na0 ca0, .slice qa1 na1 ca1, .slice qa2 na2 ca2] 33]) (fun l_10 => [⟨22, RwH.enc l.rs, l.v.sp, l.v.q, dbl 3 RI t14 l.rs⟩, ⟨114, RwH.enc l_1.rs, l_1.v.sp, l_1.v.q, dbl 4 RB t16 l_1.rs⟩, vL 3 l_3 (RI.enc s.few5), vL 3 L_1 (RI.enc s_2.t28)]) ?_ ?_
        ·replace hm := h47
         refine jg (jk Y Y (jk Y Y (jc Y Y Y (fun w _ => Jh (Eq.trans (h5).len (vlen RwH h4 Y)) (runUnderlying41 w) Y) (Jo Y Y Y (jk Y Y ?_)))))
         refine jQ 55 Y (fun h49 => ?_) (fun h49 => ?_)
         ·replace hm := ifD h49 hm
          refine jb Y Y (jk Y Y (jb Y Y (jc Y Y Y (fun _ _ => Qz Y Y) (yx Y Y Y (ju ?_)))))
          obtain rfl := sj hm
          exact jj () (trivial) (sE Y) (fun w hh => hh)
         replace hm := ifE h49 hm
         refine g_k Y Y Y Y (g_k Y Y Y Y (y4 Y Y Y (ju ?_)))
         obtain rfl := sj hm
         exact jj () (trivial) (sE Y) (fun w hh => hh)
        intro l_10 hj
        replace hm := h48
        refine ja ?_
        refine jr Y (fun h50 => ?_) (fun h50 => ?_)
        ·replace hm := ifT (h50) hm
         refine js (ja (jh ?_))
         obtain ⟨o_6, h51, h52⟩ := bindO hm
         refine jI (ι := Unit) (fun l_11 => VOK 1 L_1.n L_1.cap (RI.enc o_6) L_1.sp L_1.q) (fun l_11 => [(1, ptr b 0), (3, sL l.v), (4, sL l_1.v), (5, sL l_3), (6, .int .i64 s.k6), (7, sL L_1), (8, .int .i64 s_1.b8), (9, .int .i64 s_2.a9)]) (fun l_11 => [kc b #[.int .i64 c0.cells, .int .i64 c0.tides, .slice qa0 na0 ca0, .slice qa1 na1 ca1, .slice qa2 na2 ca2] 33]) (fun l_11 => [⟨22, RwH.enc l.rs, l.v.sp, l.v.q, dbl 3 RI t14 l.rs⟩, ⟨114, RwH.enc l_1.rs, l_1.v.sp, l_1.v.q, dbl 4 RB t16 l_1.rs⟩, vL 3 l_3 (RI.enc s.few5), vL 3 L_1 (RI.enc o_6)]) ?_ ?_
         ·replace hm := h51
          refine jm (jh (jh ?_))
          obtain ⟨o_7, h54, h55⟩ := bindO hm
          refine jI (ι := Unit) (fun l_12 => True) (fun l_12 => [(1, ptr b 0), (3, sL l.v), (4, sL l_1.v), (5, sL l_3), (6, .int .i64 s.k6), (7, sL L_1), (8, .int .i64 s_1.b8), (9, .int .i64 s_2.a9), (78, .bool o_7)]) (fun l_12 => [kc b #[.int .i64 c0.cells, .int .i64 c0.tides, .slice qa0 na0 ca0, .slice qa1 na1 ca1, .slice qa2 na2 ca2] 33]) (fun l_12 => [⟨22, RwH.enc l.rs, l.v.sp, l.v.q, dbl 3 RI t14 l.rs⟩, ⟨114, RwH.enc l_1.rs, l_1.v.sp, l_1.v.q, dbl 4 RB t16 l_1.rs⟩, vL 3 l_3 (RI.enc s.few5), vL 3 L_1 (RI.enc s_2.t28)]) ?_ ?_
          ·replace hm := h54
           refine j5 none (.free 0 (.free 1 (.free 2 (.hoist 3 (.free 4 (.free 5 (.hoist 6 (.free 7 (.free 8 (.free 9 (.hoist 10 (.free 11 (.free 12 (.free 13 (.hoist 14 (.one 15 (.free 16 (.free 17 .done)))))))))))))))))) _ Y (by decide +kernel) (fun w k hh => hh.draw k) (fun w hh => hh) ?_
           refine k9 Y Y Y (k9 Y Y Y ?_)
           obtain ⟨t63, h56, hm⟩ := bindO hm
           refine jl Y Y Y Y (fun w _ => qM h56 (runUnderlying22 w) (sizeOf3 w) Y Y (vlen RI h15 Y) (vne h15)) (jw Y Y Y Y (fun w hh => ka RI 0 h56 (isAgg3 w) Y (hh.vseg 2 Y h15) Y (Nat.add_zero _).symm) (jl Y Y Y Y (fun _ _ => jav Y Y) (k9 Y Y Y ?_)))
           refine jQ 66 Y (fun h57 => ?_) (fun h57 => ?_)
           ·replace hm := ifD h57 hm
            refine qi Y Y Y Y Y Y Y (jv Y Y Y Y Y Y Y (jv Y Y Y Y Y Y Y (jv Y Y Y Y Y Y Y (qi Y Y Y Y Y Y Y (jv Y Y Y Y Y Y Y (jv Y Y Y Y Y Y Y (jv Y Y Y Y Y Y Y ?_)))))))
            refine qi Y Y Y Y Y Y Y (jF Y (g_k Y Y Y Y (jo (fun w hh => hh) (jv Y Y Y Y Y Y Y (jl Y Y Y Y (fun _ _ => zD Y Y) (jG ?_))))))
            obtain rfl := sj hm
            exact jj () (trivial) (sE Y) (fun w hh => hh)
           replace hm := ifE h57 hm
           refine jZ Y Y Y Y Y Y (fun w hh => jH (vs := [_, _, _, _, _]) (isAgg33 w) (sizeOf33 w) Y (hh.cells 0 Y Y)) (jy Y Y Y Y Y Y (fun _ _ => jN Y) (jy Y Y Y Y Y Y (fun _ _ => jN Y) ?_))
           obtain ⟨t70, h58, hm⟩ := bindO hm
           obtain ⟨L_3, h59, h60⟩ := (h5).row h58
           refine jy Y Y Y Y Y Y (fun w _ => qM h59 (runUnderlying41 w) (sizeOf22 w) Y Y (vlen RwH h4 Y) (vne h4)) (jZ Y Y Y Y Y Y (fun w hh => ka RwH 0 h59 (isAgg22 w) Y (hh.vseg 0 Y h4) Y (Nat.add_zero _).symm) (jy Y Y Y Y Y Y (fun _ _ => jN Y) (jy Y Y Y Y Y Y (fun _ _ => jN Y) ?_)))
           obtain ⟨t74, h61, hm⟩ := bindO hm
           obtain ⟨L_4, h62, h63⟩ := (h5).row h61
           refine jy Y Y Y Y Y Y (fun w _ => qM h62 (runUnderlying41 w) (sizeOf22 w) Y Y (vlen RwH h4 Y) (vne h4)) (jZ Y Y Y Y Y Y (fun w hh => ka RwH 0 h62 (isAgg22 w) Y (hh.vseg 0 Y h4) Y (Nat.add_zero _).symm) (jF Y (jb Y Y ?_)))
           obtain ⟨t76, h64, hm⟩ := bindO hm
           refine jd [] [] Y Y Y Y Y Y Y call92 (fun w hh => JL c0 t70 t74 qa0 na0 ca0 qa1 na1 ca1 qa2 na2 ca2 (qA L_3.q) L_3.n L_3.cap (qA L_4.q) L_4.n L_4.cap w (HV.callee (S0 := []) (vs0 := []) hh (roR hh 0 Y (roR hh 1 Y (roR hh 2 Y (roC (hh.dsepA (S0 := []) (vs0 := []) 0 Y h58 h59 h60) (roC (hh.dsepA (S0 := []) (vs0 := []) 0 Y h61 h62 h63) roN)))))) hna0 hqa0 hla0 hna1 hqa1 hla1 hna2 hqa2 hla2 (vlen RI h60 Y) (AOK.q (vne h60)) (h60).hle (vlen RI h63 Y) (AOK.q (vne h63)) (h63).hle h64) (fun l_13 h65 => ?_)
           refine jo (fun w hh => hh) (jy Y Y Y Y Y Y (fun _ _ => ze Y) (jl Y Y Y Y (fun _ _ => q5 Y Y) (jG ?_)))
           obtain rfl := sj hm
           exact jj () (trivial) (sE Y) (fun w hh => hh)
          intro l_12 hj
          replace hm := h55
          refine ja ?_
          refine jr Y (fun h66 => ?_) (fun h66 => ?_)
          ·replace hm := ifT (h66) hm
           refine jS (ji (jD ?_))
           obtain rfl := sj hm
           exact jj () (h45) (sE Y) (fun w hh => hh)
          replace hm := ifN h66 hm
          refine js (ja (jh ?_))
          refine j5 none (.free 0 (.free 1 (.free 2 (.hoist 3 (.free 4 (.free 5 (.free 6 (.hoist 7 (.free 8 (.free 9 (.free 10 (.hoist 11 (.one 12 (.free 13 (.free 14 .done))))))))))))))) _ Y (by decide +kernel) (fun w k hh => hh.draw k) (fun w hh => hh) ?_
          refine k9 Y Y Y (k9 Y Y Y ?_)
          obtain ⟨t81, h67, hm⟩ := bindO hm
          refine jl Y Y Y Y (fun w _ => qM h67 (runUnderlying22 w) (sizeOf3 w) Y Y (vlen RI h15 Y) (vne h15)) (jw Y Y Y Y (fun w hh => ka RI 0 h67 (isAgg3 w) Y (hh.vseg 2 Y h15) Y (Nat.add_zero _).symm) (k9 Y Y Y (k9 Y Y Y ?_)))
          obtain ⟨t85, h68, hm⟩ := bindO hm
          obtain ⟨L_5, h69, h70⟩ := (h5).row h68
          refine jl Y Y Y Y (fun w _ => qM h69 (runUnderlying41 w) (sizeOf22 w) Y Y (vlen RwH h4 Y) (vne h4)) (jw Y Y Y Y (fun w hh => ka RwH 0 h69 (isAgg22 w) Y (hh.vseg 0 Y h4) Y (Nat.add_zero _).symm) (k9 Y Y Y (k9 Y Y Y ?_)))
          obtain ⟨t89, h71, hm⟩ := bindO hm
          obtain ⟨L_6, h72, h73⟩ := (h5).row h71
          refine jl Y Y Y Y (fun w _ => qM h72 (runUnderlying41 w) (sizeOf22 w) Y Y (vlen RwH h4 Y) (vne h4)) (jw Y Y Y Y (fun w hh => ka RwH 0 h72 (isAgg22 w) Y (hh.vseg 0 Y h4) Y (Nat.add_zero _).symm) (jF Y ?_))
          obtain ⟨t91, h74, hm⟩ := bindO hm
          refine jd [] [] Y Y Y Y Y Y Y call30 (fun w hh => K6 t85 t89 (qA L_5.q) L_5.n L_5.cap (qA L_6.q) L_6.n L_6.cap w (HV.callee (S0 := []) (vs0 := []) hh (roC (hh.dsepA (S0 := []) (vs0 := []) 0 Y h68 h69 h70) (roC (hh.dsepA (S0 := []) (vs0 := []) 0 Y h71 h72 h73) roN))) (vlen RI h70 Y) (AOK.q (vne h70)) (h70).hle (vlen RI h73 Y) (AOK.q (vne h73)) (h73).hle h74) (fun l_14 h75 => ?_)
          refine jo (fun w hh => hh) ?_
          obtain ⟨t92, h76, hm⟩ := bindO hm
          refine jl Y Y Y Y (fun _ _ => Kh h76 Y Y) (jl Y Y Y Y (fun _ _ => kx Y) (jG (ja (jh ?_))))
          obtain ⟨o_8, h77, h78⟩ := bindO hm
          refine jI (ι := Unit) (fun l_15 => True) (fun l_15 => [(1, ptr b 0), (3, sL l.v), (4, sL l_1.v), (5, sL l_3), (6, .int .i64 s.k6), (7, sL L_1), (8, .int .i64 s_1.b8), (9, .int .i64 s_2.a9), (10, .int .i64 t92), (105, .bool o_8)]) (fun l_15 => [kc b #[.int .i64 c0.cells, .int .i64 c0.tides, .slice qa0 na0 ca0, .slice qa1 na1 ca1, .slice qa2 na2 ca2] 33]) (fun l_15 => [⟨22, RwH.enc l.rs, l.v.sp, l.v.q, dbl 3 RI t14 l.rs⟩, ⟨114, RwH.enc l_1.rs, l_1.v.sp, l_1.v.q, dbl 4 RB t16 l_1.rs⟩, vL 3 l_3 (RI.enc s.few5), vL 3 L_1 (RI.enc s_2.t28)]) ?_ ?_
          ·replace hm := h77
           refine jg (jk Y Y (jk Y Y ?_))
           obtain ⟨t95, h79, hm⟩ := bindO hm
           refine jc Y Y Y (fun w _ => qM h79 (runUnderlying22 w) (sizeOf3 w) Y Y (vlen RI h45 Y) (vne h45)) (jc Y Y Y (fun w hh => ka RI 0 h79 (isAgg3 w) Y (hh.vseg 3 Y h45) Y (Nat.add_zero _).symm) (Jo Y Y Y (jk Y Y ?_)))
           refine jQ 98 Y (fun h80 => ?_) (fun h80 => ?_)
           ·replace hm := ifD h80 hm
            refine g_k Y Y Y Y (g_k Y Y Y Y (g_k Y Y Y Y (g_k Y Y Y Y (g_k Y Y Y Y (g_k Y Y Y Y (yx Y Y Y (ju ?_)))))))
            obtain rfl := sj hm
            exact jj () (trivial) (sE Y) (fun w hh => hh)
           replace hm := ifE h80 hm
           refine jb Y Y (jk Y Y (jb Y Y (jk Y Y (jb Y Y (jk Y Y (jb Y Y ?_))))))
           obtain ⟨t102, h81, hm⟩ := bindO hm
           refine jc Y Y Y (fun w _ => qM h81 (runUnderlying22 w) (sizeOf3 w) Y Y (vlen RI h45 Y) (vne h45)) (jb Y Y (jc Y Y Y (fun w hh => ka RI 0 h81 (isAgg3 w) Y (hh.vseg 3 Y h45) Y (Nat.add_zero _).symm) (jb Y Y (Jo Y Y Y (y4 Y Y Y (ju ?_))))))
           obtain rfl := sj hm
           exact jj () (trivial) (sE Y) (fun w hh => hh)
          intro l_15 hj
          replace hm := h78
          refine ja ?_
          refine jr Y (fun h82 => ?_) (fun h82 => ?_)
          ·replace hm := ifT (h82) hm
           refine jg (jk Y Y (jk Y Y (jk Y Y ?_)))
           obtain ⟨t109, h83, hm⟩ := bindO hm
           refine jc Y Y Y (fun w _ => qM h83 (runUnderlying22 w) (sizeOf3 w) Y Y (vlen RI h45 Y) (vne h45)) ?_
           obtain ⟨t28_3, ht28_3, hm⟩ := bindO hm
           refine Zg RI 3 0 t92 (fun w => sizeOf3 w) Y Y Y Y h45 Y (Nat.add_zero _).symm Y h83 Y Y (Option.some.inj ht28_3) (fun h84 => ?_)
           refine k3 (S' := [_]) (vs' := [_, _, _, _]) [0] [0, 1, 2, 3] 0 Y Y Y Y (ju (jx ?_))
           obtain rfl := sj hm
           exact jj () (h84) (sE Y) (fun w hh => hh)
          replace hm := ifN h82 hm
          refine js (jx ?_)
          obtain rfl := sj hm
          exact jj () (h45) (sE Y) (fun w hh => hh)
         intro l_11 hj
         have h53 := hj
         replace hm := h52
         refine ja (jg (jk Y Y ?_))
         obtain ⟨t60, h85, hm⟩ := bindO hm
         refine JG h85 Y Y Y (jp Y Y (ju ?_))
         obtain rfl := sj hm
         refine ja ?_
         exact jC _ () Y (h53) (sE Y) (fun w hh => hh)
        replace hm := ifN h50 hm
        refine jS (ji (ji (jD ?_)))
        obtain rfl := sj hm
        have hbo := h46 _ Y
        subst hbo
        exact jj () (h45) (sE Y) (fun w hh => hh)
       intro l_8 hj
       have h44 := hj
       replace hm := h43
       refine jx ?_
       obtain rfl := sj hm
       exact jj () (h44) (sE Y) (fun w hh => hh)
      intro l_6 hj
      have h28 := hj
      replace hm := h27
      refine ja (jg (jk Y Y ?_))
      obtain ⟨t34, h86, hm⟩ := bindO hm
      refine JG h86 Y Y Y (jp Y Y (ju ?_))
      obtain rfl := sj hm
      refine ja ?_
      exact jC _ () Y (h28) (sE Y) (fun w hh => hh)
     replace hm := ifE h25 hm
     refine jS (ji (ji (jD ?_)))
     obtain rfl := sj hm
     have hbo := h24 _ Y
     subst hbo
     exact jj () (h23) (sE Y) (hsE [0] [0, 1, 3] 0 Y Y Y Y)
    intro l_4 hj
    have h22 := hj
    replace hm := h21
    refine ja (jg (jk Y Y (jp Y Y (ju (jx (ja (jg ?_)))))))
    refine jk Y Y ?_
    obtain ⟨t25, h87, hm⟩ := bindO hm
    refine JG h87 Y Y Y (jp Y Y (ju ?_))
    obtain rfl := sj hm
    refine ja ?_
    exact jC _ L_1 Y (h22) (sE Y) (fun w hh => hh)
   replace hm := ifE h17 hm
   refine jS (ji (ji (jD ?_)))
   obtain rfl := sj hm
   have hbo := h16 _ Y
   subst hbo
   exact jj l_3 (h15) (sE Y) (hsE [0] [2] 0 Y Y Y Y)
  intro l_2 hj
  have h14 := hj
  replace hm := h13
  refine ja (jt (jp Y Y (jq (jh (jt (jp Y Y (jq ?_)))))))
  obtain ⟨o_9, h88, h89⟩ := bindO hm
  refine jI (ι := Unit) (fun l_16 => True) (fun l_16 => [(11, .int .i64 o_9)]) (fun l_16 => [kc b #[.int .i64 c0.cells, .int .i64 c0.tides, .slice qa0 na0 ca0, .slice qa1 na1 ca1, .slice qa2 na2 ca2] 33]) (fun l_16 => []) ?_ ?_
  ·replace hm := h88
   refine jm ?_
   refine jM (ι := Unit) hm (fun s_3 l_17 => True) (fun s_3 l_17 => [(5, sL l_2), (11, .int .i64 s_3.best11), (12, .int .i64 s_3.a12)]) (fun s_3 l_17 => [kc b #[.int .i64 c0.cells, .int .i64 c0.tides, .slice qa0 na0 ca0, .slice qa1 na1 ca1, .slice qa2 na2 ca2] 33]) (fun s_3 l_17 => [vL 3 l_2 (RI.enc o)]) () (trivial) (sE Y) (fun w hh => hh) (fun s_3 l_17 r_3 hpl hm h90 => ?_)
   unfold qJ at hm
   refine jh (jt (jk Y Y (jk Y Y (jc Y Y Y (fun w _ => Jh (vlen RI h14 Y) (runUnderlying22 w) Y) (Jo Y Y Y (jq ?_))))))
   refine jr Y (fun h91 => ?_) (fun h91 => ?_)
   ·replace hm := ifD h91 hm
    refine js (ja (jh ?_))
    obtain ⟨o_10, h92, h93⟩ := bindO hm
    refine jI (ι := Unit) (fun l_18 => True) (fun l_18 => [(5, sL l_2), (11, .int .i64 o_10), (12, .int .i64 s_3.a12)]) (fun l_18 => [kc b #[.int .i64 c0.cells, .int .i64 c0.tides, .slice qa0 na0 ca0, .slice qa1 na1 ca1, .slice qa2 na2 ca2] 33]) (fun l_18 => [vL 3 l_2 (RI.enc o)]) ?_ ?_
    ·replace hm := h92
     refine jm (jh ?_)
     obtain ⟨o_11, h94, h95⟩ := bindO hm
     refine jI (ι := Unit) (fun l_19 => True) (fun l_19 => [(5, sL l_2), (11, .int .i64 s_3.best11), (12, .int .i64 s_3.a12), (133, .bool o_11)]) (fun l_19 => [kc b #[.int .i64 c0.cells, .int .i64 c0.tides, .slice qa0 na0 ca0, .slice qa1 na1 ca1, .slice qa2 na2 ca2] 33]) (fun l_19 => [vL 3 l_2 (RI.enc o)]) ?_ ?_
     ·replace hm := h94
      refine jg (jk Y Y (jk Y Y ?_))
      obtain ⟨t119, h96, hm⟩ := bindO hm
      refine jc Y Y Y (fun w _ => qM h96 (runUnderlying22 w) (sizeOf3 w) Y Y (vlen RI h14 Y) (vne h14)) (jc Y Y Y (fun w hh => ka RI 0 h96 (isAgg3 w) Y (hh.vseg 0 Y h14) Y (Nat.add_zero _).symm) (jc Y Y Y (fun _ _ => YI Y Y) (jk Y Y ?_)))
      refine jQ 122 Y (fun h97 => ?_) (fun h97 => ?_)
      ·replace hm := ifD h97 hm
       refine jb Y Y (jk Y Y (jb Y Y (Jo Y Y Y (jb Y Y (jk Y Y ?_)))))
       refine jQ 125 Y (fun h98 => ?_) (fun h98 => ?_)
       ·replace hm := ifD h98 hm
        refine g_k Y Y Y Y (g_k Y Y Y Y (g_k Y Y Y Y (g_k Y Y Y Y (g_k Y Y Y Y (g_k Y Y Y Y (jb Y Y (yx Y Y Y ?_)))))))
        refine yx Y Y Y (ju ?_)
        obtain rfl := sj hm
        exact jj () (trivial) (sE Y) (fun w hh => hh)
       replace hm := ifE h98 hm
       refine jb Y Y (jk Y Y (jb Y Y (jk Y Y (jb Y Y ?_))))
       obtain ⟨t128, h99, hm⟩ := bindO hm
       refine jc Y Y Y (fun w _ => qM h99 (runUnderlying22 w) (sizeOf3 w) Y Y (vlen RI h14 Y) (vne h14)) (jb Y Y (jc Y Y Y (fun w hh => ka RI 0 h99 (isAgg3 w) Y (hh.vseg 0 Y h14) Y (Nat.add_zero _).symm) (jb Y Y (jk Y Y (jb Y Y (Jo Y Y Y (jb Y Y ?_)))))))
       refine y4 Y Y Y (yx Y Y Y (ju ?_))
       obtain rfl := sj hm
       exact jj () (trivial) (sE Y) (fun w hh => hh)
      replace hm := ifE h97 hm
      refine g_k Y Y Y Y (g_k Y Y Y Y (g_k Y Y Y Y ?_))
      refine jU Y Y Y Y Y ?_
      refine jU Y Y Y Y Y ?_
      refine jU Y Y Y Y Y ?_
      refine jU Y Y Y Y Y ?_
      refine jU Y Y Y Y Y ?_
      refine jU Y Y Y Y Y ?_
      refine g_k Y Y Y Y (y4 Y Y Y (ju ?_))
      obtain rfl := sj hm
      exact jj () (trivial) (sE Y) (fun w hh => hh)
     intro l_19 hj
     replace hm := h95
     refine ja ?_
     refine jr Y (fun h100 => ?_) (fun h100 => ?_)
     ·replace hm := ifT (h100) hm
      refine jg (jk Y Y (jk Y Y ?_))
      obtain ⟨t136, h101, hm⟩ := bindO hm
      refine jc Y Y Y (fun w _ => qM h101 (runUnderlying22 w) (sizeOf3 w) Y Y (vlen RI h14 Y) (vne h14)) (jc Y Y Y (fun w hh => ka RI 0 h101 (isAgg3 w) Y (hh.vseg 0 Y h14) Y (Nat.add_zero _).symm) (jp Y Y (ju (jx ?_))))
      obtain rfl := sj hm
      exact jj () (trivial) (sE Y) (fun w hh => hh)
     replace hm := ifN h100 hm
     refine js (jx ?_)
     obtain rfl := sj hm
     exact jj () (trivial) (sE Y) (fun w hh => hh)
    intro l_18 hj
    replace hm := h93
    refine ja (jg (jk Y Y ?_))
    obtain ⟨t116, h102, hm⟩ := bindO hm
    refine JG h102 Y Y Y (jp Y Y (ju ?_))
    obtain rfl := sj hm
    refine ja ?_
    exact jC _ () Y (trivial) (sE Y) (fun w hh => hh)
   replace hm := ifE h91 hm
   refine jS (ji (ji (jD ?_)))
   obtain rfl := sj hm
   have hbo := h90 _ Y
   subst hbo
   exact jj () (trivial) (sE Y) (hsE [0] [] 0 Y Y Y Y)
  intro l_16 hj
  replace hm := h89
  refine ja (jt (jk Y Y (jp Y Y (jq (jz ?_)))))
  obtain rfl := sj hm
  refine jn Y (fun w hh => (.tmp Y .nil)) (fun w hh => ⟨(), rfl, trivial, hh.se [] [] 3 Y Y Y rfl⟩)
structure KD where
  r1 : Int
  r0 : (List (List Int))
def Kl (c0 : Channel) : Option KD :=
 (zU c0).bind fun t9 =>
 some (⟨t9.r2, t9.r0⟩ : KD)
theorem Zb (c0 : Channel) (qa0 : Option Addr) (na0 ca0 : Nat) (qa1 : Option Addr) (na1 ca1 : Nat) (qa2 : Option Addr) (na2 ca2 : Nat) (w : World) (hw : HV w (keys [] []) [] [] [(aB qa0, aO qa0, RI.enc c0.fords), (aB qa1, aO qa1, RSa.enc c0.sands), (aB qa2, aO qa2, RSi.enc c0.sights)] w) (hna0 : c0.fords.length = na0) (hqa0 : AOK na0 qa0) (hla0 : na0 ≤ ca0) (hna1 : c0.sands.length = na1) (hqa1 : AOK na1 qa1) (hla1 : na1 ≤ ca1) (hna2 : c0.sights.length = na2) (hqa2 : AOK na2 qa2) (hla2 : na2 ≤ ca2) {res : KD} (hm : Kl c0 = some res) :
    Calls Tryz.prog 27 #[.agg #[.int .i64 c0.cells, .int .i64 c0.tides, .slice qa0 na0 ca0, .slice qa1 na1 ca1, .slice qa2 na2 ca2]] w (fun en w' => ∃ l : DL, en = .returned (.tuple #[sL l.v, .int .i64 res.r1]) ∧ (VOK 1 l.v.n l.v.cap (RwH.enc l.rs) l.v.sp l.v.q ∧ DOK RI res.r0 l.rs) ∧ HV w (keys [] []) [] [⟨22, RwH.enc l.rs, l.v.sp, l.v.q, dbl 3 RI res.r0 l.rs⟩] [] w') := by
  unfold Kl at hm
  refine yd func27 Y ntmps27 Y (e := [(0, _)]) Y hw (jt ?_)
  refine jP Y Y (fun b h3 => ?_)
  refine jc Y Y Y (fun _ _ => yq Y) (jp Y Y (qs (Jp [_, _, _, _, _] 0 isAgg26 sizeOf26 Y Y Y Y ?_)))
  obtain ⟨t9, h4, hm⟩ := bindO hm
  refine jd [] [] Y Y Y Y Y Y Y call28 (fun w hh => QJ c0 qa0 na0 ca0 qa1 na1 ca1 qa2 na2 ca2 w (HV.callee (S0 := []) (vs0 := []) hh (roR hh 0 Y (roR hh 1 Y (roR hh 2 Y roN)))) hna0 hqa0 hla0 hna1 hqa1 hla1 hna2 hqa2 hla2 h4) (fun l h5 => ?_)
  obtain ⟨h6, h7⟩ := h5
  refine k3 (S' := [_]) (vs' := [_]) [0] [0] 0 Y Y Y Y (jk Y Y (JB Y Y Y (JB Y Y Y (JB Y Y Y (jp Y Y (jp Y Y (jp Y Y ?_)))))))
  refine qs (jk Y Y (jk Y Y (jp Y Y (jp Y Y (jq (jz ?_))))))
  obtain rfl := sj hm
  refine jn Y (fun w hh => (.tmp Y (.tmp Y .nil))) (fun w hh => ⟨l, rfl, ⟨h6, h7⟩, hh.se [] [0] 3 Y Y Y rfl⟩)
end Go.Proofs.Wb

