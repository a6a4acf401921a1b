/- What the functions that the law BranchSights reaches come to, and why it holds: part 7. -/
import Derived.Test.YtpjnpibgnkgnaaaGreatBranchSights6
namespace Go.Proofs.Wb
set_option maxHeartbeats 4000000
set_option maxRecDepth 100000
open Go Go.Fw Go.Gx Go.Sb
open Tryz
set_option linter.unusedVariables false
theorem jb0 : (Tryz.prog.info? 138).map (fun i => (i.zero, i.size, i.bytes)) = some (some (.agg #[.int .i64 0, .int .i64 0, .int .i64 0]), 3, 24) := by kernel_rfl
theorem jbV : (Tryz.prog.info? 139).map (fun i => (i.zero, i.size, i.bytes)) = some (some (.agg #[.int .i64 0, .int .i64 0, .bool false]), 3, 24) := by kernel_rfl
theorem jbT : Tryz.prog.stoodInHeld 50 = false := by decide +kernel
theorem jch : Tryz.prog.eqGuardType Tryz.prog.depth 98 = false := by decide +kernel
theorem jcr : Tryz.prog.stoodInHeld 98 = false := by decide +kernel
theorem jcw (x y : Sand) (w : World) : (Op.equalIn 10000 98 (.agg (RSa.cells x).toArray) (.agg (RSa.cells y).toArray)).run Tryz.prog w = .ok (decide (x = y)) w := by
  have h := equal_structG (xs := (RSa.cells x).toArray) (ys := (RSa.cells y).toArray) underlying98 jcr (.sub (us := [_, _]) (vs := [_, _]) Y (fun w => isAgg50 w) (fun w => sizeOf50 w) Y Y Y Y underlying50 jbT (.int Y (fun w => isAgg3 w) ⟨_, underlying3⟩ Y Y (.int Y (fun w => isAgg3 w) ⟨_, underlying3⟩ Y Y .nil)) (.int Y (fun w => isAgg3 w) ⟨_, underlying3⟩ Y Y .nil)) w
  rw [h]
  congr 1
  obtain ⟨⟨x0_0, x0_1⟩, x1⟩ := x
  obtain ⟨⟨y0_0, y0_1⟩, y1⟩ := y
  rw [Bool.eq_iff_iff]
  simp only [Bool.and_eq_true, decide_eq_true_eq, Sand.mk.injEq, Span.mk.injEq, and_true]
def zp (c0 : Channel) : Option Bool :=
 (if 10 < (c0.fords.length : Int) then
 (some true) else
 (if 10 < (c0.sands.length : Int) then
 (some true) else
 (some (decide (14 < (c0.sights.length : Int)))))).bind fun o =>
 some o
theorem Zo (c0 : Channel) (qa0 : Option Addr) (na0 ca0 : Nat) (qa1 : Option Addr) (na1 ca1 : Nat) (qa2 : Option Addr) (na2 ca2 : Nat) (w : World) (hw : HV w (keys [] []) [] [] [(aB qa0, aO qa0, RI.enc c0.fords), (aB qa1, aO qa1, RSa.enc c0.sands), (aB qa2, aO qa2, RSi.enc c0.sights)] w) (hna0 : c0.fords.length = na0) (hqa0 : AOK na0 qa0) (hla0 : na0 ≤ ca0) (hna1 : c0.sands.length = na1) (hqa1 : AOK na1 qa1) (hla1 : na1 ≤ ca1) (hna2 : c0.sights.length = na2) (hqa2 : AOK na2 qa2) (hla2 : na2 ≤ ca2) {res : Bool} (hm : zp c0 = some res) :
    Calls Tryz.prog 53 #[.agg #[.int .i64 c0.cells, .int .i64 c0.tides, .slice qa0 na0 ca0, .slice qa1 na1 ca1, .slice qa2 na2 ca2]] w (fun en w' => ∃ l : Unit, en = .returned (.bool res) ∧ (True) ∧ HV w (keys [] []) [] [] [] w') := by
  unfold zp at hm
  refine qL func53 Y ntmps53 Y (e := [(0, _)]) Y hw (jr ?_)
  refine jG Y Y (fun b h1 => ?_)
  refine jo Y Y (jq (jh ?_))
  obtain ⟨o, h2, h3⟩ := bindO hm
  refine jM (ι := Unit) (fun l => True) (fun l => [(2, .bool o)]) (fun l => [kc b #[.int .i64 c0.cells, .int .i64 c0.tides, .slice qa0 na0 ca0, .slice qa1 na1 ca1, .slice qa2 na2 ca2] 26]) (fun l => []) ?_ ?_
  ·replace hm := h2
   refine jg (qV 2 runUnderlying26 Y sizeOf22 Y Y (qp 0 isAgg22 Y Y Y Y (jc Y Y Y (fun w _ => jJ hna0 (runUnderlying22 w) Y) (jc Y Y Y (fun _ _ => QI Y Y) (jj Y Y ?_)))))
   refine jW 7 Y (fun h4 => ?_) (fun h4 => ?_)
   ·replace hm := ifD h4 hm
    refine g_k Y Y Y Y (g_k Y Y Y Y (g_k Y Y Y Y (g_k Y Y Y Y (zo Y Y Y (jj Y Y (g_k Y Y Y Y (g_k Y Y Y Y ?_)))))))
    refine g_k Y Y Y Y (g_k Y Y Y Y (zo Y Y Y (jo Y Y (jx ?_))))
    obtain rfl := sj hm
    exact jk () (trivial) (sE Y) (fun w hh => hh)
   replace hm := ifE h4 hm
   refine jb Y Y (qV 3 runUnderlying26 Y sizeOf23 Y Y (jb Y Y (qp 0 isAgg23 Y Y Y Y (jb Y Y (jc Y Y Y (fun w _ => jJ hna1 (runUnderlying23 w) Y) (jb Y Y (jc Y Y Y (fun _ _ => QI Y Y) ?_)))))))
   refine yI Y Y Y (jj Y Y ?_)
   refine jW 13 Y (fun h5 => ?_) (fun h5 => ?_)
   ·replace hm := ifD h5 hm
    refine g_k Y Y Y Y (g_k Y Y Y Y (g_k Y Y Y Y (g_k Y Y Y Y (zo Y Y Y (jo Y Y (jx ?_))))))
    obtain rfl := sj hm
    exact jk () (trivial) (sE Y) (fun w hh => hh)
   replace hm := ifE h5 hm
   refine jb Y Y (qV 4 runUnderlying26 Y sizeOf24 Y Y (jb Y Y (qp 0 isAgg24 Y Y Y Y (jb Y Y (jc Y Y Y (fun w _ => jJ hna2 (runUnderlying24 w) Y) (jb Y Y (jc Y Y Y (fun _ _ => QI Y Y) ?_)))))))
   refine yI Y Y Y (jo Y Y (jx ?_))
   obtain rfl := sj hm
   exact jk () (trivial) (sE Y) (fun w hh => hh)
  intro l hj
  replace hm := h3
  refine ja (jv ?_)
  obtain rfl := sj hm
  refine jm Y (fun w hh => (.tmp Y .nil)) (fun w hh => ⟨(), rfl, trivial, hh.se [] [] 3 Y Y Y rfl⟩)
def z1 (c0 : Channel) : Option Bool :=
 ((zp c0).bind fun t4 =>
 if t4 = true then
 (some true) else
 (if (c0.fords.length : Int) = 3 then
 (some true) else
 (if 8 < c0.cells then
 (some (decide (c0.cells ≤ 10))) else
 (some false)))).bind fun o =>
 some o
theorem ZP (c0 : Channel) (qa0 : Option Addr) (na0 ca0 : Nat) (qa1 : Option Addr) (na1 ca1 : Nat) (qa2 : Option Addr) (na2 ca2 : Nat) (w : World) (hw : HV w (keys [] []) [] [] [(aB qa0, aO qa0, RI.enc c0.fords), (aB qa1, aO qa1, RSa.enc c0.sands), (aB qa2, aO qa2, RSi.enc c0.sights)] w) (hna0 : c0.fords.length = na0) (hqa0 : AOK na0 qa0) (hla0 : na0 ≤ ca0) (hna1 : c0.sands.length = na1) (hqa1 : AOK na1 qa1) (hla1 : na1 ≤ ca1) (hna2 : c0.sights.length = na2) (hqa2 : AOK na2 qa2) (hla2 : na2 ≤ ca2) {res : Bool} (hm : z1 c0 = some res) :
    Calls Tryz.prog 18 #[.agg #[.int .i64 c0.cells, .int .i64 c0.tides, .slice qa0 na0 ca0, .slice qa1 na1 ca1, .slice qa2 na2 ca2]] w (fun en w' => ∃ l : Unit, en = .returned (.bool res) ∧ (True) ∧ HV w (keys [] []) [] [] [] w') := by
  unfold z1 at hm
  refine qL func18 Y ntmps18 Y (e := [(0, _)]) Y hw (jr ?_)
  refine jG Y Y (fun b h1 => ?_)
  refine jo Y Y (jq (jh ?_))
  obtain ⟨o, h2, h3⟩ := bindO hm
  refine jM (ι := Unit) (fun l => True) (fun l => [(2, .bool o)]) (fun l => [kc b #[.int .i64 c0.cells, .int .i64 c0.tides, .slice qa0 na0 ca0, .slice qa1 na1 ca1, .slice qa2 na2 ca2] 26]) (fun l => []) ?_ ?_
  ·replace hm := h2
   refine jg (JC [_, _, _, _, _] 0 isAgg26 sizeOf26 Y Y Y Y ?_)
   obtain ⟨t4, h4, hm⟩ := bindO hm
   refine jd [] [] Y Y Y Y Y Y Y call53 (fun w hh => Zo c0 qa0 na0 ca0 qa1 na1 ca1 qa2 na2 ca2 w (HV.callee (S0 := []) (vs0 := []) hh (roR hh 0 Y (roR hh 1 Y (roR hh 2 Y roN)))) hna0 hqa0 hla0 hna1 hqa1 hla1 hna2 hqa2 hla2 h4) (fun l_1 h5 => ?_)
   refine jj Y Y ?_
   refine jW 5 Y (fun h6 => ?_) (fun h6 => ?_)
   ·replace hm := ifT (h6) hm
    refine g_k Y Y Y Y (g_k Y Y Y Y (g_k Y Y Y Y (g_k Y Y Y Y (zo Y Y Y (jj Y Y (g_k Y Y Y Y (g_k Y Y Y Y ?_)))))))
    refine g_k Y Y Y Y (g_k Y Y Y Y ?_)
    refine JZ Y Y Y Y Y ?_
    refine JZ Y Y Y Y Y ?_
    refine JZ Y Y Y Y Y ?_
    refine g_k Y Y Y Y (zo Y Y Y (jo Y Y (jx ?_)))
    obtain rfl := sj hm
    exact jk () (trivial) (sE Y) (fun w hh => hh)
   replace hm := ifN h6 hm
   refine jb Y Y (qV 2 runUnderlying26 Y sizeOf22 Y Y (jb Y Y (qp 0 isAgg22 Y Y Y Y (jb Y Y (jc Y Y Y (fun w _ => jJ hna0 (runUnderlying22 w) Y) (jb Y Y (jc Y Y Y (fun _ _ => Jw Y Y) ?_)))))))
   refine yI Y Y Y (jj Y Y ?_)
   refine jW 11 Y (fun h7 => ?_) (fun h7 => ?_)
   ·replace hm := ifD h7 hm
    refine g_k Y Y Y Y (g_k Y Y Y Y (g_k Y Y Y Y (g_k Y Y Y Y ?_)))
    refine JZ Y Y Y Y Y ?_
    refine JZ Y Y Y Y Y ?_
    refine JZ Y Y Y Y Y ?_
    refine g_k Y Y Y Y (zo Y Y Y (jo Y Y (jx ?_)))
    obtain rfl := sj hm
    exact jk () (trivial) (sE Y) (fun w hh => hh)
   replace hm := ifE h7 hm
   refine jb Y Y (qV 0 runUnderlying26 Y sizeOf3 Y Y (jb Y Y (qp 0 isAgg3 Y Y Y Y (jb Y Y (jc Y Y Y (fun _ _ => QI Y Y) (jb Y Y (jj Y Y ?_)))))))
   refine jW 15 Y (fun h8 => ?_) (fun h8 => ?_)
   ·replace hm := ifD h8 hm
    refine jb Y Y (qV 0 runUnderlying26 Y sizeOf3 Y Y (jb Y Y (qp 0 isAgg3 Y Y Y Y (jb Y Y (jc Y Y Y (fun _ _ => jak Y Y) (jb Y Y (zo Y Y Y ?_)))))))
    refine yI Y Y Y (jo Y Y (jx ?_))
    obtain rfl := sj hm
    exact jk () (trivial) (sE Y) (fun w hh => hh)
   replace hm := ifE h8 hm
   refine g_k Y Y Y Y (g_k Y Y Y Y (g_k Y Y Y Y (jb Y Y (yI Y Y Y (yI Y Y Y (jo Y Y (jx ?_)))))))
   obtain rfl := sj hm
   exact jk () (trivial) (sE Y) (fun w hh => hh)
  intro l hj
  replace hm := h3
  refine ja (jv ?_)
  obtain rfl := sj hm
  refine jm Y (fun w hh => (.tmp Y .nil)) (fun w hh => ⟨(), rfl, trivial, hh.se [] [] 3 Y Y Y rfl⟩)
def KL (l0 : (List Int)) : Option (List Int) :=
 (makec 8 0 0 (l0.length : Int)).bind fun t5 =>
 (appc 8 t5 l0).bind fun t7 =>
 some t7
theorem KK (l0 : (List Int)) (qa0 : Option Addr) (na0 ca0 : Nat) (w : World) (hw : HV w (keys [] []) [] [] [(aB qa0, aO qa0, RI.enc l0)] w) (hna0 : l0.length = na0) (hqa0 : AOK na0 qa0) (hla0 : na0 ≤ ca0) {res : (List Int)} (hm : KL l0 = some res) :
    Calls Tryz.prog 46 #[.slice qa0 na0 ca0] w (fun en w' => ∃ l : VL, en = .returned (sL l) ∧ (VOK 1 l.n l.cap (RI.enc res) l.sp l.q) ∧ HV w (keys [] []) [] [vL 3 l (RI.enc res)] [] w') := by
  unfold KL at hm
  refine qL func46 Y ntmps46 Y (e := [(0, _)]) Y hw (jr (jc Y Y Y (fun _ _ => qr Y) (kY (jj Y Y (jc Y Y Y (fun w _ => jJ hna0 (runUnderlying22 w) Y) ?_)))))
  obtain ⟨t5, h2, hm⟩ := bindO hm
  refine ZT RI 0 h2 underlying22 QG Y Y Y Y Y (fun L h3 => ?_)
  refine jj Y Y ?_
  obtain ⟨t7, h4, hm⟩ := bindO hm
  refine Jo RI 0 h4 underlying22 QG Y Y Y Y Y h3 Y Y hna0 hqa0 (fun w hh => (hh.seg 0 Y)) Y (fun L_1 h5 h5n => ?_)
  refine kx (S' := []) (vs' := [_]) [] [0] 0 Y Y Y Y (jo Y Y (jq (jv ?_)))
  obtain rfl := sj hm
  refine jm Y (fun w hh => (.tmp Y .nil)) (fun w hh => ⟨L_1, rfl, h5, hh.se [] [0] 1 Y Y Y rfl⟩)
def JY (l0 : (List Sand)) : Option (List Sand) :=
 (makec 24 (⟨(⟨0, 0⟩ : Span), 0⟩ : Sand) 0 (l0.length : Int)).bind fun t5 =>
 (appc 24 t5 l0).bind fun t7 =>
 some t7
theorem ZE (l0 : (List Sand)) (qa0 : Option Addr) (na0 ca0 : Nat) (w : World) (hw : HV w (keys [] []) [] [] [(aB qa0, aO qa0, RSa.enc l0)] w) (hna0 : l0.length = na0) (hqa0 : AOK na0 qa0) (hla0 : na0 ≤ ca0) {res : (List Sand)} (hm : JY l0 = some res) :
    Calls Tryz.prog 86 #[.slice qa0 na0 ca0] w (fun en w' => ∃ l : VL, en = .returned (sL l) ∧ (VOK 3 l.n l.cap (RSa.enc res) l.sp l.q) ∧ HV w (keys [] []) [] [vL 98 l (RSa.enc res)] [] w') := by
  unfold JY at hm
  refine qL func86 Y ntmps86 Y (e := [(0, _)]) Y hw (jr (jc Y Y Y (fun _ _ => qr Y) (kY (jj Y Y (jc Y Y Y (fun w _ => jJ hna0 (runUnderlying23 w) Y) ?_)))))
  obtain ⟨t5, h2, hm⟩ := bindO hm
  refine ZT RSa (⟨(⟨0, 0⟩ : Span), 0⟩ : Sand) h2 underlying23 ja2 Y Y Y Y Y (fun L h3 => ?_)
  refine jj Y Y ?_
  obtain ⟨t7, h4, hm⟩ := bindO hm
  refine Jo RSa 0 h4 underlying23 ja2 Y Y Y Y Y h3 Y Y hna0 hqa0 (fun w hh => (hh.seg 0 Y)) Y (fun L_1 h5 h5n => ?_)
  refine kx (S' := []) (vs' := [_]) [] [0] 0 Y Y Y Y (jo Y Y (jq (jv ?_)))
  obtain rfl := sj hm
  refine jm Y (fun w hh => (.tmp Y .nil)) (fun w hh => ⟨L_1, rfl, h5, hh.se [] [0] 1 Y Y Y rfl⟩)
def JE (l0 : (List Sight)) : Option (List Sight) :=
 (makec 24 (⟨0, 0, false⟩ : Sight) 0 (l0.length : Int)).bind fun t5 =>
 (appc 24 t5 l0).bind fun t7 =>
 some t7
theorem Zp (l0 : (List Sight)) (qa0 : Option Addr) (na0 ca0 : Nat) (w : World) (hw : HV w (keys [] []) [] [] [(aB qa0, aO qa0, RSi.enc l0)] w) (hna0 : l0.length = na0) (hqa0 : AOK na0 qa0) (hla0 : na0 ≤ ca0) {res : (List Sight)} (hm : JE l0 = some res) :
    Calls Tryz.prog 87 #[.slice qa0 na0 ca0] w (fun en w' => ∃ l : VL, en = .returned (sL l) ∧ (VOK 3 l.n l.cap (RSi.enc res) l.sp l.q) ∧ HV w (keys [] []) [] [vL 55 l (RSi.enc res)] [] w') := by
  unfold JE at hm
  refine qL func87 Y ntmps87 Y (e := [(0, _)]) Y hw (jr (jc Y Y Y (fun _ _ => qr Y) (kY (jj Y Y (jc Y Y Y (fun w _ => jJ hna0 (runUnderlying24 w) Y) ?_)))))
  obtain ⟨t5, h2, hm⟩ := bindO hm
  refine ZT RSi (⟨0, 0, false⟩ : Sight) h2 underlying24 jaJ Y Y Y Y Y (fun L h3 => ?_)
  refine jj Y Y ?_
  obtain ⟨t7, h4, hm⟩ := bindO hm
  refine Jo RSi 0 h4 underlying24 jaJ Y Y Y Y Y h3 Y Y hna0 hqa0 (fun w hh => (hh.seg 0 Y)) Y (fun L_1 h5 h5n => ?_)
  refine kx (S' := []) (vs' := [_]) [] [0] 0 Y Y Y Y (jo Y Y (jq (jv ?_)))
  obtain rfl := sj hm
  refine jm Y (fun w hh => (.tmp Y .nil)) (fun w hh => ⟨L_1, rfl, h5, hh.se [] [0] 1 Y Y Y rfl⟩)
def Jy (c0 : Channel) : Option Channel :=
 (KL c0.fords).bind fun t9 =>
 (JY c0.sands).bind fun t12 =>
 (JE c0.sights).bind fun t15 =>
 some (⟨c0.cells, c0.tides, t9, t12, t15⟩ : Channel)
theorem Ke (c0 : Channel) (qa0 : Option Addr) (na0 ca0 : Nat) (qa1 : Option Addr) (na1 ca1 : Nat) (qa2 : Option Addr) (na2 ca2 : Nat) (w : World) (hw : HV w (keys [] []) [] [] [(aB qa0, aO qa0, RI.enc c0.fords), (aB qa1, aO qa1, RSa.enc c0.sands), (aB qa2, aO qa2, RSi.enc c0.sights)] w) (hna0 : c0.fords.length = na0) (hqa0 : AOK na0 qa0) (hla0 : na0 ≤ ca0) (hna1 : c0.sands.length = na1) (hqa1 : AOK na1 qa1) (hla1 : na1 ≤ ca1) (hna2 : c0.sights.length = na2) (hqa2 : AOK na2 qa2) (hla2 : na2 ≤ ca2) {res : Channel} (hm : Jy c0 = some res) :
    Calls Tryz.prog 20 #[.agg #[.int .i64 c0.cells, .int .i64 c0.tides, .slice qa0 na0 ca0, .slice qa1 na1 ca1, .slice qa2 na2 ca2]] w (fun en w' => ∃ l : VL × VL × VL, en = .returned (.agg #[.int .i64 res.cells, .int .i64 res.tides, sL l.1, sL l.2.1, sL l.2.2]) ∧ (VOK 1 l.1.n l.1.cap (RI.enc res.fords) l.1.sp l.1.q ∧ VOK 3 l.2.1.n l.2.1.cap (RSa.enc res.sands) l.2.1.sp l.2.1.q ∧ VOK 3 l.2.2.n l.2.2.cap (RSi.enc res.sights) l.2.2.sp l.2.2.q) ∧ HV w (keys [] []) [] [vL 3 l.1 (RI.enc res.fords), vL 98 l.2.1 (RSa.enc res.sands), vL 55 l.2.2 (RSi.enc res.sights)] [] w') := by
  unfold Jy at hm
  refine qL func20 Y ntmps20 Y (e := [(0, _)]) Y hw (jr ?_)
  refine jG Y Y (fun b h4 => ?_)
  refine ju (fun w => zeroValue26 w) Y (fun b_1 h5 => ?_)
  refine jq (jh ?_)
  refine j3 none (.free 0 (.hoist 1 (.free 2 (.hoist 3 (.free 4 (.hoist 5 (.free 7 (.hoist 8 (.free 10 (.hoist 11 (.one 6 (.one 9 (.one 12 (.free 13 (.one 14 .done))))))))))))))) (HV _ _ [kc b #[.int .i64 c0.cells, .int .i64 c0.tides, .slice qa0 na0 ca0, .slice qa1 na1 ca1, .slice qa2 na2 ca2] 26] [] _) Y (by decide +kernel) (fun w k hh => hh.draw k) (hsE [1] [] 0 Y Y Y Y) ?_
  refine KA 0 runUnderlying26 sizeOf3 Y Y Y Y (QA 0 isAgg3 Y Y Y Y Y (KA 1 runUnderlying26 sizeOf3 Y Y Y Y (QA 0 isAgg3 Y Y Y Y Y (KA 2 runUnderlying26 sizeOf22 Y Y Y Y (QA 0 isAgg22 Y Y Y Y Y (KA 3 runUnderlying26 sizeOf23 Y Y Y Y (QA 0 isAgg23 Y Y Y Y Y ?_)))))))
  refine KA 4 runUnderlying26 sizeOf24 Y Y Y Y (QA 0 isAgg24 Y Y Y Y Y (jD Y ?_))
  obtain ⟨t9, h6, hm⟩ := bindO hm
  refine jd [] [] Y Y Y Y Y Y Y call46 (fun w hh => KK c0.fords qa0 na0 ca0 w (HV.callee (S0 := []) (vs0 := []) hh (roR hh 0 Y roN)) hna0 hqa0 hla0 h6) (fun l h7 => ?_)
  have h8 := h7
  refine kx (S' := [_, _]) (vs' := [_]) [0, 1] [0] 0 Y Y Y Y (jn (hsE [1] [] 0 Y Y Y Y) (jD Y ?_))
  obtain ⟨t12, h9, hm⟩ := bindO hm
  refine jd [] [] Y Y Y Y Y Y Y call86 (fun w hh => ZE c0.sands qa1 na1 ca1 w (HV.callee (S0 := []) (vs0 := []) hh (roR hh 1 Y roN)) hna1 hqa1 hla1 h9) (fun l_1 h10 => ?_)
  have h11 := h10
  refine kx (S' := [_, _]) (vs' := [_, _]) [0, 1] [0, 1] 0 Y Y Y Y (jn (hsE [1] [] 0 Y Y Y Y) (jD Y ?_))
  obtain ⟨t15, h12, hm⟩ := bindO hm
  refine jd [] [] Y Y Y Y Y Y Y call87 (fun w hh => Zp c0.sights qa2 na2 ca2 w (HV.callee (S0 := []) (vs0 := []) hh (roR hh 2 Y roN)) hna2 hqa2 hla2 h12) (fun l_2 h13 => ?_)
  have h14 := h13
  refine kx (S' := [_, _]) (vs' := [_, _, _]) [0, 1] [0, 1, 2] 0 Y Y Y Y (jn (hsE [1] [] 0 Y Y Y Y) (jp Y Y Y Y (fun _ _ => qX (vs := [(0, _), (1, _), (2, _), (3, _), (4, _)]) (cells := [_, _, _, _, _]) Y Y) (jD Y (kD (us := #[_, _, _, _, _]) (cs' := [_, _, _, _, _]) (S' := [_, _]) 0 (fun w => sizeOf26 w) Y Y Y Y Y Y Y (jn (hsE [1] [] 0 Y Y Y Y) (jH (ja ?_)))))))
  refine jv ?_
  obtain rfl := sj hm
  refine jm Y (fun w hh => (.cell Y (loadVar_agg (vs := [_, _, _, _, _]) (isAgg26 _) (sizeOf26 _) (hh.cells 0 Y Y)) .nil)) (fun w hh => ⟨(l, l_1, l_2), rfl, ⟨h8, h11, h14⟩, hh.se [] [2, 1, 0] 3 Y Y Y rfl⟩)
structure q7 where
  t19 : Int
  out3_sands : (List Sand)
def JJ (c0 : Channel) (s : q7) : Option (q7 ⊕ (List Sand)) :=
 if s.t19 < (c0.sands.length : Int) then
 ((ix c0.sands s.t19).bind fun t21 =>
 (appc 24 s.out3_sands [(⟨(⟨t21.span.lo, t21.span.hi⟩ : Span), t21.reach⟩ : Sand)]).bind fun t27 =>
 (addc s.t19 1).bind fun t29 =>
 some (.inl (⟨t29, t27⟩ : q7))) else
 (some (.inr s.out3_sands))
structure ya where
  t33 : Int
  out3_sights : (List Sight)
def JH (c0 : Channel) (s_1 : ya) : Option (ya ⊕ (List Sight)) :=
 if s_1.t33 < (c0.sights.length : Int) then
 ((ix c0.sights s_1.t33).bind fun t35 =>
 (appc 24 s_1.out3_sights [t35]).bind fun t41 =>
 (addc s_1.t33 1).bind fun t43 =>
 some (.inl (⟨t43, t41⟩ : ya))) else
 (some (.inr s_1.out3_sights))
def zh (c0 : Channel) : Option Channel :=
 ((KL c0.fords).bind fun t14 =>
 some (⟨c0.cells, c0.tides, t14, [], []⟩ : Channel)).bind fun o =>
 (iterM FU (JJ c0) (⟨0, o.sands⟩ : q7)).bind fun o_1 =>
 (iterM FU (JH c0) (⟨0, o.sights⟩ : ya)).bind fun o_2 =>
 some (⟨o.cells, o.tides, o.fords, o_1, o_2⟩ : Channel)
theorem Jp (c0 : Channel) (qa0 : Option Addr) (na0 ca0 : Nat) (qa1 : Option Addr) (na1 ca1 : Nat) (qa2 : Option Addr) (na2 ca2 : Nat) (w : World) (hw : HV w (keys [] []) [] [] [(aB qa0, aO qa0, RI.enc c0.fords), (aB qa1, aO qa1, RSa.enc c0.sands), (aB qa2, aO qa2, RSi.enc c0.sights)] w) (hna0 : c0.fords.length = na0) (hqa0 : AOK na0 qa0) (hla0 : na0 ≤ ca0) (hna1 : c0.sands.length = na1) (hqa1 : AOK na1 qa1) (hla1 : na1 ≤ ca1) (hna2 : c0.sights.length = na2) (hqa2 : AOK na2 qa2) (hla2 : na2 ≤ ca2) {res : Channel} (hm : zh c0 = some res) :
    Calls Tryz.prog 21 #[.agg #[.int .i64 c0.cells, .int .i64 c0.tides, .slice qa0 na0 ca0, .slice qa1 na1 ca1, .slice qa2 na2 ca2]] w (fun en w' => ∃ l : VL × VL × VL, en = .returned (.agg #[.int .i64 res.cells, .int .i64 res.tides, sL l.1, sL l.2.1, sL l.2.2]) ∧ (VOK 1 l.1.n l.1.cap (RI.enc res.fords) l.1.sp l.1.q ∧ VOK 3 l.2.1.n l.2.1.cap (RSa.enc res.sands) l.2.1.sp l.2.1.q ∧ VOK 3 l.2.2.n l.2.2.cap (RSi.enc res.sights) l.2.2.sp l.2.2.q) ∧ HV w (keys [] []) [] [vL 3 l.1 (RI.enc res.fords), vL 138 l.2.1 (RSa.enc res.sands), vL 139 l.2.2 (RSi.enc res.sights)] [] w') := by
  unfold zh at hm
  refine qL func21 Y ntmps21 Y (e := [(0, _)]) Y hw (jr ?_)
  refine jG Y Y (fun b h4 => ?_)
  refine ju (fun w => zeroValue33 w) Y (fun b_1 h5 => ?_)
  refine jq (jh ?_)
  obtain ⟨o, h6, h7⟩ := bindO hm
  refine jM (ι := Nat × VL × VL × VL) (fun l => VOK 1 l.2.1.n l.2.1.cap (RI.enc o.fords) l.2.1.sp l.2.1.q ∧ VOK 3 l.2.2.1.n l.2.2.1.cap (RSa.enc o.sands) l.2.2.1.sp l.2.2.1.q ∧ VOK 3 l.2.2.2.n l.2.2.2.cap (RSi.enc o.sights) l.2.2.2.sp l.2.2.2.q) (fun l => [(1, ptr b 0), (2, ptr b_1 0), (3, ptr l.1 0)]) (fun l => [kc b_1 #[.int .i64 0, .int .i64 0, slv none 0 0, slv none 0 0, slv none 0 0] 33, kc b #[.int .i64 c0.cells, .int .i64 c0.tides, .slice qa0 na0 ca0, .slice qa1 na1 ca1, .slice qa2 na2 ca2] 26, kc l.1 #[.int .i64 o.cells, .int .i64 o.tides, sL l.2.1, sL l.2.2.1, sL l.2.2.2] 33]) (fun l => [vL 3 l.2.1 (RI.enc o.fords), vL 138 l.2.2.1 (RSa.enc o.sands), vL 139 l.2.2.2 (RSi.enc o.sights)]) ?_ ?_
  ·replace hm := h6
   obtain ⟨t14, h11, hm⟩ := bindO hm
   refine j3 none (.free 0 (.hoist 1 (.free 2 (.hoist 3 (.free 4 (.hoist 5 (.br (.alt 6 (.free 7 (.one 8 (.one 9 .done))) (.alt 8 (.one 6 (.free 7 (.one 9 .done))) .nil))))))))) _ Y (by decide +kernel) (fun w k hh => hh.draw k) (fun w hh => hh) ?_
   refine KA 0 runUnderlying26 sizeOf3 Y Y Y Y (QA 1 isAgg3 Y Y Y Y Y (KA 1 runUnderlying26 sizeOf3 Y Y Y Y (QA 1 isAgg3 Y Y Y Y Y (KA 2 runUnderlying26 sizeOf22 Y Y Y Y (QA 1 isAgg22 Y Y Y Y Y (ZQ ?_))))))
   refine qY Y ?_ ?_
   ·refine jd [] [] Y Y Y Y Y Y Y call46 (fun w hh => KK c0.fords qa0 na0 ca0 w (HV.callee (S0 := []) (vs0 := []) hh (roR hh 0 Y roN)) hna0 hqa0 hla0 h11) (fun l_1 h12 => ?_)
    have h13 := h12
    refine kx (S' := [_, _]) (vs' := [_]) [0, 1] [0] 0 Y Y Y Y (jn (hsE [0, 1] [] 0 Y Y Y Y) (jp Y Y Y Y (fun _ _ => qX (vs := [(0, _), (1, _), (2, _)]) (cells := [_, _, _, _, _]) Y Y) (jD Y ?_)))
    refine ju (fun w => zeroValue33 w) Y (fun b_2 h14 => ?_)
    refine jn (hsE [1, 2] [] 0 Y Y Y Y) (jD Y (kD (us := #[_, _, _, _, _]) (cs' := [_, _, _, _, _]) (S' := [_, _, _]) 0 (fun w => sizeOf33 w) Y Y Y Y Y Y Y (jn (hsE [1, 2] [] 0 Y Y Y Y) (jH (zK 138 (zK 139 ?_))))))
    obtain rfl := sj hm
    exact jk (b_2, l_1, ⟨none, 0, 0, []⟩, ⟨none, 0, 0, []⟩) (⟨h13, VOK.nil, VOK.nil⟩) (sE Y) (hsE [1, 2, 0] [2, 1, 0] 0 Y Y Y Y)
   refine qY Y ?_ ?_
   refine ju (fun w => zeroValue33 w) Y (fun b_3 h15 => ?_)
   refine jn (hsE [1, 2] [] 0 Y Y Y Y) (jD Y ?_)
   refine jd [] [] Y Y Y Y Y Y Y call46 (fun w hh => KK c0.fords qa0 na0 ca0 w (HV.callee (S0 := []) (vs0 := []) hh (roR hh 0 Y roN)) hna0 hqa0 hla0 h11) (fun l_2 h16 => ?_)
   have h17 := h16
   refine kx (S' := [_, _, _]) (vs' := [_]) [0, 1, 2] [0] 0 Y Y Y Y (jn (hsE [1, 2] [] 0 Y Y Y Y) (jp Y Y Y Y (fun _ _ => qX (vs := [(0, _), (1, _), (2, _)]) (cells := [_, _, _, _, _]) Y Y) (jD Y (kD (us := #[_, _, _, _, _]) (cs' := [_, _, _, _, _]) (S' := [_, _, _]) 0 (fun w => sizeOf33 w) Y Y Y Y Y Y Y (jn (hsE [1, 2] [] 0 Y Y Y Y) (jH (zK 138 ?_)))))))
   refine zK 139 ?_
   obtain rfl := sj hm
   exact jk (b_3, l_2, ⟨none, 0, 0, []⟩, ⟨none, 0, 0, []⟩) (⟨h17, VOK.nil, VOK.nil⟩) (sE Y) (hsE [1, 2, 0] [2, 1, 0] 0 Y Y Y Y)
   exact Qc
  intro l hj
  obtain ⟨h8, h9, h10⟩ := hj
  replace hm := h7
  refine ja (jh (jr (qV 3 runUnderlying26 Y sizeOf23 Y Y (qp 1 isAgg23 Y Y Y Y (jc Y Y Y (fun w _ => jJ hna1 (runUnderlying23 w) Y) (jj Y Y (jq ?_)))))))
  obtain ⟨o_1, h18, h19⟩ := bindO hm
  refine jM (ι := VL) (fun l_3 => VOK 3 l_3.n l_3.cap (RSa.enc o_1) l_3.sp l_3.q) (fun l_3 => [(1, ptr b 0), (2, ptr b_1 0), (3, ptr l.1 0)]) (fun l_3 => [kc b_1 #[.int .i64 0, .int .i64 0, slv none 0 0, slv none 0 0, slv none 0 0] 33, kc b #[.int .i64 c0.cells, .int .i64 c0.tides, .slice qa0 na0 ca0, .slice qa1 na1 ca1, .slice qa2 na2 ca2] 26, kc l.1 #[.int .i64 o.cells, .int .i64 o.tides, sL l.2.1, sL l_3, sL l.2.2.2] 33]) (fun l_3 => [vL 3 l.2.1 (RI.enc o.fords), vL 138 l_3 (RSa.enc o_1), vL 139 l.2.2.2 (RSi.enc o.sights)]) ?_ ?_
  ·replace hm := h18
   refine jl ?_
   refine jK (ι := VL) hm (fun s l_4 => VOK 3 l_4.n l_4.cap (RSa.enc s.out3_sands) l_4.sp l_4.q) (fun s l_4 => [(1, ptr b 0), (2, ptr b_1 0), (3, ptr l.1 0), (17, .slice qa1 na1 ca1), (18, .int .i64 (c0.sands.length : Int)), (19, .int .i64 s.t19)]) (fun s l_4 => [kc b_1 #[.int .i64 0, .int .i64 0, slv none 0 0, slv none 0 0, slv none 0 0] 33, kc b #[.int .i64 c0.cells, .int .i64 c0.tides, .slice qa0 na0 ca0, .slice qa1 na1 ca1, .slice qa2 na2 ca2] 26, kc l.1 #[.int .i64 o.cells, .int .i64 o.tides, sL l.2.1, sL l_4, sL l.2.2.2] 33]) (fun s l_4 => [vL 3 l.2.1 (RI.enc o.fords), vL 138 l_4 (RSa.enc s.out3_sands), vL 139 l.2.2.2 (RSi.enc o.sights)]) l.2.2.1 (h9) (sE Y) (fun w hh => hh) (fun s l_4 r hpl hm h22 => ?_)
   have h21 := hpl
   unfold JJ at hm
   refine jr (Kc Y Y Y (jq (jh ?_)))
   refine js Y (fun h23 => ?_) (fun h23 => ?_)
   ·replace hm := ifD h23 hm
    refine jt (ja (jh (jl (jr ?_))))
    obtain ⟨t21, h24, hm⟩ := bindO hm
    refine jc Y Y Y (fun w _ => qM h24 (runUnderlying23 w) (sizeOf98 w) Y Y hna1 hqa1) ?_
    refine jc Y Y Y (fun w hh => J0 RSa 0 [.int .i64 t21.span.lo, .int .i64 t21.span.hi, .int .i64 t21.reach] h24 (isAgg98 w) (sizeOf98 w) Y (hh.seg 1 Y) Y (Nat.add_zero _).symm) ?_
    refine ju (fun w => zeroValue98 w) Y (fun b_4 h25 => ?_)
    refine kD (us := #[_, _, _]) (cs' := [_, _, _]) (S' := [_, _, _, _]) 0 (fun w => sizeOf98 w) Y Y Y Y Y Y Y (jq (jg (qV 3 runUnderlying33 Y sizeOf30 Y Y (qp 3 isAgg30 Y Y Y Y (JC [_, _, _] 0 isAgg98 sizeOf98 Y Y Y Y ?_)))))
    refine qE RSa [(⟨(⟨t21.span.lo, t21.span.hi⟩ : Span), t21.reach⟩ : Sand)] (ps := [(0, _)]) (cells := [_, _, _]) (fun w => runUnderlying30 w) (fun w => sizeOf138 w) (fun w => zeroValue138 w) Y Y Y Y Y Y Y Y (fun L h26 => ?_)
    obtain ⟨t27, h27, hm⟩ := bindO hm
    refine Jo RSa 2 h27 underlying30 jb0 Y Y Y Y Y h21 Y Y (vlen RSa h26 Y) (AOK.q (vne h26)) (fun w hh => (hh.vsegA 0 Y h26)) Y (fun L_1 h28 h28n => ?_)
    refine kx (S' := [_, _, _, _]) (vs' := [_, _, _, _]) [0, 1, 2, 3] [0, 1, 2, 3] 0 Y Y Y Y (qV 3 runUnderlying33 Y sizeOf30 Y Y (zc (cs' := #[_, _, _, _, _]) (S' := [_, _, _, _]) 3 (fun w => sizeOf30 w) Y Y Y Y Y Y Y (jx (jw (ja (jg ?_))))))
    obtain ⟨t29, h29, hm⟩ := bindO hm
    refine JV h29 Y Y Y (jj Y Y (jx ?_))
    obtain rfl := sj hm
    refine ja ?_
    exact jA _ L_1 Y (h28) (sE Y) (hsE [1, 2, 3] [1, 2, 3] 0 Y Y Y Y)
   replace hm := ifE h23 hm
   refine jV (ji (ji (jC ?_)))
   obtain rfl := sj hm
   have hbo := h22 _ Y
   subst hbo
   exact jk l_4 (h21) (sE Y) (fun w hh => hh)
  intro l_3 hj
  have h20 := hj
  replace hm := h19
  refine ja (jh (jr (qV 4 runUnderlying26 Y sizeOf24 Y Y (qp 1 isAgg24 Y Y Y Y (jc Y Y Y (fun w _ => jJ hna2 (runUnderlying24 w) Y) (jj Y Y (jq ?_)))))))
  obtain ⟨o_2, h30, h31⟩ := bindO hm
  refine jM (ι := VL) (fun l_5 => VOK 3 l_5.n l_5.cap (RSi.enc o_2) l_5.sp l_5.q) (fun l_5 => [(2, ptr b_1 0), (3, ptr l.1 0)]) (fun l_5 => [kc b_1 #[.int .i64 0, .int .i64 0, slv none 0 0, slv none 0 0, slv none 0 0] 33, kc b #[.int .i64 c0.cells, .int .i64 c0.tides, .slice qa0 na0 ca0, .slice qa1 na1 ca1, .slice qa2 na2 ca2] 26, kc l.1 #[.int .i64 o.cells, .int .i64 o.tides, sL l.2.1, sL l_3, sL l_5] 33]) (fun l_5 => [vL 3 l.2.1 (RI.enc o.fords), vL 138 l_3 (RSa.enc o_1), vL 139 l_5 (RSi.enc o_2)]) ?_ ?_
  ·replace hm := h30
   refine jl ?_
   refine jK (ι := VL) hm (fun s_1 l_6 => VOK 3 l_6.n l_6.cap (RSi.enc s_1.out3_sights) l_6.sp l_6.q) (fun s_1 l_6 => [(2, ptr b_1 0), (3, ptr l.1 0), (31, .slice qa2 na2 ca2), (32, .int .i64 (c0.sights.length : Int)), (33, .int .i64 s_1.t33)]) (fun s_1 l_6 => [kc b_1 #[.int .i64 0, .int .i64 0, slv none 0 0, slv none 0 0, slv none 0 0] 33, kc b #[.int .i64 c0.cells, .int .i64 c0.tides, .slice qa0 na0 ca0, .slice qa1 na1 ca1, .slice qa2 na2 ca2] 26, kc l.1 #[.int .i64 o.cells, .int .i64 o.tides, sL l.2.1, sL l_3, sL l_6] 33]) (fun s_1 l_6 => [vL 3 l.2.1 (RI.enc o.fords), vL 138 l_3 (RSa.enc o_1), vL 139 l_6 (RSi.enc s_1.out3_sights)]) l.2.2.2 (h10) (sE Y) (fun w hh => hh) (fun s_1 l_6 r_1 hpl hm h34 => ?_)
   have h33 := hpl
   unfold JH at hm
   refine jr (Kc Y Y Y (jq (jh ?_)))
   refine js Y (fun h35 => ?_) (fun h35 => ?_)
   ·replace hm := ifD h35 hm
    refine jt (ja (jh (jl (jr ?_))))
    obtain ⟨t35, h36, hm⟩ := bindO hm
    refine jc Y Y Y (fun w _ => qM h36 (runUnderlying24 w) (sizeOf55 w) Y Y hna2 hqa2) ?_
    refine jc Y Y Y (fun w hh => J0 RSi 0 [.int .i64 t35.after, .int .i64 t35.cell, .bool t35.upright] h36 (isAgg55 w) (sizeOf55 w) Y (hh.seg 2 Y) Y (Nat.add_zero _).symm) ?_
    refine ju (fun w => zeroValue55 w) Y (fun b_5 h37 => ?_)
    refine kD (us := #[_, _, _]) (cs' := [_, _, _]) (S' := [_, _, _, _]) 0 (fun w => sizeOf55 w) Y Y Y Y Y Y Y (jq (jg (qV 4 runUnderlying33 Y sizeOf31 Y Y (qp 3 isAgg31 Y Y Y Y (JC [_, _, _] 0 isAgg55 sizeOf55 Y Y Y Y ?_)))))
    refine qE RSi [t35] (ps := [(0, _)]) (cells := [_, _, _]) (fun w => runUnderlying31 w) (fun w => sizeOf139 w) (fun w => zeroValue139 w) Y Y Y Y Y Y Y Y (fun L_2 h38 => ?_)
    obtain ⟨t41, h39, hm⟩ := bindO hm
    refine Jo RSi 3 h39 underlying31 jbV Y Y Y Y Y h33 Y Y (vlen RSi h38 Y) (AOK.q (vne h38)) (fun w hh => (hh.vsegA 0 Y h38)) Y (fun L_3 h40 h40n => ?_)
    refine kx (S' := [_, _, _, _]) (vs' := [_, _, _, _]) [0, 1, 2, 3] [0, 1, 2, 3] 0 Y Y Y Y (qV 4 runUnderlying33 Y sizeOf31 Y Y (zc (cs' := #[_, _, _, _, _]) (S' := [_, _, _, _]) 3 (fun w => sizeOf31 w) Y Y Y Y Y Y Y (jx (jw (ja (jg ?_))))))
    obtain ⟨t43, h41, hm⟩ := bindO hm
    refine JV h41 Y Y Y (jj Y Y (jx ?_))
    obtain rfl := sj hm
    refine ja ?_
    exact jA _ L_3 Y (h40) (sE Y) (hsE [1, 2, 3] [1, 2, 3] 0 Y Y Y Y)
   replace hm := ifE h35 hm
   refine jV (ji (ji (jC ?_)))
   obtain rfl := sj hm
   have hbo := h34 _ Y
   subst hbo
   exact jk l_6 (h33) (sE Y) (fun w hh => hh)
  intro l_5 hj
  have h32 := hj
  replace hm := h31
  refine ja (jr (JC [_, _, _, _, _] 2 isAgg33 sizeOf33 Y Y Y Y (kD (us := #[_, _, _, _, _]) (cs' := [_, _, _, _, _]) (S' := [_, _, _]) 0 (fun w => sizeOf33 w) Y Y Y Y Y Y Y (jq (jv ?_)))))
  obtain rfl := sj hm
  refine jm Y (fun w hh => (.cell Y (loadVar_agg (vs := [_, _, _, _, _]) (isAgg33 _) (sizeOf33 _) (hh.cells 0 Y Y)) .nil)) (fun w hh => ⟨(l.2.1, l_3, l_5), rfl, ⟨h8, h20, h32⟩, hh.se [] [0, 1, 2] 3 Y Y Y rfl⟩)
def jF (n0 : Int) (lo1 : Int) (hi2 : Int) : Option Bool :=
 (if n0 < lo1 then
 (some true) else
 (some (decide (hi2 < n0)))).bind fun o =>
 some o
theorem kf (n0 : Int) (lo1 : Int) (hi2 : Int)  (w : World) (hw : HV w (keys [] []) [] [] [] w)  {res : Bool} (hm : jF n0 lo1 hi2 = some res) :
    Calls Tryz.prog 88 #[.int .i64 n0, .int .i64 lo1, .int .i64 hi2] w (fun en w' => ∃ l : Unit, en = .returned (.bool res) ∧ (True) ∧ HV w (keys [] []) [] [] [] w') := by
  unfold jF at hm
  refine qL func88 Y ntmps88 Y (e := [(0, _), (1, _), (2, _)]) Y hw (jr (jo Y Y (jq (jh ?_))))
  obtain ⟨o, h1, h2⟩ := bindO hm
  refine jM (ι := Unit) (fun l => True) (fun l => [(6, .bool o)]) (fun l => []) (fun l => []) ?_ ?_
  ·replace hm := h1
   refine jg (jj Y Y (jj Y Y (Kc Y Y Y (jj Y Y ?_))))
   refine jW 10 Y (fun h3 => ?_) (fun h3 => ?_)
   ·replace hm := ifD h3 hm
    refine g_k Y Y Y Y (g_k Y Y Y Y (g_k Y Y Y Y (zo Y Y Y (jo Y Y (jx ?_)))))
    obtain rfl := sj hm
    exact jk () (trivial) (sE Y) (fun w hh => hh)
   replace hm := ifE h3 hm
   refine jb Y Y (jj Y Y (jb Y Y (jj Y Y (jb Y Y (jc Y Y Y (fun _ _ => QI Y Y) (yI Y Y Y (jo Y Y ?_)))))))
   refine jx ?_
   obtain rfl := sj hm
   exact jk () (trivial) (sE Y) (fun w hh => hh)
  intro l hj
  replace hm := h2
  refine ja (jv ?_)
  obtain rfl := sj hm
  refine jm Y (fun w hh => (.tmp Y .nil)) (fun w hh => ⟨(), rfl, trivial, hh⟩)
def zA (c0 : Channel) (s : Int) : Option (Int ⊕ (Unit ⊕ Int)) :=
 if s < (c0.sands.length : Int) then
 ((ix c0.sands s).bind fun t46 =>
 (jF t46.reach 1 2).bind fun t49 =>
 if t49 = true then
 (some (.inr (.inr 3))) else
 ((addc s 1).bind fun t42 =>
 some (.inl t42))) else
 (some (.inr (.inl ())))
def zy (c0 : Channel) (s_1 : Int) : Option (Int ⊕ (Unit ⊕ Int)) :=
 if s_1 < (c0.sights.length : Int) then
 ((ix c0.sights s_1).bind fun t60 =>
 (jF t60.after 0 c0.tides).bind fun t65 =>
 if t65 = true then
 (some (.inr (.inr 3))) else
 ((addc s_1 1).bind fun t56 =>
 some (.inl t56))) else
 (some (.inr (.inl ())))
def zF (c0 : Channel) (s_2 : Int) : Option (Int ⊕ (Unit ⊕ Int)) :=
 if s_2 < (c0.fords.length : Int) then
 ((ix c0.fords s_2).bind fun t76 =>
 (subc c0.cells 1).bind fun t80 =>
 (jF t76 0 t80).bind fun t81 =>
 if t81 = true then
 (some (.inr (.inr 1))) else
 ((addc s_2 1).bind fun t72 =>
 some (.inl t72))) else
 (some (.inr (.inl ())))
def zz (c0 : Channel) (s_3 : Int) : Option (Int ⊕ (Unit ⊕ Int)) :=
 if s_3 < (c0.sands.length : Int) then
 (((ix c0.sands s_3).bind fun t92 =>
 (subc c0.cells 1).bind fun t98 =>
 (jF t92.span.lo 0 t98).bind fun t99 =>
 if t99 = true then
 (some true) else
 ((ix c0.sands s_3).bind fun t104 =>
 (subc c0.cells 1).bind fun t110 =>
 (jF t104.span.hi 0 t110).bind fun t111 =>
 some t111)).bind fun o_5 =>
 if o_5 = true then
 (some (.inr (.inr 1))) else
 ((addc s_3 1).bind fun t88 =>
 some (.inl t88))) else
 (some (.inr (.inl ())))
def zE (c0 : Channel) (s_4 : Int) : Option (Int ⊕ (Unit ⊕ Int)) :=
 if s_4 < (c0.sights.length : Int) then
 ((ix c0.sights s_4).bind fun t123 =>
 (subc c0.cells 1).bind fun t128 =>
 (jF t123.cell 0 t128).bind fun t129 =>
 if t129 = true then
 (some (.inr (.inr 1))) else
 ((addc s_4 1).bind fun t119 =>
 some (.inl t119))) else
 (some (.inr (.inl ())))
def kS (c0 : Channel) (s_5 : Int) : Option (Int ⊕ (Unit ⊕ Int)) :=
 if s_5 < (c0.fords.length : Int) then
 ((ix c0.fords s_5).bind fun t140 =>
 (subc s_5 1).bind fun t145 =>
 (ix c0.fords t145).bind fun t146 =>
 if t140 ≤ t146 then
 (some (.inr (.inr 4))) else
 ((addc s_5 1).bind fun t136 =>
 some (.inl t136))) else
 (some (.inr (.inl ())))
def zB (c0 : Channel) (s_6 : Int) : Option (Int ⊕ (Unit ⊕ Int)) :=
 if s_6 < (c0.sands.length : Int) then
 ((ix c0.sands s_6).bind fun t159 =>
 (ix c0.sands s_6).bind fun t166 =>
 if t166.span.hi < t159.span.lo then
 (some (.inr (.inr 4))) else
 ((addc s_6 1).bind fun t155 =>
 some (.inl t155))) else
 (some (.inr (.inl ())))
def yB (c0 : Channel) : Option Int :=
 ((jF c0.cells 2 10).bind fun t12 =>
 if t12 = true then
 (some true) else
 ((jF c0.tides 0 4).bind fun t16 =>
 if t16 = true then
 (some true) else
 ((jF (c0.fords.length : Int) 1 3).bind fun t22 =>
 if t22 = true then
 (some true) else
 (if 4 < (c0.sands.length : Int) then
 (some true) else
 (some (decide (8 < (c0.sights.length : Int)))))))).bind fun o =>
 if o = true then
 (some 2) else
 ((iterM FU (zA c0) 0).bind fun o_1 =>
 oc o_1 (fun j => (iterM FU (zy c0) 0).bind fun o_2 =>
 oc o_2 (fun j_1 => (iterM FU (zF c0) 0).bind fun o_3 =>
 oc o_3 (fun j_2 => (iterM FU (zz c0) 0).bind fun o_4 =>
 oc o_4 (fun j_3 => (iterM FU (zE c0) 0).bind fun o_6 =>
 oc o_6 (fun j_4 => (iterM FU (kS c0) 1).bind fun o_7 =>
 oc o_7 (fun j_5 => (iterM FU (zB c0) 0).bind fun o_8 =>
 oc o_8 (fun j_6 => some 0) (fun r_7 => some r_7)) (fun r_8 => some r_8)) (fun r_9 => some r_9)) (fun r_10 => some r_10)) (fun r_11 => some r_11)) (fun r_12 => some r_12)) (fun r_13 => some r_13))
theorem QL (c0 : Channel) (qa0 : Option Addr) (na0 ca0 : Nat) (qa1 : Option Addr) (na1 ca1 : Nat) (qa2 : Option Addr) (na2 ca2 : Nat) (w : World) (hw : HV w (keys [] []) [] [] [(aB qa0, aO qa0, RI.enc c0.fords), (aB qa1, aO qa1, RSa.enc c0.sands), (aB qa2, aO qa2, RSi.enc c0.sights)] w) (hna0 : c0.fords.length = na0) (hqa0 : AOK na0 qa0) (hla0 : na0 ≤ ca0) (hna1 : c0.sands.length = na1) (hqa1 : AOK na1 qa1) (hla1 : na1 ≤ ca1) (hna2 : c0.sights.length = na2) (hqa2 : AOK na2 qa2) (hla2 : na2 ≤ ca2) {res : Int} (hm : yB c0 = some res) :
    Calls Tryz.prog 22 #[.agg #[.int .i64 c0.cells, .int .i64 c0.tides, .slice qa0 na0 ca0, .slice qa1 na1 ca1, .slice qa2 na2 ca2]] w (fun en w' => ∃ l : Unit, en = .returned (.int .i64 res) ∧ (True) ∧ HV w (keys [] []) [] [] [] w') := by
  unfold yB at hm
  refine qL func22 Y ntmps22 Y (e := [(0, _)]) Y hw (jr ?_)
  refine jG Y Y (fun b h1 => ?_)
  refine jo Y Y (jq (jh (jh ?_)))
  obtain ⟨o, h2, h3⟩ := bindO hm
  refine jM (ι := Unit) (fun l => True) (fun l => [(1, ptr b 0), (35, .bool o)]) (fun l => [kc b #[.int .i64 c0.cells, .int .i64 c0.tides, .slice qa0 na0 ca0, .slice qa1 na1 ca1, .slice qa2 na2 ca2] 33]) (fun l => []) ?_ ?_
  ·replace hm := h2
   refine jg (qV 0 runUnderlying33 Y sizeOf3 Y Y (qp 0 isAgg3 Y Y Y Y ?_))
   obtain ⟨t12, h4, hm⟩ := bindO hm
   refine jd [] [] Y Y Y Y Y Y Y call88 (fun w hh => kf c0.cells 2 10 w (HV.callee (S0 := []) (vs0 := []) hh roN)  h4) (fun l_1 h5 => ?_)
   refine jj Y Y ?_
   refine jW 13 Y (fun h6 => ?_) (fun h6 => ?_)
   ·replace hm := ifT (h6) hm
    refine g_k Y Y Y Y (g_k Y Y Y Y (g_k Y Y Y Y (zo Y Y Y (jj Y Y (g_k Y Y Y Y (g_k Y Y Y Y (g_k Y Y Y Y ?_)))))))
    refine g_k Y Y Y Y (zo Y Y Y (jj Y Y (g_k Y Y Y Y (g_k Y Y Y Y (g_k Y Y Y Y (g_k Y Y Y Y (zo Y Y Y ?_)))))))
    refine jj Y Y (g_k Y Y Y Y (g_k Y Y Y Y (g_k Y Y Y Y (g_k Y Y Y Y (zo Y Y Y (jx ?_))))))
    obtain rfl := sj hm
    exact jk () (trivial) (sE Y) (fun w hh => hh)
   replace hm := ifN h6 hm
   refine jb Y Y (qV 1 runUnderlying33 Y sizeOf3 Y Y (jb Y Y (qp 0 isAgg3 Y Y Y Y (jb Y Y ?_))))
   obtain ⟨t16, h7, hm⟩ := bindO hm
   refine jd [] [] Y Y Y Y Y Y Y call88 (fun w hh => kf c0.tides 0 4 w (HV.callee (S0 := []) (vs0 := []) hh roN)  h7) (fun l_2 h8 => ?_)
   refine yI Y Y Y (jj Y Y ?_)
   refine jW 18 Y (fun h9 => ?_) (fun h9 => ?_)
   ·replace hm := ifT (h9) hm
    refine g_k Y Y Y Y (g_k Y Y Y Y (g_k Y Y Y Y (g_k Y Y Y Y (zo Y Y Y (jj Y Y (g_k Y Y Y Y (g_k Y Y Y Y ?_)))))))
    refine g_k Y Y Y Y (g_k Y Y Y Y (zo Y Y Y (jj Y Y (g_k Y Y Y Y (g_k Y Y Y Y (g_k Y Y Y Y (g_k Y Y Y Y ?_)))))))
    refine zo Y Y Y (jx ?_)
    obtain rfl := sj hm
    exact jk () (trivial) (sE Y) (fun w hh => hh)
   replace hm := ifN h9 hm
   refine jb Y Y (qV 2 runUnderlying33 Y sizeOf22 Y Y (jb Y Y (qp 0 isAgg22 Y Y Y Y (jb Y Y (jc Y Y Y (fun w _ => jJ hna0 (runUnderlying22 w) Y) (jb Y Y ?_))))))
   obtain ⟨t22, h10, hm⟩ := bindO hm
   refine jd [] [] Y Y Y Y Y Y Y call88 (fun w hh => kf (c0.fords.length : Int) 1 3 w (HV.callee (S0 := []) (vs0 := []) hh roN)  h10) (fun l_3 h11 => ?_)
   refine yI Y Y Y (jj Y Y ?_)
   refine jW 24 Y (fun h12 => ?_) (fun h12 => ?_)
   ·replace hm := ifT (h12) hm
    refine g_k Y Y Y Y (g_k Y Y Y Y (g_k Y Y Y Y (g_k Y Y Y Y (zo Y Y Y (jj Y Y (g_k Y Y Y Y (g_k Y Y Y Y ?_)))))))
    refine g_k Y Y Y Y (g_k Y Y Y Y (zo Y Y Y (jx ?_)))
    obtain rfl := sj hm
    exact jk () (trivial) (sE Y) (fun w hh => hh)
   replace hm := ifN h12 hm
   refine jb Y Y (qV 3 runUnderlying33 Y sizeOf30 Y Y (jb Y Y (qp 0 isAgg30 Y Y Y Y (jb Y Y (jc Y Y Y (fun w _ => jJ hna1 (runUnderlying30 w) Y) (jb Y Y (jc Y Y Y (fun _ _ => QI Y Y) ?_)))))))
   refine yI Y Y Y (jj Y Y ?_)
   refine jW 30 Y (fun h13 => ?_) (fun h13 => ?_)
   ·replace hm := ifD h13 hm
    refine g_k Y Y Y Y (g_k Y Y Y Y (g_k Y Y Y Y (g_k Y Y Y Y (zo Y Y Y (jx ?_)))))
    obtain rfl := sj hm
    exact jk () (trivial) (sE Y) (fun w hh => hh)
   replace hm := ifE h13 hm
   refine jb Y Y (qV 4 runUnderlying33 Y sizeOf31 Y Y (jb Y Y (qp 0 isAgg31 Y Y Y Y (jb Y Y (jc Y Y Y (fun w _ => jJ hna2 (runUnderlying31 w) Y) (jb Y Y (jc Y Y Y (fun _ _ => QI Y Y) ?_)))))))
   refine yI Y Y Y (jx ?_)
   obtain rfl := sj hm
   exact jk () (trivial) (sE Y) (fun w hh => hh)
  intro l hj
  replace hm := h3
  refine ja ?_
  refine js Y (fun h14 => ?_) (fun h14 => ?_)
  ·replace hm := ifT (h14) hm
   refine jr (jo Y Y (jq (jv (je ?_))))
   obtain rfl := sj hm
   refine jm Y (fun w hh => (.tmp Y .nil)) (fun w hh => ⟨(), rfl, trivial, hh.se [] [] 3 Y Y Y rfl⟩)
  replace hm := ifN h14 hm
  refine jt (ja (jh (jr (jo Y Y (jq ?_)))))
  obtain ⟨o_1, h15, h16⟩ := bindO hm
  refine jM (ι := Unit) (fun j => o_1 = .inl j) (fun j => [(1, ptr b 0)]) (fun j => [kc b #[.int .i64 c0.cells, .int .i64 c0.tides, .slice qa0 na0 ca0, .slice qa1 na1 ca1, .slice qa2 na2 ca2] 33]) (fun j => []) ?_ ?_
  ·replace hm := h15
   refine jl ?_
   refine jK (ι := Unit) hm (fun s l_4 => True) (fun s l_4 => [(1, ptr b 0), (3, .int .i64 s)]) (fun s l_4 => [kc b #[.int .i64 c0.cells, .int .i64 c0.tides, .slice qa0 na0 ca0, .slice qa1 na1 ca1, .slice qa2 na2 ca2] 33]) (fun s l_4 => []) () (trivial) (sE Y) (fun w hh => hh) (fun s l_4 r hpl hm h17 => ?_)
   unfold zA at hm
   refine jh (jr (jj Y Y (qV 3 runUnderlying33 Y sizeOf30 Y Y (qp 0 isAgg30 Y Y Y Y (jc Y Y Y (fun w _ => jJ hna1 (runUnderlying30 w) Y) (Kc Y Y Y (jq ?_)))))))
   refine js Y (fun h18 => ?_) (fun h18 => ?_)
   ·replace hm := ifD h18 hm
    refine jt (ja (jh (jl (jr (qV 3 runUnderlying33 Y sizeOf30 Y Y (qp 0 isAgg30 Y Y Y Y (jj Y Y ?_)))))))
    obtain ⟨t46, h19, hm⟩ := bindO hm
    refine jc Y Y Y (fun w _ => qM h19 (runUnderlying30 w) (sizeOf138 w) Y Y hna1 hqa1) (qV 2 runUnderlying138 Y sizeOf3 Y Y (jc Y Y Y (fun w hh => qy RSa 2 h19 (isAgg3 w) Y (hh.seg 1 Y) Y Y) ?_))
    obtain ⟨t49, h20, hm⟩ := bindO hm
    refine jd [] [] Y Y Y Y Y Y Y call88 (fun w hh => kf t46.reach 1 2 w (HV.callee (S0 := []) (vs0 := []) hh roN)  h20) (fun l_5 h21 => ?_)
    refine jq ?_
    refine js Y (fun h22 => ?_) (fun h22 => ?_)
    ·replace hm := ifT (h22) hm
     refine jr (jo Y Y (jq (jv (jz (je (je (jz ?_)))))))
     obtain rfl := sj hm
     have hbo := h17 _ Y
     subst hbo
     refine je ?_
     replace hm := ocR h16
     refine je ?_
     obtain rfl := sj hm
     refine jm Y (fun w hh => (.tmp Y .nil)) (fun w hh => ⟨(), rfl, trivial, hh.se [] [] 3 Y Y Y rfl⟩)
    replace hm := ifN h22 hm
    refine jt (jw (ja (jg (jj Y Y ?_))))
    obtain ⟨t42, h23, hm⟩ := bindO hm
    refine JV h23 Y Y Y (jo Y Y (jx ?_))
    obtain rfl := sj hm
    refine ja ?_
    exact jA _ () Y (trivial) (sE Y) (fun w hh => hh)
   replace hm := ifE h18 hm
   refine jV (ji (ji (jC ?_)))
   obtain rfl := sj hm
   have hbo := h17 _ Y
   subst hbo
   exact jk () (Y) (sE Y) (fun w hh => hh)
  intro j hj
  have h24 := hj
  subst h24
  replace hm := ocL h16
  refine ja (jh (jr (jo Y Y (jq ?_))))
  obtain ⟨o_2, h25, h26⟩ := bindO hm
  refine jM (ι := Unit) (fun j_1 => o_2 = .inl j_1) (fun j_1 => [(1, ptr b 0)]) (fun j_1 => [kc b #[.int .i64 c0.cells, .int .i64 c0.tides, .slice qa0 na0 ca0, .slice qa1 na1 ca1, .slice qa2 na2 ca2] 33]) (fun j_1 => []) ?_ ?_
  ·replace hm := h25
   refine jl ?_
   refine jK (ι := Unit) hm (fun s_1 l_6 => True) (fun s_1 l_6 => [(1, ptr b 0), (4, .int .i64 s_1)]) (fun s_1 l_6 => [kc b #[.int .i64 c0.cells, .int .i64 c0.tides, .slice qa0 na0 ca0, .slice qa1 na1 ca1, .slice qa2 na2 ca2] 33]) (fun s_1 l_6 => []) () (trivial) (sE Y) (fun w hh => hh) (fun s_1 l_6 r_1 hpl hm h27 => ?_)
   unfold zy at hm
   refine jh (jr (jj Y Y (qV 4 runUnderlying33 Y sizeOf31 Y Y (qp 0 isAgg31 Y Y Y Y (jc Y Y Y (fun w _ => jJ hna2 (runUnderlying31 w) Y) (Kc Y Y Y (jq ?_)))))))
   refine js Y (fun h28 => ?_) (fun h28 => ?_)
   ·replace hm := ifD h28 hm
    refine jt (ja (jh (jl (jh ?_))))
    refine j3 none (.free 0 (.hoist 1 (.free 2 (.free 3 (.free 4 (.hoist 5 (.free 6 (.hoist 7 (.one 8 .done))))))))) _ Y (by decide +kernel) (fun w k hh => hh.draw k) (fun w hh => hh) ?_
    refine KA 4 runUnderlying33 sizeOf31 Y Y Y Y (QA 0 isAgg31 Y Y Y Y Y (qD Y Y Y ?_))
    obtain ⟨t60, h29, hm⟩ := bindO hm
    refine jp Y Y Y Y (fun w _ => qM h29 (runUnderlying31 w) (sizeOf139 w) Y Y hna2 hqa2) (KA 0 runUnderlying139 sizeOf3 Y Y Y Y (jy Y Y Y Y (fun w hh => qy RSi 0 h29 (isAgg3 w) Y (hh.seg 2 Y) Y Y) (KA 1 runUnderlying33 sizeOf3 Y Y Y Y (QA 0 isAgg3 Y Y Y Y Y (jD Y ?_)))))
    obtain ⟨t65, h30, hm⟩ := bindO hm
    refine jd [] [] Y Y Y Y Y Y Y call88 (fun w hh => kf t60.after 0 c0.tides w (HV.callee (S0 := []) (vs0 := []) hh roN)  h30) (fun l_7 h31 => ?_)
    refine jn (fun w hh => hh) (jH (ja ?_))
    refine js Y (fun h32 => ?_) (fun h32 => ?_)
    ·replace hm := ifT (h32) hm
     refine jr (jo Y Y (jq (jv (jz (je (je (jz ?_)))))))
     obtain rfl := sj hm
     have hbo := h27 _ Y
     subst hbo
     refine je ?_
     replace hm := ocR h26
     refine je ?_
     obtain rfl := sj hm
     refine jm Y (fun w hh => (.tmp Y .nil)) (fun w hh => ⟨(), rfl, trivial, hh.se [] [] 3 Y Y Y rfl⟩)
    replace hm := ifN h32 hm
    refine jt (jw (ja (jg (jj Y Y ?_))))
    obtain ⟨t56, h33, hm⟩ := bindO hm
    refine JV h33 Y Y Y (jo Y Y (jx ?_))
    obtain rfl := sj hm
    refine ja ?_
    exact jA _ () Y (trivial) (sE Y) (fun w hh => hh)
   replace hm := ifE h28 hm
   refine jV (ji (ji (jC ?_)))
   obtain rfl := sj hm
   have hbo := h27 _ Y
   subst hbo
   exact jk () (Y) (sE Y) (fun w hh => hh)
  intro j_1 hj
  have h34 := hj
  subst h34
  replace hm := ocL h26
  refine ja (jh (jr (jo Y Y (jq ?_))))
  obtain ⟨o_3, h35, h36⟩ := bindO hm
  refine jM (ι := Unit) (fun j_2 => o_3 = .inl j_2) (fun j_2 => [(1, ptr b 0)]) (fun j_2 => [kc b #[.int .i64 c0.cells, .int .i64 c0.tides, .slice qa0 na0 ca0, .slice qa1 na1 ca1, .slice qa2 na2 ca2] 33]) (fun j_2 => []) ?_ ?_
  ·replace hm := h35
   refine jl ?_
   refine jK (ι := Unit) hm (fun s_2 l_8 => True) (fun s_2 l_8 => [(1, ptr b 0), (5, .int .i64 s_2)]) (fun s_2 l_8 => [kc b #[.int .i64 c0.cells, .int .i64 c0.tides, .slice qa0 na0 ca0, .slice qa1 na1 ca1, .slice qa2 na2 ca2] 33]) (fun s_2 l_8 => []) () (trivial) (sE Y) (fun w hh => hh) (fun s_2 l_8 r_2 hpl hm h37 => ?_)
   unfold zF at hm
   refine jh (jr (jj Y Y (qV 2 runUnderlying33 Y sizeOf22 Y Y (qp 0 isAgg22 Y Y Y Y (jc Y Y Y (fun w _ => jJ hna0 (runUnderlying22 w) Y) (Kc Y Y Y (jq ?_)))))))
   refine js Y (fun h38 => ?_) (fun h38 => ?_)
   ·replace hm := ifD h38 hm
    refine jt (ja (jh (jl (jh ?_))))
    refine j3 none (.free 0 (.hoist 1 (.free 2 (.free 3 (.hoist 4 (.free 5 (.hoist 6 (.free 7 (.one 8 .done))))))))) _ Y (by decide +kernel) (fun w k hh => hh.draw k) (fun w hh => hh) ?_
    refine KA 2 runUnderlying33 sizeOf22 Y Y Y Y (QA 0 isAgg22 Y Y Y Y Y (qD Y Y Y ?_))
    obtain ⟨t76, h39, hm⟩ := bindO hm
    refine jp Y Y Y Y (fun w _ => qM h39 (runUnderlying22 w) (sizeOf3 w) Y Y hna0 hqa0) (jy Y Y Y Y (fun w hh => qy RI 0 h39 (isAgg3 w) Y (hh.seg 0 Y) Y (Nat.add_zero _).symm) (KA 0 runUnderlying33 sizeOf3 Y Y Y Y (QA 0 isAgg3 Y Y Y Y Y ?_)))
    obtain ⟨t80, h40, hm⟩ := bindO hm
    refine jp Y Y Y Y (fun _ _ => Jm h40 Y Y) (jD Y ?_)
    obtain ⟨t81, h41, hm⟩ := bindO hm
    refine jd [] [] Y Y Y Y Y Y Y call88 (fun w hh => kf t76 0 t80 w (HV.callee (S0 := []) (vs0 := []) hh roN)  h41) (fun l_9 h42 => ?_)
    refine jn (fun w hh => hh) (jH (ja ?_))
    refine js Y (fun h43 => ?_) (fun h43 => ?_)
    ·replace hm := ifT (h43) hm
     refine jr (jo Y Y (jq (jv (jz (je (je (jz ?_)))))))
     obtain rfl := sj hm
     have hbo := h37 _ Y
     subst hbo
     refine je ?_
     replace hm := ocR h36
     refine je ?_
     obtain rfl := sj hm
     refine jm Y (fun w hh => (.tmp Y .nil)) (fun w hh => ⟨(), rfl, trivial, hh.se [] [] 3 Y Y Y rfl⟩)
    replace hm := ifN h43 hm
    refine jt (jw (ja (jg (jj Y Y ?_))))
    obtain ⟨t72, h44, hm⟩ := bindO hm
    refine JV h44 Y Y Y (jo Y Y (jx ?_))
    obtain rfl := sj hm
    refine ja ?_
    exact jA _ () Y (trivial) (sE Y) (fun w hh => hh)
   replace hm := ifE h38 hm
   refine jV (ji (ji (jC ?_)))
   obtain rfl := sj hm
   have hbo := h37 _ Y
   subst hbo
   exact jk () (Y) (sE Y) (fun w hh => hh)
  intro j_2 hj
  have h45 := hj
  subst h45
  replace hm := ocL h36
  refine ja (jh (jr (jo Y Y (jq ?_))))
  obtain ⟨o_4, h46, h47⟩ := bindO hm
  refine jM (ι := Unit) (fun j_3 => o_4 = .inl j_3) (fun j_3 => [(1, ptr b 0)]) (fun j_3 => [kc b #[.int .i64 c0.cells, .int .i64 c0.tides, .slice qa0 na0 ca0, .slice qa1 na1 ca1, .slice qa2 na2 ca2] 33]) (fun j_3 => []) ?_ ?_
  ·replace hm := h46
   refine jl ?_
   refine jK (ι := Unit) hm (fun s_3 l_10 => True) (fun s_3 l_10 => [(1, ptr b 0), (6, .int .i64 s_3)]) (fun s_3 l_10 => [kc b #[.int .i64 c0.cells, .int .i64 c0.tides, .slice qa0 na0 ca0, .slice qa1 na1 ca1, .slice qa2 na2 ca2] 33]) (fun s_3 l_10 => []) () (trivial) (sE Y) (fun w hh => hh) (fun s_3 l_10 r_3 hpl hm h48 => ?_)
   unfold zz at hm
   refine jh (jr (jj Y Y (qV 3 runUnderlying33 Y sizeOf30 Y Y (qp 0 isAgg30 Y Y Y Y (jc Y Y Y (fun w _ => jJ hna1 (runUnderlying30 w) Y) (Kc Y Y Y (jq ?_)))))))
   refine js Y (fun h49 => ?_) (fun h49 => ?_)
   ·replace hm := ifD h49 hm
    refine jt (ja (jh (jl (jh ?_))))
    obtain ⟨o_5, h50, h51⟩ := bindO hm
    refine jM (ι := Unit) (fun l_11 => True) (fun l_11 => [(1, ptr b 0), (6, .int .i64 s_3), (112, .bool o_5)]) (fun l_11 => [kc b #[.int .i64 c0.cells, .int .i64 c0.tides, .slice qa0 na0 ca0, .slice qa1 na1 ca1, .slice qa2 na2 ca2] 33]) (fun l_11 => []) ?_ ?_
    ·replace hm := h50
     refine j3 none (.free 0 (.hoist 1 (.free 2 (.free 3 (.free 4 (.free 5 (.hoist 6 (.free 7 (.hoist 8 (.free 9 (.one 10 (.free 11 (.free 12 (.hoist 13 (.free 14 (.free 15 (.free 16 (.free 17 (.hoist 18 (.free 19 (.hoist 20 (.free 21 (.one 22 (.free 23 .done)))))))))))))))))))))))) _ Y (by decide +kernel) (fun w k hh => hh.draw k) (fun w hh => hh) ?_
     refine KA 3 runUnderlying33 sizeOf30 Y Y Y Y (QA 0 isAgg30 Y Y Y Y Y (qD Y Y Y ?_))
     obtain ⟨t92, h52, hm⟩ := bindO hm
     refine jp Y Y Y Y (fun w _ => qM h52 (runUnderlying30 w) (sizeOf138 w) Y Y hna1 hqa1) (KA 0 runUnderlying138 sizeOf50 Y Y Y Y (KA 0 runUnderlying50 sizeOf3 Y Y Y Y (jy Y Y Y Y (fun w hh => qy RSa 0 h52 (isAgg3 w) Y (hh.seg 1 Y) Y (by first | rfl | simp only [Nat.add_assoc])) (KA 0 runUnderlying33 sizeOf3 Y Y Y Y (QA 0 isAgg3 Y Y Y Y Y ?_)))))
     obtain ⟨t98, h53, hm⟩ := bindO hm
     refine jp Y Y Y Y (fun _ _ => Jm h53 Y Y) (jD Y ?_)
     obtain ⟨t99, h54, hm⟩ := bindO hm
     refine jd [] [] Y Y Y Y Y Y Y call88 (fun w hh => kf t92.span.lo 0 t98 w (HV.callee (S0 := []) (vs0 := []) hh roN)  h54) (fun l_12 h55 => ?_)
     refine jn (fun w hh => hh) (qD Y Y Y ?_)
     refine jW 100 Y (fun h56 => ?_) (fun h56 => ?_)
     ·replace hm := ifT (h56) hm
      refine jE Y Y Y Y Y Y Y (yz Y Y Y Y Y Y Y (jE Y Y Y Y Y Y Y (jE Y Y Y Y Y Y Y (jE Y Y Y Y Y Y Y (jE Y Y Y Y Y Y Y (yz Y Y Y Y Y Y Y (jE Y Y Y Y Y Y Y ?_)))))))
      refine yz Y Y Y Y Y Y Y (jE Y Y Y Y Y Y Y (jD Y (g_k Y Y Y Y (jn (fun w hh => hh) (jp Y Y Y Y (fun _ _ => JU Y Y) (jH ?_))))))
      obtain rfl := sj hm
      exact jk () (trivial) (sE Y) (fun w hh => hh)
     replace hm := ifN h56 hm
     refine jN Y Y Y Y Y Y (fun w _ => jI 3 (runUnderlying33 w) Y (sizeOf30 w) Y) (k8 Y Y Y Y Y Y (fun w hh => jB (isAgg30 w) Y (hh.cell 0 Y Y)) (jN Y Y Y Y Y Y (fun _ _ => kd Y) ?_))
     obtain ⟨t104, h57, hm⟩ := bindO hm
     refine jN Y Y Y Y Y Y (fun w _ => qM h57 (runUnderlying30 w) (sizeOf138 w) Y Y hna1 hqa1) (jN Y Y Y Y Y Y (fun w _ => jI 0 (runUnderlying138 w) Y (sizeOf50 w) Y) (jN Y Y Y Y Y Y (fun w _ => jI 1 (runUnderlying50 w) Y (sizeOf3 w) Y) (k8 Y Y Y Y Y Y (fun w hh => qy RSa 1 h57 (isAgg3 w) Y (hh.seg 1 Y) Y (by first | rfl | simp only [Nat.add_assoc])) (jN Y Y Y Y Y Y (fun w _ => jI 0 (runUnderlying33 w) Y (sizeOf3 w) Y) (k8 Y Y Y Y Y Y (fun w hh => jB (isAgg3 w) Y (hh.cell 0 Y Y)) ?_)))))
     obtain ⟨t110, h58, hm⟩ := bindO hm
     refine jN Y Y Y Y Y Y (fun _ _ => Jm h58 Y Y) (jD Y (jb Y Y ?_))
     obtain ⟨t111, h59, hm⟩ := bindO hm
     refine jd [] [] Y Y Y Y Y Y Y call88 (fun w hh => kf t104.span.hi 0 t110 w (HV.callee (S0 := []) (vs0 := []) hh roN)  h59) (fun l_13 h60 => ?_)
     refine jn (fun w hh => hh) (jp Y Y Y Y (fun _ _ => zP Y Y) (jH ?_))
     obtain rfl := sj hm
     exact jk () (trivial) (sE Y) (fun w hh => hh)
    intro l_11 hj
    replace hm := h51
    refine ja ?_
    refine js Y (fun h61 => ?_) (fun h61 => ?_)
    ·replace hm := ifT (h61) hm
     refine jr (jo Y Y (jq (jv (jz (je (je (jz ?_)))))))
     obtain rfl := sj hm
     have hbo := h48 _ Y
     subst hbo
     refine je ?_
     replace hm := ocR h47
     refine je ?_
     obtain rfl := sj hm
     refine jm Y (fun w hh => (.tmp Y .nil)) (fun w hh => ⟨(), rfl, trivial, hh.se [] [] 3 Y Y Y rfl⟩)
    replace hm := ifN h61 hm
    refine jt (jw (ja (jg (jj Y Y ?_))))
    obtain ⟨t88, h62, hm⟩ := bindO hm
    refine JV h62 Y Y Y (jo Y Y (jx ?_))
    obtain rfl := sj hm
    refine ja ?_
    exact jA _ () Y (trivial) (sE Y) (fun w hh => hh)
   replace hm := ifE h49 hm
   refine jV (ji (ji (jC ?_)))
   obtain rfl := sj hm
   have hbo := h48 _ Y
   subst hbo
   exact jk () (Y) (sE Y) (fun w hh => hh)
  intro j_3 hj
  have h63 := hj
  subst h63
  replace hm := ocL h47
  refine ja (jh (jr (jo Y Y (jq ?_))))
  obtain ⟨o_6, h64, h65⟩ := bindO hm
  refine jM (ι := Unit) (fun j_4 => o_6 = .inl j_4) (fun j_4 => [(1, ptr b 0)]) (fun j_4 => [kc b #[.int .i64 c0.cells, .int .i64 c0.tides, .slice qa0 na0 ca0, .slice qa1 na1 ca1, .slice qa2 na2 ca2] 33]) (fun j_4 => []) ?_ ?_
  ·replace hm := h64
   refine jl ?_
   refine jK (ι := Unit) hm (fun s_4 l_14 => True) (fun s_4 l_14 => [(1, ptr b 0), (7, .int .i64 s_4)]) (fun s_4 l_14 => [kc b #[.int .i64 c0.cells, .int .i64 c0.tides, .slice qa0 na0 ca0, .slice qa1 na1 ca1, .slice qa2 na2 ca2] 33]) (fun s_4 l_14 => []) () (trivial) (sE Y) (fun w hh => hh) (fun s_4 l_14 r_4 hpl hm h66 => ?_)
   unfold zE at hm
   refine jh (jr (jj Y Y (qV 4 runUnderlying33 Y sizeOf31 Y Y (qp 0 isAgg31 Y Y Y Y (jc Y Y Y (fun w _ => jJ hna2 (runUnderlying31 w) Y) (Kc Y Y Y (jq ?_)))))))
   refine js Y (fun h67 => ?_) (fun h67 => ?_)
   ·replace hm := ifD h67 hm
    refine jt (ja (jh (jl (jh ?_))))
    refine j3 none (.free 0 (.hoist 1 (.free 2 (.free 3 (.free 4 (.hoist 5 (.free 6 (.hoist 7 (.free 8 (.one 9 .done)))))))))) _ Y (by decide +kernel) (fun w k hh => hh.draw k) (fun w hh => hh) ?_
    refine KA 4 runUnderlying33 sizeOf31 Y Y Y Y (QA 0 isAgg31 Y Y Y Y Y (qD Y Y Y ?_))
    obtain ⟨t123, h68, hm⟩ := bindO hm
    refine jp Y Y Y Y (fun w _ => qM h68 (runUnderlying31 w) (sizeOf139 w) Y Y hna2 hqa2) (KA 1 runUnderlying139 sizeOf3 Y Y Y Y (jy Y Y Y Y (fun w hh => qy RSi 1 h68 (isAgg3 w) Y (hh.seg 2 Y) Y Y) (KA 0 runUnderlying33 sizeOf3 Y Y Y Y (QA 0 isAgg3 Y Y Y Y Y ?_))))
    obtain ⟨t128, h69, hm⟩ := bindO hm
    refine jp Y Y Y Y (fun _ _ => Jm h69 Y Y) (jD Y ?_)
    obtain ⟨t129, h70, hm⟩ := bindO hm
    refine jd [] [] Y Y Y Y Y Y Y call88 (fun w hh => kf t123.cell 0 t128 w (HV.callee (S0 := []) (vs0 := []) hh roN)  h70) (fun l_15 h71 => ?_)
    refine jn (fun w hh => hh) (jH (ja ?_))
    refine js Y (fun h72 => ?_) (fun h72 => ?_)
    ·replace hm := ifT (h72) hm
     refine jr (jo Y Y (jq (jv (jz (je (je (jz ?_)))))))
     obtain rfl := sj hm
     have hbo := h66 _ Y
     subst hbo
     refine je ?_
     replace hm := ocR h65
     refine je ?_
     obtain rfl := sj hm
     refine jm Y (fun w hh => (.tmp Y .nil)) (fun w hh => ⟨(), rfl, trivial, hh.se [] [] 3 Y Y Y rfl⟩)
    replace hm := ifN h72 hm
    refine jt (jw (ja (jg (jj Y Y ?_))))
    obtain ⟨t119, h73, hm⟩ := bindO hm
    refine JV h73 Y Y Y (jo Y Y (jx ?_))
    obtain rfl := sj hm
    refine ja ?_
    exact jA _ () Y (trivial) (sE Y) (fun w hh => hh)
   replace hm := ifE h67 hm
   refine jV (ji (ji (jC ?_)))
   obtain rfl := sj hm
   have hbo := h66 _ Y
   subst hbo
   exact jk () (Y) (sE Y) (fun w hh => hh)
  intro j_4 hj
  have h74 := hj
  subst h74
  replace hm := ocL h65
  refine ja (jh (jr (jo Y Y (jq ?_))))
  obtain ⟨o_7, h75, h76⟩ := bindO hm
  refine jM (ι := Unit) (fun j_5 => o_7 = .inl j_5) (fun j_5 => [(1, ptr b 0)]) (fun j_5 => [kc b #[.int .i64 c0.cells, .int .i64 c0.tides, .slice qa0 na0 ca0, .slice qa1 na1 ca1, .slice qa2 na2 ca2] 33]) (fun j_5 => []) ?_ ?_
  ·replace hm := h75
   refine jl ?_
   refine jK (ι := Unit) hm (fun s_5 l_16 => True) (fun s_5 l_16 => [(1, ptr b 0), (8, .int .i64 s_5)]) (fun s_5 l_16 => [kc b #[.int .i64 c0.cells, .int .i64 c0.tides, .slice qa0 na0 ca0, .slice qa1 na1 ca1, .slice qa2 na2 ca2] 33]) (fun s_5 l_16 => []) () (trivial) (sE Y) (fun w hh => hh) (fun s_5 l_16 r_5 hpl hm h77 => ?_)
   unfold kS at hm
   refine jh (jr (jj Y Y (qV 2 runUnderlying33 Y sizeOf22 Y Y (qp 0 isAgg22 Y Y Y Y (jc Y Y Y (fun w _ => jJ hna0 (runUnderlying22 w) Y) (Kc Y Y Y (jq ?_)))))))
   refine js Y (fun h78 => ?_) (fun h78 => ?_)
   ·replace hm := ifD h78 hm
    refine jt (ja (jh (jl (jh ?_))))
    refine j3 none (.free 0 (.hoist 1 (.free 2 (.free 3 (.hoist 4 (.free 5 (.hoist 6 (.free 7 (.free 8 (.free 9 (.hoist 10 (.free 11 .done)))))))))))) _ Y (by decide +kernel) (fun w k hh => hh.draw k) (fun w hh => hh) ?_
    refine KA 2 runUnderlying33 sizeOf22 Y Y Y Y (QA 0 isAgg22 Y Y Y Y Y (qD Y Y Y ?_))
    obtain ⟨t140, h79, hm⟩ := bindO hm
    refine jp Y Y Y Y (fun w _ => qM h79 (runUnderlying22 w) (sizeOf3 w) Y Y hna0 hqa0) (jy Y Y Y Y (fun w hh => qy RI 0 h79 (isAgg3 w) Y (hh.seg 0 Y) Y (Nat.add_zero _).symm) (KA 2 runUnderlying33 sizeOf22 Y Y Y Y (QA 0 isAgg22 Y Y Y Y Y (qD Y Y Y ?_))))
    obtain ⟨t145, h80, hm⟩ := bindO hm
    refine jp Y Y Y Y (fun _ _ => Jm h80 Y Y) ?_
    obtain ⟨t146, h81, hm⟩ := bindO hm
    refine jp Y Y Y Y (fun w _ => qM h81 (runUnderlying22 w) (sizeOf3 w) Y Y hna0 hqa0) (jy Y Y Y Y (fun w hh => qy RI 0 h81 (isAgg3 w) Y (hh.seg 0 Y) Y (Nat.add_zero _).symm) (jp Y Y Y Y (fun _ _ => jak Y Y) (jH (ja ?_))))
    refine js Y (fun h82 => ?_) (fun h82 => ?_)
    ·replace hm := ifD h82 hm
     refine jr (jo Y Y (jq (jv (jz (je (je (jz ?_)))))))
     obtain rfl := sj hm
     have hbo := h77 _ Y
     subst hbo
     refine je ?_
     replace hm := ocR h76
     refine je ?_
     obtain rfl := sj hm
     refine jm Y (fun w hh => (.tmp Y .nil)) (fun w hh => ⟨(), rfl, trivial, hh.se [] [] 3 Y Y Y rfl⟩)
    replace hm := ifE h82 hm
    refine jt (jw (ja (jg (jj Y Y ?_))))
    obtain ⟨t136, h83, hm⟩ := bindO hm
    refine JV h83 Y Y Y (jo Y Y (jx ?_))
    obtain rfl := sj hm
    refine ja ?_
    exact jA _ () Y (trivial) (sE Y) (fun w hh => hh)
   replace hm := ifE h78 hm
   refine jV (ji (ji (jC ?_)))
   obtain rfl := sj hm
   have hbo := h77 _ Y
   subst hbo
   exact jk () (Y) (sE Y) (fun w hh => hh)
  intro j_5 hj
  have h84 := hj
  subst h84
  replace hm := ocL h76
  refine ja (jh (jr (jo Y Y (jq ?_))))
  obtain ⟨o_8, h85, h86⟩ := bindO hm
  refine jM (ι := Unit) (fun j_6 => o_8 = .inl j_6) (fun j_6 => []) (fun j_6 => [kc b #[.int .i64 c0.cells, .int .i64 c0.tides, .slice qa0 na0 ca0, .slice qa1 na1 ca1, .slice qa2 na2 ca2] 33]) (fun j_6 => []) ?_ ?_
  ·replace hm := h85
   refine jl ?_
   refine jK (ι := Unit) hm (fun s_6 l_17 => True) (fun s_6 l_17 => [(1, ptr b 0), (9, .int .i64 s_6)]) (fun s_6 l_17 => [kc b #[.int .i64 c0.cells, .int .i64 c0.tides, .slice qa0 na0 ca0, .slice qa1 na1 ca1, .slice qa2 na2 ca2] 33]) (fun s_6 l_17 => []) () (trivial) (sE Y) (fun w hh => hh) (fun s_6 l_17 r_6 hpl hm h87 => ?_)
   unfold zB at hm
   refine jh (jr (jj Y Y (qV 3 runUnderlying33 Y sizeOf30 Y Y (qp 0 isAgg30 Y Y Y Y (jc Y Y Y (fun w _ => jJ hna1 (runUnderlying30 w) Y) (Kc Y Y Y (jq ?_)))))))
   refine js Y (fun h88 => ?_) (fun h88 => ?_)
   ·replace hm := ifD h88 hm
    refine jt (ja (jh (jl (jh ?_))))
    refine j3 none (.free 0 (.hoist 1 (.free 2 (.free 3 (.free 4 (.free 5 (.hoist 6 (.free 7 (.hoist 8 (.free 9 (.free 10 (.free 11 (.free 12 (.hoist 13 (.free 14 .done))))))))))))))) _ Y (by decide +kernel) (fun w k hh => hh.draw k) (fun w hh => hh) ?_
    refine KA 3 runUnderlying33 sizeOf30 Y Y Y Y (QA 0 isAgg30 Y Y Y Y Y (qD Y Y Y ?_))
    obtain ⟨t159, h89, hm⟩ := bindO hm
    refine jp Y Y Y Y (fun w _ => qM h89 (runUnderlying30 w) (sizeOf138 w) Y Y hna1 hqa1) (KA 0 runUnderlying138 sizeOf50 Y Y Y Y (KA 0 runUnderlying50 sizeOf3 Y Y Y Y (jy Y Y Y Y (fun w hh => qy RSa 0 h89 (isAgg3 w) Y (hh.seg 1 Y) Y (by first | rfl | simp only [Nat.add_assoc])) (KA 3 runUnderlying33 sizeOf30 Y Y Y Y (QA 0 isAgg30 Y Y Y Y Y (qD Y Y Y ?_))))))
    obtain ⟨t166, h90, hm⟩ := bindO hm
    refine jp Y Y Y Y (fun w _ => qM h90 (runUnderlying30 w) (sizeOf138 w) Y Y hna1 hqa1) (KA 0 runUnderlying138 sizeOf50 Y Y Y Y (KA 1 runUnderlying50 sizeOf3 Y Y Y Y (jy Y Y Y Y (fun w hh => qy RSa 1 h90 (isAgg3 w) Y (hh.seg 1 Y) Y (by first | rfl | simp only [Nat.add_assoc])) (jp Y Y Y Y (fun _ _ => QI Y Y) (jH (ja ?_))))))
    refine js Y (fun h91 => ?_) (fun h91 => ?_)
    ·replace hm := ifD h91 hm
     refine jr (jo Y Y (jq (jv (jz (je (je (jz ?_)))))))
     obtain rfl := sj hm
     have hbo := h87 _ Y
     subst hbo
     refine je ?_
     replace hm := ocR h86
     refine je ?_
     obtain rfl := sj hm
     refine jm Y (fun w hh => (.tmp Y .nil)) (fun w hh => ⟨(), rfl, trivial, hh.se [] [] 3 Y Y Y rfl⟩)
    replace hm := ifE h91 hm
    refine jt (jw (ja (jg (jj Y Y ?_))))
    obtain ⟨t155, h92, hm⟩ := bindO hm
    refine JV h92 Y Y Y (jo Y Y (jx ?_))
    obtain rfl := sj hm
    refine ja ?_
    exact jA _ () Y (trivial) (sE Y) (fun w hh => hh)
   replace hm := ifE h88 hm
   refine jV (ji (ji (jC ?_)))
   obtain rfl := sj hm
   have hbo := h87 _ Y
   subst hbo
   exact jk () (Y) (.nil) (fun w hh => hh)
  intro j_6 hj
  have h93 := hj
  subst h93
  replace hm := ocL h86
  refine ja (jr (jo Y Y (jq (jv ?_))))
  obtain rfl := sj hm
  refine jm Y (fun w hh => (.tmp Y .nil)) (fun w hh => ⟨(), rfl, trivial, hh.se [] [] 3 Y Y Y rfl⟩)
structure qd where
  n3 : Int
  i4 : Int
def qa (c0 : Channel) (s : qd) : Option (qd ⊕ Int) :=
 if s.i4 < (c0.sights.length : Int) then
 ((mulc 2 s.n3).bind fun t13 =>
 (addc s.i4 1).bind fun t11 =>
 some (.inl (⟨t13, t11⟩ : qd))) else
 (some (.inr s.n3))
def jZ (c0 : Channel) : Option Int :=
 (iterM FU (qa c0) (⟨1, 0⟩ : qd)).bind fun o =>
 (subc o 1).bind fun t15 =>
 some t15
theorem yN (c0 : Channel) (qa0 : Option Addr) (na0 ca0 : Nat) (qa1 : Option Addr) (na1 ca1 : Nat) (qa2 : Option Addr) (na2 ca2 : Nat) (w : World) (hw : HV w (keys [] []) [] [] [(aB qa0, aO qa0, RI.enc c0.fords), (aB qa1, aO qa1, RSa.enc c0.sands), (aB qa2, aO qa2, RSi.enc c0.sights)] w) (hna0 : c0.fords.length = na0) (hqa0 : AOK na0 qa0) (hla0 : na0 ≤ ca0) (hna1 : c0.sands.length = na1) (hqa1 : AOK na1 qa1) (hla1 : na1 ≤ ca1) (hna2 : c0.sights.length = na2) (hqa2 : AOK na2 qa2) (hla2 : na2 ≤ ca2) {res : Int} (hm : jZ c0 = some res) :
    Calls Tryz.prog 24 #[.agg #[.int .i64 c0.cells, .int .i64 c0.tides, .slice qa0 na0 ca0, .slice qa1 na1 ca1, .slice qa2 na2 ca2]] w (fun en w' => ∃ l : Unit, en = .returned (.int .i64 res) ∧ (True) ∧ HV w (keys [] []) [] [] [] w') := by
  unfold jZ at hm
  refine qL func24 Y ntmps24 Y (e := [(0, _)]) Y hw (jr ?_)
  refine jG Y Y (fun b h1 => ?_)
  refine jo Y Y (kY (jo Y Y (jq (jh (jr (jo Y Y (jq ?_)))))))
  obtain ⟨o, h2, h3⟩ := bindO hm
  refine jM (ι := Unit) (fun l => True) (fun l => [(3, .int .i64 o)]) (fun l => [kc b #[.int .i64 c0.cells, .int .i64 c0.tides, .slice qa0 na0 ca0, .slice qa1 na1 ca1, .slice qa2 na2 ca2] 33]) (fun l => []) ?_ ?_
  ·replace hm := h2
   refine jl ?_
   refine jK (ι := Unit) hm (fun s l_1 => True) (fun s l_1 => [(1, ptr b 0), (3, .int .i64 s.n3), (4, .int .i64 s.i4)]) (fun s l_1 => [kc b #[.int .i64 c0.cells, .int .i64 c0.tides, .slice qa0 na0 ca0, .slice qa1 na1 ca1, .slice qa2 na2 ca2] 33]) (fun s l_1 => []) () (trivial) (sE Y) (fun w hh => hh) (fun s l_1 r hpl hm h4 => ?_)
   unfold qa at hm
   refine jh (jr (jj Y Y (qV 4 runUnderlying33 Y sizeOf31 Y Y (qp 0 isAgg31 Y Y Y Y (jc Y Y Y (fun w _ => jJ hna2 (runUnderlying31 w) Y) (Kc Y Y Y (jq ?_)))))))
   refine js Y (fun h5 => ?_) (fun h5 => ?_)
   ·replace hm := ifD h5 hm
    refine jt (ja (jh (jl (jg (jj Y Y ?_)))))
    obtain ⟨t13, h6, hm⟩ := bindO hm
    refine jc Y Y Y (fun _ _ => jb8 h6 Y Y) (jo Y Y (jx (jw (ja (jg (jj Y Y ?_))))))
    obtain ⟨t11, h7, hm⟩ := bindO hm
    refine JV h7 Y Y Y (jo Y Y (jx ?_))
    obtain rfl := sj hm
    refine ja ?_
    exact jA _ () Y (trivial) (sE Y) (fun w hh => hh)
   replace hm := ifE h5 hm
   refine jV (ji (ji (jC ?_)))
   obtain rfl := sj hm
   have hbo := h4 _ Y
   subst hbo
   exact jk () (trivial) (sE Y) (fun w hh => hh)
  intro l hj
  replace hm := h3
  refine ja (jr (jj Y Y ?_))
  obtain ⟨t15, h8, hm⟩ := bindO hm
  refine jc Y Y Y (fun _ _ => Jm h8 Y Y) (jo Y Y (jq (jv ?_)))
  obtain rfl := sj hm
  refine jm Y (fun w hh => (.tmp Y .nil)) (fun w hh => ⟨(), rfl, trivial, hh.se [] [] 3 Y Y Y rfl⟩)
structure yx where
  n8 : Int
  out7 : (List (List Int))
structure zH where
  i10 : Int
  out7 : (List (List Int))
def qw (t25 : (List (List Int))) (s : yx) (s_1 : zH) : Option (zH ⊕ (List (List Int))) :=
 if s_1.i10 < (t25.length : Int) then
 ((ix t25 s_1.i10).bind fun t37 =>
 (appc 8 [s.n8] t37).bind fun t39 =>
 (appc 24 s_1.out7 [t39]).bind fun t41 =>
 (addc s_1.i10 1).bind fun t31 =>
 some (.inl (⟨t31, t41⟩ : zH))) else
 (some (.inr s_1.out7))
def qs (below2 : Int) (many0 : Int) (rec_ : Int → Int → Int → Option (List (List Int))) (s : yx) : Option (yx ⊕ (List (List Int))) :=
 if s.n8 < below2 then
 ((subc many0 1).bind fun t21 =>
 (addc s.n8 1).bind fun t23 =>
 (rec_ t21 t23 below2).bind fun t25 =>
 (iterM FU (qw t25 s) (⟨0, s.out7⟩ : zH)).bind fun o_1 =>
 (addc s.n8 1).bind fun t19 =>
 some (.inl (⟨t19, o_1⟩ : yx))) else
 (some (.inr s.out7))
def zV (rec_ : Int → Int → Int → Option (List (List Int))) (many0 : Int) (from1 : Int) (below2 : Int) : Option (List (List Int)) :=
 if many0 = 0 then
 (some ([[]])) else
 ((iterM FU (qs below2 many0 rec_) (⟨from1, ([] : List (List Int))⟩ : yx)).bind fun o =>
 some o)
def kL : Nat → Int → Int → Int → Option (List (List Int))
  | 0, _, _, _ => none
  | fu + 1, many0, from1, below2 => zV (kL fu) many0 from1 below2
theorem Zt (fu_ : Nat) : ∀ (many0 : Int) (from1 : Int) (below2 : Int)  (w : World) (hw : HV w (keys [] []) [] [] [] w)  {res : (List (List Int))} (hm : kL fu_ many0 from1 below2 = some res),
    Calls Tryz.prog 158 #[.int .i64 many0, .int .i64 from1, .int .i64 below2] w (fun en w' => ∃ l : DL, en = .returned (sL l.v) ∧ (VOK 1 l.v.n l.v.cap (RwH.enc l.rs) l.v.sp l.v.q ∧ DOK RI res l.rs) ∧ HV w (keys [] []) [] [⟨22, RwH.enc l.rs, l.v.sp, l.v.q, dbl 3 RI res l.rs⟩] [] w') := by
  induction fu_ with
  | zero =>
    intros
    rename_i hm
    exact absurd hm (by simp [kL])
  | succ fu_ ih =>
  intro many0 from1 below2 w hw res hm
  replace hm : zV (kL fu_) many0 from1 below2 = some res := hm
  unfold zV at hm
  refine qL func158 Y ntmps158 Y (e := [(0, _), (1, _), (2, _)]) Y hw (jr (jc Y Y Y (fun _ _ => qr Y) (jq (jh (jr (jj Y Y (jc Y Y Y (fun _ _ => Jw Y Y) ?_)))))))
  refine jq ?_
  refine js Y (fun h3 => ?_) (fun h3 => ?_)
  ·replace hm := ifD h3 hm
   refine jr ?_
   refine qE RwH [vl0] (ps := [(0, _)]) (cells := [_]) (fun w => runUnderlying41 w) (fun w => sizeOf22 w) (fun w => zeroValue22 w) Y Y Y Y Y Y Y Y (fun L h4 => ?_)
   refine jah (E2 := 3) RI 1 (Y : _ = ([[]] : List (List Int))) (fun h5 => ?_)
   have h6 : DOK RI ([[]]) [vl0] := h5
   refine ja3 (S' := []) (vs' := [⟨22, RwH.enc [vl0], L.sp, L.q, dbl 3 RI ([[]]) [vl0]⟩]) [] [0] 0 (by decide) (by decide) Y Y Y (jo Y Y (jq (jv (je ?_))))
   obtain rfl := sj hm
   refine jm Y (fun w hh => (.tmp Y .nil)) (fun w hh => ⟨⟨⟨L.q, L.n, L.cap, L.sp⟩, [vl0]⟩, rfl, ⟨h4, h6⟩, hh⟩)
  replace hm := ifE h3 hm
  refine jt (ja (jr (jc Y Y Y (fun _ _ => qr Y) (jq (jh (jr (jj Y Y ?_)))))))
  refine jo Y Y (jq (zK 22 ?_))
  obtain ⟨o, h7, h8⟩ := bindO hm
  refine jM (ι := DL) (fun l => VOK 1 l.v.n l.v.cap (RwH.enc l.rs) l.v.sp l.v.q ∧ DOK RI o l.rs) (fun l => [(7, sL l.v)]) (fun l => []) (fun l => [⟨22, RwH.enc l.rs, l.v.sp, l.v.q, dbl 3 RI o l.rs⟩]) ?_ ?_
  ·replace hm := h7
   refine jl ?_
   refine jK (ι := DL) hm (fun s l_1 => VOK 1 l_1.v.n l_1.v.cap (RwH.enc l_1.rs) l_1.v.sp l_1.v.q ∧ DOK RI s.out7 l_1.rs) (fun s l_1 => [(0, .int .i64 many0), (2, .int .i64 below2), (7, sL l_1.v), (8, .int .i64 s.n8)]) (fun s l_1 => []) (fun s l_1 => [⟨22, RwH.enc l_1.rs, l_1.v.sp, l_1.v.q, dbl 3 RI s.out7 l_1.rs⟩]) (⟨⟨none, 0, 0, []⟩, []⟩) (⟨VOK.nil, DOK.nil⟩) (sE Y) (fun w hh => hh) (fun s l_1 r hpl hm h13 => ?_)
   obtain ⟨h11, h12⟩ := hpl
   unfold qs at hm
   refine jh (jr (jj Y Y (jj Y Y (Kc Y Y Y (jq ?_)))))
   refine js Y (fun h14 => ?_) (fun h14 => ?_)
   ·replace hm := ifD h14 hm
    refine jt (ja (jh (jl (jr (jj Y Y ?_)))))
    obtain ⟨t21, h15, hm⟩ := bindO hm
    refine jc Y Y Y (fun _ _ => Jm h15 Y Y) (jj Y Y ?_)
    obtain ⟨t23, h16, hm⟩ := bindO hm
    refine JV h16 Y Y Y (jj Y Y ?_)
    obtain ⟨t25, h17, hm⟩ := bindO hm
    refine jd [] [] Y Y Y Y Y Y Y call158 (fun w hh => ih t21 t23 below2 w (HV.callee (S0 := []) (vs0 := []) hh roN)  h17) (fun l_2 h18 => ?_)
    obtain ⟨h19, h20⟩ := h18
    refine kx (S' := []) (vs' := [_, _]) [] [0, 1] 0 Y Y Y Y (jo Y Y (kY (jo Y Y (jq ?_))))
    obtain ⟨o_1, h21, h22⟩ := bindO hm
    refine jM (ι := DL) (fun l_3 => VOK 1 l_3.v.n l_3.v.cap (RwH.enc l_3.rs) l_3.v.sp l_3.v.q ∧ DOK RI o_1 l_3.rs) (fun l_3 => [(0, .int .i64 many0), (2, .int .i64 below2), (7, sL l_3.v), (8, .int .i64 s.n8)]) (fun l_3 => []) (fun l_3 => [⟨22, RwH.enc l_3.rs, l_3.v.sp, l_3.v.q, dbl 3 RI o_1 l_3.rs⟩]) ?_ ?_
    ·replace hm := h21
     refine jl ?_
     refine jK (ι := DL) hm (fun s_1 l_4 => VOK 1 l_4.v.n l_4.v.cap (RwH.enc l_4.rs) l_4.v.sp l_4.v.q ∧ DOK RI s_1.out7 l_4.rs) (fun s_1 l_4 => [(0, .int .i64 many0), (2, .int .i64 below2), (7, sL l_4.v), (8, .int .i64 s.n8), (9, sL l_2.v), (10, .int .i64 s_1.i10)]) (fun s_1 l_4 => []) (fun s_1 l_4 => [⟨22, RwH.enc l_4.rs, l_4.v.sp, l_4.v.q, dbl 3 RI s_1.out7 l_4.rs⟩, ⟨22, RwH.enc l_2.rs, l_2.v.sp, l_2.v.q, dbl 3 RI t25 l_2.rs⟩]) l_1 (⟨h11, h12⟩) (sE Y) (hsE [] [1, 0] 0 Y Y Y Y) (fun s_1 l_4 r_1 hpl hm h27 => ?_)
     obtain ⟨h25, h26⟩ := hpl
     unfold qw at hm
     refine jh (jr (jj Y Y (jj Y Y (jc Y Y Y (fun w _ => Yp (Eq.trans (h20).len (vlen RwH h19 Y)) (runUnderlying41 w) Y) (Kc Y Y Y (jq ?_))))))
     refine js Y (fun h28 => ?_) (fun h28 => ?_)
     ·replace hm := ifD h28 hm
      refine jt (ja (jh (jl (jg (jj Y Y (jj Y Y ?_))))))
      refine qE RI [s.n8] (ps := [(0, _)]) (cells := [_]) (fun w => runUnderlying22 w) (fun w => sizeOf3 w) (fun w => zeroValue3 w) Y Y Y Y Y Y Y Y (fun L_1 h29 => ?_)
      refine jj Y Y (jj Y Y ?_)
      obtain ⟨t37, h30, hm⟩ := bindO hm
      obtain ⟨L_2, h31, h32⟩ := (h20).row h30
      refine jc Y Y Y (fun w _ => Qd h31 (runUnderlying41 w) (sizeOf22 w) Y Y (vlen RwH h19 Y) (vne h19)) (jc Y Y Y (fun w hh => qy RwH 0 h31 (isAgg22 w) Y (hh.vseg 2 Y h19) Y (Nat.add_zero _).symm) ?_)
      obtain ⟨t39, h33, hm⟩ := bindO hm
      refine Jo RI 0 h33 underlying22 QG Y Y Y Y Y h29 Y Y (vlen RI h32 Y) (AOK.q (vne h32)) (fun w hh => (hh.dsegA 2 Y h30 h31 h32)) Y (fun L_3 h34 h34n => ?_)
      refine kx (S' := []) (vs' := [_, _, _]) [] [0, 1, 2] 0 Y Y Y Y ?_
      refine qE RwH [(⟨L_3.q, L_3.n, L_3.cap, L_3.sp⟩ : VL)] (ps := [(0, _)]) (cells := [_]) (fun w => runUnderlying41 w) (fun w => sizeOf22 w) (fun w => zeroValue22 w) Y Y Y Y Y Y Y Y (fun L_4 h35 => ?_)
      refine jah (E2 := 3) RI 1 (Y : _ = ([[]] : List (List Int))) (fun h36 => ?_)
      refine kx (S' := []) (vs' := [_, _, _, _]) [] [0, 1, 2, 3] 0 Y Y Y Y ?_
      refine jax RI (l' := [t39]) 0 L_3.n L_3.cap h36 h34 Y Y (fun h37 => ?_)
      have h38 : DOK RI [t39] [(⟨L_3.q, L_3.n, L_3.cap, L_3.sp⟩ : VL)] := h37
      refine ja3 (S' := []) (vs' := [⟨22, RwH.enc [(⟨L_3.q, L_3.n, L_3.cap, L_3.sp⟩ : VL)], L_4.sp, L_4.q, dbl 3 RI [t39] [(⟨L_3.q, L_3.n, L_3.cap, L_3.sp⟩ : VL)]⟩, ⟨22, RwH.enc l_4.rs, l_4.v.sp, l_4.v.q, dbl 3 RI s_1.out7 l_4.rs⟩, ⟨22, RwH.enc l_2.rs, l_2.v.sp, l_2.v.q, dbl 3 RI t25 l_2.rs⟩]) [] [0, 1, 2] 0 (by decide) (by decide) Y Y Y ?_
      obtain ⟨t41, h39, hm⟩ := bindO hm
      refine Jo RwH 1 (appcL h39 (h26).len (h38).len) underlying41 jbb Y Y Y Y Y h25 Y Y (vlen RwH h35 Y) (AOK.q (vne h35)) (fun w hh => (hh.vsegA 0 Y h35)) Y (fun L_5 h40 _ => ?_)
      refine kx (S' := []) (vs' := [_, _, _]) [] [0, 1, 2] 0 Y Y Y Y (kx (S' := []) (vs' := [_, _, _]) [] [1, 0, 2] 0 Y Y Y Y ?_)
      refine jaN RI h26 h38 (appcO h39).1.symm (fun h41 => ?_)
      refine jo Y Y (jx (jw (ja (jg (jj Y Y ?_)))))
      obtain ⟨t31, h42, hm⟩ := bindO hm
      refine JV h42 Y Y Y (jo Y Y (jx ?_))
      obtain rfl := sj hm
      refine ja ?_
      exact jA _ (⟨⟨L_5.q, L_5.n, L_5.cap, L_5.sp⟩, (l_4.rs ++ [(⟨L_3.q, L_3.n, L_3.cap, L_3.sp⟩ : VL)])⟩) Y (⟨h40, h41⟩) (sE Y) (fun w hh => hh)
     replace hm := ifE h28 hm
     refine jV (ji (ji (jC ?_)))
     obtain rfl := sj hm
     have hbo := h27 _ Y
     subst hbo
     exact jk l_4 (⟨h25, h26⟩) (sE Y) (hsE [] [0] 0 Y Y Y Y)
    intro l_3 hj
    obtain ⟨h23, h24⟩ := hj
    replace hm := h22
    refine jw (ja (jg (jj Y Y ?_)))
    obtain ⟨t19, h43, hm⟩ := bindO hm
    refine JV h43 Y Y Y (jo Y Y (jx ?_))
    obtain rfl := sj hm
    refine ja ?_
    exact jA _ l_3 Y (⟨h23, h24⟩) (sE Y) (fun w hh => hh)
   replace hm := ifE h14 hm
   refine jV (ji (ji (jC ?_)))
   obtain rfl := sj hm
   have hbo := h13 _ Y
   subst hbo
   exact jk l_1 (⟨h11, h12⟩) (sE Y) (fun w hh => hh)
  intro l hj
  obtain ⟨h9, h10⟩ := hj
  replace hm := h8
  refine ja (jr (jj Y Y (jo Y Y (jq (jv ?_)))))
  obtain rfl := sj hm
  refine jm Y (fun w hh => (.tmp Y .nil)) (fun w hh => ⟨l, rfl, ⟨h9, h10⟩, hh⟩)
def zw (c0 : Channel) : Option (List (List Int)) :=
 (kL FU (c0.fords.length : Int) 0 c0.cells).bind fun t8 =>
 some t8
theorem Zq (c0 : Channel) (qa0 : Option Addr) (na0 ca0 : Nat) (qa1 : Option Addr) (na1 ca1 : Nat) (qa2 : Option Addr) (na2 ca2 : Nat) (w : World) (hw : HV w (keys [] []) [] [] [(aB qa0, aO qa0, RI.enc c0.fords), (aB qa1, aO qa1, RSa.enc c0.sands), (aB qa2, aO qa2, RSi.enc c0.sights)] w) (hna0 : c0.fords.length = na0) (hqa0 : AOK na0 qa0) (hla0 : na0 ≤ ca0) (hna1 : c0.sands.length = na1) (hqa1 : AOK na1 qa1) (hla1 : na1 ≤ ca1) (hna2 : c0.sights.length = na2) (hqa2 : AOK na2 qa2) (hla2 : na2 ≤ ca2) {res : (List (List Int))} (hm : zw c0 = some res) :
    Calls Tryz.prog 90 #[.agg #[.int .i64 c0.cells, .int .i64 c0.tides, .slice qa0 na0 ca0, .slice qa1 na1 ca1, .slice qa2 na2 ca2]] w (fun en w' => ∃ l : DL, en = .returned (sL l.v) ∧ (VOK 1 l.v.n l.v.cap (RwH.enc l.rs) l.v.sp l.v.q ∧ DOK RI res l.rs) ∧ HV w (keys [] []) [] [⟨22, RwH.enc l.rs, l.v.sp, l.v.q, dbl 3 RI res l.rs⟩] [] w') := by
  unfold zw at hm
  refine qL func90 Y ntmps90 Y (e := [(0, _)]) Y hw (jr ?_)
  refine jG Y Y (fun b h3 => ?_)
  refine jc Y Y Y (fun _ _ => qr Y) (kY (qV 2 runUnderlying33 Y sizeOf22 Y Y (qp 0 isAgg22 Y Y Y Y (jc Y Y Y (fun w _ => jJ hna0 (runUnderlying22 w) Y) (qV 0 runUnderlying33 Y sizeOf3 Y Y (qp 0 isAgg3 Y Y Y Y ?_))))))
  obtain ⟨t8, h4, hm⟩ := bindO hm
  refine jd [] [] Y Y Y Y Y Y Y call158 (fun w hh => Zt FU (c0.fords.length : Int) 0 c0.cells w (HV.callee (S0 := []) (vs0 := []) hh roN)  h4) (fun l h5 => ?_)
  obtain ⟨h6, h7⟩ := h5
  refine kx (S' := [_]) (vs' := [_]) [0] [0] 0 Y Y Y Y (jo Y Y (jq (jv ?_)))
  obtain rfl := sj hm
  refine jm Y (fun w hh => (.tmp Y .nil)) (fun w hh => ⟨l, rfl, ⟨h6, h7⟩, hh.se [] [0] 3 Y Y Y rfl⟩)
def y8 (l0 : (List Int)) (n1 : Int) (s : Int) : Option (Int ⊕ (Unit ⊕ Bool)) :=
 if s < (l0.length : Int) then
 ((ix l0 s).bind fun t14 =>
 if t14 = n1 then
 (some (.inr (.inr true))) else
 ((addc s 1).bind fun t11 =>
 some (.inl t11))) else
 (some (.inr (.inl ())))
def Jz (l0 : (List Int)) (n1 : Int) : Option Bool :=
 (iterM FU (y8 l0 n1) 0).bind fun o =>
 oc o (fun j => some false) (fun r_1 => some r_1)
theorem ZX (l0 : (List Int)) (n1 : Int) (qa0 : Option Addr) (na0 ca0 : Nat) (w : World) (hw : HV w (keys [] []) [] [] [(aB qa0, aO qa0, RI.enc l0)] w) (hna0 : l0.length = na0) (hqa0 : AOK na0 qa0) (hla0 : na0 ≤ ca0) {res : Bool} (hm : Jz l0 n1 = some res) :
    Calls Tryz.prog 105 #[.slice qa0 na0 ca0, .int .i64 n1] w (fun en w' => ∃ l : Unit, en = .returned (.bool res) ∧ (True) ∧ HV w (keys [] []) [] [] [] w') := by
  unfold Jz at hm
  refine qL func105 Y ntmps105 Y (e := [(0, _), (1, _)]) Y hw (jr (jo Y Y (jq (jh (jr (jo Y Y (jq ?_)))))))
  obtain ⟨o, h1, h2⟩ := bindO hm
  refine jM (ι := Unit) (fun j => o = .inl j) (fun j => []) (fun j => []) (fun j => []) ?_ ?_
  ·replace hm := h1
   refine jl ?_
   refine jK (ι := Unit) hm (fun s l => True) (fun s l => [(0, .slice qa0 na0 ca0), (1, .int .i64 n1), (5, .int .i64 s)]) (fun s l => []) (fun s l => []) () (trivial) (sE Y) (fun w hh => hh) (fun s l r hpl hm h3 => ?_)
   unfold y8 at hm
   refine jh (jr (jj Y Y (jj Y Y (jc Y Y Y (fun w _ => jJ hna0 (runUnderlying22 w) Y) (Kc Y Y Y (jq ?_))))))
   refine js Y (fun h4 => ?_) (fun h4 => ?_)
   ·replace hm := ifD h4 hm
    refine jt (ja (jh (jl (jr (jj Y Y (jj Y Y ?_))))))
    obtain ⟨t14, h5, hm⟩ := bindO hm
    refine jc Y Y Y (fun w _ => qM h5 (runUnderlying22 w) (sizeOf3 w) Y Y hna0 hqa0) (jc Y Y Y (fun w hh => qy RI 0 h5 (isAgg3 w) Y (hh.seg 0 Y) Y (Nat.add_zero _).symm) (jj Y Y (jc Y Y Y (fun _ _ => Jw Y Y) (jq ?_))))
    refine js Y (fun h6 => ?_) (fun h6 => ?_)
    ·replace hm := ifD h6 hm
     refine jr (jo Y Y (jq (jv (jz (je (je (jz ?_)))))))
     obtain rfl := sj hm
     have hbo := h3 _ Y
     subst hbo
     refine je ?_
     replace hm := ocR h2
     refine je ?_
     obtain rfl := sj hm
     refine jm Y (fun w hh => (.tmp Y .nil)) (fun w hh => ⟨(), rfl, trivial, hh.se [] [] 1 Y Y Y rfl⟩)
    replace hm := ifE h6 hm
    refine jt (jw (ja (jg (jj Y Y ?_))))
    obtain ⟨t11, h7, hm⟩ := bindO hm
    refine JV h7 Y Y Y (jo Y Y (jx ?_))
    obtain rfl := sj hm
    refine ja ?_
    exact jA _ () Y (trivial) (sE Y) (fun w hh => hh)
   replace hm := ifE h4 hm
   refine jV (ji (ji (jC ?_)))
   obtain rfl := sj hm
   have hbo := h3 _ Y
   subst hbo
   exact jk () (Y) (.nil) (fun w hh => hh)
  intro j hj
  have h8 := hj
  subst h8
  replace hm := ocL h2
  refine ja (jr (jo Y Y (jq (jv ?_))))
  obtain rfl := sj hm
  refine jm Y (fun w hh => (.tmp Y .nil)) (fun w hh => ⟨(), rfl, trivial, hh.se [] [] 1 Y Y Y rfl⟩)
structure q5 where
  set3 : Int
  i9 : Int
def yc (c0 : Channel) (after1 : Int) (l2 : (List Int)) (s : q5) : Option (q5 ⊕ (Unit ⊕ Bool)) :=
 if s.i9 < (c0.sights.length : Int) then
 ((ix c0.sights s.i9).bind fun t21 =>
 ((remc s.set3 2).bind fun t24 =>
 if t24 = 1 then
 (if t21.after = after1 then
 ((Jz l2 t21.cell).bind fun t36 =>
 some (!(t36 == t21.upright))) else
 (some false)) else
 (some false)).bind fun o_1 =>
 if o_1 = true then
 (some (.inr (.inr false))) else
 ((quoc s.set3 2).bind fun t42 =>
 (addc s.i9 1).bind fun t17 =>
 some (.inl (⟨t42, t17⟩ : q5)))) else
 (some (.inr (.inl ())))
def ze (c0 : Channel) (after1 : Int) (l2 : (List Int)) (set3 : Int) : Option Bool :=
 (iterM FU (yc c0 after1 l2) (⟨set3, 0⟩ : q5)).bind fun o =>
 oc o (fun j => some true) (fun r_1 => some r_1)
theorem Zb (c0 : Channel) (after1 : Int) (l2 : (List Int)) (set3 : Int) (qa0 : Option Addr) (na0 ca0 : Nat) (qa1 : Option Addr) (na1 ca1 : Nat) (qa2 : Option Addr) (na2 ca2 : Nat) (qa3 : Option Addr) (na3 ca3 : Nat) (w : World) (hw : HV w (keys [] []) [] [] [(aB qa0, aO qa0, RI.enc c0.fords), (aB qa1, aO qa1, RSa.enc c0.sands), (aB qa2, aO qa2, RSi.enc c0.sights), (aB qa3, aO qa3, RI.enc l2)] w) (hna0 : c0.fords.length = na0) (hqa0 : AOK na0 qa0) (hla0 : na0 ≤ ca0) (hna1 : c0.sands.length = na1) (hqa1 : AOK na1 qa1) (hla1 : na1 ≤ ca1) (hna2 : c0.sights.length = na2) (hqa2 : AOK na2 qa2) (hla2 : na2 ≤ ca2) (hna3 : l2.length = na3) (hqa3 : AOK na3 qa3) (hla3 : na3 ≤ ca3) {res : Bool} (hm : ze c0 after1 l2 set3 = some res) :
    Calls Tryz.prog 102 #[.agg #[.int .i64 c0.cells, .int .i64 c0.tides, .slice qa0 na0 ca0, .slice qa1 na1 ca1, .slice qa2 na2 ca2], .int .i64 after1, .slice qa3 na3 ca3, .int .i64 set3] w (fun en w' => ∃ l : Unit, en = .returned (.bool res) ∧ (True) ∧ HV w (keys [] []) [] [] [] w') := by
  unfold ze at hm
  refine qL func102 Y ntmps102 Y (e := [(0, _), (1, _), (2, _), (3, _)]) Y hw (jr ?_)
  refine jG Y Y (fun b h1 => ?_)
  refine jo Y Y (jq (jh (jr (jo Y Y (jq ?_)))))
  obtain ⟨o, h2, h3⟩ := bindO hm
  refine jM (ι := Unit) (fun j => o = .inl j) (fun j => []) (fun j => [kc b #[.int .i64 c0.cells, .int .i64 c0.tides, .slice qa0 na0 ca0, .slice qa1 na1 ca1, .slice qa2 na2 ca2] 33]) (fun j => []) ?_ ?_
  ·replace hm := h2
   refine jl ?_
   refine jK (ι := Unit) hm (fun s l => True) (fun s l => [(1, .int .i64 after1), (2, .slice qa3 na3 ca3), (3, .int .i64 s.set3), (4, ptr b 0), (9, .int .i64 s.i9)]) (fun s l => [kc b #[.int .i64 c0.cells, .int .i64 c0.tides, .slice qa0 na0 ca0, .slice qa1 na1 ca1, .slice qa2 na2 ca2] 33]) (fun s l => []) () (trivial) (sE Y) (fun w hh => hh) (fun s l r hpl hm h4 => ?_)
   unfold yc at hm
   refine jh (jr (jj Y Y (qV 4 runUnderlying33 Y sizeOf31 Y Y (qp 0 isAgg31 Y Y Y Y (jc Y Y Y (fun w _ => jJ hna2 (runUnderlying31 w) Y) (Kc Y Y Y (jq ?_)))))))
   refine js Y (fun h5 => ?_) (fun h5 => ?_)
   ·replace hm := ifD h5 hm
    refine jt (ja (jh (jl (jr (qV 4 runUnderlying33 Y sizeOf31 Y Y (qp 0 isAgg31 Y Y Y Y (jj Y Y ?_)))))))
    obtain ⟨t21, h6, hm⟩ := bindO hm
    refine jc Y Y Y (fun w _ => qM h6 (runUnderlying31 w) (sizeOf139 w) Y Y hna2 hqa2) ?_
    refine jc Y Y Y (fun w hh => J0 RSi 0 [.int .i64 t21.after, .int .i64 t21.cell, .bool t21.upright] h6 (isAgg139 w) (sizeOf139 w) Y (hh.seg 2 Y) Y (Nat.add_zero _).symm) ?_
    refine ju (fun w => zeroValue139 w) Y (fun b_1 h7 => ?_)
    refine kD (us := #[_, _, _]) (cs' := [_, _, _]) (S' := [_, _]) 0 (fun w => sizeOf139 w) Y Y Y Y Y Y Y (jq (jh (jh ?_)))
    obtain ⟨o_1, h8, h9⟩ := bindO hm
    refine jM (ι := Unit) (fun l_1 => True) (fun l_1 => [(1, .int .i64 after1), (2, .slice qa3 na3 ca3), (3, .int .i64 s.set3), (4, ptr b 0), (9, .int .i64 s.i9), (40, .bool o_1)]) (fun l_1 => [kc b_1 #[.int .i64 t21.after, .int .i64 t21.cell, .bool t21.upright] 139, kc b #[.int .i64 c0.cells, .int .i64 c0.tides, .slice qa0 na0 ca0, .slice qa1 na1 ca1, .slice qa2 na2 ca2] 33]) (fun l_1 => []) ?_ ?_
    ·replace hm := h8
     refine j3 none (.free 0 (.free 1 (.free 2 (.free 3 (.free 4 (.hoist 5 (.free 6 (.free 7 (.free 8 (.free 9 (.free 10 (.free 11 (.hoist 12 (.free 14 (.hoist 15 (.one 13 (.free 16 (.free 17 .done)))))))))))))))))) _ Y (by decide +kernel) (fun w k hh => hh.draw k) (fun w hh => hh) ?_
     refine qD Y Y Y ?_
     obtain ⟨t24, h10, hm⟩ := bindO hm
     refine jp Y Y Y Y (fun _ _ => jb5 h10 Y Y) (jp Y Y Y Y (fun _ _ => Jw Y Y) (qD Y Y Y ?_))
     refine jW 26 Y (fun h11 => ?_) (fun h11 => ?_)
     ·replace hm := ifD h11 hm
      refine jN Y Y Y Y Y Y (fun w _ => jI 0 (runUnderlying139 w) Y (sizeOf3 w) Y) (k8 Y Y Y Y Y Y (fun w hh => jB (isAgg3 w) Y (hh.cell 0 Y Y)) (jN Y Y Y Y Y Y (fun _ _ => kd Y) (jN Y Y Y Y Y Y (fun _ _ => Jw Y Y) (jp Y Y Y Y (fun _ _ => JU Y Y) (qD Y Y Y ?_)))))
      refine jW 32 Y (fun h12 => ?_) (fun h12 => ?_)
      ·replace hm := ifD h12 hm
       refine jN Y Y Y Y Y Y (fun _ _ => kd Y) (jN Y Y Y Y Y Y (fun w _ => jI 1 (runUnderlying139 w) Y (sizeOf3 w) Y) (k8 Y Y Y Y Y Y (fun w hh => jB (isAgg3 w) Y (hh.cell 0 Y Y)) (jN Y Y Y Y Y Y (fun w _ => jI 2 (runUnderlying139 w) Y (sizeOf4 w) Y) (k8 Y Y Y Y Y Y (fun w hh => jB (isAgg4 w) Y (hh.cell 0 Y Y)) (jD Y (jb Y Y ?_))))))
       obtain ⟨t36, h13, hm⟩ := bindO hm
       refine jd [] [] Y Y Y Y Y Y Y call105 (fun w hh => ZX l2 t21.cell qa3 na3 ca3 w (HV.callee (S0 := []) (vs0 := []) hh (roR hh 3 Y roN)) hna3 hqa3 hla3 h13) (fun l_2 h14 => ?_)
       refine jn (fun w hh => hh) (jN Y Y Y Y Y Y (fun w _ => Y6 (runUnderlying4 w) Y Y) (jp Y Y Y Y (fun _ _ => JU Y Y) (jH ?_)))
       obtain rfl := sj hm
       exact jk () (trivial) (sE Y) (fun w hh => hh)
      replace hm := ifE h12 hm
      refine jE Y Y Y Y Y Y Y (jE Y Y Y Y Y Y Y (yz Y Y Y Y Y Y Y (jE Y Y Y Y Y Y Y (yz Y Y Y Y Y Y Y (jD Y (g_k Y Y Y Y (jn (fun w hh => hh) ?_)))))))
      refine jE Y Y Y Y Y Y Y (jp Y Y Y Y (fun _ _ => zP Y Y) (jH ?_))
      obtain rfl := sj hm
      exact jk () (trivial) (sE Y) (fun w hh => hh)
     replace hm := ifE h11 hm
     refine jE Y Y Y Y Y Y Y (yz Y Y Y Y Y Y Y (jE Y Y Y Y Y Y Y (jE Y Y Y Y Y Y Y (jp Y Y Y Y (fun _ _ => zP Y Y) (qD Y Y Y (jE Y Y Y Y Y Y Y (jE Y Y Y Y Y Y Y ?_)))))))
     refine yz Y Y Y Y Y Y Y (jE Y Y Y Y Y Y Y (yz Y Y Y Y Y Y Y (jD Y (g_k Y Y Y Y (jn (fun w hh => hh) (jE Y Y Y Y Y Y Y (jp Y Y Y Y (fun _ _ => zP Y Y) ?_)))))))
     refine jH ?_
     obtain rfl := sj hm
     exact jk () (trivial) (sE Y) (fun w hh => hh)
    intro l_1 hj
    replace hm := h9
    refine ja ?_
    refine js Y (fun h15 => ?_) (fun h15 => ?_)
    ·replace hm := ifT (h15) hm
     refine jr (jo Y Y (jq (jv (je (jz (je (je ?_)))))))
     refine jz ?_
     obtain rfl := sj hm
     have hbo := h4 _ Y
     subst hbo
     refine je ?_
     replace hm := ocR h3
     refine je ?_
     obtain rfl := sj hm
     refine jm Y (fun w hh => (.tmp Y .nil)) (fun w hh => ⟨(), rfl, trivial, hh.se [] [] 4 Y Y Y rfl⟩)
    replace hm := ifN h15 hm
    refine jt (ja (jg (jj Y Y ?_)))
    obtain ⟨t42, h16, hm⟩ := bindO hm
    refine jc Y Y Y (fun _ _ => jb4 h16 Y Y) (jo Y Y (jx (jw (ja (jg (jj Y Y ?_))))))
    obtain ⟨t17, h17, hm⟩ := bindO hm
    refine JV h17 Y Y Y (jo Y Y (jx ?_))
    obtain rfl := sj hm
    refine ja ?_
    exact jA _ () Y (trivial) (sE Y) (hsE [1] [] 0 Y Y Y Y)
   replace hm := ifE h5 hm
   refine jV (ji (ji (jC ?_)))
   obtain rfl := sj hm
   have hbo := h4 _ Y
   subst hbo
   exact jk () (Y) (.nil) (fun w hh => hh)
  intro j hj
  have h18 := hj
  subst h18
  replace hm := ocL h3
  refine ja (jr (jo Y Y (jq (jv ?_))))
  obtain rfl := sj hm
  refine jm Y (fun w hh => (.tmp Y .nil)) (fun w hh => ⟨(), rfl, trivial, hh.se [] [] 4 Y Y Y rfl⟩)
def J7 (a0 : (List Int)) (b1 : (List Int)) (s : Int) : Option (Int ⊕ (Unit ⊕ Bool)) :=
 if s < (a0.length : Int) then
 ((ix a0 s).bind fun t19 =>
 (ix b1 s).bind fun t23 =>
 if t19 = t23 then
 ((addc s 1).bind fun t16 =>
 some (.inl t16)) else
 (some (.inr (.inr false)))) else
 (some (.inr (.inl ())))
def zY (a0 : (List Int)) (b1 : (List Int)) : Option Bool :=
 if (a0.length : Int) = (b1.length : Int) then
 ((iterM FU (J7 a0 b1) 0).bind fun o =>
 oc o (fun j => some true) (fun r_1 => some r_1)) else
 (some false)
theorem ZH (a0 : (List Int)) (b1 : (List Int)) (qa0 : Option Addr) (na0 ca0 : Nat) (qa1 : Option Addr) (na1 ca1 : Nat) (w : World) (hw : HV w (keys [] []) [] [] [(aB qa0, aO qa0, RI.enc a0), (aB qa1, aO qa1, RI.enc b1)] w) (hna0 : a0.length = na0) (hqa0 : AOK na0 qa0) (hla0 : na0 ≤ ca0) (hna1 : b1.length = na1) (hqa1 : AOK na1 qa1) (hla1 : na1 ≤ ca1) {res : Bool} (hm : zY a0 b1 = some res) :
    Calls Tryz.prog 101 #[.slice qa0 na0 ca0, .slice qa1 na1 ca1] w (fun en w' => ∃ l : Unit, en = .returned (.bool res) ∧ (True) ∧ HV w (keys [] []) [] [] [] w') := by
  unfold zY at hm
  refine qL func101 Y ntmps101 Y (e := [(0, _), (1, _)]) Y hw (jr (jo Y Y (jq (jh (jr (jj Y Y (jc Y Y Y (fun w _ => jJ hna0 (runUnderlying22 w) Y) ?_)))))))
  refine jj Y Y (jc Y Y Y (fun w _ => jJ hna1 (runUnderlying22 w) Y) (jc Y Y Y (fun _ _ => Kw Y Y) (jq ?_)))
  refine js Y (fun h1 => ?_) (fun h1 => ?_)
  ·replace hm := ifF (of_ndec_true h1) hm
   refine jr (jo Y Y (jq (jv (je ?_))))
   obtain rfl := sj hm
   refine jm Y (fun w hh => (.tmp Y .nil)) (fun w hh => ⟨(), rfl, trivial, hh.se [] [] 2 Y Y Y rfl⟩)
  replace hm := ifT (of_ndec_false h1) hm
  refine jt (ja (jh (jr (jo Y Y (jq ?_)))))
  obtain ⟨o, h2, h3⟩ := bindO hm
  refine jM (ι := Unit) (fun j => o = .inl j) (fun j => []) (fun j => []) (fun j => []) ?_ ?_
  ·replace hm := h2
   refine jl ?_
   refine jK (ι := Unit) hm (fun s l => True) (fun s l => [(0, .slice qa0 na0 ca0), (1, .slice qa1 na1 ca1), (5, .int .i64 s)]) (fun s l => []) (fun s l => []) () (trivial) (sE Y) (fun w hh => hh) (fun s l r hpl hm h4 => ?_)
   unfold J7 at hm
   refine jh (jr (jj Y Y (jj Y Y (jc Y Y Y (fun w _ => jJ hna0 (runUnderlying22 w) Y) (Kc Y Y Y (jq ?_))))))
   refine js Y (fun h5 => ?_) (fun h5 => ?_)
   ·replace hm := ifD h5 hm
    refine jt (ja (jh (jl (jh ?_))))
    refine j3 none (.free 0 (.free 1 (.free 2 (.hoist 3 (.free 4 (.free 5 (.free 6 (.hoist 7 (.free 8 .done))))))))) _ Y (by decide +kernel) (fun w k hh => hh.draw k) (fun w hh => hh) ?_
    refine qD Y Y Y (qD Y Y Y ?_)
    obtain ⟨t19, h6, hm⟩ := bindO hm
    refine jp Y Y Y Y (fun w _ => qM h6 (runUnderlying22 w) (sizeOf3 w) Y Y hna0 hqa0) (jy Y Y Y Y (fun w hh => qy RI 0 h6 (isAgg3 w) Y (hh.seg 0 Y) Y (Nat.add_zero _).symm) (qD Y Y Y (qD Y Y Y ?_)))
    obtain ⟨t23, h7, hm⟩ := bindO hm
    refine jp Y Y Y Y (fun w _ => qM h7 (runUnderlying22 w) (sizeOf3 w) Y Y hna1 hqa1) (jy Y Y Y Y (fun w hh => qy RI 0 h7 (isAgg3 w) Y (hh.seg 1 Y) Y (Nat.add_zero _).symm) (jp Y Y Y Y (fun _ _ => Kw Y Y) (jH (ja ?_))))
    refine js Y (fun h8 => ?_) (fun h8 => ?_)
    ·replace hm := ifF (of_ndec_true h8) hm
     refine jr (jo Y Y (jq (jv (jz (je (je (jz ?_)))))))
     obtain rfl := sj hm
     have hbo := h4 _ Y
     subst hbo
     refine je ?_
     replace hm := ocR h3
     refine je ?_
     obtain rfl := sj hm
     refine jm Y (fun w hh => (.tmp Y .nil)) (fun w hh => ⟨(), rfl, trivial, hh.se [] [] 2 Y Y Y rfl⟩)
    replace hm := ifT (of_ndec_false h8) hm
    refine jt (jw (ja (jg (jj Y Y ?_))))
    obtain ⟨t16, h9, hm⟩ := bindO hm
    refine JV h9 Y Y Y (jo Y Y (jx ?_))
    obtain rfl := sj hm
    refine ja ?_
    exact jA _ () Y (trivial) (sE Y) (fun w hh => hh)
   replace hm := ifE h5 hm
   refine jV (ji (ji (jC ?_)))
   obtain rfl := sj hm
   have hbo := h4 _ Y
   subst hbo
   exact jk () (Y) (.nil) (fun w hh => hh)
  intro j hj
  have h10 := hj
  subst h10
  replace hm := ocL h3
  refine ja (jr (jo Y Y (jq (jv ?_))))
  obtain rfl := sj hm
  refine jm Y (fun w hh => (.tmp Y .nil)) (fun w hh => ⟨(), rfl, trivial, hh.se [] [] 2 Y Y Y rfl⟩)
structure yA where
  r5 : Int
  i6 : Int
def yw (c0 : Channel) (cell1 : Int) (s : yA) : Option (yA ⊕ Int) :=
 if s.i6 < (c0.sands.length : Int) then
 (((ix c0.sands s.i6).bind fun t18 =>
 (ix c0.sands s.i6).bind fun t25 =>
 (jF cell1 t18.span.lo t25.span.hi).bind fun t29 =>
 if (!t29) = true then
 ((ix c0.sands s.i6).bind fun t35 =>
 some (max s.r5 t35.reach)) else
 (some s.r5)).bind fun o_1 =>
 (addc s.i6 1).bind fun t13 =>
 some (.inl (⟨o_1, t13⟩ : yA))) else
 (some (.inr s.r5))
def zr (c0 : Channel) (cell1 : Int) : Option Int :=
 (iterM FU (yw c0 cell1) (⟨0, 0⟩ : yA)).bind fun o =>
 some o
theorem Zk (c0 : Channel) (cell1 : Int) (qa0 : Option Addr) (na0 ca0 : Nat) (qa1 : Option Addr) (na1 ca1 : Nat) (qa2 : Option Addr) (na2 ca2 : Nat) (w : World) (hw : HV w (keys [] []) [] [] [(aB qa0, aO qa0, RI.enc c0.fords), (aB qa1, aO qa1, RSa.enc c0.sands), (aB qa2, aO qa2, RSi.enc c0.sights)] w) (hna0 : c0.fords.length = na0) (hqa0 : AOK na0 qa0) (hla0 : na0 ≤ ca0) (hna1 : c0.sands.length = na1) (hqa1 : AOK na1 qa1) (hla1 : na1 ≤ ca1) (hna2 : c0.sights.length = na2) (hqa2 : AOK na2 qa2) (hla2 : na2 ≤ ca2) {res : Int} (hm : zr c0 cell1 = some res) :
    Calls Tryz.prog 57 #[.agg #[.int .i64 c0.cells, .int .i64 c0.tides, .slice qa0 na0 ca0, .slice qa1 na1 ca1, .slice qa2 na2 ca2], .int .i64 cell1] w (fun en w' => ∃ l : Unit, en = .returned (.int .i64 res) ∧ (True) ∧ HV w (keys [] []) [] [] [] w') := by
  unfold zr at hm
  refine qL func57 Y ntmps57 Y (e := [(0, _), (1, _)]) Y hw (jr ?_)
  refine jG Y Y (fun b h1 => ?_)
  refine jo Y Y (kY (jo Y Y (jq (jh (jr (jo Y Y (jq ?_)))))))
  obtain ⟨o, h2, h3⟩ := bindO hm
  refine jM (ι := Unit) (fun l => True) (fun l => [(5, .int .i64 o)]) (fun l => [kc b #[.int .i64 c0.cells, .int .i64 c0.tides, .slice qa0 na0 ca0, .slice qa1 na1 ca1, .slice qa2 na2 ca2] 33]) (fun l => []) ?_ ?_
  ·replace hm := h2
   refine jl ?_
   refine jK (ι := Unit) hm (fun s l_1 => True) (fun s l_1 => [(1, .int .i64 cell1), (2, ptr b 0), (5, .int .i64 s.r5), (6, .int .i64 s.i6)]) (fun s l_1 => [kc b #[.int .i64 c0.cells, .int .i64 c0.tides, .slice qa0 na0 ca0, .slice qa1 na1 ca1, .slice qa2 na2 ca2] 33]) (fun s l_1 => []) () (trivial) (sE Y) (fun w hh => hh) (fun s l_1 r hpl hm h4 => ?_)
   unfold yw at hm
   refine jh (jr (jj Y Y (qV 3 runUnderlying33 Y sizeOf30 Y Y (qp 0 isAgg30 Y Y Y Y (jc Y Y Y (fun w _ => jJ hna1 (runUnderlying30 w) Y) (Kc Y Y Y (jq ?_)))))))
   refine js Y (fun h5 => ?_) (fun h5 => ?_)
   ·replace hm := ifD h5 hm
    refine jt (ja (jh ?_))
    obtain ⟨o_1, h6, h7⟩ := bindO hm
    refine jM (ι := Unit) (fun l_2 => True) (fun l_2 => [(1, .int .i64 cell1), (2, ptr b 0), (5, .int .i64 o_1), (6, .int .i64 s.i6)]) (fun l_2 => [kc b #[.int .i64 c0.cells, .int .i64 c0.tides, .slice qa0 na0 ca0, .slice qa1 na1 ca1, .slice qa2 na2 ca2] 33]) (fun l_2 => []) ?_ ?_
    ·replace hm := h6
     refine jl (jh ?_)
     refine j3 none (.free 0 (.free 1 (.hoist 2 (.free 3 (.free 4 (.free 5 (.free 6 (.hoist 7 (.free 8 (.hoist 9 (.free 10 (.free 11 (.free 12 (.free 13 (.hoist 14 (.one 15 (.free 16 .done))))))))))))))))) _ Y (by decide +kernel) (fun w k hh => hh.draw k) (fun w hh => hh) ?_
     refine qD Y Y Y (KA 3 runUnderlying33 sizeOf30 Y Y Y Y (QA 0 isAgg30 Y Y Y Y Y (qD Y Y Y ?_)))
     obtain ⟨t18, h8, hm⟩ := bindO hm
     refine jp Y Y Y Y (fun w _ => qM h8 (runUnderlying30 w) (sizeOf138 w) Y Y hna1 hqa1) (KA 0 runUnderlying138 sizeOf50 Y Y Y Y (KA 0 runUnderlying50 sizeOf3 Y Y Y Y (jy Y Y Y Y (fun w hh => qy RSa 0 h8 (isAgg3 w) Y (hh.seg 1 Y) Y (by first | rfl | simp only [Nat.add_assoc])) (KA 3 runUnderlying33 sizeOf30 Y Y Y Y (QA 0 isAgg30 Y Y Y Y Y (qD Y Y Y ?_))))))
     obtain ⟨t25, h9, hm⟩ := bindO hm
     refine jp Y Y Y Y (fun w _ => qM h9 (runUnderlying30 w) (sizeOf138 w) Y Y hna1 hqa1) (KA 0 runUnderlying138 sizeOf50 Y Y Y Y (KA 1 runUnderlying50 sizeOf3 Y Y Y Y (jy Y Y Y Y (fun w hh => qy RSa 1 h9 (isAgg3 w) Y (hh.seg 1 Y) Y (by first | rfl | simp only [Nat.add_assoc])) (jD Y ?_))))
     obtain ⟨t29, h10, hm⟩ := bindO hm
     refine jd [] [] Y Y Y Y Y Y Y call88 (fun w hh => kf cell1 t18.span.lo t25.span.hi w (HV.callee (S0 := []) (vs0 := []) hh roN)  h10) (fun l_3 h11 => ?_)
     refine jn (fun w hh => hh) (jp Y Y Y Y (fun _ _ => zJ Y) (jH (ja ?_)))
     refine js Y (fun h12 => ?_) (fun h12 => ?_)
     ·replace hm := ifT (h12) hm
      refine jg (jj Y Y (qV 3 runUnderlying33 Y sizeOf30 Y Y (qp 0 isAgg30 Y Y Y Y (jj Y Y ?_))))
      obtain ⟨t35, h13, hm⟩ := bindO hm
      refine jc Y Y Y (fun w _ => qM h13 (runUnderlying30 w) (sizeOf138 w) Y Y hna1 hqa1) (qV 2 runUnderlying138 Y sizeOf3 Y Y (jc Y Y Y (fun w hh => qy RSa 2 h13 (isAgg3 w) Y (hh.seg 1 Y) Y Y) (jc Y Y Y (fun _ _ => jbv Y Y) (jo Y Y (jx (jw ?_))))))
      obtain rfl := sj hm
      exact jk () (trivial) (sE Y) (fun w hh => hh)
     replace hm := ifN h12 hm
     refine jt (jw ?_)
     obtain rfl := sj hm
     exact jk () (trivial) (sE Y) (fun w hh => hh)
    intro l_2 hj
    replace hm := h7
    refine ja (jg (jj Y Y ?_))
    obtain ⟨t13, h14, hm⟩ := bindO hm
    refine JV h14 Y Y Y (jo Y Y (jx ?_))
    obtain rfl := sj hm
    refine ja ?_
    exact jA _ () Y (trivial) (sE Y) (fun w hh => hh)
   replace hm := ifE h5 hm
   refine jV (ji (ji (jC ?_)))
   obtain rfl := sj hm
   have hbo := h4 _ Y
   subst hbo
   exact jk () (trivial) (sE Y) (fun w hh => hh)
  intro l hj
  replace hm := h3
  refine ja (jr (jj Y Y (jo Y Y (jq (jv ?_)))))
  obtain rfl := sj hm
  refine jm Y (fun w hh => (.tmp Y .nil)) (fun w hh => ⟨(), rfl, trivial, hh.se [] [] 3 Y Y Y rfl⟩)
def zb (a1 : (List Int)) (c0 : Channel) (b2 : (List Int)) (s : Int) : Option (Int ⊕ (Unit ⊕ Bool)) :=
 if s < (a1.length : Int) then
 ((ix a1 s).bind fun t18 =>
 (zr c0 t18).bind fun t20 =>
 (ix b2 s).bind fun t23 =>
 (ix a1 s).bind fun t27 =>
 (subc t27 t20).bind fun t30 =>
 (ix a1 s).bind fun t33 =>
 (addc t33 t20).bind fun t36 =>
 (jF t23 t30 t36).bind fun t37 =>
 if t37 = true then
 (some (.inr (.inr false))) else
 ((addc s 1).bind fun t14 =>
 some (.inl t14))) else
 (some (.inr (.inl ())))
def Jt (c0 : Channel) (a1 : (List Int)) (b2 : (List Int)) : Option Bool :=
 (iterM FU (zb a1 c0 b2) 0).bind fun o =>
 oc o (fun j => some true) (fun r_1 => some r_1)
theorem ZY (c0 : Channel) (a1 : (List Int)) (b2 : (List Int)) (qa0 : Option Addr) (na0 ca0 : Nat) (qa1 : Option Addr) (na1 ca1 : Nat) (qa2 : Option Addr) (na2 ca2 : Nat) (qa3 : Option Addr) (na3 ca3 : Nat) (qa4 : Option Addr) (na4 ca4 : Nat) (w : World) (hw : HV w (keys [] []) [] [] [(aB qa0, aO qa0, RI.enc c0.fords), (aB qa1, aO qa1, RSa.enc c0.sands), (aB qa2, aO qa2, RSi.enc c0.sights), (aB qa3, aO qa3, RI.enc a1), (aB qa4, aO qa4, RI.enc b2)] w) (hna0 : c0.fords.length = na0) (hqa0 : AOK na0 qa0) (hla0 : na0 ≤ ca0) (hna1 : c0.sands.length = na1) (hqa1 : AOK na1 qa1) (hla1 : na1 ≤ ca1) (hna2 : c0.sights.length = na2) (hqa2 : AOK na2 qa2) (hla2 : na2 ≤ ca2) (hna3 : a1.length = na3) (hqa3 : AOK na3 qa3) (hla3 : na3 ≤ ca3) (hna4 : b2.length = na4) (hqa4 : AOK na4 qa4) (hla4 : na4 ≤ ca4) {res : Bool} (hm : Jt c0 a1 b2 = some res) :
    Calls Tryz.prog 92 #[.agg #[.int .i64 c0.cells, .int .i64 c0.tides, .slice qa0 na0 ca0, .slice qa1 na1 ca1, .slice qa2 na2 ca2], .slice qa3 na3 ca3, .slice qa4 na4 ca4] w (fun en w' => ∃ l : Unit, en = .returned (.bool res) ∧ (True) ∧ HV w (keys [] []) [] [] [] w') := by
  unfold Jt at hm
  refine qL func92 Y ntmps92 Y (e := [(0, _), (1, _), (2, _)]) Y hw (jr ?_)
  refine jG Y Y (fun b h1 => ?_)
  refine jo Y Y (jq (jh (jr (jo Y Y (jq ?_)))))
  obtain ⟨o, h2, h3⟩ := bindO hm
  refine jM (ι := Unit) (fun j => o = .inl j) (fun j => []) (fun j => [kc b #[.int .i64 c0.cells, .int .i64 c0.tides, .slice qa0 na0 ca0, .slice qa1 na1 ca1, .slice qa2 na2 ca2] 33]) (fun j => []) ?_ ?_
  ·replace hm := h2
   refine jl ?_
   refine jK (ι := Unit) hm (fun s l => True) (fun s l => [(1, .slice qa3 na3 ca3), (2, .slice qa4 na4 ca4), (3, ptr b 0), (7, .int .i64 s)]) (fun s l => [kc b #[.int .i64 c0.cells, .int .i64 c0.tides, .slice qa0 na0 ca0, .slice qa1 na1 ca1, .slice qa2 na2 ca2] 33]) (fun s l => []) () (trivial) (sE Y) (fun w hh => hh) (fun s l r hpl hm h4 => ?_)
   unfold zb at hm
   refine jh (jr (jj Y Y (jj Y Y (jc Y Y Y (fun w _ => jJ hna3 (runUnderlying22 w) Y) (Kc Y Y Y (jq ?_))))))
   refine js Y (fun h5 => ?_) (fun h5 => ?_)
   ·replace hm := ifD h5 hm
    refine jt (ja (jh (jl (jh (j3 none (.hoist 0 (.free 1 (.free 2 (.free 3 (.hoist 4 (.one 5 (.free 6 .done))))))) _ Y (by decide +kernel) (fun w k hh => hh.draw k) (fun w hh => hh) (jy Y Y Y Y (fun w hh => jO (vs := [_, _, _, _, _]) (isAgg33 w) (sizeOf33 w) Y (hh.cells 0 Y Y)) (qD Y Y Y ?_)))))))
    refine qD Y Y Y ?_
    obtain ⟨t18, h6, hm⟩ := bindO hm
    refine jp Y Y Y Y (fun w _ => qM h6 (runUnderlying22 w) (sizeOf3 w) Y Y hna3 hqa3) (jy Y Y Y Y (fun w hh => qy RI 0 h6 (isAgg3 w) Y (hh.seg 3 Y) Y (Nat.add_zero _).symm) (jD Y ?_))
    obtain ⟨t20, h7, hm⟩ := bindO hm
    refine jd [] [] Y Y Y Y Y Y Y call57 (fun w hh => Zk c0 t18 qa0 na0 ca0 qa1 na1 ca1 qa2 na2 ca2 w (HV.callee (S0 := []) (vs0 := []) hh (roR hh 0 Y (roR hh 1 Y (roR hh 2 Y roN)))) hna0 hqa0 hla0 hna1 hqa1 hla1 hna2 hqa2 hla2 h7) (fun l_1 h8 => ?_)
    refine jn (fun w hh => hh) (jp Y Y Y Y (fun _ _ => kp Y) (jH (ja (jh ?_))))
    refine j3 none (.free 0 (.free 1 (.free 2 (.hoist 3 (.free 4 (.free 5 (.free 6 (.hoist 7 (.free 8 (.free 9 (.free 10 (.free 11 (.free 12 (.hoist 13 (.free 14 (.free 15 (.one 16 .done))))))))))))))))) _ Y (by decide +kernel) (fun w k hh => hh.draw k) (fun w hh => hh) ?_
    refine qD Y Y Y (qD Y Y Y ?_)
    obtain ⟨t23, h9, hm⟩ := bindO hm
    refine jp Y Y Y Y (fun w _ => qM h9 (runUnderlying22 w) (sizeOf3 w) Y Y hna4 hqa4) (jy Y Y Y Y (fun w hh => qy RI 0 h9 (isAgg3 w) Y (hh.seg 4 Y) Y (Nat.add_zero _).symm) (qD Y Y Y (qD Y Y Y ?_)))
    obtain ⟨t27, h10, hm⟩ := bindO hm
    refine jp Y Y Y Y (fun w _ => qM h10 (runUnderlying22 w) (sizeOf3 w) Y Y hna3 hqa3) (jy Y Y Y Y (fun w hh => qy RI 0 h10 (isAgg3 w) Y (hh.seg 3 Y) Y (Nat.add_zero _).symm) (qD Y Y Y ?_))
    obtain ⟨t30, h11, hm⟩ := bindO hm
    refine jp Y Y Y Y (fun _ _ => Jm h11 Y Y) (qD Y Y Y (qD Y Y Y ?_))
    obtain ⟨t33, h12, hm⟩ := bindO hm
    refine jp Y Y Y Y (fun w _ => qM h12 (runUnderlying22 w) (sizeOf3 w) Y Y hna3 hqa3) (jy Y Y Y Y (fun w hh => qy RI 0 h12 (isAgg3 w) Y (hh.seg 3 Y) Y (Nat.add_zero _).symm) (qD Y Y Y ?_))
    obtain ⟨t36, h13, hm⟩ := bindO hm
    refine jp Y Y Y Y (fun _ _ => Qg h13 Y Y) (jD Y ?_)
    obtain ⟨t37, h14, hm⟩ := bindO hm
    refine jd [] [] Y Y Y Y Y Y Y call88 (fun w hh => kf t23 t30 t36 w (HV.callee (S0 := []) (vs0 := []) hh roN)  h14) (fun l_2 h15 => ?_)
    refine jn (fun w hh => hh) (jH (ja ?_))
    refine js Y (fun h16 => ?_) (fun h16 => ?_)
    ·replace hm := ifT (h16) hm
     refine jr (jo Y Y (jq (jv (jz (je (je (jz ?_)))))))
     obtain rfl := sj hm
     have hbo := h4 _ Y
     subst hbo
     refine je ?_
     replace hm := ocR h3
     refine je ?_
     obtain rfl := sj hm
     refine jm Y (fun w hh => (.tmp Y .nil)) (fun w hh => ⟨(), rfl, trivial, hh.se [] [] 5 Y Y Y rfl⟩)
    replace hm := ifN h16 hm
    refine jt (jw (ja (jg (jj Y Y ?_))))
    obtain ⟨t14, h17, hm⟩ := bindO hm
    refine JV h17 Y Y Y (jo Y Y (jx ?_))
    obtain rfl := sj hm
    refine ja ?_
    exact jA _ () Y (trivial) (sE Y) (fun w hh => hh)
   replace hm := ifE h5 hm
   refine jV (ji (ji (jC ?_)))
   obtain rfl := sj hm
   have hbo := h4 _ Y
   subst hbo
   exact jk () (Y) (.nil) (fun w hh => hh)
  intro j hj
  have h18 := hj
  subst h18
  replace hm := ocL h3
  refine ja (jr (jo Y Y (jq (jv ?_))))
  obtain rfl := sj hm
  refine jm Y (fun w hh => (.tmp Y .nil)) (fun w hh => ⟨(), rfl, trivial, hh.se [] [] 5 Y Y Y rfl⟩)
end Go.Proofs.Wb

namespace Go.Proofs.Wb
set_option maxHeartbeats 4000000
set_option maxRecDepth 100000
open Go Go.Fw Go.Gx Go.Sb
open Tryz
set_option linter.unusedVariables false
structure qQ where
  k7 : Int
  out6 : (List (List Int))
structure yK where
  b9 : Int
  t21 : (List Int)
structure Je where
  a10 : Int
  t21 : (List Int)
def kC (t12 : (List (List Int))) (s : qQ) (s_1 : yK) (c0 : Channel) (s_2 : Je) : Option (Je ⊕ (List Int)) :=
 (if s_2.a10 < (t12.length : Int) then
 (some (decide (0 < s.k7))) else
 (some false)).bind fun o_6 =>
 if o_6 = true then
 ((((subc s.k7 1).bind fun t63 =>
 (ix s.out6 t63).bind fun t64 =>
 (ix t64 s_2.a10).bind fun t67 =>
 if 0 < t67 then
 ((ix t12 s_2.a10).bind fun t74 =>
 (ix t12 s_1.b9).bind fun t78 =>
 (Jt c0 t74 t78).bind fun t80 =>
 some t80) else
 (some false)).bind fun o_8 =>
 if o_8 = true then
 ((ix s_2.t21 s_1.b9).bind fun t86 =>
 (subc s.k7 1).bind fun t90 =>
 (ix s.out6 t90).bind fun t91 =>
 (ix t91 s_2.a10).bind fun t94 =>
 (addc t86 t94).bind fun t96 =>
 (ix s_2.t21 s_1.b9).bind fun t97 =>
 (some (s_2.t21.set (Int.toNat s_1.b9) t96)).bind fun t21_2 =>
 some t21_2) else
 (some s_2.t21)).bind fun o_7 =>
 (addc s_2.a10 1).bind fun t60 =>
 some (.inl (⟨t60, o_7⟩ : Je))) else
 (some (.inr s_2.t21))
def qP (t12 : (List (List Int))) (c0 : Channel) (s : qQ) (set1 : Int) (s_1 : yK) : Option (yK ⊕ (List Int)) :=
 if s_1.b9 < (t12.length : Int) then
 (((ix t12 s_1.b9).bind fun t32 =>
 (ze c0 s.k7 t32 set1).bind fun t35 =>
 if (!t35) = true then
 (some s_1.t21) else
 (((if s.k7 = 0 then
 ((ix t12 s_1.b9).bind fun t42 =>
 (zY t42 c0.fords).bind fun t46 =>
 some t46) else
 (some false)).bind fun o_4 =>
 if o_4 = true then
 ((ix s_1.t21 s_1.b9).bind fun t50 =>
 (some (s_1.t21.set (Int.toNat s_1.b9) 1)).bind fun t21_1 =>
 some t21_1) else
 (some s_1.t21)).bind fun o_3 =>
 (iterM FU (kC t12 s s_1 c0) (⟨0, o_3⟩ : Je)).bind fun o_5 =>
 some o_5)).bind fun o_2 =>
 (addc s_1.b9 1).bind fun t27 =>
 some (.inl (⟨t27, o_2⟩ : yK))) else
 (some (.inr s_1.t21))
def qU (c0 : Channel) (t12 : (List (List Int))) (set1 : Int) (s : qQ) : Option (qQ ⊕ (List (List Int))) :=
 if s.k7 ≤ c0.tides then
 ((makec 8 0 (t12.length : Int) (t12.length : Int)).bind fun t21 =>
 (iterM FU (qP t12 c0 s set1) (⟨0, t21⟩ : yK)).bind fun o_1 =>
 (appc 24 s.out6 [o_1]).bind fun t101 =>
 (addc s.k7 1).bind fun t18 =>
 some (.inl (⟨t18, t101⟩ : qQ))) else
 (some (.inr s.out6))
def z8 (c0 : Channel) (set1 : Int) : Option (List (List Int)) :=
 (zw c0).bind fun t12 =>
 (iterM FU (qU c0 t12 set1) (⟨0, ([] : List (List Int))⟩ : qQ)).bind fun o =>
 some o
theorem ZN (c0 : Channel) (set1 : Int) (qa0 : Option Addr) (na0 ca0 : Nat) (qa1 : Option Addr) (na1 ca1 : Nat) (qa2 : Option Addr) (na2 ca2 : Nat) (w : World) (hw : HV w (keys [] []) [] [] [(aB qa0, aO qa0, RI.enc c0.fords), (aB qa1, aO qa1, RSa.enc c0.sands), (aB qa2, aO qa2, RSi.enc c0.sights)] w) (hna0 : c0.fords.length = na0) (hqa0 : AOK na0 qa0) (hla0 : na0 ≤ ca0) (hna1 : c0.sands.length = na1) (hqa1 : AOK na1 qa1) (hla1 : na1 ≤ ca1) (hna2 : c0.sights.length = na2) (hqa2 : AOK na2 qa2) (hla2 : na2 ≤ ca2) {res : (List (List Int))} (hm : z8 c0 set1 = some res) :
    Calls Tryz.prog 89 #[.agg #[.int .i64 c0.cells, .int .i64 c0.tides, .slice qa0 na0 ca0, .slice qa1 na1 ca1, .slice qa2 na2 ca2], .int .i64 set1] w (fun en w' => ∃ l : DL, en = .returned (sL l.v) ∧ (VOK 1 l.v.n l.v.cap (RwH.enc l.rs) l.v.sp l.v.q ∧ DOK RI res l.rs) ∧ HV w (keys [] []) [] [⟨22, RwH.enc l.rs, l.v.sp, l.v.q, dbl 3 RI res l.rs⟩] [] w') := by
  unfold z8 at hm
  refine qL func89 Y ntmps89 Y (e := [(0, _), (1, _)]) Y hw (jr ?_)
  refine jG Y Y (fun b h3 => ?_)
  refine jc Y Y Y (fun _ _ => qr Y) (kY (JC [_, _, _, _, _] 0 isAgg33 sizeOf33 Y Y Y Y ?_))
  obtain ⟨t12, h4, hm⟩ := bindO hm
  refine jd [] [] Y Y Y Y Y Y Y call90 (fun w hh => Zq c0 qa0 na0 ca0 qa1 na1 ca1 qa2 na2 ca2 w (HV.callee (S0 := []) (vs0 := []) hh (roR hh 0 Y (roR hh 1 Y (roR hh 2 Y roN)))) hna0 hqa0 hla0 hna1 hqa1 hla1 hna2 hqa2 hla2 h4) (fun l h5 => ?_)
  obtain ⟨h6, h7⟩ := h5
  refine kx (S' := [_]) (vs' := [_]) [0] [0] 0 Y Y Y Y (jo Y Y (kY (jc Y Y Y (fun _ _ => qr Y) (jq (jh (jr (jo Y Y ?_)))))))
  refine jq (zK 22 ?_)
  obtain ⟨o, h8, h9⟩ := bindO hm
  refine jM (ι := DL) (fun l_1 => VOK 1 l_1.v.n l_1.v.cap (RwH.enc l_1.rs) l_1.v.sp l_1.v.q ∧ DOK RI o l_1.rs) (fun l_1 => [(6, sL l_1.v)]) (fun l_1 => [kc b #[.int .i64 c0.cells, .int .i64 c0.tides, .slice qa0 na0 ca0, .slice qa1 na1 ca1, .slice qa2 na2 ca2] 33]) (fun l_1 => [⟨22, RwH.enc l_1.rs, l_1.v.sp, l_1.v.q, dbl 3 RI o l_1.rs⟩]) ?_ ?_
  ·replace hm := h8
   refine jl ?_
   refine jK (ι := DL) hm (fun s l_2 => VOK 1 l_2.v.n l_2.v.cap (RwH.enc l_2.rs) l_2.v.sp l_2.v.q ∧ DOK RI s.out6 l_2.rs) (fun s l_2 => [(1, .int .i64 set1), (2, ptr b 0), (5, sL l.v), (6, sL l_2.v), (7, .int .i64 s.k7)]) (fun s l_2 => [kc b #[.int .i64 c0.cells, .int .i64 c0.tides, .slice qa0 na0 ca0, .slice qa1 na1 ca1, .slice qa2 na2 ca2] 33]) (fun s l_2 => [⟨22, RwH.enc l.rs, l.v.sp, l.v.q, dbl 3 RI t12 l.rs⟩, ⟨22, RwH.enc l_2.rs, l_2.v.sp, l_2.v.q, dbl 3 RI s.out6 l_2.rs⟩]) (⟨⟨none, 0, 0, []⟩, []⟩) (⟨VOK.nil, DOK.nil⟩) (sE Y) (hsE [0] [1, 0] 0 Y Y Y Y) (fun s l_2 r hpl hm h14 => ?_)
   obtain ⟨h12, h13⟩ := hpl
   unfold qU at hm
   refine jh (jr (jj Y Y (qV 1 runUnderlying33 Y sizeOf3 Y Y (qp 0 isAgg3 Y Y Y Y (jc Y Y Y (fun _ _ => jak Y Y) (jq ?_))))))
   refine js Y (fun h15 => ?_) (fun h15 => ?_)
   ·replace hm := ifD h15 hm
    refine jt (ja (jh (jl (jr (jj Y Y (jc Y Y Y (fun w _ => Yp (Eq.trans (h7).len (vlen RwH h6 Y)) (runUnderlying41 w) Y) ?_))))))
    obtain ⟨t21, h16, hm⟩ := bindO hm
    refine ZT RI 0 h16 underlying22 QG Y Y Y Y Y (fun L h17 => ?_)
    refine jo Y Y (jq (jh (jr (jo Y Y (jq ?_)))))
    obtain ⟨o_1, h18, h19⟩ := bindO hm
    refine jM (ι := Unit) (fun l_3 => VOK 1 L.n L.cap (RI.enc o_1) L.sp L.q) (fun l_3 => [(1, .int .i64 set1), (2, ptr b 0), (5, sL l.v), (6, sL l_2.v), (7, .int .i64 s.k7), (8, sL L)]) (fun l_3 => [kc b #[.int .i64 c0.cells, .int .i64 c0.tides, .slice qa0 na0 ca0, .slice qa1 na1 ca1, .slice qa2 na2 ca2] 33]) (fun l_3 => [⟨22, RwH.enc l.rs, l.v.sp, l.v.q, dbl 3 RI t12 l.rs⟩, ⟨22, RwH.enc l_2.rs, l_2.v.sp, l_2.v.q, dbl 3 RI s.out6 l_2.rs⟩, vL 3 L (RI.enc o_1)]) ?_ ?_
    ·replace hm := h18
     refine jl ?_
     refine jK (ι := Unit) hm (fun s_1 l_4 => VOK 1 L.n L.cap (RI.enc s_1.t21) L.sp L.q) (fun s_1 l_4 => [(1, .int .i64 set1), (2, ptr b 0), (5, sL l.v), (6, sL l_2.v), (7, .int .i64 s.k7), (8, sL L), (9, .int .i64 s_1.b9)]) (fun s_1 l_4 => [kc b #[.int .i64 c0.cells, .int .i64 c0.tides, .slice qa0 na0 ca0, .slice qa1 na1 ca1, .slice qa2 na2 ca2] 33]) (fun s_1 l_4 => [⟨22, RwH.enc l.rs, l.v.sp, l.v.q, dbl 3 RI t12 l.rs⟩, ⟨22, RwH.enc l_2.rs, l_2.v.sp, l_2.v.q, dbl 3 RI s.out6 l_2.rs⟩, vL 3 L (RI.enc s_1.t21)]) () (h17) (sE Y) (hsE [0] [1, 2, 0] 0 Y Y Y Y) (fun s_1 l_4 r_1 hpl hm h22 => ?_)
     have h21 := hpl
     unfold qP at hm
     refine jh (jr (jj Y Y (jj Y Y (jc Y Y Y (fun w _ => Yp (Eq.trans (h7).len (vlen RwH h6 Y)) (runUnderlying41 w) Y) (Kc Y Y Y (jq ?_))))))
     refine js Y (fun h23 => ?_) (fun h23 => ?_)
     ·replace hm := ifD h23 hm
      refine jt (ja (jh ?_))
      obtain ⟨o_2, h24, h25⟩ := bindO hm
      refine jM (ι := Unit) (fun l_5 => VOK 1 L.n L.cap (RI.enc o_2) L.sp L.q) (fun l_5 => [(1, .int .i64 set1), (2, ptr b 0), (5, sL l.v), (6, sL l_2.v), (7, .int .i64 s.k7), (8, sL L), (9, .int .i64 s_1.b9)]) (fun l_5 => [kc b #[.int .i64 c0.cells, .int .i64 c0.tides, .slice qa0 na0 ca0, .slice qa1 na1 ca1, .slice qa2 na2 ca2] 33]) (fun l_5 => [⟨22, RwH.enc l.rs, l.v.sp, l.v.q, dbl 3 RI t12 l.rs⟩, ⟨22, RwH.enc l_2.rs, l_2.v.sp, l_2.v.q, dbl 3 RI s.out6 l_2.rs⟩, vL 3 L (RI.enc o_2)]) ?_ ?_
      ·replace hm := h24
       refine jl (jh (jh ?_))
       refine j3 none (.hoist 0 (.free 1 (.free 2 (.free 3 (.free 4 (.hoist 5 (.free 6 (.one 7 (.free 8 .done))))))))) _ Y (by decide +kernel) (fun w k hh => hh.draw k) (fun w hh => hh) ?_
       refine jy Y Y Y Y (fun w hh => jO (vs := [_, _, _, _, _]) (isAgg33 w) (sizeOf33 w) Y (hh.cells 0 Y Y)) (qD Y Y Y (qD Y Y Y (qD Y Y Y ?_)))
       obtain ⟨t32, h27, hm⟩ := bindO hm
       obtain ⟨L_1, h28, h29⟩ := (h7).row h27
       refine jp Y Y Y Y (fun w _ => Qd h28 (runUnderlying41 w) (sizeOf22 w) Y Y (vlen RwH h6 Y) (vne h6)) (jy Y Y Y Y (fun w hh => qy RwH 0 h28 (isAgg22 w) Y (hh.vseg 0 Y h6) Y (Nat.add_zero _).symm) (qD Y Y Y (jD Y ?_)))
       obtain ⟨t35, h30, hm⟩ := bindO hm
       refine jd [] [] Y Y Y Y Y Y Y call102 (fun w hh => Zb c0 s.k7 t32 set1 qa0 na0 ca0 qa1 na1 ca1 qa2 na2 ca2 (qA L_1.q) L_1.n L_1.cap w (HV.callee (S0 := []) (vs0 := []) hh (roR hh 0 Y (roR hh 1 Y (roR hh 2 Y (roC (hh.dsepA (S0 := []) (vs0 := []) 0 Y h27 h28 h29) roN))))) hna0 hqa0 hla0 hna1 hqa1 hla1 hna2 hqa2 hla2 (vlen RI h29 Y) (AOK.q (vne h29)) (h29).hle h30) (fun l_6 h31 => ?_)
       refine jn (fun w hh => hh) (jp Y Y Y Y (fun _ _ => zJ Y) (jH (ja ?_)))
       refine js Y (fun h32 => ?_) (fun h32 => ?_)
       ·replace hm := ifT (h32) hm
        refine jV (ji (jC ?_))
        obtain rfl := sj hm
        exact jk () (h21) (sE Y) (fun w hh => hh)
       replace hm := ifN h32 hm
       refine jt (ja (jh ?_))
       obtain ⟨o_3, h33, h34⟩ := bindO hm
       refine jM (ι := Unit) (fun l_7 => VOK 1 L.n L.cap (RI.enc o_3) L.sp L.q) (fun l_7 => [(1, .int .i64 set1), (2, ptr b 0), (5, sL l.v), (6, sL l_2.v), (7, .int .i64 s.k7), (8, sL L), (9, .int .i64 s_1.b9)]) (fun l_7 => [kc b #[.int .i64 c0.cells, .int .i64 c0.tides, .slice qa0 na0 ca0, .slice qa1 na1 ca1, .slice qa2 na2 ca2] 33]) (fun l_7 => [⟨22, RwH.enc l.rs, l.v.sp, l.v.q, dbl 3 RI t12 l.rs⟩, ⟨22, RwH.enc l_2.rs, l_2.v.sp, l_2.v.q, dbl 3 RI s.out6 l_2.rs⟩, vL 3 L (RI.enc o_3)]) ?_ ?_
       ·replace hm := h33
        refine jh ?_
        obtain ⟨o_4, h36, h37⟩ := bindO hm
        refine jM (ι := Unit) (fun l_8 => True) (fun l_8 => [(1, .int .i64 set1), (2, ptr b 0), (5, sL l.v), (6, sL l_2.v), (7, .int .i64 s.k7), (8, sL L), (9, .int .i64 s_1.b9), (47, .bool o_4)]) (fun l_8 => [kc b #[.int .i64 c0.cells, .int .i64 c0.tides, .slice qa0 na0 ca0, .slice qa1 na1 ca1, .slice qa2 na2 ca2] 33]) (fun l_8 => [⟨22, RwH.enc l.rs, l.v.sp, l.v.q, dbl 3 RI t12 l.rs⟩, ⟨22, RwH.enc l_2.rs, l_2.v.sp, l_2.v.q, dbl 3 RI s.out6 l_2.rs⟩, vL 3 L (RI.enc s_1.t21)]) ?_ ?_
        ·replace hm := h36
         refine j3 none (.free 0 (.free 1 (.free 2 (.free 3 (.free 4 (.free 5 (.hoist 6 (.free 7 (.hoist 8 (.one 9 (.free 10 .done))))))))))) _ Y (by decide +kernel) (fun w k hh => hh.draw k) (fun w hh => hh) ?_
         refine qD Y Y Y (jp Y Y Y Y (fun _ _ => Jw Y Y) (qD Y Y Y ?_))
         refine jW 39 Y (fun h38 => ?_) (fun h38 => ?_)
         ·replace hm := ifD h38 hm
          refine jN Y Y Y Y Y Y (fun _ _ => kd Y) (jN Y Y Y Y Y Y (fun _ _ => kd Y) ?_)
          obtain ⟨t42, h39, hm⟩ := bindO hm
          obtain ⟨L_2, h40, h41⟩ := (h7).row h39
          refine jN Y Y Y Y Y Y (fun w _ => Qd h40 (runUnderlying41 w) (sizeOf22 w) Y Y (vlen RwH h6 Y) (vne h6)) (k8 Y Y Y Y Y Y (fun w hh => qy RwH 0 h40 (isAgg22 w) Y (hh.vseg 0 Y h6) Y (Nat.add_zero _).symm) (jN Y Y Y Y Y Y (fun w _ => jI 2 (runUnderlying33 w) Y (sizeOf22 w) Y) (k8 Y Y Y Y Y Y (fun w hh => jB (isAgg22 w) Y (hh.cell 0 Y Y)) (jD Y (jb Y Y ?_)))))
          obtain ⟨t46, h42, hm⟩ := bindO hm
          refine jd [] [] Y Y Y Y Y Y Y call101 (fun w hh => ZH t42 c0.fords (qA L_2.q) L_2.n L_2.cap qa0 na0 ca0 w (HV.callee (S0 := []) (vs0 := []) hh (roC (hh.dsepA (S0 := []) (vs0 := []) 0 Y h39 h40 h41) (roR hh 0 Y roN))) (vlen RI h41 Y) (AOK.q (vne h41)) (h41).hle hna0 hqa0 hla0 h42) (fun l_9 h43 => ?_)
          refine jn (fun w hh => hh) (jp Y Y Y Y (fun _ _ => JU Y Y) (jH ?_))
          obtain rfl := sj hm
          exact jk () (trivial) (sE Y) (fun w hh => hh)
         replace hm := ifE h38 hm
         refine jE Y Y Y Y Y Y Y (jE Y Y Y Y Y Y Y (jE Y Y Y Y Y Y Y (yz Y Y Y Y Y Y Y (jE Y Y Y Y Y Y Y (yz Y Y Y Y Y Y Y (jD Y (g_k Y Y Y Y ?_)))))))
         refine jn (fun w hh => hh) (jp Y Y Y Y (fun _ _ => zP Y Y) (jH ?_))
         obtain rfl := sj hm
         exact jk () (trivial) (sE Y) (fun w hh => hh)
        intro l_8 hj
        replace hm := h37
        refine ja ?_
        refine js Y (fun h44 => ?_) (fun h44 => ?_)
        ·replace hm := ifT (h44) hm
         refine jg (jj Y Y (jj Y Y ?_))
         obtain ⟨t50, h45, hm⟩ := bindO hm
         refine jc Y Y Y (fun w _ => Qd h45 (runUnderlying22 w) (sizeOf3 w) Y Y (vlen RI h21 Y) (vne h21)) ?_
         obtain ⟨t21_1, ht21_1, hm⟩ := bindO hm
         refine jcq RI 2 0 1 (fun w => sizeOf3 w) Y Y Y Y h21 Y (Nat.add_zero _).symm Y h45 Y Y (Option.some.inj ht21_1) (fun h46 => ?_)
         refine kx (S' := [_]) (vs' := [_, _, _]) [0] [0, 1, 2] 0 Y Y Y Y (jx ?_)
         obtain rfl := sj hm
         exact jk () (h46) (sE Y) (fun w hh => hh)
        replace hm := ifN h44 hm
        refine jt ?_
        obtain rfl := sj hm
        exact jk () (h21) (sE Y) (fun w hh => hh)
       intro l_7 hj
       have h35 := hj
       replace hm := h34
       refine ja (jr (jo Y Y (jq ?_)))
       obtain ⟨o_5, h47, h48⟩ := bindO hm
       refine jM (ι := Unit) (fun l_10 => VOK 1 L.n L.cap (RI.enc o_5) L.sp L.q) (fun l_10 => [(1, .int .i64 set1), (2, ptr b 0), (5, sL l.v), (6, sL l_2.v), (7, .int .i64 s.k7), (8, sL L), (9, .int .i64 s_1.b9)]) (fun l_10 => [kc b #[.int .i64 c0.cells, .int .i64 c0.tides, .slice qa0 na0 ca0, .slice qa1 na1 ca1, .slice qa2 na2 ca2] 33]) (fun l_10 => [⟨22, RwH.enc l.rs, l.v.sp, l.v.q, dbl 3 RI t12 l.rs⟩, ⟨22, RwH.enc l_2.rs, l_2.v.sp, l_2.v.q, dbl 3 RI s.out6 l_2.rs⟩, vL 3 L (RI.enc o_5)]) ?_ ?_
       ·replace hm := h47
        refine jl ?_
        refine jK (ι := Unit) hm (fun s_2 l_11 => VOK 1 L.n L.cap (RI.enc s_2.t21) L.sp L.q) (fun s_2 l_11 => [(1, .int .i64 set1), (2, ptr b 0), (5, sL l.v), (6, sL l_2.v), (7, .int .i64 s.k7), (8, sL L), (9, .int .i64 s_1.b9), (10, .int .i64 s_2.a10)]) (fun s_2 l_11 => [kc b #[.int .i64 c0.cells, .int .i64 c0.tides, .slice qa0 na0 ca0, .slice qa1 na1 ca1, .slice qa2 na2 ca2] 33]) (fun s_2 l_11 => [⟨22, RwH.enc l.rs, l.v.sp, l.v.q, dbl 3 RI t12 l.rs⟩, ⟨22, RwH.enc l_2.rs, l_2.v.sp, l_2.v.q, dbl 3 RI s.out6 l_2.rs⟩, vL 3 L (RI.enc s_2.t21)]) () (h35) (sE Y) (fun w hh => hh) (fun s_2 l_11 r_2 hpl hm h51 => ?_)
        have h50 := hpl
        unfold kC at hm
        refine jh (jh ?_)
        obtain ⟨o_6, h52, h53⟩ := bindO hm
        refine jM (ι := Unit) (fun l_12 => True) (fun l_12 => [(1, .int .i64 set1), (2, ptr b 0), (5, sL l.v), (6, sL l_2.v), (7, .int .i64 s.k7), (8, sL L), (9, .int .i64 s_1.b9), (10, .int .i64 s_2.a10), (58, .bool o_6)]) (fun l_12 => [kc b #[.int .i64 c0.cells, .int .i64 c0.tides, .slice qa0 na0 ca0, .slice qa1 na1 ca1, .slice qa2 na2 ca2] 33]) (fun l_12 => [⟨22, RwH.enc l.rs, l.v.sp, l.v.q, dbl 3 RI t12 l.rs⟩, ⟨22, RwH.enc l_2.rs, l_2.v.sp, l_2.v.q, dbl 3 RI s.out6 l_2.rs⟩, vL 3 L (RI.enc s_2.t21)]) ?_ ?_
        ·replace hm := h52
         refine jg (jj Y Y (jj Y Y (jc Y Y Y (fun w _ => Yp (Eq.trans (h7).len (vlen RwH h6 Y)) (runUnderlying41 w) Y) (Kc Y Y Y (jj Y Y ?_)))))
         refine jW 55 Y (fun h54 => ?_) (fun h54 => ?_)
         ·replace hm := ifD h54 hm
          refine jb Y Y (jj Y Y (jb Y Y (jc Y Y Y (fun _ _ => QI Y Y) (zo Y Y Y (jx ?_)))))
          obtain rfl := sj hm
          exact jk () (trivial) (sE Y) (fun w hh => hh)
         replace hm := ifE h54 hm
         refine g_k Y Y Y Y (g_k Y Y Y Y (yI Y Y Y (jx ?_)))
         obtain rfl := sj hm
         exact jk () (trivial) (sE Y) (fun w hh => hh)
        intro l_12 hj
        replace hm := h53
        refine ja ?_
        refine js Y (fun h55 => ?_) (fun h55 => ?_)
        ·replace hm := ifT (h55) hm
         refine jt (ja (jh ?_))
         obtain ⟨o_7, h56, h57⟩ := bindO hm
         refine jM (ι := Unit) (fun l_13 => VOK 1 L.n L.cap (RI.enc o_7) L.sp L.q) (fun l_13 => [(1, .int .i64 set1), (2, ptr b 0), (5, sL l.v), (6, sL l_2.v), (7, .int .i64 s.k7), (8, sL L), (9, .int .i64 s_1.b9), (10, .int .i64 s_2.a10)]) (fun l_13 => [kc b #[.int .i64 c0.cells, .int .i64 c0.tides, .slice qa0 na0 ca0, .slice qa1 na1 ca1, .slice qa2 na2 ca2] 33]) (fun l_13 => [⟨22, RwH.enc l.rs, l.v.sp, l.v.q, dbl 3 RI t12 l.rs⟩, ⟨22, RwH.enc l_2.rs, l_2.v.sp, l_2.v.q, dbl 3 RI s.out6 l_2.rs⟩, vL 3 L (RI.enc o_7)]) ?_ ?_
         ·replace hm := h56
          refine jl (jh ?_)
          obtain ⟨o_8, h59, h60⟩ := bindO hm
          refine jM (ι := Unit) (fun l_14 => True) (fun l_14 => [(1, .int .i64 set1), (2, ptr b 0), (5, sL l.v), (6, sL l_2.v), (7, .int .i64 s.k7), (8, sL L), (9, .int .i64 s_1.b9), (10, .int .i64 s_2.a10), (81, .bool o_8)]) (fun l_14 => [kc b #[.int .i64 c0.cells, .int .i64 c0.tides, .slice qa0 na0 ca0, .slice qa1 na1 ca1, .slice qa2 na2 ca2] 33]) (fun l_14 => [⟨22, RwH.enc l.rs, l.v.sp, l.v.q, dbl 3 RI t12 l.rs⟩, ⟨22, RwH.enc l_2.rs, l_2.v.sp, l_2.v.q, dbl 3 RI s.out6 l_2.rs⟩, vL 3 L (RI.enc s_2.t21)]) ?_ ?_
          ·replace hm := h59
           refine j3 none (.free 0 (.free 1 (.free 2 (.free 3 (.hoist 4 (.free 5 (.free 6 (.hoist 7 (.free 8 (.free 9 (.hoist 10 (.free 11 (.free 12 (.free 13 (.hoist 14 (.free 15 (.free 16 (.free 17 (.hoist 18 (.one 19 (.free 20 .done))))))))))))))))))))) _ Y (by decide +kernel) (fun w k hh => hh.draw k) (fun w hh => hh) ?_
           refine qD Y Y Y (qD Y Y Y ?_)
           obtain ⟨t63, h61, hm⟩ := bindO hm
           refine jp Y Y Y Y (fun _ _ => Jm h61 Y Y) ?_
           obtain ⟨t64, h62, hm⟩ := bindO hm
           obtain ⟨L_3, h63, h64⟩ := (h13).row h62
           refine jp Y Y Y Y (fun w _ => Qd h63 (runUnderlying41 w) (sizeOf22 w) Y Y (vlen RwH h12 Y) (vne h12)) (jy Y Y Y Y (fun w hh => qy RwH 0 h63 (isAgg22 w) Y (hh.vseg 1 Y h12) Y (Nat.add_zero _).symm) (qD Y Y Y ?_))
           obtain ⟨t67, h65, hm⟩ := bindO hm
           refine jp Y Y Y Y (fun w _ => Qd h65 (runUnderlying22 w) (sizeOf3 w) Y Y (vlen RI h64 Y) (vne h64)) (jy Y Y Y Y (fun w hh => qy RI 0 h65 (isAgg3 w) Y (hh.dseg 1 Y h62 h63 h64) Y (Nat.add_zero _).symm) (jp Y Y Y Y (fun _ _ => QI Y Y) (qD Y Y Y ?_)))
           refine jW 70 Y (fun h66 => ?_) (fun h66 => ?_)
           ·replace hm := ifD h66 hm
            refine k8 Y Y Y Y Y Y (fun w hh => jO (vs := [_, _, _, _, _]) (isAgg33 w) (sizeOf33 w) Y (hh.cells 0 Y Y)) (jN Y Y Y Y Y Y (fun _ _ => kd Y) (jN Y Y Y Y Y Y (fun _ _ => kd Y) ?_))
            obtain ⟨t74, h67, hm⟩ := bindO hm
            obtain ⟨L_4, h68, h69⟩ := (h7).row h67
            refine jN Y Y Y Y Y Y (fun w _ => Qd h68 (runUnderlying41 w) (sizeOf22 w) Y Y (vlen RwH h6 Y) (vne h6)) (k8 Y Y Y Y Y Y (fun w hh => qy RwH 0 h68 (isAgg22 w) Y (hh.vseg 0 Y h6) Y (Nat.add_zero _).symm) (jN Y Y Y Y Y Y (fun _ _ => kd Y) (jN Y Y Y Y Y Y (fun _ _ => kd Y) ?_)))
            obtain ⟨t78, h70, hm⟩ := bindO hm
            obtain ⟨L_5, h71, h72⟩ := (h7).row h70
            refine jN Y Y Y Y Y Y (fun w _ => Qd h71 (runUnderlying41 w) (sizeOf22 w) Y Y (vlen RwH h6 Y) (vne h6)) (k8 Y Y Y Y Y Y (fun w hh => qy RwH 0 h71 (isAgg22 w) Y (hh.vseg 0 Y h6) Y (Nat.add_zero _).symm) (jD Y (jb Y Y ?_)))
            obtain ⟨t80, h73, hm⟩ := bindO hm
            refine jd [] [] Y Y Y Y Y Y Y call92 (fun w hh => ZY c0 t74 t78 qa0 na0 ca0 qa1 na1 ca1 qa2 na2 ca2 (qA L_4.q) L_4.n L_4.cap (qA L_5.q) L_5.n L_5.cap w (HV.callee (S0 := []) (vs0 := []) hh (roR hh 0 Y (roR hh 1 Y (roR hh 2 Y (roC (hh.dsepA (S0 := []) (vs0 := []) 0 Y h67 h68 h69) (roC (hh.dsepA (S0 := []) (vs0 := []) 0 Y h70 h71 h72) roN)))))) hna0 hqa0 hla0 hna1 hqa1 hla1 hna2 hqa2 hla2 (vlen RI h69 Y) (AOK.q (vne h69)) (h69).hle (vlen RI h72 Y) (AOK.q (vne h72)) (h72).hle h73) (fun l_15 h74 => ?_)
            refine jn (fun w hh => hh) (jp Y Y Y Y (fun _ _ => JU Y Y) (jH ?_))
            obtain rfl := sj hm
            exact jk () (trivial) (sE Y) (fun w hh => hh)
           replace hm := ifE h66 hm
           refine yz Y Y Y Y Y Y Y (jE Y Y Y Y Y Y Y (jE Y Y Y Y Y Y Y (jE Y Y Y Y Y Y Y (yz Y Y Y Y Y Y Y (jE Y Y Y Y Y Y Y (jE Y Y Y Y Y Y Y (jE Y Y Y Y Y Y Y ?_)))))))
           refine yz Y Y Y Y Y Y Y (jD Y (g_k Y Y Y Y (jn (fun w hh => hh) (jp Y Y Y Y (fun _ _ => zP Y Y) (jH ?_)))))
           obtain rfl := sj hm
           exact jk () (trivial) (sE Y) (fun w hh => hh)
          intro l_14 hj
          replace hm := h60
          refine ja ?_
          refine js Y (fun h75 => ?_) (fun h75 => ?_)
          ·replace hm := ifT (h75) hm
           refine j3 (some 16) (.free 0 (.free 1 (.free 2 (.free 3 (.free 4 (.hoist 5 (.free 6 (.free 7 (.free 8 (.free 9 (.hoist 10 (.free 11 (.free 12 (.hoist 13 (.free 14 (.free 15 (.last 16 .done))))))))))))))))) _ Y (by decide +kernel) (fun w k hh => hh.draw k) (fun w hh => hh) ?_
           refine qD Y Y Y (qD Y Y Y (qD Y Y Y (qD Y Y Y ?_)))
           obtain ⟨t86, h76, hm⟩ := bindO hm
           refine jp Y Y Y Y (fun w _ => Qd h76 (runUnderlying22 w) (sizeOf3 w) Y Y (vlen RI h50 Y) (vne h50)) (jy Y Y Y Y (fun w hh => qy RI 0 h76 (isAgg3 w) Y (hh.vseg 2 Y h50) Y (Nat.add_zero _).symm) (qD Y Y Y (qD Y Y Y ?_)))
           obtain ⟨t90, h77, hm⟩ := bindO hm
           refine jp Y Y Y Y (fun _ _ => Jm h77 Y Y) ?_
           obtain ⟨t91, h78, hm⟩ := bindO hm
           obtain ⟨L_6, h79, h80⟩ := (h13).row h78
           refine jp Y Y Y Y (fun w _ => Qd h79 (runUnderlying41 w) (sizeOf22 w) Y Y (vlen RwH h12 Y) (vne h12)) (jy Y Y Y Y (fun w hh => qy RwH 0 h79 (isAgg22 w) Y (hh.vseg 1 Y h12) Y (Nat.add_zero _).symm) (qD Y Y Y ?_))
           obtain ⟨t94, h81, hm⟩ := bindO hm
           refine jp Y Y Y Y (fun w _ => Qd h81 (runUnderlying22 w) (sizeOf3 w) Y Y (vlen RI h80 Y) (vne h80)) (jy Y Y Y Y (fun w hh => qy RI 0 h81 (isAgg3 w) Y (hh.dseg 1 Y h78 h79 h80) Y (Nat.add_zero _).symm) ?_)
           obtain ⟨t96, h82, hm⟩ := bindO hm
           refine jp Y Y Y Y (fun _ _ => Qg h82 Y Y) ?_
           obtain ⟨t97, h83, hm⟩ := bindO hm
           refine jp Y Y Y Y (fun w _ => Qd h83 (runUnderlying22 w) (sizeOf3 w) Y Y (vlen RI h50 Y) (vne h50)) (jaP Y ?_)
           obtain ⟨t21_2, ht21_2, hm⟩ := bindO hm
           refine jcq RI 2 0 t96 (fun w => sizeOf3 w) Y Y Y Y h50 Y (Nat.add_zero _).symm Y h83 Y Y (Option.some.inj ht21_2) (fun h84 => ?_)
           refine kx (S' := [_]) (vs' := [_, _, _]) [0] [0, 1, 2] 0 Y Y Y Y (jae (jH (jw ?_)))
           obtain rfl := sj hm
           exact jk () (h84) (sE Y) (fun w hh => hh)
          replace hm := ifN h75 hm
          refine jt (jw ?_)
          obtain rfl := sj hm
          exact jk () (h50) (sE Y) (fun w hh => hh)
         intro l_13 hj
         have h58 := hj
         replace hm := h57
         refine ja (jg (jj Y Y ?_))
         obtain ⟨t60, h85, hm⟩ := bindO hm
         refine JV h85 Y Y Y (jo Y Y (jx ?_))
         obtain rfl := sj hm
         refine ja ?_
         exact jA _ () Y (h58) (sE Y) (fun w hh => hh)
        replace hm := ifN h55 hm
        refine jV (ji (ji (jC ?_)))
        obtain rfl := sj hm
        have hbo := h51 _ Y
        subst hbo
        exact jk () (h50) (sE Y) (fun w hh => hh)
       intro l_10 hj
       have h49 := hj
       replace hm := h48
       refine jw ?_
       obtain rfl := sj hm
       exact jk () (h49) (sE Y) (fun w hh => hh)
      intro l_5 hj
      have h26 := hj
      replace hm := h25
      refine ja (jg (jj Y Y ?_))
      obtain ⟨t27, h86, hm⟩ := bindO hm
      refine JV h86 Y Y Y (jo Y Y (jx ?_))
      obtain rfl := sj hm
      refine ja ?_
      exact jA _ () Y (h26) (sE Y) (fun w hh => hh)
     replace hm := ifE h23 hm
     refine jV (ji (ji (jC ?_)))
     obtain rfl := sj hm
     have hbo := h22 _ Y
     subst hbo
     exact jk () (h21) (sE Y) (fun w hh => hh)
    intro l_3 hj
    have h20 := hj
    replace hm := h19
    refine ja (jg (jj Y Y (jj Y Y ?_)))
    refine qE RwH [(⟨L.q, L.n, L.cap, L.sp⟩ : VL)] (ps := [(0, _)]) (cells := [_]) (fun w => runUnderlying41 w) (fun w => sizeOf22 w) (fun w => zeroValue22 w) Y Y Y Y Y Y Y Y (fun L_7 h87 => ?_)
    refine jah (E2 := 3) RI 1 (Y : _ = ([[]] : List (List Int))) (fun h88 => ?_)
    refine kx (S' := [_]) (vs' := [_, _, _, _]) [0] [0, 3, 1, 2] 0 Y Y Y Y ?_
    refine jax RI (l' := [o_1]) 0 L.n L.cap h88 h20 Y Y (fun h89 => ?_)
    have h90 : DOK RI [o_1] [(⟨L.q, L.n, L.cap, L.sp⟩ : VL)] := h89
    refine ja3 (S' := [_]) (vs' := [⟨22, RwH.enc [(⟨L.q, L.n, L.cap, L.sp⟩ : VL)], L_7.sp, L_7.q, dbl 3 RI [o_1] [(⟨L.q, L.n, L.cap, L.sp⟩ : VL)]⟩, ⟨22, RwH.enc l.rs, l.v.sp, l.v.q, dbl 3 RI t12 l.rs⟩, ⟨22, RwH.enc l_2.rs, l_2.v.sp, l_2.v.q, dbl 3 RI s.out6 l_2.rs⟩]) [0] [0, 1, 2] 0 (by decide) (by decide) Y Y Y ?_
    obtain ⟨t101, h91, hm⟩ := bindO hm
    refine Jo RwH 2 (appcL h91 (h13).len (h90).len) underlying41 jbb Y Y Y Y Y h12 Y Y (vlen RwH h87 Y) (AOK.q (vne h87)) (fun w hh => (hh.vsegA 0 Y h87)) Y (fun L_8 h92 _ => ?_)
    refine kx (S' := [_]) (vs' := [_, _, _]) [0] [0, 1, 2] 0 Y Y Y Y (kx (S' := [_]) (vs' := [_, _, _]) [0] [2, 0, 1] 0 Y Y Y Y ?_)
    refine jaN RI h13 h90 (appcO h91).1.symm (fun h93 => ?_)
    refine jo Y Y (jx (jw (ja (jg (jj Y Y ?_)))))
    obtain ⟨t18, h94, hm⟩ := bindO hm
    refine JV h94 Y Y Y (jo Y Y (jx ?_))
    obtain rfl := sj hm
    refine ja ?_
    exact jA _ (⟨⟨L_8.q, L_8.n, L_8.cap, L_8.sp⟩, (l_2.rs ++ [(⟨L.q, L.n, L.cap, L.sp⟩ : VL)])⟩) Y (⟨h92, h93⟩) (sE Y) (hsE [0] [1, 0] 0 Y Y Y Y)
   replace hm := ifE h15 hm
   refine jV (ji (ji (jC ?_)))
   obtain rfl := sj hm
   have hbo := h14 _ Y
   subst hbo
   exact jk l_2 (⟨h12, h13⟩) (sE Y) (hsE [0] [1] 0 Y Y Y Y)
  intro l_1 hj
  obtain ⟨h10, h11⟩ := hj
  replace hm := h9
  refine ja (jr (jj Y Y (jo Y Y (jq (jv ?_)))))
  obtain rfl := sj hm
  refine jm Y (fun w hh => (.tmp Y .nil)) (fun w hh => ⟨l_1, rfl, ⟨h10, h11⟩, hh.se [] [0] 3 Y Y Y rfl⟩)
structure zC where
  n6 : Int
  a7 : Int
def qx (t10 : (List (List Int))) (c0 : Channel) (s : zC) : Option (zC ⊕ Int) :=
 (ix t10 c0.tides).bind fun t15 =>
 if s.a7 < (t15.length : Int) then
 ((ix t10 c0.tides).bind fun t25 =>
 (ix t25 s.a7).bind fun t28 =>
 (addc s.n6 t28).bind fun t30 =>
 (addc s.a7 1).bind fun t20 =>
 some (.inl (⟨t30, t20⟩ : zC))) else
 (some (.inr s.n6))
def j6 (c0 : Channel) (set1 : Int) : Option Int :=
 (z8 c0 set1).bind fun t10 =>
 (iterM FU (qx t10 c0) (⟨0, 0⟩ : zC)).bind fun o =>
 some o
theorem zu (c0 : Channel) (set1 : Int) (qa0 : Option Addr) (na0 ca0 : Nat) (qa1 : Option Addr) (na1 ca1 : Nat) (qa2 : Option Addr) (na2 ca2 : Nat) (w : World) (hw : HV w (keys [] []) [] [] [(aB qa0, aO qa0, RI.enc c0.fords), (aB qa1, aO qa1, RSa.enc c0.sands), (aB qa2, aO qa2, RSi.enc c0.sights)] w) (hna0 : c0.fords.length = na0) (hqa0 : AOK na0 qa0) (hla0 : na0 ≤ ca0) (hna1 : c0.sands.length = na1) (hqa1 : AOK na1 qa1) (hla1 : na1 ≤ ca1) (hna2 : c0.sights.length = na2) (hqa2 : AOK na2 qa2) (hla2 : na2 ≤ ca2) {res : Int} (hm : j6 c0 set1 = some res) :
    Calls Tryz.prog 23 #[.agg #[.int .i64 c0.cells, .int .i64 c0.tides, .slice qa0 na0 ca0, .slice qa1 na1 ca1, .slice qa2 na2 ca2], .int .i64 set1] w (fun en w' => ∃ l : Unit, en = .returned (.int .i64 res) ∧ (True) ∧ HV w (keys [] []) [] [] [] w') := by
  unfold j6 at hm
  refine qL func23 Y ntmps23 Y (e := [(0, _), (1, _)]) Y hw (jr ?_)
  refine jG Y Y (fun b h1 => ?_)
  refine jo Y Y (kY (JC [_, _, _, _, _] 0 isAgg33 sizeOf33 Y Y Y Y (jj Y Y ?_)))
  obtain ⟨t10, h2, hm⟩ := bindO hm
  refine jd [] [] Y Y Y Y Y Y Y call89 (fun w hh => ZN c0 set1 qa0 na0 ca0 qa1 na1 ca1 qa2 na2 ca2 w (HV.callee (S0 := []) (vs0 := []) hh (roR hh 0 Y (roR hh 1 Y (roR hh 2 Y roN)))) hna0 hqa0 hla0 hna1 hqa1 hla1 hna2 hqa2 hla2 h2) (fun l h3 => ?_)
  obtain ⟨h4, h5⟩ := h3
  refine kx (S' := [_]) (vs' := [_]) [0] [0] 0 Y Y Y Y (jo Y Y (kY (jo Y Y (jq (jh (jr (jo Y Y ?_)))))))
  refine jq ?_
  obtain ⟨o, h6, h7⟩ := bindO hm
  refine jM (ι := Unit) (fun l_1 => True) (fun l_1 => [(6, .int .i64 o)]) (fun l_1 => [kc b #[.int .i64 c0.cells, .int .i64 c0.tides, .slice qa0 na0 ca0, .slice qa1 na1 ca1, .slice qa2 na2 ca2] 33]) (fun l_1 => []) ?_ ?_
  ·replace hm := h6
   refine jl ?_
   refine jK (ι := Unit) hm (fun s l_2 => True) (fun s l_2 => [(2, ptr b 0), (5, sL l.v), (6, .int .i64 s.n6), (7, .int .i64 s.a7)]) (fun s l_2 => [kc b #[.int .i64 c0.cells, .int .i64 c0.tides, .slice qa0 na0 ca0, .slice qa1 na1 ca1, .slice qa2 na2 ca2] 33]) (fun s l_2 => [⟨22, RwH.enc l.rs, l.v.sp, l.v.q, dbl 3 RI t10 l.rs⟩]) () (trivial) (sE Y) (fun w hh => hh) (fun s l_2 r hpl hm h8 => ?_)
   unfold qx at hm
   refine jh (jr (jj Y Y (jj Y Y (qV 1 runUnderlying33 Y sizeOf3 Y Y (qp 0 isAgg3 Y Y Y Y ?_)))))
   obtain ⟨t15, h9, hm⟩ := bindO hm
   obtain ⟨L, h10, h11⟩ := (h5).row h9
   refine jc Y Y Y (fun w _ => Qd h10 (runUnderlying41 w) (sizeOf22 w) Y Y (vlen RwH h4 Y) (vne h4)) (jc Y Y Y (fun w hh => qy RwH 0 h10 (isAgg22 w) Y (hh.vseg 0 Y h4) Y (Nat.add_zero _).symm) (jc Y Y Y (fun w _ => Yp (vlen RI h11 Y) (runUnderlying22 w) Y) (Kc Y Y Y (jq ?_))))
   refine js Y (fun h12 => ?_) (fun h12 => ?_)
   ·replace hm := ifD h12 hm
    refine jt (ja (jh (jl (jg (jj Y Y (jj Y Y (qV 1 runUnderlying33 Y sizeOf3 Y Y ?_)))))))
    refine qp 0 isAgg3 Y Y Y Y ?_
    obtain ⟨t25, h13, hm⟩ := bindO hm
    obtain ⟨L_1, h14, h15⟩ := (h5).row h13
    refine jc Y Y Y (fun w _ => Qd h14 (runUnderlying41 w) (sizeOf22 w) Y Y (vlen RwH h4 Y) (vne h4)) (jc Y Y Y (fun w hh => qy RwH 0 h14 (isAgg22 w) Y (hh.vseg 0 Y h4) Y (Nat.add_zero _).symm) (jj Y Y ?_))
    obtain ⟨t28, h16, hm⟩ := bindO hm
    refine jc Y Y Y (fun w _ => Qd h16 (runUnderlying22 w) (sizeOf3 w) Y Y (vlen RI h15 Y) (vne h15)) (jc Y Y Y (fun w hh => qy RI 0 h16 (isAgg3 w) Y (hh.dseg 0 Y h13 h14 h15) Y (Nat.add_zero _).symm) ?_)
    obtain ⟨t30, h17, hm⟩ := bindO hm
    refine JV h17 Y Y Y (jo Y Y (jx (jw (ja (jg (jj Y Y ?_))))))
    obtain ⟨t20, h18, hm⟩ := bindO hm
    refine JV h18 Y Y Y (jo Y Y (jx ?_))
    obtain rfl := sj hm
    refine ja ?_
    exact jA _ () Y (trivial) (sE Y) (fun w hh => hh)
   replace hm := ifE h12 hm
   refine jV (ji (ji (jC ?_)))
   obtain rfl := sj hm
   have hbo := h8 _ Y
   subst hbo
   exact jk () (trivial) (sE Y) (hsE [0] [] 0 Y Y Y Y)
  intro l_1 hj
  replace hm := h7
  refine ja (jr (jj Y Y (jo Y Y (jq (jv ?_)))))
  obtain rfl := sj hm
  refine jm Y (fun w hh => (.tmp Y .nil)) (fun w hh => ⟨(), rfl, trivial, hh.se [] [] 3 Y Y Y rfl⟩)
end Go.Proofs.Wb

namespace Go.Proofs.Wb
set_option maxHeartbeats 4000000
set_option maxRecDepth 100000
open Go Go.Fw Go.Gx Go.Sb
open Tryz
set_option linter.unusedVariables false
def qZ (s10 : (List Sand)) (s21 : (List Sand)) (s : Int) : Option (Int ⊕ (Unit ⊕ Bool)) :=
 if s < (s10.length : Int) then
 ((ix s10 s).bind fun t18 =>
 (ix s21 s).bind fun t22 =>
 if (⟨(⟨t18.span.lo, t18.span.hi⟩ : Span), t18.reach⟩ : Sand) = (⟨(⟨t22.span.lo, t22.span.hi⟩ : Span), t22.reach⟩ : Sand) then
 ((addc s 1).bind fun t25 =>
 some (.inl t25)) else
 (some (.inr (.inr false)))) else
 (some (.inr (.inl ())))
def qf (s10 : (List Sand)) (s21 : (List Sand)) : Option Bool :=
 if (s10.length : Int) = (s21.length : Int) then
 ((iterM FU (qZ s10 s21) 0).bind fun o =>
 oc o (fun j => some true) (fun r_1 => some r_1)) else
 (some false)
theorem Qk (s10 : (List Sand)) (s21 : (List Sand)) (qa0 : Option Addr) (na0 ca0 : Nat) (qa1 : Option Addr) (na1 ca1 : Nat) (w : World) (hw : HV w (keys [] []) [] [] [(aB qa0, aO qa0, RSa.enc s10), (aB qa1, aO qa1, RSa.enc s21)] w) (hna0 : s10.length = na0) (hqa0 : AOK na0 qa0) (hla0 : na0 ≤ ca0) (hna1 : s21.length = na1) (hqa1 : AOK na1 qa1) (hla1 : na1 ≤ ca1) {res : Bool} (hm : qf s10 s21 = some res) :
    Calls Tryz.prog 164 #[.slice qa0 na0 ca0, .slice qa1 na1 ca1] w (fun en w' => ∃ l : Unit, en = .returned (.bool res) ∧ (True) ∧ HV w (keys [] []) [] [] [] w') := by
  unfold qf at hm
  refine qL func164 Y ntmps164 Y (e := [(0, _), (1, _)]) Y hw (jr (jo Y Y (jq (jh (jr (jj Y Y (jc Y Y Y (fun w _ => jJ hna0 (runUnderlying23 w) Y) ?_)))))))
  refine jj Y Y (jc Y Y Y (fun w _ => jJ hna1 (runUnderlying23 w) Y) (jc Y Y Y (fun _ _ => Kw Y Y) (jq ?_)))
  refine js Y (fun h1 => ?_) (fun h1 => ?_)
  ·replace hm := ifF (of_ndec_true h1) hm
   refine jr (jo Y Y (jq (jv (je ?_))))
   obtain rfl := sj hm
   refine jm Y (fun w hh => (.tmp Y .nil)) (fun w hh => ⟨(), rfl, trivial, hh.se [] [] 2 Y Y Y rfl⟩)
  replace hm := ifT (of_ndec_false h1) hm
  refine jt (ja (jh (jr (jj Y Y (jc Y Y Y (fun w _ => jJ hna0 (runUnderlying23 w) Y) (jj Y Y (jq ?_)))))))
  obtain ⟨o, h2, h3⟩ := bindO hm
  refine jM (ι := Unit) (fun j => o = .inl j) (fun j => []) (fun j => []) (fun j => []) ?_ ?_
  ·replace hm := h2
   refine jl ?_
   refine jK (ι := Unit) hm (fun s l => True) (fun s l => [(0, .slice qa0 na0 ca0), (1, .slice qa1 na1 ca1), (12, .int .i64 (s10.length : Int)), (13, .int .i64 s)]) (fun s l => []) (fun s l => []) () (trivial) (sE Y) (fun w hh => hh) (fun s l r hpl hm h4 => ?_)
   unfold qZ at hm
   refine jr (Kc Y Y Y (jq (jh ?_)))
   refine js Y (fun h5 => ?_) (fun h5 => ?_)
   ·replace hm := ifD h5 hm
    refine jt (ja (jh (jl (jr (jj Y Y (jo Y Y (jq ?_)))))))
    refine jh ?_
    refine j3 none (.free 0 (.free 1 (.free 2 (.hoist 3 (.free 4 (.free 5 (.free 6 (.hoist 7 (.free 8 .done))))))))) _ Y (by decide +kernel) (fun w k hh => hh.draw k) (fun w hh => hh) ?_
    refine qD Y Y Y (qD Y Y Y ?_)
    obtain ⟨t18, h6, hm⟩ := bindO hm
    refine jp Y Y Y Y (fun w _ => qM h6 (runUnderlying23 w) (sizeOf98 w) Y Y hna0 hqa0) ?_
    refine jy Y Y Y Y (fun w hh => J0 RSa 0 [.int .i64 t18.span.lo, .int .i64 t18.span.hi, .int .i64 t18.reach] h6 (isAgg98 w) (sizeOf98 w) Y (hh.seg 0 Y) Y (Nat.add_zero _).symm) ?_
    refine qD Y Y Y (qD Y Y Y ?_)
    obtain ⟨t22, h7, hm⟩ := bindO hm
    refine jp Y Y Y Y (fun w _ => qM h7 (runUnderlying23 w) (sizeOf98 w) Y Y hna1 hqa1) ?_
    refine jy Y Y Y Y (fun w hh => J0 RSa 0 [.int .i64 t22.span.lo, .int .i64 t22.span.hi, .int .i64 t22.reach] h7 (isAgg98 w) (sizeOf98 w) Y (hh.seg 1 Y) Y (Nat.add_zero _).symm) ?_
    refine jp Y Y Y Y (fun w _ => jaO (jcw (⟨(⟨t18.span.lo, t18.span.hi⟩ : Span), t18.reach⟩ : Sand) (⟨(⟨t22.span.lo, t22.span.hi⟩ : Span), t22.reach⟩ : Sand) w) jch Y Y) ?_
    refine jH (ja ?_)
    refine js Y (fun h8 => ?_) (fun h8 => ?_)
    ·replace hm := ifF (of_ndec_true h8) hm
     refine jr (jo Y Y (jq (jv (jz (je (je (jz ?_)))))))
     obtain rfl := sj hm
     have hbo := h4 _ Y
     subst hbo
     refine je ?_
     replace hm := ocR h3
     refine je ?_
     obtain rfl := sj hm
     refine jm Y (fun w hh => (.tmp Y .nil)) (fun w hh => ⟨(), rfl, trivial, hh.se [] [] 2 Y Y Y rfl⟩)
    replace hm := ifT (of_ndec_false h8) hm
    refine jt (jw (ja (jg ?_)))
    obtain ⟨t25, h9, hm⟩ := bindO hm
    refine JV h9 Y Y Y (jj Y Y (jx ?_))
    obtain rfl := sj hm
    refine ja ?_
    exact jA _ () Y (trivial) (sE Y) (fun w hh => hh)
   replace hm := ifE h5 hm
   refine jV (ji (ji (jC ?_)))
   obtain rfl := sj hm
   have hbo := h4 _ Y
   subst hbo
   exact jk () (Y) (.nil) (fun w hh => hh)
  intro j hj
  have h10 := hj
  subst h10
  replace hm := ocL h3
  refine ja (jr (jo Y Y (jq (jv ?_))))
  obtain rfl := sj hm
  refine jm Y (fun w hh => (.tmp Y .nil)) (fun w hh => ⟨(), rfl, trivial, hh.se [] [] 2 Y Y Y rfl⟩)
def Js (a0 : (List Sand)) (b1 : (List Sand)) : Option Bool :=
 (qf a0 b1).bind fun t7 =>
 some t7
theorem ZS (a0 : (List Sand)) (b1 : (List Sand)) (qa0 : Option Addr) (na0 ca0 : Nat) (qa1 : Option Addr) (na1 ca1 : Nat) (w : World) (hw : HV w (keys [] []) [] [] [(aB qa0, aO qa0, RSa.enc a0), (aB qa1, aO qa1, RSa.enc b1)] w) (hna0 : a0.length = na0) (hqa0 : AOK na0 qa0) (hla0 : na0 ≤ ca0) (hna1 : b1.length = na1) (hqa1 : AOK na1 qa1) (hla1 : na1 ≤ ca1) {res : Bool} (hm : Js a0 b1 = some res) :
    Calls Tryz.prog 103 #[.slice qa0 na0 ca0, .slice qa1 na1 ca1] w (fun en w' => ∃ l : Unit, en = .returned (.bool res) ∧ (True) ∧ HV w (keys [] []) [] [] [] w') := by
  unfold Js at hm
  refine qL func103 Y ntmps103 Y (e := [(0, _), (1, _)]) Y hw (jr (jo Y Y (kY (jj Y Y (jj Y Y ?_)))))
  obtain ⟨t7, h1, hm⟩ := bindO hm
  refine jd [] [] Y Y Y Y Y Y Y call164 (fun w hh => Qk a0 b1 qa0 na0 ca0 qa1 na1 ca1 w (HV.callee (S0 := []) (vs0 := []) hh (roR hh 0 Y (roR hh 1 Y roN))) hna0 hqa0 hla0 hna1 hqa1 hla1 h1) (fun l h2 => ?_)
  refine jo Y Y (jq (jv ?_))
  obtain rfl := sj hm
  refine jm Y (fun w hh => (.tmp Y .nil)) (fun w hh => ⟨(), rfl, trivial, hh.se [] [] 2 Y Y Y rfl⟩)
def qF (s10 : (List Sight)) (s21 : (List Sight)) (s : Int) : Option (Int ⊕ (Unit ⊕ Bool)) :=
 if s < (s10.length : Int) then
 ((ix s10 s).bind fun t18 =>
 (ix s21 s).bind fun t22 =>
 if t18 = (⟨t22.after, t22.cell, t22.upright⟩ : Sight) then
 ((addc s 1).bind fun t25 =>
 some (.inl t25)) else
 (some (.inr (.inr false)))) else
 (some (.inr (.inl ())))
def kX (s10 : (List Sight)) (s21 : (List Sight)) : Option Bool :=
 if (s10.length : Int) = (s21.length : Int) then
 ((iterM FU (qF s10 s21) 0).bind fun o =>
 oc o (fun j => some true) (fun r_1 => some r_1)) else
 (some false)
theorem K3 (s10 : (List Sight)) (s21 : (List Sight)) (qa0 : Option Addr) (na0 ca0 : Nat) (qa1 : Option Addr) (na1 ca1 : Nat) (w : World) (hw : HV w (keys [] []) [] [] [(aB qa0, aO qa0, RSi.enc s10), (aB qa1, aO qa1, RSi.enc s21)] w) (hna0 : s10.length = na0) (hqa0 : AOK na0 qa0) (hla0 : na0 ≤ ca0) (hna1 : s21.length = na1) (hqa1 : AOK na1 qa1) (hla1 : na1 ≤ ca1) {res : Bool} (hm : kX s10 s21 = some res) :
    Calls Tryz.prog 165 #[.slice qa0 na0 ca0, .slice qa1 na1 ca1] w (fun en w' => ∃ l : Unit, en = .returned (.bool res) ∧ (True) ∧ HV w (keys [] []) [] [] [] w') := by
  unfold kX at hm
  refine qL func165 Y ntmps165 Y (e := [(0, _), (1, _)]) Y hw (jr (jo Y Y (jq (jh (jr (jj Y Y (jc Y Y Y (fun w _ => jJ hna0 (runUnderlying24 w) Y) ?_)))))))
  refine jj Y Y (jc Y Y Y (fun w _ => jJ hna1 (runUnderlying24 w) Y) (jc Y Y Y (fun _ _ => Kw Y Y) (jq ?_)))
  refine js Y (fun h1 => ?_) (fun h1 => ?_)
  ·replace hm := ifF (of_ndec_true h1) hm
   refine jr (jo Y Y (jq (jv (je ?_))))
   obtain rfl := sj hm
   refine jm Y (fun w hh => (.tmp Y .nil)) (fun w hh => ⟨(), rfl, trivial, hh.se [] [] 2 Y Y Y rfl⟩)
  replace hm := ifT (of_ndec_false h1) hm
  refine jt (ja (jh (jr (jj Y Y (jc Y Y Y (fun w _ => jJ hna0 (runUnderlying24 w) Y) (jj Y Y (jq ?_)))))))
  obtain ⟨o, h2, h3⟩ := bindO hm
  refine jM (ι := Unit) (fun j => o = .inl j) (fun j => []) (fun j => []) (fun j => []) ?_ ?_
  ·replace hm := h2
   refine jl ?_
   refine jK (ι := Unit) hm (fun s l => True) (fun s l => [(0, .slice qa0 na0 ca0), (1, .slice qa1 na1 ca1), (12, .int .i64 (s10.length : Int)), (13, .int .i64 s)]) (fun s l => []) (fun s l => []) () (trivial) (sE Y) (fun w hh => hh) (fun s l r hpl hm h4 => ?_)
   unfold qF at hm
   refine jr (Kc Y Y Y (jq (jh ?_)))
   refine js Y (fun h5 => ?_) (fun h5 => ?_)
   ·replace hm := ifD h5 hm
    refine jt (ja (jh (jl (jr (jj Y Y (jo Y Y (jq ?_)))))))
    refine jh ?_
    refine j3 none (.free 0 (.free 1 (.free 2 (.hoist 3 (.free 4 (.free 5 (.free 6 (.hoist 7 (.free 8 .done))))))))) _ Y (by decide +kernel) (fun w k hh => hh.draw k) (fun w hh => hh) ?_
    refine qD Y Y Y (qD Y Y Y ?_)
    obtain ⟨t18, h6, hm⟩ := bindO hm
    refine jp Y Y Y Y (fun w _ => qM h6 (runUnderlying24 w) (sizeOf55 w) Y Y hna0 hqa0) ?_
    refine jy Y Y Y Y (fun w hh => J0 RSi 0 [.int .i64 t18.after, .int .i64 t18.cell, .bool t18.upright] h6 (isAgg55 w) (sizeOf55 w) Y (hh.seg 0 Y) Y (Nat.add_zero _).symm) ?_
    refine qD Y Y Y (qD Y Y Y ?_)
    obtain ⟨t22, h7, hm⟩ := bindO hm
    refine jp Y Y Y Y (fun w _ => qM h7 (runUnderlying24 w) (sizeOf55 w) Y Y hna1 hqa1) ?_
    refine jy Y Y Y Y (fun w hh => J0 RSi 0 [.int .i64 t22.after, .int .i64 t22.cell, .bool t22.upright] h7 (isAgg55 w) (sizeOf55 w) Y (hh.seg 1 Y) Y (Nat.add_zero _).symm) ?_
    refine jp Y Y Y Y (fun w _ => jaO (jb9 t18 (⟨t22.after, t22.cell, t22.upright⟩ : Sight) w) jbN Y Y) (jH (ja ?_))
    refine js Y (fun h8 => ?_) (fun h8 => ?_)
    ·replace hm := ifF (of_ndec_true h8) hm
     refine jr (jo Y Y (jq (jv (jz (je (je (jz ?_)))))))
     obtain rfl := sj hm
     have hbo := h4 _ Y
     subst hbo
     refine je ?_
     replace hm := ocR h3
     refine je ?_
     obtain rfl := sj hm
     refine jm Y (fun w hh => (.tmp Y .nil)) (fun w hh => ⟨(), rfl, trivial, hh.se [] [] 2 Y Y Y rfl⟩)
    replace hm := ifT (of_ndec_false h8) hm
    refine jt (jw (ja (jg ?_)))
    obtain ⟨t25, h9, hm⟩ := bindO hm
    refine JV h9 Y Y Y (jj Y Y (jx ?_))
    obtain rfl := sj hm
    refine ja ?_
    exact jA _ () Y (trivial) (sE Y) (fun w hh => hh)
   replace hm := ifE h5 hm
   refine jV (ji (ji (jC ?_)))
   obtain rfl := sj hm
   have hbo := h4 _ Y
   subst hbo
   exact jk () (Y) (.nil) (fun w hh => hh)
  intro j hj
  have h10 := hj
  subst h10
  replace hm := ocL h3
  refine ja (jr (jo Y Y (jq (jv ?_))))
  obtain rfl := sj hm
  refine jm Y (fun w hh => (.tmp Y .nil)) (fun w hh => ⟨(), rfl, trivial, hh.se [] [] 2 Y Y Y rfl⟩)
def Jg (a0 : (List Sight)) (b1 : (List Sight)) : Option Bool :=
 (kX a0 b1).bind fun t7 =>
 some t7
theorem ZK (a0 : (List Sight)) (b1 : (List Sight)) (qa0 : Option Addr) (na0 ca0 : Nat) (qa1 : Option Addr) (na1 ca1 : Nat) (w : World) (hw : HV w (keys [] []) [] [] [(aB qa0, aO qa0, RSi.enc a0), (aB qa1, aO qa1, RSi.enc b1)] w) (hna0 : a0.length = na0) (hqa0 : AOK na0 qa0) (hla0 : na0 ≤ ca0) (hna1 : b1.length = na1) (hqa1 : AOK na1 qa1) (hla1 : na1 ≤ ca1) {res : Bool} (hm : Jg a0 b1 = some res) :
    Calls Tryz.prog 104 #[.slice qa0 na0 ca0, .slice qa1 na1 ca1] w (fun en w' => ∃ l : Unit, en = .returned (.bool res) ∧ (True) ∧ HV w (keys [] []) [] [] [] w') := by
  unfold Jg at hm
  refine qL func104 Y ntmps104 Y (e := [(0, _), (1, _)]) Y hw (jr (jo Y Y (kY (jj Y Y (jj Y Y ?_)))))
  obtain ⟨t7, h1, hm⟩ := bindO hm
  refine jd [] [] Y Y Y Y Y Y Y call165 (fun w hh => K3 a0 b1 qa0 na0 ca0 qa1 na1 ca1 w (HV.callee (S0 := []) (vs0 := []) hh (roR hh 0 Y (roR hh 1 Y roN))) hna0 hqa0 hla0 hna1 hqa1 hla1 h1) (fun l h2 => ?_)
  refine jo Y Y (jq (jv ?_))
  obtain rfl := sj hm
  refine jm Y (fun w hh => (.tmp Y .nil)) (fun w hh => ⟨(), rfl, trivial, hh.se [] [] 2 Y Y Y rfl⟩)
def zX (a0 : Channel) (b1 : Channel) : Option Bool :=
 (if a0.cells = b1.cells then
 (if a0.tides = b1.tides then
 ((yE a0.fords b1.fords).bind fun t22 =>
 if t22 = true then
 ((Js a0.sands b1.sands).bind fun t29 =>
 if t29 = true then
 ((Jg a0.sights b1.sights).bind fun t36 =>
 some t36) else
 (some false)) else
 (some false)) else
 (some false)) else
 (some false)).bind fun o =>
 some o
theorem ZJ (a0 : Channel) (b1 : Channel) (qa0 : Option Addr) (na0 ca0 : Nat) (qa1 : Option Addr) (na1 ca1 : Nat) (qa2 : Option Addr) (na2 ca2 : Nat) (qa3 : Option Addr) (na3 ca3 : Nat) (qa4 : Option Addr) (na4 ca4 : Nat) (qa5 : Option Addr) (na5 ca5 : Nat) (w : World) (hw : HV w (keys [] []) [] [] [(aB qa0, aO qa0, RI.enc a0.fords), (aB qa1, aO qa1, RSa.enc a0.sands), (aB qa2, aO qa2, RSi.enc a0.sights), (aB qa3, aO qa3, RI.enc b1.fords), (aB qa4, aO qa4, RSa.enc b1.sands), (aB qa5, aO qa5, RSi.enc b1.sights)] w) (hna0 : a0.fords.length = na0) (hqa0 : AOK na0 qa0) (hla0 : na0 ≤ ca0) (hna1 : a0.sands.length = na1) (hqa1 : AOK na1 qa1) (hla1 : na1 ≤ ca1) (hna2 : a0.sights.length = na2) (hqa2 : AOK na2 qa2) (hla2 : na2 ≤ ca2) (hna3 : b1.fords.length = na3) (hqa3 : AOK na3 qa3) (hla3 : na3 ≤ ca3) (hna4 : b1.sands.length = na4) (hqa4 : AOK na4 qa4) (hla4 : na4 ≤ ca4) (hna5 : b1.sights.length = na5) (hqa5 : AOK na5 qa5) (hla5 : na5 ≤ ca5) {res : Bool} (hm : zX a0 b1 = some res) :
    Calls Tryz.prog 31 #[.agg #[.int .i64 a0.cells, .int .i64 a0.tides, .slice qa0 na0 ca0, .slice qa1 na1 ca1, .slice qa2 na2 ca2], .agg #[.int .i64 b1.cells, .int .i64 b1.tides, .slice qa3 na3 ca3, .slice qa4 na4 ca4, .slice qa5 na5 ca5]] w (fun en w' => ∃ l : Unit, en = .returned (.bool res) ∧ (True) ∧ HV w (keys [] []) [] [] [] w') := by
  unfold zX at hm
  refine qL func31 Y ntmps31 Y (e := [(0, _), (1, _)]) Y hw (jr ?_)
  refine jG Y Y (fun b h1 => ?_)
  refine jG Y Y (fun b_1 h2 => ?_)
  refine jo Y Y (jq (jh ?_))
  obtain ⟨o, h3, h4⟩ := bindO hm
  refine jM (ι := Unit) (fun l => True) (fun l => [(4, .bool o)]) (fun l => [kc b_1 #[.int .i64 b1.cells, .int .i64 b1.tides, .slice qa3 na3 ca3, .slice qa4 na4 ca4, .slice qa5 na5 ca5] 26, kc b #[.int .i64 a0.cells, .int .i64 a0.tides, .slice qa0 na0 ca0, .slice qa1 na1 ca1, .slice qa2 na2 ca2] 26]) (fun l => []) ?_ ?_
  ·replace hm := h3
   refine jg (qV 0 runUnderlying26 Y sizeOf3 Y Y (qp 1 isAgg3 Y Y Y Y (qV 0 runUnderlying26 Y sizeOf3 Y Y (qp 0 isAgg3 Y Y Y Y (jc Y Y Y (fun _ _ => Jw Y Y) (jj Y Y ?_))))))
   refine jW 10 Y (fun h5 => ?_) (fun h5 => ?_)
   ·replace hm := ifD h5 hm
    refine jb Y Y (qV 1 runUnderlying26 Y sizeOf3 Y Y (jb Y Y (qp 1 isAgg3 Y Y Y Y (jb Y Y (qV 1 runUnderlying26 Y sizeOf3 Y Y (jb Y Y (qp 0 isAgg3 Y Y Y Y ?_)))))))
    refine jb Y Y (jc Y Y Y (fun _ _ => Jw Y Y) (zo Y Y Y (jj Y Y ?_)))
    refine jW 17 Y (fun h6 => ?_) (fun h6 => ?_)
    ·replace hm := ifD h6 hm
     refine jb Y Y (qV 2 runUnderlying26 Y sizeOf22 Y Y (jb Y Y (qp 1 isAgg22 Y Y Y Y (jb Y Y (qV 2 runUnderlying26 Y sizeOf22 Y Y (jb Y Y (qp 0 isAgg22 Y Y Y Y ?_)))))))
     refine jb Y Y ?_
     obtain ⟨t22, h7, hm⟩ := bindO hm
     refine jd [] [] Y Y Y Y Y Y Y call45 (fun w hh => Qm a0.fords b1.fords qa0 na0 ca0 qa3 na3 ca3 w (HV.callee (S0 := []) (vs0 := []) hh (roR hh 0 Y (roR hh 3 Y roN))) hna0 hqa0 hla0 hna3 hqa3 hla3 h7) (fun l_1 h8 => ?_)
     refine zo Y Y Y (jj Y Y ?_)
     refine jW 24 Y (fun h9 => ?_) (fun h9 => ?_)
     ·replace hm := ifT (h9) hm
      refine jb Y Y (qV 3 runUnderlying26 Y sizeOf23 Y Y (jb Y Y (qp 1 isAgg23 Y Y Y Y (jb Y Y (qV 3 runUnderlying26 Y sizeOf23 Y Y (jb Y Y (qp 0 isAgg23 Y Y Y Y ?_)))))))
      refine jb Y Y ?_
      obtain ⟨t29, h10, hm⟩ := bindO hm
      refine jd [] [] Y Y Y Y Y Y Y call103 (fun w hh => ZS a0.sands b1.sands qa1 na1 ca1 qa4 na4 ca4 w (HV.callee (S0 := []) (vs0 := []) hh (roR hh 1 Y (roR hh 4 Y roN))) hna1 hqa1 hla1 hna4 hqa4 hla4 h10) (fun l_2 h11 => ?_)
      refine zo Y Y Y (jj Y Y ?_)
      refine jW 31 Y (fun h12 => ?_) (fun h12 => ?_)
      ·replace hm := ifT (h12) hm
       refine jb Y Y (qV 4 runUnderlying26 Y sizeOf24 Y Y (jb Y Y (qp 1 isAgg24 Y Y Y Y (jb Y Y (qV 4 runUnderlying26 Y sizeOf24 Y Y (jb Y Y (qp 0 isAgg24 Y Y Y Y ?_)))))))
       refine jb Y Y ?_
       obtain ⟨t36, h13, hm⟩ := bindO hm
       refine jd [] [] Y Y Y Y Y Y Y call104 (fun w hh => ZK a0.sights b1.sights qa2 na2 ca2 qa5 na5 ca5 w (HV.callee (S0 := []) (vs0 := []) hh (roR hh 2 Y (roR hh 5 Y roN))) hna2 hqa2 hla2 hna5 hqa5 hla5 h13) (fun l_3 h14 => ?_)
       refine zo Y Y Y (jo Y Y (jx ?_))
       obtain rfl := sj hm
       exact jk () (trivial) (sE Y) (fun w hh => hh)
      replace hm := ifN h12 hm
      refine g_k Y Y Y Y (g_k Y Y Y Y (g_k Y Y Y Y (g_k Y Y Y Y (g_k Y Y Y Y (yI Y Y Y (jo Y Y (jx ?_)))))))
      obtain rfl := sj hm
      exact jk () (trivial) (sE Y) (fun w hh => hh)
     replace hm := ifN h9 hm
     refine g_k Y Y Y Y (g_k Y Y Y Y (g_k Y Y Y Y (g_k Y Y Y Y (g_k Y Y Y Y (yI Y Y Y (jj Y Y (g_k Y Y Y Y ?_)))))))
     refine g_k Y Y Y Y (g_k Y Y Y Y (g_k Y Y Y Y (g_k Y Y Y Y (yI Y Y Y (jo Y Y (jx ?_))))))
     obtain rfl := sj hm
     exact jk () (trivial) (sE Y) (fun w hh => hh)
    replace hm := ifE h6 hm
    refine g_k Y Y Y Y (g_k Y Y Y Y (g_k Y Y Y Y (g_k Y Y Y Y (g_k Y Y Y Y (yI Y Y Y (jj Y Y (g_k Y Y Y Y ?_)))))))
    refine g_k Y Y Y Y (g_k Y Y Y Y (g_k Y Y Y Y (g_k Y Y Y Y (yI Y Y Y (jj Y Y (g_k Y Y Y Y (g_k Y Y Y Y ?_)))))))
    refine g_k Y Y Y Y (g_k Y Y Y Y (g_k Y Y Y Y (yI Y Y Y (jo Y Y (jx ?_)))))
    obtain rfl := sj hm
    exact jk () (trivial) (sE Y) (fun w hh => hh)
   replace hm := ifE h5 hm
   refine g_k Y Y Y Y (g_k Y Y Y Y (g_k Y Y Y Y (g_k Y Y Y Y (g_k Y Y Y Y (yI Y Y Y (jj Y Y (g_k Y Y Y Y ?_)))))))
   refine g_k Y Y Y Y (g_k Y Y Y Y (g_k Y Y Y Y (g_k Y Y Y Y (yI Y Y Y (jj Y Y (g_k Y Y Y Y (g_k Y Y Y Y ?_)))))))
   refine g_k Y Y Y Y (g_k Y Y Y Y (g_k Y Y Y Y (yI Y Y Y (jj Y Y (g_k Y Y Y Y (g_k Y Y Y Y (g_k Y Y Y Y ?_)))))))
   refine g_k Y Y Y Y (g_k Y Y Y Y (yI Y Y Y (jo Y Y (jx ?_))))
   obtain rfl := sj hm
   exact jk () (trivial) (sE Y) (fun w hh => hh)
  intro l hj
  replace hm := h4
  refine ja (jv ?_)
  obtain rfl := sj hm
  refine jm Y (fun w hh => (.tmp Y .nil)) (fun w hh => ⟨(), rfl, trivial, hh.se [] [] 6 Y Y Y rfl⟩)
end Go.Proofs.Wb

namespace Go.Gx
open Go
theorem eq_loop {α : Type} [DecidableEq α] {a b : List α} (d : α) (hl : a.length = b.length) (hn : a.length < 1000000) {f : Int → Option (Int ⊕ (Unit ⊕ Bool))}
    (hf : ∀ s, f s = if s < (a.length : Int) then ((ix a s).bind fun x => (ix b s).bind fun y => if x = y then ((addc s 1).bind fun k => some (.inl k)) else some (.inr (.inr false))) else some (.inr (.inl ()))) :
    ((iterM FU f 0).bind fun o => oc o (fun _ => (some true : Option Bool)) (fun r => some r)) = some (decide (a = b)) := by
  have key := iterM_any0 (f := f) a.length (fun k => decide (¬ a.getD k d = b.getD k d)) false (fun k hk => by
    rw [hf, if_pos (by omega), ix_nat d hk, Option.bind_some, ix_nat d (by omega), Option.bind_some]
    by_cases h : a.getD k d = b.getD k d
    · rw [if_pos h, addc_eq (by omega), Option.bind_some, if_neg (by simpa using h)]
    · rw [if_neg h, if_pos (by simpa using h)]) (by rw [hf, if_neg (by omega)]) (N := FU) (FU_lt (by omega))
  rw [key, Option.bind_some]
  by_cases h : a = b
  · subst h
    have : ((List.range a.length).any fun k => decide (¬ a.getD k d = a.getD k d)) = false := by
      rw [List.any_eq_false]; intro x _; simp
    rw [this]; simp
  · have : ((List.range a.length).any fun k => decide (¬ a.getD k d = b.getD k d)) = true := by
      cases h2 : ((List.range a.length).any fun k => decide (¬ a.getD k d = b.getD k d)) with
      | true => rfl
      | false =>
        exfalso
        apply h
        apply List.ext_getElem hl
        intro i hi hi'
        have h3 := List.any_eq_false.1 h2 i (by simpa using hi)
        simpa [List.getD_eq_getElem?_getD, hi, hi'] using h3
    rw [this]; simp [h]
end Go.Gx
namespace Go.Proofs.Wb
open Go Go.Fw Go.Gx Go.Sb
set_option linter.unusedVariables false
theorem Ys {a b : List Int} (hn : a.length < 1000000) : yE a b = some (decide (a = b)) := by
  unfold yE Kh
  by_cases h : a.length = b.length
  · rw [if_pos (by omega), eq_loop 0 h hn (f := Ks a b) (fun s => rfl)]; rfl
  · rw [if_neg (by omega), Option.bind_some]
    congr 1
    symm
    rw [decide_eq_false_iff_not]
    intro e; exact h (by rw [e])
theorem jba {a b : List Sand} (hn : a.length < 1000000) : Js a b = some (decide (a = b)) := by
  unfold Js qf
  by_cases h : a.length = b.length
  · rw [if_pos (by omega), eq_loop default h hn (f := qZ a b) (fun s => rfl)]; rfl
  · rw [if_neg (by omega), Option.bind_some]
    congr 1
    symm
    rw [decide_eq_false_iff_not]
    intro e; exact h (by rw [e])
theorem jaS {a b : List Sight} (hn : a.length < 1000000) : Jg a b = some (decide (a = b)) := by
  unfold Jg kX
  by_cases h : a.length = b.length
  · rw [if_pos (by omega), eq_loop default h hn (f := qF a b) (fun s => rfl)]; rfl
  · rw [if_neg (by omega), Option.bind_some]
    congr 1
    symm
    rw [decide_eq_false_iff_not]
    intro e; exact h (by rw [e])
def Few (c : Channel) : Prop := c.fords.length ≤ 100 ∧ c.sands.length ≤ 100 ∧ c.sights.length ≤ 100
theorem jbB {a b : Channel} (h : Few a) : zX a b = some (decide (a = b)) := by
  unfold zX
  obtain ⟨h1, h2, h3⟩ := h
  rw [Ys (by omega), jba (by omega), jaS (by omega)]
  simp only [Option.bind_some, decide_eq_true_eq]
  obtain ⟨a1, a2, a3, a4, a5⟩ := a
  obtain ⟨b1, b2, b3, b4, b5⟩ := b
  simp only [Channel.mk.injEq]
  by_cases e1 : a1 = b1
  · by_cases e2 : a2 = b2
    · by_cases e3 : a3 = b3
      · by_cases e4 : a4 = b4
        · simp [e1, e2, e3, e4]
        · simp [e1, e2, e3, e4]
      · simp [e1, e2, e3]
    · simp [e1, e2]
  · simp [e1]
theorem jaG {l : List Int} (h : l.length ≤ 100000) : KL l = some l := by
  unfold KL
  rw [makec_eq (by omega), Option.bind_some, appc_eq (by simp; omega)]
  simp
theorem Own_eq {c : Channel} (h : Few c) : Jy c = some c := by
  obtain ⟨h1, h2, h3⟩ := h
  unfold Jy JY JE
  rw [jaG (by omega), makec_eq (by omega), makec_eq (by omega)]
  simp only [Option.bind_some]
  rw [appc_eq (by simp; omega), appc_eq (by simp; omega)]
  simp
theorem copy_loop {α σ : Type} {l : List α} (d : α) (by_ : Nat) (hb : l.length * by_ ≤ 100000000) (hn : l.length < 1000000) (mk : Int → List α → σ) {f : σ → Option (σ ⊕ List α)}
    (hf : ∀ i o, f (mk i o) = if i < (l.length : Int) then ((ix l i).bind fun x => (appc by_ o [x]).bind fun t => (addc i 1).bind fun k => some (.inl (mk k t))) else some (.inr o)) :
    iterM FU f (mk 0 []) = some l := by
  have key := iterM_run (f := f) (fun j => mk (j : Int) (l.take j)) l.length (b := l) (fun j hj => ?_) ?_ FU (FU_lt (by omega))
  · simpa using key
  · have e : l.take (j + 1) = l.take j ++ [l[j]] := by rw [List.take_append_getElem]
    have hx : l.getD j d = l[j] := by simp [List.getD_eq_getElem?_getD, hj]
    rw [hf, if_pos (by omega), ix_nat d hj, Option.bind_some, hx, appc_eq (by
      simp only [List.length_take, List.length_cons, List.length_nil]
      have : min j l.length + (0 + 1) ≤ l.length := by omega
      have := Nat.mul_le_mul_right by_ this
      omega), Option.bind_some, addc_eq (by omega), Option.bind_some, e]
    rfl
  · rw [hf, if_neg (by omega), List.take_length]
theorem theirs_eq {c : Channel} (h : Few c) : zh c = some c := by
  obtain ⟨h1, h2, h3⟩ := h
  unfold zh
  rw [jaG (by omega)]
  simp only [Option.bind_some]
  rw [copy_loop (l := c.sands) default 24 (by omega) (by omega) (fun i o => (⟨i, o⟩ : q7)) (f := JJ c) (fun i o => rfl)]
  simp only [Option.bind_some]
  rw [copy_loop (l := c.sights) default 24 (by omega) (by omega) (fun i o => (⟨i, o⟩ : ya)) (f := JH c) (fun i o => rfl)]
  rfl
end Go.Proofs.Wb

namespace Go.Proofs.Wb
open Go Go.Fw Go.Gx Go.Sb
set_option linter.unusedVariables false
theorem KE (n lo hi : Int) : jF n lo hi = some (!inb n lo hi) := by
  unfold jF inb
  by_cases h : n < lo
  · rw [if_pos h, Option.bind_some]
    simp
    omega
  · rw [if_neg h, Option.bind_some]
    congr 1
    rw [Bool.eq_iff_iff]
    simp
    omega
theorem any_not_all {α : Type} {l : List α} {d : α} {p : α → Bool} : ((List.range l.length).any fun k => !p (l.getD k d)) = !l.all p := by
  rw [any_range (p := fun x => !p x), List.not_all_eq_any_not]
theorem ref_loop {α ρ : Type} (l : List α) (d : α) (p : α → Bool) {e : ρ} (hl : l.length < 1000000000000) {f : Int → Option (Int ⊕ (Unit ⊕ ρ))}
    (hf : ∀ k : Nat, k < l.length → f (k : Int) = some (if (!p (l.getD k d)) = true then .inr (.inr e) else .inl ((k : Int) + 1))) (he : f (l.length : Int) = some (.inr (.inl ()))) :
    iterM FU f 0 = some (if l.all p = true then .inl () else .inr e) := by
  rw [iterM_any0 (f := f) l.length (fun k => !p (l.getD k d)) e hf he (FU_lt hl), any_not_all]
  cases l.all p <;> rfl
theorem ref_up {c : Channel} (h : c.fords.length ≤ 100) : iterM FU (kS c) 1 = some (if upB c.fords = true then .inl () else .inr 4) := by
  by_cases h0 : c.fords.length = 0
  · have e : c.fords = [] := List.length_eq_zero_iff.1 h0
    obtain ⟨N, hN⟩ : ∃ N, FU = N + 1 := ⟨FU - 1, by unfold FU; rfl⟩
    rw [hN, iterM_done (b := .inl ()) (by unfold kS; rw [if_neg (by rw [e]; decide)]), e]
    rfl
  · have key := iterM_any (f := kS c) 1 (c.fords.length - 1) (fun k => decide (c.fords.getD (k + 1) (-1) ≤ c.fords.getD k (-1))) (fun _ => 4) (fun k hk => ?_) ?_ (N := FU) (FU_lt (by omega))
    · rw [key]
      cases hf : (List.range (c.fords.length - 1)).find? (fun k => decide (c.fords.getD (k + 1) (-1) ≤ c.fords.getD k (-1))) with
      | none =>
        have : upB c.fords = true := by
          rw [upB_ix]
          intro i hi
          have h2 := List.find?_eq_none.1 hf i (by simp; omega)
          simp only [decide_eq_true_eq] at h2
          omega
        rw [if_pos this]
      | some k =>
        have h2 := List.find?_some hf
        have h3 : k < c.fords.length - 1 := by simpa using List.mem_of_find?_eq_some hf
        have : ¬ upB c.fords = true := by
          rw [upB_ix]
          intro hu
          have := hu k (by omega)
          simp only [decide_eq_true_eq] at h2
          omega
        rw [if_neg this]
    · unfold kS
      rw [if_pos (by omega), show (1 : Int) + (k : Int) = ((k + 1 : Nat) : Int) by push_cast; omega, ix_nat (-1) (by omega), Option.bind_some, subc_eq (by omega), Option.bind_some, show ((k + 1 : Nat) : Int) - 1 = (k : Int) by push_cast; omega, ix_nat (-1) (by omega), Option.bind_some, addc_eq (by omega), Option.bind_some]
      by_cases h : c.fords.getD (k + 1) (-1) ≤ c.fords.getD k (-1)
      · rw [if_pos h, if_pos (by simpa using h)]
      · rw [if_neg h, if_neg (by simpa using h)]
    · unfold kS
      rw [if_neg (by omega)]
theorem many_eq' {c : Channel} {f : Bool → Option Int} : (((jF c.cells 2 10).bind fun t9 => if t9 = true then (some true) else ((jF c.tides 0 4).bind fun t14 => if t14 = true then (some true) else ((jF (c.fords.length : Int) 1 3).bind fun t21 => if t21 = true then (some true) else (if 4 < (c.sands.length : Int) then (some true) else (some (decide (8 < (c.sights.length : Int)))))))).bind f) = f (!okMany c) := by
  rw [KE, KE, KE]
  have := many_eq (c := c) (f := f)
  rw [Yi, Yi, Yi] at this
  simp only [Option.bind_some] at this ⊢
  exact this
theorem refCheck_eq {c : Channel} (h : Few c) : yB c = some (chk c) := by
  unfold yB chk
  rw [many_eq']
  by_cases h1 : okMany c = true
  · rw [if_pos h1]
    rw [if_neg (by simp [h1])]
    obtain ⟨hc, ht, hf, hs, hg⟩ := okMany_iff.1 h1
    rw [ref_loop c.sands default (fun s => inb s.reach 1 2) (e := 3) (by omega) (fun k hk => by
        unfold zA
        rw [if_pos (by omega), ix_nat default hk, Option.bind_some, KE, Option.bind_some, addc_eq (by omega), Option.bind_some]
        split <;> rfl) (by unfold zA; rw [if_neg (by omega)]),
      ref_loop c.sights default (fun s => inb s.after 0 c.tides) (e := 3) (by omega) (fun k hk => by
        unfold zy
        rw [if_pos (by omega), ix_nat default hk, Option.bind_some, KE, Option.bind_some, addc_eq (by omega), Option.bind_some]
        split <;> rfl) (by unfold zy; rw [if_neg (by omega)]),
      ref_loop c.fords default (fun x => inb x 0 (c.cells - 1)) (e := 1) (by omega) (fun k hk => by
        unfold zF
        rw [if_pos (by omega), ix_nat default hk, Option.bind_some, subc_eq (by omega), Option.bind_some, KE, Option.bind_some, addc_eq (by omega), Option.bind_some]
        split <;> rfl) (by unfold zF; rw [if_neg (by omega)]),
      ref_loop c.sands default (fun s => inb s.span.lo 0 (c.cells - 1) && inb s.span.hi 0 (c.cells - 1)) (e := 1) (by omega) (fun k hk => by
        unfold zz
        rw [if_pos (by omega), ix_nat default hk, Option.bind_some, subc_eq (by omega), Option.bind_some, KE, Option.bind_some, Option.bind_some, Option.bind_some, KE, Option.bind_some, addc_eq (by omega)]
        cases inb (c.sands.getD k default).span.lo 0 (c.cells - 1) <;> cases inb (c.sands.getD k default).span.hi 0 (c.cells - 1) <;> rfl) (by unfold zz; rw [if_neg (by omega)]),
      ref_loop c.sights default (fun s => inb s.cell 0 (c.cells - 1)) (e := 1) (by omega) (fun k hk => by
        unfold zE
        rw [if_pos (by omega), ix_nat default hk, Option.bind_some, subc_eq (by omega), Option.bind_some, KE, Option.bind_some, addc_eq (by omega), Option.bind_some]
        split <;> rfl) (by unfold zE; rw [if_neg (by omega)]),
      ref_up (by omega),
      ref_loop c.sands default (fun s => decide (s.span.lo ≤ s.span.hi)) (e := 4) (by omega) (fun k hk => by
        unfold zB
        rw [if_pos (by omega), ix_nat default hk, Option.bind_some, Option.bind_some, addc_eq (by omega), Option.bind_some]
        by_cases h : (c.sands.getD k default).span.hi < (c.sands.getD k default).span.lo
        · rw [if_pos h, if_pos (by simp at h ⊢; omega)]
        · rw [if_neg h, if_neg (by simp at h ⊢; omega)]) (by unfold zB; rw [if_neg (by omega)])]
    unfold okLimit okMiss okOrder
    simp only [Option.bind_some]
    cases (c.sands.all fun s => inb s.reach 1 2)
    · rfl
    cases (c.sights.all fun s => inb s.after 0 c.tides)
    · rfl
    cases (c.fords.all fun x => inb x 0 (c.cells - 1))
    · rfl
    cases (c.sands.all fun s => inb s.span.lo 0 (c.cells - 1) && inb s.span.hi 0 (c.cells - 1))
    · rfl
    cases (c.sights.all fun s => inb s.cell 0 (c.cells - 1))
    · rfl
    cases upB c.fords
    · rfl
    cases (c.sands.all fun s => decide (s.span.lo ≤ s.span.hi))
    · rfl
    rfl
  · rw [if_neg h1, if_pos (by simp [h1])]
end Go.Proofs.Wb

namespace Go.Proofs.Wb
open Go Go.Fw Go.Gx Go.Sb
set_option linter.unusedVariables false
def stepR (x : Int) (r : Int) (s : Sand) : Int := if s.span.lo ≤ x ∧ x ≤ s.span.hi then max r s.reach else r
def rchC (l : List Sand) (x : Int) : Int := l.foldl (stepR x) 0
def rchL (c : Channel) : List Int := (List.range c.cells.toNat).map fun t : Nat => rchC c.sands (t : Int)
theorem rchC_snoc {l : List Sand} {s : Sand} {x : Int} : rchC (l ++ [s]) x = stepR x (rchC l x) s := by unfold rchC; rw [List.foldl_append]; rfl
theorem rchC_bounds {l : List Sand} {x : Int} (h : ∀ s ∈ l, 1 ≤ s.reach ∧ s.reach ≤ 2) : 0 ≤ rchC l x ∧ rchC l x ≤ 2 := by
  unfold rchC
  have key : ∀ (l : List Sand) (r : Int), (∀ s ∈ l, 1 ≤ s.reach ∧ s.reach ≤ 2) → 0 ≤ r ∧ r ≤ 2 → 0 ≤ l.foldl (stepR x) r ∧ l.foldl (stepR x) r ≤ 2 := by
    intro l
    induction l with
    | nil => intro r _ h; exact h
    | cons s l ih =>
      intro r h hr
      rw [List.foldl_cons]
      refine ih _ (fun t ht => h t (List.mem_cons_of_mem _ ht)) ?_
      have := h s List.mem_cons_self
      unfold stepR
      split <;> omega
  exact key l 0 h (by omega)
theorem refReach_eq {c : Channel} (h : c.sands.length ≤ 100) (x : Int) : zr c x = some (rchC c.sands x) := by
  unfold zr
  have key := iterM_run (f := yw c x) (fun j => ⟨rchC (c.sands.take j) x, (j : Int)⟩) c.sands.length (b := rchC c.sands x) (fun j hj => ?_) ?_ FU (FU_lt (by omega))
  · simp only [List.take_zero] at key
    rw [show (⟨0, 0⟩ : yA) = ⟨rchC [] x, ((0 : Nat) : Int)⟩ from rfl, key]
    rfl
  · have e : c.sands.take (j + 1) = c.sands.take j ++ [c.sands[j]] := by rw [List.take_append_getElem]
    have hx : c.sands.getD j default = c.sands[j] := by simp [List.getD_eq_getElem?_getD, hj]
    unfold yw
    simp only
    rw [if_pos (by omega), ix_nat default hj, Option.bind_some, Option.bind_some, KE, Option.bind_some, Option.bind_some, hx, e, rchC_snoc, addc_eq (by omega)]
    unfold stepR inb
    by_cases h1 : c.sands[j].span.lo ≤ x ∧ x ≤ c.sands[j].span.hi
    · rw [if_pos h1]
      simp [h1]
    · rw [if_neg h1]
      have : (decide (c.sands[j].span.lo ≤ x) && decide (x ≤ c.sands[j].span.hi)) = false := by
        rw [Bool.and_eq_false_iff]
        simp only [decide_eq_false_iff_not]
        omega
      rw [this]
      rfl
  · unfold yw
    simp only
    rw [if_neg (by omega), List.take_length]
theorem reaches_in {n : Nat} {f : Nat → Int} {s : Sand} (h0 : 0 ≤ s.span.lo) (h1 : s.span.hi < n) (h2 : s.span.lo ≤ s.span.hi) (hn : n ≤ 1000) :
    iterM FU (kw s) ⟨s.span.lo, (List.range n).map f⟩ = some ((List.range n).map fun t : Nat => stepR (t : Int) (f t) s) := by
  have key := iterM_run (f := kw s) (fun j => ⟨s.span.lo + (j : Int), (List.range n).map fun t : Nat => if (s.span.lo ≤ (t : Int) ∧ (t : Int) < s.span.lo + (j : Int)) then max (f t) s.reach else f t⟩) (s.span.hi - s.span.lo + 1).toNat (b := (List.range n).map fun t : Nat => stepR (t : Int) (f t) s) (fun j hj => ?_) ?_ FU (FU_lt (by omega))
  · have e : ((List.range n).map fun t : Nat => if (s.span.lo ≤ (t : Int) ∧ (t : Int) < s.span.lo + ((0 : Nat) : Int)) then max (f t) s.reach else f t) = (List.range n).map f := by
      apply List.map_congr_left
      intro t _
      rw [if_neg (by omega)]
    simp only [e] at key
    simpa using key
  · unfold kw
    simp only
    have ej : s.span.lo + (j : Int) = ((s.span.lo.toNat + j : Nat) : Int) := by omega
    rw [if_pos (by omega), ej, range_ix (by omega), Option.bind_some, Option.bind_some, Int.toNat_natCast, range_set, Option.bind_some, addc_eq (by omega), Option.bind_some]
    congr 3
    · omega
    · apply List.map_congr_left
      intro t ht
      by_cases h : t = s.span.lo.toNat + j
      · rw [if_pos h, if_neg (by omega), if_pos (by omega)]; rw [h]
      · rw [if_neg h]
        by_cases h3 : s.span.lo ≤ (t : Int) ∧ (t : Int) < ((s.span.lo.toNat + j : Nat) : Int)
        · rw [if_pos h3, if_pos (by omega)]
        · rw [if_neg h3, if_neg (by omega)]
  · unfold kw
    simp only
    rw [if_neg (by omega)]
    congr 2
    apply List.map_congr_left
    intro t ht
    unfold stepR
    by_cases h3 : s.span.lo ≤ (t : Int) ∧ (t : Int) ≤ s.span.hi
    · rw [if_pos h3, if_pos (by omega)]
    · rw [if_neg h3, if_neg (by omega)]
theorem jaZ {c : Channel} (r : Right c) : k5 c = some (rchL c) := by
  have hc := r.cells
  have hs := r.sands
  unfold k5
  rw [makec_eq (by omega), Option.bind_some]
  have key := iterM_run (f := k9 c) (fun j => ⟨(j : Int), (List.range c.cells.toNat).map fun t : Nat => rchC (c.sands.take j) (t : Int)⟩) c.sands.length (b := rchL c) (fun j hj => ?_) ?_ FU (FU_lt (by omega))
  · have e : List.replicate c.cells.toNat (0 : Int) = (List.range c.cells.toNat).map fun t : Nat => rchC (c.sands.take 0) (t : Int) := by
      apply List.ext_getElem (by simp)
      intro i h1 h2
      simp [rchC]
    rw [e, show (0 : Int) = ((0 : Nat) : Int) from rfl, key]
    rfl
  · have e : c.sands.take (j + 1) = c.sands.take j ++ [c.sands[j]] := by rw [List.take_append_getElem]
    have hx : c.sands.getD j default = c.sands[j] := by simp [List.getD_eq_getElem?_getD, hj]
    have hsp := r.span c.sands[j] (List.getElem_mem hj)
    unfold k9
    simp only
    rw [if_pos (by omega), ix_nat default hj, Option.bind_some, hx, reaches_in hsp.1 (by omega) hsp.2.2 (by omega), Option.bind_some, addc_eq (by omega), Option.bind_some]
    congr 3
    apply List.map_congr_left
    intro t _
    rw [e, rchC_snoc]
  · unfold k9
    simp only
    rw [if_neg (by omega), List.take_length]
    rfl
theorem rchL_len {c : Channel} : (rchL c).length = c.cells.toNat := by simp [rchL]
theorem rchL_get {c : Channel} {x : Int} (h : 0 ≤ x ∧ x < c.cells) : (rchL c).getD x.toNat 0 = rchC c.sands x := by
  unfold rchL
  rw [List.getD_eq_getElem?_getD, List.getElem?_map, List.getElem?_range (by omega)]
  simp
  congr 1
  omega
theorem Zl {c : Channel} (h : Few c) : ye c = some (if chk c = 0 then .inr ⟨c.cells, c.tides, rchL c⟩ else .inl (chk c)) := by
  unfold ye
  rw [jbx, Option.bind_some]
  by_cases h0 : chk c = 0
  · rw [if_pos h0, if_pos h0, jaZ (rightOf h0)]; rfl
  · rw [if_neg h0, if_neg h0, if_pos h0]
end Go.Proofs.Wb

namespace Go.Proofs.Wb
open Go Go.Fw Go.Gx Go.Sb
set_option linter.unusedVariables false
set_option maxRecDepth 100000
theorem jbc : ∀ {l : List Int}, l.length ≤ 3 → K6 l = some (mkCells l)
  | [], _ => by decide +kernel
  | [a], _ => rfl
  | [a, b], _ => rfl
  | [a, b, c], _ => rfl
  | a :: b :: c :: d :: l, h => absurd h (by simp)
def clS (nf : Nat) (s : State) : List Int := [s.at_.c0, s.at_.c1, s.at_.c2].take nf
theorem clS_mk {l : List Int} {k : Int} (h : l.length ≤ 3) : clS l.length ⟨k, mkCells l⟩ = l := by
  unfold clS mkCells
  match l, h with
  | [], _ => rfl
  | [a], _ => rfl
  | [a, b], _ => rfl
  | [a, b, c], _ => rfl
  | a :: b :: c :: d :: l, h => exact absurd h (by simp)
theorem jac {d0 d1 : Int} {f : List Int} {a : List Sand} {b : List Sight} {r : List Int} (h : f.length ≤ 3) (s : State) : kV d0 d1 f a b r s = some (clS f.length s) := by
  unfold kV
  rw [if_pos (by simp; omega), Int.toNat_natCast, QK (by simp; omega)]
  rfl
theorem Kf {l : List Int} (hl : l.length < 1000000) (v : Int) : j7 l v = some (decide (v ∈ l)) := by
  unfold j7 Kl
  rw [contains_loop (f := zg l v) l 0 (fun x => decide (v = x)) (by omega) (fun k hk => ?_) ?_]
  · congr 1
    rw [Bool.eq_iff_iff, List.any_eq_true, decide_eq_true_eq]
    constructor
    · rintro ⟨x, hx, he⟩
      rw [decide_eq_true_eq] at he
      subst he; exact hx
    · intro h; exact ⟨v, h, by simp⟩
  · unfold zg
    rw [if_neg (by omega)]
  · unfold zg
    rw [if_pos (by omega), ix_nat 0 hk, Option.bind_some, addc_eq (by omega), Option.bind_some]
    by_cases h : v = l.getD k 0
    · rw [if_pos h, if_pos (by simpa using h)]
    · rw [if_neg h, if_neg (by simpa using h)]
def offS (k : Int) (l : List Int) (x : Sight) : Bool := decide (x.after = k) && !(decide (x.cell ∈ l) == x.upright)
def agP (cnt : Nat → Bool) (sg : List Sight) (k : Int) (l : List Int) : Bool := !(List.range sg.length).any fun i => cnt i && offS k l (sg.getD i default)
theorem agP_iff {cnt : Nat → Bool} {sg : List Sight} {k : Int} {l : List Int} : agP cnt sg k l = true ↔ ∀ i, i < sg.length → cnt i = true → (sg.getD i default).after = k → (decide ((sg.getD i default).cell ∈ l) = (sg.getD i default).upright) := by
  unfold agP
  rw [Bool.not_eq_true', List.any_eq_false]
  simp only [List.mem_range, offS, Bool.and_eq_true, decide_eq_true_eq, Bool.not_eq_true', not_and, Bool.not_eq_false, beq_iff_eq]
theorem ja1 {d0 d1 : Int} {f : List Int} {a : List Sand} {sg : List Sight} {r : List Int} (h : f.length ≤ 3) (hs : sg.length ≤ 100) (s : State) : zj d0 d1 f a sg r s = some (agP (fun _ => true) sg s.after (clS f.length s)) := by
  unfold zj
  rw [iterM_any0 (f := yd sg s d0 d1 f a r) sg.length (fun k => offS s.after (clS f.length s) (sg.getD k default)) false (fun k hk => ?_) ?_ (FU_lt (by omega)), Option.bind_some]
  · unfold agP
    simp only [Bool.true_and]
    cases (List.range sg.length).any fun k => offS s.after (clS f.length s) (sg.getD k default) <;> rfl
  · unfold yd
    rw [if_neg (by omega)]
  · unfold yd Qo
    rw [if_pos (by omega), ix_nat default hk, Option.bind_some, jac h, Option.bind_some, if_pos rfl, Option.bind_some, Kf (by unfold clS; simp; omega), Option.bind_some, addc_eq (by omega)]
    unfold offS
    by_cases h1 : (sg.getD k default).after = s.after
    · rw [if_pos h1, Option.bind_some, decide_eq_true h1, Bool.true_and]
      split <;> rfl
    · rw [if_neg h1, Option.bind_some, decide_eq_false h1, Bool.false_and]
      rfl
theorem Y8 {d0 d1 : Int} {f : List Int} {a : List Sand} {b : List Sight} {r : List Int} (h : f.length ≤ 3) : jL d0 d1 f a b r = some ⟨0, mkCells f⟩ := by
  unfold jL
  rw [jbc h]; rfl
theorem jbP {l : List Int} (hl : l.length < 1000000) (n : Int) : Jz l n = some (decide (n ∈ l)) := by
  unfold Jz
  rw [iterM_any0 (f := y8 l n) l.length (fun k => decide (l.getD k 0 = n)) true (fun k hk => ?_) ?_ (FU_lt (by omega)), Option.bind_some]
  · rw [any_range (p := fun x => decide (x = n))]
    cases h : l.any fun x => decide (x = n) with
    | true =>
      obtain ⟨x, hx, he⟩ := List.any_eq_true.1 h
      rw [decide_eq_true_eq] at he
      subst he
      simp [hx]
    | false =>
      have : n ∉ l := fun hm => by
        have := List.any_eq_false.1 h n hm
        simp at this
      simp [this]
  · unfold y8
    rw [if_neg (by omega)]
  · unfold y8
    rw [if_pos (by omega), ix_nat 0 hk, Option.bind_some, addc_eq (by omega), Option.bind_some]
    by_cases h : l.getD k 0 = n
    · rw [if_pos h, if_pos (by simpa using h)]
    · rw [if_neg h, if_neg (by simpa using h)]
def bitN (n i : Nat) : Bool := decide (n / 2 ^ i % 2 = 1)
theorem refAgrees_eq {c : Channel} (hs : c.sights.length ≤ 100) {l : List Int} (hl : l.length < 1000) (k : Int) (n : Nat) (hn : n ≤ 1000000000000) : ze c k l (n : Int) = some (agP (bitN n) c.sights k l) := by
  unfold ze
  have key := iterM_find (f := yc c k l) (fun j => ⟨((n / 2 ^ j : Nat) : Int), (j : Int)⟩) c.sights.length (fun i => bitN n i && offS k l (c.sights.getD i default)) (fun _ => .inr false) (.inl ()) (fun j hj _ => ?_) ?_ (N := FU) (FU_lt (by omega))
  · simp only [Nat.pow_zero, Nat.div_one] at key
    rw [show (⟨(n : Int), 0⟩ : q5) = ⟨(n : Int), ((0 : Nat) : Int)⟩ from rfl, key, Option.bind_some]
    unfold agP
    cases hf : (List.range c.sights.length).find? (fun i => bitN n i && offS k l (c.sights.getD i default)) with
    | none =>
      have : (List.range c.sights.length).any (fun i => bitN n i && offS k l (c.sights.getD i default)) = false := by
        rw [List.any_eq_false]; intro x hx; simpa using List.find?_eq_none.1 hf x hx
      rw [this]; rfl
    | some i =>
      have h2 := List.find?_some hf
      have : (List.range c.sights.length).any (fun i => bitN n i && offS k l (c.sights.getD i default)) = true := List.any_eq_true.2 ⟨i, List.mem_of_find?_eq_some hf, h2⟩
      rw [this]; rfl
  · unfold yc
    have hdv : n / 2 ^ j ≤ n := Nat.div_le_self _ _
    have e1 : ((n / 2 ^ j : Nat) : Int).tmod 2 = ((n / 2 ^ j % 2 : Nat) : Int) := by rfl
    have e2 : ((n / 2 ^ j : Nat) : Int).tdiv 2 = ((n / 2 ^ (j + 1) : Nat) : Int) := by
      rw [Nat.pow_succ, ← Nat.div_div_eq_div_mul]; rfl
    simp only
    rw [if_pos (by omega), ix_nat default hj, Option.bind_some, remc_eq (by omega), Option.bind_some, e1, jbP (by omega), Option.bind_some, quoc_eq (by omega) (by rw [e2]; have h5 : n / 2 ^ (j + 1) ≤ n := Nat.div_le_self _ _; generalize n / 2 ^ (j + 1) = q at h5 ⊢; omega), Option.bind_some, addc_eq (by omega), Option.bind_some, e2]
    unfold bitN offS
    by_cases hb : n / 2 ^ j % 2 = 1
    · rw [if_pos (by omega), decide_eq_true hb, Bool.true_and]
      by_cases ha : (c.sights.getD j default).after = k
      · rw [if_pos ha, Option.bind_some, decide_eq_true ha, Bool.true_and]
        split <;> rfl
      · rw [if_neg ha, Option.bind_some, decide_eq_false ha, Bool.false_and]
        rfl
    · rw [if_neg (by omega), Option.bind_some, decide_eq_false hb, Bool.false_and]
      rfl
  · unfold yc
    simp only
    rw [if_neg (by omega)]
theorem jab {c : Channel} (hs : c.sights.length ≤ 30) : jZ c = some ((2 ^ c.sights.length - 1 : Nat) : Int) := by
  unfold jZ
  have hp : ∀ j, j ≤ 30 → 2 ^ j ≤ 2 ^ 30 := fun j hj => Nat.pow_le_pow_right (by omega) hj
  have key := iterM_run (f := qa c) (fun j => ⟨((2 ^ j : Nat) : Int), (j : Int)⟩) c.sights.length (b := ((2 ^ c.sights.length : Nat) : Int)) (fun j hj => ?_) ?_ FU (FU_lt (by omega))
  · rw [show (⟨1, 0⟩ : qd) = ⟨((2 ^ 0 : Nat) : Int), ((0 : Nat) : Int)⟩ from rfl, key, Option.bind_some]
    have h1 := hp c.sights.length hs
    have h2 := Nat.one_le_two_pow (n := c.sights.length)
    rw [subc_eq (by omega), Option.bind_some]
    congr 1
    omega
  · unfold qa
    have h1 := hp j (by omega)
    simp only
    rw [if_pos (by omega), mulc_eq (by generalize 2 ^ j = q at h1 ⊢; omega), Option.bind_some, addc_eq (by omega), Option.bind_some]
    rw [Nat.pow_succ]
    generalize 2 ^ j = q
    congr 3
    omega
  · unfold qa
    simp only
    rw [if_neg (by omega)]
theorem agP_congr {c1 c2 : Nat → Bool} {sg : List Sight} {k : Int} {l : List Int} (h : ∀ i, i < sg.length → c1 i = c2 i) : agP c1 sg k l = agP c2 sg k l := by
  rw [Bool.eq_iff_iff, agP_iff, agP_iff]
  constructor
  · intro h1 i hi hc; exact h1 i hi (by rw [h i hi]; exact hc)
  · intro h1 i hi hc; exact h1 i hi (by rw [← h i hi]; exact hc)
end Go.Proofs.Wb

namespace Go.Proofs.Wb
open Go Go.Fw Go.Gx Go.Sb
set_option linter.unusedVariables false
set_option maxRecDepth 100000
def canB (sa : List Sand) (a b : List Int) : Bool := (List.range a.length).all fun i => inb (b.getD i (-1)) (a.getD i (-1) - rchC sa (a.getD i (-1))) (a.getD i (-1) + rchC sa (a.getD i (-1)))
def rowB (c : Channel) (l : List Int) : Bool := decide (l.length = c.fords.length) && (upB l && l.all fun x => inb x 0 (c.cells - 1))
theorem rowB_iff {c : Channel} {l : List Int} : rowB c l = true ↔ l.length = c.fords.length ∧ upB l = true ∧ ∀ x ∈ l, 0 ≤ x ∧ x < c.cells := by
  unfold rowB
  simp only [Bool.and_eq_true, decide_eq_true_eq, List.all_eq_true, inb_iff]
  constructor
  · rintro ⟨h1, h2, h3⟩; exact ⟨h1, h2, fun x hx => by have := h3 x hx; omega⟩
  · rintro ⟨h1, h2, h3⟩; exact ⟨h1, h2, fun x hx => by have := h3 x hx; omega⟩
theorem jaU {a b : List Int} (hn : a.length < 1000000) : zY a b = some (decide (a = b)) := by
  unfold zY
  by_cases h : a.length = b.length
  · rw [if_pos (by omega), eq_loop 0 h hn (f := J7 a b) (fun s => rfl)]
  · rw [if_neg (by omega)]
    congr 1
    symm
    rw [decide_eq_false_iff_not]
    intro e; exact h (by rw [e])
theorem getD_mem {l : List Int} {i : Nat} {d : Int} (h : i < l.length) : l.getD i d ∈ l := by
  rw [List.getD_eq_getElem?_getD, List.getElem?_eq_getElem h]
  exact List.getElem_mem h
theorem jbZ {c : Channel} (hs : c.sands.length ≤ 100) (hr : ∀ s ∈ c.sands, 1 ≤ s.reach ∧ s.reach ≤ 2) {a b : List Int} (hl : a.length ≤ b.length) (hn : a.length ≤ 1000) (ha : ∀ x ∈ a, 0 ≤ x ∧ x < 1000) : Jt c a b = some (canB c.sands a b) := by
  unfold Jt
  have key := iterM_any0 (f := zb a c b) a.length (fun i => !inb (b.getD i (-1)) (a.getD i (-1) - rchC c.sands (a.getD i (-1))) (a.getD i (-1) + rchC c.sands (a.getD i (-1)))) false (fun k hk => by
    have h1 := ha _ (getD_mem (d := -1) hk)
    have h2 := rchC_bounds (x := a.getD k (-1)) hr
    unfold zb
    rw [if_pos (by omega), ix_nat (-1) hk, Option.bind_some, refReach_eq hs, Option.bind_some, ix_nat (-1) (by omega), Option.bind_some, Option.bind_some, subc_eq (by omega), Option.bind_some, Option.bind_some, addc_eq (by omega), Option.bind_some, KE, Option.bind_some, addc_eq (by omega), Option.bind_some]
    split <;> rfl) (by unfold zb; rw [if_neg (by omega)]) (N := FU) (FU_lt (by omega))
  rw [key, Option.bind_some]
  unfold canB
  rw [← not_any_not]
  cases (List.range a.length).any fun i => !inb (b.getD i (-1)) (a.getD i (-1) - rchC c.sands (a.getD i (-1))) (a.getD i (-1) + rchC c.sands (a.getD i (-1))) <;> rfl
end Go.Proofs.Wb

namespace Go.Proofs.Wb
open Go Go.Fw Go.Gx Go.Sb
set_option linter.unusedVariables false
set_option maxRecDepth 100000
theorem cGet_mk {l : List Int} {i : Nat} (h : i < 3) : cGet (mkCells l) i = l.getD i (-1) := by
  have : i = 0 ∨ i = 1 ∨ i = 2 := by omega
  rcases this with rfl | rfl | rfl <;> rfl
theorem rch_eq {c : Channel} {x : Int} (h : 0 ≤ x ∧ x < c.cells) : rch (rchL c) x = rchC c.sands x := rchL_get h
theorem nextOK_of {c : Channel} (r : Right c) {a : List Int} (ha : rowB c a = true) {k : Int} (hk : -1000 ≤ k ∧ k ≤ 1000) : nextOK c.cells (rchL c) (c.fords.length : Int) ⟨k, mkCells a⟩ := by
  obtain ⟨h1, h2, h3⟩ := rowB_iff.1 ha
  have hc := r.cells
  have hf := r.fords
  refine ⟨by omega, by omega, hk.1, hk.2, fun i hi => ?_⟩
  rw [Int.toNat_natCast] at hi
  simp only
  rw [cGet_mk (by omega)]
  have h4 := h3 _ (getD_mem (l := a) (i := i) (d := -1) (by omega))
  have h5 := rchC_bounds (x := a.getD i (-1)) r.reach
  rw [rchL_get h4, rchL_len]
  omega
theorem can_iff {c : Channel} (r : Right c) {a l : List Int} (ha : rowB c a = true) (hl : rowB c l = true) : canB c.sands a l = true ↔ CanS c.cells (rchL c) c.fords.length (mkCells a) l := by
  obtain ⟨a1, a2, a3⟩ := rowB_iff.1 ha
  obtain ⟨l1, l2, l3⟩ := rowB_iff.1 hl
  have hf := r.fords
  unfold canB
  simp only [List.all_eq_true, List.mem_range, inb_iff]
  constructor
  · intro h
    refine ⟨l1, fun i hi => l3 _ (getD_mem (by omega)), fun i hi => ?_, fun i hi => upB_ix.1 l2 i (by omega)⟩
    rw [cGet_mk (by omega), rch_eq (a3 _ (getD_mem (by omega)))]
    exact h i (by omega)
  · intro h i hi
    have := h.near i (by omega)
    rw [cGet_mk (by omega), rch_eq (a3 _ (getD_mem (by omega)))] at this
    exact this
end Go.Proofs.Wb

namespace Go.Gx
open Go
theorem afind_none {α β : Type} [DecidableEq α] : ∀ {l : List (α × β)} {k : α} {i : Nat}, afind l k i = none ↔ ∀ p, p ∈ l → p.1 ≠ k
  | [], k, i => by simp [afind]
  | (k', v') :: r, k, i => by
    unfold afind
    by_cases h : k = k'
    · rw [if_pos h]
      constructor
      · intro h2; cases h2
      · intro h2; exact absurd h.symm (h2 (k', v') (by simp))
    · rw [if_neg h, afind_none]
      constructor
      · intro h2 p hp
        rcases List.mem_cons.1 hp with rfl | hp
        · exact fun e => h e.symm
        · exact h2 p hp
      · intro h2 p hp; exact h2 p (List.mem_cons_of_mem _ hp)
theorem aget_val {α β : Type} [DecidableEq α] : ∀ {l : List (α × β)} {k : α} {i : Nat}, (afind l k i).map (·.2) = (l.find? fun p => decide (p.1 = k)).map (·.2)
  | [], k, i => rfl
  | (k', v') :: r, k, i => by
    unfold afind
    by_cases h : k = k'
    · rw [if_pos h, List.find?_cons, decide_eq_true h.symm]; rfl
    · rw [if_neg h, aget_val (i := i + 1), List.find?_cons, decide_eq_false (fun e => h e.symm)]
theorem find_modify {α β : Type} [DecidableEq α] (v : β) (k x : α) : ∀ {l : List (α × β)} {i j : Nat} {v0 : β}, afind l k j = some (i, v0) → ((l.modify (i - j) (fun p => (p.1, v))).find? fun p => decide (p.1 = x)).map (·.2) = if x = k then some v else (l.find? fun p => decide (p.1 = x)).map (·.2)
  | [], i, j, v0, h => by cases h
  | (k', v') :: r, i, j, v0, h => by
    unfold afind at h
    by_cases hk : k = k'
    · rw [if_pos hk] at h
      cases h
      rw [Nat.sub_self, List.modify_zero_cons, List.find?_cons, List.find?_cons]
      subst hk
      by_cases hx : k = x
      · rw [decide_eq_true hx, if_pos hx.symm]; rfl
      · rw [decide_eq_false hx, if_neg (fun e => hx e.symm)]
    · rw [if_neg hk] at h
      have hle := (afind_some h).1
      have e : i - j = (i - (j + 1)) + 1 := by omega
      rw [e, List.modify_succ_cons, List.find?_cons, List.find?_cons]
      have ih := find_modify v k x h
      by_cases hx : k' = x
      · rw [decide_eq_true hx, if_neg (fun e => hk (by rw [← e, hx]))]
      · rw [decide_eq_false hx]; exact ih
theorem aget_aset {α β : Type} [DecidableEq α] (l : List (α × β)) (k x : α) (v : β) : aget (aset l k v) x = if x = k then some v else aget l x := by
  unfold aget aset
  rw [aget_val, aget_val]
  cases h : afind l k 0 with
  | none =>
    simp only
    rw [List.find?_append]
    by_cases hx : x = k
    · subst hx
      have : (l.find? fun p => decide (p.1 = x)) = none := by
        rw [List.find?_eq_none]
        intro p hp
        simpa using afind_none.1 h p hp
      rw [this, if_pos rfl]
      simp
    · rw [if_neg hx]
      have : (List.find? (fun p : α × β => decide (p.1 = x)) [(k, v)]) = none := by
        rw [List.find?_cons, decide_eq_false (fun e => hx e.symm)]; rfl
      rw [this, Option.or_none]
  | some p =>
    obtain ⟨i, v0⟩ := p
    exact find_modify v k x h
end Go.Gx
namespace Go.Proofs.Wb
open Go Go.Fw Go.Gx Go.Sb
set_option linter.unusedVariables false
abbrev ML := List (State × Int)
def fR (M : State → ML → Option (Int × ML)) (x : State) (p : Int × ML) : Option (Int × ML) := (M x p.2).bind fun q => (addc p.1 q.1).bind fun t => some (t, q.2)
structure RestEq (M : Nat → State → ML → Option (Int × ML)) (V : State → Prop) (ag : State → Bool) (nx : State → List State) (T : Int) : Prop where
  eq : ∀ fu s ml, V s → M (fu + 1) s ml = if (aget ml s).isSome = true then some ((aget ml s).getD 0, ml) else if ag s = true then (if s.after = T then some (1, aset ml s 1) else (iterL (fR (M fu)) (nx s) (0, ml)).bind fun p => some (p.1, aset p.2 s p.1)) else some (0, aset ml s 0)
  nxV : ∀ s t, V s → s.after < T → t ∈ nx s → V t ∧ t.after = s.after + 1
  le : ∀ s, V s → s.after ≤ T
  len : ∀ s, (nx s).length ≤ 1000
theorem sum_le {α : Type} (f : α → Nat) (B : Nat) : ∀ (l : List α), (∀ x ∈ l, f x ≤ B) → (l.map f).sum ≤ l.length * B
  | [], _ => by simp
  | x :: l, h => by
    rw [List.map_cons, List.sum_cons, List.length_cons, Nat.succ_mul]
    have h1 := h x List.mem_cons_self
    have h2 := sum_le f B l (fun y hy => h y (List.mem_cons_of_mem _ hy))
    omega
theorem R_le {nx : State → List State} {ag : State → Bool} (h : ∀ s, (nx s).length ≤ 1000) : ∀ k s, R nx ag k s ≤ 1000 ^ k
  | 0, s => by rw [R]; split <;> simp
  | k + 1, s => by
    rw [R]
    split
    · have h1 := sum_le (R nx ag k) (1000 ^ k) (nx s) (fun x _ => R_le h k x)
      have h2 := Nat.mul_le_mul_right (1000 ^ k) (h s)
      rw [Nat.pow_succ, Nat.mul_comm]
      omega
    · exact Nat.zero_le _
section
variable {nx : State → List State} {ag : State → Bool} {T : Int}
def valR (nx : State → List State) (ag : State → Bool) (T : Int) (s : State) : Int := (R nx ag (T - s.after).toNat s : Nat)
def Sound (nx : State → List State) (ag : State → Bool) (T : Int) (ml : ML) : Prop := ∀ x v, aget ml x = some v → v = valR nx ag T x
def Closed (nx : State → List State) (ag : State → Bool) (T : Int) (ml : ML) : Prop := ∀ x, (aget ml x).isSome = true → ag x = true → x.after < T → ∀ t ∈ nx x, (aget ml t).isSome = true
def Grows (ml ml' : ML) : Prop := ∀ x, (aget ml x).isSome = true → (aget ml' x).isSome = true
theorem Grows.trans {a b c : ML} (h : Grows a b) (h' : Grows b c) : Grows a c := fun x hx => h' x (h x hx)
theorem Sound.set {ml : ML} (h : Sound nx ag T ml) {s : State} {v : Int} (hv : v = valR nx ag T s) : Sound nx ag T (aset ml s v) := by
  intro x w hx
  rw [aget_aset] at hx
  split at hx
  · rename_i e; subst e; rw [← Option.some.inj hx]; exact hv
  · exact h x w hx
theorem Grows.set (ml : ML) (s : State) (v : Int) : Grows ml (aset ml s v) := by
  intro x hx
  rw [aget_aset]
  split
  · rfl
  · exact hx
theorem Closed.set {ml : ML} (h : Closed nx ag T ml) {s : State} {v : Int} (hs : ag s = true → s.after < T → ∀ t ∈ nx s, (aget ml t).isSome = true) : Closed nx ag T (aset ml s v) := by
  intro x hx ha hl t ht
  by_cases e : x = s
  · subst e; exact Grows.set ml x v t (hs ha hl t ht)
  · rw [aget_aset, if_neg e] at hx
    exact Grows.set ml s v t (h x hx ha hl t ht)
def Good (nx : State → List State) (ag : State → Bool) (T : Int) (ml : ML) (s : State) (r : Option (Int × ML)) : Prop := ∃ ml', r = some (valR nx ag T s, ml') ∧ Sound nx ag T ml' ∧ Closed nx ag T ml' ∧ Grows ml ml' ∧ (aget ml' s).isSome = true
theorem rest_loop {M : State → ML → Option (Int × ML)} : ∀ (l : List State) (n : Int) (ml : ML), (∀ x ∈ l, ∀ ml, Sound nx ag T ml → Closed nx ag T ml → Good nx ag T ml x (M x ml)) → 0 ≤ n → n + ((l.length : Nat) : Int) * 1000000000000 ≤ 1000000000000000 → (∀ x ∈ l, valR nx ag T x ≤ 1000000000000) → Sound nx ag T ml → Closed nx ag T ml →
    ∃ ml', iterL (fR M) l (n, ml) = some (n + ((l.map fun x => R nx ag (T - x.after).toNat x).sum : Nat), ml') ∧ Sound nx ag T ml' ∧ Closed nx ag T ml' ∧ Grows ml ml' ∧ ∀ x ∈ l, (aget ml' x).isSome = true
  | [], n, ml, _, _, _, _, hS, hC => ⟨ml, by simp [iterL], hS, hC, fun _ h => h, fun x hx => by cases hx⟩
  | x :: l, n, ml, hM, h0, hb, hv, hS, hC => by
    obtain ⟨m1, e1, s1, c1, g1, i1⟩ := hM x List.mem_cons_self ml hS hC
    have hx := hv x List.mem_cons_self
    have hx0 : 0 ≤ valR nx ag T x := Int.natCast_nonneg _
    rw [List.length_cons] at hb
    obtain ⟨m2, e2, s2, c2, g2, i2⟩ := rest_loop l (n + valR nx ag T x) m1 (fun y hy => hM y (List.mem_cons_of_mem _ hy)) (by omega) (by push_cast at hb ⊢; omega) (fun y hy => hv y (List.mem_cons_of_mem _ hy)) s1 c1
    refine ⟨m2, ?_, s2, c2, g1.trans g2, fun y hy => ?_⟩
    · rw [iterL]
      unfold fR
      simp only
      rw [e1, Option.bind_some, addc_eq (by push_cast at hb; omega), Option.bind_some, Option.bind_some]
      have := e2
      unfold fR at this
      rw [this, List.map_cons, List.sum_cons]
      unfold valR
      push_cast
      rw [Int.add_assoc]
    · rcases List.mem_cons.1 hy with rfl | hy
      · exact g2 _ i1
      · exact i2 y hy
theorem rest_spec {M : Nat → State → ML → Option (Int × ML)} {V : State → Prop} (h : RestEq M V ag nx T) (hT : 0 ≤ T ∧ T ≤ 4) : ∀ (k : Nat) (fu : Nat) (s : State) (ml : ML), V s → 0 ≤ s.after → (T - s.after).toNat = k → k < fu → Sound nx ag T ml → Closed nx ag T ml → Good nx ag T ml s (M fu s ml) := by
  intro k
  induction k with
  | zero =>
    intro fu s ml hV h0 hk hf hS hC
    obtain ⟨fu, rfl⟩ : ∃ f, fu = f + 1 := ⟨fu - 1, by omega⟩
    have hle := h.le s hV
    have hl : s.after = T := by omega
    rw [h.eq fu s ml hV]
    by_cases h1 : (aget ml s).isSome = true
    · rw [if_pos h1]
      obtain ⟨v, hv⟩ := Option.isSome_iff_exists.1 h1
      refine ⟨ml, ?_, hS, hC, fun _ h => h, h1⟩
      rw [hv, Option.getD_some, hS s v hv]
    · rw [if_neg h1]
      by_cases h2 : ag s = true
      · rw [if_pos h2, if_pos hl]
        have e : (1 : Int) = valR nx ag T s := by unfold valR; rw [hk, R, if_pos h2]; rfl
        refine ⟨_, ?_, hS.set e, hC.set (fun _ hlt => absurd hlt (by omega)), Grows.set _ _ _, by rw [aget_aset, if_pos rfl]; rfl⟩
        rw [← e]
      · rw [if_neg h2]
        have e : (0 : Int) = valR nx ag T s := by unfold valR; rw [hk, R, if_neg h2]; rfl
        refine ⟨_, ?_, hS.set e, hC.set (fun ha => absurd ha h2), Grows.set _ _ _, by rw [aget_aset, if_pos rfl]; rfl⟩
        rw [← e]
  | succ k ih =>
    intro fu s ml hV h0 hk hf hS hC
    obtain ⟨fu, rfl⟩ : ∃ f, fu = f + 1 := ⟨fu - 1, by omega⟩
    have hl : s.after < T := by omega
    rw [h.eq fu s ml hV]
    by_cases h1 : (aget ml s).isSome = true
    · rw [if_pos h1]
      obtain ⟨v, hv⟩ := Option.isSome_iff_exists.1 h1
      refine ⟨ml, ?_, hS, hC, fun _ h => h, h1⟩
      rw [hv, Option.getD_some, hS s v hv]
    · rw [if_neg h1]
      by_cases h2 : ag s = true
      · rw [if_pos h2, if_neg (by omega)]
        have hlen := h.len s
        have hmx : (1000 : Nat) ^ k ≤ 1000 ^ 4 := Nat.pow_le_pow_right (by omega) (by omega)
        obtain ⟨m2, e2, s2, c2, g2, i2⟩ := rest_loop (M := M fu) (nx s) 0 ml (fun x hx ml hS hC => by
            obtain ⟨v1, v2⟩ := h.nxV s x hV hl hx
            exact ih fu x ml v1 (by omega) (by omega) (by omega) hS hC) (by omega) (by omega) (fun x hx => by
            obtain ⟨v1, v2⟩ := h.nxV s x hV hl hx
            have e3 : (T - x.after).toNat = k := by omega
            unfold valR
            rw [e3]
            have := R_le (nx := nx) (ag := ag) h.len k x
            have : R nx ag k x ≤ 1000000000000 := by
              have e4 : (1000 : Nat) ^ 4 = 1000000000000 := by decide
              omega
            omega) hS hC
        have e : ((0 : Int) + (((nx s).map fun x => R nx ag (T - x.after).toNat x).sum : Nat)) = valR nx ag T s := by
          unfold valR
          rw [hk, R, if_pos h2, Int.zero_add]
          congr 2
          apply List.map_congr_left
          intro x hx
          obtain ⟨v1, v2⟩ := h.nxV s x hV hl hx
          rw [show (T - x.after).toNat = k by omega]
        rw [e2, Option.bind_some, e]
        exact ⟨_, rfl, s2.set rfl, c2.set (fun _ _ => i2), g2.trans (Grows.set _ _ _), by rw [aget_aset, if_pos rfl]; rfl⟩
      · rw [if_neg h2]
        have e : (0 : Int) = valR nx ag T s := by unfold valR; rw [hk, R, if_neg h2]; rfl
        refine ⟨_, ?_, hS.set e, hC.set (fun ha => absurd ha h2), Grows.set _ _ _, by rw [aget_aset, if_pos rfl]; rfl⟩
        rw [← e]
end
end Go.Proofs.Wb

namespace Go.Proofs.Wb
open Go Go.Fw Go.Gx Go.Sb
set_option linter.unusedVariables false
set_option maxRecDepth 100000
theorem iterL_pair {α σ τ : Type} (g : σ → τ) {f : α → σ → Option σ} {f' : α → τ → Option τ} (h : ∀ x s, (f x s).map g = f' x (g s)) : ∀ (l : List α) (s : σ), (iterL f l s).map g = iterL f' l (g s)
  | [], s => rfl
  | x :: l, s => by
    rw [iterL, iterL, ← h]
    cases f x s with
    | none => rfl
    | some s' => exact iterL_pair g h l s'
def VS (c : Channel) (s : State) : Prop := (∃ l, rowB c l = true ∧ s.at_ = mkCells l) ∧ 0 ≤ s.after ∧ s.after ≤ c.tides
def agS (cnt : Nat → Bool) (c : Channel) (s : State) : Bool := agP cnt c.sights s.after (clS c.fords.length s)
def nxS (c : Channel) (s : State) : List State := nextL c.cells (rchL c) (c.fords.length : Int) s
theorem putL_len {n : Nat} {reach : List Int} {a : Cells} : ∀ (m : Nat) (pre : List Int), (putL n reach a m pre).length ≤ n ^ m
  | 0, pre => by simp [putL]
  | m + 1, pre => by
    rw [putL, List.length_flatMap]
    have h := sum_le (fun x : Nat => (if okN reach a pre (x : Int) = true then putL n reach a m (pre ++ [(x : Int)]) else []).length) (n ^ m) (List.range n) (fun x _ => by
      split
      · exact putL_len m _
      · exact Nat.zero_le _)
    rw [List.length_range] at h
    rw [Nat.pow_succ, Nat.mul_comm]
    exact h
theorem nxS_len {c : Channel} (r : Right c) (s : State) : (nxS c s).length ≤ 1000 := by
  have hc := r.cells
  have hf := r.fords
  unfold nxS nextL
  rw [List.length_map]
  refine Nat.le_trans (putL_len _ _) ?_
  have h1 : c.cells.toNat ^ (c.fords.length : Int).toNat ≤ 10 ^ (c.fords.length : Int).toNat := Nat.pow_le_pow_left (by omega) _
  have h2 : 10 ^ (c.fords.length : Int).toNat ≤ 10 ^ 3 := Nat.pow_le_pow_right (by omega) (by omega)
  omega
theorem nxS_mem {c : Channel} (r : Right c) {s t : State} : t ∈ nxS c s ↔ ∃ l, CanS c.cells (rchL c) c.fords.length s.at_ l ∧ t = ⟨s.after + 1, mkCells l⟩ := by
  have hc := r.cells
  unfold nxS
  rw [mem_nextL (by omega), Int.toNat_natCast]
theorem row_of_can {c : Channel} {a : Cells} {l : List Int} (h : CanS c.cells (rchL c) c.fords.length a l) : rowB c l = true := by
  rw [rowB_iff]
  refine ⟨h.len, upB_ix.2 fun i hi => h.up i (by rw [← h.len]; exact hi), fun x hx => ?_⟩
  obtain ⟨i, hi, rfl⟩ := List.getElem_of_mem hx
  have := h.inC i (by rw [← h.len]; exact hi)
  simpa [List.getD_eq_getElem?_getD, hi] using this
theorem nxS_V {c : Channel} (r : Right c) {s t : State} (hs : VS c s) (hl : s.after < c.tides) (ht : t ∈ nxS c s) : VS c t ∧ t.after = s.after + 1 := by
  obtain ⟨l, h1, rfl⟩ := (nxS_mem r).1 ht
  obtain ⟨_, h2, h3⟩ := hs
  exact ⟨⟨⟨l, row_of_can h1, rfl⟩, by simp only; omega, by simp only; omega⟩, rfl⟩
theorem nxS_nodup {c : Channel} (r : Right c) (s : State) : (nxS c s).Nodup := nextL_nodup (by have := r.fords; omega)
theorem VS_next {c : Channel} (r : Right c) {s : State} (h : VS c s) : nextOK c.cells (rchL c) (c.fords.length : Int) s := by
  obtain ⟨⟨l, h1, h2⟩, h3, h4⟩ := h
  have ht := r.tides
  obtain ⟨k, a⟩ := s
  simp only at h2 h3 h4
  subst h2
  exact nextOK_of r h1 (by omega)
def MR (c : Channel) (fu : Nat) (s : State) (ml : ML) : Option (Int × ML) := (jR fu s ml c.cells c.tides c.fords c.sands c.sights (rchL c)).map fun q => (q.r0, q.a11)
theorem restEq_all {c : Channel} (r : Right c) : RestEq (MR c) (VS c) (agS (fun _ => true) c) (nxS c) c.tides where
  eq fu s ml hV := by
    have hf := r.fords
    have hs := r.sights
    unfold MR
    rw [jR]
    unfold yJ
    by_cases h1 : (aget ml s).isSome = true
    · rw [if_pos h1, if_pos h1]; rfl
    · rw [if_neg h1, if_neg h1, ja1 (by omega) (by omega), Option.bind_some, not_true_if]
      show _ = if agS (fun _ => true) c s = true then _ else _
      unfold agS
      by_cases h2 : agP (fun _ => true) c.sights s.after (clS c.fords.length s) = true
      · rw [if_pos h2, if_pos h2]
        by_cases h3 : s.after = c.tides
        · rw [if_pos h3, if_pos h3]; rfl
        · rw [if_neg h3, if_neg h3]
          unfold ky
          rw [Option.bind_some, if_pos (VS_next r hV)]
          have hp := iterL_pair (fun q : kJ => (q.n9, q.a11)) (f := qm (jR fu) c.cells c.tides c.fords c.sands c.sights (rchL c)) (f' := fR (MR c fu)) (fun x q => by
            unfold qm fR MR
            cases jR fu x q.a11 c.cells c.tides c.fords c.sands c.sights (rchL c) with
            | none => rfl
            | some q' =>
              simp only [Option.bind_some, Option.map_some]
              cases addc q.n9 q'.r0 <;> rfl) (nxS c s) ⟨0, ml⟩
          simp only at hp
          show _ = (iterL (fR (MR c fu)) (nxS c s) (0, ml)).bind _
          rw [← hp]
          unfold nxS
          cases iterL (qm (jR fu) c.cells c.tides c.fords c.sands c.sights (rchL c)) (nextL c.cells (rchL c) (c.fords.length : Int) s) ⟨0, ml⟩ <;> rfl
      · rw [if_neg h2, if_neg h2]; rfl
  nxV s t hs hl ht := nxS_V r hs hl ht
  le s hs := hs.2.2
  len s := nxS_len r s
def first (c : Channel) : State := ⟨0, mkCells c.fords⟩
theorem first_V {c : Channel} (r : Right c) : VS c (first c) := ⟨⟨c.fords, rowB_iff.2 ⟨rfl, r.up, r.fcell⟩, rfl⟩, Int.le_refl _, r.tides.1⟩
theorem jbo {c : Channel} (r : Right c) : ∃ ml, qO c.cells c.tides c.fords c.sands c.sights (rchL c) = some ml ∧ Sound (nxS c) (agS (fun _ => true) c) c.tides ml ∧ Closed (nxS c) (agS (fun _ => true) c) c.tides ml ∧ (aget ml (first c)).isSome = true := by
  have hf := r.fords
  have ht := r.tides
  unfold qO
  rw [Y8 (by omega), Option.bind_some]
  obtain ⟨ml, e, s1, c1, _, i1⟩ := rest_spec (restEq_all r) ht (c.tides - (first c).after).toNat FU (first c) [] (first_V r) (Int.le_refl _) rfl (by unfold first FU; simp only; omega) (fun x v hx => by simp [aget, afind] at hx) (fun x hx => by simp [aget, afind] at hx)
  unfold MR at e
  rw [Option.map_eq_some_iff] at e
  obtain ⟨q, e1, e2⟩ := e
  simp only [Prod.mk.injEq] at e2
  refine ⟨ml, ?_, s1, c1, i1⟩
  show (jR FU (first c) [] c.cells c.tides c.fords c.sands c.sights (rchL c)).bind _ = _
  rw [e1, Option.bind_some, e2.2]
def cntS (cnt : Nat → Bool) (c : Channel) : Nat := R (nxS c) (agS cnt c) c.tides.toNat (first c)
end Go.Proofs.Wb

namespace Go.Proofs.Wb
open Go Go.Fw Go.Gx Go.Sb
set_option linter.unusedVariables false
set_option maxRecDepth 100000
def sumN {α : Type} (l : List α) (f : α → Nat) : Nat := (l.map f).sum
theorem sumN_nil {α : Type} (f : α → Nat) : sumN [] f = 0 := rfl
theorem sumN_cons {α : Type} (x : α) (l : List α) (f : α → Nat) : sumN (x :: l) f = f x + sumN l f := by unfold sumN; rw [List.map_cons, List.sum_cons]
theorem sumN_append {α : Type} (l m : List α) (f : α → Nat) : sumN (l ++ m) f = sumN l f + sumN m f := by unfold sumN; rw [List.map_append, List.sum_append]
theorem sumN_congr {α : Type} {l : List α} {f g : α → Nat} (h : ∀ x ∈ l, f x = g x) : sumN l f = sumN l g := by unfold sumN; rw [List.map_congr_left h]
theorem sumN_zero {α : Type} {l : List α} {f : α → Nat} (h : ∀ x ∈ l, f x = 0) : sumN l f = 0 := by
  induction l with
  | nil => rfl
  | cons x l ih => rw [sumN_cons, h x List.mem_cons_self, ih (fun y hy => h y (List.mem_cons_of_mem _ hy))]
theorem sumN_add {α : Type} (l : List α) (f g : α → Nat) : sumN l (fun x => f x + g x) = sumN l f + sumN l g := by
  induction l with
  | nil => rfl
  | cons x l ih => rw [sumN_cons, sumN_cons, sumN_cons, ih]; omega
theorem sumN_mul {α : Type} (l : List α) (f : α → Nat) (k : Nat) : sumN l (fun x => f x * k) = sumN l f * k := by
  induction l with
  | nil => simp [sumN]
  | cons x l ih => rw [sumN_cons, sumN_cons, ih, Nat.add_mul]
theorem sumN_mul' {α : Type} (l : List α) (f : α → Nat) (k : Nat) : sumN l (fun x => k * f x) = k * sumN l f := by
  induction l with
  | nil => simp [sumN]
  | cons x l ih => rw [sumN_cons, sumN_cons, ih, Nat.mul_add]
theorem sumN_comm {α β : Type} (l : List α) (m : List β) (f : α → β → Nat) : sumN l (fun x => sumN m fun y => f x y) = sumN m fun y => sumN l fun x => f x y := by
  induction l with
  | nil => rw [sumN_nil, sumN_zero (fun y _ => sumN_nil _)]
  | cons x l ih =>
    rw [sumN_cons, ih, ← sumN_add]
    refine sumN_congr fun y _ => ?_
    rw [sumN_cons]
theorem sumN_pos {α : Type} {l : List α} {f : α → Nat} : 0 < sumN l f ↔ ∃ x ∈ l, 0 < f x := by
  induction l with
  | nil => simp [sumN]
  | cons x l ih =>
    rw [sumN_cons]
    constructor
    · intro h
      by_cases hx : 0 < f x
      · exact ⟨x, List.mem_cons_self, hx⟩
      · obtain ⟨y, hy, h2⟩ := ih.1 (by omega)
        exact ⟨y, List.mem_cons_of_mem _ hy, h2⟩
    · rintro ⟨y, hy, h⟩
      rcases List.mem_cons.1 hy with rfl | hy
      · omega
      · have := ih.2 ⟨y, hy, h⟩; omega
theorem sumN_perm {α : Type} {l m : List α} (h : l.Perm m) (f : α → Nat) : sumN l f = sumN m f := by
  unfold sumN
  exact (h.map f).sum_nat
theorem sumN_map {α β : Type} (l : List α) (g : α → β) (f : β → Nat) : sumN (l.map g) f = sumN l fun x => f (g x) := by unfold sumN; rw [List.map_map]; rfl
theorem sumN_filter {α : Type} (l : List α) (p : α → Bool) (f : α → Nat) : sumN (l.filter p) f = sumN l fun x => if p x = true then f x else 0 := by
  induction l with
  | nil => rfl
  | cons x l ih =>
    rw [List.filter_cons, sumN_cons, ← ih]
    split
    · rw [sumN_cons]
    · rw [Nat.zero_add]
theorem sumN_one {α : Type} [DecidableEq α] {l : List α} (hn : l.Nodup) {a : α} (ha : a ∈ l) (k : Nat) : sumN l (fun x => if x = a then k else 0) = k := by
  induction l with
  | nil => cases ha
  | cons x l ih =>
    obtain ⟨h1, h2⟩ := List.nodup_cons.1 hn
    rw [sumN_cons]
    by_cases hx : x = a
    · subst hx
      rw [if_pos rfl, sumN_zero (fun y hy => if_neg (fun e : y = x => h1 (e ▸ hy)))]
      rfl
    · rw [if_neg hx, ih h2 ((List.mem_cons.1 ha).resolve_left (fun e => hx e.symm)), Nat.zero_add]
def incL (below : Nat) : Nat → Nat → List (List Int)
  | 0, _ => [[]]
  | m + 1, fr => (List.range (below - fr)).flatMap fun d => (incL below m (fr + d + 1)).map (((fr + d : Nat) : Int) :: ·)
theorem mem_incL {below : Nat} : ∀ (m fr : Nat) (l : List Int), l ∈ incL below m fr ↔ l.length = m ∧ upB l = true ∧ ∀ x ∈ l, (fr : Int) ≤ x ∧ x < (below : Int)
  | 0, fr, l => by
    rw [incL, List.mem_singleton]
    constructor
    · rintro rfl; exact ⟨rfl, rfl, fun x hx => by cases hx⟩
    · rintro ⟨h, _⟩; exact List.length_eq_zero_iff.1 h
  | m + 1, fr, l => by
    rw [incL]
    simp only [List.mem_flatMap, List.mem_range, List.mem_map]
    constructor
    · rintro ⟨d, hd, v, hv, rfl⟩
      obtain ⟨h1, h2, h3⟩ := (mem_incL m _ v).1 hv
      refine ⟨by simp [h1], ?_, fun x hx => ?_⟩
      · rw [upB_iff, List.pairwise_cons]
        exact ⟨fun y hy => by have := h3 y hy; push_cast at this ⊢; omega, upB_iff.1 h2⟩
      · rcases List.mem_cons.1 hx with rfl | hx
        · push_cast; omega
        · have := h3 x hx; push_cast at this; omega
    · rintro ⟨h1, h2, h3⟩
      cases l with
      | nil => simp at h1
      | cons y v =>
        have hy := h3 y List.mem_cons_self
        obtain ⟨q1, q2⟩ := List.pairwise_cons.1 (upB_iff.1 h2)
        refine ⟨y.toNat - fr, by omega, v, (mem_incL m _ v).2 ⟨by simpa using h1, upB_iff.2 q2, fun x hx => ?_⟩, ?_⟩
        · have a := q1 x hx
          have b := h3 x (List.mem_cons_of_mem _ hx)
          push_cast
          omega
        · congr 1
          omega
theorem incL_nodup {below : Nat} : ∀ (m fr : Nat), (incL below m fr).Nodup
  | 0, fr => by simp [incL]
  | m + 1, fr => by
    rw [incL]
    refine nodup_flatMap' List.nodup_range (fun d _ => nodup_map' (incL_nodup m _) (fun a _ b _ h => by simpa using h)) ?_
    intro d _ e _ w h1 h2
    obtain ⟨v, _, rfl⟩ := List.mem_map.1 h1
    obtain ⟨v', _, he⟩ := List.mem_map.1 h2
    injection he with he _
    omega
theorem incL_len {below : Nat} : ∀ (m fr : Nat), (incL below m fr).length ≤ below ^ m
  | 0, fr => by simp [incL]
  | m + 1, fr => by
    rw [incL, List.length_flatMap]
    have h := sum_le (fun d => ((incL below m (fr + d + 1)).map (((fr + d : Nat) : Int) :: ·)).length) (below ^ m) (List.range (below - fr)) (fun d _ => by rw [List.length_map]; exact incL_len m _)
    rw [List.length_range] at h
    have h2 := Nat.mul_le_mul_right (below ^ m) (show below - fr ≤ below by omega)
    rw [Nat.pow_succ, Nat.mul_comm]
    omega
def LL (c : Channel) : List (List Int) := incL c.cells.toNat c.fords.length 0
theorem mem_LL {c : Channel} (hc : 0 ≤ c.cells) {l : List Int} : l ∈ LL c ↔ rowB c l = true := by
  unfold LL
  rw [mem_incL, rowB_iff]
  constructor
  · rintro ⟨h1, h2, h3⟩; exact ⟨h1, h2, fun x hx => by have := h3 x hx; push_cast at this; omega⟩
  · rintro ⟨h1, h2, h3⟩; exact ⟨h1, h2, fun x hx => by have := h3 x hx; push_cast; omega⟩
theorem LL_nodup (c : Channel) : (LL c).Nodup := incL_nodup _ _
theorem LL_len {c : Channel} (r : Right c) : (LL c).length ≤ 1000 := by
  have hc := r.cells
  have hf := r.fords
  refine Nat.le_trans (incL_len _ _) ?_
  have h1 : c.cells.toNat ^ c.fords.length ≤ 10 ^ c.fords.length := Nat.pow_le_pow_left (by omega) _
  have h2 : 10 ^ c.fords.length ≤ 10 ^ 3 := Nat.pow_le_pow_right (by omega) (by omega)
  omega
def stL (k : Nat) (l : List Int) : State := ⟨(k : Int), mkCells l⟩
theorem nxS_perm {c : Channel} (r : Right c) {k : Nat} {a : List Int} (ha : rowB c a = true) : (nxS c (stL k a)).Perm (((LL c).filter fun l => canB c.sands a l).map (stL (k + 1))) := by
  have hc := r.cells
  have hf := r.fords
  refine (List.perm_ext_iff_of_nodup (nxS_nodup r _) (nodup_map' ((LL_nodup c).filter _) (fun x hx y hy h => ?_))).2 (fun t => ?_)
  · have hx' := (rowB_iff.1 ((mem_LL (by omega)).1 (List.mem_filter.1 hx).1)).1
    have hy' := (rowB_iff.1 ((mem_LL (by omega)).1 (List.mem_filter.1 hy).1)).1
    simp only [stL, State.mk.injEq, true_and] at h
    exact mkCells_inj (by omega) (by omega) h
  · rw [nxS_mem r, List.mem_map]
    constructor
    · rintro ⟨l, h, rfl⟩
      have hr := row_of_can h
      exact ⟨l, List.mem_filter.2 ⟨(mem_LL (by omega)).2 hr, (can_iff r ha hr).2 h⟩, by simp [stL]⟩
    · rintro ⟨l, h, rfl⟩
      obtain ⟨h1, h2⟩ := List.mem_filter.1 h
      exact ⟨l, (can_iff r ha ((mem_LL (by omega)).1 h1)).1 h2, by simp [stL]⟩
def FcL (cnt : Nat → Bool) (c : Channel) : Nat → List Int → Nat
  | 0, l => if agP cnt c.sights 0 l = true ∧ l = c.fords then 1 else 0
  | k + 1, l => if agP cnt c.sights ((k + 1 : Nat) : Int) l = true then sumN (LL c) fun a => if canB c.sands a l = true then FcL cnt c k a else 0 else 0
theorem agS_stL {cnt : Nat → Bool} {c : Channel} (r : Right c) {k : Nat} {l : List Int} (h : rowB c l = true) : agS cnt c (stL k l) = agP cnt c.sights (k : Int) l := by
  have hf := r.fords
  have h1 := (rowB_iff.1 h).1
  unfold agS stL
  simp only
  rw [← h1, clS_mk (by omega)]
theorem R_stL {cnt : Nat → Bool} {c : Channel} (r : Right c) {j k : Nat} {a : List Int} (ha : rowB c a = true) : R (nxS c) (agS cnt c) (j + 1) (stL k a) = if agP cnt c.sights (k : Int) a = true then sumN (LL c) fun l => if canB c.sands a l = true then R (nxS c) (agS cnt c) j (stL (k + 1) l) else 0 else 0 := by
  rw [R, agS_stL r ha]
  by_cases h : agP cnt c.sights (k : Int) a = true
  · rw [if_pos h, if_pos h]
    show sumN (nxS c (stL k a)) _ = _
    rw [sumN_perm (nxS_perm r ha), sumN_map, sumN_filter]
  · rw [if_neg h, if_neg h]
theorem FcL_ag {cnt : Nat → Bool} {c : Channel} {k : Nat} {l : List Int} (h : ¬ agP cnt c.sights (k : Int) l = true) : FcL cnt c k l = 0 := by
  cases k with
  | zero => rw [FcL, if_neg (fun q => h q.1)]
  | succ k => rw [FcL, if_neg h]
theorem FcL_sum {cnt : Nat → Bool} {c : Channel} (r : Right c) : ∀ (k j : Nat), sumN (LL c) (fun l => FcL cnt c k l * R (nxS c) (agS cnt c) j (stL k l)) = R (nxS c) (agS cnt c) (k + j) (first c)
  | 0, j => by
    have hc := r.cells
    have hfr : rowB c c.fords = true := rowB_iff.2 ⟨rfl, r.up, r.fcell⟩
    have e : sumN (LL c) (fun l => FcL cnt c 0 l * R (nxS c) (agS cnt c) j (stL 0 l)) = sumN (LL c) (fun l => if l = c.fords then R (nxS c) (agS cnt c) j (first c) else 0) := by
      refine sumN_congr fun l hl => ?_
      by_cases h : l = c.fords
      · subst h
        rw [if_pos rfl, FcL]
        by_cases h2 : agP cnt c.sights 0 c.fords = true
        · rw [if_pos ⟨h2, rfl⟩, Nat.one_mul]; rfl
        · rw [if_neg (fun q => h2 q.1), Nat.zero_mul]
          have h3 : ¬ 0 < R (nxS c) (agS cnt c) j (first c) := fun q => by
            have := R_ag q
            rw [show first c = stL 0 c.fords from rfl, agS_stL r hfr] at this
            exact h2 this
          omega
      · rw [if_neg h, FcL, if_neg (fun q => h q.2), Nat.zero_mul]
    rw [e, sumN_one (LL_nodup c) ((mem_LL (by omega)).2 hfr), Nat.zero_add]
  | k + 1, j => by
    have hc := r.cells
    have ih := FcL_sum (cnt := cnt) r k (j + 1)
    rw [show k + 1 + j = k + (j + 1) by omega, ← ih]
    have e1 : sumN (LL c) (fun l => FcL cnt c (k + 1) l * R (nxS c) (agS cnt c) j (stL (k + 1) l)) = sumN (LL c) (fun l => sumN (LL c) fun a => (if canB c.sands a l = true then FcL cnt c k a else 0) * R (nxS c) (agS cnt c) j (stL (k + 1) l)) := by
      refine sumN_congr fun l hl => ?_
      rw [sumN_mul, FcL]
      by_cases h : agP cnt c.sights ((k + 1 : Nat) : Int) l = true
      · rw [if_pos h]
      · rw [if_neg h, Nat.zero_mul]
        have h3 : ¬ 0 < R (nxS c) (agS cnt c) j (stL (k + 1) l) := fun q => by
          have := R_ag q
          rw [agS_stL r ((mem_LL (by omega)).1 hl)] at this
          exact h this
        rw [Nat.eq_zero_of_not_pos h3, Nat.mul_zero]
    rw [e1, sumN_comm]
    refine sumN_congr fun a ha => ?_
    rw [R_stL r ((mem_LL (by omega)).1 ha)]
    by_cases h : agP cnt c.sights (k : Int) a = true
    · rw [if_pos h, ← sumN_mul']
      refine sumN_congr fun l _ => ?_
      split
      · rfl
      · rw [Nat.zero_mul, Nat.mul_zero]
    · rw [if_neg h, Nat.mul_zero]
      refine sumN_zero fun l _ => ?_
      rw [FcL_ag h]
      split <;> rw [Nat.zero_mul]
end Go.Proofs.Wb

namespace Go.Proofs.Wb
open Go Go.Fw Go.Gx Go.Sb
set_option linter.unusedVariables false
set_option maxRecDepth 100000
def outL (b m fr j : Nat) : List (List Int) := (List.range j).flatMap fun d => (incL b m (fr + d + 1)).map (((fr + d : Nat) : Int) :: ·)
theorem outL_succ {b m fr j : Nat} : outL b m fr (j + 1) = outL b m fr j ++ (incL b m (fr + j + 1)).map (((fr + j : Nat) : Int) :: ·) := by
  unfold outL
  rw [List.range_succ, List.flatMap_append]
  simp
theorem outL_len {b m fr j : Nat} : (outL b m fr j).length ≤ j * b ^ m := by
  unfold outL
  rw [List.length_flatMap]
  have h := sum_le (fun d => ((incL b m (fr + d + 1)).map (((fr + d : Nat) : Int) :: ·)).length) (b ^ m) (List.range j) (fun d _ => by rw [List.length_map]; exact incL_len m _)
  rw [List.length_range] at h
  exact h
theorem lists_L1 {l : List (List Int)} (out : List (List Int)) (n : Int) (h : out.length + l.length ≤ 1000000) (hl : ∀ x ∈ l, x.length ≤ 100) : iterM FU (qw l ⟨n, out⟩) ⟨0, out⟩ = some (out ++ l.map (n :: ·)) := by
  have key := iterM_run (f := qw l ⟨n, out⟩) (fun j => ⟨(j : Int), out ++ (l.take j).map (n :: ·)⟩) l.length (b := out ++ l.map (n :: ·)) (fun j hj => ?_) ?_ FU (FU_lt (by omega))
  · simpa using key
  · have e : l.take (j + 1) = l.take j ++ [l[j]] := by rw [List.take_append_getElem]
    have hx : l.getD j default = l[j] := by simp [List.getD_eq_getElem?_getD, hj]
    have := hl l[j] (List.getElem_mem hj)
    unfold qw
    simp only
    rw [if_pos (by omega), ix_nat default hj, Option.bind_some, hx, appc_eq (by simp; omega), Option.bind_some, appc_eq (by simp; omega), Option.bind_some, addc_eq (by omega), Option.bind_some, e, List.map_append, ← List.append_assoc]
    rfl
  · unfold qw
    simp only
    rw [if_neg (by omega), List.take_length]
theorem jay {b : Nat} (hb : b ≤ 10) : ∀ (m fu fr : Nat), m ≤ 3 → m < fu → fr ≤ 100 → kL fu (m : Int) (fr : Int) (b : Int) = some (incL b m fr)
  | m, 0, fr, _, h, _ => absurd h (by omega)
  | 0, fu + 1, fr, _, _, _ => rfl
  | m + 1, fu + 1, fr, hm, hf, hr => by
    rw [kL]
    unfold zV
    rw [if_neg (by omega)]
    have hpw : b ^ m ≤ 10 ^ m := Nat.pow_le_pow_left hb m
    have hpw2 : 10 ^ m ≤ 10 ^ 2 := Nat.pow_le_pow_right (by omega) (by omega)
    have key := iterM_run (f := qs (b : Int) ((m + 1 : Nat) : Int) (kL fu)) (fun j => ⟨((fr + j : Nat) : Int), outL b m fr j⟩) (b - fr) (b := incL b (m + 1) fr) (fun j hj => ?_) ?_ FU (FU_lt (by omega))
    · show (iterM FU (qs (b : Int) ((m + 1 : Nat) : Int) (kL fu)) ⟨((fr + 0 : Nat) : Int), outL b m fr 0⟩).bind _ = _
      rw [key]; rfl
    · have h1 := outL_len (b := b) (m := m) (fr := fr) (j := j)
      have h2 := Nat.mul_le_mul_left j (Nat.le_trans hpw hpw2)
      have h3 := incL_len (below := b) m (fr + j + 1)
      unfold qs
      simp only
      rw [if_pos (by omega), subc_eq (by omega), Option.bind_some, addc_eq (by omega), Option.bind_some, show ((m + 1 : Nat) : Int) - 1 = (m : Int) by omega, show ((fr + j : Nat) : Int) + 1 = ((fr + j + 1 : Nat) : Int) by omega, jay hb m fu (fr + j + 1) (by omega) (by omega) (by omega), Option.bind_some, lists_L1 (outL b m fr j) _ (by omega) (fun x hx => by have := ((mem_incL _ _ _).1 hx).1; omega), Option.bind_some, Option.bind_some, outL_succ]
      congr 3
    · unfold qs
      simp only
      rw [if_neg (by omega)]
      rfl
theorem jbr {c : Channel} (r : Right c) : zw c = some (LL c) := by
  have hc := r.cells
  have hf := r.fords
  unfold zw
  have h := jay (b := c.cells.toNat) (by omega) c.fords.length FU 0 (by omega) (by unfold FU; omega) (by omega)
  rw [show ((c.cells.toNat : Nat) : Int) = c.cells by omega] at h
  rw [show (0 : Int) = ((0 : Nat) : Int) from rfl, h]
  rfl
theorem FcL_le {cnt : Nat → Bool} {c : Channel} (r : Right c) : ∀ k l, FcL cnt c k l ≤ 1000 ^ k
  | 0, l => by rw [FcL]; split <;> simp
  | k + 1, l => by
    rw [FcL]
    split
    · have h1 := sum_le (fun a => if canB c.sands a l = true then FcL cnt c k a else 0) (1000 ^ k) (LL c) (fun a _ => by
        split
        · exact FcL_le r k a
        · exact Nat.zero_le _)
      have h2 := Nat.mul_le_mul_right (1000 ^ k) (LL_len r)
      unfold sumN
      rw [Nat.pow_succ, Nat.mul_comm]
      omega
    · exact Nat.zero_le _
theorem FcL_bnd {cnt : Nat → Bool} {c : Channel} (r : Right c) {k : Nat} (hk : k ≤ 4) (l : List Int) : FcL cnt c k l ≤ 1000000000000 := by
  have h := FcL_le (cnt := cnt) r k l
  have h2 : (1000 : Nat) ^ k ≤ 1000 ^ 4 := Nat.pow_le_pow_right (by omega) hk
  have e4 : (1000 : Nat) ^ 4 = 1000000000000 := by decide
  omega
def li (c : Channel) (i : Nat) : List Int := (LL c).getD i []
theorem li_row {c : Channel} (r : Right c) {i : Nat} (h : i < (LL c).length) : rowB c (li c i) = true := by
  have hc := r.cells
  refine (mem_LL (by omega)).1 ?_
  unfold li
  rw [List.getD_eq_getElem?_getD, List.getElem?_eq_getElem h]
  exact List.getElem_mem h
theorem sumN_li {c : Channel} (f : List Int → Nat) : sumN (LL c) f = sumN (List.range (LL c).length) fun i => f (li c i) := by
  rw [show (fun i => f (li c i)) = fun i => f ((LL c).getD i []) from rfl, ← sumN_map (List.range (LL c).length) (fun i => (LL c).getD i []) f, range_getD]
theorem sumN_range_succ (f : Nat → Nat) (n : Nat) : sumN (List.range (n + 1)) f = sumN (List.range n) f + f n := by
  rw [List.range_succ, sumN_append]; simp [sumN]
theorem sumN_range_le (f : Nat → Nat) (B n : Nat) (h : ∀ i, f i ≤ B) : sumN (List.range n) f ≤ n * B := by
  have := sum_le f B (List.range n) (fun x _ => h x)
  rw [List.length_range] at this
  exact this
def rowZ (cnt : Nat → Bool) (c : Channel) (k : Nat) : List Int := (List.range (LL c).length).map fun i : Nat => (FcL cnt c k (li c i) : Int)
def rowT (n b : Nat) (g : Nat → Int) (v : Int) : List Int := (List.range n).map fun i : Nat => if i < b then g i else if i = b then v else 0
theorem rowT_set {n b : Nat} {g : Nat → Int} {v u : Int} : (rowT n b g v).set b u = rowT n b g u := by
  unfold rowT
  rw [range_set]
  apply List.map_congr_left
  intro i _
  by_cases h : i = b
  · subst h; simp
  · rw [if_neg h]
    by_cases h2 : i < b
    · rw [if_pos h2, if_pos h2]
    · rw [if_neg h2, if_neg h2, if_neg h, if_neg h]
theorem rowT_ix {n b : Nat} {g : Nat → Int} {v : Int} (h : b < n) : ix (rowT n b g v) (b : Int) = some v := by
  unfold rowT
  rw [range_ix h, if_neg (by omega), if_pos rfl]
theorem rowT_next {n b : Nat} {g : Nat → Int} : rowT n b g (g b) = rowT n (b + 1) g 0 := by
  unfold rowT
  apply List.map_congr_left
  intro i _
  by_cases h : i < b
  · rw [if_pos h, if_pos (by omega)]
  · by_cases h2 : i = b
    · subst h2; rw [if_neg h, if_pos rfl, if_pos (by omega)]
    · rw [if_neg h, if_neg h2, if_neg (by omega)]
      split <;> rfl
theorem come_L2 {cnt : Nat → Bool} {c : Channel} (r : Right c) {k b : Nat} (hk : k + 1 ≤ 4) (hb : b < (LL c).length) (g : Nat → Int) (out : List (List Int)) (ho : ix out (k : Int) = some (rowZ cnt c k)) (t0 : List Int) :
    iterM FU (kC (LL c) ⟨((k + 1 : Nat) : Int), out⟩ ⟨(b : Int), t0⟩ c) ⟨0, rowT (LL c).length b g 0⟩ = some (rowT (LL c).length b g (sumN (LL c) fun a => if canB c.sands a (li c b) = true then FcL cnt c k a else 0 : Nat)) := by
  have hc := r.cells
  have hf := r.fords
  have hs := r.sands
  have hLL := LL_len r
  have hbb := fun i => FcL_bnd (cnt := cnt) r (show k ≤ 4 by omega) (li c i)
  have key := iterM_run (f := kC (LL c) ⟨((k + 1 : Nat) : Int), out⟩ ⟨(b : Int), t0⟩ c) (fun a => ⟨(a : Int), rowT (LL c).length b g ((sumN (List.range a) fun i => if canB c.sands (li c i) (li c b) = true then FcL cnt c k (li c i) else 0 : Nat) : Int)⟩) (LL c).length (b := rowT (LL c).length b g (sumN (LL c) fun a => if canB c.sands a (li c b) = true then FcL cnt c k a else 0 : Nat)) (fun a ha => ?_) ?_ FU (FU_lt (by omega))
  · exact key
  · have hra := rowB_iff.1 (li_row r ha)
    have hrb := rowB_iff.1 (li_row r hb)
    have hsum := sumN_range_le (fun i => if canB c.sands (li c i) (li c b) = true then FcL cnt c k (li c i) else 0) 1000000000000 a (fun i => by
      split
      · exact hbb i
      · omega)
    have hm := Nat.mul_le_mul_right 1000000000000 (show a ≤ 1000 by omega)
    have hcan := jbZ (c := c) (by omega) r.reach (a := li c a) (b := li c b) (by omega) (by omega) (fun x hx => by have := hra.2.2 x hx; omega)
    have hzi : ix (rowZ cnt c k) (a : Int) = some (FcL cnt c k (li c a) : Int) := by unfold rowZ; rw [range_ix ha]
    have hba := hbb a
    unfold kC
    simp only
    rw [if_pos (by omega), Option.bind_some, if_pos (by rw [decide_eq_true_eq]; omega), subc_eq (by omega), Option.bind_some, show ((k + 1 : Nat) : Int) - 1 = (k : Int) by omega, ho, Option.bind_some, hzi, Option.bind_some]
    rw [sumN_range_succ]
    have hxa : (LL c).getD a [] = li c a := rfl
    have hxb : (LL c).getD b [] = li c b := rfl
    by_cases h0 : 0 < FcL cnt c k (li c a)
    · rw [if_pos (by omega), ix_nat [] ha, Option.bind_some, ix_nat [] hb, Option.bind_some, hxa, hxb, hcan, Option.bind_some, Option.bind_some]
      by_cases h1 : canB c.sands (li c a) (li c b) = true
      · rw [if_pos h1, if_pos h1, rowT_ix hb, Option.bind_some, Option.bind_some, ho, Option.bind_some, hzi, Option.bind_some, addc_eq (by omega), Option.bind_some, Option.bind_some, Option.bind_some, Option.bind_some, Int.toNat_natCast, rowT_set, addc_eq (by omega), Option.bind_some]
        congr 3
      · rw [if_neg h1, if_neg h1, Option.bind_some, addc_eq (by omega), Option.bind_some, Nat.add_zero]
        congr 3
    · rw [if_neg (by omega), Option.bind_some, if_neg (by decide), Option.bind_some, addc_eq (by omega), Option.bind_some]
      have e0 : FcL cnt c k (li c a) = 0 := by omega
      rw [e0]
      split <;> rfl
  · unfold kC
    simp only
    rw [if_neg (by omega), Option.bind_some, if_neg (by decide), sumN_li]
theorem come_L1 {c : Channel} (r : Right c) {n : Nat} (hn : n ≤ 1000000000000) {k : Nat} (hk : k ≤ 4) (out : List (List Int)) (ho : ∀ j, j + 1 = k → ix out (j : Int) = some (rowZ (bitN n) c j)) :
    iterM FU (qP (LL c) c ⟨(k : Int), out⟩ (n : Int)) ⟨0, rowT (LL c).length 0 (fun i => (FcL (bitN n) c k (li c i) : Int)) 0⟩ = some (rowZ (bitN n) c k) := by
  have hc := r.cells
  have hf := r.fords
  have hs := r.sights
  have hLL := LL_len r
  have key := iterM_run (f := qP (LL c) c ⟨(k : Int), out⟩ (n : Int)) (fun b => ⟨(b : Int), rowT (LL c).length b (fun i => (FcL (bitN n) c k (li c i) : Int)) 0⟩) (LL c).length (b := rowZ (bitN n) c k) (fun b hb => ?_) ?_ FU (FU_lt (by omega))
  · exact key
  · have hrb := rowB_iff.1 (li_row r hb)
    have hxb : (LL c).getD b [] = li c b := rfl
    unfold qP
    simp only
    rw [if_pos (by omega), ix_nat [] hb, Option.bind_some, hxb, refAgrees_eq (by omega) (by omega) _ _ hn, Option.bind_some, addc_eq (by omega), ← rowT_next]
    by_cases hag : agP (bitN n) c.sights (k : Int) (li c b) = true
    · rw [if_neg (by simp [hag])]
      cases k with
      | zero =>
        have hend : ∀ T : List Int, iterM FU (kC (LL c) ⟨((0 : Nat) : Int), out⟩ ⟨(b : Int), rowT (LL c).length b (fun i => (FcL (bitN n) c 0 (li c i) : Int)) 0⟩ c) ⟨0, T⟩ = some T := by
          intro T
          obtain ⟨N, hN⟩ : ∃ N, FU = N + 1 := ⟨FU - 1, by unfold FU; rfl⟩
          rw [hN, iterM_done]
          unfold kC
          simp only
          split
          · rw [Option.bind_some, if_neg (by simp)]
          · rw [Option.bind_some, if_neg (by simp)]
        rw [if_pos (show ((0 : Nat) : Int) = 0 from rfl), Option.bind_some, jaU (by omega), Option.bind_some, Option.bind_some]
        by_cases he : li c b = c.fords
        · rw [if_pos (by simpa using he), rowT_ix hb, Option.bind_some, Option.bind_some, Option.bind_some, Int.toNat_natCast, rowT_set, hend, Option.bind_some, Option.bind_some, Option.bind_some]
          congr 3
          rw [FcL, if_pos ⟨hag, he⟩]
          rfl
        · rw [if_neg (by simpa using he), Option.bind_some, hend, Option.bind_some, Option.bind_some, Option.bind_some]
          congr 3
          rw [FcL, if_neg (fun q => he q.2)]
          rfl
      | succ k =>
        rw [if_neg (by omega), Option.bind_some, if_neg (by decide), Option.bind_some, come_L2 (cnt := bitN n) r hk hb _ out (ho k rfl), Option.bind_some, Option.bind_some, Option.bind_some]
        congr 3
        rw [FcL, if_pos hag]
    · rw [if_pos (by simpa using hag), Option.bind_some, Option.bind_some]
      congr 3
      rw [FcL_ag hag]
      rfl
  · unfold qP
    simp only
    rw [if_neg (by omega)]
    congr 2
    unfold rowT rowZ
    apply List.map_congr_left
    intro i hi
    rw [if_pos (by simpa using hi)]
theorem jbE {c : Channel} (r : Right c) {n : Nat} (hn : n ≤ 1000000000000) : z8 c (n : Int) = some ((List.range (c.tides.toNat + 1)).map (rowZ (bitN n) c)) := by
  have ht := r.tides
  have hLL := LL_len r
  unfold z8
  rw [jbr r, Option.bind_some]
  have key := iterM_run (f := qU c (LL c) (n : Int)) (fun k => ⟨(k : Int), (List.range k).map (rowZ (bitN n) c)⟩) (c.tides.toNat + 1) (b := (List.range (c.tides.toNat + 1)).map (rowZ (bitN n) c)) (fun k hk => ?_) ?_ FU (FU_lt (by omega))
  · show (iterM FU (qU c (LL c) (n : Int)) ⟨((0 : Nat) : Int), (List.range 0).map (rowZ (bitN n) c)⟩).bind _ = _
    rw [key]; rfl
  · unfold qU
    simp only
    have e0 : List.replicate ((LL c).length : Int).toNat (0 : Int) = rowT (LL c).length 0 (fun i => (FcL (bitN n) c k (li c i) : Int)) 0 := by
      unfold rowT
      apply List.ext_getElem (by simp)
      intro i h1 h2
      simp
    rw [if_pos (by omega), makec_eq (by omega), Option.bind_some, e0, come_L1 r hn (by omega) _ (fun j hj => by rw [range_ix (by omega)]), Option.bind_some, appc_eq (by simp; omega), Option.bind_some, addc_eq (by omega), Option.bind_some, List.range_succ, List.map_append]
    rfl
  · unfold qU
    simp only
    rw [if_neg (by omega)]
theorem Yw {c : Channel} (r : Right c) {n : Nat} (hn : n ≤ 1000000000000) : j6 c (n : Int) = some (cntS (bitN n) c : Int) := by
  have ht := r.tides
  have hc := r.cells
  have hLL := LL_len r
  have hbb := fun i => FcL_bnd (cnt := bitN n) r (show c.tides.toNat ≤ 4 by omega) (li c i)
  unfold j6
  rw [jbE r hn, Option.bind_some]
  have hrow : ix ((List.range (c.tides.toNat + 1)).map (rowZ (bitN n) c)) c.tides = some (rowZ (bitN n) c c.tides.toNat) := by
    have h := range_ix (f := rowZ (bitN n) c) (n := c.tides.toNat + 1) (i := c.tides.toNat) (by omega)
    rw [show ((c.tides.toNat : Nat) : Int) = c.tides by omega] at h
    exact h
  have hlen : ((rowZ (bitN n) c c.tides.toNat).length : Int) = ((LL c).length : Int) := by unfold rowZ; simp
  have key := iterM_run (f := qx ((List.range (c.tides.toNat + 1)).map (rowZ (bitN n) c)) c) (fun a => ⟨((sumN (List.range a) fun i => FcL (bitN n) c c.tides.toNat (li c i) : Nat) : Int), (a : Int)⟩) (LL c).length (b := (cntS (bitN n) c : Int)) (fun a ha => ?_) ?_ FU (FU_lt (by omega))
  · show (iterM FU (qx ((List.range (c.tides.toNat + 1)).map (rowZ (bitN n) c)) c) ⟨((sumN (List.range 0) fun i => FcL (bitN n) c c.tides.toNat (li c i) : Nat) : Int), ((0 : Nat) : Int)⟩).bind _ = _
    rw [key]; rfl
  · have hsum := sumN_range_le (fun i => FcL (bitN n) c c.tides.toNat (li c i)) 1000000000000 a hbb
    have hm := Nat.mul_le_mul_right 1000000000000 (show a ≤ 1000 by omega)
    have hba := hbb a
    have hzi : ix (rowZ (bitN n) c c.tides.toNat) (a : Int) = some (FcL (bitN n) c c.tides.toNat (li c a) : Int) := by unfold rowZ; rw [range_ix ha]
    unfold qx
    simp only
    rw [hrow, Option.bind_some, hlen, if_pos (by omega), Option.bind_some, hzi, Option.bind_some, addc_eq (by omega), Option.bind_some, addc_eq (by omega), Option.bind_some, sumN_range_succ]
    congr 3
  · unfold qx
    simp only
    rw [hrow, Option.bind_some, hlen, if_neg (by omega)]
    congr 2
    rw [← sumN_li (fun l => FcL (bitN n) c c.tides.toNat l)]
    have h := FcL_sum (cnt := bitN n) r c.tides.toNat 0
    unfold cntS
    rw [Nat.add_zero] at h
    rw [← h]
    congr 1
    refine sumN_congr fun l hl => ?_
    rw [R, agS_stL r ((mem_LL (by omega)).1 hl)]
    by_cases hag : agP (bitN n) c.sights ((c.tides.toNat : Nat) : Int) l = true
    · rw [if_pos hag, Nat.mul_one]
    · rw [if_neg hag, Nat.mul_zero, FcL_ag hag]
end Go.Proofs.Wb

namespace Go.Proofs.Wb
open Go Go.Fw Go.Gx Go.Sb
set_option linter.unusedVariables false
set_option maxRecDepth 100000
abbrev tt : Nat → Bool := fun _ => true
theorem FcL_succ_pos {c : Channel} {k : Nat} {l : List Int} : 0 < FcL tt c (k + 1) l ↔ agP tt c.sights ((k + 1 : Nat) : Int) l = true ∧ ∃ a ∈ LL c, canB c.sands a l = true ∧ 0 < FcL tt c k a := by
  rw [FcL]
  by_cases h : agP tt c.sights ((k + 1 : Nat) : Int) l = true
  · rw [if_pos h, sumN_pos]
    constructor
    · rintro ⟨a, ha, h2⟩
      split at h2
      · rename_i hc; exact ⟨h, a, ha, hc, h2⟩
      · omega
    · rintro ⟨_, a, ha, hc, h2⟩
      exact ⟨a, ha, by rw [if_pos hc]; exact h2⟩
  · rw [if_neg h]
    constructor
    · intro q; omega
    · rintro ⟨q, _⟩; exact absurd q h
end Go.Proofs.Wb

namespace Go.Proofs.Wb
open Go Go.Fw Go.Gx Go.Sb
set_option maxRecDepth 100000
theorem awake_true : zx = some true := by decide +kernel
end Go.Proofs.Wb

namespace Go.Proofs.Wb
open Go Go.Fw Go.Gx Go.Sb
set_option linter.unusedVariables false
set_option maxRecDepth 100000
theorem jbu (c : Channel) : zp c = some (decide (10 < c.fords.length ∨ 10 < c.sands.length ∨ 14 < c.sights.length)) := by
  unfold zp
  by_cases h1 : 10 < c.fords.length
  · rw [if_pos (by omega), Option.bind_some, decide_eq_true (.inl h1)]
  · rw [if_neg (by omega)]
    by_cases h2 : 10 < c.sands.length
    · rw [if_pos (by omega), Option.bind_some, decide_eq_true (.inr (.inl h2))]
    · rw [if_neg (by omega), Option.bind_some]
      congr 1
      rw [Bool.eq_iff_iff, decide_eq_true_eq, decide_eq_true_eq]
      omega
theorem few_of {c : Channel} (h : ¬ (10 < c.fords.length ∨ 10 < c.sands.length ∨ 14 < c.sights.length)) : Few c := ⟨by omega, by omega, by omega⟩
end Go.Proofs.Wb

namespace Go.Proofs.Wb
open Go Go.Fw Go.Gx Go.Sb
set_option linter.unusedVariables false
set_option maxRecDepth 100000
def WideP (c : Channel) : Prop := (10 < c.fords.length ∨ 10 < c.sands.length ∨ 14 < c.sights.length) ∨ c.fords.length = 3 ∨ (8 < c.cells ∧ c.cells ≤ 10)
instance (c : Channel) : Decidable (WideP c) := by unfold WideP; infer_instance
theorem jbC (c : Channel) : z1 c = some (decide (WideP c)) := by
  unfold z1
  rw [jbu, Option.bind_some]
  by_cases h1 : 10 < c.fords.length ∨ 10 < c.sands.length ∨ 14 < c.sights.length
  · rw [if_pos (by simpa using h1), Option.bind_some, decide_eq_true (p := WideP c) (.inl h1)]
  · rw [if_neg (by simpa using h1)]
    by_cases h2 : c.fords.length = 3
    · rw [if_pos (by omega), Option.bind_some, decide_eq_true (p := WideP c) (.inr (.inl h2))]
    · rw [if_neg (by omega)]
      by_cases h3 : 8 < c.cells
      · rw [if_pos h3, Option.bind_some]
        congr 1
        rw [Bool.eq_iff_iff, decide_eq_true_eq, decide_eq_true_eq]
        unfold WideP
        omega
      · rw [if_neg h3, Option.bind_some]
        congr 1
        symm
        rw [decide_eq_false_iff_not]
        unfold WideP
        omega
theorem few_wide {c : Channel} (h : ¬ WideP c) : Few c := few_of (fun q => h (.inl q))
theorem Ky {c : Channel} (r : Right c) : jZ c = some ((2 ^ c.sights.length - 1 : Nat) : Int) := jab (by have := r.sights; omega)
end Go.Proofs.Wb

namespace Go.Proofs.Wb
open Go Go.Fw Go.Gx Go.Sb
set_option linter.unusedVariables false
set_option maxRecDepth 100000
theorem cntS_sum {cnt : Nat → Bool} {c : Channel} (r : Right c) : cntS cnt c = sumN (LL c) (FcL cnt c c.tides.toNat) := by
  have hc := r.cells
  have h := FcL_sum (cnt := cnt) r c.tides.toNat 0
  unfold cntS
  rw [Nat.add_zero] at h
  rw [← h]
  refine sumN_congr fun l hl => ?_
  rw [R, agS_stL r ((mem_LL (by omega)).1 hl)]
  by_cases hag : agP cnt c.sights ((c.tides.toNat : Nat) : Int) l = true
  · rw [if_pos hag, Nat.mul_one]
  · rw [if_neg hag, Nat.mul_zero, FcL_ag hag]
end Go.Proofs.Wb

namespace Go.Proofs.Wb
open Go Go.Fw Go.Gx Go.Sb
set_option linter.unusedVariables false
set_option maxRecDepth 100000
theorem filt_le (p : Nat → Bool) (j : Nat) : ((List.range j).filter p).length ≤ j := by
  have := List.length_filter_le p (List.range j)
  rwa [List.length_range] at this
end Go.Proofs.Wb

