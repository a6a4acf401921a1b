/- What the functions that the law BranchChannels reaches come to, and why it holds: part 8. -/
import Derived.Test.YtpjnpibgnkgnaaaGreatBranchChannels7
namespace Go.Proofs.Wb
set_option maxHeartbeats 4000000
set_option maxRecDepth 100000
open Go Go.Fw Go.Gx Go.Sb
open Tryz
set_option linter.unusedVariables false
theorem jam : (Tryz.prog.info? 138).map (fun i => (i.zero, i.size, i.bytes)) = some (some (.agg #[.int .i64 0, .int .i64 0, .int .i64 0]), 3, 24) := by kernel_rfl
theorem jao : (Tryz.prog.info? 139).map (fun i => (i.zero, i.size, i.bytes)) = some (some (.agg #[.int .i64 0, .int .i64 0, .bool false]), 3, 24) := by kernel_rfl
theorem jaw : Tryz.prog.stoodInHeld 50 = false := by decide +kernel
theorem jaH : Tryz.prog.eqGuardType Tryz.prog.depth 98 = false := by decide +kernel
theorem jaF : Tryz.prog.stoodInHeld 98 = false := by decide +kernel
theorem jaX (x y : Sand) (w : World) : (Op.equalIn 10000 98 (.agg (RSa.cells x).toArray) (.agg (RSa.cells y).toArray)).run Tryz.prog w = .ok (decide (x = y)) w := by
  have h := equal_structG (xs := (RSa.cells x).toArray) (ys := (RSa.cells y).toArray) underlying98 jaF (.sub (us := [_, _]) (vs := [_, _]) Y (fun w => isAgg50 w) (fun w => sizeOf50 w) Y Y Y Y underlying50 jaw (.int Y (fun w => isAgg3 w) ⟨_, underlying3⟩ Y Y (.int Y (fun w => isAgg3 w) ⟨_, underlying3⟩ Y Y .nil)) (.int Y (fun w => isAgg3 w) ⟨_, underlying3⟩ Y Y .nil)) w
  rw [h]
  congr 1
  obtain ⟨⟨x0_0, x0_1⟩, x1⟩ := x
  obtain ⟨⟨y0_0, y0_1⟩, y1⟩ := y
  rw [Bool.eq_iff_iff]
  simp only [Bool.and_eq_true, decide_eq_true_eq, Sand.mk.injEq, Span.mk.injEq, and_true]
def yA (c0 : Channel) : Option Bool :=
 (if 10 < (c0.fords.length : Int) then
 (some true) else
 (if 10 < (c0.sands.length : Int) then
 (some true) else
 (some (decide (14 < (c0.sights.length : Int)))))).bind fun o =>
 some o
theorem Q9 (c0 : Channel) (qa0 : Option Addr) (na0 ca0 : Nat) (qa1 : Option Addr) (na1 ca1 : Nat) (qa2 : Option Addr) (na2 ca2 : Nat) (w : World) (hw : HV w (keys [] []) [] [] [(aB qa0, aO qa0, RI.enc c0.fords), (aB qa1, aO qa1, RSa.enc c0.sands), (aB qa2, aO qa2, RSi.enc c0.sights)] w) (hna0 : c0.fords.length = na0) (hqa0 : AOK na0 qa0) (hla0 : na0 ≤ ca0) (hna1 : c0.sands.length = na1) (hqa1 : AOK na1 qa1) (hla1 : na1 ≤ ca1) (hna2 : c0.sights.length = na2) (hqa2 : AOK na2 qa2) (hla2 : na2 ≤ ca2) {res : Bool} (hm : yA c0 = some res) :
    Calls Tryz.prog 53 #[.agg #[.int .i64 c0.cells, .int .i64 c0.tides, .slice qa0 na0 ca0, .slice qa1 na1 ca1, .slice qa2 na2 ca2]] w (fun en w' => ∃ l : Unit, en = .returned (.bool res) ∧ (True) ∧ HV w (keys [] []) [] [] [] w') := by
  unfold yA at hm
  refine qN func53 Y ntmps53 Y (e := [(0, _)]) Y hw (jq ?_)
  refine jJ Y Y (fun b h1 => ?_)
  refine jm Y Y (jp (jh ?_))
  obtain ⟨o, h2, h3⟩ := bindO hm
  refine jP (ι := Unit) (fun l => True) (fun l => [(2, .bool o)]) (fun l => [kc b #[.int .i64 c0.cells, .int .i64 c0.tides, .slice qa0 na0 ca0, .slice qa1 na1 ca1, .slice qa2 na2 ca2] 26]) (fun l => []) ?_ ?_
  ·replace hm := h2
   refine jg (qg 2 runUnderlying26 Y sizeOf22 Y Y (kX 0 isAgg22 Y Y Y Y (jc Y Y Y (fun w _ => jD hna0 (runUnderlying22 w) Y) (jc Y Y Y (fun _ _ => Qt Y Y) (ji Y Y ?_)))))
   refine jN 7 Y (fun h4 => ?_) (fun h4 => ?_)
   ·replace hm := ifD h4 hm
    refine g_k Y Y Y Y (g_k Y Y Y Y (g_k Y Y Y Y (g_k Y Y Y Y (yK Y Y Y (ji Y Y (g_k Y Y Y Y (g_k Y Y Y Y ?_)))))))
    refine g_k Y Y Y Y (g_k Y Y Y Y (yK Y Y Y (jm Y Y (jw ?_))))
    obtain rfl := sj hm
    exact jl () (trivial) (sE Y) (fun w hh => hh)
   replace hm := ifE h4 hm
   refine jb Y Y (qg 3 runUnderlying26 Y sizeOf23 Y Y (jb Y Y (kX 0 isAgg23 Y Y Y Y (jb Y Y (jc Y Y Y (fun w _ => jD hna1 (runUnderlying23 w) Y) (jb Y Y (jc Y Y Y (fun _ _ => Qt Y Y) ?_)))))))
   refine yz Y Y Y (ji Y Y ?_)
   refine jN 13 Y (fun h5 => ?_) (fun h5 => ?_)
   ·replace hm := ifD h5 hm
    refine g_k Y Y Y Y (g_k Y Y Y Y (g_k Y Y Y Y (g_k Y Y Y Y (yK Y Y Y (jm Y Y (jw ?_))))))
    obtain rfl := sj hm
    exact jl () (trivial) (sE Y) (fun w hh => hh)
   replace hm := ifE h5 hm
   refine jb Y Y (qg 4 runUnderlying26 Y sizeOf24 Y Y (jb Y Y (kX 0 isAgg24 Y Y Y Y (jb Y Y (jc Y Y Y (fun w _ => jD hna2 (runUnderlying24 w) Y) (jb Y Y (jc Y Y Y (fun _ _ => Qt Y Y) ?_)))))))
   refine yz Y Y Y (jm Y Y (jw ?_))
   obtain rfl := sj hm
   exact jl () (trivial) (sE Y) (fun w hh => hh)
  intro l hj
  replace hm := h3
  refine ja (jv ?_)
  obtain rfl := sj hm
  refine jj Y (fun w hh => (.tmp Y .nil)) (fun w hh => ⟨(), rfl, trivial, hh.se [] [] 3 Y Y Y rfl⟩)
def JH (l0 : (List Int)) : Option (List Int) :=
 (makec 8 0 0 (l0.length : Int)).bind fun t5 =>
 (appc 8 t5 l0).bind fun t7 =>
 some t7
theorem Qr (l0 : (List Int)) (qa0 : Option Addr) (na0 ca0 : Nat) (w : World) (hw : HV w (keys [] []) [] [] [(aB qa0, aO qa0, RI.enc l0)] w) (hna0 : l0.length = na0) (hqa0 : AOK na0 qa0) (hla0 : na0 ≤ ca0) {res : (List Int)} (hm : JH l0 = some res) :
    Calls Tryz.prog 46 #[.slice qa0 na0 ca0] w (fun en w' => ∃ l : VL, en = .returned (sL l) ∧ (VOK 1 l.n l.cap (RI.enc res) l.sp l.q) ∧ HV w (keys [] []) [] [vL 3 l (RI.enc res)] [] w') := by
  unfold JH at hm
  refine qN func46 Y ntmps46 Y (e := [(0, _)]) Y hw (jq (jc Y Y Y (fun _ _ => yY Y) (ql (ji Y Y (jc Y Y Y (fun w _ => jD hna0 (runUnderlying22 w) Y) ?_)))))
  obtain ⟨t5, h2, hm⟩ := bindO hm
  refine YA RI 0 h2 underlying22 Yr Y Y Y Y Y (fun L h3 => ?_)
  refine ji Y Y ?_
  obtain ⟨t7, h4, hm⟩ := bindO hm
  refine Ji RI 0 h4 underlying22 Yr Y Y Y Y Y h3 Y Y hna0 hqa0 (fun w hh => (hh.seg 0 Y)) Y (fun L_1 h5 h5n => ?_)
  refine qj (S' := []) (vs' := [_]) [] [0] 0 Y Y Y Y (jm Y Y (jp (jv ?_)))
  obtain rfl := sj hm
  refine jj Y (fun w hh => (.tmp Y .nil)) (fun w hh => ⟨L_1, rfl, h5, hh.se [] [0] 1 Y Y Y rfl⟩)
def zK (l0 : (List Sand)) : Option (List Sand) :=
 (makec 24 (⟨(⟨0, 0⟩ : Span), 0⟩ : Sand) 0 (l0.length : Int)).bind fun t5 =>
 (appc 24 t5 l0).bind fun t7 =>
 some t7
theorem Ye (l0 : (List Sand)) (qa0 : Option Addr) (na0 ca0 : Nat) (w : World) (hw : HV w (keys [] []) [] [] [(aB qa0, aO qa0, RSa.enc l0)] w) (hna0 : l0.length = na0) (hqa0 : AOK na0 qa0) (hla0 : na0 ≤ ca0) {res : (List Sand)} (hm : zK l0 = some res) :
    Calls Tryz.prog 86 #[.slice qa0 na0 ca0] w (fun en w' => ∃ l : VL, en = .returned (sL l) ∧ (VOK 3 l.n l.cap (RSa.enc res) l.sp l.q) ∧ HV w (keys [] []) [] [vL 98 l (RSa.enc res)] [] w') := by
  unfold zK at hm
  refine qN func86 Y ntmps86 Y (e := [(0, _)]) Y hw (jq (jc Y Y Y (fun _ _ => yY Y) (ql (ji Y Y (jc Y Y Y (fun w _ => jD hna0 (runUnderlying23 w) Y) ?_)))))
  obtain ⟨t5, h2, hm⟩ := bindO hm
  refine YA RSa (⟨(⟨0, 0⟩ : Span), 0⟩ : Sand) h2 underlying23 ZC Y Y Y Y Y (fun L h3 => ?_)
  refine ji Y Y ?_
  obtain ⟨t7, h4, hm⟩ := bindO hm
  refine Ji RSa 0 h4 underlying23 ZC Y Y Y Y Y h3 Y Y hna0 hqa0 (fun w hh => (hh.seg 0 Y)) Y (fun L_1 h5 h5n => ?_)
  refine qj (S' := []) (vs' := [_]) [] [0] 0 Y Y Y Y (jm Y Y (jp (jv ?_)))
  obtain rfl := sj hm
  refine jj Y (fun w hh => (.tmp Y .nil)) (fun w hh => ⟨L_1, rfl, h5, hh.se [] [0] 1 Y Y Y rfl⟩)
def zs (l0 : (List Sight)) : Option (List Sight) :=
 (makec 24 (⟨0, 0, false⟩ : Sight) 0 (l0.length : Int)).bind fun t5 =>
 (appc 24 t5 l0).bind fun t7 =>
 some t7
theorem Yc (l0 : (List Sight)) (qa0 : Option Addr) (na0 ca0 : Nat) (w : World) (hw : HV w (keys [] []) [] [] [(aB qa0, aO qa0, RSi.enc l0)] w) (hna0 : l0.length = na0) (hqa0 : AOK na0 qa0) (hla0 : na0 ≤ ca0) {res : (List Sight)} (hm : zs l0 = some res) :
    Calls Tryz.prog 87 #[.slice qa0 na0 ca0] w (fun en w' => ∃ l : VL, en = .returned (sL l) ∧ (VOK 3 l.n l.cap (RSi.enc res) l.sp l.q) ∧ HV w (keys [] []) [] [vL 55 l (RSi.enc res)] [] w') := by
  unfold zs at hm
  refine qN func87 Y ntmps87 Y (e := [(0, _)]) Y hw (jq (jc Y Y Y (fun _ _ => yY Y) (ql (ji Y Y (jc Y Y Y (fun w _ => jD hna0 (runUnderlying24 w) Y) ?_)))))
  obtain ⟨t5, h2, hm⟩ := bindO hm
  refine YA RSi (⟨0, 0, false⟩ : Sight) h2 underlying24 YT Y Y Y Y Y (fun L h3 => ?_)
  refine ji Y Y ?_
  obtain ⟨t7, h4, hm⟩ := bindO hm
  refine Ji RSi 0 h4 underlying24 YT Y Y Y Y Y h3 Y Y hna0 hqa0 (fun w hh => (hh.seg 0 Y)) Y (fun L_1 h5 h5n => ?_)
  refine qj (S' := []) (vs' := [_]) [] [0] 0 Y Y Y Y (jm Y Y (jp (jv ?_)))
  obtain rfl := sj hm
  refine jj Y (fun w hh => (.tmp Y .nil)) (fun w hh => ⟨L_1, rfl, h5, hh.se [] [0] 1 Y Y Y rfl⟩)
def yx (c0 : Channel) : Option Channel :=
 (JH c0.fords).bind fun t9 =>
 (zK c0.sands).bind fun t12 =>
 (zs c0.sights).bind fun t15 =>
 some (⟨c0.cells, c0.tides, t9, t12, t15⟩ : Channel)
theorem zg (c0 : Channel) (qa0 : Option Addr) (na0 ca0 : Nat) (qa1 : Option Addr) (na1 ca1 : Nat) (qa2 : Option Addr) (na2 ca2 : Nat) (w : World) (hw : HV w (keys [] []) [] [] [(aB qa0, aO qa0, RI.enc c0.fords), (aB qa1, aO qa1, RSa.enc c0.sands), (aB qa2, aO qa2, RSi.enc c0.sights)] w) (hna0 : c0.fords.length = na0) (hqa0 : AOK na0 qa0) (hla0 : na0 ≤ ca0) (hna1 : c0.sands.length = na1) (hqa1 : AOK na1 qa1) (hla1 : na1 ≤ ca1) (hna2 : c0.sights.length = na2) (hqa2 : AOK na2 qa2) (hla2 : na2 ≤ ca2) {res : Channel} (hm : yx c0 = some res) :
    Calls Tryz.prog 20 #[.agg #[.int .i64 c0.cells, .int .i64 c0.tides, .slice qa0 na0 ca0, .slice qa1 na1 ca1, .slice qa2 na2 ca2]] w (fun en w' => ∃ l : VL × VL × VL, en = .returned (.agg #[.int .i64 res.cells, .int .i64 res.tides, sL l.1, sL l.2.1, sL l.2.2]) ∧ (VOK 1 l.1.n l.1.cap (RI.enc res.fords) l.1.sp l.1.q ∧ VOK 3 l.2.1.n l.2.1.cap (RSa.enc res.sands) l.2.1.sp l.2.1.q ∧ VOK 3 l.2.2.n l.2.2.cap (RSi.enc res.sights) l.2.2.sp l.2.2.q) ∧ HV w (keys [] []) [] [vL 3 l.1 (RI.enc res.fords), vL 98 l.2.1 (RSa.enc res.sands), vL 55 l.2.2 (RSi.enc res.sights)] [] w') := by
  unfold yx at hm
  refine qN func20 Y ntmps20 Y (e := [(0, _)]) Y hw (jq ?_)
  refine jJ Y Y (fun b h4 => ?_)
  refine ju (fun w => zeroValue26 w) Y (fun b_1 h5 => ?_)
  refine jp (jh ?_)
  refine ks none (.free 0 (.hoist 1 (.free 2 (.hoist 3 (.free 4 (.hoist 5 (.free 7 (.hoist 8 (.free 10 (.hoist 11 (.one 6 (.one 9 (.one 12 (.free 13 (.one 14 .done))))))))))))))) (HV _ _ [kc b #[.int .i64 c0.cells, .int .i64 c0.tides, .slice qa0 na0 ca0, .slice qa1 na1 ca1, .slice qa2 na2 ca2] 26] [] _) Y (by decide +kernel) (fun w k hh => hh.draw k) (hsE [1] [] 0 Y Y Y Y) ?_
  refine JW 0 runUnderlying26 sizeOf3 Y Y Y Y (KJ 0 isAgg3 Y Y Y Y Y (JW 1 runUnderlying26 sizeOf3 Y Y Y Y (KJ 0 isAgg3 Y Y Y Y Y (JW 2 runUnderlying26 sizeOf22 Y Y Y Y (KJ 0 isAgg22 Y Y Y Y Y (JW 3 runUnderlying26 sizeOf23 Y Y Y Y (KJ 0 isAgg23 Y Y Y Y Y ?_)))))))
  refine JW 4 runUnderlying26 sizeOf24 Y Y Y Y (KJ 0 isAgg24 Y Y Y Y Y (jH Y ?_))
  obtain ⟨t9, h6, hm⟩ := bindO hm
  refine je [] [] Y Y Y Y Y Y Y call46 (fun w hh => Qr c0.fords qa0 na0 ca0 w (HV.callee (S0 := []) (vs0 := []) hh (roR hh 0 Y roN)) hna0 hqa0 hla0 h6) (fun l h7 => ?_)
  have h8 := h7
  refine qj (S' := [_, _]) (vs' := [_]) [0, 1] [0] 0 Y Y Y Y (jo (hsE [1] [] 0 Y Y Y Y) (jH Y ?_))
  obtain ⟨t12, h9, hm⟩ := bindO hm
  refine je [] [] Y Y Y Y Y Y Y call86 (fun w hh => Ye c0.sands qa1 na1 ca1 w (HV.callee (S0 := []) (vs0 := []) hh (roR hh 1 Y roN)) hna1 hqa1 hla1 h9) (fun l_1 h10 => ?_)
  have h11 := h10
  refine qj (S' := [_, _]) (vs' := [_, _]) [0, 1] [0, 1] 0 Y Y Y Y (jo (hsE [1] [] 0 Y Y Y Y) (jH Y ?_))
  obtain ⟨t15, h12, hm⟩ := bindO hm
  refine je [] [] Y Y Y Y Y Y Y call87 (fun w hh => Yc c0.sights qa2 na2 ca2 w (HV.callee (S0 := []) (vs0 := []) hh (roR hh 2 Y roN)) hna2 hqa2 hla2 h12) (fun l_2 h13 => ?_)
  have h14 := h13
  refine qj (S' := [_, _]) (vs' := [_, _, _]) [0, 1] [0, 1, 2] 0 Y Y Y Y (jo (hsE [1] [] 0 Y Y Y Y) (jr Y Y Y Y (fun _ _ => kT (vs := [(0, _), (1, _), (2, _), (3, _), (4, _)]) (cells := [_, _, _, _, _]) Y Y) (jH Y (jV (us := #[_, _, _, _, _]) (cs' := [_, _, _, _, _]) (S' := [_, _]) 0 (fun w => sizeOf26 w) Y Y Y Y Y Y Y (jo (hsE [1] [] 0 Y Y Y Y) (jM (ja ?_)))))))
  refine jv ?_
  obtain rfl := sj hm
  refine jj Y (fun w hh => (.cell Y (loadVar_agg (vs := [_, _, _, _, _]) (isAgg26 _) (sizeOf26 _) (hh.cells 0 Y Y)) .nil)) (fun w hh => ⟨(l, l_1, l_2), rfl, ⟨h8, h11, h14⟩, hh.se [] [2, 1, 0] 3 Y Y Y rfl⟩)
structure qC where
  t19 : Int
  out3_sands : (List Sand)
def zq (c0 : Channel) (s : qC) : Option (qC ⊕ (List Sand)) :=
 if s.t19 < (c0.sands.length : Int) then
 ((ix c0.sands s.t19).bind fun t21 =>
 (appc 24 s.out3_sands [(⟨(⟨t21.span.lo, t21.span.hi⟩ : Span), t21.reach⟩ : Sand)]).bind fun t27 =>
 (addc s.t19 1).bind fun t29 =>
 some (.inl (⟨t29, t27⟩ : qC))) else
 (some (.inr s.out3_sands))
structure qt where
  t33 : Int
  out3_sights : (List Sight)
def zp (c0 : Channel) (s_1 : qt) : Option (qt ⊕ (List Sight)) :=
 if s_1.t33 < (c0.sights.length : Int) then
 ((ix c0.sights s_1.t33).bind fun t35 =>
 (appc 24 s_1.out3_sights [t35]).bind fun t41 =>
 (addc s_1.t33 1).bind fun t43 =>
 some (.inl (⟨t43, t41⟩ : qt))) else
 (some (.inr s_1.out3_sights))
def yr (c0 : Channel) : Option Channel :=
 ((JH c0.fords).bind fun t14 =>
 some (⟨c0.cells, c0.tides, t14, [], []⟩ : Channel)).bind fun o =>
 (iterM FU (zq c0) (⟨0, o.sands⟩ : qC)).bind fun o_1 =>
 (iterM FU (zp c0) (⟨0, o.sights⟩ : qt)).bind fun o_2 =>
 some (⟨o.cells, o.tides, o.fords, o_1, o_2⟩ : Channel)
theorem zc (c0 : Channel) (qa0 : Option Addr) (na0 ca0 : Nat) (qa1 : Option Addr) (na1 ca1 : Nat) (qa2 : Option Addr) (na2 ca2 : Nat) (w : World) (hw : HV w (keys [] []) [] [] [(aB qa0, aO qa0, RI.enc c0.fords), (aB qa1, aO qa1, RSa.enc c0.sands), (aB qa2, aO qa2, RSi.enc c0.sights)] w) (hna0 : c0.fords.length = na0) (hqa0 : AOK na0 qa0) (hla0 : na0 ≤ ca0) (hna1 : c0.sands.length = na1) (hqa1 : AOK na1 qa1) (hla1 : na1 ≤ ca1) (hna2 : c0.sights.length = na2) (hqa2 : AOK na2 qa2) (hla2 : na2 ≤ ca2) {res : Channel} (hm : yr c0 = some res) :
    Calls Tryz.prog 21 #[.agg #[.int .i64 c0.cells, .int .i64 c0.tides, .slice qa0 na0 ca0, .slice qa1 na1 ca1, .slice qa2 na2 ca2]] w (fun en w' => ∃ l : VL × VL × VL, en = .returned (.agg #[.int .i64 res.cells, .int .i64 res.tides, sL l.1, sL l.2.1, sL l.2.2]) ∧ (VOK 1 l.1.n l.1.cap (RI.enc res.fords) l.1.sp l.1.q ∧ VOK 3 l.2.1.n l.2.1.cap (RSa.enc res.sands) l.2.1.sp l.2.1.q ∧ VOK 3 l.2.2.n l.2.2.cap (RSi.enc res.sights) l.2.2.sp l.2.2.q) ∧ HV w (keys [] []) [] [vL 3 l.1 (RI.enc res.fords), vL 138 l.2.1 (RSa.enc res.sands), vL 139 l.2.2 (RSi.enc res.sights)] [] w') := by
  unfold yr at hm
  refine qN func21 Y ntmps21 Y (e := [(0, _)]) Y hw (jq ?_)
  refine jJ Y Y (fun b h4 => ?_)
  refine ju (fun w => zeroValue33 w) Y (fun b_1 h5 => ?_)
  refine jp (jh ?_)
  obtain ⟨o, h6, h7⟩ := bindO hm
  refine jP (ι := Nat × VL × VL × VL) (fun l => VOK 1 l.2.1.n l.2.1.cap (RI.enc o.fords) l.2.1.sp l.2.1.q ∧ VOK 3 l.2.2.1.n l.2.2.1.cap (RSa.enc o.sands) l.2.2.1.sp l.2.2.1.q ∧ VOK 3 l.2.2.2.n l.2.2.2.cap (RSi.enc o.sights) l.2.2.2.sp l.2.2.2.q) (fun l => [(1, ptr b 0), (2, ptr b_1 0), (3, ptr l.1 0)]) (fun l => [kc b_1 #[.int .i64 0, .int .i64 0, slv none 0 0, slv none 0 0, slv none 0 0] 33, kc b #[.int .i64 c0.cells, .int .i64 c0.tides, .slice qa0 na0 ca0, .slice qa1 na1 ca1, .slice qa2 na2 ca2] 26, kc l.1 #[.int .i64 o.cells, .int .i64 o.tides, sL l.2.1, sL l.2.2.1, sL l.2.2.2] 33]) (fun l => [vL 3 l.2.1 (RI.enc o.fords), vL 138 l.2.2.1 (RSa.enc o.sands), vL 139 l.2.2.2 (RSi.enc o.sights)]) ?_ ?_
  ·replace hm := h6
   obtain ⟨t14, h11, hm⟩ := bindO hm
   refine ks none (.free 0 (.hoist 1 (.free 2 (.hoist 3 (.free 4 (.hoist 5 (.br (.alt 6 (.free 7 (.one 8 (.one 9 .done))) (.alt 8 (.one 6 (.free 7 (.one 9 .done))) .nil))))))))) _ Y (by decide +kernel) (fun w k hh => hh.draw k) (fun w hh => hh) ?_
   refine JW 0 runUnderlying26 sizeOf3 Y Y Y Y (KJ 1 isAgg3 Y Y Y Y Y (JW 1 runUnderlying26 sizeOf3 Y Y Y Y (KJ 1 isAgg3 Y Y Y Y Y (JW 2 runUnderlying26 sizeOf22 Y Y Y Y (KJ 1 isAgg22 Y Y Y Y Y (YD ?_))))))
   refine qG Y ?_ ?_
   ·refine je [] [] Y Y Y Y Y Y Y call46 (fun w hh => Qr c0.fords qa0 na0 ca0 w (HV.callee (S0 := []) (vs0 := []) hh (roR hh 0 Y roN)) hna0 hqa0 hla0 h11) (fun l_1 h12 => ?_)
    have h13 := h12
    refine qj (S' := [_, _]) (vs' := [_]) [0, 1] [0] 0 Y Y Y Y (jo (hsE [0, 1] [] 0 Y Y Y Y) (jr Y Y Y Y (fun _ _ => kT (vs := [(0, _), (1, _), (2, _)]) (cells := [_, _, _, _, _]) Y Y) (jH Y ?_)))
    refine ju (fun w => zeroValue33 w) Y (fun b_2 h14 => ?_)
    refine jo (hsE [1, 2] [] 0 Y Y Y Y) (jH Y (jV (us := #[_, _, _, _, _]) (cs' := [_, _, _, _, _]) (S' := [_, _, _]) 0 (fun w => sizeOf33 w) Y Y Y Y Y Y Y (jo (hsE [1, 2] [] 0 Y Y Y Y) (jM (yf 138 (yf 139 ?_))))))
    obtain rfl := sj hm
    exact jl (b_2, l_1, ⟨none, 0, 0, []⟩, ⟨none, 0, 0, []⟩) (⟨h13, VOK.nil, VOK.nil⟩) (sE Y) (hsE [1, 2, 0] [2, 1, 0] 0 Y Y Y Y)
   refine qG Y ?_ ?_
   refine ju (fun w => zeroValue33 w) Y (fun b_3 h15 => ?_)
   refine jo (hsE [1, 2] [] 0 Y Y Y Y) (jH Y ?_)
   refine je [] [] Y Y Y Y Y Y Y call46 (fun w hh => Qr c0.fords qa0 na0 ca0 w (HV.callee (S0 := []) (vs0 := []) hh (roR hh 0 Y roN)) hna0 hqa0 hla0 h11) (fun l_2 h16 => ?_)
   have h17 := h16
   refine qj (S' := [_, _, _]) (vs' := [_]) [0, 1, 2] [0] 0 Y Y Y Y (jo (hsE [1, 2] [] 0 Y Y Y Y) (jr Y Y Y Y (fun _ _ => kT (vs := [(0, _), (1, _), (2, _)]) (cells := [_, _, _, _, _]) Y Y) (jH Y (jV (us := #[_, _, _, _, _]) (cs' := [_, _, _, _, _]) (S' := [_, _, _]) 0 (fun w => sizeOf33 w) Y Y Y Y Y Y Y (jo (hsE [1, 2] [] 0 Y Y Y Y) (jM (yf 138 ?_)))))))
   refine yf 139 ?_
   obtain rfl := sj hm
   exact jl (b_3, l_2, ⟨none, 0, 0, []⟩, ⟨none, 0, 0, []⟩) (⟨h17, VOK.nil, VOK.nil⟩) (sE Y) (hsE [1, 2, 0] [2, 1, 0] 0 Y Y Y Y)
   exact Ku
  intro l hj
  obtain ⟨h8, h9, h10⟩ := hj
  replace hm := h7
  refine ja (jh (jq (qg 3 runUnderlying26 Y sizeOf23 Y Y (kX 1 isAgg23 Y Y Y Y (jc Y Y Y (fun w _ => jD hna1 (runUnderlying23 w) Y) (ji Y Y (jp ?_)))))))
  obtain ⟨o_1, h18, h19⟩ := bindO hm
  refine jP (ι := VL) (fun l_3 => VOK 3 l_3.n l_3.cap (RSa.enc o_1) l_3.sp l_3.q) (fun l_3 => [(1, ptr b 0), (2, ptr b_1 0), (3, ptr l.1 0)]) (fun l_3 => [kc b_1 #[.int .i64 0, .int .i64 0, slv none 0 0, slv none 0 0, slv none 0 0] 33, kc b #[.int .i64 c0.cells, .int .i64 c0.tides, .slice qa0 na0 ca0, .slice qa1 na1 ca1, .slice qa2 na2 ca2] 26, kc l.1 #[.int .i64 o.cells, .int .i64 o.tides, sL l.2.1, sL l_3, sL l.2.2.2] 33]) (fun l_3 => [vL 3 l.2.1 (RI.enc o.fords), vL 138 l_3 (RSa.enc o_1), vL 139 l.2.2.2 (RSi.enc o.sights)]) ?_ ?_
  ·replace hm := h18
   refine jn ?_
   refine jQ (ι := VL) hm (fun s l_4 => VOK 3 l_4.n l_4.cap (RSa.enc s.out3_sands) l_4.sp l_4.q) (fun s l_4 => [(1, ptr b 0), (2, ptr b_1 0), (3, ptr l.1 0), (17, .slice qa1 na1 ca1), (18, .int .i64 (c0.sands.length : Int)), (19, .int .i64 s.t19)]) (fun s l_4 => [kc b_1 #[.int .i64 0, .int .i64 0, slv none 0 0, slv none 0 0, slv none 0 0] 33, kc b #[.int .i64 c0.cells, .int .i64 c0.tides, .slice qa0 na0 ca0, .slice qa1 na1 ca1, .slice qa2 na2 ca2] 26, kc l.1 #[.int .i64 o.cells, .int .i64 o.tides, sL l.2.1, sL l_4, sL l.2.2.2] 33]) (fun s l_4 => [vL 3 l.2.1 (RI.enc o.fords), vL 138 l_4 (RSa.enc s.out3_sands), vL 139 l.2.2.2 (RSi.enc o.sights)]) l.2.2.1 (h9) (sE Y) (fun w hh => hh) (fun s l_4 r hpl hm h22 => ?_)
   have h21 := hpl
   unfold zq at hm
   refine jq (JT Y Y Y (jp (jh ?_)))
   refine js Y (fun h23 => ?_) (fun h23 => ?_)
   ·replace hm := ifD h23 hm
    refine jt (ja (jh (jn (jq ?_))))
    obtain ⟨t21, h24, hm⟩ := bindO hm
    refine jc Y Y Y (fun w _ => qe h24 (runUnderlying23 w) (sizeOf98 w) Y Y hna1 hqa1) ?_
    refine jc Y Y Y (fun w hh => zW RSa 0 [.int .i64 t21.span.lo, .int .i64 t21.span.hi, .int .i64 t21.reach] h24 (isAgg98 w) (sizeOf98 w) Y (hh.seg 1 Y) Y (Nat.add_zero _).symm) ?_
    refine ju (fun w => zeroValue98 w) Y (fun b_4 h25 => ?_)
    refine jV (us := #[_, _, _]) (cs' := [_, _, _]) (S' := [_, _, _, _]) 0 (fun w => sizeOf98 w) Y Y Y Y Y Y Y (jp (jg (qg 3 runUnderlying33 Y sizeOf30 Y Y (kX 3 isAgg30 Y Y Y Y (zd [_, _, _] 0 isAgg98 sizeOf98 Y Y Y Y ?_)))))
    refine q6 RSa [(⟨(⟨t21.span.lo, t21.span.hi⟩ : Span), t21.reach⟩ : Sand)] (ps := [(0, _)]) (cells := [_, _, _]) (fun w => runUnderlying30 w) (fun w => sizeOf138 w) (fun w => zeroValue138 w) Y Y Y Y Y Y Y Y (fun L h26 => ?_)
    obtain ⟨t27, h27, hm⟩ := bindO hm
    refine Ji RSa 2 h27 underlying30 jam Y Y Y Y Y h21 Y Y (vlen RSa h26 Y) (AOK.q (vne h26)) (fun w hh => (hh.vsegA 0 Y h26)) Y (fun L_1 h28 h28n => ?_)
    refine qj (S' := [_, _, _, _]) (vs' := [_, _, _, _]) [0, 1, 2, 3] [0, 1, 2, 3] 0 Y Y Y Y (qg 3 runUnderlying33 Y sizeOf30 Y Y (yM (cs' := #[_, _, _, _, _]) (S' := [_, _, _, _]) 3 (fun w => sizeOf30 w) Y Y Y Y Y Y Y (jw (jx (ja (jg ?_))))))
    obtain ⟨t29, h29, hm⟩ := bindO hm
    refine Kc h29 Y Y Y (ji Y Y (jw ?_))
    obtain rfl := sj hm
    refine ja ?_
    exact jE _ L_1 Y (h28) (sE Y) (hsE [1, 2, 3] [1, 2, 3] 0 Y Y Y Y)
   replace hm := ifE h23 hm
   refine jZ (jk (jk (jI ?_)))
   obtain rfl := sj hm
   have hbo := h22 _ Y
   subst hbo
   exact jl l_4 (h21) (sE Y) (fun w hh => hh)
  intro l_3 hj
  have h20 := hj
  replace hm := h19
  refine ja (jh (jq (qg 4 runUnderlying26 Y sizeOf24 Y Y (kX 1 isAgg24 Y Y Y Y (jc Y Y Y (fun w _ => jD hna2 (runUnderlying24 w) Y) (ji Y Y (jp ?_)))))))
  obtain ⟨o_2, h30, h31⟩ := bindO hm
  refine jP (ι := VL) (fun l_5 => VOK 3 l_5.n l_5.cap (RSi.enc o_2) l_5.sp l_5.q) (fun l_5 => [(2, ptr b_1 0), (3, ptr l.1 0)]) (fun l_5 => [kc b_1 #[.int .i64 0, .int .i64 0, slv none 0 0, slv none 0 0, slv none 0 0] 33, kc b #[.int .i64 c0.cells, .int .i64 c0.tides, .slice qa0 na0 ca0, .slice qa1 na1 ca1, .slice qa2 na2 ca2] 26, kc l.1 #[.int .i64 o.cells, .int .i64 o.tides, sL l.2.1, sL l_3, sL l_5] 33]) (fun l_5 => [vL 3 l.2.1 (RI.enc o.fords), vL 138 l_3 (RSa.enc o_1), vL 139 l_5 (RSi.enc o_2)]) ?_ ?_
  ·replace hm := h30
   refine jn ?_
   refine jQ (ι := VL) hm (fun s_1 l_6 => VOK 3 l_6.n l_6.cap (RSi.enc s_1.out3_sights) l_6.sp l_6.q) (fun s_1 l_6 => [(2, ptr b_1 0), (3, ptr l.1 0), (31, .slice qa2 na2 ca2), (32, .int .i64 (c0.sights.length : Int)), (33, .int .i64 s_1.t33)]) (fun s_1 l_6 => [kc b_1 #[.int .i64 0, .int .i64 0, slv none 0 0, slv none 0 0, slv none 0 0] 33, kc b #[.int .i64 c0.cells, .int .i64 c0.tides, .slice qa0 na0 ca0, .slice qa1 na1 ca1, .slice qa2 na2 ca2] 26, kc l.1 #[.int .i64 o.cells, .int .i64 o.tides, sL l.2.1, sL l_3, sL l_6] 33]) (fun s_1 l_6 => [vL 3 l.2.1 (RI.enc o.fords), vL 138 l_3 (RSa.enc o_1), vL 139 l_6 (RSi.enc s_1.out3_sights)]) l.2.2.2 (h10) (sE Y) (fun w hh => hh) (fun s_1 l_6 r_1 hpl hm h34 => ?_)
   have h33 := hpl
   unfold zp at hm
   refine jq (JT Y Y Y (jp (jh ?_)))
   refine js Y (fun h35 => ?_) (fun h35 => ?_)
   ·replace hm := ifD h35 hm
    refine jt (ja (jh (jn (jq ?_))))
    obtain ⟨t35, h36, hm⟩ := bindO hm
    refine jc Y Y Y (fun w _ => qe h36 (runUnderlying24 w) (sizeOf55 w) Y Y hna2 hqa2) ?_
    refine jc Y Y Y (fun w hh => zW RSi 0 [.int .i64 t35.after, .int .i64 t35.cell, .bool t35.upright] h36 (isAgg55 w) (sizeOf55 w) Y (hh.seg 2 Y) Y (Nat.add_zero _).symm) ?_
    refine ju (fun w => zeroValue55 w) Y (fun b_5 h37 => ?_)
    refine jV (us := #[_, _, _]) (cs' := [_, _, _]) (S' := [_, _, _, _]) 0 (fun w => sizeOf55 w) Y Y Y Y Y Y Y (jp (jg (qg 4 runUnderlying33 Y sizeOf31 Y Y (kX 3 isAgg31 Y Y Y Y (zd [_, _, _] 0 isAgg55 sizeOf55 Y Y Y Y ?_)))))
    refine q6 RSi [t35] (ps := [(0, _)]) (cells := [_, _, _]) (fun w => runUnderlying31 w) (fun w => sizeOf139 w) (fun w => zeroValue139 w) Y Y Y Y Y Y Y Y (fun L_2 h38 => ?_)
    obtain ⟨t41, h39, hm⟩ := bindO hm
    refine Ji RSi 3 h39 underlying31 jao Y Y Y Y Y h33 Y Y (vlen RSi h38 Y) (AOK.q (vne h38)) (fun w hh => (hh.vsegA 0 Y h38)) Y (fun L_3 h40 h40n => ?_)
    refine qj (S' := [_, _, _, _]) (vs' := [_, _, _, _]) [0, 1, 2, 3] [0, 1, 2, 3] 0 Y Y Y Y (qg 4 runUnderlying33 Y sizeOf31 Y Y (yM (cs' := #[_, _, _, _, _]) (S' := [_, _, _, _]) 3 (fun w => sizeOf31 w) Y Y Y Y Y Y Y (jw (jx (ja (jg ?_))))))
    obtain ⟨t43, h41, hm⟩ := bindO hm
    refine Kc h41 Y Y Y (ji Y Y (jw ?_))
    obtain rfl := sj hm
    refine ja ?_
    exact jE _ L_3 Y (h40) (sE Y) (hsE [1, 2, 3] [1, 2, 3] 0 Y Y Y Y)
   replace hm := ifE h35 hm
   refine jZ (jk (jk (jI ?_)))
   obtain rfl := sj hm
   have hbo := h34 _ Y
   subst hbo
   exact jl l_6 (h33) (sE Y) (fun w hh => hh)
  intro l_5 hj
  have h32 := hj
  replace hm := h31
  refine ja (jq (zd [_, _, _, _, _] 2 isAgg33 sizeOf33 Y Y Y Y (jV (us := #[_, _, _, _, _]) (cs' := [_, _, _, _, _]) (S' := [_, _, _]) 0 (fun w => sizeOf33 w) Y Y Y Y Y Y Y (jp (jv ?_)))))
  obtain rfl := sj hm
  refine jj Y (fun w hh => (.cell Y (loadVar_agg (vs := [_, _, _, _, _]) (isAgg33 _) (sizeOf33 _) (hh.cells 0 Y Y)) .nil)) (fun w hh => ⟨(l.2.1, l_3, l_5), rfl, ⟨h8, h20, h32⟩, hh.se [] [0, 1, 2] 3 Y Y Y rfl⟩)
def jB (n0 : Int) (lo1 : Int) (hi2 : Int) : Option Bool :=
 (if n0 < lo1 then
 (some true) else
 (some (decide (hi2 < n0)))).bind fun o =>
 some o
theorem j3 (n0 : Int) (lo1 : Int) (hi2 : Int)  (w : World) (hw : HV w (keys [] []) [] [] [] w)  {res : Bool} (hm : jB n0 lo1 hi2 = some res) :
    Calls Tryz.prog 88 #[.int .i64 n0, .int .i64 lo1, .int .i64 hi2] w (fun en w' => ∃ l : Unit, en = .returned (.bool res) ∧ (True) ∧ HV w (keys [] []) [] [] [] w') := by
  unfold jB at hm
  refine qN func88 Y ntmps88 Y (e := [(0, _), (1, _), (2, _)]) Y hw (jq (jm Y Y (jp (jh ?_))))
  obtain ⟨o, h1, h2⟩ := bindO hm
  refine jP (ι := Unit) (fun l => True) (fun l => [(6, .bool o)]) (fun l => []) (fun l => []) ?_ ?_
  ·replace hm := h1
   refine jg (ji Y Y (ji Y Y (JT Y Y Y (ji Y Y ?_))))
   refine jN 10 Y (fun h3 => ?_) (fun h3 => ?_)
   ·replace hm := ifD h3 hm
    refine g_k Y Y Y Y (g_k Y Y Y Y (g_k Y Y Y Y (yK Y Y Y (jm Y Y (jw ?_)))))
    obtain rfl := sj hm
    exact jl () (trivial) (sE Y) (fun w hh => hh)
   replace hm := ifE h3 hm
   refine jb Y Y (ji Y Y (jb Y Y (ji Y Y (jb Y Y (jc Y Y Y (fun _ _ => Qt Y Y) (yz Y Y Y (jm Y Y ?_)))))))
   refine jw ?_
   obtain rfl := sj hm
   exact jl () (trivial) (sE Y) (fun w hh => hh)
  intro l hj
  replace hm := h2
  refine ja (jv ?_)
  obtain rfl := sj hm
  refine jj Y (fun w hh => (.tmp Y .nil)) (fun w hh => ⟨(), rfl, trivial, hh⟩)
def yE (c0 : Channel) (s : Int) : Option (Int ⊕ (Unit ⊕ Int)) :=
 if s < (c0.sands.length : Int) then
 ((ix c0.sands s).bind fun t46 =>
 (jB t46.reach 1 2).bind fun t49 =>
 if t49 = true then
 (some (.inr (.inr 3))) else
 ((addc s 1).bind fun t42 =>
 some (.inl t42))) else
 (some (.inr (.inl ())))
def yD (c0 : Channel) (s_1 : Int) : Option (Int ⊕ (Unit ⊕ Int)) :=
 if s_1 < (c0.sights.length : Int) then
 ((ix c0.sights s_1).bind fun t60 =>
 (jB t60.after 0 c0.tides).bind fun t65 =>
 if t65 = true then
 (some (.inr (.inr 3))) else
 ((addc s_1 1).bind fun t56 =>
 some (.inl t56))) else
 (some (.inr (.inl ())))
def yH (c0 : Channel) (s_2 : Int) : Option (Int ⊕ (Unit ⊕ Int)) :=
 if s_2 < (c0.fords.length : Int) then
 ((ix c0.fords s_2).bind fun t76 =>
 (subc c0.cells 1).bind fun t80 =>
 (jB t76 0 t80).bind fun t81 =>
 if t81 = true then
 (some (.inr (.inr 1))) else
 ((addc s_2 1).bind fun t72 =>
 some (.inl t72))) else
 (some (.inr (.inl ())))
def yJ (c0 : Channel) (s_3 : Int) : Option (Int ⊕ (Unit ⊕ Int)) :=
 if s_3 < (c0.sands.length : Int) then
 (((ix c0.sands s_3).bind fun t92 =>
 (subc c0.cells 1).bind fun t98 =>
 (jB t92.span.lo 0 t98).bind fun t99 =>
 if t99 = true then
 (some true) else
 ((ix c0.sands s_3).bind fun t104 =>
 (subc c0.cells 1).bind fun t110 =>
 (jB t104.span.hi 0 t110).bind fun t111 =>
 some t111)).bind fun o_5 =>
 if o_5 = true then
 (some (.inr (.inr 1))) else
 ((addc s_3 1).bind fun t88 =>
 some (.inl t88))) else
 (some (.inr (.inl ())))
def yI (c0 : Channel) (s_4 : Int) : Option (Int ⊕ (Unit ⊕ Int)) :=
 if s_4 < (c0.sights.length : Int) then
 ((ix c0.sights s_4).bind fun t123 =>
 (subc c0.cells 1).bind fun t128 =>
 (jB t123.cell 0 t128).bind fun t129 =>
 if t129 = true then
 (some (.inr (.inr 1))) else
 ((addc s_4 1).bind fun t119 =>
 some (.inl t119))) else
 (some (.inr (.inl ())))
def kx (c0 : Channel) (s_5 : Int) : Option (Int ⊕ (Unit ⊕ Int)) :=
 if s_5 < (c0.fords.length : Int) then
 ((ix c0.fords s_5).bind fun t140 =>
 (subc s_5 1).bind fun t145 =>
 (ix c0.fords t145).bind fun t146 =>
 if t140 ≤ t146 then
 (some (.inr (.inr 4))) else
 ((addc s_5 1).bind fun t136 =>
 some (.inl t136))) else
 (some (.inr (.inl ())))
def yF (c0 : Channel) (s_6 : Int) : Option (Int ⊕ (Unit ⊕ Int)) :=
 if s_6 < (c0.sands.length : Int) then
 ((ix c0.sands s_6).bind fun t159 =>
 (ix c0.sands s_6).bind fun t166 =>
 if t166.span.hi < t159.span.lo then
 (some (.inr (.inr 4))) else
 ((addc s_6 1).bind fun t155 =>
 some (.inl t155))) else
 (some (.inr (.inl ())))
def yB (c0 : Channel) : Option Int :=
 ((jB c0.cells 2 10).bind fun t12 =>
 if t12 = true then
 (some true) else
 ((jB c0.tides 0 4).bind fun t16 =>
 if t16 = true then
 (some true) else
 ((jB (c0.fords.length : Int) 1 3).bind fun t22 =>
 if t22 = true then
 (some true) else
 (if 4 < (c0.sands.length : Int) then
 (some true) else
 (some (decide (8 < (c0.sights.length : Int)))))))).bind fun o =>
 if o = true then
 (some 2) else
 ((iterM FU (yE c0) 0).bind fun o_1 =>
 oc o_1 (fun j => (iterM FU (yD c0) 0).bind fun o_2 =>
 oc o_2 (fun j_1 => (iterM FU (yH c0) 0).bind fun o_3 =>
 oc o_3 (fun j_2 => (iterM FU (yJ c0) 0).bind fun o_4 =>
 oc o_4 (fun j_3 => (iterM FU (yI c0) 0).bind fun o_6 =>
 oc o_6 (fun j_4 => (iterM FU (kx c0) 1).bind fun o_7 =>
 oc o_7 (fun j_5 => (iterM FU (yF c0) 0).bind fun o_8 =>
 oc o_8 (fun j_6 => some 0) (fun r_7 => some r_7)) (fun r_8 => some r_8)) (fun r_9 => some r_9)) (fun r_10 => some r_10)) (fun r_11 => some r_11)) (fun r_12 => some r_12)) (fun r_13 => some r_13))
theorem Q8 (c0 : Channel) (qa0 : Option Addr) (na0 ca0 : Nat) (qa1 : Option Addr) (na1 ca1 : Nat) (qa2 : Option Addr) (na2 ca2 : Nat) (w : World) (hw : HV w (keys [] []) [] [] [(aB qa0, aO qa0, RI.enc c0.fords), (aB qa1, aO qa1, RSa.enc c0.sands), (aB qa2, aO qa2, RSi.enc c0.sights)] w) (hna0 : c0.fords.length = na0) (hqa0 : AOK na0 qa0) (hla0 : na0 ≤ ca0) (hna1 : c0.sands.length = na1) (hqa1 : AOK na1 qa1) (hla1 : na1 ≤ ca1) (hna2 : c0.sights.length = na2) (hqa2 : AOK na2 qa2) (hla2 : na2 ≤ ca2) {res : Int} (hm : yB c0 = some res) :
    Calls Tryz.prog 22 #[.agg #[.int .i64 c0.cells, .int .i64 c0.tides, .slice qa0 na0 ca0, .slice qa1 na1 ca1, .slice qa2 na2 ca2]] w (fun en w' => ∃ l : Unit, en = .returned (.int .i64 res) ∧ (True) ∧ HV w (keys [] []) [] [] [] w') := by
  unfold yB at hm
  refine qN func22 Y ntmps22 Y (e := [(0, _)]) Y hw (jq ?_)
  refine jJ Y Y (fun b h1 => ?_)
  refine jm Y Y (jp (jh (jh ?_)))
  obtain ⟨o, h2, h3⟩ := bindO hm
  refine jP (ι := Unit) (fun l => True) (fun l => [(1, ptr b 0), (35, .bool o)]) (fun l => [kc b #[.int .i64 c0.cells, .int .i64 c0.tides, .slice qa0 na0 ca0, .slice qa1 na1 ca1, .slice qa2 na2 ca2] 33]) (fun l => []) ?_ ?_
  ·replace hm := h2
   refine jg (qg 0 runUnderlying33 Y sizeOf3 Y Y (kX 0 isAgg3 Y Y Y Y ?_))
   obtain ⟨t12, h4, hm⟩ := bindO hm
   refine je [] [] Y Y Y Y Y Y Y call88 (fun w hh => j3 c0.cells 2 10 w (HV.callee (S0 := []) (vs0 := []) hh roN)  h4) (fun l_1 h5 => ?_)
   refine ji Y Y ?_
   refine jN 13 Y (fun h6 => ?_) (fun h6 => ?_)
   ·replace hm := ifT (h6) hm
    refine g_k Y Y Y Y (g_k Y Y Y Y (g_k Y Y Y Y (yK Y Y Y (ji Y Y (g_k Y Y Y Y (g_k Y Y Y Y (g_k Y Y Y Y ?_)))))))
    refine g_k Y Y Y Y (yK Y Y Y (ji Y Y (g_k Y Y Y Y (g_k Y Y Y Y (g_k Y Y Y Y (g_k Y Y Y Y (yK Y Y Y ?_)))))))
    refine ji Y Y (g_k Y Y Y Y (g_k Y Y Y Y (g_k Y Y Y Y (g_k Y Y Y Y (yK Y Y Y (jw ?_))))))
    obtain rfl := sj hm
    exact jl () (trivial) (sE Y) (fun w hh => hh)
   replace hm := ifN h6 hm
   refine jb Y Y (qg 1 runUnderlying33 Y sizeOf3 Y Y (jb Y Y (kX 0 isAgg3 Y Y Y Y (jb Y Y ?_))))
   obtain ⟨t16, h7, hm⟩ := bindO hm
   refine je [] [] Y Y Y Y Y Y Y call88 (fun w hh => j3 c0.tides 0 4 w (HV.callee (S0 := []) (vs0 := []) hh roN)  h7) (fun l_2 h8 => ?_)
   refine yz Y Y Y (ji Y Y ?_)
   refine jN 18 Y (fun h9 => ?_) (fun h9 => ?_)
   ·replace hm := ifT (h9) hm
    refine g_k Y Y Y Y (g_k Y Y Y Y (g_k Y Y Y Y (g_k Y Y Y Y (yK Y Y Y (ji Y Y (g_k Y Y Y Y (g_k Y Y Y Y ?_)))))))
    refine g_k Y Y Y Y (g_k Y Y Y Y (yK Y Y Y (ji Y Y (g_k Y Y Y Y (g_k Y Y Y Y (g_k Y Y Y Y (g_k Y Y Y Y ?_)))))))
    refine yK Y Y Y (jw ?_)
    obtain rfl := sj hm
    exact jl () (trivial) (sE Y) (fun w hh => hh)
   replace hm := ifN h9 hm
   refine jb Y Y (qg 2 runUnderlying33 Y sizeOf22 Y Y (jb Y Y (kX 0 isAgg22 Y Y Y Y (jb Y Y (jc Y Y Y (fun w _ => jD hna0 (runUnderlying22 w) Y) (jb Y Y ?_))))))
   obtain ⟨t22, h10, hm⟩ := bindO hm
   refine je [] [] Y Y Y Y Y Y Y call88 (fun w hh => j3 (c0.fords.length : Int) 1 3 w (HV.callee (S0 := []) (vs0 := []) hh roN)  h10) (fun l_3 h11 => ?_)
   refine yz Y Y Y (ji Y Y ?_)
   refine jN 24 Y (fun h12 => ?_) (fun h12 => ?_)
   ·replace hm := ifT (h12) hm
    refine g_k Y Y Y Y (g_k Y Y Y Y (g_k Y Y Y Y (g_k Y Y Y Y (yK Y Y Y (ji Y Y (g_k Y Y Y Y (g_k Y Y Y Y ?_)))))))
    refine g_k Y Y Y Y (g_k Y Y Y Y (yK Y Y Y (jw ?_)))
    obtain rfl := sj hm
    exact jl () (trivial) (sE Y) (fun w hh => hh)
   replace hm := ifN h12 hm
   refine jb Y Y (qg 3 runUnderlying33 Y sizeOf30 Y Y (jb Y Y (kX 0 isAgg30 Y Y Y Y (jb Y Y (jc Y Y Y (fun w _ => jD hna1 (runUnderlying30 w) Y) (jb Y Y (jc Y Y Y (fun _ _ => Qt Y Y) ?_)))))))
   refine yz Y Y Y (ji Y Y ?_)
   refine jN 30 Y (fun h13 => ?_) (fun h13 => ?_)
   ·replace hm := ifD h13 hm
    refine g_k Y Y Y Y (g_k Y Y Y Y (g_k Y Y Y Y (g_k Y Y Y Y (yK Y Y Y (jw ?_)))))
    obtain rfl := sj hm
    exact jl () (trivial) (sE Y) (fun w hh => hh)
   replace hm := ifE h13 hm
   refine jb Y Y (qg 4 runUnderlying33 Y sizeOf31 Y Y (jb Y Y (kX 0 isAgg31 Y Y Y Y (jb Y Y (jc Y Y Y (fun w _ => jD hna2 (runUnderlying31 w) Y) (jb Y Y (jc Y Y Y (fun _ _ => Qt Y Y) ?_)))))))
   refine yz Y Y Y (jw ?_)
   obtain rfl := sj hm
   exact jl () (trivial) (sE Y) (fun w hh => hh)
  intro l hj
  replace hm := h3
  refine ja ?_
  refine js Y (fun h14 => ?_) (fun h14 => ?_)
  ·replace hm := ifT (h14) hm
   refine jq (jm Y Y (jp (jv (jd ?_))))
   obtain rfl := sj hm
   refine jj Y (fun w hh => (.tmp Y .nil)) (fun w hh => ⟨(), rfl, trivial, hh.se [] [] 3 Y Y Y rfl⟩)
  replace hm := ifN h14 hm
  refine jt (ja (jh (jq (jm Y Y (jp ?_)))))
  obtain ⟨o_1, h15, h16⟩ := bindO hm
  refine jP (ι := Unit) (fun j => o_1 = .inl j) (fun j => [(1, ptr b 0)]) (fun j => [kc b #[.int .i64 c0.cells, .int .i64 c0.tides, .slice qa0 na0 ca0, .slice qa1 na1 ca1, .slice qa2 na2 ca2] 33]) (fun j => []) ?_ ?_
  ·replace hm := h15
   refine jn ?_
   refine jQ (ι := Unit) hm (fun s l_4 => True) (fun s l_4 => [(1, ptr b 0), (3, .int .i64 s)]) (fun s l_4 => [kc b #[.int .i64 c0.cells, .int .i64 c0.tides, .slice qa0 na0 ca0, .slice qa1 na1 ca1, .slice qa2 na2 ca2] 33]) (fun s l_4 => []) () (trivial) (sE Y) (fun w hh => hh) (fun s l_4 r hpl hm h17 => ?_)
   unfold yE at hm
   refine jh (jq (ji Y Y (qg 3 runUnderlying33 Y sizeOf30 Y Y (kX 0 isAgg30 Y Y Y Y (jc Y Y Y (fun w _ => jD hna1 (runUnderlying30 w) Y) (JT Y Y Y (jp ?_)))))))
   refine js Y (fun h18 => ?_) (fun h18 => ?_)
   ·replace hm := ifD h18 hm
    refine jt (ja (jh (jn (jq (qg 3 runUnderlying33 Y sizeOf30 Y Y (kX 0 isAgg30 Y Y Y Y (ji Y Y ?_)))))))
    obtain ⟨t46, h19, hm⟩ := bindO hm
    refine jc Y Y Y (fun w _ => qe h19 (runUnderlying30 w) (sizeOf138 w) Y Y hna1 hqa1) (qg 2 runUnderlying138 Y sizeOf3 Y Y (jc Y Y Y (fun w hh => qQ RSa 2 h19 (isAgg3 w) Y (hh.seg 1 Y) Y Y) ?_))
    obtain ⟨t49, h20, hm⟩ := bindO hm
    refine je [] [] Y Y Y Y Y Y Y call88 (fun w hh => j3 t46.reach 1 2 w (HV.callee (S0 := []) (vs0 := []) hh roN)  h20) (fun l_5 h21 => ?_)
    refine jp ?_
    refine js Y (fun h22 => ?_) (fun h22 => ?_)
    ·replace hm := ifT (h22) hm
     refine jq (jm Y Y (jp (jv (jy (jd (jd (jy ?_)))))))
     obtain rfl := sj hm
     have hbo := h17 _ Y
     subst hbo
     refine jd ?_
     replace hm := ocR h16
     refine jd ?_
     obtain rfl := sj hm
     refine jj Y (fun w hh => (.tmp Y .nil)) (fun w hh => ⟨(), rfl, trivial, hh.se [] [] 3 Y Y Y rfl⟩)
    replace hm := ifN h22 hm
    refine jt (jx (ja (jg (ji Y Y ?_))))
    obtain ⟨t42, h23, hm⟩ := bindO hm
    refine Kc h23 Y Y Y (jm Y Y (jw ?_))
    obtain rfl := sj hm
    refine ja ?_
    exact jE _ () Y (trivial) (sE Y) (fun w hh => hh)
   replace hm := ifE h18 hm
   refine jZ (jk (jk (jI ?_)))
   obtain rfl := sj hm
   have hbo := h17 _ Y
   subst hbo
   exact jl () (Y) (sE Y) (fun w hh => hh)
  intro j hj
  have h24 := hj
  subst h24
  replace hm := ocL h16
  refine ja (jh (jq (jm Y Y (jp ?_))))
  obtain ⟨o_2, h25, h26⟩ := bindO hm
  refine jP (ι := Unit) (fun j_1 => o_2 = .inl j_1) (fun j_1 => [(1, ptr b 0)]) (fun j_1 => [kc b #[.int .i64 c0.cells, .int .i64 c0.tides, .slice qa0 na0 ca0, .slice qa1 na1 ca1, .slice qa2 na2 ca2] 33]) (fun j_1 => []) ?_ ?_
  ·replace hm := h25
   refine jn ?_
   refine jQ (ι := Unit) hm (fun s_1 l_6 => True) (fun s_1 l_6 => [(1, ptr b 0), (4, .int .i64 s_1)]) (fun s_1 l_6 => [kc b #[.int .i64 c0.cells, .int .i64 c0.tides, .slice qa0 na0 ca0, .slice qa1 na1 ca1, .slice qa2 na2 ca2] 33]) (fun s_1 l_6 => []) () (trivial) (sE Y) (fun w hh => hh) (fun s_1 l_6 r_1 hpl hm h27 => ?_)
   unfold yD at hm
   refine jh (jq (ji Y Y (qg 4 runUnderlying33 Y sizeOf31 Y Y (kX 0 isAgg31 Y Y Y Y (jc Y Y Y (fun w _ => jD hna2 (runUnderlying31 w) Y) (JT Y Y Y (jp ?_)))))))
   refine js Y (fun h28 => ?_) (fun h28 => ?_)
   ·replace hm := ifD h28 hm
    refine jt (ja (jh (jn (jh ?_))))
    refine ks none (.free 0 (.hoist 1 (.free 2 (.free 3 (.free 4 (.hoist 5 (.free 6 (.hoist 7 (.one 8 .done))))))))) _ Y (by decide +kernel) (fun w k hh => hh.draw k) (fun w hh => hh) ?_
    refine JW 4 runUnderlying33 sizeOf31 Y Y Y Y (KJ 0 isAgg31 Y Y Y Y Y (yG Y Y Y ?_))
    obtain ⟨t60, h29, hm⟩ := bindO hm
    refine jr Y Y Y Y (fun w _ => qe h29 (runUnderlying31 w) (sizeOf139 w) Y Y hna2 hqa2) (JW 0 runUnderlying139 sizeOf3 Y Y Y Y (jz Y Y Y Y (fun w hh => qQ RSi 0 h29 (isAgg3 w) Y (hh.seg 2 Y) Y Y) (JW 1 runUnderlying33 sizeOf3 Y Y Y Y (KJ 0 isAgg3 Y Y Y Y Y (jH Y ?_)))))
    obtain ⟨t65, h30, hm⟩ := bindO hm
    refine je [] [] Y Y Y Y Y Y Y call88 (fun w hh => j3 t60.after 0 c0.tides w (HV.callee (S0 := []) (vs0 := []) hh roN)  h30) (fun l_7 h31 => ?_)
    refine jo (fun w hh => hh) (jM (ja ?_))
    refine js Y (fun h32 => ?_) (fun h32 => ?_)
    ·replace hm := ifT (h32) hm
     refine jq (jm Y Y (jp (jv (jy (jd (jd (jy ?_)))))))
     obtain rfl := sj hm
     have hbo := h27 _ Y
     subst hbo
     refine jd ?_
     replace hm := ocR h26
     refine jd ?_
     obtain rfl := sj hm
     refine jj Y (fun w hh => (.tmp Y .nil)) (fun w hh => ⟨(), rfl, trivial, hh.se [] [] 3 Y Y Y rfl⟩)
    replace hm := ifN h32 hm
    refine jt (jx (ja (jg (ji Y Y ?_))))
    obtain ⟨t56, h33, hm⟩ := bindO hm
    refine Kc h33 Y Y Y (jm Y Y (jw ?_))
    obtain rfl := sj hm
    refine ja ?_
    exact jE _ () Y (trivial) (sE Y) (fun w hh => hh)
   replace hm := ifE h28 hm
   refine jZ (jk (jk (jI ?_)))
   obtain rfl := sj hm
   have hbo := h27 _ Y
   subst hbo
   exact jl () (Y) (sE Y) (fun w hh => hh)
  intro j_1 hj
  have h34 := hj
  subst h34
  replace hm := ocL h26
  refine ja (jh (jq (jm Y Y (jp ?_))))
  obtain ⟨o_3, h35, h36⟩ := bindO hm
  refine jP (ι := Unit) (fun j_2 => o_3 = .inl j_2) (fun j_2 => [(1, ptr b 0)]) (fun j_2 => [kc b #[.int .i64 c0.cells, .int .i64 c0.tides, .slice qa0 na0 ca0, .slice qa1 na1 ca1, .slice qa2 na2 ca2] 33]) (fun j_2 => []) ?_ ?_
  ·replace hm := h35
   refine jn ?_
   refine jQ (ι := Unit) hm (fun s_2 l_8 => True) (fun s_2 l_8 => [(1, ptr b 0), (5, .int .i64 s_2)]) (fun s_2 l_8 => [kc b #[.int .i64 c0.cells, .int .i64 c0.tides, .slice qa0 na0 ca0, .slice qa1 na1 ca1, .slice qa2 na2 ca2] 33]) (fun s_2 l_8 => []) () (trivial) (sE Y) (fun w hh => hh) (fun s_2 l_8 r_2 hpl hm h37 => ?_)
   unfold yH at hm
   refine jh (jq (ji Y Y (qg 2 runUnderlying33 Y sizeOf22 Y Y (kX 0 isAgg22 Y Y Y Y (jc Y Y Y (fun w _ => jD hna0 (runUnderlying22 w) Y) (JT Y Y Y (jp ?_)))))))
   refine js Y (fun h38 => ?_) (fun h38 => ?_)
   ·replace hm := ifD h38 hm
    refine jt (ja (jh (jn (jh ?_))))
    refine ks none (.free 0 (.hoist 1 (.free 2 (.free 3 (.hoist 4 (.free 5 (.hoist 6 (.free 7 (.one 8 .done))))))))) _ Y (by decide +kernel) (fun w k hh => hh.draw k) (fun w hh => hh) ?_
    refine JW 2 runUnderlying33 sizeOf22 Y Y Y Y (KJ 0 isAgg22 Y Y Y Y Y (yG Y Y Y ?_))
    obtain ⟨t76, h39, hm⟩ := bindO hm
    refine jr Y Y Y Y (fun w _ => qe h39 (runUnderlying22 w) (sizeOf3 w) Y Y hna0 hqa0) (jz Y Y Y Y (fun w hh => qQ RI 0 h39 (isAgg3 w) Y (hh.seg 0 Y) Y (Nat.add_zero _).symm) (JW 0 runUnderlying33 sizeOf3 Y Y Y Y (KJ 0 isAgg3 Y Y Y Y Y ?_)))
    obtain ⟨t80, h40, hm⟩ := bindO hm
    refine jr Y Y Y Y (fun _ _ => zH h40 Y Y) (jH Y ?_)
    obtain ⟨t81, h41, hm⟩ := bindO hm
    refine je [] [] Y Y Y Y Y Y Y call88 (fun w hh => j3 t76 0 t80 w (HV.callee (S0 := []) (vs0 := []) hh roN)  h41) (fun l_9 h42 => ?_)
    refine jo (fun w hh => hh) (jM (ja ?_))
    refine js Y (fun h43 => ?_) (fun h43 => ?_)
    ·replace hm := ifT (h43) hm
     refine jq (jm Y Y (jp (jv (jy (jd (jd (jy ?_)))))))
     obtain rfl := sj hm
     have hbo := h37 _ Y
     subst hbo
     refine jd ?_
     replace hm := ocR h36
     refine jd ?_
     obtain rfl := sj hm
     refine jj Y (fun w hh => (.tmp Y .nil)) (fun w hh => ⟨(), rfl, trivial, hh.se [] [] 3 Y Y Y rfl⟩)
    replace hm := ifN h43 hm
    refine jt (jx (ja (jg (ji Y Y ?_))))
    obtain ⟨t72, h44, hm⟩ := bindO hm
    refine Kc h44 Y Y Y (jm Y Y (jw ?_))
    obtain rfl := sj hm
    refine ja ?_
    exact jE _ () Y (trivial) (sE Y) (fun w hh => hh)
   replace hm := ifE h38 hm
   refine jZ (jk (jk (jI ?_)))
   obtain rfl := sj hm
   have hbo := h37 _ Y
   subst hbo
   exact jl () (Y) (sE Y) (fun w hh => hh)
  intro j_2 hj
  have h45 := hj
  subst h45
  replace hm := ocL h36
  refine ja (jh (jq (jm Y Y (jp ?_))))
  obtain ⟨o_4, h46, h47⟩ := bindO hm
  refine jP (ι := Unit) (fun j_3 => o_4 = .inl j_3) (fun j_3 => [(1, ptr b 0)]) (fun j_3 => [kc b #[.int .i64 c0.cells, .int .i64 c0.tides, .slice qa0 na0 ca0, .slice qa1 na1 ca1, .slice qa2 na2 ca2] 33]) (fun j_3 => []) ?_ ?_
  ·replace hm := h46
   refine jn ?_
   refine jQ (ι := Unit) hm (fun s_3 l_10 => True) (fun s_3 l_10 => [(1, ptr b 0), (6, .int .i64 s_3)]) (fun s_3 l_10 => [kc b #[.int .i64 c0.cells, .int .i64 c0.tides, .slice qa0 na0 ca0, .slice qa1 na1 ca1, .slice qa2 na2 ca2] 33]) (fun s_3 l_10 => []) () (trivial) (sE Y) (fun w hh => hh) (fun s_3 l_10 r_3 hpl hm h48 => ?_)
   unfold yJ at hm
   refine jh (jq (ji Y Y (qg 3 runUnderlying33 Y sizeOf30 Y Y (kX 0 isAgg30 Y Y Y Y (jc Y Y Y (fun w _ => jD hna1 (runUnderlying30 w) Y) (JT Y Y Y (jp ?_)))))))
   refine js Y (fun h49 => ?_) (fun h49 => ?_)
   ·replace hm := ifD h49 hm
    refine jt (ja (jh (jn (jh ?_))))
    obtain ⟨o_5, h50, h51⟩ := bindO hm
    refine jP (ι := Unit) (fun l_11 => True) (fun l_11 => [(1, ptr b 0), (6, .int .i64 s_3), (112, .bool o_5)]) (fun l_11 => [kc b #[.int .i64 c0.cells, .int .i64 c0.tides, .slice qa0 na0 ca0, .slice qa1 na1 ca1, .slice qa2 na2 ca2] 33]) (fun l_11 => []) ?_ ?_
    ·replace hm := h50
     refine ks none (.free 0 (.hoist 1 (.free 2 (.free 3 (.free 4 (.free 5 (.hoist 6 (.free 7 (.hoist 8 (.free 9 (.one 10 (.free 11 (.free 12 (.hoist 13 (.free 14 (.free 15 (.free 16 (.free 17 (.hoist 18 (.free 19 (.hoist 20 (.free 21 (.one 22 (.free 23 .done)))))))))))))))))))))))) _ Y (by decide +kernel) (fun w k hh => hh.draw k) (fun w hh => hh) ?_
     refine JW 3 runUnderlying33 sizeOf30 Y Y Y Y (KJ 0 isAgg30 Y Y Y Y Y (yG Y Y Y ?_))
     obtain ⟨t92, h52, hm⟩ := bindO hm
     refine jr Y Y Y Y (fun w _ => qe h52 (runUnderlying30 w) (sizeOf138 w) Y Y hna1 hqa1) (JW 0 runUnderlying138 sizeOf50 Y Y Y Y (JW 0 runUnderlying50 sizeOf3 Y Y Y Y (jz Y Y Y Y (fun w hh => qQ RSa 0 h52 (isAgg3 w) Y (hh.seg 1 Y) Y (by first | rfl | simp only [Nat.add_assoc])) (JW 0 runUnderlying33 sizeOf3 Y Y Y Y (KJ 0 isAgg3 Y Y Y Y Y ?_)))))
     obtain ⟨t98, h53, hm⟩ := bindO hm
     refine jr Y Y Y Y (fun _ _ => zH h53 Y Y) (jH Y ?_)
     obtain ⟨t99, h54, hm⟩ := bindO hm
     refine je [] [] Y Y Y Y Y Y Y call88 (fun w hh => j3 t92.span.lo 0 t98 w (HV.callee (S0 := []) (vs0 := []) hh roN)  h54) (fun l_12 h55 => ?_)
     refine jo (fun w hh => hh) (yG Y Y Y ?_)
     refine jN 100 Y (fun h56 => ?_) (fun h56 => ?_)
     ·replace hm := ifT (h56) hm
      refine jA Y Y Y Y Y Y Y (yw Y Y Y Y Y Y Y (jA Y Y Y Y Y Y Y (jA Y Y Y Y Y Y Y (jA Y Y Y Y Y Y Y (jA Y Y Y Y Y Y Y (yw Y Y Y Y Y Y Y (jA Y Y Y Y Y Y Y ?_)))))))
      refine yw Y Y Y Y Y Y Y (jA Y Y Y Y Y Y Y (jH Y (g_k Y Y Y Y (jo (fun w hh => hh) (jr Y Y Y Y (fun _ _ => zP Y Y) (jM ?_))))))
      obtain rfl := sj hm
      exact jl () (trivial) (sE Y) (fun w hh => hh)
     replace hm := ifN h56 hm
     refine jC Y Y Y Y Y Y (fun w _ => jG 3 (runUnderlying33 w) Y (sizeOf30 w) Y) (k6 Y Y Y Y Y Y (fun w hh => jF (isAgg30 w) Y (hh.cell 0 Y Y)) (jC Y Y Y Y Y Y (fun _ _ => jT Y) ?_))
     obtain ⟨t104, h57, hm⟩ := bindO hm
     refine jC Y Y Y Y Y Y (fun w _ => qe h57 (runUnderlying30 w) (sizeOf138 w) Y Y hna1 hqa1) (jC Y Y Y Y Y Y (fun w _ => jG 0 (runUnderlying138 w) Y (sizeOf50 w) Y) (jC Y Y Y Y Y Y (fun w _ => jG 1 (runUnderlying50 w) Y (sizeOf3 w) Y) (k6 Y Y Y Y Y Y (fun w hh => qQ RSa 1 h57 (isAgg3 w) Y (hh.seg 1 Y) Y (by first | rfl | simp only [Nat.add_assoc])) (jC Y Y Y Y Y Y (fun w _ => jG 0 (runUnderlying33 w) Y (sizeOf3 w) Y) (k6 Y Y Y Y Y Y (fun w hh => jF (isAgg3 w) Y (hh.cell 0 Y Y)) ?_)))))
     obtain ⟨t110, h58, hm⟩ := bindO hm
     refine jC Y Y Y Y Y Y (fun _ _ => zH h58 Y Y) (jH Y (jb Y Y ?_))
     obtain ⟨t111, h59, hm⟩ := bindO hm
     refine je [] [] Y Y Y Y Y Y Y call88 (fun w hh => j3 t104.span.hi 0 t110 w (HV.callee (S0 := []) (vs0 := []) hh roN)  h59) (fun l_13 h60 => ?_)
     refine jo (fun w hh => hh) (jr Y Y Y Y (fun _ _ => yy Y Y) (jM ?_))
     obtain rfl := sj hm
     exact jl () (trivial) (sE Y) (fun w hh => hh)
    intro l_11 hj
    replace hm := h51
    refine ja ?_
    refine js Y (fun h61 => ?_) (fun h61 => ?_)
    ·replace hm := ifT (h61) hm
     refine jq (jm Y Y (jp (jv (jy (jd (jd (jy ?_)))))))
     obtain rfl := sj hm
     have hbo := h48 _ Y
     subst hbo
     refine jd ?_
     replace hm := ocR h47
     refine jd ?_
     obtain rfl := sj hm
     refine jj Y (fun w hh => (.tmp Y .nil)) (fun w hh => ⟨(), rfl, trivial, hh.se [] [] 3 Y Y Y rfl⟩)
    replace hm := ifN h61 hm
    refine jt (jx (ja (jg (ji Y Y ?_))))
    obtain ⟨t88, h62, hm⟩ := bindO hm
    refine Kc h62 Y Y Y (jm Y Y (jw ?_))
    obtain rfl := sj hm
    refine ja ?_
    exact jE _ () Y (trivial) (sE Y) (fun w hh => hh)
   replace hm := ifE h49 hm
   refine jZ (jk (jk (jI ?_)))
   obtain rfl := sj hm
   have hbo := h48 _ Y
   subst hbo
   exact jl () (Y) (sE Y) (fun w hh => hh)
  intro j_3 hj
  have h63 := hj
  subst h63
  replace hm := ocL h47
  refine ja (jh (jq (jm Y Y (jp ?_))))
  obtain ⟨o_6, h64, h65⟩ := bindO hm
  refine jP (ι := Unit) (fun j_4 => o_6 = .inl j_4) (fun j_4 => [(1, ptr b 0)]) (fun j_4 => [kc b #[.int .i64 c0.cells, .int .i64 c0.tides, .slice qa0 na0 ca0, .slice qa1 na1 ca1, .slice qa2 na2 ca2] 33]) (fun j_4 => []) ?_ ?_
  ·replace hm := h64
   refine jn ?_
   refine jQ (ι := Unit) hm (fun s_4 l_14 => True) (fun s_4 l_14 => [(1, ptr b 0), (7, .int .i64 s_4)]) (fun s_4 l_14 => [kc b #[.int .i64 c0.cells, .int .i64 c0.tides, .slice qa0 na0 ca0, .slice qa1 na1 ca1, .slice qa2 na2 ca2] 33]) (fun s_4 l_14 => []) () (trivial) (sE Y) (fun w hh => hh) (fun s_4 l_14 r_4 hpl hm h66 => ?_)
   unfold yI at hm
   refine jh (jq (ji Y Y (qg 4 runUnderlying33 Y sizeOf31 Y Y (kX 0 isAgg31 Y Y Y Y (jc Y Y Y (fun w _ => jD hna2 (runUnderlying31 w) Y) (JT Y Y Y (jp ?_)))))))
   refine js Y (fun h67 => ?_) (fun h67 => ?_)
   ·replace hm := ifD h67 hm
    refine jt (ja (jh (jn (jh ?_))))
    refine ks none (.free 0 (.hoist 1 (.free 2 (.free 3 (.free 4 (.hoist 5 (.free 6 (.hoist 7 (.free 8 (.one 9 .done)))))))))) _ Y (by decide +kernel) (fun w k hh => hh.draw k) (fun w hh => hh) ?_
    refine JW 4 runUnderlying33 sizeOf31 Y Y Y Y (KJ 0 isAgg31 Y Y Y Y Y (yG Y Y Y ?_))
    obtain ⟨t123, h68, hm⟩ := bindO hm
    refine jr Y Y Y Y (fun w _ => qe h68 (runUnderlying31 w) (sizeOf139 w) Y Y hna2 hqa2) (JW 1 runUnderlying139 sizeOf3 Y Y Y Y (jz Y Y Y Y (fun w hh => qQ RSi 1 h68 (isAgg3 w) Y (hh.seg 2 Y) Y Y) (JW 0 runUnderlying33 sizeOf3 Y Y Y Y (KJ 0 isAgg3 Y Y Y Y Y ?_))))
    obtain ⟨t128, h69, hm⟩ := bindO hm
    refine jr Y Y Y Y (fun _ _ => zH h69 Y Y) (jH Y ?_)
    obtain ⟨t129, h70, hm⟩ := bindO hm
    refine je [] [] Y Y Y Y Y Y Y call88 (fun w hh => j3 t123.cell 0 t128 w (HV.callee (S0 := []) (vs0 := []) hh roN)  h70) (fun l_15 h71 => ?_)
    refine jo (fun w hh => hh) (jM (ja ?_))
    refine js Y (fun h72 => ?_) (fun h72 => ?_)
    ·replace hm := ifT (h72) hm
     refine jq (jm Y Y (jp (jv (jy (jd (jd (jy ?_)))))))
     obtain rfl := sj hm
     have hbo := h66 _ Y
     subst hbo
     refine jd ?_
     replace hm := ocR h65
     refine jd ?_
     obtain rfl := sj hm
     refine jj Y (fun w hh => (.tmp Y .nil)) (fun w hh => ⟨(), rfl, trivial, hh.se [] [] 3 Y Y Y rfl⟩)
    replace hm := ifN h72 hm
    refine jt (jx (ja (jg (ji Y Y ?_))))
    obtain ⟨t119, h73, hm⟩ := bindO hm
    refine Kc h73 Y Y Y (jm Y Y (jw ?_))
    obtain rfl := sj hm
    refine ja ?_
    exact jE _ () Y (trivial) (sE Y) (fun w hh => hh)
   replace hm := ifE h67 hm
   refine jZ (jk (jk (jI ?_)))
   obtain rfl := sj hm
   have hbo := h66 _ Y
   subst hbo
   exact jl () (Y) (sE Y) (fun w hh => hh)
  intro j_4 hj
  have h74 := hj
  subst h74
  replace hm := ocL h65
  refine ja (jh (jq (jm Y Y (jp ?_))))
  obtain ⟨o_7, h75, h76⟩ := bindO hm
  refine jP (ι := Unit) (fun j_5 => o_7 = .inl j_5) (fun j_5 => [(1, ptr b 0)]) (fun j_5 => [kc b #[.int .i64 c0.cells, .int .i64 c0.tides, .slice qa0 na0 ca0, .slice qa1 na1 ca1, .slice qa2 na2 ca2] 33]) (fun j_5 => []) ?_ ?_
  ·replace hm := h75
   refine jn ?_
   refine jQ (ι := Unit) hm (fun s_5 l_16 => True) (fun s_5 l_16 => [(1, ptr b 0), (8, .int .i64 s_5)]) (fun s_5 l_16 => [kc b #[.int .i64 c0.cells, .int .i64 c0.tides, .slice qa0 na0 ca0, .slice qa1 na1 ca1, .slice qa2 na2 ca2] 33]) (fun s_5 l_16 => []) () (trivial) (sE Y) (fun w hh => hh) (fun s_5 l_16 r_5 hpl hm h77 => ?_)
   unfold kx at hm
   refine jh (jq (ji Y Y (qg 2 runUnderlying33 Y sizeOf22 Y Y (kX 0 isAgg22 Y Y Y Y (jc Y Y Y (fun w _ => jD hna0 (runUnderlying22 w) Y) (JT Y Y Y (jp ?_)))))))
   refine js Y (fun h78 => ?_) (fun h78 => ?_)
   ·replace hm := ifD h78 hm
    refine jt (ja (jh (jn (jh ?_))))
    refine ks none (.free 0 (.hoist 1 (.free 2 (.free 3 (.hoist 4 (.free 5 (.hoist 6 (.free 7 (.free 8 (.free 9 (.hoist 10 (.free 11 .done)))))))))))) _ Y (by decide +kernel) (fun w k hh => hh.draw k) (fun w hh => hh) ?_
    refine JW 2 runUnderlying33 sizeOf22 Y Y Y Y (KJ 0 isAgg22 Y Y Y Y Y (yG Y Y Y ?_))
    obtain ⟨t140, h79, hm⟩ := bindO hm
    refine jr Y Y Y Y (fun w _ => qe h79 (runUnderlying22 w) (sizeOf3 w) Y Y hna0 hqa0) (jz Y Y Y Y (fun w hh => qQ RI 0 h79 (isAgg3 w) Y (hh.seg 0 Y) Y (Nat.add_zero _).symm) (JW 2 runUnderlying33 sizeOf22 Y Y Y Y (KJ 0 isAgg22 Y Y Y Y Y (yG Y Y Y ?_))))
    obtain ⟨t145, h80, hm⟩ := bindO hm
    refine jr Y Y Y Y (fun _ _ => zH h80 Y Y) ?_
    obtain ⟨t146, h81, hm⟩ := bindO hm
    refine jr Y Y Y Y (fun w _ => qe h81 (runUnderlying22 w) (sizeOf3 w) Y Y hna0 hqa0) (jz Y Y Y Y (fun w hh => qQ RI 0 h81 (isAgg3 w) Y (hh.seg 0 Y) Y (Nat.add_zero _).symm) (jr Y Y Y Y (fun _ _ => ZK Y Y) (jM (ja ?_))))
    refine js Y (fun h82 => ?_) (fun h82 => ?_)
    ·replace hm := ifD h82 hm
     refine jq (jm Y Y (jp (jv (jy (jd (jd (jy ?_)))))))
     obtain rfl := sj hm
     have hbo := h77 _ Y
     subst hbo
     refine jd ?_
     replace hm := ocR h76
     refine jd ?_
     obtain rfl := sj hm
     refine jj Y (fun w hh => (.tmp Y .nil)) (fun w hh => ⟨(), rfl, trivial, hh.se [] [] 3 Y Y Y rfl⟩)
    replace hm := ifE h82 hm
    refine jt (jx (ja (jg (ji Y Y ?_))))
    obtain ⟨t136, h83, hm⟩ := bindO hm
    refine Kc h83 Y Y Y (jm Y Y (jw ?_))
    obtain rfl := sj hm
    refine ja ?_
    exact jE _ () Y (trivial) (sE Y) (fun w hh => hh)
   replace hm := ifE h78 hm
   refine jZ (jk (jk (jI ?_)))
   obtain rfl := sj hm
   have hbo := h77 _ Y
   subst hbo
   exact jl () (Y) (sE Y) (fun w hh => hh)
  intro j_5 hj
  have h84 := hj
  subst h84
  replace hm := ocL h76
  refine ja (jh (jq (jm Y Y (jp ?_))))
  obtain ⟨o_8, h85, h86⟩ := bindO hm
  refine jP (ι := Unit) (fun j_6 => o_8 = .inl j_6) (fun j_6 => []) (fun j_6 => [kc b #[.int .i64 c0.cells, .int .i64 c0.tides, .slice qa0 na0 ca0, .slice qa1 na1 ca1, .slice qa2 na2 ca2] 33]) (fun j_6 => []) ?_ ?_
  ·replace hm := h85
   refine jn ?_
   refine jQ (ι := Unit) hm (fun s_6 l_17 => True) (fun s_6 l_17 => [(1, ptr b 0), (9, .int .i64 s_6)]) (fun s_6 l_17 => [kc b #[.int .i64 c0.cells, .int .i64 c0.tides, .slice qa0 na0 ca0, .slice qa1 na1 ca1, .slice qa2 na2 ca2] 33]) (fun s_6 l_17 => []) () (trivial) (sE Y) (fun w hh => hh) (fun s_6 l_17 r_6 hpl hm h87 => ?_)
   unfold yF at hm
   refine jh (jq (ji Y Y (qg 3 runUnderlying33 Y sizeOf30 Y Y (kX 0 isAgg30 Y Y Y Y (jc Y Y Y (fun w _ => jD hna1 (runUnderlying30 w) Y) (JT Y Y Y (jp ?_)))))))
   refine js Y (fun h88 => ?_) (fun h88 => ?_)
   ·replace hm := ifD h88 hm
    refine jt (ja (jh (jn (jh ?_))))
    refine ks none (.free 0 (.hoist 1 (.free 2 (.free 3 (.free 4 (.free 5 (.hoist 6 (.free 7 (.hoist 8 (.free 9 (.free 10 (.free 11 (.free 12 (.hoist 13 (.free 14 .done))))))))))))))) _ Y (by decide +kernel) (fun w k hh => hh.draw k) (fun w hh => hh) ?_
    refine JW 3 runUnderlying33 sizeOf30 Y Y Y Y (KJ 0 isAgg30 Y Y Y Y Y (yG Y Y Y ?_))
    obtain ⟨t159, h89, hm⟩ := bindO hm
    refine jr Y Y Y Y (fun w _ => qe h89 (runUnderlying30 w) (sizeOf138 w) Y Y hna1 hqa1) (JW 0 runUnderlying138 sizeOf50 Y Y Y Y (JW 0 runUnderlying50 sizeOf3 Y Y Y Y (jz Y Y Y Y (fun w hh => qQ RSa 0 h89 (isAgg3 w) Y (hh.seg 1 Y) Y (by first | rfl | simp only [Nat.add_assoc])) (JW 3 runUnderlying33 sizeOf30 Y Y Y Y (KJ 0 isAgg30 Y Y Y Y Y (yG Y Y Y ?_))))))
    obtain ⟨t166, h90, hm⟩ := bindO hm
    refine jr Y Y Y Y (fun w _ => qe h90 (runUnderlying30 w) (sizeOf138 w) Y Y hna1 hqa1) (JW 0 runUnderlying138 sizeOf50 Y Y Y Y (JW 1 runUnderlying50 sizeOf3 Y Y Y Y (jz Y Y Y Y (fun w hh => qQ RSa 1 h90 (isAgg3 w) Y (hh.seg 1 Y) Y (by first | rfl | simp only [Nat.add_assoc])) (jr Y Y Y Y (fun _ _ => Qt Y Y) (jM (ja ?_))))))
    refine js Y (fun h91 => ?_) (fun h91 => ?_)
    ·replace hm := ifD h91 hm
     refine jq (jm Y Y (jp (jv (jy (jd (jd (jy ?_)))))))
     obtain rfl := sj hm
     have hbo := h87 _ Y
     subst hbo
     refine jd ?_
     replace hm := ocR h86
     refine jd ?_
     obtain rfl := sj hm
     refine jj Y (fun w hh => (.tmp Y .nil)) (fun w hh => ⟨(), rfl, trivial, hh.se [] [] 3 Y Y Y rfl⟩)
    replace hm := ifE h91 hm
    refine jt (jx (ja (jg (ji Y Y ?_))))
    obtain ⟨t155, h92, hm⟩ := bindO hm
    refine Kc h92 Y Y Y (jm Y Y (jw ?_))
    obtain rfl := sj hm
    refine ja ?_
    exact jE _ () Y (trivial) (sE Y) (fun w hh => hh)
   replace hm := ifE h88 hm
   refine jZ (jk (jk (jI ?_)))
   obtain rfl := sj hm
   have hbo := h87 _ Y
   subst hbo
   exact jl () (Y) (.nil) (fun w hh => hh)
  intro j_6 hj
  have h93 := hj
  subst h93
  replace hm := ocL h86
  refine ja (jq (jm Y Y (jp (jv ?_))))
  obtain rfl := sj hm
  refine jj Y (fun w hh => (.tmp Y .nil)) (fun w hh => ⟨(), rfl, trivial, hh.se [] [] 3 Y Y Y rfl⟩)
structure kH where
  n3 : Int
  i4 : Int
def kK (c0 : Channel) (s : kH) : Option (kH ⊕ Int) :=
 if s.i4 < (c0.sights.length : Int) then
 ((mulc 2 s.n3).bind fun t13 =>
 (addc s.i4 1).bind fun t11 =>
 some (.inl (⟨t13, t11⟩ : kH))) else
 (some (.inr s.n3))
def jU (c0 : Channel) : Option Int :=
 (iterM FU (kK c0) (⟨1, 0⟩ : kH)).bind fun o =>
 (subc o 1).bind fun t15 =>
 some t15
theorem JP (c0 : Channel) (qa0 : Option Addr) (na0 ca0 : Nat) (qa1 : Option Addr) (na1 ca1 : Nat) (qa2 : Option Addr) (na2 ca2 : Nat) (w : World) (hw : HV w (keys [] []) [] [] [(aB qa0, aO qa0, RI.enc c0.fords), (aB qa1, aO qa1, RSa.enc c0.sands), (aB qa2, aO qa2, RSi.enc c0.sights)] w) (hna0 : c0.fords.length = na0) (hqa0 : AOK na0 qa0) (hla0 : na0 ≤ ca0) (hna1 : c0.sands.length = na1) (hqa1 : AOK na1 qa1) (hla1 : na1 ≤ ca1) (hna2 : c0.sights.length = na2) (hqa2 : AOK na2 qa2) (hla2 : na2 ≤ ca2) {res : Int} (hm : jU c0 = some res) :
    Calls Tryz.prog 24 #[.agg #[.int .i64 c0.cells, .int .i64 c0.tides, .slice qa0 na0 ca0, .slice qa1 na1 ca1, .slice qa2 na2 ca2]] w (fun en w' => ∃ l : Unit, en = .returned (.int .i64 res) ∧ (True) ∧ HV w (keys [] []) [] [] [] w') := by
  unfold jU at hm
  refine qN func24 Y ntmps24 Y (e := [(0, _)]) Y hw (jq ?_)
  refine jJ Y Y (fun b h1 => ?_)
  refine jm Y Y (ql (jm Y Y (jp (jh (jq (jm Y Y (jp ?_)))))))
  obtain ⟨o, h2, h3⟩ := bindO hm
  refine jP (ι := Unit) (fun l => True) (fun l => [(3, .int .i64 o)]) (fun l => [kc b #[.int .i64 c0.cells, .int .i64 c0.tides, .slice qa0 na0 ca0, .slice qa1 na1 ca1, .slice qa2 na2 ca2] 33]) (fun l => []) ?_ ?_
  ·replace hm := h2
   refine jn ?_
   refine jQ (ι := Unit) hm (fun s l_1 => True) (fun s l_1 => [(1, ptr b 0), (3, .int .i64 s.n3), (4, .int .i64 s.i4)]) (fun s l_1 => [kc b #[.int .i64 c0.cells, .int .i64 c0.tides, .slice qa0 na0 ca0, .slice qa1 na1 ca1, .slice qa2 na2 ca2] 33]) (fun s l_1 => []) () (trivial) (sE Y) (fun w hh => hh) (fun s l_1 r hpl hm h4 => ?_)
   unfold kK at hm
   refine jh (jq (ji Y Y (qg 4 runUnderlying33 Y sizeOf31 Y Y (kX 0 isAgg31 Y Y Y Y (jc Y Y Y (fun w _ => jD hna2 (runUnderlying31 w) Y) (JT Y Y Y (jp ?_)))))))
   refine js Y (fun h5 => ?_) (fun h5 => ?_)
   ·replace hm := ifD h5 hm
    refine jt (ja (jh (jn (jg (ji Y Y ?_)))))
    obtain ⟨t13, h6, hm⟩ := bindO hm
    refine jc Y Y Y (fun _ _ => jaU h6 Y Y) (jm Y Y (jw (jx (ja (jg (ji Y Y ?_))))))
    obtain ⟨t11, h7, hm⟩ := bindO hm
    refine Kc h7 Y Y Y (jm Y Y (jw ?_))
    obtain rfl := sj hm
    refine ja ?_
    exact jE _ () Y (trivial) (sE Y) (fun w hh => hh)
   replace hm := ifE h5 hm
   refine jZ (jk (jk (jI ?_)))
   obtain rfl := sj hm
   have hbo := h4 _ Y
   subst hbo
   exact jl () (trivial) (sE Y) (fun w hh => hh)
  intro l hj
  replace hm := h3
  refine ja (jq (ji Y Y ?_))
  obtain ⟨t15, h8, hm⟩ := bindO hm
  refine jc Y Y Y (fun _ _ => zH h8 Y Y) (jm Y Y (jp (jv ?_)))
  obtain rfl := sj hm
  refine jj Y (fun w hh => (.tmp Y .nil)) (fun w hh => ⟨(), rfl, trivial, hh.se [] [] 3 Y Y Y rfl⟩)
def yn (l0 : (List Int)) (n1 : Int) (s : Int) : Option (Int ⊕ (Unit ⊕ Bool)) :=
 if s < (l0.length : Int) then
 ((ix l0 s).bind fun t14 =>
 if t14 = n1 then
 (some (.inr (.inr true))) else
 ((addc s 1).bind fun t11 =>
 some (.inl t11))) else
 (some (.inr (.inl ())))
def zl (l0 : (List Int)) (n1 : Int) : Option Bool :=
 (iterM FU (yn l0 n1) 0).bind fun o =>
 oc o (fun j => some false) (fun r_1 => some r_1)
theorem Yu (l0 : (List Int)) (n1 : Int) (qa0 : Option Addr) (na0 ca0 : Nat) (w : World) (hw : HV w (keys [] []) [] [] [(aB qa0, aO qa0, RI.enc l0)] w) (hna0 : l0.length = na0) (hqa0 : AOK na0 qa0) (hla0 : na0 ≤ ca0) {res : Bool} (hm : zl l0 n1 = some res) :
    Calls Tryz.prog 105 #[.slice qa0 na0 ca0, .int .i64 n1] w (fun en w' => ∃ l : Unit, en = .returned (.bool res) ∧ (True) ∧ HV w (keys [] []) [] [] [] w') := by
  unfold zl at hm
  refine qN func105 Y ntmps105 Y (e := [(0, _), (1, _)]) Y hw (jq (jm Y Y (jp (jh (jq (jm Y Y (jp ?_)))))))
  obtain ⟨o, h1, h2⟩ := bindO hm
  refine jP (ι := Unit) (fun j => o = .inl j) (fun j => []) (fun j => []) (fun j => []) ?_ ?_
  ·replace hm := h1
   refine jn ?_
   refine jQ (ι := Unit) hm (fun s l => True) (fun s l => [(0, .slice qa0 na0 ca0), (1, .int .i64 n1), (5, .int .i64 s)]) (fun s l => []) (fun s l => []) () (trivial) (sE Y) (fun w hh => hh) (fun s l r hpl hm h3 => ?_)
   unfold yn at hm
   refine jh (jq (ji Y Y (ji Y Y (jc Y Y Y (fun w _ => jD hna0 (runUnderlying22 w) Y) (JT Y Y Y (jp ?_))))))
   refine js Y (fun h4 => ?_) (fun h4 => ?_)
   ·replace hm := ifD h4 hm
    refine jt (ja (jh (jn (jq (ji Y Y (ji Y Y ?_))))))
    obtain ⟨t14, h5, hm⟩ := bindO hm
    refine jc Y Y Y (fun w _ => qe h5 (runUnderlying22 w) (sizeOf3 w) Y Y hna0 hqa0) (jc Y Y Y (fun w hh => qQ RI 0 h5 (isAgg3 w) Y (hh.seg 0 Y) Y (Nat.add_zero _).symm) (ji Y Y (jc Y Y Y (fun _ _ => zT Y Y) (jp ?_))))
    refine js Y (fun h6 => ?_) (fun h6 => ?_)
    ·replace hm := ifD h6 hm
     refine jq (jm Y Y (jp (jv (jy (jd (jd (jy ?_)))))))
     obtain rfl := sj hm
     have hbo := h3 _ Y
     subst hbo
     refine jd ?_
     replace hm := ocR h2
     refine jd ?_
     obtain rfl := sj hm
     refine jj Y (fun w hh => (.tmp Y .nil)) (fun w hh => ⟨(), rfl, trivial, hh.se [] [] 1 Y Y Y rfl⟩)
    replace hm := ifE h6 hm
    refine jt (jx (ja (jg (ji Y Y ?_))))
    obtain ⟨t11, h7, hm⟩ := bindO hm
    refine Kc h7 Y Y Y (jm Y Y (jw ?_))
    obtain rfl := sj hm
    refine ja ?_
    exact jE _ () Y (trivial) (sE Y) (fun w hh => hh)
   replace hm := ifE h4 hm
   refine jZ (jk (jk (jI ?_)))
   obtain rfl := sj hm
   have hbo := h3 _ Y
   subst hbo
   exact jl () (Y) (.nil) (fun w hh => hh)
  intro j hj
  have h8 := hj
  subst h8
  replace hm := ocL h2
  refine ja (jq (jm Y Y (jp (jv ?_))))
  obtain rfl := sj hm
  refine jj Y (fun w hh => (.tmp Y .nil)) (fun w hh => ⟨(), rfl, trivial, hh.se [] [] 1 Y Y Y rfl⟩)
structure qB where
  set3 : Int
  i9 : Int
def qE (c0 : Channel) (after1 : Int) (l2 : (List Int)) (s : qB) : Option (qB ⊕ (Unit ⊕ Bool)) :=
 if s.i9 < (c0.sights.length : Int) then
 ((ix c0.sights s.i9).bind fun t21 =>
 ((remc s.set3 2).bind fun t24 =>
 if t24 = 1 then
 (if t21.after = after1 then
 ((zl l2 t21.cell).bind fun t36 =>
 some (!(t36 == t21.upright))) else
 (some false)) else
 (some false)).bind fun o_1 =>
 if o_1 = true then
 (some (.inr (.inr false))) else
 ((quoc s.set3 2).bind fun t42 =>
 (addc s.i9 1).bind fun t17 =>
 some (.inl (⟨t42, t17⟩ : qB)))) else
 (some (.inr (.inl ())))
def kw (c0 : Channel) (after1 : Int) (l2 : (List Int)) (set3 : Int) : Option Bool :=
 (iterM FU (qE c0 after1 l2) (⟨set3, 0⟩ : qB)).bind fun o =>
 oc o (fun j => some true) (fun r_1 => some r_1)
theorem Kz (c0 : Channel) (after1 : Int) (l2 : (List Int)) (set3 : Int) (qa0 : Option Addr) (na0 ca0 : Nat) (qa1 : Option Addr) (na1 ca1 : Nat) (qa2 : Option Addr) (na2 ca2 : Nat) (qa3 : Option Addr) (na3 ca3 : Nat) (w : World) (hw : HV w (keys [] []) [] [] [(aB qa0, aO qa0, RI.enc c0.fords), (aB qa1, aO qa1, RSa.enc c0.sands), (aB qa2, aO qa2, RSi.enc c0.sights), (aB qa3, aO qa3, RI.enc l2)] w) (hna0 : c0.fords.length = na0) (hqa0 : AOK na0 qa0) (hla0 : na0 ≤ ca0) (hna1 : c0.sands.length = na1) (hqa1 : AOK na1 qa1) (hla1 : na1 ≤ ca1) (hna2 : c0.sights.length = na2) (hqa2 : AOK na2 qa2) (hla2 : na2 ≤ ca2) (hna3 : l2.length = na3) (hqa3 : AOK na3 qa3) (hla3 : na3 ≤ ca3) {res : Bool} (hm : kw c0 after1 l2 set3 = some res) :
    Calls Tryz.prog 102 #[.agg #[.int .i64 c0.cells, .int .i64 c0.tides, .slice qa0 na0 ca0, .slice qa1 na1 ca1, .slice qa2 na2 ca2], .int .i64 after1, .slice qa3 na3 ca3, .int .i64 set3] w (fun en w' => ∃ l : Unit, en = .returned (.bool res) ∧ (True) ∧ HV w (keys [] []) [] [] [] w') := by
  unfold kw at hm
  refine qN func102 Y ntmps102 Y (e := [(0, _), (1, _), (2, _), (3, _)]) Y hw (jq ?_)
  refine jJ Y Y (fun b h1 => ?_)
  refine jm Y Y (jp (jh (jq (jm Y Y (jp ?_)))))
  obtain ⟨o, h2, h3⟩ := bindO hm
  refine jP (ι := Unit) (fun j => o = .inl j) (fun j => []) (fun j => [kc b #[.int .i64 c0.cells, .int .i64 c0.tides, .slice qa0 na0 ca0, .slice qa1 na1 ca1, .slice qa2 na2 ca2] 33]) (fun j => []) ?_ ?_
  ·replace hm := h2
   refine jn ?_
   refine jQ (ι := Unit) hm (fun s l => True) (fun s l => [(1, .int .i64 after1), (2, .slice qa3 na3 ca3), (3, .int .i64 s.set3), (4, ptr b 0), (9, .int .i64 s.i9)]) (fun s l => [kc b #[.int .i64 c0.cells, .int .i64 c0.tides, .slice qa0 na0 ca0, .slice qa1 na1 ca1, .slice qa2 na2 ca2] 33]) (fun s l => []) () (trivial) (sE Y) (fun w hh => hh) (fun s l r hpl hm h4 => ?_)
   unfold qE at hm
   refine jh (jq (ji Y Y (qg 4 runUnderlying33 Y sizeOf31 Y Y (kX 0 isAgg31 Y Y Y Y (jc Y Y Y (fun w _ => jD hna2 (runUnderlying31 w) Y) (JT Y Y Y (jp ?_)))))))
   refine js Y (fun h5 => ?_) (fun h5 => ?_)
   ·replace hm := ifD h5 hm
    refine jt (ja (jh (jn (jq (qg 4 runUnderlying33 Y sizeOf31 Y Y (kX 0 isAgg31 Y Y Y Y (ji Y Y ?_)))))))
    obtain ⟨t21, h6, hm⟩ := bindO hm
    refine jc Y Y Y (fun w _ => qe h6 (runUnderlying31 w) (sizeOf139 w) Y Y hna2 hqa2) ?_
    refine jc Y Y Y (fun w hh => zW RSi 0 [.int .i64 t21.after, .int .i64 t21.cell, .bool t21.upright] h6 (isAgg139 w) (sizeOf139 w) Y (hh.seg 2 Y) Y (Nat.add_zero _).symm) ?_
    refine ju (fun w => zeroValue139 w) Y (fun b_1 h7 => ?_)
    refine jV (us := #[_, _, _]) (cs' := [_, _, _]) (S' := [_, _]) 0 (fun w => sizeOf139 w) Y Y Y Y Y Y Y (jp (jh (jh ?_)))
    obtain ⟨o_1, h8, h9⟩ := bindO hm
    refine jP (ι := Unit) (fun l_1 => True) (fun l_1 => [(1, .int .i64 after1), (2, .slice qa3 na3 ca3), (3, .int .i64 s.set3), (4, ptr b 0), (9, .int .i64 s.i9), (40, .bool o_1)]) (fun l_1 => [kc b_1 #[.int .i64 t21.after, .int .i64 t21.cell, .bool t21.upright] 139, kc b #[.int .i64 c0.cells, .int .i64 c0.tides, .slice qa0 na0 ca0, .slice qa1 na1 ca1, .slice qa2 na2 ca2] 33]) (fun l_1 => []) ?_ ?_
    ·replace hm := h8
     refine ks none (.free 0 (.free 1 (.free 2 (.free 3 (.free 4 (.hoist 5 (.free 6 (.free 7 (.free 8 (.free 9 (.free 10 (.free 11 (.hoist 12 (.free 14 (.hoist 15 (.one 13 (.free 16 (.free 17 .done)))))))))))))))))) _ Y (by decide +kernel) (fun w k hh => hh.draw k) (fun w hh => hh) ?_
     refine yG Y Y Y ?_
     obtain ⟨t24, h10, hm⟩ := bindO hm
     refine jr Y Y Y Y (fun _ _ => jaS h10 Y Y) (jr Y Y Y Y (fun _ _ => zT Y Y) (yG Y Y Y ?_))
     refine jN 26 Y (fun h11 => ?_) (fun h11 => ?_)
     ·replace hm := ifD h11 hm
      refine jC Y Y Y Y Y Y (fun w _ => jG 0 (runUnderlying139 w) Y (sizeOf3 w) Y) (k6 Y Y Y Y Y Y (fun w hh => jF (isAgg3 w) Y (hh.cell 0 Y Y)) (jC Y Y Y Y Y Y (fun _ _ => jT Y) (jC Y Y Y Y Y Y (fun _ _ => zT Y Y) (jr Y Y Y Y (fun _ _ => zP Y Y) (yG Y Y Y ?_)))))
      refine jN 32 Y (fun h12 => ?_) (fun h12 => ?_)
      ·replace hm := ifD h12 hm
       refine jC Y Y Y Y Y Y (fun _ _ => jT Y) (jC Y Y Y Y Y Y (fun w _ => jG 1 (runUnderlying139 w) Y (sizeOf3 w) Y) (k6 Y Y Y Y Y Y (fun w hh => jF (isAgg3 w) Y (hh.cell 0 Y Y)) (jC Y Y Y Y Y Y (fun w _ => jG 2 (runUnderlying139 w) Y (sizeOf4 w) Y) (k6 Y Y Y Y Y Y (fun w hh => jF (isAgg4 w) Y (hh.cell 0 Y Y)) (jH Y (jb Y Y ?_))))))
       obtain ⟨t36, h13, hm⟩ := bindO hm
       refine je [] [] Y Y Y Y Y Y Y call105 (fun w hh => Yu l2 t21.cell qa3 na3 ca3 w (HV.callee (S0 := []) (vs0 := []) hh (roR hh 3 Y roN)) hna3 hqa3 hla3 h13) (fun l_2 h14 => ?_)
       refine jo (fun w hh => hh) (jC Y Y Y Y Y Y (fun w _ => QL (runUnderlying4 w) Y Y) (jr Y Y Y Y (fun _ _ => zP Y Y) (jM ?_)))
       obtain rfl := sj hm
       exact jl () (trivial) (sE Y) (fun w hh => hh)
      replace hm := ifE h12 hm
      refine jA Y Y Y Y Y Y Y (jA Y Y Y Y Y Y Y (yw Y Y Y Y Y Y Y (jA Y Y Y Y Y Y Y (yw Y Y Y Y Y Y Y (jH Y (g_k Y Y Y Y (jo (fun w hh => hh) ?_)))))))
      refine jA Y Y Y Y Y Y Y (jr Y Y Y Y (fun _ _ => yy Y Y) (jM ?_))
      obtain rfl := sj hm
      exact jl () (trivial) (sE Y) (fun w hh => hh)
     replace hm := ifE h11 hm
     refine jA Y Y Y Y Y Y Y (yw Y Y Y Y Y Y Y (jA Y Y Y Y Y Y Y (jA Y Y Y Y Y Y Y (jr Y Y Y Y (fun _ _ => yy Y Y) (yG Y Y Y (jA Y Y Y Y Y Y Y (jA Y Y Y Y Y Y Y ?_)))))))
     refine yw Y Y Y Y Y Y Y (jA Y Y Y Y Y Y Y (yw Y Y Y Y Y Y Y (jH Y (g_k Y Y Y Y (jo (fun w hh => hh) (jA Y Y Y Y Y Y Y (jr Y Y Y Y (fun _ _ => yy Y Y) ?_)))))))
     refine jM ?_
     obtain rfl := sj hm
     exact jl () (trivial) (sE Y) (fun w hh => hh)
    intro l_1 hj
    replace hm := h9
    refine ja ?_
    refine js Y (fun h15 => ?_) (fun h15 => ?_)
    ·replace hm := ifT (h15) hm
     refine jq (jm Y Y (jp (jv (jd (jy (jd (jd ?_)))))))
     refine jy ?_
     obtain rfl := sj hm
     have hbo := h4 _ Y
     subst hbo
     refine jd ?_
     replace hm := ocR h3
     refine jd ?_
     obtain rfl := sj hm
     refine jj Y (fun w hh => (.tmp Y .nil)) (fun w hh => ⟨(), rfl, trivial, hh.se [] [] 4 Y Y Y rfl⟩)
    replace hm := ifN h15 hm
    refine jt (ja (jg (ji Y Y ?_)))
    obtain ⟨t42, h16, hm⟩ := bindO hm
    refine jc Y Y Y (fun _ _ => jaT h16 Y Y) (jm Y Y (jw (jx (ja (jg (ji Y Y ?_))))))
    obtain ⟨t17, h17, hm⟩ := bindO hm
    refine Kc h17 Y Y Y (jm Y Y (jw ?_))
    obtain rfl := sj hm
    refine ja ?_
    exact jE _ () Y (trivial) (sE Y) (hsE [1] [] 0 Y Y Y Y)
   replace hm := ifE h5 hm
   refine jZ (jk (jk (jI ?_)))
   obtain rfl := sj hm
   have hbo := h4 _ Y
   subst hbo
   exact jl () (Y) (.nil) (fun w hh => hh)
  intro j hj
  have h18 := hj
  subst h18
  replace hm := ocL h3
  refine ja (jq (jm Y Y (jp (jv ?_))))
  obtain rfl := sj hm
  refine jj Y (fun w hh => (.tmp Y .nil)) (fun w hh => ⟨(), rfl, trivial, hh.se [] [] 4 Y Y Y rfl⟩)
def zU (a0 : (List Int)) (b1 : (List Int)) (s : Int) : Option (Int ⊕ (Unit ⊕ Bool)) :=
 if s < (a0.length : Int) then
 ((ix a0 s).bind fun t19 =>
 (ix b1 s).bind fun t23 =>
 if t19 = t23 then
 ((addc s 1).bind fun t16 =>
 some (.inl t16)) else
 (some (.inr (.inr false)))) else
 (some (.inr (.inl ())))
def yW (a0 : (List Int)) (b1 : (List Int)) : Option Bool :=
 if (a0.length : Int) = (b1.length : Int) then
 ((iterM FU (zU a0 b1) 0).bind fun o =>
 oc o (fun j => some true) (fun r_1 => some r_1)) else
 (some false)
theorem Yl (a0 : (List Int)) (b1 : (List Int)) (qa0 : Option Addr) (na0 ca0 : Nat) (qa1 : Option Addr) (na1 ca1 : Nat) (w : World) (hw : HV w (keys [] []) [] [] [(aB qa0, aO qa0, RI.enc a0), (aB qa1, aO qa1, RI.enc b1)] w) (hna0 : a0.length = na0) (hqa0 : AOK na0 qa0) (hla0 : na0 ≤ ca0) (hna1 : b1.length = na1) (hqa1 : AOK na1 qa1) (hla1 : na1 ≤ ca1) {res : Bool} (hm : yW a0 b1 = some res) :
    Calls Tryz.prog 101 #[.slice qa0 na0 ca0, .slice qa1 na1 ca1] w (fun en w' => ∃ l : Unit, en = .returned (.bool res) ∧ (True) ∧ HV w (keys [] []) [] [] [] w') := by
  unfold yW at hm
  refine qN func101 Y ntmps101 Y (e := [(0, _), (1, _)]) Y hw (jq (jm Y Y (jp (jh (jq (ji Y Y (jc Y Y Y (fun w _ => jD hna0 (runUnderlying22 w) Y) ?_)))))))
  refine ji Y Y (jc Y Y Y (fun w _ => jD hna1 (runUnderlying22 w) Y) (jc Y Y Y (fun _ _ => zw Y Y) (jp ?_)))
  refine js Y (fun h1 => ?_) (fun h1 => ?_)
  ·replace hm := ifF (of_ndec_true h1) hm
   refine jq (jm Y Y (jp (jv (jd ?_))))
   obtain rfl := sj hm
   refine jj Y (fun w hh => (.tmp Y .nil)) (fun w hh => ⟨(), rfl, trivial, hh.se [] [] 2 Y Y Y rfl⟩)
  replace hm := ifT (of_ndec_false h1) hm
  refine jt (ja (jh (jq (jm Y Y (jp ?_)))))
  obtain ⟨o, h2, h3⟩ := bindO hm
  refine jP (ι := Unit) (fun j => o = .inl j) (fun j => []) (fun j => []) (fun j => []) ?_ ?_
  ·replace hm := h2
   refine jn ?_
   refine jQ (ι := Unit) hm (fun s l => True) (fun s l => [(0, .slice qa0 na0 ca0), (1, .slice qa1 na1 ca1), (5, .int .i64 s)]) (fun s l => []) (fun s l => []) () (trivial) (sE Y) (fun w hh => hh) (fun s l r hpl hm h4 => ?_)
   unfold zU at hm
   refine jh (jq (ji Y Y (ji Y Y (jc Y Y Y (fun w _ => jD hna0 (runUnderlying22 w) Y) (JT Y Y Y (jp ?_))))))
   refine js Y (fun h5 => ?_) (fun h5 => ?_)
   ·replace hm := ifD h5 hm
    refine jt (ja (jh (jn (jh ?_))))
    refine ks none (.free 0 (.free 1 (.free 2 (.hoist 3 (.free 4 (.free 5 (.free 6 (.hoist 7 (.free 8 .done))))))))) _ Y (by decide +kernel) (fun w k hh => hh.draw k) (fun w hh => hh) ?_
    refine yG Y Y Y (yG Y Y Y ?_)
    obtain ⟨t19, h6, hm⟩ := bindO hm
    refine jr Y Y Y Y (fun w _ => qe h6 (runUnderlying22 w) (sizeOf3 w) Y Y hna0 hqa0) (jz Y Y Y Y (fun w hh => qQ RI 0 h6 (isAgg3 w) Y (hh.seg 0 Y) Y (Nat.add_zero _).symm) (yG Y Y Y (yG Y Y Y ?_)))
    obtain ⟨t23, h7, hm⟩ := bindO hm
    refine jr Y Y Y Y (fun w _ => qe h7 (runUnderlying22 w) (sizeOf3 w) Y Y hna1 hqa1) (jz Y Y Y Y (fun w hh => qQ RI 0 h7 (isAgg3 w) Y (hh.seg 1 Y) Y (Nat.add_zero _).symm) (jr Y Y Y Y (fun _ _ => zw Y Y) (jM (ja ?_))))
    refine js Y (fun h8 => ?_) (fun h8 => ?_)
    ·replace hm := ifF (of_ndec_true h8) hm
     refine jq (jm Y Y (jp (jv (jy (jd (jd (jy ?_)))))))
     obtain rfl := sj hm
     have hbo := h4 _ Y
     subst hbo
     refine jd ?_
     replace hm := ocR h3
     refine jd ?_
     obtain rfl := sj hm
     refine jj Y (fun w hh => (.tmp Y .nil)) (fun w hh => ⟨(), rfl, trivial, hh.se [] [] 2 Y Y Y rfl⟩)
    replace hm := ifT (of_ndec_false h8) hm
    refine jt (jx (ja (jg (ji Y Y ?_))))
    obtain ⟨t16, h9, hm⟩ := bindO hm
    refine Kc h9 Y Y Y (jm Y Y (jw ?_))
    obtain rfl := sj hm
    refine ja ?_
    exact jE _ () Y (trivial) (sE Y) (fun w hh => hh)
   replace hm := ifE h5 hm
   refine jZ (jk (jk (jI ?_)))
   obtain rfl := sj hm
   have hbo := h4 _ Y
   subst hbo
   exact jl () (Y) (.nil) (fun w hh => hh)
  intro j hj
  have h10 := hj
  subst h10
  replace hm := ocL h3
  refine ja (jq (jm Y Y (jp (jv ?_))))
  obtain rfl := sj hm
  refine jj Y (fun w hh => (.tmp Y .nil)) (fun w hh => ⟨(), rfl, trivial, hh.se [] [] 2 Y Y Y rfl⟩)
structure qK where
  r5 : Int
  i6 : Int
def qL (c0 : Channel) (cell1 : Int) (s : qK) : Option (qK ⊕ Int) :=
 if s.i6 < (c0.sands.length : Int) then
 (((ix c0.sands s.i6).bind fun t18 =>
 (ix c0.sands s.i6).bind fun t25 =>
 (jB cell1 t18.span.lo t25.span.hi).bind fun t29 =>
 if (!t29) = true then
 ((ix c0.sands s.i6).bind fun t35 =>
 some (max s.r5 t35.reach)) else
 (some s.r5)).bind fun o_1 =>
 (addc s.i6 1).bind fun t13 =>
 some (.inl (⟨o_1, t13⟩ : qK))) else
 (some (.inr s.r5))
def qh (c0 : Channel) (cell1 : Int) : Option Int :=
 (iterM FU (qL c0 cell1) (⟨0, 0⟩ : qK)).bind fun o =>
 some o
theorem KG (c0 : Channel) (cell1 : Int) (qa0 : Option Addr) (na0 ca0 : Nat) (qa1 : Option Addr) (na1 ca1 : Nat) (qa2 : Option Addr) (na2 ca2 : Nat) (w : World) (hw : HV w (keys [] []) [] [] [(aB qa0, aO qa0, RI.enc c0.fords), (aB qa1, aO qa1, RSa.enc c0.sands), (aB qa2, aO qa2, RSi.enc c0.sights)] w) (hna0 : c0.fords.length = na0) (hqa0 : AOK na0 qa0) (hla0 : na0 ≤ ca0) (hna1 : c0.sands.length = na1) (hqa1 : AOK na1 qa1) (hla1 : na1 ≤ ca1) (hna2 : c0.sights.length = na2) (hqa2 : AOK na2 qa2) (hla2 : na2 ≤ ca2) {res : Int} (hm : qh c0 cell1 = some res) :
    Calls Tryz.prog 57 #[.agg #[.int .i64 c0.cells, .int .i64 c0.tides, .slice qa0 na0 ca0, .slice qa1 na1 ca1, .slice qa2 na2 ca2], .int .i64 cell1] w (fun en w' => ∃ l : Unit, en = .returned (.int .i64 res) ∧ (True) ∧ HV w (keys [] []) [] [] [] w') := by
  unfold qh at hm
  refine qN func57 Y ntmps57 Y (e := [(0, _), (1, _)]) Y hw (jq ?_)
  refine jJ Y Y (fun b h1 => ?_)
  refine jm Y Y (ql (jm Y Y (jp (jh (jq (jm Y Y (jp ?_)))))))
  obtain ⟨o, h2, h3⟩ := bindO hm
  refine jP (ι := Unit) (fun l => True) (fun l => [(5, .int .i64 o)]) (fun l => [kc b #[.int .i64 c0.cells, .int .i64 c0.tides, .slice qa0 na0 ca0, .slice qa1 na1 ca1, .slice qa2 na2 ca2] 33]) (fun l => []) ?_ ?_
  ·replace hm := h2
   refine jn ?_
   refine jQ (ι := Unit) hm (fun s l_1 => True) (fun s l_1 => [(1, .int .i64 cell1), (2, ptr b 0), (5, .int .i64 s.r5), (6, .int .i64 s.i6)]) (fun s l_1 => [kc b #[.int .i64 c0.cells, .int .i64 c0.tides, .slice qa0 na0 ca0, .slice qa1 na1 ca1, .slice qa2 na2 ca2] 33]) (fun s l_1 => []) () (trivial) (sE Y) (fun w hh => hh) (fun s l_1 r hpl hm h4 => ?_)
   unfold qL at hm
   refine jh (jq (ji Y Y (qg 3 runUnderlying33 Y sizeOf30 Y Y (kX 0 isAgg30 Y Y Y Y (jc Y Y Y (fun w _ => jD hna1 (runUnderlying30 w) Y) (JT Y Y Y (jp ?_)))))))
   refine js Y (fun h5 => ?_) (fun h5 => ?_)
   ·replace hm := ifD h5 hm
    refine jt (ja (jh ?_))
    obtain ⟨o_1, h6, h7⟩ := bindO hm
    refine jP (ι := Unit) (fun l_2 => True) (fun l_2 => [(1, .int .i64 cell1), (2, ptr b 0), (5, .int .i64 o_1), (6, .int .i64 s.i6)]) (fun l_2 => [kc b #[.int .i64 c0.cells, .int .i64 c0.tides, .slice qa0 na0 ca0, .slice qa1 na1 ca1, .slice qa2 na2 ca2] 33]) (fun l_2 => []) ?_ ?_
    ·replace hm := h6
     refine jn (jh ?_)
     refine ks none (.free 0 (.free 1 (.hoist 2 (.free 3 (.free 4 (.free 5 (.free 6 (.hoist 7 (.free 8 (.hoist 9 (.free 10 (.free 11 (.free 12 (.free 13 (.hoist 14 (.one 15 (.free 16 .done))))))))))))))))) _ Y (by decide +kernel) (fun w k hh => hh.draw k) (fun w hh => hh) ?_
     refine yG Y Y Y (JW 3 runUnderlying33 sizeOf30 Y Y Y Y (KJ 0 isAgg30 Y Y Y Y Y (yG Y Y Y ?_)))
     obtain ⟨t18, h8, hm⟩ := bindO hm
     refine jr Y Y Y Y (fun w _ => qe h8 (runUnderlying30 w) (sizeOf138 w) Y Y hna1 hqa1) (JW 0 runUnderlying138 sizeOf50 Y Y Y Y (JW 0 runUnderlying50 sizeOf3 Y Y Y Y (jz Y Y Y Y (fun w hh => qQ RSa 0 h8 (isAgg3 w) Y (hh.seg 1 Y) Y (by first | rfl | simp only [Nat.add_assoc])) (JW 3 runUnderlying33 sizeOf30 Y Y Y Y (KJ 0 isAgg30 Y Y Y Y Y (yG Y Y Y ?_))))))
     obtain ⟨t25, h9, hm⟩ := bindO hm
     refine jr Y Y Y Y (fun w _ => qe h9 (runUnderlying30 w) (sizeOf138 w) Y Y hna1 hqa1) (JW 0 runUnderlying138 sizeOf50 Y Y Y Y (JW 1 runUnderlying50 sizeOf3 Y Y Y Y (jz Y Y Y Y (fun w hh => qQ RSa 1 h9 (isAgg3 w) Y (hh.seg 1 Y) Y (by first | rfl | simp only [Nat.add_assoc])) (jH Y ?_))))
     obtain ⟨t29, h10, hm⟩ := bindO hm
     refine je [] [] Y Y Y Y Y Y Y call88 (fun w hh => j3 cell1 t18.span.lo t25.span.hi w (HV.callee (S0 := []) (vs0 := []) hh roN)  h10) (fun l_3 h11 => ?_)
     refine jo (fun w hh => hh) (jr Y Y Y Y (fun _ _ => yj Y) (jM (ja ?_)))
     refine js Y (fun h12 => ?_) (fun h12 => ?_)
     ·replace hm := ifT (h12) hm
      refine jg (ji Y Y (qg 3 runUnderlying33 Y sizeOf30 Y Y (kX 0 isAgg30 Y Y Y Y (ji Y Y ?_))))
      obtain ⟨t35, h13, hm⟩ := bindO hm
      refine jc Y Y Y (fun w _ => qe h13 (runUnderlying30 w) (sizeOf138 w) Y Y hna1 hqa1) (qg 2 runUnderlying138 Y sizeOf3 Y Y (jc Y Y Y (fun w hh => qQ RSa 2 h13 (isAgg3 w) Y (hh.seg 1 Y) Y Y) (jc Y Y Y (fun _ _ => Z2 Y Y) (jm Y Y (jw (jx ?_))))))
      obtain rfl := sj hm
      exact jl () (trivial) (sE Y) (fun w hh => hh)
     replace hm := ifN h12 hm
     refine jt (jx ?_)
     obtain rfl := sj hm
     exact jl () (trivial) (sE Y) (fun w hh => hh)
    intro l_2 hj
    replace hm := h7
    refine ja (jg (ji Y Y ?_))
    obtain ⟨t13, h14, hm⟩ := bindO hm
    refine Kc h14 Y Y Y (jm Y Y (jw ?_))
    obtain rfl := sj hm
    refine ja ?_
    exact jE _ () Y (trivial) (sE Y) (fun w hh => hh)
   replace hm := ifE h5 hm
   refine jZ (jk (jk (jI ?_)))
   obtain rfl := sj hm
   have hbo := h4 _ Y
   subst hbo
   exact jl () (trivial) (sE Y) (fun w hh => hh)
  intro l hj
  replace hm := h3
  refine ja (jq (ji Y Y (jm Y Y (jp (jv ?_)))))
  obtain rfl := sj hm
  refine jj Y (fun w hh => (.tmp Y .nil)) (fun w hh => ⟨(), rfl, trivial, hh.se [] [] 3 Y Y Y rfl⟩)
def yq (a1 : (List Int)) (c0 : Channel) (b2 : (List Int)) (s : Int) : Option (Int ⊕ (Unit ⊕ Bool)) :=
 if s < (a1.length : Int) then
 ((ix a1 s).bind fun t18 =>
 (qh c0 t18).bind fun t20 =>
 (ix b2 s).bind fun t23 =>
 (ix a1 s).bind fun t27 =>
 (subc t27 t20).bind fun t30 =>
 (ix a1 s).bind fun t33 =>
 (addc t33 t20).bind fun t36 =>
 (jB t23 t30 t36).bind fun t37 =>
 if t37 = true then
 (some (.inr (.inr false))) else
 ((addc s 1).bind fun t14 =>
 some (.inl t14))) else
 (some (.inr (.inl ())))
def zm (c0 : Channel) (a1 : (List Int)) (b2 : (List Int)) : Option Bool :=
 (iterM FU (yq a1 c0 b2) 0).bind fun o =>
 oc o (fun j => some true) (fun r_1 => some r_1)
theorem Yt (c0 : Channel) (a1 : (List Int)) (b2 : (List Int)) (qa0 : Option Addr) (na0 ca0 : Nat) (qa1 : Option Addr) (na1 ca1 : Nat) (qa2 : Option Addr) (na2 ca2 : Nat) (qa3 : Option Addr) (na3 ca3 : Nat) (qa4 : Option Addr) (na4 ca4 : Nat) (w : World) (hw : HV w (keys [] []) [] [] [(aB qa0, aO qa0, RI.enc c0.fords), (aB qa1, aO qa1, RSa.enc c0.sands), (aB qa2, aO qa2, RSi.enc c0.sights), (aB qa3, aO qa3, RI.enc a1), (aB qa4, aO qa4, RI.enc b2)] w) (hna0 : c0.fords.length = na0) (hqa0 : AOK na0 qa0) (hla0 : na0 ≤ ca0) (hna1 : c0.sands.length = na1) (hqa1 : AOK na1 qa1) (hla1 : na1 ≤ ca1) (hna2 : c0.sights.length = na2) (hqa2 : AOK na2 qa2) (hla2 : na2 ≤ ca2) (hna3 : a1.length = na3) (hqa3 : AOK na3 qa3) (hla3 : na3 ≤ ca3) (hna4 : b2.length = na4) (hqa4 : AOK na4 qa4) (hla4 : na4 ≤ ca4) {res : Bool} (hm : zm c0 a1 b2 = some res) :
    Calls Tryz.prog 92 #[.agg #[.int .i64 c0.cells, .int .i64 c0.tides, .slice qa0 na0 ca0, .slice qa1 na1 ca1, .slice qa2 na2 ca2], .slice qa3 na3 ca3, .slice qa4 na4 ca4] w (fun en w' => ∃ l : Unit, en = .returned (.bool res) ∧ (True) ∧ HV w (keys [] []) [] [] [] w') := by
  unfold zm at hm
  refine qN func92 Y ntmps92 Y (e := [(0, _), (1, _), (2, _)]) Y hw (jq ?_)
  refine jJ Y Y (fun b h1 => ?_)
  refine jm Y Y (jp (jh (jq (jm Y Y (jp ?_)))))
  obtain ⟨o, h2, h3⟩ := bindO hm
  refine jP (ι := Unit) (fun j => o = .inl j) (fun j => []) (fun j => [kc b #[.int .i64 c0.cells, .int .i64 c0.tides, .slice qa0 na0 ca0, .slice qa1 na1 ca1, .slice qa2 na2 ca2] 33]) (fun j => []) ?_ ?_
  ·replace hm := h2
   refine jn ?_
   refine jQ (ι := Unit) hm (fun s l => True) (fun s l => [(1, .slice qa3 na3 ca3), (2, .slice qa4 na4 ca4), (3, ptr b 0), (7, .int .i64 s)]) (fun s l => [kc b #[.int .i64 c0.cells, .int .i64 c0.tides, .slice qa0 na0 ca0, .slice qa1 na1 ca1, .slice qa2 na2 ca2] 33]) (fun s l => []) () (trivial) (sE Y) (fun w hh => hh) (fun s l r hpl hm h4 => ?_)
   unfold yq at hm
   refine jh (jq (ji Y Y (ji Y Y (jc Y Y Y (fun w _ => jD hna3 (runUnderlying22 w) Y) (JT Y Y Y (jp ?_))))))
   refine js Y (fun h5 => ?_) (fun h5 => ?_)
   ·replace hm := ifD h5 hm
    refine jt (ja (jh (jn (jh (ks none (.hoist 0 (.free 1 (.free 2 (.free 3 (.hoist 4 (.one 5 (.free 6 .done))))))) _ Y (by decide +kernel) (fun w k hh => hh.draw k) (fun w hh => hh) (jz Y Y Y Y (fun w hh => jK (vs := [_, _, _, _, _]) (isAgg33 w) (sizeOf33 w) Y (hh.cells 0 Y Y)) (yG Y Y Y ?_)))))))
    refine yG Y Y Y ?_
    obtain ⟨t18, h6, hm⟩ := bindO hm
    refine jr Y Y Y Y (fun w _ => qe h6 (runUnderlying22 w) (sizeOf3 w) Y Y hna3 hqa3) (jz Y Y Y Y (fun w hh => qQ RI 0 h6 (isAgg3 w) Y (hh.seg 3 Y) Y (Nat.add_zero _).symm) (jH Y ?_))
    obtain ⟨t20, h7, hm⟩ := bindO hm
    refine je [] [] Y Y Y Y Y Y Y call57 (fun w hh => KG c0 t18 qa0 na0 ca0 qa1 na1 ca1 qa2 na2 ca2 w (HV.callee (S0 := []) (vs0 := []) hh (roR hh 0 Y (roR hh 1 Y (roR hh 2 Y roN)))) hna0 hqa0 hla0 hna1 hqa1 hla1 hna2 hqa2 hla2 h7) (fun l_1 h8 => ?_)
    refine jo (fun w hh => hh) (jr Y Y Y Y (fun _ _ => kN Y) (jM (ja (jh ?_))))
    refine ks none (.free 0 (.free 1 (.free 2 (.hoist 3 (.free 4 (.free 5 (.free 6 (.hoist 7 (.free 8 (.free 9 (.free 10 (.free 11 (.free 12 (.hoist 13 (.free 14 (.free 15 (.one 16 .done))))))))))))))))) _ Y (by decide +kernel) (fun w k hh => hh.draw k) (fun w hh => hh) ?_
    refine yG Y Y Y (yG Y Y Y ?_)
    obtain ⟨t23, h9, hm⟩ := bindO hm
    refine jr Y Y Y Y (fun w _ => qe h9 (runUnderlying22 w) (sizeOf3 w) Y Y hna4 hqa4) (jz Y Y Y Y (fun w hh => qQ RI 0 h9 (isAgg3 w) Y (hh.seg 4 Y) Y (Nat.add_zero _).symm) (yG Y Y Y (yG Y Y Y ?_)))
    obtain ⟨t27, h10, hm⟩ := bindO hm
    refine jr Y Y Y Y (fun w _ => qe h10 (runUnderlying22 w) (sizeOf3 w) Y Y hna3 hqa3) (jz Y Y Y Y (fun w hh => qQ RI 0 h10 (isAgg3 w) Y (hh.seg 3 Y) Y (Nat.add_zero _).symm) (yG Y Y Y ?_))
    obtain ⟨t30, h11, hm⟩ := bindO hm
    refine jr Y Y Y Y (fun _ _ => zH h11 Y Y) (yG Y Y Y (yG Y Y Y ?_))
    obtain ⟨t33, h12, hm⟩ := bindO hm
    refine jr Y Y Y Y (fun w _ => qe h12 (runUnderlying22 w) (sizeOf3 w) Y Y hna3 hqa3) (jz Y Y Y Y (fun w hh => qQ RI 0 h12 (isAgg3 w) Y (hh.seg 3 Y) Y (Nat.add_zero _).symm) (yG Y Y Y ?_))
    obtain ⟨t36, h13, hm⟩ := bindO hm
    refine jr Y Y Y Y (fun _ _ => KI h13 Y Y) (jH Y ?_)
    obtain ⟨t37, h14, hm⟩ := bindO hm
    refine je [] [] Y Y Y Y Y Y Y call88 (fun w hh => j3 t23 t30 t36 w (HV.callee (S0 := []) (vs0 := []) hh roN)  h14) (fun l_2 h15 => ?_)
    refine jo (fun w hh => hh) (jM (ja ?_))
    refine js Y (fun h16 => ?_) (fun h16 => ?_)
    ·replace hm := ifT (h16) hm
     refine jq (jm Y Y (jp (jv (jy (jd (jd (jy ?_)))))))
     obtain rfl := sj hm
     have hbo := h4 _ Y
     subst hbo
     refine jd ?_
     replace hm := ocR h3
     refine jd ?_
     obtain rfl := sj hm
     refine jj Y (fun w hh => (.tmp Y .nil)) (fun w hh => ⟨(), rfl, trivial, hh.se [] [] 5 Y Y Y rfl⟩)
    replace hm := ifN h16 hm
    refine jt (jx (ja (jg (ji Y Y ?_))))
    obtain ⟨t14, h17, hm⟩ := bindO hm
    refine Kc h17 Y Y Y (jm Y Y (jw ?_))
    obtain rfl := sj hm
    refine ja ?_
    exact jE _ () Y (trivial) (sE Y) (fun w hh => hh)
   replace hm := ifE h5 hm
   refine jZ (jk (jk (jI ?_)))
   obtain rfl := sj hm
   have hbo := h4 _ Y
   subst hbo
   exact jl () (Y) (.nil) (fun w hh => hh)
  intro j hj
  have h18 := hj
  subst h18
  replace hm := ocL h3
  refine ja (jq (jm Y Y (jp (jv ?_))))
  obtain rfl := sj hm
  refine jj Y (fun w hh => (.tmp Y .nil)) (fun w hh => ⟨(), rfl, trivial, hh.se [] [] 5 Y Y Y rfl⟩)
end Go.Proofs.Wb

namespace Go.Proofs.Wb
set_option maxHeartbeats 4000000
set_option maxRecDepth 100000
open Go Go.Fw Go.Gx Go.Sb
open Tryz
set_option linter.unusedVariables false
def qm (t31 : (List Int)) (c0 : Channel) (s_1 : Int) : Option (Int ⊕ (Unit ⊕ Bool)) :=
 if s_1 < (t31.length : Int) then
 (((ix t31 s_1).bind fun t47 =>
 (subc c0.cells 1).bind fun t51 =>
 (jB t47 0 t51).bind fun t52 =>
 if t52 = true then
 (some true) else
 (if 0 < s_1 then
 ((ix t31 s_1).bind fun t59 =>
 (subc s_1 1).bind fun t63 =>
 (ix t31 t63).bind fun t64 =>
 some (decide (t59 ≤ t64))) else
 (some false))).bind fun o_3 =>
 if o_3 = true then
 (some (.inr (.inr false))) else
 ((addc s_1 1).bind fun t44 =>
 some (.inl t44))) else
 (some (.inr (.inl ())))
def q9 (course1 : (List (List Int))) (c0 : Channel) (s : Int) : Option (Int ⊕ (Unit ⊕ Bool)) :=
 if s < (course1.length : Int) then
 ((ix course1 s).bind fun t31 =>
 if (t31.length : Int) = (c0.fords.length : Int) then
 ((iterM FU (qm t31 c0) 0).bind fun o_2 =>
 oc o_2 (fun j_1 => (if 0 < s then
 ((subc s 1).bind fun t75 =>
 (ix course1 t75).bind fun t76 =>
 (zm c0 t76 t31).bind fun t79 =>
 if (!t79) = true then
 (some true) else
 ((jU c0).bind fun t87 =>
 (kw c0 s t31 t87).bind fun t88 =>
 some (!t88))) else
 ((jU c0).bind fun t87_1 =>
 (kw c0 s t31 t87_1).bind fun t88_1 =>
 some (!t88_1))).bind fun o_4 =>
 if o_4 = true then
 (some (.inr (.inr false))) else
 ((addc s 1).bind fun t28 =>
 some (.inl t28))) (fun r_2 => some (.inr (.inr r_2)))) else
 (some (.inr (.inr false)))) else
 (some (.inr (.inl ())))
def yd (c0 : Channel) (course1 : (List (List Int))) : Option Bool :=
 ((addc c0.tides 1).bind fun t12 =>
 if (course1.length : Int) = t12 then
 ((ix course1 0).bind fun t16 =>
 (yW t16 c0.fords).bind fun t20 =>
 some (!t20)) else
 (some true)).bind fun o =>
 if o = true then
 (some false) else
 ((iterM FU (q9 course1 c0) 0).bind fun o_1 =>
 oc o_1 (fun j => some true) (fun r_3 => some r_3))
theorem Yp (c0 : Channel) (course1 : (List (List Int))) (qa0 : Option Addr) (na0 ca0 : Nat) (qa1 : Option Addr) (na1 ca1 : Nat) (qa2 : Option Addr) (na2 ca2 : Nat) (qa3 : Option Addr) (na3 ca3 : Nat) (ar3 : List AL) (w : World) (hw : HV w (keys [] []) [] [] [(aB qa0, aO qa0, RI.enc c0.fords), (aB qa1, aO qa1, RSa.enc c0.sands), (aB qa2, aO qa2, RSi.enc c0.sights), (aB qa3, aO qa3, RwA.enc ar3)] w) (hna0 : c0.fords.length = na0) (hqa0 : AOK na0 qa0) (hla0 : na0 ≤ ca0) (hna1 : c0.sands.length = na1) (hqa1 : AOK na1 qa1) (hla1 : na1 ≤ ca1) (hna2 : c0.sights.length = na2) (hqa2 : AOK na2 qa2) (hla2 : na2 ≤ ca2) (hna3 : course1.length = na3) (hqa3 : AOK na3 qa3) (hla3 : na3 ≤ ca3) (hda3 : DRO course1 ar3) (hTa3 : ∀ t, t ∈ rsg RI course1 ar3 → segOK w t ∧ (t.2.2 ≠ [] → t.1 ∉ keys [] [])) {res : Bool} (hm : yd c0 course1 = some res) :
    Calls Tryz.prog 29 #[.agg #[.int .i64 c0.cells, .int .i64 c0.tides, .slice qa0 na0 ca0, .slice qa1 na1 ca1, .slice qa2 na2 ca2], .slice qa3 na3 ca3] w (fun en w' => ∃ l : Unit, en = .returned (.bool res) ∧ (True) ∧ HV w (keys [] []) [] [] [] w') := by
  unfold yd at hm
  refine qN func29 Y ntmps29 Y (e := [(0, _), (1, _)]) Y hw (jq ?_)
  refine jJ Y Y (fun b h1 => ?_)
  refine jm Y Y (jp (jh (jh ?_)))
  obtain ⟨o, h2, h3⟩ := bindO hm
  refine jP (ι := Unit) (fun l => True) (fun l => [(1, .slice qa3 na3 ca3), (2, ptr b 0), (22, .bool o)]) (fun l => [kc b #[.int .i64 c0.cells, .int .i64 c0.tides, .slice qa0 na0 ca0, .slice qa1 na1 ca1, .slice qa2 na2 ca2] 33]) (fun l => []) ?_ ?_
  ·replace hm := h2
   refine ks none (.free 0 (.free 1 (.free 2 (.hoist 3 (.free 4 (.free 5 (.free 6 (.free 7 (.free 8 (.hoist 9 (.free 10 (.hoist 11 (.one 12 (.free 13 (.free 14 .done))))))))))))))) _ Y (by decide +kernel) (fun w k hh => hh.draw k) (fun w hh => hh) ?_
   refine yG Y Y Y (jr Y Y Y Y (fun w _ => jD hna3 (runUnderlying41 w) Y) (JW 1 runUnderlying33 sizeOf3 Y Y Y Y (KJ 0 isAgg3 Y Y Y Y Y ?_)))
   obtain ⟨t12, h4, hm⟩ := bindO hm
   refine jr Y Y Y Y (fun _ _ => KI h4 Y Y) (jr Y Y Y Y (fun _ _ => zw Y Y) (yG Y Y Y ?_))
   refine jN 14 Y (fun h5 => ?_) (fun h5 => ?_)
   ·replace hm := ifF (of_ndec_true h5) hm
    refine jA Y Y Y Y Y Y Y (jA Y Y Y Y Y Y Y (yw Y Y Y Y Y Y Y (jA Y Y Y Y Y Y Y (yw Y Y Y Y Y Y Y (jH Y (g_k Y Y Y Y (jo (fun w hh => hh) ?_)))))))
    refine jA Y Y Y Y Y Y Y (jr Y Y Y Y (fun _ _ => zP Y Y) (jM ?_))
    obtain rfl := sj hm
    exact jl () (trivial) (sE Y) (fun w hh => hh)
   replace hm := ifT (of_ndec_false h5) hm
   refine jC Y Y Y Y Y Y (fun _ _ => jT Y) ?_
   obtain ⟨t16, h6, hm⟩ := bindO hm
   obtain ⟨A, h7, h8, h9, h10⟩ := (hda3).row h6
   refine jC Y Y Y Y Y Y (fun w _ => qe h7 (runUnderlying41 w) (sizeOf22 w) Y Y (Eq.trans (hda3).len.symm hna3) hqa3) (k6 Y Y Y Y Y Y (fun w hh => qQ RwA 0 h7 (isAgg22 w) Y (hh.seg 3 Y) Y (Nat.add_zero _).symm) (jC Y Y Y Y Y Y (fun w _ => jG 2 (runUnderlying33 w) Y (sizeOf22 w) Y) (k6 Y Y Y Y Y Y (fun w hh => jF (isAgg22 w) Y (hh.cell 0 Y Y)) (jH Y (jb Y Y ?_)))))
   obtain ⟨t20, h11, hm⟩ := bindO hm
   refine je [] [] Y Y Y Y Y Y Y call101 (fun w hh => Yl t16 c0.fords A.a A.n A.cap qa0 na0 ca0 w (HV.callee (S0 := []) (vs0 := []) hh (roC (hh.oldsep (S0 := []) (vs0 := []) (hTa3 _ (rsg_ix h6 h7))) (roR hh 0 Y roN))) h8 h9 h10 hna0 hqa0 hla0 h11) (fun l_1 h12 => ?_)
   refine jo (fun w hh => hh) (jC Y Y Y Y Y Y (fun _ _ => yj Y) (jr Y Y Y Y (fun _ _ => yy Y Y) (jM ?_)))
   obtain rfl := sj hm
   exact jl () (trivial) (sE Y) (fun w hh => hh)
  intro l hj
  replace hm := h3
  refine ja ?_
  refine js Y (fun h13 => ?_) (fun h13 => ?_)
  ·replace hm := ifT (h13) hm
   refine jq (jm Y Y (jp (jv (jd ?_))))
   obtain rfl := sj hm
   refine jj Y (fun w hh => (.tmp Y .nil)) (fun w hh => ⟨(), rfl, trivial, hh.se [] [] 4 Y Y Y rfl⟩)
  replace hm := ifN h13 hm
  refine jt (ja (jh (jq (jm Y Y (jp ?_)))))
  obtain ⟨o_1, h14, h15⟩ := bindO hm
  refine jP (ι := Unit) (fun j => o_1 = .inl j) (fun j => []) (fun j => [kc b #[.int .i64 c0.cells, .int .i64 c0.tides, .slice qa0 na0 ca0, .slice qa1 na1 ca1, .slice qa2 na2 ca2] 33]) (fun j => []) ?_ ?_
  ·replace hm := h14
   refine jn ?_
   refine jQ (ι := Unit) hm (fun s l_2 => True) (fun s l_2 => [(1, .slice qa3 na3 ca3), (2, ptr b 0), (5, .int .i64 s)]) (fun s l_2 => [kc b #[.int .i64 c0.cells, .int .i64 c0.tides, .slice qa0 na0 ca0, .slice qa1 na1 ca1, .slice qa2 na2 ca2] 33]) (fun s l_2 => []) () (trivial) (sE Y) (fun w hh => hh) (fun s l_2 r hpl hm h16 => ?_)
   unfold q9 at hm
   refine jh (jq (ji Y Y (ji Y Y (jc Y Y Y (fun w _ => jD hna3 (runUnderlying41 w) Y) (JT Y Y Y (jp ?_))))))
   refine js Y (fun h17 => ?_) (fun h17 => ?_)
   ·replace hm := ifD h17 hm
    refine jt (ja (jh (jn (jq (ji Y Y (ji Y Y ?_))))))
    obtain ⟨t31, h18, hm⟩ := bindO hm
    obtain ⟨A_1, h19, h20, h21, h22⟩ := (hda3).row h18
    refine jc Y Y Y (fun w _ => qe h19 (runUnderlying41 w) (sizeOf22 w) Y Y (Eq.trans (hda3).len.symm hna3) hqa3) (jc Y Y Y (fun w hh => qQ RwA 0 h19 (isAgg22 w) Y (hh.seg 3 Y) Y (Nat.add_zero _).symm) (jm Y Y (jp (jh (jq (ji Y Y (jc Y Y Y (fun w _ => jD h20 (runUnderlying22 w) Y) ?_)))))))
    refine qg 2 runUnderlying33 Y sizeOf22 Y Y (kX 0 isAgg22 Y Y Y Y (jc Y Y Y (fun w _ => jD hna0 (runUnderlying22 w) Y) (jc Y Y Y (fun _ _ => zw Y Y) (jp ?_))))
    refine js Y (fun h23 => ?_) (fun h23 => ?_)
    ·replace hm := ifF (of_ndec_true h23) hm
     refine jq (jm Y Y (jp (jv (jd (jy (jd (jd ?_)))))))
     refine jy ?_
     obtain rfl := sj hm
     have hbo := h16 _ Y
     subst hbo
     refine jd ?_
     replace hm := ocR h15
     refine jd ?_
     obtain rfl := sj hm
     refine jj Y (fun w hh => (.tmp Y .nil)) (fun w hh => ⟨(), rfl, trivial, hh.se [] [] 4 Y Y Y rfl⟩)
    replace hm := ifT (of_ndec_false h23) hm
    refine jt (ja (jh (jq (jm Y Y (jp ?_)))))
    obtain ⟨o_2, h24, h25⟩ := bindO hm
    refine jP (ι := Unit) (fun j_1 => o_2 = .inl j_1) (fun j_1 => [(1, .slice qa3 na3 ca3), (2, ptr b 0), (5, .int .i64 s), (6, .slice A_1.a A_1.n A_1.cap)]) (fun j_1 => [kc b #[.int .i64 c0.cells, .int .i64 c0.tides, .slice qa0 na0 ca0, .slice qa1 na1 ca1, .slice qa2 na2 ca2] 33]) (fun j_1 => []) ?_ ?_
    ·replace hm := h24
     refine jn ?_
     refine jQ (ι := Unit) hm (fun s_1 l_3 => True) (fun s_1 l_3 => [(1, .slice qa3 na3 ca3), (2, ptr b 0), (5, .int .i64 s), (6, .slice A_1.a A_1.n A_1.cap), (7, .int .i64 s_1)]) (fun s_1 l_3 => [kc b #[.int .i64 c0.cells, .int .i64 c0.tides, .slice qa0 na0 ca0, .slice qa1 na1 ca1, .slice qa2 na2 ca2] 33]) (fun s_1 l_3 => []) () (trivial) (sE Y) (fun w hh => hh) (fun s_1 l_3 r_1 hpl hm h26 => ?_)
     unfold qm at hm
     refine jh (jq (ji Y Y (ji Y Y (jc Y Y Y (fun w _ => jD h20 (runUnderlying22 w) Y) (JT Y Y Y (jp ?_))))))
     refine js Y (fun h27 => ?_) (fun h27 => ?_)
     ·replace hm := ifD h27 hm
      refine jt (ja (jh (jn (jh ?_))))
      obtain ⟨o_3, h28, h29⟩ := bindO hm
      refine jP (ι := Unit) (fun l_4 => True) (fun l_4 => [(1, .slice qa3 na3 ca3), (2, ptr b 0), (5, .int .i64 s), (6, .slice A_1.a A_1.n A_1.cap), (7, .int .i64 s_1), (68, .bool o_3)]) (fun l_4 => [kc b #[.int .i64 c0.cells, .int .i64 c0.tides, .slice qa0 na0 ca0, .slice qa1 na1 ca1, .slice qa2 na2 ca2] 33]) (fun l_4 => []) ?_ ?_
      ·replace hm := h28
       refine ks none (.free 0 (.free 1 (.free 2 (.hoist 3 (.free 4 (.hoist 5 (.free 6 (.one 7 (.free 8 (.free 9 (.free 10 (.free 11 (.free 12 (.free 13 (.free 14 (.hoist 15 (.free 16 (.free 17 (.free 18 (.free 19 (.hoist 20 (.free 21 (.free 22 (.free 23 .done)))))))))))))))))))))))) _ Y (by decide +kernel) (fun w k hh => hh.draw k) (fun w hh => hh) ?_
       refine yG Y Y Y (yG Y Y Y ?_)
       obtain ⟨t47, h30, hm⟩ := bindO hm
       refine jr Y Y Y Y (fun w _ => qe h30 (runUnderlying22 w) (sizeOf3 w) Y Y h20 h21) (jz Y Y Y Y (fun w hh => qQ RI 0 h30 (isAgg3 w) Y (hh.oldseg (hTa3 _ (rsg_ix h18 h19))) Y (Nat.add_zero _).symm) (JW 0 runUnderlying33 sizeOf3 Y Y Y Y (KJ 0 isAgg3 Y Y Y Y Y ?_)))
       obtain ⟨t51, h31, hm⟩ := bindO hm
       refine jr Y Y Y Y (fun _ _ => zH h31 Y Y) (jH Y ?_)
       obtain ⟨t52, h32, hm⟩ := bindO hm
       refine je [] [] Y Y Y Y Y Y Y call88 (fun w hh => j3 t47 0 t51 w (HV.callee (S0 := []) (vs0 := []) hh roN)  h32) (fun l_5 h33 => ?_)
       refine jo (fun w hh => hh) (yG Y Y Y ?_)
       refine jN 53 Y (fun h34 => ?_) (fun h34 => ?_)
       ·replace hm := ifT (h34) hm
        refine jA Y Y Y Y Y Y Y (jA Y Y Y Y Y Y Y (jA Y Y Y Y Y Y Y (y6 Y Y Y Y Y Y (y6 Y Y Y Y Y Y (y6 Y Y Y Y Y Y (Za Y Y Y Y Y Y (y6 Y Y Y Y Y Y ?_)))))))
        refine y6 Y Y Y Y Y Y (y6 Y Y Y Y Y Y (y6 Y Y Y Y Y Y (Za Y Y Y Y Y Y (y6 Y Y Y Y Y Y (jA Y Y Y Y Y Y Y (jr Y Y Y Y (fun _ _ => zP Y Y) (jM ?_)))))))
        obtain rfl := sj hm
        exact jl () (trivial) (sE Y) (fun w hh => hh)
       replace hm := ifN h34 hm
       refine jC Y Y Y Y Y Y (fun _ _ => jT Y) (jC Y Y Y Y Y Y (fun _ _ => Qt Y Y) (jC Y Y Y Y Y Y (fun _ _ => jT Y) ?_))
       refine jN 56 Y (fun h35 => ?_) (fun h35 => ?_)
       ·replace hm := ifD h35 hm
        refine jC Y Y Y Y Y Y (fun _ _ => jT Y) (jC Y Y Y Y Y Y (fun _ _ => jT Y) ?_)
        obtain ⟨t59, h36, hm⟩ := bindO hm
        refine jC Y Y Y Y Y Y (fun w _ => qe h36 (runUnderlying22 w) (sizeOf3 w) Y Y h20 h21) (k6 Y Y Y Y Y Y (fun w hh => qQ RI 0 h36 (isAgg3 w) Y (hh.oldseg (hTa3 _ (rsg_ix h18 h19))) Y (Nat.add_zero _).symm) (jC Y Y Y Y Y Y (fun _ _ => jT Y) (jC Y Y Y Y Y Y (fun _ _ => jT Y) ?_)))
        obtain ⟨t63, h37, hm⟩ := bindO hm
        refine jC Y Y Y Y Y Y (fun _ _ => zH h37 Y Y) ?_
        obtain ⟨t64, h38, hm⟩ := bindO hm
        refine jC Y Y Y Y Y Y (fun w _ => qe h38 (runUnderlying22 w) (sizeOf3 w) Y Y h20 h21) (k6 Y Y Y Y Y Y (fun w hh => qQ RI 0 h38 (isAgg3 w) Y (hh.oldseg (hTa3 _ (rsg_ix h18 h19))) Y (Nat.add_zero _).symm) (jC Y Y Y Y Y Y (fun _ _ => ZK Y Y) (jC Y Y Y Y Y Y (fun _ _ => zP Y Y) (jr Y Y Y Y (fun _ _ => yy Y Y) (jM ?_)))))
        obtain rfl := sj hm
        exact jl () (trivial) (sE Y) (fun w hh => hh)
       replace hm := ifE h35 hm
       refine jA Y Y Y Y Y Y Y (jA Y Y Y Y Y Y Y (jA Y Y Y Y Y Y Y (yw Y Y Y Y Y Y Y (jA Y Y Y Y Y Y Y (jA Y Y Y Y Y Y Y (jA Y Y Y Y Y Y Y (jA Y Y Y Y Y Y Y ?_)))))))
       refine yw Y Y Y Y Y Y Y (jA Y Y Y Y Y Y Y (jC Y Y Y Y Y Y (fun _ _ => yy Y Y) (jr Y Y Y Y (fun _ _ => yy Y Y) (jM ?_))))
       obtain rfl := sj hm
       exact jl () (trivial) (sE Y) (fun w hh => hh)
      intro l_4 hj
      replace hm := h29
      refine ja ?_
      refine js Y (fun h39 => ?_) (fun h39 => ?_)
      ·replace hm := ifT (h39) hm
       refine jq (jm Y Y (jp (jv (jy (jd (jd (jy ?_)))))))
       obtain rfl := sj hm
       have hbo := h26 _ Y
       subst hbo
       refine jd ?_
       replace hm := ocR h25
       refine jd (jy (jd (jd (jy ?_))))
       obtain rfl := sj hm
       have hbo := h16 _ Y
       subst hbo
       refine jd ?_
       replace hm := ocR h15
       refine jd ?_
       obtain rfl := sj hm
       refine jj Y (fun w hh => (.tmp Y .nil)) (fun w hh => ⟨(), rfl, trivial, hh.se [] [] 4 Y Y Y rfl⟩)
      replace hm := ifN h39 hm
      refine jt (jx (ja (jg (ji Y Y ?_))))
      obtain ⟨t44, h40, hm⟩ := bindO hm
      refine Kc h40 Y Y Y (jm Y Y (jw ?_))
      obtain rfl := sj hm
      refine ja ?_
      exact jE _ () Y (trivial) (sE Y) (fun w hh => hh)
     replace hm := ifE h27 hm
     refine jZ (jk (jk (jI ?_)))
     obtain rfl := sj hm
     have hbo := h26 _ Y
     subst hbo
     exact jl () (Y) (sE Y) (fun w hh => hh)
    intro j_1 hj
    have h41 := hj
    subst h41
    replace hm := ocL h25
    refine ja (jh ?_)
    obtain ⟨o_4, h42, h43⟩ := bindO hm
    refine jP (ι := Unit) (fun l_6 => True) (fun l_6 => [(1, .slice qa3 na3 ca3), (2, ptr b 0), (5, .int .i64 s), (90, .bool o_4)]) (fun l_6 => [kc b #[.int .i64 c0.cells, .int .i64 c0.tides, .slice qa0 na0 ca0, .slice qa1 na1 ca1, .slice qa2 na2 ca2] 33]) (fun l_6 => []) ?_ ?_
    ·replace hm := h42
     refine ks none (.free 0 (.free 1 (.free 2 (.hoist 3 (.free 4 (.free 5 (.free 6 (.free 7 (.hoist 8 (.free 9 (.one 10 (.free 11 (.free 12 (.free 13 (.hoist 14 (.free 15 (.free 16 (.hoist 17 (.one 18 (.one 19 (.free 20 (.free 21 .done)))))))))))))))))))))) _ Y (by decide +kernel) (fun w k hh => hh.draw k) (fun w hh => hh) ?_
     refine yG Y Y Y (jr Y Y Y Y (fun _ _ => Qt Y Y) (yG Y Y Y ?_))
     refine jN 71 Y (fun h44 => ?_) (fun h44 => ?_)
     ·replace hm := ifD h44 hm
      refine k6 Y Y Y Y Y Y (fun w hh => jK (vs := [_, _, _, _, _]) (isAgg33 w) (sizeOf33 w) Y (hh.cells 0 Y Y)) (jC Y Y Y Y Y Y (fun _ _ => jT Y) (jC Y Y Y Y Y Y (fun _ _ => jT Y) ?_))
      obtain ⟨t75, h45, hm⟩ := bindO hm
      refine jC Y Y Y Y Y Y (fun _ _ => zH h45 Y Y) ?_
      obtain ⟨t76, h46, hm⟩ := bindO hm
      obtain ⟨A_2, h47, h48, h49, h50⟩ := (hda3).row h46
      refine jC Y Y Y Y Y Y (fun w _ => qe h47 (runUnderlying41 w) (sizeOf22 w) Y Y (Eq.trans (hda3).len.symm hna3) hqa3) (k6 Y Y Y Y Y Y (fun w hh => qQ RwA 0 h47 (isAgg22 w) Y (hh.seg 3 Y) Y (Nat.add_zero _).symm) (jC Y Y Y Y Y Y (fun _ _ => jT Y) (jH Y (jb Y Y ?_))))
      obtain ⟨t79, h51, hm⟩ := bindO hm
      refine je [] [] Y Y Y Y Y Y Y call92 (fun w hh => Yt c0 t76 t31 qa0 na0 ca0 qa1 na1 ca1 qa2 na2 ca2 A_2.a A_2.n A_2.cap A_1.a A_1.n A_1.cap w (HV.callee (S0 := []) (vs0 := []) hh (roR hh 0 Y (roR hh 1 Y (roR hh 2 Y (roC (hh.oldsep (S0 := []) (vs0 := []) (hTa3 _ (rsg_ix h46 h47))) (roC (hh.oldsep (S0 := []) (vs0 := []) (hTa3 _ (rsg_ix h18 h19))) roN)))))) hna0 hqa0 hla0 hna1 hqa1 hla1 hna2 hqa2 hla2 h48 h49 h50 h20 h21 h22 h51) (fun l_7 h52 => ?_)
      refine jo (fun w hh => hh) (jC Y Y Y Y Y Y (fun _ _ => yj Y) (jr Y Y Y Y (fun _ _ => zP Y Y) (yG Y Y Y ?_)))
      refine jN 82 Y (fun h53 => ?_) (fun h53 => ?_)
      ·replace hm := ifT (h53) hm
       refine yw Y Y Y Y Y Y Y (jA Y Y Y Y Y Y Y (jA Y Y Y Y Y Y Y (yw Y Y Y Y Y Y Y (jH Y (g_k Y Y Y Y (jo (fun w hh => hh) (jH Y ?_)))))))
       refine g_k Y Y Y Y (jo (fun w hh => hh) (jA Y Y Y Y Y Y Y (jr Y Y Y Y (fun _ _ => zP Y Y) (jM ?_))))
       obtain rfl := sj hm
       exact jl () (trivial) (sE Y) (fun w hh => hh)
      replace hm := ifN h53 hm
      refine k6 Y Y Y Y Y Y (fun w hh => jK (vs := [_, _, _, _, _]) (isAgg33 w) (sizeOf33 w) Y (hh.cells 0 Y Y)) (jC Y Y Y Y Y Y (fun _ _ => jT Y) (jC Y Y Y Y Y Y (fun _ _ => jT Y) (k6 Y Y Y Y Y Y (fun w hh => jK (vs := [_, _, _, _, _]) (isAgg33 w) (sizeOf33 w) Y (hh.cells 0 Y Y)) (jH Y (jb Y Y ?_)))))
      obtain ⟨t87, h54, hm⟩ := bindO hm
      refine je [] [] Y Y Y Y Y Y Y call24 (fun w hh => JP c0 qa0 na0 ca0 qa1 na1 ca1 qa2 na2 ca2 w (HV.callee (S0 := []) (vs0 := []) hh (roR hh 0 Y (roR hh 1 Y (roR hh 2 Y roN)))) hna0 hqa0 hla0 hna1 hqa1 hla1 hna2 hqa2 hla2 h54) (fun l_8 h55 => ?_)
      refine jo (fun w hh => hh) (jH Y (jb Y Y ?_))
      obtain ⟨t88, h56, hm⟩ := bindO hm
      refine je [] [] Y Y Y Y Y Y Y call102 (fun w hh => Kz c0 s t31 t87 qa0 na0 ca0 qa1 na1 ca1 qa2 na2 ca2 A_1.a A_1.n A_1.cap w (HV.callee (S0 := []) (vs0 := []) hh (roR hh 0 Y (roR hh 1 Y (roR hh 2 Y (roC (hh.oldsep (S0 := []) (vs0 := []) (hTa3 _ (rsg_ix h18 h19))) roN))))) hna0 hqa0 hla0 hna1 hqa1 hla1 hna2 hqa2 hla2 h20 h21 h22 h56) (fun l_9 h57 => ?_)
      refine jo (fun w hh => hh) (jC Y Y Y Y Y Y (fun _ _ => yj Y) (jr Y Y Y Y (fun _ _ => yy Y Y) (jM ?_)))
      obtain rfl := sj hm
      exact jl () (trivial) (sE Y) (fun w hh => hh)
     replace hm := ifE h44 hm
     refine yw Y Y Y Y Y Y Y (jA Y Y Y Y Y Y Y (jA Y Y Y Y Y Y Y (jA Y Y Y Y Y Y Y (jA Y Y Y Y Y Y Y (yw Y Y Y Y Y Y Y (jA Y Y Y Y Y Y Y (jH Y ?_)))))))
     refine g_k Y Y Y Y (jo (fun w hh => hh) (jA Y Y Y Y Y Y Y (jr Y Y Y Y (fun _ _ => yy Y Y) (yG Y Y Y (k6 Y Y Y Y Y Y (fun w hh => jK (vs := [_, _, _, _, _]) (isAgg33 w) (sizeOf33 w) Y (hh.cells 0 Y Y)) (jC Y Y Y Y Y Y (fun _ _ => jT Y) (jC Y Y Y Y Y Y (fun _ _ => jT Y) ?_)))))))
     refine k6 Y Y Y Y Y Y (fun w hh => jK (vs := [_, _, _, _, _]) (isAgg33 w) (sizeOf33 w) Y (hh.cells 0 Y Y)) (jH Y (jb Y Y ?_))
     obtain ⟨t87_1, h58, hm⟩ := bindO hm
     refine je [] [] Y Y Y Y Y Y Y call24 (fun w hh => JP c0 qa0 na0 ca0 qa1 na1 ca1 qa2 na2 ca2 w (HV.callee (S0 := []) (vs0 := []) hh (roR hh 0 Y (roR hh 1 Y (roR hh 2 Y roN)))) hna0 hqa0 hla0 hna1 hqa1 hla1 hna2 hqa2 hla2 h58) (fun l_10 h59 => ?_)
     refine jo (fun w hh => hh) (jH Y (jb Y Y ?_))
     obtain ⟨t88_1, h60, hm⟩ := bindO hm
     refine je [] [] Y Y Y Y Y Y Y call102 (fun w hh => Kz c0 s t31 t87_1 qa0 na0 ca0 qa1 na1 ca1 qa2 na2 ca2 A_1.a A_1.n A_1.cap w (HV.callee (S0 := []) (vs0 := []) hh (roR hh 0 Y (roR hh 1 Y (roR hh 2 Y (roC (hh.oldsep (S0 := []) (vs0 := []) (hTa3 _ (rsg_ix h18 h19))) roN))))) hna0 hqa0 hla0 hna1 hqa1 hla1 hna2 hqa2 hla2 h20 h21 h22 h60) (fun l_11 h61 => ?_)
     refine jo (fun w hh => hh) (jC Y Y Y Y Y Y (fun _ _ => yj Y) (jr Y Y Y Y (fun _ _ => yy Y Y) (jM ?_)))
     obtain rfl := sj hm
     exact jl () (trivial) (sE Y) (fun w hh => hh)
    intro l_6 hj
    replace hm := h43
    refine ja ?_
    refine js Y (fun h62 => ?_) (fun h62 => ?_)
    ·replace hm := ifT (h62) hm
     refine jq (jm Y Y (jp (jv (jy (jd (jd (jy ?_)))))))
     obtain rfl := sj hm
     have hbo := h16 _ Y
     subst hbo
     refine jd ?_
     replace hm := ocR h15
     refine jd ?_
     obtain rfl := sj hm
     refine jj Y (fun w hh => (.tmp Y .nil)) (fun w hh => ⟨(), rfl, trivial, hh.se [] [] 4 Y Y Y rfl⟩)
    replace hm := ifN h62 hm
    refine jt (jx (ja (jg (ji Y Y ?_))))
    obtain ⟨t28, h63, hm⟩ := bindO hm
    refine Kc h63 Y Y Y (jm Y Y (jw ?_))
    obtain rfl := sj hm
    refine ja ?_
    exact jE _ () Y (trivial) (sE Y) (fun w hh => hh)
   replace hm := ifE h17 hm
   refine jZ (jk (jk (jI ?_)))
   obtain rfl := sj hm
   have hbo := h16 _ Y
   subst hbo
   exact jl () (Y) (.nil) (fun w hh => hh)
  intro j hj
  have h64 := hj
  subst h64
  replace hm := ocL h15
  refine ja (jq (jm Y Y (jp (jv ?_))))
  obtain rfl := sj hm
  refine jj Y (fun w hh => (.tmp Y .nil)) (fun w hh => ⟨(), rfl, trivial, hh.se [] [] 4 Y Y Y rfl⟩)
def qq (s10 : (List Sand)) (s21 : (List Sand)) (s : Int) : Option (Int ⊕ (Unit ⊕ Bool)) :=
 if s < (s10.length : Int) then
 ((ix s10 s).bind fun t18 =>
 (ix s21 s).bind fun t22 =>
 if (⟨(⟨t18.span.lo, t18.span.hi⟩ : Span), t18.reach⟩ : Sand) = (⟨(⟨t22.span.lo, t22.span.hi⟩ : Span), t22.reach⟩ : Sand) then
 ((addc s 1).bind fun t25 =>
 some (.inl t25)) else
 (some (.inr (.inr false)))) else
 (some (.inr (.inl ())))
def kS (s10 : (List Sand)) (s21 : (List Sand)) : Option Bool :=
 if (s10.length : Int) = (s21.length : Int) then
 ((iterM FU (qq s10 s21) 0).bind fun o =>
 oc o (fun j => some true) (fun r_1 => some r_1)) else
 (some false)
theorem Ki (s10 : (List Sand)) (s21 : (List Sand)) (qa0 : Option Addr) (na0 ca0 : Nat) (qa1 : Option Addr) (na1 ca1 : Nat) (w : World) (hw : HV w (keys [] []) [] [] [(aB qa0, aO qa0, RSa.enc s10), (aB qa1, aO qa1, RSa.enc s21)] w) (hna0 : s10.length = na0) (hqa0 : AOK na0 qa0) (hla0 : na0 ≤ ca0) (hna1 : s21.length = na1) (hqa1 : AOK na1 qa1) (hla1 : na1 ≤ ca1) {res : Bool} (hm : kS s10 s21 = some res) :
    Calls Tryz.prog 164 #[.slice qa0 na0 ca0, .slice qa1 na1 ca1] w (fun en w' => ∃ l : Unit, en = .returned (.bool res) ∧ (True) ∧ HV w (keys [] []) [] [] [] w') := by
  unfold kS at hm
  refine qN func164 Y ntmps164 Y (e := [(0, _), (1, _)]) Y hw (jq (jm Y Y (jp (jh (jq (ji Y Y (jc Y Y Y (fun w _ => jD hna0 (runUnderlying23 w) Y) ?_)))))))
  refine ji Y Y (jc Y Y Y (fun w _ => jD hna1 (runUnderlying23 w) Y) (jc Y Y Y (fun _ _ => zw Y Y) (jp ?_)))
  refine js Y (fun h1 => ?_) (fun h1 => ?_)
  ·replace hm := ifF (of_ndec_true h1) hm
   refine jq (jm Y Y (jp (jv (jd ?_))))
   obtain rfl := sj hm
   refine jj Y (fun w hh => (.tmp Y .nil)) (fun w hh => ⟨(), rfl, trivial, hh.se [] [] 2 Y Y Y rfl⟩)
  replace hm := ifT (of_ndec_false h1) hm
  refine jt (ja (jh (jq (ji Y Y (jc Y Y Y (fun w _ => jD hna0 (runUnderlying23 w) Y) (ji Y Y (jp ?_)))))))
  obtain ⟨o, h2, h3⟩ := bindO hm
  refine jP (ι := Unit) (fun j => o = .inl j) (fun j => []) (fun j => []) (fun j => []) ?_ ?_
  ·replace hm := h2
   refine jn ?_
   refine jQ (ι := Unit) hm (fun s l => True) (fun s l => [(0, .slice qa0 na0 ca0), (1, .slice qa1 na1 ca1), (12, .int .i64 (s10.length : Int)), (13, .int .i64 s)]) (fun s l => []) (fun s l => []) () (trivial) (sE Y) (fun w hh => hh) (fun s l r hpl hm h4 => ?_)
   unfold qq at hm
   refine jq (JT Y Y Y (jp (jh ?_)))
   refine js Y (fun h5 => ?_) (fun h5 => ?_)
   ·replace hm := ifD h5 hm
    refine jt (ja (jh (jn (jq (ji Y Y (jm Y Y (jp ?_)))))))
    refine jh ?_
    refine ks none (.free 0 (.free 1 (.free 2 (.hoist 3 (.free 4 (.free 5 (.free 6 (.hoist 7 (.free 8 .done))))))))) _ Y (by decide +kernel) (fun w k hh => hh.draw k) (fun w hh => hh) ?_
    refine yG Y Y Y (yG Y Y Y ?_)
    obtain ⟨t18, h6, hm⟩ := bindO hm
    refine jr Y Y Y Y (fun w _ => qe h6 (runUnderlying23 w) (sizeOf98 w) Y Y hna0 hqa0) ?_
    refine jz Y Y Y Y (fun w hh => zW RSa 0 [.int .i64 t18.span.lo, .int .i64 t18.span.hi, .int .i64 t18.reach] h6 (isAgg98 w) (sizeOf98 w) Y (hh.seg 0 Y) Y (Nat.add_zero _).symm) ?_
    refine yG Y Y Y (yG Y Y Y ?_)
    obtain ⟨t22, h7, hm⟩ := bindO hm
    refine jr Y Y Y Y (fun w _ => qe h7 (runUnderlying23 w) (sizeOf98 w) Y Y hna1 hqa1) ?_
    refine jz Y Y Y Y (fun w hh => zW RSa 0 [.int .i64 t22.span.lo, .int .i64 t22.span.hi, .int .i64 t22.reach] h7 (isAgg98 w) (sizeOf98 w) Y (hh.seg 1 Y) Y (Nat.add_zero _).symm) ?_
    refine jr Y Y Y Y (fun w _ => Y9 (jaX (⟨(⟨t18.span.lo, t18.span.hi⟩ : Span), t18.reach⟩ : Sand) (⟨(⟨t22.span.lo, t22.span.hi⟩ : Span), t22.reach⟩ : Sand) w) jaH Y Y) ?_
    refine jM (ja ?_)
    refine js Y (fun h8 => ?_) (fun h8 => ?_)
    ·replace hm := ifF (of_ndec_true h8) hm
     refine jq (jm Y Y (jp (jv (jy (jd (jd (jy ?_)))))))
     obtain rfl := sj hm
     have hbo := h4 _ Y
     subst hbo
     refine jd ?_
     replace hm := ocR h3
     refine jd ?_
     obtain rfl := sj hm
     refine jj Y (fun w hh => (.tmp Y .nil)) (fun w hh => ⟨(), rfl, trivial, hh.se [] [] 2 Y Y Y rfl⟩)
    replace hm := ifT (of_ndec_false h8) hm
    refine jt (jx (ja (jg ?_)))
    obtain ⟨t25, h9, hm⟩ := bindO hm
    refine Kc h9 Y Y Y (ji Y Y (jw ?_))
    obtain rfl := sj hm
    refine ja ?_
    exact jE _ () Y (trivial) (sE Y) (fun w hh => hh)
   replace hm := ifE h5 hm
   refine jZ (jk (jk (jI ?_)))
   obtain rfl := sj hm
   have hbo := h4 _ Y
   subst hbo
   exact jl () (Y) (.nil) (fun w hh => hh)
  intro j hj
  have h10 := hj
  subst h10
  replace hm := ocL h3
  refine ja (jq (jm Y Y (jp (jv ?_))))
  obtain rfl := sj hm
  refine jj Y (fun w hh => (.tmp Y .nil)) (fun w hh => ⟨(), rfl, trivial, hh.se [] [] 2 Y Y Y rfl⟩)
def zn (a0 : (List Sand)) (b1 : (List Sand)) : Option Bool :=
 (kS a0 b1).bind fun t7 =>
 some t7
theorem Yy (a0 : (List Sand)) (b1 : (List Sand)) (qa0 : Option Addr) (na0 ca0 : Nat) (qa1 : Option Addr) (na1 ca1 : Nat) (w : World) (hw : HV w (keys [] []) [] [] [(aB qa0, aO qa0, RSa.enc a0), (aB qa1, aO qa1, RSa.enc b1)] w) (hna0 : a0.length = na0) (hqa0 : AOK na0 qa0) (hla0 : na0 ≤ ca0) (hna1 : b1.length = na1) (hqa1 : AOK na1 qa1) (hla1 : na1 ≤ ca1) {res : Bool} (hm : zn a0 b1 = some res) :
    Calls Tryz.prog 103 #[.slice qa0 na0 ca0, .slice qa1 na1 ca1] w (fun en w' => ∃ l : Unit, en = .returned (.bool res) ∧ (True) ∧ HV w (keys [] []) [] [] [] w') := by
  unfold zn at hm
  refine qN func103 Y ntmps103 Y (e := [(0, _), (1, _)]) Y hw (jq (jm Y Y (ql (ji Y Y (ji Y Y ?_)))))
  obtain ⟨t7, h1, hm⟩ := bindO hm
  refine je [] [] Y Y Y Y Y Y Y call164 (fun w hh => Ki a0 b1 qa0 na0 ca0 qa1 na1 ca1 w (HV.callee (S0 := []) (vs0 := []) hh (roR hh 0 Y (roR hh 1 Y roN))) hna0 hqa0 hla0 hna1 hqa1 hla1 h1) (fun l h2 => ?_)
  refine jm Y Y (jp (jv ?_))
  obtain rfl := sj hm
  refine jj Y (fun w hh => (.tmp Y .nil)) (fun w hh => ⟨(), rfl, trivial, hh.se [] [] 2 Y Y Y rfl⟩)
def qb (s10 : (List Sight)) (s21 : (List Sight)) (s : Int) : Option (Int ⊕ (Unit ⊕ Bool)) :=
 if s < (s10.length : Int) then
 ((ix s10 s).bind fun t18 =>
 (ix s21 s).bind fun t22 =>
 if t18 = (⟨t22.after, t22.cell, t22.upright⟩ : Sight) then
 ((addc s 1).bind fun t25 =>
 some (.inl t25)) else
 (some (.inr (.inr false)))) else
 (some (.inr (.inl ())))
def kC (s10 : (List Sight)) (s21 : (List Sight)) : Option Bool :=
 if (s10.length : Int) = (s21.length : Int) then
 ((iterM FU (qb s10 s21) 0).bind fun o =>
 oc o (fun j => some true) (fun r_1 => some r_1)) else
 (some false)
theorem J7 (s10 : (List Sight)) (s21 : (List Sight)) (qa0 : Option Addr) (na0 ca0 : Nat) (qa1 : Option Addr) (na1 ca1 : Nat) (w : World) (hw : HV w (keys [] []) [] [] [(aB qa0, aO qa0, RSi.enc s10), (aB qa1, aO qa1, RSi.enc s21)] w) (hna0 : s10.length = na0) (hqa0 : AOK na0 qa0) (hla0 : na0 ≤ ca0) (hna1 : s21.length = na1) (hqa1 : AOK na1 qa1) (hla1 : na1 ≤ ca1) {res : Bool} (hm : kC s10 s21 = some res) :
    Calls Tryz.prog 165 #[.slice qa0 na0 ca0, .slice qa1 na1 ca1] w (fun en w' => ∃ l : Unit, en = .returned (.bool res) ∧ (True) ∧ HV w (keys [] []) [] [] [] w') := by
  unfold kC at hm
  refine qN func165 Y ntmps165 Y (e := [(0, _), (1, _)]) Y hw (jq (jm Y Y (jp (jh (jq (ji Y Y (jc Y Y Y (fun w _ => jD hna0 (runUnderlying24 w) Y) ?_)))))))
  refine ji Y Y (jc Y Y Y (fun w _ => jD hna1 (runUnderlying24 w) Y) (jc Y Y Y (fun _ _ => zw Y Y) (jp ?_)))
  refine js Y (fun h1 => ?_) (fun h1 => ?_)
  ·replace hm := ifF (of_ndec_true h1) hm
   refine jq (jm Y Y (jp (jv (jd ?_))))
   obtain rfl := sj hm
   refine jj Y (fun w hh => (.tmp Y .nil)) (fun w hh => ⟨(), rfl, trivial, hh.se [] [] 2 Y Y Y rfl⟩)
  replace hm := ifT (of_ndec_false h1) hm
  refine jt (ja (jh (jq (ji Y Y (jc Y Y Y (fun w _ => jD hna0 (runUnderlying24 w) Y) (ji Y Y (jp ?_)))))))
  obtain ⟨o, h2, h3⟩ := bindO hm
  refine jP (ι := Unit) (fun j => o = .inl j) (fun j => []) (fun j => []) (fun j => []) ?_ ?_
  ·replace hm := h2
   refine jn ?_
   refine jQ (ι := Unit) hm (fun s l => True) (fun s l => [(0, .slice qa0 na0 ca0), (1, .slice qa1 na1 ca1), (12, .int .i64 (s10.length : Int)), (13, .int .i64 s)]) (fun s l => []) (fun s l => []) () (trivial) (sE Y) (fun w hh => hh) (fun s l r hpl hm h4 => ?_)
   unfold qb at hm
   refine jq (JT Y Y Y (jp (jh ?_)))
   refine js Y (fun h5 => ?_) (fun h5 => ?_)
   ·replace hm := ifD h5 hm
    refine jt (ja (jh (jn (jq (ji Y Y (jm Y Y (jp ?_)))))))
    refine jh ?_
    refine ks none (.free 0 (.free 1 (.free 2 (.hoist 3 (.free 4 (.free 5 (.free 6 (.hoist 7 (.free 8 .done))))))))) _ Y (by decide +kernel) (fun w k hh => hh.draw k) (fun w hh => hh) ?_
    refine yG Y Y Y (yG Y Y Y ?_)
    obtain ⟨t18, h6, hm⟩ := bindO hm
    refine jr Y Y Y Y (fun w _ => qe h6 (runUnderlying24 w) (sizeOf55 w) Y Y hna0 hqa0) ?_
    refine jz Y Y Y Y (fun w hh => zW RSi 0 [.int .i64 t18.after, .int .i64 t18.cell, .bool t18.upright] h6 (isAgg55 w) (sizeOf55 w) Y (hh.seg 0 Y) Y (Nat.add_zero _).symm) ?_
    refine yG Y Y Y (yG Y Y Y ?_)
    obtain ⟨t22, h7, hm⟩ := bindO hm
    refine jr Y Y Y Y (fun w _ => qe h7 (runUnderlying24 w) (sizeOf55 w) Y Y hna1 hqa1) ?_
    refine jz Y Y Y Y (fun w hh => zW RSi 0 [.int .i64 t22.after, .int .i64 t22.cell, .bool t22.upright] h7 (isAgg55 w) (sizeOf55 w) Y (hh.seg 1 Y) Y (Nat.add_zero _).symm) ?_
    refine jr Y Y Y Y (fun w _ => Y9 (jaB t18 (⟨t22.after, t22.cell, t22.upright⟩ : Sight) w) jad Y Y) (jM (ja ?_))
    refine js Y (fun h8 => ?_) (fun h8 => ?_)
    ·replace hm := ifF (of_ndec_true h8) hm
     refine jq (jm Y Y (jp (jv (jy (jd (jd (jy ?_)))))))
     obtain rfl := sj hm
     have hbo := h4 _ Y
     subst hbo
     refine jd ?_
     replace hm := ocR h3
     refine jd ?_
     obtain rfl := sj hm
     refine jj Y (fun w hh => (.tmp Y .nil)) (fun w hh => ⟨(), rfl, trivial, hh.se [] [] 2 Y Y Y rfl⟩)
    replace hm := ifT (of_ndec_false h8) hm
    refine jt (jx (ja (jg ?_)))
    obtain ⟨t25, h9, hm⟩ := bindO hm
    refine Kc h9 Y Y Y (ji Y Y (jw ?_))
    obtain rfl := sj hm
    refine ja ?_
    exact jE _ () Y (trivial) (sE Y) (fun w hh => hh)
   replace hm := ifE h5 hm
   refine jZ (jk (jk (jI ?_)))
   obtain rfl := sj hm
   have hbo := h4 _ Y
   subst hbo
   exact jl () (Y) (.nil) (fun w hh => hh)
  intro j hj
  have h10 := hj
  subst h10
  replace hm := ocL h3
  refine ja (jq (jm Y Y (jp (jv ?_))))
  obtain rfl := sj hm
  refine jj Y (fun w hh => (.tmp Y .nil)) (fun w hh => ⟨(), rfl, trivial, hh.se [] [] 2 Y Y Y rfl⟩)
def yX (a0 : (List Sight)) (b1 : (List Sight)) : Option Bool :=
 (kC a0 b1).bind fun t7 =>
 some t7
theorem Yk (a0 : (List Sight)) (b1 : (List Sight)) (qa0 : Option Addr) (na0 ca0 : Nat) (qa1 : Option Addr) (na1 ca1 : Nat) (w : World) (hw : HV w (keys [] []) [] [] [(aB qa0, aO qa0, RSi.enc a0), (aB qa1, aO qa1, RSi.enc b1)] w) (hna0 : a0.length = na0) (hqa0 : AOK na0 qa0) (hla0 : na0 ≤ ca0) (hna1 : b1.length = na1) (hqa1 : AOK na1 qa1) (hla1 : na1 ≤ ca1) {res : Bool} (hm : yX a0 b1 = some res) :
    Calls Tryz.prog 104 #[.slice qa0 na0 ca0, .slice qa1 na1 ca1] w (fun en w' => ∃ l : Unit, en = .returned (.bool res) ∧ (True) ∧ HV w (keys [] []) [] [] [] w') := by
  unfold yX at hm
  refine qN func104 Y ntmps104 Y (e := [(0, _), (1, _)]) Y hw (jq (jm Y Y (ql (ji Y Y (ji Y Y ?_)))))
  obtain ⟨t7, h1, hm⟩ := bindO hm
  refine je [] [] Y Y Y Y Y Y Y call165 (fun w hh => J7 a0 b1 qa0 na0 ca0 qa1 na1 ca1 w (HV.callee (S0 := []) (vs0 := []) hh (roR hh 0 Y (roR hh 1 Y roN))) hna0 hqa0 hla0 hna1 hqa1 hla1 h1) (fun l h2 => ?_)
  refine jm Y Y (jp (jv ?_))
  obtain rfl := sj hm
  refine jj Y (fun w hh => (.tmp Y .nil)) (fun w hh => ⟨(), rfl, trivial, hh.se [] [] 2 Y Y Y rfl⟩)
def ya (a0 : Channel) (b1 : Channel) : Option Bool :=
 (if a0.cells = b1.cells then
 (if a0.tides = b1.tides then
 ((z6 a0.fords b1.fords).bind fun t22 =>
 if t22 = true then
 ((zn a0.sands b1.sands).bind fun t29 =>
 if t29 = true then
 ((yX a0.sights b1.sights).bind fun t36 =>
 some t36) else
 (some false)) else
 (some false)) else
 (some false)) else
 (some false)).bind fun o =>
 some o
theorem K3 (a0 : Channel) (b1 : Channel) (qa0 : Option Addr) (na0 ca0 : Nat) (qa1 : Option Addr) (na1 ca1 : Nat) (qa2 : Option Addr) (na2 ca2 : Nat) (qa3 : Option Addr) (na3 ca3 : Nat) (qa4 : Option Addr) (na4 ca4 : Nat) (qa5 : Option Addr) (na5 ca5 : Nat) (w : World) (hw : HV w (keys [] []) [] [] [(aB qa0, aO qa0, RI.enc a0.fords), (aB qa1, aO qa1, RSa.enc a0.sands), (aB qa2, aO qa2, RSi.enc a0.sights), (aB qa3, aO qa3, RI.enc b1.fords), (aB qa4, aO qa4, RSa.enc b1.sands), (aB qa5, aO qa5, RSi.enc b1.sights)] w) (hna0 : a0.fords.length = na0) (hqa0 : AOK na0 qa0) (hla0 : na0 ≤ ca0) (hna1 : a0.sands.length = na1) (hqa1 : AOK na1 qa1) (hla1 : na1 ≤ ca1) (hna2 : a0.sights.length = na2) (hqa2 : AOK na2 qa2) (hla2 : na2 ≤ ca2) (hna3 : b1.fords.length = na3) (hqa3 : AOK na3 qa3) (hla3 : na3 ≤ ca3) (hna4 : b1.sands.length = na4) (hqa4 : AOK na4 qa4) (hla4 : na4 ≤ ca4) (hna5 : b1.sights.length = na5) (hqa5 : AOK na5 qa5) (hla5 : na5 ≤ ca5) {res : Bool} (hm : ya a0 b1 = some res) :
    Calls Tryz.prog 31 #[.agg #[.int .i64 a0.cells, .int .i64 a0.tides, .slice qa0 na0 ca0, .slice qa1 na1 ca1, .slice qa2 na2 ca2], .agg #[.int .i64 b1.cells, .int .i64 b1.tides, .slice qa3 na3 ca3, .slice qa4 na4 ca4, .slice qa5 na5 ca5]] w (fun en w' => ∃ l : Unit, en = .returned (.bool res) ∧ (True) ∧ HV w (keys [] []) [] [] [] w') := by
  unfold ya at hm
  refine qN func31 Y ntmps31 Y (e := [(0, _), (1, _)]) Y hw (jq ?_)
  refine jJ Y Y (fun b h1 => ?_)
  refine jJ Y Y (fun b_1 h2 => ?_)
  refine jm Y Y (jp (jh ?_))
  obtain ⟨o, h3, h4⟩ := bindO hm
  refine jP (ι := Unit) (fun l => True) (fun l => [(4, .bool o)]) (fun l => [kc b_1 #[.int .i64 b1.cells, .int .i64 b1.tides, .slice qa3 na3 ca3, .slice qa4 na4 ca4, .slice qa5 na5 ca5] 26, kc b #[.int .i64 a0.cells, .int .i64 a0.tides, .slice qa0 na0 ca0, .slice qa1 na1 ca1, .slice qa2 na2 ca2] 26]) (fun l => []) ?_ ?_
  ·replace hm := h3
   refine jg (qg 0 runUnderlying26 Y sizeOf3 Y Y (kX 1 isAgg3 Y Y Y Y (qg 0 runUnderlying26 Y sizeOf3 Y Y (kX 0 isAgg3 Y Y Y Y (jc Y Y Y (fun _ _ => zT Y Y) (ji Y Y ?_))))))
   refine jN 10 Y (fun h5 => ?_) (fun h5 => ?_)
   ·replace hm := ifD h5 hm
    refine jb Y Y (qg 1 runUnderlying26 Y sizeOf3 Y Y (jb Y Y (kX 1 isAgg3 Y Y Y Y (jb Y Y (qg 1 runUnderlying26 Y sizeOf3 Y Y (jb Y Y (kX 0 isAgg3 Y Y Y Y ?_)))))))
    refine jb Y Y (jc Y Y Y (fun _ _ => zT Y Y) (yK Y Y Y (ji Y Y ?_)))
    refine jN 17 Y (fun h6 => ?_) (fun h6 => ?_)
    ·replace hm := ifD h6 hm
     refine jb Y Y (qg 2 runUnderlying26 Y sizeOf22 Y Y (jb Y Y (kX 1 isAgg22 Y Y Y Y (jb Y Y (qg 2 runUnderlying26 Y sizeOf22 Y Y (jb Y Y (kX 0 isAgg22 Y Y Y Y ?_)))))))
     refine jb Y Y ?_
     obtain ⟨t22, h7, hm⟩ := bindO hm
     refine je [] [] Y Y Y Y Y Y Y call45 (fun w hh => QY a0.fords b1.fords qa0 na0 ca0 qa3 na3 ca3 w (HV.callee (S0 := []) (vs0 := []) hh (roR hh 0 Y (roR hh 3 Y roN))) hna0 hqa0 hla0 hna3 hqa3 hla3 h7) (fun l_1 h8 => ?_)
     refine yK Y Y Y (ji Y Y ?_)
     refine jN 24 Y (fun h9 => ?_) (fun h9 => ?_)
     ·replace hm := ifT (h9) hm
      refine jb Y Y (qg 3 runUnderlying26 Y sizeOf23 Y Y (jb Y Y (kX 1 isAgg23 Y Y Y Y (jb Y Y (qg 3 runUnderlying26 Y sizeOf23 Y Y (jb Y Y (kX 0 isAgg23 Y Y Y Y ?_)))))))
      refine jb Y Y ?_
      obtain ⟨t29, h10, hm⟩ := bindO hm
      refine je [] [] Y Y Y Y Y Y Y call103 (fun w hh => Yy a0.sands b1.sands qa1 na1 ca1 qa4 na4 ca4 w (HV.callee (S0 := []) (vs0 := []) hh (roR hh 1 Y (roR hh 4 Y roN))) hna1 hqa1 hla1 hna4 hqa4 hla4 h10) (fun l_2 h11 => ?_)
      refine yK Y Y Y (ji Y Y ?_)
      refine jN 31 Y (fun h12 => ?_) (fun h12 => ?_)
      ·replace hm := ifT (h12) hm
       refine jb Y Y (qg 4 runUnderlying26 Y sizeOf24 Y Y (jb Y Y (kX 1 isAgg24 Y Y Y Y (jb Y Y (qg 4 runUnderlying26 Y sizeOf24 Y Y (jb Y Y (kX 0 isAgg24 Y Y Y Y ?_)))))))
       refine jb Y Y ?_
       obtain ⟨t36, h13, hm⟩ := bindO hm
       refine je [] [] Y Y Y Y Y Y Y call104 (fun w hh => Yk a0.sights b1.sights qa2 na2 ca2 qa5 na5 ca5 w (HV.callee (S0 := []) (vs0 := []) hh (roR hh 2 Y (roR hh 5 Y roN))) hna2 hqa2 hla2 hna5 hqa5 hla5 h13) (fun l_3 h14 => ?_)
       refine yK Y Y Y (jm Y Y (jw ?_))
       obtain rfl := sj hm
       exact jl () (trivial) (sE Y) (fun w hh => hh)
      replace hm := ifN h12 hm
      refine g_k Y Y Y Y (g_k Y Y Y Y (g_k Y Y Y Y (g_k Y Y Y Y (g_k Y Y Y Y (yz Y Y Y (jm Y Y (jw ?_)))))))
      obtain rfl := sj hm
      exact jl () (trivial) (sE Y) (fun w hh => hh)
     replace hm := ifN h9 hm
     refine g_k Y Y Y Y (g_k Y Y Y Y (g_k Y Y Y Y (g_k Y Y Y Y (g_k Y Y Y Y (yz Y Y Y (ji Y Y (g_k Y Y Y Y ?_)))))))
     refine g_k Y Y Y Y (g_k Y Y Y Y (g_k Y Y Y Y (g_k Y Y Y Y (yz Y Y Y (jm Y Y (jw ?_))))))
     obtain rfl := sj hm
     exact jl () (trivial) (sE Y) (fun w hh => hh)
    replace hm := ifE h6 hm
    refine g_k Y Y Y Y (g_k Y Y Y Y (g_k Y Y Y Y (g_k Y Y Y Y (g_k Y Y Y Y (yz Y Y Y (ji Y Y (g_k Y Y Y Y ?_)))))))
    refine g_k Y Y Y Y (g_k Y Y Y Y (g_k Y Y Y Y (g_k Y Y Y Y (yz Y Y Y (ji Y Y (g_k Y Y Y Y (g_k Y Y Y Y ?_)))))))
    refine g_k Y Y Y Y (g_k Y Y Y Y (g_k Y Y Y Y (yz Y Y Y (jm Y Y (jw ?_)))))
    obtain rfl := sj hm
    exact jl () (trivial) (sE Y) (fun w hh => hh)
   replace hm := ifE h5 hm
   refine g_k Y Y Y Y (g_k Y Y Y Y (g_k Y Y Y Y (g_k Y Y Y Y (g_k Y Y Y Y (yz Y Y Y (ji Y Y (g_k Y Y Y Y ?_)))))))
   refine g_k Y Y Y Y (g_k Y Y Y Y (g_k Y Y Y Y (g_k Y Y Y Y (yz Y Y Y (ji Y Y (g_k Y Y Y Y (g_k Y Y Y Y ?_)))))))
   refine g_k Y Y Y Y (g_k Y Y Y Y (g_k Y Y Y Y (yz Y Y Y (ji Y Y (g_k Y Y Y Y (g_k Y Y Y Y (g_k Y Y Y Y ?_)))))))
   refine g_k Y Y Y Y (g_k Y Y Y Y (yz Y Y Y (jm Y Y (jw ?_))))
   obtain rfl := sj hm
   exact jl () (trivial) (sE Y) (fun w hh => hh)
  intro l hj
  replace hm := h4
  refine ja (jv ?_)
  obtain rfl := sj hm
  refine jj Y (fun w hh => (.tmp Y .nil)) (fun w hh => ⟨(), rfl, trivial, hh.se [] [] 6 Y Y Y rfl⟩)
end Go.Proofs.Wb

namespace Go.Proofs.Wb
set_option maxHeartbeats 4000000
set_option maxRecDepth 100000
open Go Go.Fw Go.Gx Go.Sb
open Tryz
set_option linter.unusedVariables false

structure yZ where
  t11 : Int
  out3 : (List (List Int))
def y7 (l0 : (List (List Int))) (s : yZ) : Option (yZ ⊕ (List (List Int))) :=
 if s.t11 < (l0.length : Int) then
 ((ix l0 s.t11).bind fun t13 =>
 (JH t13).bind fun t17 =>
 (appc 24 s.out3 [t17]).bind fun t19 =>
 (addc s.t11 1).bind fun t20 =>
 some (.inl (⟨t20, t19⟩ : yZ))) else
 (some (.inr s.out3))
def zY (l0 : (List (List Int))) : Option (List (List Int)) :=
 (makec 24 ([] : (List Int)) 0 (l0.length : Int)).bind fun t8 =>
 (iterM FU (y7 l0) (⟨0, t8⟩ : yZ)).bind fun o =>
 some o
theorem J0 (l0 : (List (List Int))) (qa0 : Option Addr) (na0 ca0 : Nat) (ar0 : List AL) (w : World) (hw : HV w (keys [] []) [] [] [(aB qa0, aO qa0, RwA.enc ar0)] w) (hna0 : l0.length = na0) (hqa0 : AOK na0 qa0) (hla0 : na0 ≤ ca0) (hda0 : DRO l0 ar0) (hTa0 : ∀ t, t ∈ rsg RI l0 ar0 → segOK w t ∧ (t.2.2 ≠ [] → t.1 ∉ keys [] [])) {res : (List (List Int))} (hm : zY l0 = some res) :
    Calls Tryz.prog 54 #[.slice qa0 na0 ca0] w (fun en w' => ∃ l : DL, en = .returned (sL l.v) ∧ (VOK 1 l.v.n l.v.cap (RwH.enc l.rs) l.v.sp l.v.q ∧ DOK RI res l.rs) ∧ HV w (keys [] []) [] [⟨22, RwH.enc l.rs, l.v.sp, l.v.q, dbl 3 RI res l.rs⟩] [] w') := by
  unfold zY at hm
  refine qN func54 Y ntmps54 Y (e := [(0, _)]) Y hw (jq (jc Y Y Y (fun _ _ => yY Y) (ql (ji Y Y (jc Y Y Y (fun w _ => jD hna0 (runUnderlying41 w) Y) ?_)))))
  obtain ⟨t8, h3, hm⟩ := bindO hm
  refine YA RwH vl0 (makecL vl0 h3) underlying41 ZI Y Y Y Y Y (fun L h4 => ?_)
  refine Y5 (E2 := 3) RI (Int.toNat 0) (makecO h3).1.symm (fun h5 => ?_)
  refine jm Y Y (jp (jh (jq (ji Y Y (jc Y Y Y (fun w _ => jD hna0 (runUnderlying41 w) Y) (ji Y Y (jp ?_)))))))
  obtain ⟨o, h6, h7⟩ := bindO hm
  refine jP (ι := DL) (fun l => VOK 1 l.v.n l.v.cap (RwH.enc l.rs) l.v.sp l.v.q ∧ DOK RI o l.rs) (fun l => [(3, sL l.v)]) (fun l => []) (fun l => [⟨22, RwH.enc l.rs, l.v.sp, l.v.q, dbl 3 RI o l.rs⟩]) ?_ ?_
  ·replace hm := h6
   refine jn ?_
   refine jQ (ι := DL) hm (fun s l_1 => VOK 1 l_1.v.n l_1.v.cap (RwH.enc l_1.rs) l_1.v.sp l_1.v.q ∧ DOK RI s.out3 l_1.rs) (fun s l_1 => [(3, sL l_1.v), (9, .slice qa0 na0 ca0), (10, .int .i64 (l0.length : Int)), (11, .int .i64 s.t11)]) (fun s l_1 => []) (fun s l_1 => [⟨22, RwH.enc l_1.rs, l_1.v.sp, l_1.v.q, dbl 3 RI s.out3 l_1.rs⟩]) (⟨⟨L.q, L.n, L.cap, L.sp⟩, (List.replicate (Int.toNat 0) vl0)⟩) (⟨h4, h5⟩) (sE Y) (fun w hh => hh) (fun s l_1 r hpl hm h12 => ?_)
   obtain ⟨h10, h11⟩ := hpl
   unfold y7 at hm
   refine jq (JT Y Y Y (jp (jh ?_)))
   refine js Y (fun h13 => ?_) (fun h13 => ?_)
   ·replace hm := ifD h13 hm
    refine jt (ja (jh (jn (jq ?_))))
    obtain ⟨t13, h14, hm⟩ := bindO hm
    obtain ⟨A, h15, h16, h17, h18⟩ := (hda0).row h14
    refine jc Y Y Y (fun w _ => qe h15 (runUnderlying41 w) (sizeOf22 w) Y Y (Eq.trans (hda0).len.symm hna0) hqa0) (jc Y Y Y (fun w hh => qQ RwA 0 h15 (isAgg22 w) Y (hh.seg 0 Y) Y (Nat.add_zero _).symm) (jm Y Y (jp (jg (ji Y Y (ji Y Y ?_))))))
    obtain ⟨t17, h19, hm⟩ := bindO hm
    refine je [] [] Y Y Y Y Y Y Y call46 (fun w hh => Qr t13 A.a A.n A.cap w (HV.callee (S0 := []) (vs0 := []) hh (roC (hh.oldsep (S0 := []) (vs0 := []) (hTa0 _ (rsg_ix h14 h15))) roN)) h16 h17 h18 h19) (fun l_2 h20 => ?_)
    have h21 := h20
    refine qj (S' := []) (vs' := [_, _]) [] [0, 1] 0 Y Y Y Y ?_
    refine q6 RwH [(⟨l_2.q, l_2.n, l_2.cap, l_2.sp⟩ : VL)] (ps := [(0, _)]) (cells := [_]) (fun w => runUnderlying41 w) (fun w => sizeOf22 w) (fun w => zeroValue22 w) Y Y Y Y Y Y Y Y (fun L_1 h22 => ?_)
    refine Y5 (E2 := 3) RI 1 (Y : _ = ([[]] : List (List Int))) (fun h23 => ?_)
    refine qj (S' := []) (vs' := [_, _, _]) [] [0, 1, 2] 0 Y Y Y Y ?_
    refine Zs RI (l' := [t17]) 0 l_2.n l_2.cap h23 h21 Y Y (fun h24 => ?_)
    have h25 : DOK RI [t17] [(⟨l_2.q, l_2.n, l_2.cap, l_2.sp⟩ : VL)] := h24
    refine jaf (S' := []) (vs' := [⟨22, RwH.enc [(⟨l_2.q, l_2.n, l_2.cap, l_2.sp⟩ : VL)], L_1.sp, L_1.q, dbl 3 RI [t17] [(⟨l_2.q, l_2.n, l_2.cap, l_2.sp⟩ : VL)]⟩, ⟨22, RwH.enc l_1.rs, l_1.v.sp, l_1.v.q, dbl 3 RI s.out3 l_1.rs⟩]) [] [0, 1] 0 (by decide) (by decide) Y Y Y ?_
    obtain ⟨t19, h26, hm⟩ := bindO hm
    refine Ji RwH 1 (appcL h26 (h11).len (h25).len) underlying41 ZI Y Y Y Y Y h10 Y Y (vlen RwH h22 Y) (AOK.q (vne h22)) (fun w hh => (hh.vsegA 0 Y h22)) Y (fun L_2 h27 _ => ?_)
    refine qj (S' := []) (vs' := [_, _]) [] [0, 1] 0 Y Y Y Y (qj (S' := []) (vs' := [_, _]) [] [1, 0] 0 Y Y Y Y ?_)
    refine Zz RI h11 h25 (appcO h26).1.symm (fun h28 => ?_)
    refine jm Y Y (jw (jx (ja (jg ?_))))
    obtain ⟨t20, h29, hm⟩ := bindO hm
    refine Kc h29 Y Y Y (ji Y Y (jw ?_))
    obtain rfl := sj hm
    refine ja ?_
    exact jE _ (⟨⟨L_2.q, L_2.n, L_2.cap, L_2.sp⟩, (l_1.rs ++ [(⟨l_2.q, l_2.n, l_2.cap, l_2.sp⟩ : VL)])⟩) Y (⟨h27, h28⟩) (sE Y) (fun w hh => hh)
   replace hm := ifE h13 hm
   refine jZ (jk (jk (jI ?_)))
   obtain rfl := sj hm
   have hbo := h12 _ Y
   subst hbo
   exact jl l_1 (⟨h10, h11⟩) (sE Y) (fun w hh => hh)
  intro l hj
  obtain ⟨h8, h9⟩ := hj
  replace hm := h7
  refine ja (jq (ji Y Y (jm Y Y (jp (jv ?_)))))
  obtain rfl := sj hm
  refine jj Y (fun w hh => (.tmp Y .nil)) (fun w hh => ⟨l, rfl, ⟨h8, h9⟩, hh.se [] [0] 1 Y Y Y rfl⟩)
def J2 (l0 : (List Int)) (a11_cells : Int) (a11_tides : Int) (a11_fords : (List Int)) (a11_sands : (List Sand)) (a11_sights : (List Sight)) : Option Bool :=
 (if (l0.length : Int) = (a11_fords.length : Int) then
 ((zh l0).bind fun t12 =>
 if t12 = true then
 ((yc l0 (⟨a11_cells, a11_tides, a11_fords, a11_sands, a11_sights⟩ : Channel)).bind fun t18 =>
 some t18) else
 (some false)) else
 (some false)).bind fun o =>
 some o
theorem YO (l0 : (List Int)) (a11_cells : Int) (a11_tides : Int) (a11_fords : (List Int)) (a11_sands : (List Sand)) (a11_sights : (List Sight)) (qa0 : Option Addr) (na0 ca0 : Nat) (rb : Nat) (qa2 : Option Addr) (na2 ca2 : Nat) (qa3 : Option Addr) (na3 ca3 : Nat) (qa4 : Option Addr) (na4 ca4 : Nat) (w : World) (hw : HV w (keys [] []) [] [] [(aB qa0, aO qa0, RI.enc l0), (rb, 0, [.int .i64 a11_cells, .int .i64 a11_tides, .slice qa2 na2 ca2, .slice qa3 na3 ca3, .slice qa4 na4 ca4]), (aB qa2, aO qa2, RI.enc a11_fords), (aB qa3, aO qa3, RSa.enc a11_sands), (aB qa4, aO qa4, RSi.enc a11_sights)] w) (hna0 : l0.length = na0) (hqa0 : AOK na0 qa0) (hla0 : na0 ≤ ca0)  (hna2 : a11_fords.length = na2) (hqa2 : AOK na2 qa2) (hla2 : na2 ≤ ca2) (hna3 : a11_sands.length = na3) (hqa3 : AOK na3 qa3) (hla3 : na3 ≤ ca3) (hna4 : a11_sights.length = na4) (hqa4 : AOK na4 qa4) (hla4 : na4 ≤ ca4) {res : Bool} (hm : J2 l0 a11_cells a11_tides a11_fords a11_sands a11_sights = some res) :
    Calls Tryz.prog 141 #[.slice qa0 na0 ca0, ptr rb 0] w (fun en w' => ∃ l : Unit, en = .returned (.bool res) ∧ (True) ∧ HV w (keys [] []) [] [] [] w') := by
  unfold J2 at hm
  refine qN func141 Y ntmps141 Y (e := [(0, _), (1, _)]) Y hw (jq (jm Y Y (jp (jh ?_))))
  obtain ⟨o, h1, h2⟩ := bindO hm
  refine jP (ι := Unit) (fun l => True) (fun l => [(3, .bool o)]) (fun l => []) (fun l => []) ?_ ?_
  ·replace hm := h1
   refine jg (ji Y Y (jc Y Y Y (fun w _ => jD hna0 (runUnderlying22 w) Y) (qg 2 runUnderlying26 Y sizeOf22 Y Y (jc Y Y Y (fun w hh => jF (isAgg22 w) Y (segCell (hh.seg 1 Y) 2 Y)) (jc Y Y Y (fun w _ => jD hna2 (runUnderlying22 w) Y) (jc Y Y Y (fun _ _ => zT Y Y) (ji Y Y ?_)))))))
   refine jN 10 Y (fun h3 => ?_) (fun h3 => ?_)
   ·replace hm := ifD h3 hm
    refine jb Y Y (ji Y Y (jb Y Y ?_))
    obtain ⟨t12, h4, hm⟩ := bindO hm
    refine je [] [] Y Y Y Y Y Y Y call138 (fun w hh => QM l0 qa0 na0 ca0 w (HV.callee (S0 := []) (vs0 := []) hh (roR hh 0 Y roN)) hna0 hqa0 hla0 h4) (fun l_1 h5 => ?_)
    refine yK Y Y Y (ji Y Y ?_)
    refine jN 14 Y (fun h6 => ?_) (fun h6 => ?_)
    ·replace hm := ifT (h6) hm
     refine jb Y Y (ji Y Y (jb Y Y (jc Y Y Y (fun w hh => jK (vs := [_, _, _, _, _]) (isAgg26 w) (sizeOf26 w) Y (segCells (hh.seg 1 Y) 0 Y)) (jb Y Y (jc Y Y Y (fun _ _ => kn (u := #[_]) (u' := #[]) Y Y) (jb Y Y ?_))))))
     obtain ⟨t18, h7, hm⟩ := bindO hm
     refine je [] [] Y Y Y Y Y Y Y call119 (fun w hh => KV l0 (⟨a11_cells, a11_tides, a11_fords, a11_sands, a11_sights⟩ : Channel) qa0 na0 ca0 qa2 na2 ca2 qa3 na3 ca3 qa4 na4 ca4 w (HV.callee (S0 := []) (vs0 := []) hh (roR hh 0 Y (roR hh 2 Y (roR hh 3 Y (roR hh 4 Y roN))))) hna0 hqa0 hla0 hna2 hqa2 hla2 hna3 hqa3 hla3 hna4 hqa4 hla4 h7) (fun l_2 h8 => ?_)
     refine yK Y Y Y (jm Y Y (jw ?_))
     obtain rfl := sj hm
     exact jl () (trivial) (sE Y) (fun w hh => hh)
    replace hm := ifN h6 hm
    refine g_k Y Y Y Y (g_k Y Y Y Y (g_k Y Y Y Y (g_k Y Y Y Y (yz Y Y Y (jm Y Y (jw ?_))))))
    obtain rfl := sj hm
    exact jl () (trivial) (sE Y) (fun w hh => hh)
   replace hm := ifE h3 hm
   refine g_k Y Y Y Y (g_k Y Y Y Y (yz Y Y Y (ji Y Y (g_k Y Y Y Y (g_k Y Y Y Y (g_k Y Y Y Y (g_k Y Y Y Y ?_)))))))
   refine yz Y Y Y (jm Y Y (jw ?_))
   obtain rfl := sj hm
   exact jl () (trivial) (sE Y) (fun w hh => hh)
  intro l hj
  replace hm := h2
  refine ja (jv ?_)
  obtain rfl := sj hm
  refine jj Y (fun w hh => (.tmp Y .nil)) (fun w hh => ⟨(), rfl, trivial, hh.se [] [] 5 Y Y Y rfl⟩)
def qM (x0 : (List Int)) (a11_c0_cells : Int) (a11_c0_tides : Int) (a11_c0_fords : (List Int)) (a11_c0_sands : (List Sand)) (a11_c0_sights : (List Sight)) : Option Bool :=
 (J2 x0 a11_c0_cells a11_c0_tides a11_c0_fords a11_c0_sands a11_c0_sights).bind fun t6 =>
 some (!t6)
theorem QG (x0 : (List Int)) (a11_c0_cells : Int) (a11_c0_tides : Int) (a11_c0_fords : (List Int)) (a11_c0_sands : (List Sand)) (a11_c0_sights : (List Sight)) (qa0 : Option Addr) (na0 ca0 : Nat) (rb : Nat) (rb_1 : Nat) (qa3 : Option Addr) (na3 ca3 : Nat) (qa4 : Option Addr) (na4 ca4 : Nat) (qa5 : Option Addr) (na5 ca5 : Nat) (w : World) (hw : HV w (keys [] []) [] [] [(aB qa0, aO qa0, RI.enc x0), (rb, 0, [.func (.func 141) #[] #[ptr rb_1 0]]), (rb_1, 0, [.int .i64 a11_c0_cells, .int .i64 a11_c0_tides, .slice qa3 na3 ca3, .slice qa4 na4 ca4, .slice qa5 na5 ca5]), (aB qa3, aO qa3, RI.enc a11_c0_fords), (aB qa4, aO qa4, RSa.enc a11_c0_sands), (aB qa5, aO qa5, RSi.enc a11_c0_sights)] w) (hna0 : x0.length = na0) (hqa0 : AOK na0 qa0) (hla0 : na0 ≤ ca0)   (hna3 : a11_c0_fords.length = na3) (hqa3 : AOK na3 qa3) (hla3 : na3 ≤ ca3) (hna4 : a11_c0_sands.length = na4) (hqa4 : AOK na4 qa4) (hla4 : na4 ≤ ca4) (hna5 : a11_c0_sights.length = na5) (hqa5 : AOK na5 qa5) (hla5 : na5 ≤ ca5) {res : Bool} (hm : qM x0 a11_c0_cells a11_c0_tides a11_c0_fords a11_c0_sands a11_c0_sights = some res) :
    Calls Tryz.prog 179 #[.slice qa0 na0 ca0, ptr rb 0] w (fun en w' => ∃ l : Unit, en = .returned (.bool res) ∧ (True) ∧ HV w (keys [] []) [] [] [] w') := by
  unfold qM at hm
  refine qN func179 Y ntmps179 Y (e := [(0, _), (1, _)]) Y hw (jq (jm Y Y (ql (jc Y Y Y (fun w hh => jF (isAgg186 w) Y (segCell (hh.seg 1 Y) 0 Y)) (ji Y Y ?_)))))
  obtain ⟨t6, h1, hm⟩ := bindO hm
  refine je [] [] Y Y Y Y Y Y Y call141 (fun w hh => YO x0 a11_c0_cells a11_c0_tides a11_c0_fords a11_c0_sands a11_c0_sights qa0 na0 ca0 rb_1 qa3 na3 ca3 qa4 na4 ca4 qa5 na5 ca5 w (HV.callee (S0 := []) (vs0 := []) hh (roR hh 0 Y (roR hh 2 Y (roR hh 3 Y (roR hh 4 Y (roR hh 5 Y roN)))))) hna0 hqa0 hla0 hna3 hqa3 hla3 hna4 hqa4 hla4 hna5 hqa5 hla5 h1) (fun l h2 => ?_)
  refine jc Y Y Y (fun _ _ => yj Y) (jm Y Y (jp (jv ?_)))
  obtain rfl := sj hm
  refine jj Y (fun w hh => (.tmp Y .nil)) (fun w hh => ⟨(), rfl, trivial, hh.se [] [] 6 Y Y Y rfl⟩)
def yO (s0 : (List (List Int))) (f1_c0_c0_cells : Int) (f1_c0_c0_tides : Int) (f1_c0_c0_fords : (List Int)) (f1_c0_c0_sands : (List Sand)) (f1_c0_c0_sights : (List Sight)) (s : Int) : Option (Int ⊕ (Unit ⊕ Int)) :=
 if s < (s0.length : Int) then
 ((ix s0 s).bind fun t14 =>
 (qM t14 f1_c0_c0_cells f1_c0_c0_tides f1_c0_c0_fords f1_c0_c0_sands f1_c0_c0_sights).bind fun t16 =>
 if t16 = true then
 (some (.inr (.inr s))) else
 ((addc s 1).bind fun t18 =>
 some (.inl t18))) else
 (some (.inr (.inl ())))
def yt (s0 : (List (List Int))) (f1_c0_c0_cells : Int) (f1_c0_c0_tides : Int) (f1_c0_c0_fords : (List Int)) (f1_c0_c0_sands : (List Sand)) (f1_c0_c0_sights : (List Sight)) : Option Int :=
 (iterM FU (yO s0 f1_c0_c0_cells f1_c0_c0_tides f1_c0_c0_fords f1_c0_c0_sands f1_c0_c0_sights) 0).bind fun o =>
 oc o (fun j => some (-1)) (fun r_1 => some r_1)
theorem Qp (s0 : (List (List Int))) (f1_c0_c0_cells : Int) (f1_c0_c0_tides : Int) (f1_c0_c0_fords : (List Int)) (f1_c0_c0_sands : (List Sand)) (f1_c0_c0_sights : (List Sight)) (qa0 : Option Addr) (na0 ca0 : Nat) (ar0 : List AL) (rb : Nat) (rb_1 : Nat) (qa3 : Option Addr) (na3 ca3 : Nat) (qa4 : Option Addr) (na4 ca4 : Nat) (qa5 : Option Addr) (na5 ca5 : Nat) (w : World) (hw : HV w (keys [] []) [] [] [(aB qa0, aO qa0, RwA.enc ar0), (rb, 0, [.func (.func 141) #[] #[ptr rb_1 0]]), (rb_1, 0, [.int .i64 f1_c0_c0_cells, .int .i64 f1_c0_c0_tides, .slice qa3 na3 ca3, .slice qa4 na4 ca4, .slice qa5 na5 ca5]), (aB qa3, aO qa3, RI.enc f1_c0_c0_fords), (aB qa4, aO qa4, RSa.enc f1_c0_c0_sands), (aB qa5, aO qa5, RSi.enc f1_c0_c0_sights)] w) (hna0 : s0.length = na0) (hqa0 : AOK na0 qa0) (hla0 : na0 ≤ ca0) (hda0 : DRO s0 ar0) (hTa0 : ∀ t, t ∈ rsg RI s0 ar0 → segOK w t ∧ (t.2.2 ≠ [] → t.1 ∉ keys [] []))   (hna3 : f1_c0_c0_fords.length = na3) (hqa3 : AOK na3 qa3) (hla3 : na3 ≤ ca3) (hna4 : f1_c0_c0_sands.length = na4) (hqa4 : AOK na4 qa4) (hla4 : na4 ≤ ca4) (hna5 : f1_c0_c0_sights.length = na5) (hqa5 : AOK na5 qa5) (hla5 : na5 ≤ ca5) {res : Int} (hm : yt s0 f1_c0_c0_cells f1_c0_c0_tides f1_c0_c0_fords f1_c0_c0_sands f1_c0_c0_sights = some res) :
    Calls Tryz.prog 203 #[.slice qa0 na0 ca0, .func (.func 179) #[] #[ptr rb 0]] w (fun en w' => ∃ l : Unit, en = .returned (.int .i64 res) ∧ (True) ∧ HV w (keys [] []) [] [] [] w') := by
  unfold yt at hm
  refine qN func203 Y ntmps203 Y (e := [(0, _), (1, _)]) Y hw (jq (jm Y Y (jp (jh (jq (ji Y Y (jc Y Y Y (fun w _ => jD hna0 (runUnderlying41 w) Y) ?_)))))))
  refine ji Y Y (jp ?_)
  obtain ⟨o, h1, h2⟩ := bindO hm
  refine jP (ι := Unit) (fun j => o = .inl j) (fun j => []) (fun j => []) (fun j => []) ?_ ?_
  ·replace hm := h1
   refine jn ?_
   refine jQ (ι := Unit) hm (fun s l => True) (fun s l => [(0, .slice qa0 na0 ca0), (1, .func (.func 179) #[] #[ptr rb 0]), (7, .int .i64 (s0.length : Int)), (8, .int .i64 s)]) (fun s l => []) (fun s l => []) () (trivial) (sE Y) (fun w hh => hh) (fun s l r hpl hm h3 => ?_)
   unfold yO at hm
   refine jq (JT Y Y Y (jp (jh ?_)))
   refine js Y (fun h4 => ?_) (fun h4 => ?_)
   ·replace hm := ifD h4 hm
    refine jt (ja (jh (jn (jq (ji Y Y (jm Y Y (ql ?_)))))))
    refine ji Y Y (ji Y Y (ji Y Y ?_))
    obtain ⟨t14, h5, hm⟩ := bindO hm
    obtain ⟨A, h6, h7, h8, h9⟩ := (hda0).row h5
    refine jc Y Y Y (fun w _ => qe h6 (runUnderlying41 w) (sizeOf22 w) Y Y (Eq.trans (hda0).len.symm hna0) hqa0) (jc Y Y Y (fun w hh => qQ RwA 0 h6 (isAgg22 w) Y (hh.seg 0 Y) Y (Nat.add_zero _).symm) ?_)
    obtain ⟨t16, h10, hm⟩ := bindO hm
    refine je [] [] Y Y Y Y Y Y Y call179 (fun w hh => QG t14 f1_c0_c0_cells f1_c0_c0_tides f1_c0_c0_fords f1_c0_c0_sands f1_c0_c0_sights A.a A.n A.cap rb rb_1 qa3 na3 ca3 qa4 na4 ca4 qa5 na5 ca5 w (HV.callee (S0 := []) (vs0 := []) hh (roC (hh.oldsep (S0 := []) (vs0 := []) (hTa0 _ (rsg_ix h5 h6))) (roR hh 1 Y (roR hh 2 Y (roR hh 3 Y (roR hh 4 Y (roR hh 5 Y roN))))))) h7 h8 h9 hna3 hqa3 hla3 hna4 hqa4 hla4 hna5 hqa5 hla5 h10) (fun l_1 h11 => ?_)
    refine jp ?_
    refine js Y (fun h12 => ?_) (fun h12 => ?_)
    ·replace hm := ifT (h12) hm
     refine jq (ji Y Y (jm Y Y (jp (jv (jy (jd (jd ?_)))))))
     refine jy ?_
     obtain rfl := sj hm
     have hbo := h3 _ Y
     subst hbo
     refine jd ?_
     replace hm := ocR h2
     refine jd ?_
     obtain rfl := sj hm
     refine jj Y (fun w hh => (.tmp Y .nil)) (fun w hh => ⟨(), rfl, trivial, hh.se [] [] 6 Y Y Y rfl⟩)
    replace hm := ifN h12 hm
    refine jt (jx (ja (jg ?_)))
    obtain ⟨t18, h13, hm⟩ := bindO hm
    refine Kc h13 Y Y Y (ji Y Y (jw ?_))
    obtain rfl := sj hm
    refine ja ?_
    exact jE _ () Y (trivial) (sE Y) (fun w hh => hh)
   replace hm := ifE h4 hm
   refine jZ (jk (jk (jI ?_)))
   obtain rfl := sj hm
   have hbo := h3 _ Y
   subst hbo
   exact jl () (Y) (.nil) (fun w hh => hh)
  intro j hj
  have h14 := hj
  subst h14
  replace hm := ocL h2
  refine ja (jq (jm Y Y (jp (jv ?_))))
  obtain rfl := sj hm
  refine jj Y (fun w hh => (.tmp Y .nil)) (fun w hh => ⟨(), rfl, trivial, hh.se [] [] 6 Y Y Y rfl⟩)
def qI (s0 : (List (List Int))) (f1_c0_c0_cells : Int) (f1_c0_c0_tides : Int) (f1_c0_c0_fords : (List Int)) (f1_c0_c0_sands : (List Sand)) (f1_c0_c0_sights : (List Sight)) : Option Bool :=
 (yt s0 f1_c0_c0_cells f1_c0_c0_tides f1_c0_c0_fords f1_c0_c0_sands f1_c0_c0_sights).bind fun t7 =>
 some (decide (0 ≤ t7))
theorem KT (s0 : (List (List Int))) (f1_c0_c0_cells : Int) (f1_c0_c0_tides : Int) (f1_c0_c0_fords : (List Int)) (f1_c0_c0_sands : (List Sand)) (f1_c0_c0_sights : (List Sight)) (qa0 : Option Addr) (na0 ca0 : Nat) (ar0 : List AL) (rb : Nat) (rb_1 : Nat) (qa3 : Option Addr) (na3 ca3 : Nat) (qa4 : Option Addr) (na4 ca4 : Nat) (qa5 : Option Addr) (na5 ca5 : Nat) (w : World) (hw : HV w (keys [] []) [] [] [(aB qa0, aO qa0, RwA.enc ar0), (rb, 0, [.func (.func 141) #[] #[ptr rb_1 0]]), (rb_1, 0, [.int .i64 f1_c0_c0_cells, .int .i64 f1_c0_c0_tides, .slice qa3 na3 ca3, .slice qa4 na4 ca4, .slice qa5 na5 ca5]), (aB qa3, aO qa3, RI.enc f1_c0_c0_fords), (aB qa4, aO qa4, RSa.enc f1_c0_c0_sands), (aB qa5, aO qa5, RSi.enc f1_c0_c0_sights)] w) (hna0 : s0.length = na0) (hqa0 : AOK na0 qa0) (hla0 : na0 ≤ ca0) (hda0 : DRO s0 ar0) (hTa0 : ∀ t, t ∈ rsg RI s0 ar0 → segOK w t ∧ (t.2.2 ≠ [] → t.1 ∉ keys [] []))   (hna3 : f1_c0_c0_fords.length = na3) (hqa3 : AOK na3 qa3) (hla3 : na3 ≤ ca3) (hna4 : f1_c0_c0_sands.length = na4) (hqa4 : AOK na4 qa4) (hla4 : na4 ≤ ca4) (hna5 : f1_c0_c0_sights.length = na5) (hqa5 : AOK na5 qa5) (hla5 : na5 ≤ ca5) {res : Bool} (hm : qI s0 f1_c0_c0_cells f1_c0_c0_tides f1_c0_c0_fords f1_c0_c0_sands f1_c0_c0_sights = some res) :
    Calls Tryz.prog 178 #[.slice qa0 na0 ca0, .func (.func 179) #[] #[ptr rb 0]] w (fun en w' => ∃ l : Unit, en = .returned (.bool res) ∧ (True) ∧ HV w (keys [] []) [] [] [] w') := by
  unfold qI at hm
  refine qN func178 Y ntmps178 Y (e := [(0, _), (1, _)]) Y hw (jq (jm Y Y (ql (ji Y Y (ji Y Y ?_)))))
  obtain ⟨t7, h1, hm⟩ := bindO hm
  refine je [] [] Y Y Y Y Y Y Y call203 (fun w hh => Qp s0 f1_c0_c0_cells f1_c0_c0_tides f1_c0_c0_fords f1_c0_c0_sands f1_c0_c0_sights qa0 na0 ca0 ar0 rb rb_1 qa3 na3 ca3 qa4 na4 ca4 qa5 na5 ca5 w (HV.callee (S0 := []) (vs0 := []) hh (roR hh 0 Y (roR hh 1 Y (roR hh 2 Y (roR hh 3 Y (roR hh 4 Y (roR hh 5 Y roN))))))) hna0 hqa0 hla0 hda0 (hh.oldT (S0 := []) (vs0 := []) hTa0) hna3 hqa3 hla3 hna4 hqa4 hla4 hna5 hqa5 hla5 h1) (fun l h2 => ?_)
  refine jc Y Y Y (fun _ _ => Yh Y Y) (jm Y Y (jp (jv ?_)))
  obtain rfl := sj hm
  refine jj Y (fun w hh => (.tmp Y .nil)) (fun w hh => ⟨(), rfl, trivial, hh.se [] [] 6 Y Y Y rfl⟩)
def yo (l0 : (List (List Int))) (holds1_c0_cells : Int) (holds1_c0_tides : Int) (holds1_c0_fords : (List Int)) (holds1_c0_sands : (List Sand)) (holds1_c0_sights : (List Sight)) : Option Bool :=
 (qI l0 holds1_c0_cells holds1_c0_tides holds1_c0_fords holds1_c0_sands holds1_c0_sights).bind fun t7 =>
 some (!t7)
theorem Q1 (l0 : (List (List Int))) (holds1_c0_cells : Int) (holds1_c0_tides : Int) (holds1_c0_fords : (List Int)) (holds1_c0_sands : (List Sand)) (holds1_c0_sights : (List Sight)) (qa0 : Option Addr) (na0 ca0 : Nat) (ar0 : List AL) (rb : Nat) (qa2 : Option Addr) (na2 ca2 : Nat) (qa3 : Option Addr) (na3 ca3 : Nat) (qa4 : Option Addr) (na4 ca4 : Nat) (w : World) (hw : HV w (keys [] []) [] [] [(aB qa0, aO qa0, RwA.enc ar0), (rb, 0, [.int .i64 holds1_c0_cells, .int .i64 holds1_c0_tides, .slice qa2 na2 ca2, .slice qa3 na3 ca3, .slice qa4 na4 ca4]), (aB qa2, aO qa2, RI.enc holds1_c0_fords), (aB qa3, aO qa3, RSa.enc holds1_c0_sands), (aB qa4, aO qa4, RSi.enc holds1_c0_sights)] w) (hna0 : l0.length = na0) (hqa0 : AOK na0 qa0) (hla0 : na0 ≤ ca0) (hda0 : DRO l0 ar0) (hTa0 : ∀ t, t ∈ rsg RI l0 ar0 → segOK w t ∧ (t.2.2 ≠ [] → t.1 ∉ keys [] []))  (hna2 : holds1_c0_fords.length = na2) (hqa2 : AOK na2 qa2) (hla2 : na2 ≤ ca2) (hna3 : holds1_c0_sands.length = na3) (hqa3 : AOK na3 qa3) (hla3 : na3 ≤ ca3) (hna4 : holds1_c0_sights.length = na4) (hqa4 : AOK na4 qa4) (hla4 : na4 ≤ ca4) {res : Bool} (hm : yo l0 holds1_c0_cells holds1_c0_tides holds1_c0_fords holds1_c0_sands holds1_c0_sights = some res) :
    Calls Tryz.prog 140 #[.slice qa0 na0 ca0, .func (.func 141) #[] #[ptr rb 0]] w (fun en w' => ∃ l : Unit, en = .returned (.bool res) ∧ (True) ∧ HV w (keys [] []) [] [] [] w') := by
  unfold yo at hm
  refine qN func140 Y ntmps140 Y (e := [(0, _), (1, _)]) Y hw (jq ?_)
  refine jJ Y Y (fun b h1 => ?_)
  refine jm Y Y (ql (ji Y Y (jc Y Y Y (fun _ _ => kn (u := #[]) (u' := #[_]) Y Y) ?_)))
  obtain ⟨t7, h2, hm⟩ := bindO hm
  refine je [] [] Y Y Y Y Y Y Y call178 (fun w hh => KT l0 holds1_c0_cells holds1_c0_tides holds1_c0_fords holds1_c0_sands holds1_c0_sights qa0 na0 ca0 ar0 b rb qa2 na2 ca2 qa3 na3 ca3 qa4 na4 ca4 w (HV.callee (S0 := []) (vs0 := []) hh (roR hh 0 Y (roC (bsep (hh.bseg 0 Y)) (roR hh 1 Y (roR hh 2 Y (roR hh 3 Y (roR hh 4 Y roN))))))) hna0 hqa0 hla0 hda0 (hh.oldT (S0 := []) (vs0 := []) hTa0) hna2 hqa2 hla2 hna3 hqa3 hla3 hna4 hqa4 hla4 h2) (fun l h3 => ?_)
  refine jc Y Y Y (fun _ _ => yj Y) (jm Y Y (jp (jv ?_)))
  obtain rfl := sj hm
  refine jj Y (fun w hh => (.tmp Y .nil)) (fun w hh => ⟨(), rfl, trivial, hh.se [] [] 5 Y Y Y rfl⟩)
structure qa where
  r0 : Bool
  r1 : Int
structure JE where
  now8_after : Int
  now8_at__c0 : Int
  now8_at__c1 : Int
  now8_at__c2 : Int
structure m_branch_Fits_S0 where
  t38 : Int
  now8_after : Int
  now8_at__c0 : Int
  now8_at__c1 : Int
  now8_at__c2 : Int
def Kx (t45 : Cells) (x : State) (s_1 : Bool) : Option Bool :=
 if s_1 = true then
 (some true) else
 (some (decide (x.at_ = t45)))
def zz (course1 : (List (List Int))) (t16b : yV) (c0 : Channel) (s : m_branch_Fits_S0) : Option (m_branch_Fits_S0 ⊕ (JE ⊕ qa)) :=
 if s.t38 < (course1.length : Int) then
 ((ix course1 s.t38).bind fun t41 =>
 (zX t41).bind fun t45 =>
 (if s.t38 = 0 then
 (some (decide ((⟨s.t38, t45⟩ : State) = (⟨s.now8_after, (⟨s.now8_at__c0, s.now8_at__c1, s.now8_at__c2⟩ : Cells)⟩ : State)))) else
 (some false)).bind fun o_2 =>
 (if 0 < s.t38 then
 ((k7 t16b.t14_0 t16b.t14_1 c0.fords c0.sands c0.sights t16b.t14_5 (⟨s.now8_after, (⟨s.now8_at__c0, s.now8_at__c1, s.now8_at__c2⟩ : Cells)⟩ : State)).bind fun t58 =>
 if nextOK t16b.t14_0 t16b.t14_5 (c0.fords.length : Int) t58 then ((iterL (Kx t45) (nextL t16b.t14_0 t16b.t14_5 (c0.fords.length : Int) t58) o_2).bind fun o_4 =>
 some o_4) else none) else
 (some o_2)).bind fun o_3 =>
 (if (!o_3) = true then
 (some true) else
 ((zV).bind fun t73 =>
 (kY t16b.t14_0 t16b.t14_1 c0.fords c0.sands c0.sights t16b.t14_5 (⟨s.t38, t45⟩ : State)).bind fun t75 =>
 some (!t75))).bind fun o_5 =>
 if o_5 = true then
 (some (.inr (.inr (⟨false, 0⟩ : qa)))) else
 ((addc s.t38 1).bind fun t78 =>
 some (.inl (⟨t78, s.t38, t45.c0, t45.c1, t45.c2⟩ : m_branch_Fits_S0)))) else
 (some (.inr (.inl (⟨s.now8_after, s.now8_at__c0, s.now8_at__c1, s.now8_at__c2⟩ : JE))))
def Kb (c0 : Channel) (course1 : (List (List Int))) : Option qa :=
 (qy c0).bind fun t16 =>
 oc t16 (fun t16a => some (⟨false, t16a⟩ : qa)) (fun t16b => ((addc c0.tides 1).bind fun t26 =>
 if (course1.length : Int) = t26 then
 ((yo course1 c0.cells c0.tides c0.fords c0.sands c0.sights).bind fun t31 =>
 some (!t31)) else
 (some true)).bind fun o =>
 if o = true then
 (some (⟨false, 0⟩ : qa)) else
 ((jL t16b.t14_0 t16b.t14_1 c0.fords c0.sands c0.sights t16b.t14_5).bind fun t35 =>
 (iterM FU (zz course1 t16b c0) (⟨0, t35.after, t35.at_.c0, t35.at_.c1, t35.at_.c2⟩ : m_branch_Fits_S0)).bind fun o_1 =>
 oc o_1 (fun j_1 => some (⟨true, 0⟩ : qa)) (fun r_2 => some r_2)))
theorem Zn (c0 : Channel) (course1 : (List (List Int))) (qa0 : Option Addr) (na0 ca0 : Nat) (qa1 : Option Addr) (na1 ca1 : Nat) (qa2 : Option Addr) (na2 ca2 : Nat) (qa3 : Option Addr) (na3 ca3 : Nat) (ar3 : List AL) (w : World) (hw : HV w (keys [] []) [] [] [(aB qa0, aO qa0, RI.enc c0.fords), (aB qa1, aO qa1, RSa.enc c0.sands), (aB qa2, aO qa2, RSi.enc c0.sights), (aB qa3, aO qa3, RwA.enc ar3)] w) (hna0 : c0.fords.length = na0) (hqa0 : AOK na0 qa0) (hla0 : na0 ≤ ca0) (hna1 : c0.sands.length = na1) (hqa1 : AOK na1 qa1) (hla1 : na1 ≤ ca1) (hna2 : c0.sights.length = na2) (hqa2 : AOK na2 qa2) (hla2 : na2 ≤ ca2) (hna3 : course1.length = na3) (hqa3 : AOK na3 qa3) (hla3 : na3 ≤ ca3) (hda3 : DRO course1 ar3) (hTa3 : ∀ t, t ∈ rsg RI course1 ar3 → segOK w t ∧ (t.2.2 ≠ [] → t.1 ∉ keys [] [])) {res : qa} (hm : Kb c0 course1 = some res) :
    Calls Tryz.prog 56 #[.agg #[.int .i64 c0.cells, .int .i64 c0.tides, .slice qa0 na0 ca0, .slice qa1 na1 ca1, .slice qa2 na2 ca2], .slice qa3 na3 ca3] w (fun en w' => ∃ l : Unit, en = .returned (.tuple #[.bool res.r0, .int .i64 res.r1]) ∧ (True) ∧ HV w (keys [] []) [] [] [] w') := by
  unfold Kb at hm
  refine Yn (args := [.agg #[.int .i64 c0.cells, .int .i64 c0.tides, .slice qa0 na0 ca0, .slice qa1 na1 ca1, .slice qa2 na2 ca2], .slice qa3 na3 ca3]) func56 Y ntmps56 Y (e := [(0, _), (1, _)]) Y (H := HV w (keys [] []) [] [] [(aB qa0, aO qa0, RI.enc c0.fords), (aB qa1, aO qa1, RSa.enc c0.sands), (aB qa2, aO qa2, RSi.enc c0.sights), (aB qa3, aO qa3, RwA.enc ar3)]) hw ?_
  refine QT (jq ?_)
  refine jJ Y Y (fun b h1 => ?_)
  refine jm Y Y (jm Y Y (ql (zd [_, _, _, _, _] 0 isAgg26 sizeOf26 Y Y Y Y ?_)))
  obtain ⟨t16, h2, hm⟩ := bindO hm
  rcases t16 with t16a | t16b
  ·replace hm := ocL hm
   refine je [] [] Y Y Y Y Y Y Y call93 (fun w hh => qc c0 qa0 na0 ca0 qa1 na1 ca1 qa2 na2 ca2 w (HV.callee (S0 := []) (vs0 := []) hh (roR hh 0 Y (roR hh 1 Y (roR hh 2 Y roN)))) hna0 hqa0 hla0 hna1 hqa1 hla1 hna2 hqa2 hla2 h2) (fun l h3 => ?_)
   have h4 := h3
   refine ji Y Y (zI Y Y Y (zI Y Y Y (jm Y Y (jm Y Y (jp (jh (jq ?_)))))))
   refine ji Y Y (jc Y Y Y (fun _ _ => Yq h4 Y Y) (jp (JI Y Y (jq (ji Y Y (jm Y Y (jm Y Y ?_)))))))
   refine jp (jv (jd ?_))
   obtain rfl := sj hm
   refine JC Y Y Y (fun w hh => (.tmp Y (.tmp Y .nil))) (fun w hh => ⟨(), rfl, trivial, hh.se [] [] 4 Y Y Y rfl⟩)
  replace hm := ocR hm
  refine je [] [] Y Y Y Y Y Y Y call93 (fun w hh => qc c0 qa0 na0 ca0 qa1 na1 ca1 qa2 na2 ca2 w (HV.callee (S0 := []) (vs0 := []) hh (roR hh 0 Y (roR hh 1 Y (roR hh 2 Y roN)))) hna0 hqa0 hla0 hna1 hqa1 hla1 hna2 hqa2 hla2 h2) (fun l_1 h5 => ?_)
  have h6 := h5
  refine qj (S' := [_, _]) (vs' := [_, _]) [0, 1] [0, 1] 0 Y Y Y Y (ji Y Y (zI Y Y Y (zI Y Y Y (jm Y Y (jm Y Y (jp (jh ?_)))))))
  refine jq (ji Y Y (jc Y Y Y (fun _ _ => zw Y Y) (jp (JN Y Y (jt (ja (jh ?_)))))))
  refine jh ?_
  obtain ⟨o, h7, h8⟩ := bindO hm
  refine QD (ι := Unit) (fun l_2 => mks []) (fun l_2 => True) (fun l_2 => [(1, .slice qa3 na3 ca3), (6, ptr l_1.1 0), (33, .bool o)]) (fun l_2 => [kc l_1.1 #[.int .i64 t16b.t14_0, .int .i64 t16b.t14_1, .slice qa0 na0 ca0, .slice qa1 na1 ca1, .slice qa2 na2 ca2, sL l_1.2] 175, kc b #[.int .i64 c0.cells, .int .i64 c0.tides, .slice qa0 na0 ca0, .slice qa1 na1 ca1, .slice qa2 na2 ca2] 26]) (fun l_2 => [vL 3 l_1.2 (RI.enc t16b.t14_5), mkV []]) ?_ ?_
  ·replace hm := h7
   refine jg (ji Y Y (jc Y Y Y (fun w _ => jD hna3 (runUnderlying41 w) Y) (qg 1 runUnderlying26 Y sizeOf3 Y Y (kX 1 isAgg3 Y Y Y Y ?_))))
   obtain ⟨t26, h9, hm⟩ := bindO hm
   refine Kc h9 Y Y Y (jc Y Y Y (fun _ _ => zw Y Y) (ji Y Y ?_))
   refine jN 28 Y (fun h10 => ?_) (fun h10 => ?_)
   ·replace hm := ifF (of_ndec_true h10) hm
    refine g_k Y Y Y Y (g_k Y Y Y Y (g_k Y Y Y Y (g_k Y Y Y Y (yK Y Y Y (jw ?_)))))
    obtain rfl := sj hm
    exact zj () Y (trivial) (sE Y) (fun w hh => hh)
   replace hm := ifT (of_ndec_false h10) hm
   refine jb Y Y (ji Y Y (jb Y Y (jc Y Y Y (fun _ _ => kn (u := #[]) (u' := #[_]) Y Y) (jb Y Y ?_))))
   obtain ⟨t31, h11, hm⟩ := bindO hm
   refine je [] [] Y Y Y Y Y Y Y call140 (fun w hh => Q1 course1 c0.cells c0.tides c0.fords c0.sands c0.sights qa3 na3 ca3 ar3 b qa0 na0 ca0 qa1 na1 ca1 qa2 na2 ca2 w (HV.callee (S0 := []) (vs0 := []) hh (roR hh 3 Y (roC (bsep (hh.bseg 1 Y)) (roR hh 0 Y (roR hh 1 Y (roR hh 2 Y roN)))))) hna3 hqa3 hla3 hda3 (hh.oldT (S0 := []) (vs0 := []) hTa3) hna0 hqa0 hla0 hna1 hqa1 hla1 hna2 hqa2 hla2 h11) (fun l_3 h12 => ?_)
   refine jb Y Y (jc Y Y Y (fun _ _ => yj Y) (yz Y Y Y (jw ?_)))
   obtain rfl := sj hm
   exact zj () Y (trivial) (sE Y) (fun w hh => hh)
  intro l_2 hj
  replace hm := h8
  refine ja ?_
  refine js Y (fun h13 => ?_) (fun h13 => ?_)
  ·replace hm := ifT (h13) hm
   refine jq (jm Y Y (jm Y Y (jp (jv (jd ?_)))))
   obtain rfl := sj hm
   refine JC Y Y Y (fun w hh => (.tmp Y (.tmp Y .nil))) (fun w hh => ⟨(), rfl, trivial, hh.se [] [] 4 Y Y Y rfl⟩)
  replace hm := ifN h13 hm
  refine jt (ja (jq (ji Y Y ?_)))
  obtain ⟨t35, h14, hm⟩ := bindO hm
  refine je [] [] Y Y Y Y Y Y Y call99 (fun w hh => ko t16b.t14_0 t16b.t14_1 c0.fords c0.sands c0.sights t16b.t14_5 l_1.1 qa0 na0 ca0 qa1 na1 ca1 qa2 na2 ca2 (qA l_1.2.q) l_1.2.n l_1.2.cap w (HV.callee (S0 := []) (vs0 := []) hh (roC (bsep (hh.bseg 0 Y)) (roR hh 0 Y (roR hh 1 Y (roR hh 2 Y (roC (hh.vsepA 0 Y h6) roN)))))) hna0 hqa0 hla0 hna1 hqa1 hla1 hna2 hqa2 hla2 (vlen RI h6 Y) (AOK.q (vne h6)) (h6).hle h14) (fun l_4 h15 => ?_)
  refine ju (fun w => zeroValue159 w) Y (fun b_1 h16 => ?_)
  refine jV (us := #[_, _, _, _]) (cs' := [_, _, _, _]) (S' := [_, _, _]) 0 (fun w => sizeOf159 w) Y Y Y Y Y Y Y (jp (jh (jq (ji Y Y (jc Y Y Y (fun w _ => jD hna3 (runUnderlying41 w) Y) (ji Y Y (jp ?_)))))))
  obtain ⟨o_1, h17, h18⟩ := bindO hm
  refine QD (ι := JE × List Nat) (fun j => mks j.2) (fun j => o_1 = .inl j.1) (fun j => []) (fun j => [kc b_1 #[.int .i64 j.1.now8_after, .int .i64 j.1.now8_at__c0, .int .i64 j.1.now8_at__c1, .int .i64 j.1.now8_at__c2] 159, kc l_1.1 #[.int .i64 t16b.t14_0, .int .i64 t16b.t14_1, .slice qa0 na0 ca0, .slice qa1 na1 ca1, .slice qa2 na2 ca2, sL l_1.2] 175, kc b #[.int .i64 c0.cells, .int .i64 c0.tides, .slice qa0 na0 ca0, .slice qa1 na1 ca1, .slice qa2 na2 ca2] 26]) (fun j => [vL 3 l_1.2 (RI.enc t16b.t14_5), mkV j.2]) ?_ ?_
  ·replace hm := h17
   refine jn ?_
   refine QX (ι := List Nat) hm (fun s l_5 => mks l_5) (fun s l_5 => True) (fun s l_5 => [(6, ptr l_1.1 0), (8, ptr b_1 0), (36, .slice qa3 na3 ca3), (37, .int .i64 (course1.length : Int)), (38, .int .i64 s.t38)]) (fun s l_5 => [kc b_1 #[.int .i64 s.now8_after, .int .i64 s.now8_at__c0, .int .i64 s.now8_at__c1, .int .i64 s.now8_at__c2] 159, kc l_1.1 #[.int .i64 t16b.t14_0, .int .i64 t16b.t14_1, .slice qa0 na0 ca0, .slice qa1 na1 ca1, .slice qa2 na2 ca2, sL l_1.2] 175, kc b #[.int .i64 c0.cells, .int .i64 c0.tides, .slice qa0 na0 ca0, .slice qa1 na1 ca1, .slice qa2 na2 ca2] 26]) (fun s l_5 => [vL 3 l_1.2 (RI.enc t16b.t14_5), mkV l_5]) [] Y (trivial) (sE Y) (fun w hh => hh) (fun s l_5 r hpl hm h19 => ?_)
   unfold zz at hm
   refine jq (JT Y Y Y (jp (jh ?_)))
   refine js Y (fun h20 => ?_) (fun h20 => ?_)
   ·replace hm := ifD h20 hm
    refine jt (ja (jh (jn (jq (ji Y Y ?_)))))
    obtain ⟨t41, h21, hm⟩ := bindO hm
    obtain ⟨A, h22, h23, h24, h25⟩ := (hda3).row h21
    refine jc Y Y Y (fun w _ => qe h22 (runUnderlying41 w) (sizeOf22 w) Y Y (Eq.trans (hda3).len.symm hna3) hqa3) (jc Y Y Y (fun w hh => qQ RwA 0 h22 (isAgg22 w) Y (hh.seg 3 Y) Y (Nat.add_zero _).symm) (jm Y Y (jm Y Y (ql (ji Y Y (ji Y Y ?_))))))
    obtain ⟨t45, h26, hm⟩ := bindO hm
    refine je [] [] Y Y Y Y Y Y Y call142 (fun w hh => QR t41 A.a A.n A.cap w (HV.callee (S0 := []) (vs0 := []) hh (roC (hh.oldsep (S0 := []) (vs0 := []) (hTa3 _ (rsg_ix h21 h22))) roN)) h23 h24 h25 h26) (fun l_6 h27 => ?_)
    refine jc Y Y Y (fun _ _ => kT (vs := [(0, _), (1, _)]) (cells := [_, _, _, _]) Y Y) ?_
    refine ju (fun w => zeroValue159 w) Y (fun b_2 h28 => ?_)
    refine jV (us := #[_, _, _, _]) (cs' := [_, _, _, _]) (S' := [_, _, _, _]) 0 (fun w => sizeOf159 w) Y Y Y Y Y Y Y (jp (jh ?_))
    obtain ⟨o_2, h29, h30⟩ := bindO hm
    refine QD (ι := Nat) (fun l_7 => mks l_5) (fun l_7 => True) (fun l_7 => [(6, ptr l_1.1 0), (8, ptr b_1 0), (9, .int .i64 s.t38), (11, ptr b_2 0), (12, ptr l_7 0), (36, .slice qa3 na3 ca3), (37, .int .i64 (course1.length : Int)), (38, .int .i64 s.t38)]) (fun l_7 => [kc b_2 #[.int .i64 s.t38, .int .i64 t45.c0, .int .i64 t45.c1, .int .i64 t45.c2] 159, kc b_1 #[.int .i64 s.now8_after, .int .i64 s.now8_at__c0, .int .i64 s.now8_at__c1, .int .i64 s.now8_at__c2] 159, kc l_1.1 #[.int .i64 t16b.t14_0, .int .i64 t16b.t14_1, .slice qa0 na0 ca0, .slice qa1 na1 ca1, .slice qa2 na2 ca2, sL l_1.2] 175, kc b #[.int .i64 c0.cells, .int .i64 c0.tides, .slice qa0 na0 ca0, .slice qa1 na1 ca1, .slice qa2 na2 ca2] 26, kc l_7 #[.bool o_2] 4]) (fun l_7 => [vL 3 l_1.2 (RI.enc t16b.t14_5), mkV l_5]) ?_ ?_
    ·replace hm := h29
     refine jg (ji Y Y (jc Y Y Y (fun _ _ => zT Y Y) (ji Y Y ?_)))
     refine jN 49 Y (fun h31 => ?_) (fun h31 => ?_)
     ·replace hm := ifD h31 hm
      refine jb Y Y (zd [_, _, _, _] 0 isAgg159 sizeOf159 Y Y Y Y (jb Y Y (zd [_, _, _, _] 1 isAgg159 sizeOf159 Y Y Y Y (jb Y Y ?_))))
      refine jc Y Y Y (fun w _ => YK (ZA (⟨s.t38, t45⟩ : State) (⟨s.now8_after, (⟨s.now8_at__c0, s.now8_at__c1, s.now8_at__c2⟩ : Cells)⟩ : State) w) ZQ Y Y) ?_
      refine yK Y Y Y ?_
      refine ju (fun w => zeroValue4 w) Y (fun b_3 h32 => ?_)
      refine yM (cs' := #[_]) (S' := [_, _, _, _, _]) 0 (fun w => sizeOf4 w) Y Y Y Y Y Y Y (jw ?_)
      obtain rfl := sj hm
      exact zj b_3 Y (trivial) (sE Y) (hsE [1, 2, 3, 4, 0] [0, 1] 0 Y Y Y Y)
     replace hm := ifE h31 hm
     refine g_k Y Y Y Y (g_k Y Y Y Y (g_k Y Y Y Y (yz Y Y Y ?_)))
     refine ju (fun w => zeroValue4 w) Y (fun b_4 h33 => ?_)
     refine yM (cs' := #[_]) (S' := [_, _, _, _, _]) 0 (fun w => sizeOf4 w) Y Y Y Y Y Y Y (jw ?_)
     obtain rfl := sj hm
     exact zj b_4 Y (trivial) (sE Y) (hsE [1, 2, 3, 4, 0] [0, 1] 0 Y Y Y Y)
    intro l_7 hj
    replace hm := h30
    refine ja (jh ?_)
    obtain ⟨o_3, h34, h35⟩ := bindO hm
    refine QD (ι := List Nat) (fun l_8 => mks l_8) (fun l_8 => True) (fun l_8 => [(6, ptr l_1.1 0), (8, ptr b_1 0), (11, ptr b_2 0), (12, ptr l_7 0), (36, .slice qa3 na3 ca3), (37, .int .i64 (course1.length : Int)), (38, .int .i64 s.t38)]) (fun l_8 => [kc b_2 #[.int .i64 s.t38, .int .i64 t45.c0, .int .i64 t45.c1, .int .i64 t45.c2] 159, kc b_1 #[.int .i64 s.now8_after, .int .i64 s.now8_at__c0, .int .i64 s.now8_at__c1, .int .i64 s.now8_at__c2] 159, kc l_1.1 #[.int .i64 t16b.t14_0, .int .i64 t16b.t14_1, .slice qa0 na0 ca0, .slice qa1 na1 ca1, .slice qa2 na2 ca2, sL l_1.2] 175, kc b #[.int .i64 c0.cells, .int .i64 c0.tides, .slice qa0 na0 ca0, .slice qa1 na1 ca1, .slice qa2 na2 ca2] 26, kc l_7 #[.bool o_3] 4]) (fun l_8 => [vL 3 l_1.2 (RI.enc t16b.t14_5), mkV l_8]) ?_ ?_
    ·replace hm := h34
     refine jq (ji Y Y (jc Y Y Y (fun _ _ => Qt Y Y) (jp ?_)))
     refine js Y (fun h36 => ?_) (fun h36 => ?_)
     ·replace hm := ifD h36 hm
      refine jq (ji Y Y (zd [_, _, _, _] 1 isAgg159 sizeOf159 Y Y Y Y ?_))
      obtain ⟨t58, h37, hm⟩ := bindO hm
      refine je [] [] Y Y Y Y Y Y Y call96 (fun w hh => y4 t16b.t14_0 t16b.t14_1 c0.fords c0.sands c0.sights t16b.t14_5 (⟨s.now8_after, (⟨s.now8_at__c0, s.now8_at__c1, s.now8_at__c2⟩ : Cells)⟩ : State) l_1.1 qa0 na0 ca0 qa1 na1 ca1 qa2 na2 ca2 (qA l_1.2.q) l_1.2.n l_1.2.cap w (HV.callee (S0 := []) (vs0 := []) hh (roC (bsep (hh.bseg 2 Y)) (roR hh 0 Y (roR hh 1 Y (roR hh 2 Y (roC (hh.vsepA 0 Y h6) roN)))))) hna0 hqa0 hla0 hna1 hqa1 hla1 hna2 hqa2 hla2 (vlen RI h6 Y) (AOK.q (vne h6)) (h6).hle h37) (fun l_9 h38 => ?_)
      refine qj (S' := [_, _, _, _, _, _, _]) (vs' := [_, _]) [0, 1, 2, 3, 4, 5, 6] [0, 1] 0 Y Y Y Y (jp (jn ?_))
      obtain ⟨h39, hm⟩ := ifO hm
      refine Zj (e' := [(6, ptr l_1.1 0), (8, ptr b_1 0), (11, ptr b_2 0), (12, ptr l_7 0), (36, .slice qa3 na3 ca3), (37, .int .i64 (course1.length : Int)), (38, .int .i64 s.t38), (58, .func (.func 161) #[] #[ptr l_9.1 0, ptr l_9.2 0])]) (sE Y) ?_
      obtain ⟨o_4, h40, hm⟩ := bindO hm
      refine Qb (ι := Unit) (nextL t16b.t14_0 t16b.t14_5 (c0.fords.length : Int) t58) (fun x => .agg #[.int .i64 x.after, .int .i64 x.at_.c0, .int .i64 x.at_.c1, .int .i64 x.at_.c2]) h40 (fun s_1 l_10 => True) (fun s_1 l_10 => [kc l_9.1 #[.int .i64 t58.after, .int .i64 t58.at_.c0, .int .i64 t58.at_.c1, .int .i64 t58.at_.c2] 159, kc l_9.2 #[ptr l_1.1 0] 146, kc b_2 #[.int .i64 s.t38, .int .i64 t45.c0, .int .i64 t45.c1, .int .i64 t45.c2] 159, kc b_1 #[.int .i64 s.now8_after, .int .i64 s.now8_at__c0, .int .i64 s.now8_at__c1, .int .i64 s.now8_at__c2] 159, kc l_1.1 #[.int .i64 t16b.t14_0, .int .i64 t16b.t14_1, .slice qa0 na0 ca0, .slice qa1 na1 ca1, .slice qa2 na2 ca2, sL l_1.2] 175, kc b #[.int .i64 c0.cells, .int .i64 c0.tides, .slice qa0 na0 ca0, .slice qa1 na1 ca1, .slice qa2 na2 ca2] 26, kc l_7 #[.bool s_1] 4]) (fun s_1 l_10 => [vL 3 l_1.2 (RI.enc t16b.t14_5), mkV l_5]) () (trivial) (fun w hh => hh) (RdN l_9.2 l_1.1 l_9.1 t16b.t14_0 (.int .i64 t16b.t14_1) (.slice qa1 na1 ca1) (.slice qa2 na2 ca2) qa0 (qA l_1.2.q) na0 ca0 l_1.2.n l_1.2.cap t16b.t14_5 t58) (fun s_1 l_10 w h41 hh => ⟨hh.bseg 1 rfl, hh.bseg 4 rfl, hh.bseg 0 rfl, hh.vsegA 0 Y h6⟩) (fun x => (.cells #[.int .i64 x.after, .int .i64 x.at_.c0, .int .i64 x.at_.c1, .int .i64 x.at_.c2] 159 (0, 0))) (it_next _ _ _ l_9.2 l_1.1 l_9.1 t16b.t14_0 (.int .i64 t16b.t14_1) (.slice qa1 na1 ca1) (.slice qa2 na2 ca2) qa0 (qA l_1.2.q) na0 ca0 l_1.2.n l_1.2.cap c0.fords t16b.t14_5 t58 hna0 (vlen RI h6 Y) (AOK.q (vne h6)) h39) Y call161 Y (e1 := fun x bx => (13, ptr bx 0) :: (59, .agg #[.int .i64 x.after, .int .i64 x.at_.c0, .int .i64 x.at_.c1, .int .i64 x.at_.c2]) :: [(6, ptr l_1.1 0), (8, ptr b_1 0), (11, ptr b_2 0), (12, ptr l_7 0), (36, .slice qa3 na3 ca3), (37, .int .i64 (course1.length : Int)), (38, .int .i64 s.t38), (58, .func (.func 161) #[] #[ptr l_9.1 0, ptr l_9.2 0])]) (fun x lr L X hX => ?_) (fun x s_1 r_1 l_10 lr w1 bx h41 hm => ?_) (fun l_10 D h41 => ?_)
      ·refine jg ?_
       refine ju (fun w => zeroValue159 w) Y (fun b_5 h44 => ?_)
       refine jV (us := #[_, _, _, _]) (cs' := [_, _, _, _]) (S' := [_]) 0 (fun w => sizeOf159 w) Y Y Y Y Y Y Y (jp ?_)
       exact hX _
      ·unfold Kx at hm
       refine jn (jg (kX 7 isAgg4 Y Y Y Y (ji Y Y ?_)))
       refine jN 61 Y (fun h45 => ?_) (fun h45 => ?_)
       ·replace hm := ifT (h45) hm
        refine g_k Y Y Y Y (g_k Y Y Y Y (g_k Y Y Y Y (g_k Y Y Y Y (g_k Y Y Y Y (yK Y Y Y (yM (cs' := #[_]) (S' := [_, _, _, _, _, _, _, _]) 7 (fun w => sizeOf4 w) Y Y Y Y Y Y Y (jw ?_)))))))
        refine jx ?_
        obtain rfl := sj hm
        exact Qo true () Y (trivial) (hsE [1, 2, 3, 4, 5, 6, 7] [0, 1] 4 Y Y Y Y)
       replace hm := ifN h45 hm
       refine jb Y Y (qg 1 runUnderlying159 Y sizeOf157 Y Y (jb Y Y (zd [_, _, _] 0 isAgg157 sizeOf157 Y Y Y Y (jb Y Y (qg 1 runUnderlying159 Y sizeOf157 Y Y (jb Y Y (zd [_, _, _] 3 isAgg157 sizeOf157 Y Y Y Y ?_)))))))
       refine jb Y Y (jc Y Y Y (fun w _ => YK (jaD x.at_ t45 w) jaq Y Y) (yz Y Y Y (yM (cs' := #[_]) (S' := [_, _, _, _, _, _, _, _]) 7 (fun w => sizeOf4 w) Y Y Y Y Y Y Y (jw (jx ?_)))))
       obtain rfl := sj hm
       exact Qo (decide (x.at_ = t45)) () Y (trivial) (hsE [1, 2, 3, 4, 5, 6, 7] [0, 1] 4 Y Y Y Y)
      refine Ys 1 Y Y (jx ?_)
      obtain rfl := sj hm
      exact zj (D :: l_5) Y (trivial) (sE Y) (hsE [2, 3, 4, 5, 6] [0, 1] 0 Y Y Y Y)
     replace hm := ifE h36 hm
     refine jt ?_
     obtain rfl := sj hm
     exact zj l_5 Y (trivial) (sE Y) (fun w hh => hh)
    intro l_8 hj
    replace hm := h35
    refine ja (jq (zd [_, _, _, _] 0 isAgg159 sizeOf159 Y Y Y Y (jV (us := #[_, _, _, _]) (cs' := [_, _, _, _]) (S' := [_, _, _, _, _]) 1 (fun w => sizeOf159 w) Y Y Y Y Y Y Y (jp (jh ?_)))))
    obtain ⟨o_5, h46, h47⟩ := bindO hm
    refine QD (ι := Unit) (fun l_11 => mks l_8) (fun l_11 => True) (fun l_11 => [(6, ptr l_1.1 0), (8, ptr b_1 0), (36, .slice qa3 na3 ca3), (37, .int .i64 (course1.length : Int)), (38, .int .i64 s.t38), (77, .bool o_5)]) (fun l_11 => [kc b_2 #[.int .i64 s.t38, .int .i64 t45.c0, .int .i64 t45.c1, .int .i64 t45.c2] 159, kc b_1 #[.int .i64 s.t38, .int .i64 t45.c0, .int .i64 t45.c1, .int .i64 t45.c2] 159, kc l_1.1 #[.int .i64 t16b.t14_0, .int .i64 t16b.t14_1, .slice qa0 na0 ca0, .slice qa1 na1 ca1, .slice qa2 na2 ca2, sL l_1.2] 175, kc b #[.int .i64 c0.cells, .int .i64 c0.tides, .slice qa0 na0 ca0, .slice qa1 na1 ca1, .slice qa2 na2 ca2] 26, kc l_7 #[.bool o_3] 4]) (fun l_11 => [vL 3 l_1.2 (RI.enc t16b.t14_5), mkV l_8]) ?_ ?_
    ·replace hm := h46
     refine ks none (.hoist 0 (.free 1 (.free 2 (.free 3 (.hoist 5 (.one 4 (.one 6 (.free 7 (.free 8 .done))))))))) _ Y (by decide +kernel) (fun w k hh => hh.draw k) (fun w hh => hh) ?_
     refine KJ 4 isAgg4 Y Y Y Y Y (jr Y Y Y Y (fun _ _ => yj Y) (yG Y Y Y ?_))
     refine jN 71 Y (fun h48 => ?_) (fun h48 => ?_)
     ·replace hm := ifT (h48) hm
      refine jA Y Y Y Y Y Y Y (yw Y Y Y Y Y Y Y (jH Y (g_k Y Y Y Y (jo (fun w hh => hh) (jH Y (g_k Y Y Y Y (jo (fun w hh => hh) ?_)))))))
      refine jA Y Y Y Y Y Y Y (jr Y Y Y Y (fun _ _ => zP Y Y) (jM ?_))
      obtain rfl := sj hm
      exact zj () Y (trivial) (sE Y) (fun w hh => hh)
     replace hm := ifN h48 hm
     refine jC Y Y Y Y Y Y (fun _ _ => jT Y) (k6 Y Y Y Y Y Y (fun w hh => jK (vs := [_, _, _, _]) (isAgg159 w) (sizeOf159 w) Y (hh.cells 1 Y Y)) (jH Y (jb Y Y ?_)))
     obtain ⟨t73, h49, hm⟩ := bindO hm
     refine je [] [] Y Y Y Y Y Y Y call126 (fun w hh => QS  w (HV.callee (S0 := []) (vs0 := []) hh roN)  h49) (fun l_12 h50 => ?_)
     refine jo (fun w hh => hh) (jH Y (jb Y Y ?_))
     obtain ⟨t75, h51, hm⟩ := bindO hm
     refine je [] [] Y Y Y Y Y Y Y call143 (fun w hh => KB t16b.t14_0 t16b.t14_1 c0.fords c0.sands c0.sights t16b.t14_5 (⟨s.t38, t45⟩ : State) l_1.1 qa0 na0 ca0 qa1 na1 ca1 qa2 na2 ca2 (qA l_1.2.q) l_1.2.n l_1.2.cap w (HV.callee (S0 := []) (vs0 := []) hh (roC (bsep (hh.bseg 2 Y)) (roR hh 0 Y (roR hh 1 Y (roR hh 2 Y (roC (hh.vsepA 0 Y h6) roN)))))) hna0 hqa0 hla0 hna1 hqa1 hla1 hna2 hqa2 hla2 (vlen RI h6 Y) (AOK.q (vne h6)) (h6).hle h51) (fun l_13 h52 => ?_)
     refine jo (fun w hh => hh) (jC Y Y Y Y Y Y (fun _ _ => yj Y) (jr Y Y Y Y (fun _ _ => yy Y Y) (jM ?_)))
     obtain rfl := sj hm
     exact zj () Y (trivial) (sE Y) (fun w hh => hh)
    intro l_11 hj
    replace hm := h47
    refine ja ?_
    refine js Y (fun h53 => ?_) (fun h53 => ?_)
    ·replace hm := ifT (h53) hm
     refine jq (jm Y Y (jm Y Y (jp (jv (jy (jd (jd ?_)))))))
     refine jy ?_
     obtain rfl := sj hm
     have hbo := h19 _ Y
     subst hbo
     refine jd ?_
     replace hm := ocR h18
     refine jd ?_
     obtain rfl := sj hm
     refine JC Y Y Y (fun w hh => (.tmp Y (.tmp Y .nil))) (fun w hh => ⟨(), rfl, trivial, hh.se [] [] 4 Y Y Y rfl⟩)
    replace hm := ifN h53 hm
    refine jt (jx (ja (jg ?_)))
    obtain ⟨t78, h54, hm⟩ := bindO hm
    refine Kc h54 Y Y Y (ji Y Y (jw ?_))
    obtain rfl := sj hm
    refine ja ?_
    exact Qj _ l_8 Y Y (trivial) (sE Y) (hsE [1, 2, 3] [0, 1] 0 Y Y Y Y)
   replace hm := ifE h20 hm
   refine jZ (jk (jk (jI ?_)))
   obtain rfl := sj hm
   have hbo := h19 _ Y
   subst hbo
   exact zj ((⟨s.now8_after, s.now8_at__c0, s.now8_at__c1, s.now8_at__c2⟩ : JE), l_5) Y (Y) (.nil) (fun w hh => hh)
  rintro ⟨j_1, l_14⟩ hj
  have h55 := hj
  subst h55
  replace hm := ocL h18
  refine ja (jq (jm Y Y (jm Y Y (jp (jv ?_)))))
  obtain rfl := sj hm
  refine JC Y Y Y (fun w hh => (.tmp Y (.tmp Y .nil))) (fun w hh => ⟨(), rfl, trivial, hh.se [] [] 4 Y Y Y rfl⟩)
structure zy where
  r0 : Int
  r1 : Int
def zD (c0 : Channel) (cell1 : Int) : Option zy :=
 (qy c0).bind fun t10 =>
 oc t10 (fun t10a => some (⟨0, t10a⟩ : zy)) (fun t10b => (jR c0 cell1).bind fun t20 =>
 if (!t20) = true then
 (some (⟨0, 1⟩ : zy)) else
 ((ix t10b.t14_5 cell1).bind fun t27 =>
 some (⟨t27, 0⟩ : zy)))
theorem Y0 (c0 : Channel) (cell1 : Int) (qa0 : Option Addr) (na0 ca0 : Nat) (qa1 : Option Addr) (na1 ca1 : Nat) (qa2 : Option Addr) (na2 ca2 : Nat) (w : World) (hw : HV w (keys [] []) [] [] [(aB qa0, aO qa0, RI.enc c0.fords), (aB qa1, aO qa1, RSa.enc c0.sands), (aB qa2, aO qa2, RSi.enc c0.sights)] w) (hna0 : c0.fords.length = na0) (hqa0 : AOK na0 qa0) (hla0 : na0 ≤ ca0) (hna1 : c0.sands.length = na1) (hqa1 : AOK na1 qa1) (hla1 : na1 ≤ ca1) (hna2 : c0.sights.length = na2) (hqa2 : AOK na2 qa2) (hla2 : na2 ≤ ca2) {res : zy} (hm : zD c0 cell1 = some res) :
    Calls Tryz.prog 58 #[.agg #[.int .i64 c0.cells, .int .i64 c0.tides, .slice qa0 na0 ca0, .slice qa1 na1 ca1, .slice qa2 na2 ca2], .int .i64 cell1] w (fun en w' => ∃ l : Unit, en = .returned (.tuple #[.int .i64 res.r0, .int .i64 res.r1]) ∧ (True) ∧ HV w (keys [] []) [] [] [] w') := by
  unfold zD at hm
  refine qN func58 Y ntmps58 Y (e := [(0, _), (1, _)]) Y hw (jq ?_)
  refine jJ Y Y (fun b h1 => ?_)
  refine jm Y Y (jm Y Y (ql (zd [_, _, _, _, _] 0 isAgg26 sizeOf26 Y Y Y Y ?_)))
  obtain ⟨t10, h2, hm⟩ := bindO hm
  rcases t10 with t10a | t10b
  ·replace hm := ocL hm
   refine je [] [] Y Y Y Y Y Y Y call93 (fun w hh => qc c0 qa0 na0 ca0 qa1 na1 ca1 qa2 na2 ca2 w (HV.callee (S0 := []) (vs0 := []) hh (roR hh 0 Y (roR hh 1 Y (roR hh 2 Y roN)))) hna0 hqa0 hla0 hna1 hqa1 hla1 hna2 hqa2 hla2 h2) (fun l h3 => ?_)
   have h4 := h3
   refine ji Y Y (zI Y Y Y (zI Y Y Y (jm Y Y (jm Y Y (jp (jh (jn ?_)))))))
   refine jq (ji Y Y (jc Y Y Y (fun _ _ => Yq h4 Y Y) (jm Y Y (jp (JI Y Y (jq (ji Y Y ?_)))))))
   refine jm Y Y (jm Y Y (jp (jv (jy (jd ?_)))))
   obtain rfl := sj hm
   refine jj Y (fun w hh => (.tmp Y (.tmp Y .nil))) (fun w hh => ⟨(), rfl, trivial, hh.se [] [] 3 Y Y Y rfl⟩)
  replace hm := ocR hm
  refine je [] [] Y Y Y Y Y Y Y call93 (fun w hh => qc c0 qa0 na0 ca0 qa1 na1 ca1 qa2 na2 ca2 w (HV.callee (S0 := []) (vs0 := []) hh (roR hh 0 Y (roR hh 1 Y (roR hh 2 Y roN)))) hna0 hqa0 hla0 hna1 hqa1 hla1 hna2 hqa2 hla2 h2) (fun l_1 h5 => ?_)
  have h6 := h5
  refine qj (S' := [_, _]) (vs' := [_]) [0, 1] [0] 0 Y Y Y Y (ji Y Y (zI Y Y Y (zI Y Y Y (jm Y Y (jm Y Y (jp (jh ?_)))))))
  refine jn (jq (ji Y Y (jc Y Y Y (fun _ _ => zw Y Y) (jm Y Y (jp (JN Y Y (jq ?_)))))))
  refine zd [_, _, _, _, _] 1 isAgg26 sizeOf26 Y Y Y Y (ji Y Y ?_)
  obtain ⟨t20, h7, hm⟩ := bindO hm
  refine je [] [] Y Y Y Y Y Y Y call131 (fun w hh => qk c0 cell1 qa0 na0 ca0 qa1 na1 ca1 qa2 na2 ca2 w (HV.callee (S0 := []) (vs0 := []) hh (roR hh 0 Y (roR hh 1 Y (roR hh 2 Y roN)))) hna0 hqa0 hla0 hna1 hqa1 hla1 hna2 hqa2 hla2 h7) (fun l_2 h8 => ?_)
  refine jc Y Y Y (fun _ _ => yj Y) (jm Y Y (jp ?_))
  refine js Y (fun h9 => ?_) (fun h9 => ?_)
  ·replace hm := ifT (h9) hm
   refine jq (jm Y Y (jm Y Y (jp (jv (jy (jd ?_))))))
   obtain rfl := sj hm
   refine jj Y (fun w hh => (.tmp Y (.tmp Y .nil))) (fun w hh => ⟨(), rfl, trivial, hh.se [] [] 3 Y Y Y rfl⟩)
  replace hm := ifN h9 hm
  refine jt (jx (ja (jq (ji Y Y (jc Y Y Y (fun _ _ => yb Y) (qg 5 runUnderlying175 Y sizeOf22 Y Y (kX 0 isAgg22 Y Y Y Y ?_)))))))
  refine ji Y Y ?_
  obtain ⟨t27, h10, hm⟩ := bindO hm
  refine jc Y Y Y (fun w _ => Yf h10 (runUnderlying22 w) (sizeOf3 w) Y Y (vlen RI h6 Y) (vne h6)) (jc Y Y Y (fun w hh => qQ RI 0 h10 (isAgg3 w) Y (hh.vseg 0 Y h6) Y (Nat.add_zero _).symm) (jm Y Y (jm Y Y (jp (jv ?_)))))
  obtain rfl := sj hm
  refine jj Y (fun w hh => (.tmp Y (.tmp Y .nil))) (fun w hh => ⟨(), rfl, trivial, hh.se [] [] 3 Y Y Y rfl⟩)
structure yC where
  r0 : Channel
  r1 : Int
def Ja (c0 : Channel) (s1 : Sight) : Option yC :=
 (q7 c0).bind fun t8 =>
 if t8 = 0 then
 (if (c0.sights.length : Int) = 8 then
 (some (⟨(⟨0, 0, [], [], []⟩ : Channel), 2⟩ : yC)) else
 ((ky c0 s1.after).bind fun t24 =>
 if (!t24) = true then
 (some (⟨(⟨0, 0, [], [], []⟩ : Channel), 3⟩ : yC)) else
 ((jR c0 s1.cell).bind fun t31 =>
 if (!t31) = true then
 (some (⟨(⟨0, 0, [], [], []⟩ : Channel), 1⟩ : yC)) else
 ((k8 c0 s1).bind fun t36 =>
 some (⟨t36, 0⟩ : yC))))) else
 (some (⟨(⟨0, 0, [], [], []⟩ : Channel), t8⟩ : yC))
theorem Zc (c0 : Channel) (s1 : Sight) (qa0 : Option Addr) (na0 ca0 : Nat) (qa1 : Option Addr) (na1 ca1 : Nat) (qa2 : Option Addr) (na2 ca2 : Nat) (w : World) (hw : HV w (keys [] []) [] [] [(aB qa0, aO qa0, RI.enc c0.fords), (aB qa1, aO qa1, RSa.enc c0.sands), (aB qa2, aO qa2, RSi.enc c0.sights)] w) (hna0 : c0.fords.length = na0) (hqa0 : AOK na0 qa0) (hla0 : na0 ≤ ca0) (hna1 : c0.sands.length = na1) (hqa1 : AOK na1 qa1) (hla1 : na1 ≤ ca1) (hna2 : c0.sights.length = na2) (hqa2 : AOK na2 qa2) (hla2 : na2 ≤ ca2) {res : yC} (hm : Ja c0 s1 = some res) :
    Calls Tryz.prog 59 #[.agg #[.int .i64 c0.cells, .int .i64 c0.tides, .slice qa0 na0 ca0, .slice qa1 na1 ca1, .slice qa2 na2 ca2], .agg #[.int .i64 s1.after, .int .i64 s1.cell, .bool s1.upright]] w (fun en w' => ∃ l : VL × VL × VL, en = .returned (.tuple #[.agg #[.int .i64 res.r0.cells, .int .i64 res.r0.tides, sL l.1, sL l.2.1, sL l.2.2], .int .i64 res.r1]) ∧ (VOK 1 l.1.n l.1.cap (RI.enc res.r0.fords) l.1.sp l.1.q ∧ VOK 3 l.2.1.n l.2.1.cap (RSa.enc res.r0.sands) l.2.1.sp l.2.1.q ∧ VOK 3 l.2.2.n l.2.2.cap (RSi.enc res.r0.sights) l.2.2.sp l.2.2.q) ∧ HV w (keys [] []) [] [vL 3 l.1 (RI.enc res.r0.fords), vL 98 l.2.1 (RSa.enc res.r0.sands), vL 55 l.2.2 (RSi.enc res.r0.sights)] [] w') := by
  unfold Ja at hm
  refine qN func59 Y ntmps59 Y (e := [(0, _), (1, _)]) Y hw (jq ?_)
  refine jJ Y Y (fun b h4 => ?_)
  refine jJ Y Y (fun b_1 h5 => ?_)
  refine ju (fun w => zeroValue26 w) Y (fun b_2 h6 => ?_)
  refine jm Y Y (ql (zd [_, _, _, _, _] 2 isAgg26 sizeOf26 Y Y Y Y ?_))
  obtain ⟨t8, h7, hm⟩ := bindO hm
  refine je [] [] Y Y Y Y Y Y Y call55 (fun w hh => Jw c0 qa0 na0 ca0 qa1 na1 ca1 qa2 na2 ca2 w (HV.callee (S0 := []) (vs0 := []) hh (roR hh 0 Y (roR hh 1 Y (roR hh 2 Y roN)))) hna0 hqa0 hla0 hna1 hqa1 hla1 hna2 hqa2 hla2 h7) (fun l h8 => ?_)
  refine jm Y Y (jp (jh (jn (jq (ji Y Y (jc Y Y Y (fun _ _ => zw Y Y) (jm Y Y ?_)))))))
  refine jp ?_
  refine js Y (fun h9 => ?_) (fun h9 => ?_)
  ·replace hm := ifF (of_ndec_true h9) hm
   refine jq (jc Y Y Y (fun _ _ => kT (vs := []) (cells := [_, _, _, _, _]) Y Y) (ji Y Y (jV (us := #[_, _, _, _, _]) (cs' := [_, _, _, _, _]) (S' := [_, _, _]) 0 (fun w => sizeOf26 w) Y Y Y Y Y Y Y (jm Y Y (jp (jv (jy ?_)))))))
   refine jd (yf 3 (yf 98 (yf 55 ?_)))
   obtain rfl := sj hm
   refine jj Y (fun w hh => (.cell Y (loadVar_agg (vs := [_, _, _, _, _]) (isAgg26 _) (sizeOf26 _) (hh.cells 0 Y Y)) (.tmp Y .nil))) (fun w hh => ⟨(⟨none, 0, 0, []⟩, ⟨none, 0, 0, []⟩, ⟨none, 0, 0, []⟩), rfl, ⟨VOK.nil, VOK.nil, VOK.nil⟩, hh.se [] [2, 1, 0] 3 Y Y Y rfl⟩)
  replace hm := ifT (of_ndec_false h9) hm
  refine jq (qg 4 runUnderlying26 Y sizeOf24 Y Y (kX 2 isAgg24 Y Y Y Y (jc Y Y Y (fun w _ => jD hna2 (runUnderlying24 w) Y) (jc Y Y Y (fun _ _ => zT Y Y) (jm Y Y (jp ?_))))))
  refine js Y (fun h10 => ?_) (fun h10 => ?_)
  ·replace hm := ifD h10 hm
   refine jq (jc Y Y Y (fun _ _ => kT (vs := []) (cells := [_, _, _, _, _]) Y Y) (jV (us := #[_, _, _, _, _]) (cs' := [_, _, _, _, _]) (S' := [_, _, _]) 0 (fun w => sizeOf26 w) Y Y Y Y Y Y Y (jm Y Y (jp (jv (jy (jd ?_)))))))
   refine yf 3 (yf 98 (yf 55 ?_))
   obtain rfl := sj hm
   refine jj Y (fun w hh => (.cell Y (loadVar_agg (vs := [_, _, _, _, _]) (isAgg26 _) (sizeOf26 _) (hh.cells 0 Y Y)) (.tmp Y .nil))) (fun w hh => ⟨(⟨none, 0, 0, []⟩, ⟨none, 0, 0, []⟩, ⟨none, 0, 0, []⟩), rfl, ⟨VOK.nil, VOK.nil, VOK.nil⟩, hh.se [] [2, 1, 0] 3 Y Y Y rfl⟩)
  replace hm := ifE h10 hm
  refine jq (zd [_, _, _, _, _] 2 isAgg26 sizeOf26 Y Y Y Y (qg 0 runUnderlying55 Y sizeOf3 Y Y (kX 1 isAgg3 Y Y Y Y ?_)))
  obtain ⟨t24, h11, hm⟩ := bindO hm
  refine je [] [] Y Y Y Y Y Y Y call112 (fun w hh => zF c0 s1.after qa0 na0 ca0 qa1 na1 ca1 qa2 na2 ca2 w (HV.callee (S0 := []) (vs0 := []) hh (roR hh 0 Y (roR hh 1 Y (roR hh 2 Y roN)))) hna0 hqa0 hla0 hna1 hqa1 hla1 hna2 hqa2 hla2 h11) (fun l_1 h12 => ?_)
  refine jc Y Y Y (fun _ _ => yj Y) (jm Y Y (jp ?_))
  refine js Y (fun h13 => ?_) (fun h13 => ?_)
  ·replace hm := ifT (h13) hm
   refine jq (jc Y Y Y (fun _ _ => kT (vs := []) (cells := [_, _, _, _, _]) Y Y) (jV (us := #[_, _, _, _, _]) (cs' := [_, _, _, _, _]) (S' := [_, _, _]) 0 (fun w => sizeOf26 w) Y Y Y Y Y Y Y (jm Y Y (jp (jv (jy (jd ?_)))))))
   refine yf 3 (yf 98 (yf 55 ?_))
   obtain rfl := sj hm
   refine jj Y (fun w hh => (.cell Y (loadVar_agg (vs := [_, _, _, _, _]) (isAgg26 _) (sizeOf26 _) (hh.cells 0 Y Y)) (.tmp Y .nil))) (fun w hh => ⟨(⟨none, 0, 0, []⟩, ⟨none, 0, 0, []⟩, ⟨none, 0, 0, []⟩), rfl, ⟨VOK.nil, VOK.nil, VOK.nil⟩, hh.se [] [2, 1, 0] 3 Y Y Y rfl⟩)
  replace hm := ifN h13 hm
  refine jq (zd [_, _, _, _, _] 2 isAgg26 sizeOf26 Y Y Y Y (qg 1 runUnderlying55 Y sizeOf3 Y Y (kX 1 isAgg3 Y Y Y Y ?_)))
  obtain ⟨t31, h14, hm⟩ := bindO hm
  refine je [] [] Y Y Y Y Y Y Y call131 (fun w hh => qk c0 s1.cell qa0 na0 ca0 qa1 na1 ca1 qa2 na2 ca2 w (HV.callee (S0 := []) (vs0 := []) hh (roR hh 0 Y (roR hh 1 Y (roR hh 2 Y roN)))) hna0 hqa0 hla0 hna1 hqa1 hla1 hna2 hqa2 hla2 h14) (fun l_2 h15 => ?_)
  refine jc Y Y Y (fun _ _ => yj Y) (jm Y Y (jp ?_))
  refine js Y (fun h16 => ?_) (fun h16 => ?_)
  ·replace hm := ifT (h16) hm
   refine jq (jc Y Y Y (fun _ _ => kT (vs := []) (cells := [_, _, _, _, _]) Y Y) (jV (us := #[_, _, _, _, _]) (cs' := [_, _, _, _, _]) (S' := [_, _, _]) 0 (fun w => sizeOf26 w) Y Y Y Y Y Y Y (jm Y Y (jp (jv (jy (jd ?_)))))))
   refine yf 3 (yf 98 (yf 55 ?_))
   obtain rfl := sj hm
   refine jj Y (fun w hh => (.cell Y (loadVar_agg (vs := [_, _, _, _, _]) (isAgg26 _) (sizeOf26 _) (hh.cells 0 Y Y)) (.tmp Y .nil))) (fun w hh => ⟨(⟨none, 0, 0, []⟩, ⟨none, 0, 0, []⟩, ⟨none, 0, 0, []⟩), rfl, ⟨VOK.nil, VOK.nil, VOK.nil⟩, hh.se [] [2, 1, 0] 3 Y Y Y rfl⟩)
  replace hm := ifN h16 hm
  refine jt (jx (ja (jq (zd [_, _, _, _, _] 2 isAgg26 sizeOf26 Y Y Y Y (zd [_, _, _] 1 isAgg55 sizeOf55 Y Y Y Y ?_)))))
  obtain ⟨t36, h17, hm⟩ := bindO hm
  refine je [] [] Y Y Y Y Y Y Y call110 (fun w hh => Kh c0 s1 qa0 na0 ca0 qa1 na1 ca1 qa2 na2 ca2 w (HV.callee (S0 := []) (vs0 := []) hh (roR hh 0 Y (roR hh 1 Y (roR hh 2 Y roN)))) hna0 hqa0 hla0 hna1 hqa1 hla1 hna2 hqa2 hla2 h17) (fun l_3 h18 => ?_)
  obtain ⟨h19, h20, h21⟩ := h18
  refine qj (S' := [_, _, _]) (vs' := [_, _, _]) [0, 1, 2] [0, 1, 2] 0 Y Y Y Y (jV (us := #[_, _, _, _, _]) (cs' := [_, _, _, _, _]) (S' := [_, _, _]) 0 (fun w => sizeOf26 w) Y Y Y Y Y Y Y (jm Y Y (jp (jv ?_))))
  obtain rfl := sj hm
  refine jj Y (fun w hh => (.cell Y (loadVar_agg (vs := [_, _, _, _, _]) (isAgg26 _) (sizeOf26 _) (hh.cells 0 Y Y)) (.tmp Y .nil))) (fun w hh => ⟨(l_3.1, l_3.2.1, l_3.2.2), rfl, ⟨h19, h20, h21⟩, hh.se [] [0, 1, 2] 3 Y Y Y rfl⟩)
def kl (s10 : (List (List Int))) (s21 : (List (List Int))) (s : Int) : Option (Int ⊕ (Unit ⊕ Bool)) :=
 if s < (s10.length : Int) then
 ((ix s10 s).bind fun t20 =>
 (ix s21 s).bind fun t24 =>
 (qP t20 t24).bind fun t29 =>
 if (!t29) = true then
 (some (.inr (.inr false))) else
 ((addc s 1).bind fun t31 =>
 some (.inl t31))) else
 (some (.inr (.inl ())))
def qs (s10 : (List (List Int))) (s21 : (List (List Int))) : Option Bool :=
 if (s10.length : Int) = (s21.length : Int) then
 ((iterM FU (kl s10 s21) 0).bind fun o =>
 oc o (fun j => some true) (fun r_1 => some r_1)) else
 (some false)
theorem KM (s10 : (List (List Int))) (s21 : (List (List Int))) (qa0 : Option Addr) (na0 ca0 : Nat) (ar0 : List AL) (qa1 : Option Addr) (na1 ca1 : Nat) (ar1 : List AL) (w : World) (hw : HV w (keys [] []) [] [] [(aB qa0, aO qa0, RwA.enc ar0), (aB qa1, aO qa1, RwA.enc ar1)] w) (hna0 : s10.length = na0) (hqa0 : AOK na0 qa0) (hla0 : na0 ≤ ca0) (hda0 : DRO s10 ar0) (hTa0 : ∀ t, t ∈ rsg RI s10 ar0 → segOK w t ∧ (t.2.2 ≠ [] → t.1 ∉ keys [] [])) (hna1 : s21.length = na1) (hqa1 : AOK na1 qa1) (hla1 : na1 ≤ ca1) (hda1 : DRO s21 ar1) (hTa1 : ∀ t, t ∈ rsg RI s21 ar1 → segOK w t ∧ (t.2.2 ≠ [] → t.1 ∉ keys [] [])) {res : Bool} (hm : qs s10 s21 = some res) :
    Calls Tryz.prog 144 #[.slice qa0 na0 ca0, .slice qa1 na1 ca1, .func (.func 118) #[] #[]] w (fun en w' => ∃ l : Unit, en = .returned (.bool res) ∧ (True) ∧ HV w (keys [] []) [] [] [] w') := by
  unfold qs at hm
  refine qN func144 Y ntmps144 Y (e := [(0, _), (1, _), (2, _)]) Y hw (jq (jm Y Y (jp (jh (jq (ji Y Y (jc Y Y Y (fun w _ => jD hna0 (runUnderlying41 w) Y) ?_)))))))
  refine ji Y Y (jc Y Y Y (fun w _ => jD hna1 (runUnderlying41 w) Y) (jc Y Y Y (fun _ _ => zw Y Y) (jp ?_)))
  refine js Y (fun h1 => ?_) (fun h1 => ?_)
  ·replace hm := ifF (of_ndec_true h1) hm
   refine jq (jm Y Y (jp (jv (jd ?_))))
   obtain rfl := sj hm
   refine jj Y (fun w hh => (.tmp Y .nil)) (fun w hh => ⟨(), rfl, trivial, hh.se [] [] 2 Y Y Y rfl⟩)
  replace hm := ifT (of_ndec_false h1) hm
  refine jt (ja (jh (jq (ji Y Y (jc Y Y Y (fun w _ => jD hna0 (runUnderlying41 w) Y) (ji Y Y (jp ?_)))))))
  obtain ⟨o, h2, h3⟩ := bindO hm
  refine jP (ι := Unit) (fun j => o = .inl j) (fun j => []) (fun j => []) (fun j => []) ?_ ?_
  ·replace hm := h2
   refine jn ?_
   refine jQ (ι := Unit) hm (fun s l => True) (fun s l => [(1, .slice qa1 na1 ca1), (2, .func (.func 118) #[] #[]), (15, .slice qa0 na0 ca0), (16, .int .i64 (s10.length : Int)), (17, .int .i64 s)]) (fun s l => []) (fun s l => []) () (trivial) (sE Y) (fun w hh => hh) (fun s l r hpl hm h4 => ?_)
   unfold kl at hm
   refine jq (JT Y Y Y (jp (jh ?_)))
   refine js Y (fun h5 => ?_) (fun h5 => ?_)
   ·replace hm := ifD h5 hm
    refine jt (ja (jh (jn (jq (ji Y Y ?_)))))
    obtain ⟨t20, h6, hm⟩ := bindO hm
    obtain ⟨A, h7, h8, h9, h10⟩ := (hda0).row h6
    refine jc Y Y Y (fun w _ => qe h7 (runUnderlying41 w) (sizeOf22 w) Y Y (Eq.trans (hda0).len.symm hna0) hqa0) (jc Y Y Y (fun w hh => qQ RwA 0 h7 (isAgg22 w) Y (hh.seg 0 Y) Y (Nat.add_zero _).symm) (jm Y Y (jm Y Y (ql (ji Y Y (ji Y Y ?_))))))
    obtain ⟨t24, h11, hm⟩ := bindO hm
    obtain ⟨A_1, h12, h13, h14, h15⟩ := (hda1).row h11
    refine jc Y Y Y (fun w _ => qe h12 (runUnderlying41 w) (sizeOf22 w) Y Y (Eq.trans (hda1).len.symm hna1) hqa1) (jc Y Y Y (fun w hh => qQ RwA 0 h12 (isAgg22 w) Y (hh.seg 1 Y) Y (Nat.add_zero _).symm) (jm Y Y (ql (ji Y Y (ji Y Y (ji Y Y ?_))))))
    obtain ⟨t29, h16, hm⟩ := bindO hm
    refine je [] [] Y Y Y Y Y Y Y call118 (fun w hh => Qi t20 t24 A.a A.n A.cap A_1.a A_1.n A_1.cap w (HV.callee (S0 := []) (vs0 := []) hh (roC (hh.oldsep (S0 := []) (vs0 := []) (hTa0 _ (rsg_ix h6 h7))) (roC (hh.oldsep (S0 := []) (vs0 := []) (hTa1 _ (rsg_ix h11 h12))) roN))) h8 h9 h10 h13 h14 h15 h16) (fun l_1 h17 => ?_)
    refine jc Y Y Y (fun _ _ => yj Y) (jp ?_)
    refine js Y (fun h18 => ?_) (fun h18 => ?_)
    ·replace hm := ifT (h18) hm
     refine jq (jm Y Y (jp (jv (jy (jd (jd (jy ?_)))))))
     obtain rfl := sj hm
     have hbo := h4 _ Y
     subst hbo
     refine jd ?_
     replace hm := ocR h3
     refine jd ?_
     obtain rfl := sj hm
     refine jj Y (fun w hh => (.tmp Y .nil)) (fun w hh => ⟨(), rfl, trivial, hh.se [] [] 2 Y Y Y rfl⟩)
    replace hm := ifN h18 hm
    refine jt (jx (ja (jg ?_)))
    obtain ⟨t31, h19, hm⟩ := bindO hm
    refine Kc h19 Y Y Y (ji Y Y (jw ?_))
    obtain rfl := sj hm
    refine ja ?_
    exact jE _ () Y (trivial) (sE Y) (fun w hh => hh)
   replace hm := ifE h5 hm
   refine jZ (jk (jk (jI ?_)))
   obtain rfl := sj hm
   have hbo := h4 _ Y
   subst hbo
   exact jl () (Y) (.nil) (fun w hh => hh)
  intro j hj
  have h20 := hj
  subst h20
  replace hm := ocL h3
  refine ja (jq (jm Y Y (jp (jv ?_))))
  obtain rfl := sj hm
  refine jj Y (fun w hh => (.tmp Y .nil)) (fun w hh => ⟨(), rfl, trivial, hh.se [] [] 2 Y Y Y rfl⟩)
def Jv (a0 : (List (List Int))) (b1 : (List (List Int))) : Option Bool :=
 (qs a0 b1).bind fun t7 =>
 some t7
theorem Y3 (a0 : (List (List Int))) (b1 : (List (List Int))) (qa0 : Option Addr) (na0 ca0 : Nat) (ar0 : List AL) (qa1 : Option Addr) (na1 ca1 : Nat) (ar1 : List AL) (w : World) (hw : HV w (keys [] []) [] [] [(aB qa0, aO qa0, RwA.enc ar0), (aB qa1, aO qa1, RwA.enc ar1)] w) (hna0 : a0.length = na0) (hqa0 : AOK na0 qa0) (hla0 : na0 ≤ ca0) (hda0 : DRO a0 ar0) (hTa0 : ∀ t, t ∈ rsg RI a0 ar0 → segOK w t ∧ (t.2.2 ≠ [] → t.1 ∉ keys [] [])) (hna1 : b1.length = na1) (hqa1 : AOK na1 qa1) (hla1 : na1 ≤ ca1) (hda1 : DRO b1 ar1) (hTa1 : ∀ t, t ∈ rsg RI b1 ar1 → segOK w t ∧ (t.2.2 ≠ [] → t.1 ∉ keys [] [])) {res : Bool} (hm : Jv a0 b1 = some res) :
    Calls Tryz.prog 60 #[.slice qa0 na0 ca0, .slice qa1 na1 ca1] w (fun en w' => ∃ l : Unit, en = .returned (.bool res) ∧ (True) ∧ HV w (keys [] []) [] [] [] w') := by
  unfold Jv at hm
  refine qN func60 Y ntmps60 Y (e := [(0, _), (1, _)]) Y hw (jq (jm Y Y (ql (ji Y Y (ji Y Y ?_)))))
  obtain ⟨t7, h1, hm⟩ := bindO hm
  refine je [] [] Y Y Y Y Y Y Y call144 (fun w hh => KM a0 b1 qa0 na0 ca0 ar0 qa1 na1 ca1 ar1 w (HV.callee (S0 := []) (vs0 := []) hh (roR hh 0 Y (roR hh 1 Y roN))) hna0 hqa0 hla0 hda0 (hh.oldT (S0 := []) (vs0 := []) hTa0) hna1 hqa1 hla1 hda1 (hh.oldT (S0 := []) (vs0 := []) hTa1) h1) (fun l h2 => ?_)
  refine jm Y Y (jp (jv ?_))
  obtain rfl := sj hm
  refine jj Y (fun w hh => (.tmp Y .nil)) (fun w hh => ⟨(), rfl, trivial, hh.se [] [] 2 Y Y Y rfl⟩)
end Go.Proofs.Wb

