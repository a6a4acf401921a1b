/- What the functions that the law StripMarks reaches come to, and why it holds: part 7. -/
import Derived.Test.YtnkphlgohnlooaaGreatStripMarks6
namespace Go.Proofs.Ws
set_option maxHeartbeats 4000000
set_option maxRecDepth 100000
open Go Go.Fw Go.Gx Go.Sp
open Tryz
set_option linter.unusedVariables false
theorem jaS : Tryz.prog.eqGuardType Tryz.prog.depth 118 = false := by decide +kernel
def zj (l0 : (List Int)) : Option (List Int) :=
 (makec 8 0 0 (l0.length : Int)).bind fun t5 =>
 (appc 8 t5 l0).bind fun t7 =>
 some t7
theorem Je (l0 : (List Int)) (qa0 : Option Addr) (na0 ca0 : Nat) (w : World) (hw : HV w (keys [] []) [] [] [(aB qa0, aO qa0, RI.enc l0)] w) (hna0 : l0.length = na0) (hqa0 : AOK na0 qa0) (hla0 : na0 ≤ ca0) {res : (List Int)} (hm : zj l0 = some res) :
    Calls Tryz.prog 11 #[.slice qa0 na0 ca0] w (fun en w' => ∃ l : VL, en = .returned (sL l) ∧ (VOK 1 l.n l.cap (RI.enc res) l.sp l.q) ∧ HV w (keys [] []) [] [vL 3 l (RI.enc res)] [] w') := by
  unfold zj at hm
  refine kj func11 Y ntmps11 Y (e := [(0, _)]) Y hw (jp (jc Y Y Y (fun _ _ => qQ Y) (j3 (je Y Y (jc Y Y Y (fun w _ => jB hna0 (runUnderlying26 w) Y) ?_)))))
  obtain ⟨t5, h2, hm⟩ := bindO hm
  refine kC RI 0 h2 underlying26 zZ Y Y Y Y Y (fun L h3 => ?_)
  refine je Y Y ?_
  obtain ⟨t7, h4, hm⟩ := bindO hm
  refine yS RI 0 h4 underlying26 zZ Y Y Y Y Y h3 Y Y hna0 hqa0 (fun w hh => (hh.seg 0 Y)) Y (fun L_1 h5 h5n => ?_)
  refine jT (S' := []) (vs' := [_]) [] [0] 0 Y Y Y Y (jm Y Y (jo (jw ?_)))
  obtain rfl := sj hm
  refine jn Y (fun w hh => (.tmp Y .nil)) (fun w hh => ⟨L_1, rfl, h5, hh.se [] [0] 1 Y Y Y rfl⟩)
def QT (mark0 : Int) (x1 : Span) : Option Int :=
 if 0 < mark0 then
 ((mulc mark0 x1.lo).bind fun t10 =>
 some t10) else
 ((mulc mark0 x1.hi).bind fun t14 =>
 some t14)
theorem jaD (mark0 : Int) (x1 : Span)  (w : World) (hw : HV w (keys [] []) [] [] [] w)  {res : Int} (hm : QT mark0 x1 = some res) :
    Calls Tryz.prog 56 #[.int .i64 mark0, .agg #[.int .i64 x1.lo, .int .i64 x1.hi]] w (fun en w' => ∃ l : Unit, en = .returned (.int .i64 res) ∧ (True) ∧ HV w (keys [] []) [] [] [] w') := by
  unfold QT at hm
  refine kj func56 Y ntmps56 Y (e := [(0, _), (1, _)]) Y hw (jp ?_)
  refine jK Y Y (fun b h1 => ?_)
  refine jm Y Y (jo (jk (jp (je Y Y (jc Y Y Y (fun _ _ => JU Y Y) (jo ?_))))))
  refine jq Y (fun h2 => ?_) (fun h2 => ?_)
  ·replace hm := ifD h2 hm
   refine jp (je Y Y (jM 0 runUnderlying32 Y sizeOf3 Y Y (jS 0 isAgg3 Y Y Y Y ?_)))
   obtain ⟨t10, h3, hm⟩ := bindO hm
   refine jc Y Y Y (fun _ _ => Q1 h3 Y Y) (jm Y Y (jo (jw (jf ?_))))
   obtain rfl := sj hm
   refine jn Y (fun w hh => (.tmp Y .nil)) (fun w hh => ⟨(), rfl, trivial, hh.se [] [] 0 Y Y Y rfl⟩)
  replace hm := ifE h2 hm
  refine jt (ja (jp (je Y Y (jM 1 runUnderlying32 Y sizeOf3 Y Y (jS 0 isAgg3 Y Y Y Y ?_)))))
  obtain ⟨t14, h4, hm⟩ := bindO hm
  refine jc Y Y Y (fun _ _ => Q1 h4 Y Y) (jm Y Y (jo (jw ?_)))
  obtain rfl := sj hm
  refine jn Y (fun w hh => (.tmp Y .nil)) (fun w hh => ⟨(), rfl, trivial, hh.se [] [] 0 Y Y Y rfl⟩)
structure kA where
  r0 : Int
  r1 : Int
structure zJ where
  n8 : Int
  k9 : Int
def yE (strips1 : (List Int)) (s0 : Scalps) (s : zJ) : Option (zJ ⊕ (Int ⊕ kA)) :=
 if s.k9 < (strips1.length : Int) then
 ((ix strips1 s.k9).bind fun t36 =>
 (JO t36 (-20) 20).bind fun t38 =>
 if t38 = true then
 (some (.inr (.inr (⟨0, 3⟩ : kA)))) else
 ((ix strips1 s.k9).bind fun t42 =>
 (Jl s0 s.k9).bind fun t46 =>
 (QT t42 t46).bind fun t47 =>
 (addc s.n8 t47).bind fun t48 =>
 (addc s.k9 1).bind fun t33 =>
 some (.inl (⟨t48, t33⟩ : zJ)))) else
 (some (.inr (.inl s.n8)))
structure zS where
  n8 : Int
  t10 : Int
def yz (tenants2 : (List Int)) (s0 : Scalps) (s_1 : zS) : Option (zS ⊕ (Int ⊕ kA)) :=
 if s_1.t10 < (tenants2.length : Int) then
 ((ix tenants2 s_1.t10).bind fun t57 =>
 (JO t57 (-20) 20).bind fun t59 =>
 if t59 = true then
 (some (.inr (.inr (⟨0, 3⟩ : kA)))) else
 ((ix tenants2 s_1.t10).bind fun t63 =>
 (ix s0.carried s_1.t10).bind fun t68 =>
 (QT t63 (⟨t68.lo, t68.hi⟩ : Span)).bind fun t70 =>
 (addc s_1.n8 t70).bind fun t71 =>
 (addc s_1.t10 1).bind fun t54 =>
 some (.inl (⟨t71, t54⟩ : zS)))) else
 (some (.inr (.inl s_1.n8)))
def yL (strips1 : (List Int)) (s0 : Scalps) (s_2 : Int) (tenants2 : (List Int)) (s_3 : Int) : Option (Int ⊕ (Unit ⊕ kA)) :=
 if s_3 < (strips1.length : Int) then
 (((ix s0.strips s_3).bind fun t87 =>
 if t87.tenant = s_2 then
 (some 0) else
 (some 1)).bind fun o_5 =>
 ((kl s0 s_2 s_3).bind fun t95 =>
 if t95 = true then
 ((ix strips1 s_3).bind fun t99 =>
 (ix tenants2 s_2).bind fun t103 =>
 (addc t99 t103).bind fun t105 =>
 some (decide (o_5 < t105))) else
 (some false)).bind fun o_6 =>
 if o_6 = true then
 (some (.inr (.inr (⟨0, 8⟩ : kA)))) else
 ((addc s_3 1).bind fun t83 =>
 some (.inl t83))) else
 (some (.inr (.inl ())))
def zF (tenants2 : (List Int)) (strips1 : (List Int)) (s0 : Scalps) (s_2 : Int) : Option (Int ⊕ (Unit ⊕ kA)) :=
 if s_2 < (tenants2.length : Int) then
 ((iterM FU (yL strips1 s0 s_2 tenants2) 0).bind fun o_4 =>
 oc o_4 (fun j_3 => (addc s_2 1).bind fun t77 =>
 some (.inl t77)) (fun r_4 => some (.inr (.inr r_4)))) else
 (some (.inr (.inl ())))
def J3 (s0 : Scalps) (strips1 : (List Int)) (tenants2 : (List Int)) : Option kA :=
 (if (strips1.length : Int) = (s0.strips.length : Int) then
 (some (!decide ((tenants2.length : Int) = (s0.carried.length : Int)))) else
 (some true)).bind fun o =>
 if o = true then
 (some (⟨0, 2⟩ : kA)) else
 ((iterM FU (yE strips1 s0) (⟨0, 0⟩ : zJ)).bind fun o_1 =>
 oc o_1 (fun j => (iterM FU (yz tenants2 s0) (⟨j, 0⟩ : zS)).bind fun o_2 =>
 oc o_2 (fun j_1 => (iterM FU (zF tenants2 strips1 s0) 0).bind fun o_3 =>
 oc o_3 (fun j_2 => some (⟨j_1, 0⟩ : kA)) (fun r_5 => some r_5)) (fun r_6 => some r_6)) (fun r_7 => some r_7))
theorem Zd (s0 : Scalps) (strips1 : (List Int)) (tenants2 : (List Int)) (qa0 : Option Addr) (na0 ca0 : Nat) (qa1 : Option Addr) (na1 ca1 : Nat) (qa2 : Option Addr) (na2 ca2 : Nat) (qa3 : Option Addr) (na3 ca3 : Nat) (w : World) (hw : HV w (keys [] []) [] [] [(aB qa0, aO qa0, RSt.enc s0.strips), (aB qa1, aO qa1, RSp.enc s0.carried), (aB qa2, aO qa2, RI.enc strips1), (aB qa3, aO qa3, RI.enc tenants2)] w) (hna0 : s0.strips.length = na0) (hqa0 : AOK na0 qa0) (hla0 : na0 ≤ ca0) (hna1 : s0.carried.length = na1) (hqa1 : AOK na1 qa1) (hla1 : na1 ≤ ca1) (hna2 : strips1.length = na2) (hqa2 : AOK na2 qa2) (hla2 : na2 ≤ ca2) (hna3 : tenants2.length = na3) (hqa3 : AOK na3 qa3) (hla3 : na3 ≤ ca3) {res : kA} (hm : J3 s0 strips1 tenants2 = some res) :
    Calls Tryz.prog 15 #[.agg #[.slice qa0 na0 ca0, .slice qa1 na1 ca1], .slice qa2 na2 ca2, .slice qa3 na3 ca3] w (fun en w' => ∃ l : Unit, en = .returned (.tuple #[.int .i64 res.r0, .int .i64 res.r1]) ∧ (True) ∧ HV w (keys [] []) [] [] [] w') := by
  unfold J3 at hm
  refine kj func15 Y ntmps15 Y (e := [(0, _), (1, _), (2, _)]) Y hw (jp ?_)
  refine jK Y Y (fun b h1 => ?_)
  refine jm Y Y (jm Y Y (jo (jk (jk ?_))))
  obtain ⟨o, h2, h3⟩ := bindO hm
  refine jD (ι := Unit) (fun l => True) (fun l => [(1, .slice qa2 na2 ca2), (2, .slice qa3 na3 ca3), (3, ptr b 0), (27, .bool o)]) (fun l => [kc b #[.slice qa0 na0 ca0, .slice qa1 na1 ca1] 38]) (fun l => []) ?_ ?_
  ·replace hm := h2
   refine jh (je Y Y (jc Y Y Y (fun w _ => jB hna2 (runUnderlying26 w) Y) (jM 0 runUnderlying38 Y sizeOf36 Y Y (jS 0 isAgg36 Y Y Y Y (jc Y Y Y (fun w _ => jB hna0 (runUnderlying36 w) Y) (jc Y Y Y (fun _ _ => k5 Y Y) (je Y Y ?_)))))))
   refine jH 20 Y (fun h4 => ?_) (fun h4 => ?_)
   ·replace hm := ifF (of_ndec_true h4) hm
    refine g_k Y Y Y Y (g_k Y Y Y Y (g_k Y Y Y Y (g_k Y Y Y Y (g_k Y Y Y Y (g_k Y Y Y Y (j8 Y Y Y (jv ?_)))))))
    obtain rfl := sj hm
    exact jg () (trivial) (sE Y) (fun w hh => hh)
   replace hm := ifT (of_ndec_false h4) hm
   refine jb Y Y (je Y Y (jb Y Y (jc Y Y Y (fun w _ => jB hna3 (runUnderlying26 w) Y) (jb Y Y (jM 1 runUnderlying38 Y sizeOf23 Y Y (jb Y Y (jS 0 isAgg23 Y Y Y Y ?_)))))))
   refine jb Y Y (jc Y Y Y (fun w _ => jB hna1 (runUnderlying23 w) Y) (jb Y Y (jc Y Y Y (fun _ _ => k5 Y Y) (ky Y Y Y (jv ?_)))))
   obtain rfl := sj hm
   exact jg () (trivial) (sE Y) (fun w hh => hh)
  intro l hj
  replace hm := h3
  refine ja ?_
  refine jq Y (fun h5 => ?_) (fun h5 => ?_)
  ·replace hm := ifT (h5) hm
   refine jp (jm Y Y (jm Y Y (jo (jw (jf ?_)))))
   obtain rfl := sj hm
   refine jn Y (fun w hh => (.tmp Y (.tmp Y .nil))) (fun w hh => ⟨(), rfl, trivial, hh.se [] [] 4 Y Y Y rfl⟩)
  replace hm := ifN h5 hm
  refine jt (ja (jp (jm Y Y (jo (jk (jp (jm Y Y ?_)))))))
  refine jo ?_
  obtain ⟨o_1, h6, h7⟩ := bindO hm
  refine jD (ι := Int) (fun j => o_1 = .inl j) (fun j => [(1, .slice qa2 na2 ca2), (2, .slice qa3 na3 ca3), (3, ptr b 0), (8, .int .i64 j)]) (fun j => [kc b #[.slice qa0 na0 ca0, .slice qa1 na1 ca1] 38]) (fun j => []) ?_ ?_
  ·replace hm := h6
   refine jl ?_
   refine jF (ι := Unit) hm (fun s l_1 => True) (fun s l_1 => [(1, .slice qa2 na2 ca2), (2, .slice qa3 na3 ca3), (3, ptr b 0), (8, .int .i64 s.n8), (9, .int .i64 s.k9)]) (fun s l_1 => [kc b #[.slice qa0 na0 ca0, .slice qa1 na1 ca1] 38]) (fun s l_1 => []) () (trivial) (sE Y) (fun w hh => hh) (fun s l_1 r hpl hm h8 => ?_)
   unfold yE at hm
   refine jk (jp (je Y Y (je Y Y (jc Y Y Y (fun w _ => jB hna2 (runUnderlying26 w) Y) (q8 Y Y Y (jo ?_))))))
   refine jq Y (fun h9 => ?_) (fun h9 => ?_)
   ·replace hm := ifD h9 hm
    refine jt (ja (jk (jl (jk (jp (je Y Y (je Y Y ?_)))))))
    obtain ⟨t36, h10, hm⟩ := bindO hm
    refine jc Y Y Y (fun w _ => jY h10 (runUnderlying26 w) (sizeOf3 w) Y Y hna2 hqa2) (jc Y Y Y (fun w hh => jW RI 0 h10 (isAgg3 w) Y (hh.seg 2 Y) Y (Nat.add_zero _).symm) ?_)
    obtain ⟨t38, h11, hm⟩ := bindO hm
    refine jd [] [] Y Y Y Y Y Y Y call50 (fun w hh => Qq t36 (-20) 20 w (HV.callee (S0 := []) (vs0 := []) hh roN)  h11) (fun l_2 h12 => ?_)
    refine jo ?_
    refine jq Y (fun h13 => ?_) (fun h13 => ?_)
    ·replace hm := ifT (h13) hm
     refine jp (jm Y Y (jm Y Y (jo (jw (jf (jz (jf ?_)))))))
     refine jf (jz ?_)
     obtain rfl := sj hm
     have hbo := h8 _ Y
     subst hbo
     refine jf ?_
     replace hm := ocR h7
     refine jf ?_
     obtain rfl := sj hm
     refine jn Y (fun w hh => (.tmp Y (.tmp Y .nil))) (fun w hh => ⟨(), rfl, trivial, hh.se [] [] 4 Y Y Y rfl⟩)
    replace hm := ifN h13 hm
    refine jt (ja ?_)
    refine jV none (.free 0 (.free 1 (.free 2 (.free 3 (.hoist 4 (.hoist 5 (.free 6 (.one 7 (.one 8 (.free 9 (.free 10 .done))))))))))) _ Y (by decide +kernel) (fun w k hh => hh.draw k) (fun w hh => hh) ?_
    refine kb Y Y Y (kb Y Y Y (kb Y Y Y ?_))
    obtain ⟨t42, h14, hm⟩ := bindO hm
    refine ji Y Y Y Y (fun w _ => jY h14 (runUnderlying26 w) (sizeOf3 w) Y Y hna2 hqa2) (jA Y Y Y Y (fun w hh => jW RI 0 h14 (isAgg3 w) Y (hh.seg 2 Y) Y (Nat.add_zero _).symm) (jA Y Y Y Y (fun w hh => kn (vs := [_, _]) (isAgg38 w) (sizeOf38 w) Y (hh.cells 0 Y Y)) (kb Y Y Y (jJ Y ?_))))
    obtain ⟨t46, h15, hm⟩ := bindO hm
    refine jd [] [] Y Y Y Y Y Y Y call35 (fun w hh => YE s0 s.k9 qa0 na0 ca0 qa1 na1 ca1 w (HV.callee (S0 := []) (vs0 := []) hh (roR hh 0 Y (roR hh 1 Y roN))) hna0 hqa0 hla0 hna1 hqa1 hla1 h15) (fun l_3 h16 => ?_)
    refine jr (fun w hh => hh) (jJ Y ?_)
    obtain ⟨t47, h17, hm⟩ := bindO hm
    refine jd [] [] Y Y Y Y Y Y Y call56 (fun w hh => jaD t42 t46 w (HV.callee (S0 := []) (vs0 := []) hh roN)  h17) (fun l_4 h18 => ?_)
    refine jr (fun w hh => hh) ?_
    obtain ⟨t48, h19, hm⟩ := bindO hm
    refine ji Y Y Y Y (fun _ _ => zD h19 Y Y) (ji Y Y Y Y (fun _ _ => jQ Y) (jI (js (ja (jh (je Y Y ?_))))))
    obtain ⟨t33, h20, hm⟩ := bindO hm
    refine kS h20 Y Y Y (jm Y Y (jv ?_))
    obtain rfl := sj hm
    refine ja ?_
    exact jy _ () Y (trivial) (sE Y) (fun w hh => hh)
   replace hm := ifE h9 hm
   refine jO (jj (jj (jC ?_)))
   obtain rfl := sj hm
   have hbo := h8 _ Y
   subst hbo
   exact jg s.n8 (Y) (sE Y) (fun w hh => hh)
  intro j hj
  have h21 := hj
  subst h21
  replace hm := ocL h7
  refine ja (jk (jp (jm Y Y (jo ?_))))
  obtain ⟨o_2, h22, h23⟩ := bindO hm
  refine jD (ι := Int) (fun j_1 => o_2 = .inl j_1) (fun j_1 => [(1, .slice qa2 na2 ca2), (2, .slice qa3 na3 ca3), (3, ptr b 0), (8, .int .i64 j_1)]) (fun j_1 => [kc b #[.slice qa0 na0 ca0, .slice qa1 na1 ca1] 38]) (fun j_1 => []) ?_ ?_
  ·replace hm := h22
   refine jl ?_
   refine jF (ι := Unit) hm (fun s_1 l_5 => True) (fun s_1 l_5 => [(1, .slice qa2 na2 ca2), (2, .slice qa3 na3 ca3), (3, ptr b 0), (8, .int .i64 s_1.n8), (10, .int .i64 s_1.t10)]) (fun s_1 l_5 => [kc b #[.slice qa0 na0 ca0, .slice qa1 na1 ca1] 38]) (fun s_1 l_5 => []) () (trivial) (sE Y) (fun w hh => hh) (fun s_1 l_5 r_1 hpl hm h24 => ?_)
   unfold yz at hm
   refine jk (jp (je Y Y (je Y Y (jc Y Y Y (fun w _ => jB hna3 (runUnderlying26 w) Y) (q8 Y Y Y (jo ?_))))))
   refine jq Y (fun h25 => ?_) (fun h25 => ?_)
   ·replace hm := ifD h25 hm
    refine jt (ja (jk (jl (jk (jp (je Y Y (je Y Y ?_)))))))
    obtain ⟨t57, h26, hm⟩ := bindO hm
    refine jc Y Y Y (fun w _ => jY h26 (runUnderlying26 w) (sizeOf3 w) Y Y hna3 hqa3) (jc Y Y Y (fun w hh => jW RI 0 h26 (isAgg3 w) Y (hh.seg 3 Y) Y (Nat.add_zero _).symm) ?_)
    obtain ⟨t59, h27, hm⟩ := bindO hm
    refine jd [] [] Y Y Y Y Y Y Y call50 (fun w hh => Qq t57 (-20) 20 w (HV.callee (S0 := []) (vs0 := []) hh roN)  h27) (fun l_6 h28 => ?_)
    refine jo ?_
    refine jq Y (fun h29 => ?_) (fun h29 => ?_)
    ·replace hm := ifT (h29) hm
     refine jp (jm Y Y (jm Y Y (jo (jw (jf (jz (jf ?_)))))))
     refine jf (jz ?_)
     obtain rfl := sj hm
     have hbo := h24 _ Y
     subst hbo
     refine jf ?_
     replace hm := ocR h23
     refine jf ?_
     obtain rfl := sj hm
     refine jn Y (fun w hh => (.tmp Y (.tmp Y .nil))) (fun w hh => ⟨(), rfl, trivial, hh.se [] [] 4 Y Y Y rfl⟩)
    replace hm := ifN h29 hm
    refine jt (ja ?_)
    refine jV none (.free 0 (.free 1 (.free 2 (.free 3 (.hoist 4 (.free 5 (.hoist 6 (.free 7 (.free 8 (.hoist 9 (.one 10 (.free 11 (.free 12 .done))))))))))))) _ Y (by decide +kernel) (fun w k hh => hh.draw k) (fun w hh => hh) ?_
    refine kb Y Y Y (kb Y Y Y (kb Y Y Y ?_))
    obtain ⟨t63, h30, hm⟩ := bindO hm
    refine ji Y Y Y Y (fun w _ => jY h30 (runUnderlying26 w) (sizeOf3 w) Y Y hna3 hqa3) (jA Y Y Y Y (fun w hh => jW RI 0 h30 (isAgg3 w) Y (hh.seg 3 Y) Y (Nat.add_zero _).symm) (kF 1 runUnderlying38 sizeOf23 Y Y Y Y (qs 0 isAgg23 Y Y Y Y Y (kb Y Y Y ?_))))
    obtain ⟨t68, h31, hm⟩ := bindO hm
    refine ji Y Y Y Y (fun w _ => jY h31 (runUnderlying23 w) (sizeOf32 w) Y Y hna1 hqa1) ?_
    refine jA Y Y Y Y (fun w hh => kz RSp 0 [.int .i64 t68.lo, .int .i64 t68.hi] h31 (isAgg32 w) (sizeOf32 w) Y (hh.seg 1 Y) Y (Nat.add_zero _).symm) ?_
    refine jJ Y ?_
    obtain ⟨t70, h32, hm⟩ := bindO hm
    refine jd [] [] Y Y Y Y Y Y Y call56 (fun w hh => jaD t63 (⟨t68.lo, t68.hi⟩ : Span) w (HV.callee (S0 := []) (vs0 := []) hh roN)  h32) (fun l_7 h33 => ?_)
    refine jr (fun w hh => hh) ?_
    obtain ⟨t71, h34, hm⟩ := bindO hm
    refine ji Y Y Y Y (fun _ _ => zD h34 Y Y) (ji Y Y Y Y (fun _ _ => jQ Y) (jI (js (ja (jh (je Y Y ?_))))))
    obtain ⟨t54, h35, hm⟩ := bindO hm
    refine kS h35 Y Y Y (jm Y Y (jv ?_))
    obtain rfl := sj hm
    refine ja ?_
    exact jy _ () Y (trivial) (sE Y) (fun w hh => hh)
   replace hm := ifE h25 hm
   refine jO (jj (jj (jC ?_)))
   obtain rfl := sj hm
   have hbo := h24 _ Y
   subst hbo
   exact jg s_1.n8 (Y) (sE Y) (fun w hh => hh)
  intro j_1 hj
  have h36 := hj
  subst h36
  replace hm := ocL h23
  refine ja (jk (jp (jm Y Y (jo ?_))))
  obtain ⟨o_3, h37, h38⟩ := bindO hm
  refine jD (ι := Unit) (fun j_2 => o_3 = .inl j_2) (fun j_2 => [(8, .int .i64 j_1)]) (fun j_2 => [kc b #[.slice qa0 na0 ca0, .slice qa1 na1 ca1] 38]) (fun j_2 => []) ?_ ?_
  ·replace hm := h37
   refine jl ?_
   refine jF (ι := Unit) hm (fun s_2 l_8 => True) (fun s_2 l_8 => [(1, .slice qa2 na2 ca2), (2, .slice qa3 na3 ca3), (3, ptr b 0), (8, .int .i64 j_1), (11, .int .i64 s_2)]) (fun s_2 l_8 => [kc b #[.slice qa0 na0 ca0, .slice qa1 na1 ca1] 38]) (fun s_2 l_8 => []) () (trivial) (sE Y) (fun w hh => hh) (fun s_2 l_8 r_2 hpl hm h39 => ?_)
   unfold zF at hm
   refine jk (jp (je Y Y (je Y Y (jc Y Y Y (fun w _ => jB hna3 (runUnderlying26 w) Y) (q8 Y Y Y (jo ?_))))))
   refine jq Y (fun h40 => ?_) (fun h40 => ?_)
   ·replace hm := ifD h40 hm
    refine jt (ja (jk (jl (jp (jm Y Y (jo ?_))))))
    obtain ⟨o_4, h41, h42⟩ := bindO hm
    refine jD (ι := Unit) (fun j_3 => o_4 = .inl j_3) (fun j_3 => [(1, .slice qa2 na2 ca2), (2, .slice qa3 na3 ca3), (3, ptr b 0), (8, .int .i64 j_1), (11, .int .i64 s_2)]) (fun j_3 => [kc b #[.slice qa0 na0 ca0, .slice qa1 na1 ca1] 38]) (fun j_3 => []) ?_ ?_
    ·replace hm := h41
     refine jl ?_
     refine jF (ι := Unit) hm (fun s_3 l_9 => True) (fun s_3 l_9 => [(1, .slice qa2 na2 ca2), (2, .slice qa3 na3 ca3), (3, ptr b 0), (8, .int .i64 j_1), (11, .int .i64 s_2), (12, .int .i64 s_3)]) (fun s_3 l_9 => [kc b #[.slice qa0 na0 ca0, .slice qa1 na1 ca1] 38]) (fun s_3 l_9 => []) () (trivial) (sE Y) (fun w hh => hh) (fun s_3 l_9 r_3 hpl hm h43 => ?_)
     unfold yL at hm
     refine jk (jp (je Y Y (je Y Y (jc Y Y Y (fun w _ => jB hna2 (runUnderlying26 w) Y) (q8 Y Y Y (jo ?_))))))
     refine jq Y (fun h44 => ?_) (fun h44 => ?_)
     ·replace hm := ifD h44 hm
      refine jt (ja (jk (jl (jp (jm Y Y (jo (jk ?_)))))))
      obtain ⟨o_5, h45, h46⟩ := bindO hm
      refine jD (ι := Unit) (fun l_10 => True) (fun l_10 => [(1, .slice qa2 na2 ca2), (2, .slice qa3 na3 ca3), (3, ptr b 0), (8, .int .i64 j_1), (11, .int .i64 s_2), (12, .int .i64 s_3), (13, .int .i64 o_5)]) (fun l_10 => [kc b #[.slice qa0 na0 ca0, .slice qa1 na1 ca1] 38]) (fun l_10 => []) ?_ ?_
      ·replace hm := h45
       refine jp (jM 0 runUnderlying38 Y sizeOf36 Y Y (jS 0 isAgg36 Y Y Y Y (je Y Y ?_)))
       obtain ⟨t87, h47, hm⟩ := bindO hm
       refine jc Y Y Y (fun w _ => jY h47 (runUnderlying36 w) (sizeOf98 w) Y Y hna0 hqa0) (jM 0 runUnderlying98 Y sizeOf3 Y Y (jc Y Y Y (fun w hh => jW RSt 0 h47 (isAgg3 w) Y (hh.seg 0 Y) Y Y) (je Y Y (jc Y Y Y (fun _ _ => Kc Y Y) (jo ?_)))))
       refine jq Y (fun h48 => ?_) (fun h48 => ?_)
       ·replace hm := ifD h48 hm
        refine jh (jm Y Y (jv ?_))
        obtain rfl := sj hm
        exact jg () (trivial) (sE Y) (fun w hh => hh)
       replace hm := ifE h48 hm
       refine jt ?_
       obtain rfl := sj hm
       exact jg () (trivial) (sE Y) (fun w hh => hh)
      intro l_10 hj
      replace hm := h46
      refine ja (jk ?_)
      obtain ⟨o_6, h49, h50⟩ := bindO hm
      refine jD (ι := Unit) (fun l_11 => True) (fun l_11 => [(1, .slice qa2 na2 ca2), (2, .slice qa3 na3 ca3), (3, ptr b 0), (8, .int .i64 j_1), (11, .int .i64 s_2), (12, .int .i64 s_3), (108, .bool o_6)]) (fun l_11 => [kc b #[.slice qa0 na0 ca0, .slice qa1 na1 ca1] 38]) (fun l_11 => []) ?_ ?_
      ·replace hm := h49
       refine jV none (.hoist 0 (.free 1 (.free 2 (.one 3 (.free 4 (.free 5 (.free 6 (.free 7 (.hoist 8 (.free 9 (.free 10 (.free 11 (.hoist 12 (.free 13 (.free 14 (.free 15 (.free 16 .done))))))))))))))))) _ Y (by decide +kernel) (fun w k hh => hh.draw k) (fun w hh => hh) ?_
       refine jA Y Y Y Y (fun w hh => kn (vs := [_, _]) (isAgg38 w) (sizeOf38 w) Y (hh.cells 0 Y Y)) (kb Y Y Y (kb Y Y Y (jJ Y ?_)))
       obtain ⟨t95, h51, hm⟩ := bindO hm
       refine jd [] [] Y Y Y Y Y Y Y call34 (fun w hh => Kf s0 s_2 s_3 qa0 na0 ca0 qa1 na1 ca1 w (HV.callee (S0 := []) (vs0 := []) hh (roR hh 0 Y (roR hh 1 Y roN))) hna0 hqa0 hla0 hna1 hqa1 hla1 h51) (fun l_12 h52 => ?_)
       refine jr (fun w hh => hh) (kb Y Y Y ?_)
       refine jH 96 Y (fun h53 => ?_) (fun h53 => ?_)
       ·replace hm := ifT (h53) hm
        refine jP Y Y Y Y Y Y (fun _ _ => k7 Y) (jP Y Y Y Y Y Y (fun _ _ => k7 Y) ?_)
        obtain ⟨t99, h54, hm⟩ := bindO hm
        refine jP Y Y Y Y Y Y (fun w _ => jY h54 (runUnderlying26 w) (sizeOf3 w) Y Y hna2 hqa2) (yn Y Y Y Y Y Y (fun w hh => jW RI 0 h54 (isAgg3 w) Y (hh.seg 2 Y) Y (Nat.add_zero _).symm) (jP Y Y Y Y Y Y (fun _ _ => k7 Y) (jP Y Y Y Y Y Y (fun _ _ => k7 Y) ?_)))
        obtain ⟨t103, h55, hm⟩ := bindO hm
        refine jP Y Y Y Y Y Y (fun w _ => jY h55 (runUnderlying26 w) (sizeOf3 w) Y Y hna3 hqa3) (yn Y Y Y Y Y Y (fun w hh => jW RI 0 h55 (isAgg3 w) Y (hh.seg 3 Y) Y (Nat.add_zero _).symm) ?_)
        obtain ⟨t105, h56, hm⟩ := bindO hm
        refine jP Y Y Y Y Y Y (fun _ _ => zD h56 Y Y) (jP Y Y Y Y Y Y (fun _ _ => k7 Y) (jP Y Y Y Y Y Y (fun _ _ => JU Y Y) (ji Y Y Y Y (fun _ _ => yT Y Y) (jI ?_))))
        obtain rfl := sj hm
        exact jg () (trivial) (sE Y) (fun w hh => hh)
       replace hm := ifN h53 hm
       refine jL Y Y Y Y Y Y Y (jL Y Y Y Y Y Y Y (jL Y Y Y Y Y Y Y (zY Y Y Y Y Y Y Y (jL Y Y Y Y Y Y Y (jL Y Y Y Y Y Y Y (jL Y Y Y Y Y Y Y (zY Y Y Y Y Y Y Y ?_)))))))
       refine jL Y Y Y Y Y Y Y (jL Y Y Y Y Y Y Y (jL Y Y Y Y Y Y Y (ji Y Y Y Y (fun _ _ => yW Y Y) (jI ?_))))
       obtain rfl := sj hm
       exact jg () (trivial) (sE Y) (fun w hh => hh)
      intro l_11 hj
      replace hm := h50
      refine ja ?_
      refine jq Y (fun h57 => ?_) (fun h57 => ?_)
      ·replace hm := ifT (h57) hm
       refine jp (jm Y Y (jm Y Y (jo (jw (jz (jf (jf ?_)))))))
       refine jz ?_
       obtain rfl := sj hm
       have hbo := h43 _ Y
       subst hbo
       refine jf ?_
       replace hm := ocR h42
       refine jz (jf (jf (jz ?_)))
       obtain rfl := sj hm
       have hbo := h39 _ Y
       subst hbo
       refine jf ?_
       replace hm := ocR h38
       refine jf ?_
       obtain rfl := sj hm
       refine jn Y (fun w hh => (.tmp Y (.tmp Y .nil))) (fun w hh => ⟨(), rfl, trivial, hh.se [] [] 4 Y Y Y rfl⟩)
      replace hm := ifN h57 hm
      refine jt (js (ja (jh (je Y Y ?_))))
      obtain ⟨t83, h58, hm⟩ := bindO hm
      refine kS h58 Y Y Y (jm Y Y (jv ?_))
      obtain rfl := sj hm
      refine ja ?_
      exact jy _ () Y (trivial) (sE Y) (fun w hh => hh)
     replace hm := ifE h44 hm
     refine jO (jj (jj (jC ?_)))
     obtain rfl := sj hm
     have hbo := h43 _ Y
     subst hbo
     exact jg () (Y) (sE Y) (fun w hh => hh)
    intro j_3 hj
    have h59 := hj
    subst h59
    replace hm := ocL h42
    refine js (ja (jh (je Y Y ?_)))
    obtain ⟨t77, h60, hm⟩ := bindO hm
    refine kS h60 Y Y Y (jm Y Y (jv ?_))
    obtain rfl := sj hm
    refine ja ?_
    exact jy _ () Y (trivial) (sE Y) (fun w hh => hh)
   replace hm := ifE h40 hm
   refine jO (jj (jj (jC ?_)))
   obtain rfl := sj hm
   have hbo := h39 _ Y
   subst hbo
   exact jg () (Y) (sE Y) (fun w hh => hh)
  intro j_2 hj
  have h61 := hj
  subst h61
  replace hm := ocL h38
  refine ja (jp (je Y Y (jm Y Y (jm Y Y (jo (jw ?_))))))
  obtain rfl := sj hm
  refine jn Y (fun w hh => (.tmp Y (.tmp Y .nil))) (fun w hh => ⟨(), rfl, trivial, hh.se [] [] 4 Y Y Y rfl⟩)
def zx (c0 : Change) (a1 : Int) (b2 : Int) (cost3 : Int) (room4 : Int) (a550 : (List Int)) : Option (List Int) :=
 (ix a550 b2).bind fun t13 =>
 (ix a550 a1).bind fun t16 =>
 (addc t16 cost3).bind fun t19 =>
 (JH t13 [t19]).bind fun t21 =>
 (ix a550 b2).bind fun t22 =>
 (some (a550.set (Int.toNat b2) t21)).bind fun a55 =>
 some a55
theorem ZD (c0 : Change) (a1 : Int) (b2 : Int) (cost3 : Int) (room4 : Int) (a550 : (List Int)) (pb : Nat) (w : World) (hw : HV w (keys [(pb, .cells (RI.enc a550).toArray 118 (0, 0))] []) [(pb, .cells (RI.enc a550).toArray 118 (0, 0))] [] [] w) (hl_a550 : a550.length = 12) {res : (List Int)} (hm : zx c0 a1 b2 cost3 room4 a550 = some res) :
    Calls Tryz.prog 109 #[.agg #[.int .i64 c0.way, .bool c0.more], .int .i64 a1, .int .i64 b2, .int .i64 cost3, .int .i64 room4, ptr pb 0] w (fun en w' => ∃ l : Unit, en = .returned (.tuple #[]) ∧ (res.length = 12) ∧ HV w (keys [(pb, .cells (RI.enc a550).toArray 118 (0, 0))] []) [(pb, .cells (RI.enc res).toArray 118 (0, 0))] [] [] w') := by
  unfold zx at hm
  refine kj func109 Y ntmps109 Y (e := [(0, _), (1, _), (2, _), (3, _), (4, _), (5, _)]) Y hw (jp ?_)
  refine jK Y Y (fun b h2 => ?_)
  refine jo ?_
  refine jV (some 12) (.free 0 (.free 1 (.free 2 (.hoist 3 (.free 4 (.free 5 (.hoist 6 (.free 7 (.free 8 (.one 9 (.one 10 (.free 11 (.last 12 .done))))))))))))) _ Y (by decide +kernel) (fun w k hh => hh.draw k) (fun w hh => hh) ?_
  refine kb Y Y Y (kb Y Y Y ?_)
  obtain ⟨t13, h3, hm⟩ := bindO hm
  refine ji Y Y Y Y (fun w _ => JQ h3 hl_a550 (runUnderlying118 w) (sizeOf3 w) Y Y) (jA Y Y Y Y (fun w hh => jW RI 0 h3 (isAgg3 w) Y (hh.bsegA 1 Y) Y (Nat.add_zero _).symm) (kb Y Y Y ?_))
  obtain ⟨t16, h4, hm⟩ := bindO hm
  refine ji Y Y Y Y (fun w _ => JQ h4 hl_a550 (runUnderlying118 w) (sizeOf3 w) Y Y) (jA Y Y Y Y (fun w hh => jW RI 0 h4 (isAgg3 w) Y (hh.bsegA 1 Y) Y (Nat.add_zero _).symm) (kb Y Y Y ?_))
  obtain ⟨t19, h5, hm⟩ := bindO hm
  refine ji Y Y Y Y (fun _ _ => zD h5 Y Y) (jJ Y ?_)
  refine kU RI [t19] (ps := [(0, _)]) (cells := [_]) (fun w => runUnderlying26 w) (fun w => sizeOf3 w) (fun w => zeroValue3 w) Y Y Y Y Y Y Y Y (fun L h6 => ?_)
  refine jr (hsE [0, 1] [] 0 Y Y Y Y) (jJ Y ?_)
  obtain ⟨t21, h7, hm⟩ := bindO hm
  refine jd [] [] Y Y Y Y Y Y Y call74 (fun w hh => KK t13 [t19] (qA L.q) L.n L.cap w (HV.callee (S0 := []) (vs0 := []) hh (roC (hh.vsepA 0 Y h6) roN)) (vlen RI h6 Y) (AOK.q (vne h6)) (h6).hle h7) (fun l h8 => ?_)
  refine jr (hsE [0, 1] [] 0 Y Y Y Y) ?_
  obtain ⟨t22, h9, hm⟩ := bindO hm
  refine ji Y Y Y Y (fun w _ => JQ h9 hl_a550 (runUnderlying118 w) (sizeOf3 w) Y Y) (Qn Y ?_)
  obtain ⟨a55, ha55, hm⟩ := bindO hm
  refine ja1 RI 1 0 t21 (S' := [_, _]) (fun w => sizeOf3 w) Y Y Y Y hl_a550 (Nat.add_zero _).symm Y h9 Y Y (Option.some.inj ha55) Y (fun h10 => ?_)
  refine Kb (jI ?_)
  obtain rfl := sj hm
  refine JP Y (fun w hh => .nil) (fun w hh => ⟨(), rfl, h10, hh.se [1] [] 0 Y Y Y rfl⟩)
structure qP where
  t17 : Int
  f1_c0_0 : (List Int)
structure yO where
  t22 : Int
  f1_c0_0 : (List Int)
def kh (n00 : (List Wy)) (s : qP) (s_1 : yO) : Option (yO ⊕ (List Int)) :=
 if s_1.t22 < ([true, false].length : Int) then
 (((ix [true, false] s_1.t22).bind fun t24 =>
 (qq n00 (⟨s.t17, t24⟩ : Change)).bind fun t32 =>
 if 0 < t32.r3 then
 ((zx (⟨s.t17, t24⟩ : Change) t32.r0 t32.r1 t32.r2 t32.r3 s_1.f1_c0_0).bind fun t45 =>
 some t45) else
 (some s_1.f1_c0_0)).bind fun o_2 =>
 (addc s_1.t22 1).bind fun t46 =>
 some (.inl (⟨t46, o_2⟩ : yO))) else
 (some (.inr s_1.f1_c0_0))
def qN (n00 : (List Wy)) (s : qP) : Option (qP ⊕ (List Int)) :=
 if s.t17 < (n00.length : Int) then
 ((iterM FU (kh n00 s) (⟨0, s.f1_c0_0⟩ : yO)).bind fun o_1 =>
 (addc s.t17 1).bind fun t47 =>
 some (.inl (⟨t47, o_1⟩ : qP))) else
 (some (.inr s.f1_c0_0))
def ze (n00 : (List Wy)) (f1_c00 : (List Int)) : Option (List Int) :=
 (iterM FU (qN n00) (⟨0, f1_c00⟩ : qP)).bind fun o =>
 some o
theorem Y3 (n00 : (List Wy)) (f1_c00 : (List Int)) (rb : Nat) (qa1 : Option Addr) (na1 ca1 : Nat) (pb : Nat) (w : World) (hw : HV w (keys [(pb, .cells (RI.enc f1_c00).toArray 118 (0, 0))] []) [(pb, .cells (RI.enc f1_c00).toArray 118 (0, 0))] [] [(rb, 0, [.slice qa1 na1 ca1]), (aB qa1, aO qa1, RWay.enc n00)] w)  (hna1 : n00.length = na1) (hqa1 : AOK na1 qa1) (hla1 : na1 ≤ ca1) (hl_f1_c00 : f1_c00.length = 12) {res : (List Int)} (hm : ze n00 f1_c00 = some res) :
    Calls Tryz.prog 108 #[ptr rb 0, .func (.func 109) #[] #[ptr pb 0]] w (fun en w' => ∃ l : Unit, en = .returned (.tuple #[]) ∧ (res.length = 12) ∧ HV w (keys [(pb, .cells (RI.enc f1_c00).toArray 118 (0, 0))] []) [(pb, .cells (RI.enc res).toArray 118 (0, 0))] [] [] w') := by
  unfold ze at hm
  refine kj func108 Y ntmps108 Y (e := [(0, _), (1, _)]) Y hw (jp (je Y Y (jc Y Y Y (fun _ _ => jN Y) (jM 0 runUnderlying154 Y sizeOf152 Y Y (jc Y Y Y (fun w hh => j0 (isAgg152 w) Y (segCell (hh.seg 0 Y) 0 Y)) (jc Y Y Y (fun w _ => jB hna1 (runUnderlying152 w) Y) (je Y Y ?_)))))))
  refine jo ?_
  obtain ⟨o, h2, h3⟩ := bindO hm
  refine jD (ι := Unit) (fun l => o.length = 12) (fun l => []) (fun l => [(pb, .cells (RI.enc o).toArray 118 (0, 0))]) (fun l => []) ?_ ?_
  ·replace hm := h2
   refine jl ?_
   refine jF (ι := Unit) hm (fun s l_1 => s.f1_c0_0.length = 12) (fun s l_1 => [(0, ptr rb 0), (1, .func (.func 109) #[] #[ptr pb 0]), (16, .int .i64 (n00.length : Int)), (17, .int .i64 s.t17)]) (fun s l_1 => [(pb, .cells (RI.enc s.f1_c0_0).toArray 118 (0, 0))]) (fun s l_1 => []) () (hl_f1_c00) (sE Y) (fun w hh => hh) (fun s l_1 r hpl hm h6 => ?_)
   have h5 := hpl
   unfold qN at hm
   refine jp (q8 Y Y Y (jo (jk ?_)))
   refine jq Y (fun h7 => ?_) (fun h7 => ?_)
   ·replace hm := ifD h7 hm
    refine jt (ja (jk (jl (jp (je Y Y (jm Y Y (j3 ?_)))))))
    refine kU RB [true, false] (ps := [(0, _), (1, _)]) (cells := [_, _]) (fun w => runUnderlying93 w) (fun w => sizeOf4 w) (fun w => zeroValue4 w) Y Y Y Y Y Y Y Y (fun L h8 => ?_)
    refine jc Y Y Y (fun w _ => QC (vlen RB h8 Y) (runUnderlying93 w) Y) (je Y Y (jo ?_))
    obtain ⟨o_1, h9, h10⟩ := bindO hm
    refine jD (ι := Unit) (fun l_2 => o_1.length = 12) (fun l_2 => [(0, ptr rb 0), (1, .func (.func 109) #[] #[ptr pb 0]), (16, .int .i64 (n00.length : Int)), (17, .int .i64 s.t17)]) (fun l_2 => [(pb, .cells (RI.enc o_1).toArray 118 (0, 0))]) (fun l_2 => []) ?_ ?_
    ·replace hm := h9
     refine jl ?_
     refine jF (ι := Unit) hm (fun s_1 l_3 => s_1.f1_c0_0.length = 12) (fun s_1 l_3 => [(0, ptr rb 0), (1, .func (.func 109) #[] #[ptr pb 0]), (4, .int .i64 s.t17), (16, .int .i64 (n00.length : Int)), (17, .int .i64 s.t17), (20, sL L), (21, .int .i64 ([true, false].length : Int)), (22, .int .i64 s_1.t22)]) (fun s_1 l_3 => [(pb, .cells (RI.enc s_1.f1_c0_0).toArray 118 (0, 0))]) (fun s_1 l_3 => [⟨4, RB.enc [true, false], L.sp, L.q, []⟩]) () (h5) (sE Y) (fun w hh => hh) (fun s_1 l_3 r_1 hpl hm h13 => ?_)
     have h12 := hpl
     unfold kh at hm
     refine jp (q8 Y Y Y (jo (jk ?_)))
     refine jq Y (fun h14 => ?_) (fun h14 => ?_)
     ·replace hm := ifD h14 hm
      refine jt (ja (jk ?_))
      obtain ⟨o_2, h15, h16⟩ := bindO hm
      refine jD (ι := Unit) (fun l_4 => o_2.length = 12) (fun l_4 => [(0, ptr rb 0), (1, .func (.func 109) #[] #[ptr pb 0]), (4, .int .i64 s.t17), (16, .int .i64 (n00.length : Int)), (17, .int .i64 s.t17), (20, sL L), (21, .int .i64 ([true, false].length : Int)), (22, .int .i64 s_1.t22)]) (fun l_4 => [(pb, .cells (RI.enc o_2).toArray 118 (0, 0))]) (fun l_4 => [⟨4, RB.enc [true, false], L.sp, L.q, []⟩]) ?_ ?_
      ·replace hm := h15
       refine jl (jp ?_)
       obtain ⟨t24, h18, hm⟩ := bindO hm
       refine jc Y Y Y (fun w _ => qR h18 (runUnderlying93 w) (sizeOf4 w) Y Y (vlen RB h8 Y) (vne h8)) (jc Y Y Y (fun w hh => jW RB 0 h18 (isAgg4 w) Y (hh.vseg 0 Y h8) Y (Nat.add_zero _).symm) (jm Y Y (j3 (je Y Y (je Y Y (jc Y Y Y (fun _ _ => jG (vs := [(0, _), (1, _)]) (cells := [_, _]) Y Y) ?_))))))
       refine ju (fun w => zeroValue164 w) Y (fun b h19 => ?_)
       refine jE (us := #[_, _]) (cs' := [_, _]) (S' := [_, _]) 0 (fun w => sizeOf164 w) Y Y Y Y Y Y Y (j3 (je Y Y (qh [_, _] 0 isAgg164 sizeOf164 Y Y Y Y ?_)))
       obtain ⟨t32, h20, hm⟩ := bindO hm
       refine jd [] [] Y Y Y Y Y Y Y call130 (fun w hh => Kg n00 (⟨s.t17, t24⟩ : Change) rb qa1 na1 ca1 w (HV.callee (S0 := []) (vs0 := []) hh (roR hh 0 Y (roR hh 1 Y roN))) hna1 hqa1 hla1 h20) (fun l_5 h21 => ?_)
       refine je Y Y (kt Y Y Y (kt Y Y Y (kt Y Y Y (kt Y Y Y (jm Y Y (jm Y Y (jm Y Y ?_)))))))
       refine jm Y Y (j3 (je Y Y (jc Y Y Y (fun _ _ => JU Y Y) (jo ?_))))
       refine jq Y (fun h22 => ?_) (fun h22 => ?_)
       ·replace hm := ifD h22 hm
        refine jh (je Y Y (qh [_, _] 0 isAgg164 sizeOf164 Y Y Y Y (je Y Y (je Y Y (je Y Y (je Y Y ?_))))))
        obtain ⟨t45, h23, hm⟩ := bindO hm
        refine jT (S' := [_, _]) (vs' := [_]) [1, 0] [0] 0 Y Y Y Y ?_
        refine jd [_] [] Y Y Y Y Y Y Y call109 (fun w hh => ZD (⟨s.t17, t24⟩ : Change) t32.r0 t32.r1 t32.r2 t32.r3 s_1.f1_c0_0 pb w (HV.callee (S0 := [_]) (vs0 := []) hh roN) h12 h23) (fun l_6 h24 => ?_)
        have h25 := h24
        refine jT (S' := [_, _]) (vs' := [_]) [0, 1] [0] 0 Y Y Y Y (jv (js ?_))
        obtain rfl := sj hm
        exact jg () (h25) (sE Y) (hsE [0] [0] 0 Y Y Y Y)
       replace hm := ifE h22 hm
       refine jt (js ?_)
       obtain rfl := sj hm
       exact jg () (h12) (sE Y) (hsE [1] [0] 0 Y Y Y Y)
      intro l_4 hj
      have h17 := hj
      replace hm := h16
      refine ja (jh ?_)
      obtain ⟨t46, h26, hm⟩ := bindO hm
      refine kS h26 Y Y Y (je Y Y (jv ?_))
      obtain rfl := sj hm
      refine ja ?_
      exact jy _ () Y (h17) (sE Y) (fun w hh => hh)
     replace hm := ifE h14 hm
     refine jO (jj (jj (jC ?_)))
     obtain rfl := sj hm
     have hbo := h13 _ Y
     subst hbo
     exact jg () (h12) (sE Y) (hsE [0] [] 0 Y Y Y Y)
    intro l_2 hj
    have h11 := hj
    replace hm := h10
    refine js (ja (jh ?_))
    obtain ⟨t47, h27, hm⟩ := bindO hm
    refine kS h27 Y Y Y (je Y Y (jv ?_))
    obtain rfl := sj hm
    refine ja ?_
    exact jy _ () Y (h11) (sE Y) (fun w hh => hh)
   replace hm := ifE h7 hm
   refine jO (jj (jj (jC ?_)))
   obtain rfl := sj hm
   have hbo := h6 _ Y
   subst hbo
   exact jg () (h5) (.nil) (fun w hh => hh)
  intro l hj
  have h4 := hj
  replace hm := h3
  obtain rfl := sj hm
  refine JP Y (fun w hh => .nil) (fun w hh => ⟨(), rfl, h4, hh.se [0] [] 2 Y Y Y rfl⟩)
def J8 (n00 : (List Wy)) (s : (List Int)) : Option ((List Int) ⊕ (Unit ⊕ (List Int))) :=
 (ze n00 s).bind fun t8 =>
 if t8 = s then
 (some (.inr (.inr t8))) else
 (some (.inl t8))
def Q0 (n00 : (List Wy)) : Option (List Int) :=
 (iterM FU (J8 n00) (List.replicate 12 0 : (List Int))).bind fun o =>
 oc o (fun j => none) (fun r_1 => some r_1)
theorem jaU (n00 : (List Wy)) (rb : Nat) (qa1 : Option Addr) (na1 ca1 : Nat) (w : World) (hw : HV w (keys [] []) [] [] [(rb, 0, [.slice qa1 na1 ca1]), (aB qa1, aO qa1, RWay.enc n00)] w)  (hna1 : n00.length = na1) (hqa1 : AOK na1 qa1) (hla1 : na1 ≤ ca1) {res : (List Int)} (hm : Q0 n00 = some res) :
    Calls Tryz.prog 60 #[ptr rb 0] w (fun en w' => ∃ l : Unit, en = .returned (.agg (RI.enc res).toArray) ∧ (res.length = 12) ∧ HV w (keys [] []) [] [] [] w') := by
  unfold Q0 at hm
  refine kj func60 Y ntmps60 Y (e := [(0, _)]) Y hw (jp ?_)
  refine zG RI (l := (List.replicate 12 0 : (List Int))) (k := 12) (fun w => zeroValue118 w) Y Y Y (fun b h2 h3 => ?_)
  refine j3 ?_
  refine zG RI (l := (List.replicate 12 0 : (List Int))) (k := 12) (fun w => zeroValue118 w) Y Y Y (fun b_1 h4 h5 => ?_)
  refine jo ?_
  obtain ⟨o, h6, h7⟩ := bindO hm
  refine jD (ι := Unit) (fun j => False) (fun j => []) (fun j => [(b_1, .cells (RI.enc (List.replicate 12 0 : (List Int))).toArray 118 (0, 0)), (b, .cells (RI.enc (List.replicate 12 0 : (List Int))).toArray 118 (0, 0))]) (fun j => []) ?_ ?_
  ·replace hm := h6
   refine jl ?_
   refine jF (ι := Unit) hm (fun s l => s.length = 12) (fun s l => [(0, ptr rb 0), (2, ptr b 0), (3, ptr b_1 0)]) (fun s l => [(b_1, .cells (RI.enc s).toArray 118 (0, 0)), (b, .cells (RI.enc (List.replicate 12 0 : (List Int))).toArray 118 (0, 0))]) (fun s l => []) () (h5) (sE Y) (fun w hh => hh) (fun s l r hpl hm h9 => ?_)
   have h8 := hpl
   unfold J8 at hm
   refine jl (jp (jc Y Y Y (fun w hh => y6 RI h8 (isAgg118 w) (sizeOf118 w) Y Y (hh.bsegA 0 Y)) ?_))
   refine zG RI (l := (List.replicate 12 0 : (List Int))) (k := 12) (fun w => zeroValue118 w) Y Y Y (fun b_2 h10 h11 => ?_)
   refine Z1 RI (S' := [_, _, _]) 0 (fun w => sizeOf118 w) Y Y Y h11 h8 Y Y (j3 (je Y Y (jc Y Y Y (fun _ _ => jR (u := #[]) (u' := #[_]) Y Y) ?_)))
   obtain ⟨t8, h12, hm⟩ := bindO hm
   refine jT (S' := [_, _, _]) (vs' := []) [1, 0, 2] [] 0 Y Y Y Y ?_
   refine jd [_] [] Y Y Y Y Y Y Y call108 (fun w hh => Y3 n00 s rb qa1 na1 ca1 b_1 w (HV.callee (S0 := [_]) (vs0 := []) hh (roR hh 0 Y (roR hh 1 Y roN))) hna1 hqa1 hla1 h8 h12) (fun l_1 h13 => ?_)
   have h14 := h13
   refine jT (S' := [_, _, _]) (vs' := []) [0, 1, 2] [] 0 Y Y Y Y (j3 (jc Y Y Y (fun w hh => y6 RI h14 (isAgg118 w) (sizeOf118 w) Y Y (hh.bsegA 0 Y)) (jc Y Y Y (fun w hh => y6 RI h8 (isAgg118 w) (sizeOf118 w) Y Y (hh.bsegA 1 Y)) ?_)))
   refine jc Y Y Y (fun w _ => ZA (equal_arrI underlying118 (fun w => sizeOf3 w) (fun w => isAgg3 w) underlying3 h14 h8 w) jaS Y Y) ?_
   refine jo ?_
   refine jq Y (fun h15 => ?_) (fun h15 => ?_)
   ·replace hm := ifD h15 hm
    refine jp (jc Y Y Y (fun w hh => y6 RI h14 (isAgg118 w) (sizeOf118 w) Y Y (hh.bsegA 0 Y)) (Z1 RI (S' := [_, _, _]) 2 (fun w => sizeOf118 w) Y Y Y h3 h14 Y Y (jo (jw (jz (jf (jz ?_)))))))
    obtain rfl := sj hm
    have hbo := h9 _ Y
    subst hbo
    refine jf ?_
    replace hm := ocR h7
    obtain rfl := sj hm
    refine jn Y (fun w hh => (.cell Y (loadVar_arr RI h14 (isAgg118 _) (sizeOf118 _) Y (hh.bsegA 2 Y)) .nil)) (fun w hh => ⟨(), rfl, h14, hh.se [] [] 2 Y Y Y rfl⟩)
   replace hm := ifE h15 hm
   refine jt (js ?_)
   obtain rfl := sj hm
   refine ja ?_
   exact jy _ () Y (h14) (sE Y) (hsE [0, 2] [] 0 Y Y Y Y)
  exact fun _ hf => hf.elim
structure KO where
  r0 : Marks
  r1 : Int
structure K3 where
  t36 : Int
  out8_strips : (List Int)
def Jb (s0 : Scalps) (t32 : (List Int)) (s : K3) : Option (K3 ⊕ (List Int)) :=
 if s.t36 < (s0.strips.length : Int) then
 ((ix t32 0).bind fun t41 =>
 (addc 1 s.t36).bind fun t44 =>
 (ix t32 t44).bind fun t45 =>
 (subc t41 t45).bind fun t47 =>
 (appc 8 s.out8_strips [t47]).bind fun t49 =>
 (addc s.t36 1).bind fun t51 =>
 some (.inl (⟨t51, t49⟩ : K3))) else
 (some (.inr s.out8_strips))
structure K8 where
  t55 : Int
  out8_tenants : (List Int)
def z5 (s0 : Scalps) (t32 : (List Int)) (s_1 : K8) : Option (K8 ⊕ (List Int)) :=
 if s_1.t55 < (s0.carried.length : Int) then
 ((addc 7 s_1.t55).bind fun t61 =>
 (ix t32 t61).bind fun t62 =>
 (ix t32 0).bind fun t64 =>
 (subc t62 t64).bind fun t66 =>
 (appc 8 s_1.out8_tenants [t66]).bind fun t68 =>
 (addc s_1.t55 1).bind fun t70 =>
 some (.inl (⟨t70, t68⟩ : K8))) else
 (some (.inr s_1.out8_tenants))
def Ko (s0 : Scalps) : Option KO :=
 (kP s0).bind fun t14 =>
 oc t14 (fun t14a => some (⟨(⟨[], []⟩ : Marks), t14a⟩ : KO)) (fun t14b => (Ka s0.strips s0.carried).bind fun t24 =>
 (j5 s0.strips s0.carried t14b (fun p : Pair => jU p s0.strips s0.carried)).bind fun t25 =>
 oc t25 (fun t25a => some (⟨(⟨[], []⟩ : Marks), 7⟩ : KO)) (fun t25b => (Q0 t25b.t12).bind fun t32 =>
 (iterM FU (Jb s0 t32) (⟨0, []⟩ : K3)).bind fun o =>
 (iterM FU (z5 s0 t32) (⟨0, []⟩ : K8)).bind fun o_1 =>
 some (⟨(⟨o, o_1⟩ : Marks), 0⟩ : KO)))
theorem jaV (s0 : Scalps) (qa0 : Option Addr) (na0 ca0 : Nat) (qa1 : Option Addr) (na1 ca1 : Nat) (w : World) (hw : HV w (keys [] []) [] [] [(aB qa0, aO qa0, RSt.enc s0.strips), (aB qa1, aO qa1, RSp.enc s0.carried)] w) (hna0 : s0.strips.length = na0) (hqa0 : AOK na0 qa0) (hla0 : na0 ≤ ca0) (hna1 : s0.carried.length = na1) (hqa1 : AOK na1 qa1) (hla1 : na1 ≤ ca1) {res : KO} (hm : Ko s0 = some res) :
    Calls Tryz.prog 17 #[.agg #[.slice qa0 na0 ca0, .slice qa1 na1 ca1]] w (fun en w' => ∃ l : VL × VL, en = .returned (.tuple #[.agg #[sL l.1, sL l.2], .int .i64 res.r1]) ∧ (VOK 1 l.1.n l.1.cap (RI.enc res.r0.strips) l.1.sp l.1.q ∧ VOK 1 l.2.n l.2.cap (RI.enc res.r0.tenants) l.2.sp l.2.q) ∧ HV w (keys [] []) [] [vL 3 l.1 (RI.enc res.r0.strips), vL 3 l.2 (RI.enc res.r0.tenants)] [] w') := by
  unfold Ko at hm
  refine kj func17 Y ntmps17 Y (e := [(0, _)]) Y hw (jp ?_)
  refine jK Y Y (fun b h3 => ?_)
  refine ju (fun w => zeroValue28 w) Y (fun b_1 h4 => ?_)
  refine jm Y Y (j3 (qh [_, _] 1 isAgg25 sizeOf25 Y Y Y Y ?_))
  obtain ⟨t14, h5, hm⟩ := bindO hm
  rcases t14 with t14a | t14b
  ·replace hm := ocL hm
   refine jd [] [] Y Y Y Y Y Y Y call57 (fun w hh => qe s0 qa0 na0 ca0 qa1 na1 ca1 w (HV.callee (S0 := []) (vs0 := []) hh (roR hh 0 Y (roR hh 1 Y roN))) hna0 hqa0 hla0 hna1 hqa1 hla1 h5) (fun l h6 => ?_)
   have h7 := h6
   refine je Y Y (kt Y Y Y (kt Y Y Y (jm Y Y (jm Y Y (jo (jk (jp ?_)))))))
   refine je Y Y (jc Y Y Y (fun _ _ => YH h7 Y Y) (jo (Jg Y Y (jp (jc Y Y Y (fun _ _ => jG (vs := []) (cells := [_, _]) Y Y) (je Y Y (jE (us := #[_, _]) (cs' := [_, _]) (S' := [_, _]) 0 (fun w => sizeOf28 w) Y Y Y Y Y Y Y ?_)))))))
   refine jm Y Y (jo (jw (jf (kp 3 (kp 3 ?_)))))
   obtain rfl := sj hm
   refine jn Y (fun w hh => (.cell Y (loadVar_agg (vs := [_, _]) (isAgg28 _) (sizeOf28 _) (hh.cells 0 Y Y)) (.tmp Y .nil))) (fun w hh => ⟨(⟨none, 0, 0, []⟩, ⟨none, 0, 0, []⟩), rfl, ⟨VOK.nil, VOK.nil⟩, hh.se [] [1, 0] 2 Y Y Y rfl⟩)
  replace hm := ocR hm
  refine jd [] [] Y Y Y Y Y Y Y call57 (fun w hh => qe s0 qa0 na0 ca0 qa1 na1 ca1 w (HV.callee (S0 := []) (vs0 := []) hh (roR hh 0 Y (roR hh 1 Y roN))) hna0 hqa0 hla0 hna1 hqa1 hla1 h5) (fun l_1 h8 => ?_)
  refine jT (S' := [_, _, _, _]) (vs' := []) [0, 1, 2, 3] [] 0 Y Y Y Y (je Y Y (kt Y Y Y (kt Y Y Y (jm Y Y (jm Y Y (jo (jk ?_)))))))
  refine jp (je Y Y (jc Y Y Y (fun _ _ => k5 Y Y) (jo (yr Y Y (jt (ja (jp ?_)))))))
  refine je Y Y (je Y Y ?_)
  obtain ⟨t24, h9, hm⟩ := bindO hm
  refine jd [] [] Y Y Y Y Y Y Y call59 (fun w hh => Q5 s0.strips s0.carried l_1.1 qa0 na0 ca0 qa1 na1 ca1 (.map (some l_1.2)) w (HV.callee (S0 := []) (vs0 := []) hh (roC (bsep (hh.bseg 0 Y)) (roR hh 0 Y (roR hh 1 Y roN)))) hna0 hqa0 hla0 hna1 hqa1 hla1 h9) (fun l_2 h10 => ?_)
  refine jT (S' := [_, _, _, _, _]) (vs' := []) [0, 1, 2, 3, 4] [] 0 Y Y Y Y ?_
  obtain ⟨t25, h11, hm⟩ := bindO hm
  rcases t25 with t25a | t25b
  ·replace hm := ocL hm
   refine jT (S' := [_, _, _, _, _]) (vs' := []) [2, 0, 1, 3, 4] [] 0 Y Y Y Y ?_
   refine jd [_] [] Y Y Y Y Y Y Y call58 (fun w hh => kd s0.strips s0.carried t14b (fun p : Pair => jU p s0.strips s0.carried) l_1.1 qa0 na0 ca0 qa1 na1 ca1 l_1.2 120 (#[]) (#[ptr l_2 0]) ([(l_2, 0, [.func (.func 83) #[ptr l_1.1 0] #[]]), (l_1.1, 0, [.slice qa0 na0 ca0, .slice qa1 na1 ca1, .map (some l_1.2)]), (aB qa0, aO qa0, RSt.enc s0.strips), (aB qa1, aO qa1, RSp.enc s0.carried)]) w (HV.callee (S0 := [_]) (vs0 := []) hh (roA (roC (hh.bsepH 1 Y) (roR hh 0 Y (roR hh 1 Y roN))) (roC (hh.bsepH 0 Y) (roC (hh.bsepH 1 Y) (roR hh 0 Y (roR hh 1 Y roN)))))) hna0 hqa0 hla0 hna1 hqa1 hla1 (⟨fun a w => call120 a w, (fun p r hr w hT => clRet (z6 p s0.strips s0.carried l_2 l_1.1 qa0 na0 ca0 qa1 na1 ca1 (.map (some l_1.2)) w (HVstart hT) hna0 hqa0 hla0 hna1 hqa1 hla1 hr))⟩ : ClOK Tryz.prog 120 #[] #[ptr l_2 0] ([(l_2, 0, [.func (.func 83) #[ptr l_1.1 0] #[]]), (l_1.1, 0, [.slice qa0 na0 ca0, .slice qa1 na1 ca1, .map (some l_1.2)]), (aB qa0, aO qa0, RSt.enc s0.strips), (aB qa1, aO qa1, RSp.enc s0.carried)]) (fun x : Pair => [.agg #[.int .i64 x.tenant, .int .i64 x.strip]]) (fun x : Int => .int .i64 x) (fun p : Pair => jU p s0.strips s0.carried)) h11) (fun l_3 h12 => ?_)
   have h13 := h12
   refine jT (S' := [_, _, _, _, _]) (vs' := [_]) [0, 1, 2, 3, 4] [0] 0 Y Y Y Y (je Y Y (kt Y Y Y (kt Y Y Y ?_)))
   refine ju (fun w => zeroValue30 w) Y (fun b_2 h14 => ?_)
   refine jm Y Y (jE (us := #[_, _]) (cs' := [_, _]) (S' := [_, _, _, _, _, _]) 0 (fun w => sizeOf30 w) Y Y Y Y Y Y Y (jo (jk (jp (je Y Y (jc Y Y Y (fun w _ => Jr (runUnderlying110 w) Y Y) (jo ?_)))))))
   refine Jg Y Y (jp (jc Y Y Y (fun _ _ => jG (vs := []) (cells := [_, _]) Y Y) (jE (us := #[_, _]) (cs' := [_, _]) (S' := [_, _, _, _, _, _]) 4 (fun w => sizeOf28 w) Y Y Y Y Y Y Y (jm Y Y (jo (jw (jf ?_)))))))
   refine kp 3 (kp 3 ?_)
   obtain rfl := sj hm
   refine jn Y (fun w hh => (.cell Y (loadVar_agg (vs := [_, _]) (isAgg28 _) (sizeOf28 _) (hh.cells 4 Y Y)) (.tmp Y .nil))) (fun w hh => ⟨(⟨none, 0, 0, []⟩, ⟨none, 0, 0, []⟩), rfl, ⟨VOK.nil, VOK.nil⟩, hh.se [] [1, 0] 2 Y Y Y rfl⟩)
  replace hm := ocR hm
  refine jT (S' := [_, _, _, _, _]) (vs' := []) [2, 0, 1, 3, 4] [] 0 Y Y Y Y ?_
  refine jd [_] [] Y Y Y Y Y Y Y call58 (fun w hh => kd s0.strips s0.carried t14b (fun p : Pair => jU p s0.strips s0.carried) l_1.1 qa0 na0 ca0 qa1 na1 ca1 l_1.2 120 (#[]) (#[ptr l_2 0]) ([(l_2, 0, [.func (.func 83) #[ptr l_1.1 0] #[]]), (l_1.1, 0, [.slice qa0 na0 ca0, .slice qa1 na1 ca1, .map (some l_1.2)]), (aB qa0, aO qa0, RSt.enc s0.strips), (aB qa1, aO qa1, RSp.enc s0.carried)]) w (HV.callee (S0 := [_]) (vs0 := []) hh (roA (roC (hh.bsepH 1 Y) (roR hh 0 Y (roR hh 1 Y roN))) (roC (hh.bsepH 0 Y) (roC (hh.bsepH 1 Y) (roR hh 0 Y (roR hh 1 Y roN)))))) hna0 hqa0 hla0 hna1 hqa1 hla1 (⟨fun a w => call120 a w, (fun p r hr w hT => clRet (z6 p s0.strips s0.carried l_2 l_1.1 qa0 na0 ca0 qa1 na1 ca1 (.map (some l_1.2)) w (HVstart hT) hna0 hqa0 hla0 hna1 hqa1 hla1 hr))⟩ : ClOK Tryz.prog 120 #[] #[ptr l_2 0] ([(l_2, 0, [.func (.func 83) #[ptr l_1.1 0] #[]]), (l_1.1, 0, [.slice qa0 na0 ca0, .slice qa1 na1 ca1, .map (some l_1.2)]), (aB qa0, aO qa0, RSt.enc s0.strips), (aB qa1, aO qa1, RSp.enc s0.carried)]) (fun x : Pair => [.agg #[.int .i64 x.tenant, .int .i64 x.strip]]) (fun x : Int => .int .i64 x) (fun p : Pair => jU p s0.strips s0.carried)) h11) (fun l_4 h15 => ?_)
  obtain ⟨h16, h17⟩ := h15
  refine jT (S' := [_, _, _, _, _, _]) (vs' := [_, _]) [0, 1, 2, 3, 4, 5] [0, 1] 0 Y Y Y Y (je Y Y (kt Y Y Y (kt Y Y Y ?_)))
  refine ju (fun w => zeroValue30 w) Y (fun b_3 h18 => ?_)
  refine jm Y Y (jE (us := #[_, _]) (cs' := [_, _]) (S' := [_, _, _, _, _, _, _]) 0 (fun w => sizeOf30 w) Y Y Y Y Y Y Y (jo (jk (jp (je Y Y (jc Y Y Y (fun w _ => Jr (runUnderlying110 w) Y Y) (jo ?_)))))))
  refine yr Y Y (jt (ja (jp ?_)))
  refine ju (fun w => zeroValue28 w) Y (fun b_4 h19 => ?_)
  refine j3 (je Y Y ?_)
  obtain ⟨t32, h20, hm⟩ := bindO hm
  refine jd [] [] Y Y Y Y Y Y Y call60 (fun w hh => jaU t25b.t12 l_4.1 (qA l_4.2.2.q) l_4.2.2.n l_4.2.2.cap w (HV.callee (S0 := []) (vs0 := []) hh (roC (bsep (hh.bseg 3 Y)) (roC (hh.vsepA 1 Y h17) roN))) (vlen RWay h17 Y) (AOK.q (vne h17)) (h17).hle h20) (fun l_5 h21 => ?_)
  have h22 := h21
  refine zG RI (l := (List.replicate 12 0 : (List Int))) (k := 12) (fun w => zeroValue118 w) Y Y Y (fun b_5 h23 h24 => ?_)
  refine Z1 RI (S' := [_, _, _, _, _, _, _, _, _]) 0 (fun w => sizeOf118 w) Y Y Y h24 h22 Y Y (jo (jk (jp (jM 0 runUnderlying25 Y sizeOf22 Y Y (jS 8 isAgg22 Y Y Y Y (jc Y Y Y (fun w _ => jB hna0 (runUnderlying22 w) Y) (je Y Y ?_)))))))
  refine jo (kp 3 ?_)
  obtain ⟨o, h25, h26⟩ := bindO hm
  refine jD (ι := VL) (fun l_6 => VOK 1 l_6.n l_6.cap (RI.enc o) l_6.sp l_6.q) (fun l_6 => [(1, ptr b 0), (2, ptr b_1 0), (8, ptr b_4 0), (9, ptr b_5 0)]) (fun l_6 => [(b_5, .cells (RI.enc t32).toArray 118 (0, 0)), kc b_4 #[sL l_6, slv none 0 0] 28, kc b_3 #[.bool t25b.r1.tenants, sL l_4.2.1] 30, (l_1.2, gobj (kR RPr) kB t14b), kc l_4.1 #[sL l_4.2.2] 154, kc l_2 #[.func (.func 83) #[ptr l_1.1 0] #[]] 135, kc l_1.1 #[.slice qa0 na0 ca0, .slice qa1 na1 ca1, .map (some l_1.2)] 144, kc b_1 #[slv none 0 0, slv none 0 0] 28, kc b #[.slice qa0 na0 ca0, .slice qa1 na1 ca1] 25]) (fun l_6 => [vL 3 l_6 (RI.enc o), vL 3 l_4.2.1 (RI.enc t25b.r1.of_), vL 156 l_4.2.2 (RWay.enc t25b.t12)]) ?_ ?_
  ·replace hm := h25
   refine jl ?_
   refine jF (ι := VL) hm (fun s l_7 => VOK 1 l_7.n l_7.cap (RI.enc s.out8_strips) l_7.sp l_7.q) (fun s l_7 => [(1, ptr b 0), (2, ptr b_1 0), (8, ptr b_4 0), (9, ptr b_5 0), (35, .int .i64 (s0.strips.length : Int)), (36, .int .i64 s.t36)]) (fun s l_7 => [(b_5, .cells (RI.enc t32).toArray 118 (0, 0)), kc b_4 #[sL l_7, slv none 0 0] 28, kc b_3 #[.bool t25b.r1.tenants, sL l_4.2.1] 30, (l_1.2, gobj (kR RPr) kB t14b), kc l_4.1 #[sL l_4.2.2] 154, kc l_2 #[.func (.func 83) #[ptr l_1.1 0] #[]] 135, kc l_1.1 #[.slice qa0 na0 ca0, .slice qa1 na1 ca1, .map (some l_1.2)] 144, kc b_1 #[slv none 0 0, slv none 0 0] 28, kc b #[.slice qa0 na0 ca0, .slice qa1 na1 ca1] 25]) (fun s l_7 => [vL 3 l_7 (RI.enc s.out8_strips), vL 3 l_4.2.1 (RI.enc t25b.r1.of_), vL 156 l_4.2.2 (RWay.enc t25b.t12)]) ⟨none, 0, 0, []⟩ (VOK.nil) (sE Y) (fun w hh => hh) (fun s l_7 r hpl hm h29 => ?_)
   have h28 := hpl
   unfold Jb at hm
   refine jp (q8 Y Y Y (jo (jk ?_)))
   refine jq Y (fun h30 => ?_) (fun h30 => ?_)
   ·replace hm := ifD h30 hm
    refine jt (ja (jk (jl (jp (je Y Y (jm Y Y (jo ?_)))))))
    refine jV (some 12) (.free 0 (.hoist 1 (.free 2 (.hoist 3 (.free 4 (.free 5 (.free 6 (.hoist 7 (.free 8 (.one 9 (.one 10 (.free 11 (.last 12 .done))))))))))))) (HV _ _ [(b_5, .cells (RI.enc t32).toArray 118 (0, 0)), kc b_4 #[sL l_7, slv none 0 0] 28, kc b_3 #[.bool t25b.r1.tenants, sL l_4.2.1] 30, (l_1.2, gobj (kR RPr) kB t14b), kc l_4.1 #[sL l_4.2.2] 154, kc l_2 #[.func (.func 83) #[ptr l_1.1 0] #[]] 135, kc l_1.1 #[.slice qa0 na0 ca0, .slice qa1 na1 ca1, .map (some l_1.2)] 144, kc b_1 #[slv none 0 0, slv none 0 0] 28, kc b #[.slice qa0 na0 ca0, .slice qa1 na1 ca1] 25] [vL 3 l_4.2.1 (RI.enc t25b.r1.of_), vL 156 l_4.2.2 (RWay.enc t25b.t12)] _) Y (by decide +kernel) (fun w k hh => hh.draw k) (hsE [0, 1, 2, 3, 4, 5, 6, 7, 8] [1, 2] 0 Y Y Y Y) ?_
    refine kF 0 runUnderlying28 sizeOf26 Y Y Y Y (qs 1 isAgg26 Y Y Y Y Y ?_)
    obtain ⟨t41, h31, hm⟩ := bindO hm
    refine ji Y Y Y Y (fun w _ => JQ h31 h22 (runUnderlying118 w) (sizeOf3 w) Y Y) (jA Y Y Y Y (fun w hh => jW RI 0 h31 (isAgg3 w) Y (hh.bsegA 0 Y) Y (Nat.add_zero _).symm) (kb Y Y Y ?_))
    obtain ⟨t44, h32, hm⟩ := bindO hm
    refine ji Y Y Y Y (fun _ _ => zD h32 Y Y) ?_
    obtain ⟨t45, h33, hm⟩ := bindO hm
    refine ji Y Y Y Y (fun w _ => JQ h33 h22 (runUnderlying118 w) (sizeOf3 w) Y Y) (jA Y Y Y Y (fun w hh => jW RI 0 h33 (isAgg3 w) Y (hh.bsegA 0 Y) Y (Nat.add_zero _).symm) ?_)
    obtain ⟨t47, h34, hm⟩ := bindO hm
    refine ji Y Y Y Y (fun _ _ => qp h34 Y Y) (jJ Y ?_)
    refine kU RI [t47] (ps := [(0, _)]) (cells := [_]) (fun w => runUnderlying26 w) (fun w => sizeOf3 w) (fun w => zeroValue3 w) Y Y Y Y Y Y Y Y (fun L h35 => ?_)
    refine jr (hsE [0, 1, 2, 3, 4, 5, 6, 7, 8] [2, 3] 0 Y Y Y Y) (jJ Y ?_)
    obtain ⟨t49, h36, hm⟩ := bindO hm
    refine yS RI 1 h36 underlying26 zZ Y Y Y Y Y h28 Y Y (vlen RI h35 Y) (AOK.q (vne h35)) (fun w hh => (hh.vsegA 0 Y h35)) Y (fun L_1 h37 h37n => ?_)
    refine jT (S' := [_, _, _, _, _, _, _, _, _]) (vs' := [_, _, _, _]) [0, 1, 2, 3, 4, 5, 6, 7, 8] [0, 1, 2, 3] 0 Y Y Y Y (jr (hsE [0, 1, 2, 3, 4, 5, 6, 7, 8] [2, 3] 0 Y Y Y Y) (kF 0 runUnderlying28 sizeOf26 Y Y Y Y (Qn Y (y4 (cs' := #[_, _]) (S' := [_, _, _, _, _, _, _, _, _]) 1 (fun w => sizeOf26 w) Y Y Y Y Y Y Y (Kb (jI (js ?_)))))))
    refine ja (jh ?_)
    obtain ⟨t51, h38, hm⟩ := bindO hm
    refine kS h38 Y Y Y (je Y Y (jv ?_))
    obtain rfl := sj hm
    refine ja ?_
    exact jy _ L_1 Y (h37) (sE Y) (hsE [0, 1, 2, 3, 4, 5, 6, 7, 8] [1, 2, 3] 0 Y Y Y Y)
   replace hm := ifE h30 hm
   refine jO (jj (jj (jC ?_)))
   obtain rfl := sj hm
   have hbo := h29 _ Y
   subst hbo
   exact jg l_7 (h28) (sE Y) (fun w hh => hh)
  intro l_6 hj
  have h27 := hj
  replace hm := h26
  refine ja (jk (jp (jM 1 runUnderlying25 Y sizeOf23 Y Y (jS 8 isAgg23 Y Y Y Y (jc Y Y Y (fun w _ => jB hna1 (runUnderlying23 w) Y) (je Y Y (jo ?_)))))))
  refine kp 3 ?_
  obtain ⟨o_1, h39, h40⟩ := bindO hm
  refine jD (ι := VL) (fun l_8 => VOK 1 l_8.n l_8.cap (RI.enc o_1) l_8.sp l_8.q) (fun l_8 => [(2, ptr b_1 0), (8, ptr b_4 0)]) (fun l_8 => [(b_5, .cells (RI.enc t32).toArray 118 (0, 0)), kc b_4 #[sL l_6, sL l_8] 28, kc b_3 #[.bool t25b.r1.tenants, sL l_4.2.1] 30, (l_1.2, gobj (kR RPr) kB t14b), kc l_4.1 #[sL l_4.2.2] 154, kc l_2 #[.func (.func 83) #[ptr l_1.1 0] #[]] 135, kc l_1.1 #[.slice qa0 na0 ca0, .slice qa1 na1 ca1, .map (some l_1.2)] 144, kc b_1 #[slv none 0 0, slv none 0 0] 28, kc b #[.slice qa0 na0 ca0, .slice qa1 na1 ca1] 25]) (fun l_8 => [vL 3 l_6 (RI.enc o), vL 3 l_8 (RI.enc o_1), vL 3 l_4.2.1 (RI.enc t25b.r1.of_), vL 156 l_4.2.2 (RWay.enc t25b.t12)]) ?_ ?_
  ·replace hm := h39
   refine jl ?_
   refine jF (ι := VL) hm (fun s_1 l_9 => VOK 1 l_9.n l_9.cap (RI.enc s_1.out8_tenants) l_9.sp l_9.q) (fun s_1 l_9 => [(2, ptr b_1 0), (8, ptr b_4 0), (9, ptr b_5 0), (54, .int .i64 (s0.carried.length : Int)), (55, .int .i64 s_1.t55)]) (fun s_1 l_9 => [(b_5, .cells (RI.enc t32).toArray 118 (0, 0)), kc b_4 #[sL l_6, sL l_9] 28, kc b_3 #[.bool t25b.r1.tenants, sL l_4.2.1] 30, (l_1.2, gobj (kR RPr) kB t14b), kc l_4.1 #[sL l_4.2.2] 154, kc l_2 #[.func (.func 83) #[ptr l_1.1 0] #[]] 135, kc l_1.1 #[.slice qa0 na0 ca0, .slice qa1 na1 ca1, .map (some l_1.2)] 144, kc b_1 #[slv none 0 0, slv none 0 0] 28, kc b #[.slice qa0 na0 ca0, .slice qa1 na1 ca1] 25]) (fun s_1 l_9 => [vL 3 l_6 (RI.enc o), vL 3 l_9 (RI.enc s_1.out8_tenants), vL 3 l_4.2.1 (RI.enc t25b.r1.of_), vL 156 l_4.2.2 (RWay.enc t25b.t12)]) ⟨none, 0, 0, []⟩ (VOK.nil) (sE Y) (hsE [0, 1, 2, 3, 4, 5, 6, 7, 8] [1, 0, 2, 3] 0 Y Y Y Y) (fun s_1 l_9 r_1 hpl hm h43 => ?_)
   have h42 := hpl
   unfold z5 at hm
   refine jp (q8 Y Y Y (jo (jk ?_)))
   refine jq Y (fun h44 => ?_) (fun h44 => ?_)
   ·replace hm := ifD h44 hm
    refine jt (ja (jk (jl (jp (je Y Y (jm Y Y (jo ?_)))))))
    refine jV (some 12) (.free 0 (.hoist 1 (.free 2 (.free 3 (.free 4 (.hoist 5 (.free 6 (.hoist 7 (.free 8 (.one 9 (.one 10 (.free 11 (.last 12 .done))))))))))))) (HV _ _ [(b_5, .cells (RI.enc t32).toArray 118 (0, 0)), kc b_4 #[sL l_6, sL l_9] 28, kc b_3 #[.bool t25b.r1.tenants, sL l_4.2.1] 30, (l_1.2, gobj (kR RPr) kB t14b), kc l_4.1 #[sL l_4.2.2] 154, kc l_2 #[.func (.func 83) #[ptr l_1.1 0] #[]] 135, kc l_1.1 #[.slice qa0 na0 ca0, .slice qa1 na1 ca1, .map (some l_1.2)] 144, kc b_1 #[slv none 0 0, slv none 0 0] 28, kc b #[.slice qa0 na0 ca0, .slice qa1 na1 ca1] 25] [vL 3 l_6 (RI.enc o), vL 3 l_4.2.1 (RI.enc t25b.r1.of_), vL 156 l_4.2.2 (RWay.enc t25b.t12)] _) Y (by decide +kernel) (fun w k hh => hh.draw k) (hsE [0, 1, 2, 3, 4, 5, 6, 7, 8] [0, 2, 3] 0 Y Y Y Y) ?_
    refine kF 1 runUnderlying28 sizeOf26 Y Y Y Y (qs 1 isAgg26 Y Y Y Y Y (kb Y Y Y ?_))
    obtain ⟨t61, h45, hm⟩ := bindO hm
    refine ji Y Y Y Y (fun _ _ => zD h45 Y Y) ?_
    obtain ⟨t62, h46, hm⟩ := bindO hm
    refine ji Y Y Y Y (fun w _ => JQ h46 h22 (runUnderlying118 w) (sizeOf3 w) Y Y) (jA Y Y Y Y (fun w hh => jW RI 0 h46 (isAgg3 w) Y (hh.bsegA 0 Y) Y (Nat.add_zero _).symm) ?_)
    obtain ⟨t64, h47, hm⟩ := bindO hm
    refine ji Y Y Y Y (fun w _ => JQ h47 h22 (runUnderlying118 w) (sizeOf3 w) Y Y) (jA Y Y Y Y (fun w hh => jW RI 0 h47 (isAgg3 w) Y (hh.bsegA 0 Y) Y (Nat.add_zero _).symm) ?_)
    obtain ⟨t66, h48, hm⟩ := bindO hm
    refine ji Y Y Y Y (fun _ _ => qp h48 Y Y) (jJ Y ?_)
    refine kU RI [t66] (ps := [(0, _)]) (cells := [_]) (fun w => runUnderlying26 w) (fun w => sizeOf3 w) (fun w => zeroValue3 w) Y Y Y Y Y Y Y Y (fun L_2 h49 => ?_)
    refine jr (hsE [0, 1, 2, 3, 4, 5, 6, 7, 8] [1, 3, 4] 0 Y Y Y Y) (jJ Y ?_)
    obtain ⟨t68, h50, hm⟩ := bindO hm
    refine yS RI 2 h50 underlying26 zZ Y Y Y Y Y h42 Y Y (vlen RI h49 Y) (AOK.q (vne h49)) (fun w hh => (hh.vsegA 0 Y h49)) Y (fun L_3 h51 h51n => ?_)
    refine jT (S' := [_, _, _, _, _, _, _, _, _]) (vs' := [_, _, _, _, _]) [0, 1, 2, 3, 4, 5, 6, 7, 8] [0, 1, 2, 3, 4] 0 Y Y Y Y (jr (hsE [0, 1, 2, 3, 4, 5, 6, 7, 8] [1, 3, 4] 0 Y Y Y Y) (kF 1 runUnderlying28 sizeOf26 Y Y Y Y (Qn Y (y4 (cs' := #[_, _]) (S' := [_, _, _, _, _, _, _, _, _]) 1 (fun w => sizeOf26 w) Y Y Y Y Y Y Y (Kb (jI (js ?_)))))))
    refine ja (jh ?_)
    obtain ⟨t70, h52, hm⟩ := bindO hm
    refine kS h52 Y Y Y (je Y Y (jv ?_))
    obtain rfl := sj hm
    refine ja ?_
    exact jy _ L_3 Y (h51) (sE Y) (hsE [0, 1, 2, 3, 4, 5, 6, 7, 8] [1, 2, 3, 4] 0 Y Y Y Y)
   replace hm := ifE h44 hm
   refine jO (jj (jj (jC ?_)))
   obtain rfl := sj hm
   have hbo := h43 _ Y
   subst hbo
   exact jg l_9 (h42) (sE Y) (fun w hh => hh)
  intro l_8 hj
  have h41 := hj
  replace hm := h40
  refine ja (jp (qh [_, _] 1 isAgg28 sizeOf28 Y Y Y Y (jE (us := #[_, _]) (cs' := [_, _]) (S' := [_, _, _, _, _, _, _, _, _]) 7 (fun w => sizeOf28 w) Y Y Y Y Y Y Y (jm Y Y (jo (jw ?_))))))
  obtain rfl := sj hm
  refine jn Y (fun w hh => (.cell Y (loadVar_agg (vs := [_, _]) (isAgg28 _) (sizeOf28 _) (hh.cells 7 Y Y)) (.tmp Y .nil))) (fun w hh => ⟨(l_6, l_8), rfl, ⟨h27, h41⟩, hh.se [] [0, 1] 2 Y Y Y rfl⟩)
def kJ (s10 : (List Int)) (s21 : (List Int)) (s : Int) : Option (Int ⊕ (Unit ⊕ Bool)) :=
 if s < (s10.length : Int) then
 ((ix s10 s).bind fun t18 =>
 (ix s21 s).bind fun t22 =>
 if t18 = t22 then
 ((addc s 1).bind fun t25 =>
 some (.inl t25)) else
 (some (.inr (.inr false)))) else
 (some (.inr (.inl ())))
def qB (s10 : (List Int)) (s21 : (List Int)) : Option Bool :=
 if (s10.length : Int) = (s21.length : Int) then
 ((iterM FU (kJ s10 s21) 0).bind fun o =>
 oc o (fun j => some true) (fun r_1 => some r_1)) else
 (some false)
theorem Yo (s10 : (List Int)) (s21 : (List Int)) (qa0 : Option Addr) (na0 ca0 : Nat) (qa1 : Option Addr) (na1 ca1 : Nat) (w : World) (hw : HV w (keys [] []) [] [] [(aB qa0, aO qa0, RI.enc s10), (aB qa1, aO qa1, RI.enc s21)] w) (hna0 : s10.length = na0) (hqa0 : AOK na0 qa0) (hla0 : na0 ≤ ca0) (hna1 : s21.length = na1) (hqa1 : AOK na1 qa1) (hla1 : na1 ≤ ca1) {res : Bool} (hm : qB s10 s21 = some res) :
    Calls Tryz.prog 78 #[.slice qa0 na0 ca0, .slice qa1 na1 ca1] w (fun en w' => ∃ l : Unit, en = .returned (.bool res) ∧ (True) ∧ HV w (keys [] []) [] [] [] w') := by
  unfold qB at hm
  refine kj func78 Y ntmps78 Y (e := [(0, _), (1, _)]) Y hw (jp (jm Y Y (jo (jk (jp (je Y Y (jc Y Y Y (fun w _ => jB hna0 (runUnderlying26 w) Y) ?_)))))))
  refine je Y Y (jc Y Y Y (fun w _ => jB hna1 (runUnderlying26 w) Y) (jc Y Y Y (fun _ _ => k5 Y Y) (jo ?_)))
  refine jq Y (fun h1 => ?_) (fun h1 => ?_)
  ·replace hm := ifF (of_ndec_true h1) hm
   refine jp (jm Y Y (jo (jw (jf ?_))))
   obtain rfl := sj hm
   refine jn Y (fun w hh => (.tmp Y .nil)) (fun w hh => ⟨(), rfl, trivial, hh.se [] [] 2 Y Y Y rfl⟩)
  replace hm := ifT (of_ndec_false h1) hm
  refine jt (ja (jk (jp (je Y Y (jc Y Y Y (fun w _ => jB hna0 (runUnderlying26 w) Y) (je Y Y (jo ?_)))))))
  obtain ⟨o, h2, h3⟩ := bindO hm
  refine jD (ι := Unit) (fun j => o = .inl j) (fun j => []) (fun j => []) (fun j => []) ?_ ?_
  ·replace hm := h2
   refine jl ?_
   refine jF (ι := Unit) hm (fun s l => True) (fun s l => [(0, .slice qa0 na0 ca0), (1, .slice qa1 na1 ca1), (12, .int .i64 (s10.length : Int)), (13, .int .i64 s)]) (fun s l => []) (fun s l => []) () (trivial) (sE Y) (fun w hh => hh) (fun s l r hpl hm h4 => ?_)
   unfold kJ at hm
   refine jp (q8 Y Y Y (jo (jk ?_)))
   refine jq Y (fun h5 => ?_) (fun h5 => ?_)
   ·replace hm := ifD h5 hm
    refine jt (ja (jk (jl (jp (je Y Y (jm Y Y (jo ?_)))))))
    refine jk ?_
    refine jV none (.free 0 (.free 1 (.free 2 (.hoist 3 (.free 4 (.free 5 (.free 6 (.hoist 7 (.free 8 .done))))))))) _ Y (by decide +kernel) (fun w k hh => hh.draw k) (fun w hh => hh) ?_
    refine kb Y Y Y (kb Y Y Y ?_)
    obtain ⟨t18, h6, hm⟩ := bindO hm
    refine ji Y Y Y Y (fun w _ => jY h6 (runUnderlying26 w) (sizeOf3 w) Y Y hna0 hqa0) (jA Y Y Y Y (fun w hh => jW RI 0 h6 (isAgg3 w) Y (hh.seg 0 Y) Y (Nat.add_zero _).symm) (kb Y Y Y (kb Y Y Y ?_)))
    obtain ⟨t22, h7, hm⟩ := bindO hm
    refine ji Y Y Y Y (fun w _ => jY h7 (runUnderlying26 w) (sizeOf3 w) Y Y hna1 hqa1) (jA Y Y Y Y (fun w hh => jW RI 0 h7 (isAgg3 w) Y (hh.seg 1 Y) Y (Nat.add_zero _).symm) (ji Y Y Y Y (fun _ _ => k5 Y Y) (jI (ja ?_))))
    refine jq Y (fun h8 => ?_) (fun h8 => ?_)
    ·replace hm := ifF (of_ndec_true h8) hm
     refine jp (jm Y Y (jo (jw (jz (jf (jf (jz ?_)))))))
     obtain rfl := sj hm
     have hbo := h4 _ Y
     subst hbo
     refine jf ?_
     replace hm := ocR h3
     refine jf ?_
     obtain rfl := sj hm
     refine jn Y (fun w hh => (.tmp Y .nil)) (fun w hh => ⟨(), rfl, trivial, hh.se [] [] 2 Y Y Y rfl⟩)
    replace hm := ifT (of_ndec_false h8) hm
    refine jt (js (ja (jh ?_)))
    obtain ⟨t25, h9, hm⟩ := bindO hm
    refine kS h9 Y Y Y (je Y Y (jv ?_))
    obtain rfl := sj hm
    refine ja ?_
    exact jy _ () Y (trivial) (sE Y) (fun w hh => hh)
   replace hm := ifE h5 hm
   refine jO (jj (jj (jC ?_)))
   obtain rfl := sj hm
   have hbo := h4 _ Y
   subst hbo
   exact jg () (Y) (.nil) (fun w hh => hh)
  intro j hj
  have h10 := hj
  subst h10
  replace hm := ocL h3
  refine ja (jp (jm Y Y (jo (jw ?_))))
  obtain rfl := sj hm
  refine jn Y (fun w hh => (.tmp Y .nil)) (fun w hh => ⟨(), rfl, trivial, hh.se [] [] 2 Y Y Y rfl⟩)
def yj (a0 : (List Int)) (b1 : (List Int)) : Option Bool :=
 (qB a0 b1).bind fun t7 =>
 some t7
theorem Ye (a0 : (List Int)) (b1 : (List Int)) (qa0 : Option Addr) (na0 ca0 : Nat) (qa1 : Option Addr) (na1 ca1 : Nat) (w : World) (hw : HV w (keys [] []) [] [] [(aB qa0, aO qa0, RI.enc a0), (aB qa1, aO qa1, RI.enc b1)] w) (hna0 : a0.length = na0) (hqa0 : AOK na0 qa0) (hla0 : na0 ≤ ca0) (hna1 : b1.length = na1) (hqa1 : AOK na1 qa1) (hla1 : na1 ≤ ca1) {res : Bool} (hm : yj a0 b1 = some res) :
    Calls Tryz.prog 22 #[.slice qa0 na0 ca0, .slice qa1 na1 ca1] w (fun en w' => ∃ l : Unit, en = .returned (.bool res) ∧ (True) ∧ HV w (keys [] []) [] [] [] w') := by
  unfold yj at hm
  refine kj func22 Y ntmps22 Y (e := [(0, _), (1, _)]) Y hw (jp (jm Y Y (j3 (je Y Y (je Y Y ?_)))))
  obtain ⟨t7, h1, hm⟩ := bindO hm
  refine jd [] [] Y Y Y Y Y Y Y call78 (fun w hh => Yo a0 b1 qa0 na0 ca0 qa1 na1 ca1 w (HV.callee (S0 := []) (vs0 := []) hh (roR hh 0 Y (roR hh 1 Y roN))) hna0 hqa0 hla0 hna1 hqa1 hla1 h1) (fun l h2 => ?_)
  refine jm Y Y (jo (jw ?_))
  obtain rfl := sj hm
  refine jn Y (fun w hh => (.tmp Y .nil)) (fun w hh => ⟨(), rfl, trivial, hh.se [] [] 2 Y Y Y rfl⟩)
end Go.Proofs.Ws

namespace Go.Proofs.Ws
set_option maxHeartbeats 4000000
set_option maxRecDepth 100000
open Go Go.Fw Go.Gx Go.Sp
open Tryz
set_option linter.unusedVariables false
structure Yc where
  own11 : Scalps
  x12 : Scalps
def Jf : Plan := (.one 1 (.one 3 (.one 6 (.one 7 .done))))
def Jh : Plan := (.br (.alt 3 (.one 4 (.one 6 (.one 7 .done))) (.alt 4 (.one 3 (.one 6 (.one 7 .done))) .nil)))
def Yi : Plan := (.br (.alt 1 Jh (.alt 4 Jf .nil)))
def Ja : Plan := (.br (.alt 3 (.one 5 (.one 6 (.one 7 .done))) (.alt 5 (.one 3 (.one 6 (.one 7 .done))) .nil)))
def Yg : Plan := (.br (.alt 1 Ja (.alt 5 Jf .nil)))
def Yj : Plan := (.br (.alt 4 (.one 5 (.one 6 (.one 7 .done))) (.alt 5 (.one 4 (.one 6 (.one 7 .done))) .nil)))
def Yh : Plan := (.br (.alt 3 Yj (.alt 4 Ja (.alt 5 Jh .nil))))
structure kv where
  a16 : Int
  b17 : Int
  c18 : Int
  d19 : Int
  lo20 : Int
  proved21 : Int
  lacks22 : Int
  want23_strips : (List Strip)
  want23_carried : (List Span)
structure KH where
  a16 : Int
  lo20 : Int
def Jq (s0 : Scalps) (m1 : Marks) (l2 : Lack) (tenant3 : Int) (carried4 : Span) : Option Bool :=
 ((QY s0).bind fun t36 =>
 if t36 = true then
 (some true) else
 (if 12 < (m1.strips.length : Int) then
 (some true) else
 (if 12 < (m1.tenants.length : Int) then
 (some true) else
 (some (decide (12 < (l2.of_.length : Int))))))).bind fun o =>
 if o = true then
 ((m_l_awake).bind fun t55 =>
 some t55) else
 (((Ym s0).bind fun t57 =>
 (KJ s0).bind fun t59 =>
 some (⟨t57, t59⟩ : Yc)).bind fun o_1 =>
 ((zj m1.strips).bind fun t62 =>
 (zj m1.tenants).bind fun t65 =>
 some (⟨t62, t65⟩ : Marks)).bind fun o_2 =>
 (zj l2.of_).bind fun t69 =>
 (Qr o_1.x12).bind fun t71 =>
 (if t71 = 0 then
 (((J4 o_1.x12 (-1) (-1)).bind fun t81 =>
 (JB o_1.x12 t81).bind fun t82 =>
 if (!t82.r2) = true then
 (some (⟨7, t82.r0⟩ : KH)) else
 (some (⟨t71, t82.r0⟩ : KH))).bind fun o_4 =>
 (J3 o_1.x12 m1.strips m1.tenants).bind fun t94 =>
 (Qz o_1.x12 l2.tenants l2.of_).bind fun t103 =>
 (if tenant3 < 0 then
 (some true) else
 (some (decide ((s0.carried.length : Int) ≤ tenant3)))).bind fun o_5 =>
 if o_5 = true then
 (some (⟨o_4.a16, t94.r1, t103.r1, 1, o_4.lo20, t94.r0, t103.r0, [], []⟩ : kv)) else
 ((if carried4.lo < 0 then
 (some true) else
 (if 30 < carried4.lo then
 (some true) else
 (if carried4.hi < 0 then
 (some true) else
 (some (decide (30 < carried4.hi)))))).bind fun o_6 =>
 if o_6 = true then
 (some (⟨o_4.a16, t94.r1, t103.r1, 3, o_4.lo20, t94.r0, t103.r0, [], []⟩ : kv)) else
 (if carried4.hi < carried4.lo then
 (some (⟨o_4.a16, t94.r1, t103.r1, 4, o_4.lo20, t94.r0, t103.r0, [], []⟩ : kv)) else
 ((ix s0.carried tenant3).bind fun t172 =>
 (ix s0.carried tenant3).bind fun t181 =>
 if (min carried4.hi t181.hi) < (max carried4.lo t172.lo) then
 (some (⟨o_4.a16, t94.r1, t103.r1, 7, o_4.lo20, t94.r0, t103.r0, [], []⟩ : kv)) else
 ((Ym s0).bind fun t107 =>
 (ix s0.carried tenant3).bind fun t116 =>
 (ix s0.carried tenant3).bind fun t125 =>
 (ix t107.carried tenant3).bind fun t130 =>
 (some (t107.carried.set (Int.toNat tenant3) (⟨(max carried4.lo t116.lo), (min carried4.hi t125.hi)⟩ : Span))).bind fun r0_carried =>
 some (⟨o_4.a16, t94.r1, t103.r1, t71, o_4.lo20, t94.r0, t103.r0, t107.strips, r0_carried⟩ : kv)))))) else
 (some (⟨t71, t71, t71, t71, 0, 0, 0, [], []⟩ : kv))).bind fun o_3 =>
 (Ko o_1.own11).bind fun t188 =>
 (zo o_1.own11 o_2).bind fun t194 =>
 (zK o_1.own11 (⟨l2.tenants, t69⟩ : Lack)).bind fun t203 =>
 (JA o_1.own11 tenant3 carried4).bind fun t210 =>
 (if t188.r1 = o_3.a16 then
 (if t194.r1 = o_3.b17 then
 (if t203.r1 = o_3.c18 then
 (if t210.r1 = o_3.d19 then
 (if t194.r0 = o_3.proved21 then
 (if t203.r0 = o_3.lacks22 then
 ((KW t210.r0 (⟨o_3.want23_strips, o_3.want23_carried⟩ : Scalps)).bind fun t244 =>
 if (!t244) = true then
 (some true) else
 (if o_3.a16 = 0 then
 (some false) else
 ((addc (t188.r0.strips.length : Int) (t188.r0.tenants.length : Int)).bind fun t257 =>
 some (decide (0 < t257))))) else
 (some true)) else
 (some true)) else
 (some true)) else
 (some true)) else
 (some true)) else
 (some true)).bind fun o_7 =>
 if o_7 = true then
 (some false) else
 ((if o_3.a16 = 0 then
 ((J3 o_1.x12 t188.r0.strips t188.r0.tenants).bind fun t269 =>
 (if t269.r1 = 0 then
 (some (!decide (t269.r0 = o_3.lo20))) else
 (some true)).bind fun o_9 =>
 if o_9 = true then
 (some (.inr false)) else
 (some (.inl ()))) else
 (some (.inl ()))).bind fun o_8 =>
 oc o_8 (fun j => (some (List.replicate t210.r0.strips.length (⟨0, (⟨0, 0⟩ : Span), (⟨0, 0⟩ : Span), (⟨0, 0⟩ : Span)⟩ : Strip))).bind fun r0_strips =>
 (some (List.replicate t210.r0.carried.length (⟨0, 0⟩ : Span))).bind fun r0_carried_1 =>
 ((KW o_1.own11 s0).bind fun t285 =>
 if t285 = true then
 ((yj o_2.strips m1.strips).bind fun t291 =>
 if t291 = true then
 ((yj o_2.tenants m1.tenants).bind fun t298 =>
 if t298 = true then
 ((yj t69 l2.of_).bind fun t304 =>
 if t304 = true then
 ((m_l_awake).bind fun t307 =>
 some t307) else
 (some false)) else
 (some false)) else
 (some false)) else
 (some false)).bind fun o_10 =>
 some o_10) (fun r => some r)))
theorem Y1 (s0 : Scalps) (m1 : Marks) (l2 : Lack) (tenant3 : Int) (carried4 : Span) (qa0 : Option Addr) (na0 ca0 : Nat) (qa1 : Option Addr) (na1 ca1 : Nat) (qa2 : Option Addr) (na2 ca2 : Nat) (qa3 : Option Addr) (na3 ca3 : Nat) (qa4 : Option Addr) (na4 ca4 : Nat) (w : World) (hw : HV w (keys [] []) [] [] [(aB qa0, aO qa0, RSt.enc s0.strips), (aB qa1, aO qa1, RSp.enc s0.carried), (aB qa2, aO qa2, RI.enc m1.strips), (aB qa3, aO qa3, RI.enc m1.tenants), (aB qa4, aO qa4, RI.enc l2.of_)] w) (hna0 : s0.strips.length = na0) (hqa0 : AOK na0 qa0) (hla0 : na0 ≤ ca0) (hna1 : s0.carried.length = na1) (hqa1 : AOK na1 qa1) (hla1 : na1 ≤ ca1) (hna2 : m1.strips.length = na2) (hqa2 : AOK na2 qa2) (hla2 : na2 ≤ ca2) (hna3 : m1.tenants.length = na3) (hqa3 : AOK na3 qa3) (hla3 : na3 ≤ ca3) (hna4 : l2.of_.length = na4) (hqa4 : AOK na4 qa4) (hla4 : na4 ≤ ca4) {res : Bool} (hm : Jq s0 m1 l2 tenant3 carried4 = some res) :
    Calls Tryz.prog 3 #[.agg #[.slice qa0 na0 ca0, .slice qa1 na1 ca1], .agg #[.slice qa2 na2 ca2, .slice qa3 na3 ca3], .agg #[.bool l2.tenants, .slice qa4 na4 ca4], .int .i64 tenant3, .agg #[.int .i64 carried4.lo, .int .i64 carried4.hi]] w (fun en w' => ∃ l : Unit, en = .returned (.bool res) ∧ (True) ∧ HV w (keys [] []) [] [] [] w') := by
  unfold Jq at hm
  refine kj func3 Y ntmps3 Y (e := [(0, _), (1, _), (2, _), (3, _), (4, _)]) Y hw (jp ?_)
  refine jK Y Y (fun b h1 => ?_)
  refine jK Y Y (fun b_1 h2 => ?_)
  refine jK Y Y (fun b_2 h3 => ?_)
  refine jK Y Y (fun b_3 h4 => ?_)
  refine jm Y Y (jo (jk (jk ?_)))
  obtain ⟨o, h5, h6⟩ := bindO hm
  refine jD (ι := Unit) (fun l => True) (fun l => [(3, .int .i64 tenant3), (5, ptr b 0), (6, ptr b_1 0), (7, ptr b_2 0), (9, ptr b_3 0), (54, .bool o)]) (fun l => [kc b_3 #[.int .i64 carried4.lo, .int .i64 carried4.hi] 32, kc b_2 #[.bool l2.tenants, .slice qa4 na4 ca4] 30, kc b_1 #[.slice qa2 na2 ca2, .slice qa3 na3 ca3] 28, kc b #[.slice qa0 na0 ca0, .slice qa1 na1 ca1] 25]) (fun l => []) ?_ ?_
  ·replace hm := h5
   refine jh (qh [_, _] 3 isAgg25 sizeOf25 Y Y Y Y ?_)
   obtain ⟨t36, h7, hm⟩ := bindO hm
   refine jd [] [] Y Y Y Y Y Y Y call7 (fun w hh => jaX s0 qa0 na0 ca0 qa1 na1 ca1 w (HV.callee (S0 := []) (vs0 := []) hh (roR hh 0 Y (roR hh 1 Y roN))) hna0 hqa0 hla0 hna1 hqa1 hla1 h7) (fun l_1 h8 => ?_)
   refine je Y Y ?_
   refine jH 37 Y (fun h9 => ?_) (fun h9 => ?_)
   ·replace hm := ifT (h9) hm
    refine g_k Y Y Y Y (g_k Y Y Y Y (g_k Y Y Y Y (g_k Y Y Y Y (j8 Y Y Y (je Y Y (g_k Y Y Y Y (g_k Y Y Y Y ?_)))))))
    refine g_k Y Y Y Y (g_k Y Y Y Y (j8 Y Y Y (je Y Y (g_k Y Y Y Y (g_k Y Y Y Y (g_k Y Y Y Y (g_k Y Y Y Y ?_)))))))
    refine j8 Y Y Y (jv ?_)
    obtain rfl := sj hm
    exact jg () (trivial) (sE Y) (fun w hh => hh)
   replace hm := ifN h9 hm
   refine jb Y Y (jM 0 runUnderlying28 Y sizeOf26 Y Y (jb Y Y (jS 2 isAgg26 Y Y Y Y (jb Y Y (jc Y Y Y (fun w _ => jB hna2 (runUnderlying26 w) Y) (jb Y Y (jc Y Y Y (fun _ _ => JU Y Y) ?_)))))))
   refine ky Y Y Y (je Y Y ?_)
   refine jH 43 Y (fun h10 => ?_) (fun h10 => ?_)
   ·replace hm := ifD h10 hm
    refine g_k Y Y Y Y (g_k Y Y Y Y (g_k Y Y Y Y (g_k Y Y Y Y (j8 Y Y Y (je Y Y (g_k Y Y Y Y (g_k Y Y Y Y ?_)))))))
    refine g_k Y Y Y Y (g_k Y Y Y Y (j8 Y Y Y (jv ?_)))
    obtain rfl := sj hm
    exact jg () (trivial) (sE Y) (fun w hh => hh)
   replace hm := ifE h10 hm
   refine jb Y Y (jM 1 runUnderlying28 Y sizeOf26 Y Y (jb Y Y (jS 2 isAgg26 Y Y Y Y (jb Y Y (jc Y Y Y (fun w _ => jB hna3 (runUnderlying26 w) Y) (jb Y Y (jc Y Y Y (fun _ _ => JU Y Y) ?_)))))))
   refine ky Y Y Y (je Y Y ?_)
   refine jH 49 Y (fun h11 => ?_) (fun h11 => ?_)
   ·replace hm := ifD h11 hm
    refine g_k Y Y Y Y (g_k Y Y Y Y (g_k Y Y Y Y (g_k Y Y Y Y (j8 Y Y Y (jv ?_)))))
    obtain rfl := sj hm
    exact jg () (trivial) (sE Y) (fun w hh => hh)
   replace hm := ifE h11 hm
   refine jb Y Y (jM 1 runUnderlying30 Y sizeOf26 Y Y (jb Y Y (jS 1 isAgg26 Y Y Y Y (jb Y Y (jc Y Y Y (fun w _ => jB hna4 (runUnderlying26 w) Y) (jb Y Y (jc Y Y Y (fun _ _ => JU Y Y) ?_)))))))
   refine ky Y Y Y (jv ?_)
   obtain rfl := sj hm
   exact jg () (trivial) (sE Y) (fun w hh => hh)
  intro l hj
  replace hm := h6
  refine ja ?_
  refine jq Y (fun h12 => ?_) (fun h12 => ?_)
  ·replace hm := ifT (h12) hm
   refine jp ?_
   obtain ⟨t55, h13, hm⟩ := bindO hm
   refine jd [] [] Y Y Y Y Y Y Y call8 (fun w hh => ZJ  w (HV.callee (S0 := []) (vs0 := []) hh roN)  h13) (fun l_2 h14 => ?_)
   refine jm Y Y (jo (jw (jf ?_)))
   obtain rfl := sj hm
   refine jn Y (fun w hh => (.tmp Y .nil)) (fun w hh => ⟨(), rfl, trivial, hh.se [] [] 5 Y Y Y rfl⟩)
  replace hm := ifN h12 hm
  refine jt (ja (jk ?_))
  obtain ⟨o_1, h15, h16⟩ := bindO hm
  refine jD (ι := Nat × Nat × VL × VL × VL × VL) (fun l_3 => VOK 7 l_3.2.2.1.n l_3.2.2.1.cap (RSt.enc o_1.own11.strips) l_3.2.2.1.sp l_3.2.2.1.q ∧ VOK 2 l_3.2.2.2.1.n l_3.2.2.2.1.cap (RSp.enc o_1.own11.carried) l_3.2.2.2.1.sp l_3.2.2.2.1.q ∧ VOK 7 l_3.2.2.2.2.1.n l_3.2.2.2.2.1.cap (RSt.enc o_1.x12.strips) l_3.2.2.2.2.1.sp l_3.2.2.2.2.1.q ∧ VOK 2 l_3.2.2.2.2.2.n l_3.2.2.2.2.2.cap (RSp.enc o_1.x12.carried) l_3.2.2.2.2.2.sp l_3.2.2.2.2.2.q) (fun l_3 => [(3, .int .i64 tenant3), (5, ptr b 0), (6, ptr b_1 0), (7, ptr b_2 0), (9, ptr b_3 0), (11, ptr l_3.1 0), (12, ptr l_3.2.1 0)]) (fun l_3 => [kc b_3 #[.int .i64 carried4.lo, .int .i64 carried4.hi] 32, kc b_2 #[.bool l2.tenants, .slice qa4 na4 ca4] 30, kc b_1 #[.slice qa2 na2 ca2, .slice qa3 na3 ca3] 28, kc b #[.slice qa0 na0 ca0, .slice qa1 na1 ca1] 25, kc l_3.1 #[sL l_3.2.2.1, sL l_3.2.2.2.1] 25, kc l_3.2.1 #[sL l_3.2.2.2.2.1, sL l_3.2.2.2.2.2] 38]) (fun l_3 => [vL 85 l_3.2.2.1 (RSt.enc o_1.own11.strips), vL 32 l_3.2.2.2.1 (RSp.enc o_1.own11.carried), vL 98 l_3.2.2.2.2.1 (RSt.enc o_1.x12.strips), vL 32 l_3.2.2.2.2.2 (RSp.enc o_1.x12.carried)]) ?_ ?_
  ·replace hm := h15
   obtain ⟨t57, h21, hm⟩ := bindO hm
   obtain ⟨t59, h22, hm⟩ := bindO hm
   refine jV none (.hoist 0 (.hoist 2 (.br (.alt 1 Yh (.alt 4 Yg (.alt 5 Yi .nil)))))) _ Y (by decide +kernel) (fun w k hh => hh.draw k) (fun w hh => hh) ?_
   refine jA Y Y Y Y (fun w hh => kn (vs := [_, _]) (isAgg25 w) (sizeOf25 w) Y (hh.cells 3 Y Y)) (jA Y Y Y Y (fun w hh => kn (vs := [_, _]) (isAgg25 w) (sizeOf25 w) Y (hh.cells 3 Y Y)) ?_)
   refine QE (.one 7 .done) (fun g => ∀ (b_4 : Nat) (b_5 : Nat) (L : VL) (L_1 : VL) (L_2 : VL) (L_3 : VL), vk 7 L (RSt.enc t59.strips) → vk 2 L_1 (RSp.enc t59.carried) → vk 7 L_2 (RSt.enc t57.strips) → vk 2 L_3 (RSp.enc t57.carried) → g [(3, .int .i64 tenant3), (5, ptr b 0), (6, ptr b_1 0), (7, ptr b_2 0), (9, ptr b_3 0), (11, ptr b_4 0), (12, ptr b_5 0), (59, .agg #[sL L, sL L_1])] [kc b_3 #[.int .i64 carried4.lo, .int .i64 carried4.hi] 32, kc b_2 #[.bool l2.tenants, .slice qa4 na4 ca4] 30, kc b_1 #[.slice qa2 na2 ca2, .slice qa3 na3 ca3] 28, kc b #[.slice qa0 na0 ca0, .slice qa1 na1 ca1] 25, kc b_4 #[sL L_2, sL L_3] 25, kc b_5 #[slv none 0 0, slv none 0 0] 38] [vL 98 L (RSt.enc t59.strips), vL 32 L_1 (RSp.enc t59.carried), vL 85 L_2 (RSt.enc t57.strips), vL 32 L_3 (RSp.enc t57.carried)]) ?_ (fun h27 => ?_)
   ·intro b_4 b_5 L L_1 L_2 L_3 h23 h24 h25 h26
    refine jJ Y (jE (us := #[_, _]) (cs' := [_, _]) (S' := [_, _, _, _, _, _]) 5 (fun w => sizeOf38 w) Y Y Y Y Y Y Y (jr (hsE [0, 1, 2, 3] [] 0 Y Y Y Y) (jI ?_)))
    obtain rfl := sj hm
    exact jg (b_4, b_5, L_2, L_3, L, L_1) (⟨h25, h26, h23, h24⟩) (sE Y) (hsE [0, 1, 2, 3, 4, 5] [2, 3, 0, 1] 0 Y Y Y Y)
   refine QE (.one 6 (.one 7 .done)) (fun g => ∀ (b_6 : Nat) (b_7 : Nat) (L_4 : VL) (L_5 : VL) (L_6 : VL) (L_7 : VL), vk 7 L_4 (RSt.enc t57.strips) → vk 2 L_5 (RSp.enc t57.carried) → vk 7 L_6 (RSt.enc t59.strips) → vk 2 L_7 (RSp.enc t59.carried) → g [(3, .int .i64 tenant3), (5, ptr b 0), (6, ptr b_1 0), (7, ptr b_2 0), (9, ptr b_3 0), (11, ptr b_6 0), (12, ptr b_7 0), (57, .agg #[sL L_4, sL L_5]), (59, .agg #[sL L_6, sL L_7])] [kc b_3 #[.int .i64 carried4.lo, .int .i64 carried4.hi] 32, kc b_2 #[.bool l2.tenants, .slice qa4 na4 ca4] 30, kc b_1 #[.slice qa2 na2 ca2, .slice qa3 na3 ca3] 28, kc b #[.slice qa0 na0 ca0, .slice qa1 na1 ca1] 25, kc b_6 #[slv none 0 0, slv none 0 0] 25, kc b_7 #[slv none 0 0, slv none 0 0] 38] [vL 85 L_4 (RSt.enc t57.strips), vL 32 L_5 (RSp.enc t57.carried), vL 98 L_6 (RSt.enc t59.strips), vL 32 L_7 (RSp.enc t59.carried)]) ?_ (fun h32 => ?_)
   intro b_6 b_7 L_4 L_5 L_6 L_7 h28 h29 h30 h31
   refine jJ Y (jE (us := #[_, _]) (cs' := [_, _]) (S' := [_, _, _, _, _, _]) 4 (fun w => sizeOf25 w) Y Y Y Y Y Y Y (jr (hsE [0, 1, 2, 3] [] 0 Y Y Y Y) ?_))
   exact QD (h27 b_6 b_7 L_6 L_7 L_4 L_5 h30 h31 h28 h29) (sE Y) (hsE [0, 1, 2, 3, 4, 5] [2, 3, 0, 1] 0 Y Y Y Y)
   refine QE (.one 3 (.one 6 (.one 7 .done))) (fun g => ∀ (b_8 : Nat) (b_9 : Nat) (L_8 : VL) (L_9 : VL), vk 7 L_8 (RSt.enc t57.strips) → vk 2 L_9 (RSp.enc t57.carried) → g [(3, .int .i64 tenant3), (5, ptr b 0), (6, ptr b_1 0), (7, ptr b_2 0), (9, ptr b_3 0), (11, ptr b_8 0), (12, ptr b_9 0), (57, .agg #[sL L_8, sL L_9]), (58, .agg #[.slice qa0 na0 ca0, .slice qa1 na1 ca1])] [kc b_3 #[.int .i64 carried4.lo, .int .i64 carried4.hi] 32, kc b_2 #[.bool l2.tenants, .slice qa4 na4 ca4] 30, kc b_1 #[.slice qa2 na2 ca2, .slice qa3 na3 ca3] 28, kc b #[.slice qa0 na0 ca0, .slice qa1 na1 ca1] 25, kc b_8 #[slv none 0 0, slv none 0 0] 25, kc b_9 #[slv none 0 0, slv none 0 0] 38] [vL 85 L_8 (RSt.enc t57.strips), vL 32 L_9 (RSp.enc t57.carried)]) ?_ (fun h35 => ?_)
   ·intro b_8 b_9 L_8 L_9 h33 h34
    refine jJ Y ?_
    refine jd [] [] Y Y Y Y Y Y Y call10 (fun w hh => QF s0 qa0 na0 ca0 qa1 na1 ca1 w (HV.callee (S0 := []) (vs0 := []) hh (roR hh 0 Y (roR hh 1 Y roN))) hna0 hqa0 hla0 hna1 hqa1 hla1 h22) (fun l_4 h36 => ?_)
    obtain ⟨h37, h38⟩ := h36
    refine jT (S' := [_, _, _, _, _, _]) (vs' := [_, _, _, _]) [0, 1, 2, 3, 4, 5] [0, 1, 2, 3] 0 Y Y Y Y (jr (hsE [0, 1, 2, 3] [] 0 Y Y Y Y) ?_)
    exact QD (h32 b_8 b_9 L_8 L_9 l_4.1 l_4.2 h33 h34 h37 h38) (sE Y) (hsE [0, 1, 2, 3, 4, 5] [2, 3, 0, 1] 0 Y Y Y Y)
   refine QE (.one 4 (.one 6 (.one 7 .done))) (fun g => ∀ (b_10 : Nat) (L_10 : VL) (L_11 : VL) (L_12 : VL) (L_13 : VL), vk 7 L_10 (RSt.enc t57.strips) → vk 2 L_11 (RSp.enc t57.carried) → vk 7 L_12 (RSt.enc t59.strips) → vk 2 L_13 (RSp.enc t59.carried) → g [(3, .int .i64 tenant3), (5, ptr b 0), (6, ptr b_1 0), (7, ptr b_2 0), (9, ptr b_3 0), (12, ptr b_10 0), (57, .agg #[sL L_10, sL L_11]), (59, .agg #[sL L_12, sL L_13])] [kc b_3 #[.int .i64 carried4.lo, .int .i64 carried4.hi] 32, kc b_2 #[.bool l2.tenants, .slice qa4 na4 ca4] 30, kc b_1 #[.slice qa2 na2 ca2, .slice qa3 na3 ca3] 28, kc b #[.slice qa0 na0 ca0, .slice qa1 na1 ca1] 25, kc b_10 #[slv none 0 0, slv none 0 0] 38] [vL 85 L_10 (RSt.enc t57.strips), vL 32 L_11 (RSp.enc t57.carried), vL 98 L_12 (RSt.enc t59.strips), vL 32 L_13 (RSp.enc t59.carried)]) ?_ (fun h43 => ?_)
   intro b_10 L_10 L_11 L_12 L_13 h39 h40 h41 h42
   refine jJ Y ?_
   refine ju (fun w => zeroValue25 w) Y (fun b_11 h44 => ?_)
   refine jr (hsE [1, 2, 3, 4] [] 0 Y Y Y Y) ?_
   exact QD (h32 b_11 b_10 L_10 L_11 L_12 L_13 h39 h40 h41 h42) (sE Y) (hsE [1, 2, 3, 4, 0, 5] [0, 1, 2, 3] 0 Y Y Y Y)
   refine QE (.one 5 (.one 6 (.one 7 .done))) (fun g => ∀ (b_12 : Nat) (L_14 : VL) (L_15 : VL) (L_16 : VL) (L_17 : VL), vk 7 L_14 (RSt.enc t57.strips) → vk 2 L_15 (RSp.enc t57.carried) → vk 7 L_16 (RSt.enc t59.strips) → vk 2 L_17 (RSp.enc t59.carried) → g [(3, .int .i64 tenant3), (5, ptr b 0), (6, ptr b_1 0), (7, ptr b_2 0), (9, ptr b_3 0), (11, ptr b_12 0), (57, .agg #[sL L_14, sL L_15]), (59, .agg #[sL L_16, sL L_17])] [kc b_3 #[.int .i64 carried4.lo, .int .i64 carried4.hi] 32, kc b_2 #[.bool l2.tenants, .slice qa4 na4 ca4] 30, kc b_1 #[.slice qa2 na2 ca2, .slice qa3 na3 ca3] 28, kc b #[.slice qa0 na0 ca0, .slice qa1 na1 ca1] 25, kc b_12 #[slv none 0 0, slv none 0 0] 25] [vL 85 L_14 (RSt.enc t57.strips), vL 32 L_15 (RSp.enc t57.carried), vL 98 L_16 (RSt.enc t59.strips), vL 32 L_17 (RSp.enc t59.carried)]) ?_ (fun h49 => ?_)
   ·intro b_12 L_14 L_15 L_16 L_17 h45 h46 h47 h48
    refine jJ Y ?_
    refine ju (fun w => zeroValue38 w) Y (fun b_13 h50 => ?_)
    refine jr (hsE [1, 2, 3, 4] [] 0 Y Y Y Y) ?_
    exact QD (h32 b_12 b_13 L_14 L_15 L_16 L_17 h45 h46 h47 h48) (sE Y) (hsE [1, 2, 3, 4, 5, 0] [0, 1, 2, 3] 0 Y Y Y Y)
   refine QE Jf (fun g => ∀ (b_14 : Nat) (b_15 : Nat), g [(3, .int .i64 tenant3), (5, ptr b 0), (6, ptr b_1 0), (7, ptr b_2 0), (9, ptr b_3 0), (11, ptr b_14 0), (12, ptr b_15 0), (56, .agg #[.slice qa0 na0 ca0, .slice qa1 na1 ca1]), (58, .agg #[.slice qa0 na0 ca0, .slice qa1 na1 ca1])] [kc b_3 #[.int .i64 carried4.lo, .int .i64 carried4.hi] 32, kc b_2 #[.bool l2.tenants, .slice qa4 na4 ca4] 30, kc b_1 #[.slice qa2 na2 ca2, .slice qa3 na3 ca3] 28, kc b #[.slice qa0 na0 ca0, .slice qa1 na1 ca1] 25, kc b_14 #[slv none 0 0, slv none 0 0] 25, kc b_15 #[slv none 0 0, slv none 0 0] 38] []) ?_ (fun h51 => ?_)
   intro b_14 b_15
   refine jJ Y ?_
   refine jd [] [] Y Y Y Y Y Y Y call9 (fun w hh => YG s0 qa0 na0 ca0 qa1 na1 ca1 w (HV.callee (S0 := []) (vs0 := []) hh (roR hh 0 Y (roR hh 1 Y roN))) hna0 hqa0 hla0 hna1 hqa1 hla1 h21) (fun l_5 h52 => ?_)
   obtain ⟨h53, h54⟩ := h52
   refine jT (S' := [_, _, _, _, _, _]) (vs' := [_, _]) [0, 1, 2, 3, 4, 5] [0, 1] 0 Y Y Y Y (jr (hsE [0, 1, 2, 3] [] 0 Y Y Y Y) ?_)
   exact QD (h35 b_14 b_15 l_5.1 l_5.2 h53 h54) (sE Y) (fun w hh => hh)
   refine QE Jh (fun g => ∀ (b_16 : Nat) (L_18 : VL) (L_19 : VL), vk 7 L_18 (RSt.enc t57.strips) → vk 2 L_19 (RSp.enc t57.carried) → g [(3, .int .i64 tenant3), (5, ptr b 0), (6, ptr b_1 0), (7, ptr b_2 0), (9, ptr b_3 0), (12, ptr b_16 0), (57, .agg #[sL L_18, sL L_19]), (58, .agg #[.slice qa0 na0 ca0, .slice qa1 na1 ca1])] [kc b_3 #[.int .i64 carried4.lo, .int .i64 carried4.hi] 32, kc b_2 #[.bool l2.tenants, .slice qa4 na4 ca4] 30, kc b_1 #[.slice qa2 na2 ca2, .slice qa3 na3 ca3] 28, kc b #[.slice qa0 na0 ca0, .slice qa1 na1 ca1] 25, kc b_16 #[slv none 0 0, slv none 0 0] 38] [vL 85 L_18 (RSt.enc t57.strips), vL 32 L_19 (RSp.enc t57.carried)]) ?_ (fun h57 => ?_)
   ·intro b_16 L_18 L_19 h55 h56
    refine Y5 ?_
    refine k6 Y ?_ ?_
    ·refine jd [] [] Y Y Y Y Y Y Y call10 (fun w hh => QF s0 qa0 na0 ca0 qa1 na1 ca1 w (HV.callee (S0 := []) (vs0 := []) hh (roR hh 0 Y (roR hh 1 Y roN))) hna0 hqa0 hla0 hna1 hqa1 hla1 h22) (fun l_6 h58 => ?_)
     obtain ⟨h59, h60⟩ := h58
     refine jT (S' := [_, _, _, _, _]) (vs' := [_, _, _, _]) [0, 1, 2, 3, 4] [0, 1, 2, 3] 0 Y Y Y Y (jr (hsE [0, 1, 2, 3] [] 0 Y Y Y Y) ?_)
     exact QD (h43 b_16 L_18 L_19 l_6.1 l_6.2 h55 h56 h59 h60) (sE Y) (hsE [0, 1, 2, 3, 4] [2, 3, 0, 1] 0 Y Y Y Y)
    refine k6 Y ?_ ?_
    refine ju (fun w => zeroValue25 w) Y (fun b_17 h61 => ?_)
    refine jr (hsE [1, 2, 3, 4] [] 0 Y Y Y Y) ?_
    exact QD (h35 b_17 b_16 L_18 L_19 h55 h56) (sE Y) (hsE [1, 2, 3, 4, 0, 5] [0, 1] 0 Y Y Y Y)
    exact Kz
   refine QE Ja (fun g => ∀ (b_18 : Nat) (L_20 : VL) (L_21 : VL), vk 7 L_20 (RSt.enc t57.strips) → vk 2 L_21 (RSp.enc t57.carried) → g [(3, .int .i64 tenant3), (5, ptr b 0), (6, ptr b_1 0), (7, ptr b_2 0), (9, ptr b_3 0), (11, ptr b_18 0), (57, .agg #[sL L_20, sL L_21]), (58, .agg #[.slice qa0 na0 ca0, .slice qa1 na1 ca1])] [kc b_3 #[.int .i64 carried4.lo, .int .i64 carried4.hi] 32, kc b_2 #[.bool l2.tenants, .slice qa4 na4 ca4] 30, kc b_1 #[.slice qa2 na2 ca2, .slice qa3 na3 ca3] 28, kc b #[.slice qa0 na0 ca0, .slice qa1 na1 ca1] 25, kc b_18 #[slv none 0 0, slv none 0 0] 25] [vL 85 L_20 (RSt.enc t57.strips), vL 32 L_21 (RSp.enc t57.carried)]) ?_ (fun h64 => ?_)
   intro b_18 L_20 L_21 h62 h63
   refine Y5 ?_
   refine k6 Y ?_ ?_
   ·refine jd [] [] Y Y Y Y Y Y Y call10 (fun w hh => QF s0 qa0 na0 ca0 qa1 na1 ca1 w (HV.callee (S0 := []) (vs0 := []) hh (roR hh 0 Y (roR hh 1 Y roN))) hna0 hqa0 hla0 hna1 hqa1 hla1 h22) (fun l_7 h65 => ?_)
    obtain ⟨h66, h67⟩ := h65
    refine jT (S' := [_, _, _, _, _]) (vs' := [_, _, _, _]) [0, 1, 2, 3, 4] [0, 1, 2, 3] 0 Y Y Y Y (jr (hsE [0, 1, 2, 3] [] 0 Y Y Y Y) ?_)
    exact QD (h49 b_18 L_20 L_21 l_7.1 l_7.2 h62 h63 h66 h67) (sE Y) (hsE [0, 1, 2, 3, 4] [2, 3, 0, 1] 0 Y Y Y Y)
   refine k6 Y ?_ ?_
   refine ju (fun w => zeroValue38 w) Y (fun b_19 h68 => ?_)
   refine jr (hsE [1, 2, 3, 4] [] 0 Y Y Y Y) ?_
   exact QD (h35 b_18 b_19 L_20 L_21 h62 h63) (sE Y) (hsE [1, 2, 3, 4, 5, 0] [0, 1] 0 Y Y Y Y)
   exact Kz
   refine Y5 ?_
   refine k6 Y ?_ ?_
   ·refine jd [] [] Y Y Y Y Y Y Y call9 (fun w hh => YG s0 qa0 na0 ca0 qa1 na1 ca1 w (HV.callee (S0 := []) (vs0 := []) hh (roR hh 0 Y (roR hh 1 Y roN))) hna0 hqa0 hla0 hna1 hqa1 hla1 h21) (fun l_8 h69 => ?_)
    obtain ⟨h70, h71⟩ := h69
    refine jT (S' := [_, _, _, _]) (vs' := [_, _]) [0, 1, 2, 3] [0, 1] 0 Y Y Y Y (jr (hsE [0, 1, 2, 3] [] 0 Y Y Y Y) (Y5 ?_))
    refine k6 Y ?_ ?_
    ·refine jd [] [] Y Y Y Y Y Y Y call10 (fun w hh => QF s0 qa0 na0 ca0 qa1 na1 ca1 w (HV.callee (S0 := []) (vs0 := []) hh (roR hh 0 Y (roR hh 1 Y roN))) hna0 hqa0 hla0 hna1 hqa1 hla1 h22) (fun l_9 h72 => ?_)
     obtain ⟨h73, h74⟩ := h72
     refine jT (S' := [_, _, _, _]) (vs' := [_, _, _, _]) [0, 1, 2, 3] [0, 1, 2, 3] 0 Y Y Y Y (jr (hsE [0, 1, 2, 3] [] 0 Y Y Y Y) (Y5 ?_))
     refine k6 Y ?_ ?_
     ·refine ju (fun w => zeroValue25 w) Y (fun b_20 h75 => ?_)
      refine jr (hsE [1, 2, 3, 4] [] 0 Y Y Y Y) ?_
      exact QD (h49 b_20 l_8.1 l_8.2 l_9.1 l_9.2 h70 h71 h73 h74) (sE Y) (hsE [1, 2, 3, 4, 0] [2, 3, 0, 1] 0 Y Y Y Y)
     refine k6 Y ?_ ?_
     refine ju (fun w => zeroValue38 w) Y (fun b_21 h76 => ?_)
     refine jr (hsE [1, 2, 3, 4] [] 0 Y Y Y Y) ?_
     exact QD (h43 b_21 l_8.1 l_8.2 l_9.1 l_9.2 h70 h71 h73 h74) (sE Y) (hsE [1, 2, 3, 4, 0] [2, 3, 0, 1] 0 Y Y Y Y)
     exact Kz
    refine k6 Y ?_ ?_
    refine ju (fun w => zeroValue25 w) Y (fun b_22 h77 => ?_)
    refine jr (hsE [1, 2, 3, 4] [] 0 Y Y Y Y) ?_
    exact QD (h64 b_22 l_8.1 l_8.2 h70 h71) (sE Y) (hsE [1, 2, 3, 4, 0] [0, 1] 0 Y Y Y Y)
    refine k6 Y ?_ ?_
    ·refine ju (fun w => zeroValue38 w) Y (fun b_23 h78 => ?_)
     refine jr (hsE [1, 2, 3, 4] [] 0 Y Y Y Y) ?_
     exact QD (h57 b_23 l_8.1 l_8.2 h70 h71) (sE Y) (hsE [1, 2, 3, 4, 0] [0, 1] 0 Y Y Y Y)
    exact Kz
   refine k6 Y ?_ ?_
   refine ju (fun w => zeroValue25 w) Y (fun b_24 h79 => ?_)
   refine jr (hsE [1, 2, 3, 4] [] 0 Y Y Y Y) (Y5 ?_)
   refine k6 Y ?_ ?_
   ·refine jd [] [] Y Y Y Y Y Y Y call9 (fun w hh => YG s0 qa0 na0 ca0 qa1 na1 ca1 w (HV.callee (S0 := []) (vs0 := []) hh (roR hh 0 Y (roR hh 1 Y roN))) hna0 hqa0 hla0 hna1 hqa1 hla1 h21) (fun l_10 h80 => ?_)
    obtain ⟨h81, h82⟩ := h80
    refine jT (S' := [_, _, _, _, _]) (vs' := [_, _]) [0, 1, 2, 3, 4] [0, 1] 0 Y Y Y Y (jr (hsE [1, 2, 3, 4] [] 0 Y Y Y Y) ?_)
    exact QD (h64 b_24 l_10.1 l_10.2 h81 h82) (sE Y) (hsE [1, 2, 3, 4, 0] [0, 1] 0 Y Y Y Y)
   refine k6 Y ?_ ?_
   refine ju (fun w => zeroValue38 w) Y (fun b_25 h83 => ?_)
   refine jr (hsE [2, 3, 4, 5] [] 0 Y Y Y Y) ?_
   exact QD (h51 b_24 b_25) (sE Y) (hsE [2, 3, 4, 5, 1, 0] [] 0 Y Y Y Y)
   exact Kz
   refine k6 Y ?_ ?_
   ·refine ju (fun w => zeroValue38 w) Y (fun b_26 h84 => ?_)
    refine jr (hsE [1, 2, 3, 4] [] 0 Y Y Y Y) (Y5 ?_)
    refine k6 Y ?_ ?_
    ·refine jd [] [] Y Y Y Y Y Y Y call9 (fun w hh => YG s0 qa0 na0 ca0 qa1 na1 ca1 w (HV.callee (S0 := []) (vs0 := []) hh (roR hh 0 Y (roR hh 1 Y roN))) hna0 hqa0 hla0 hna1 hqa1 hla1 h21) (fun l_11 h85 => ?_)
     obtain ⟨h86, h87⟩ := h85
     refine jT (S' := [_, _, _, _, _]) (vs' := [_, _]) [0, 1, 2, 3, 4] [0, 1] 0 Y Y Y Y (jr (hsE [1, 2, 3, 4] [] 0 Y Y Y Y) ?_)
     exact QD (h57 b_26 l_11.1 l_11.2 h86 h87) (sE Y) (hsE [1, 2, 3, 4, 0] [0, 1] 0 Y Y Y Y)
    refine k6 Y ?_ ?_
    refine ju (fun w => zeroValue25 w) Y (fun b_27 h88 => ?_)
    refine jr (hsE [2, 3, 4, 5] [] 0 Y Y Y Y) ?_
    exact QD (h51 b_27 b_26) (sE Y) (hsE [2, 3, 4, 5, 0, 1] [] 0 Y Y Y Y)
    exact Kz
   exact Kz
  intro l_3 hj
  obtain ⟨h17, h18, h19, h20⟩ := hj
  replace hm := h16
  refine ja (jk ?_)
  obtain ⟨o_2, h89, h90⟩ := bindO hm
  refine jD (ι := Nat × VL × VL) (fun l_12 => VOK 1 l_12.2.1.n l_12.2.1.cap (RI.enc o_2.strips) l_12.2.1.sp l_12.2.1.q ∧ VOK 1 l_12.2.2.n l_12.2.2.cap (RI.enc o_2.tenants) l_12.2.2.sp l_12.2.2.q) (fun l_12 => [(3, .int .i64 tenant3), (5, ptr b 0), (6, ptr b_1 0), (7, ptr b_2 0), (9, ptr b_3 0), (11, ptr l_3.1 0), (12, ptr l_3.2.1 0), (13, ptr l_12.1 0)]) (fun l_12 => [kc b_3 #[.int .i64 carried4.lo, .int .i64 carried4.hi] 32, kc b_2 #[.bool l2.tenants, .slice qa4 na4 ca4] 30, kc b_1 #[.slice qa2 na2 ca2, .slice qa3 na3 ca3] 28, kc b #[.slice qa0 na0 ca0, .slice qa1 na1 ca1] 25, kc l_3.1 #[sL l_3.2.2.1, sL l_3.2.2.2.1] 25, kc l_3.2.1 #[sL l_3.2.2.2.2.1, sL l_3.2.2.2.2.2] 38, kc l_12.1 #[sL l_12.2.1, sL l_12.2.2] 28]) (fun l_12 => [vL 85 l_3.2.2.1 (RSt.enc o_1.own11.strips), vL 32 l_3.2.2.2.1 (RSp.enc o_1.own11.carried), vL 98 l_3.2.2.2.2.1 (RSt.enc o_1.x12.strips), vL 32 l_3.2.2.2.2.2 (RSp.enc o_1.x12.carried), vL 3 l_12.2.1 (RI.enc o_2.strips), vL 3 l_12.2.2 (RI.enc o_2.tenants)]) ?_ ?_
  ·replace hm := h89
   obtain ⟨t62, h93, hm⟩ := bindO hm
   obtain ⟨t65, h94, hm⟩ := bindO hm
   refine jV none (.free 0 (.hoist 1 (.free 3 (.hoist 4 (.br (.alt 2 (.br (.alt 5 (.free 6 (.one 7 (.one 8 .done))) (.alt 7 (.one 5 (.free 6 (.one 8 .done))) .nil))) (.alt 7 (.one 2 (.one 5 (.free 6 (.one 8 .done)))) .nil))))))) _ Y (by decide +kernel) (fun w k hh => hh.draw k) (fun w hh => hh) ?_
   refine kF 0 runUnderlying28 sizeOf26 Y Y Y Y (qs 2 isAgg26 Y Y Y Y Y (kF 1 runUnderlying28 sizeOf26 Y Y Y Y (qs 2 isAgg26 Y Y Y Y Y (Y5 ?_))))
   refine k6 Y ?_ ?_
   ·refine jd [] [] Y Y Y Y Y Y Y call11 (fun w hh => Je m1.strips qa2 na2 ca2 w (HV.callee (S0 := []) (vs0 := []) hh (roR hh 2 Y roN)) hna2 hqa2 hla2 h93) (fun l_13 h95 => ?_)
    have h96 := h95
    refine jT (S' := [_, _, _, _, _, _]) (vs' := [_, _, _, _, _]) [0, 1, 2, 3, 4, 5] [0, 1, 2, 3, 4] 0 Y Y Y Y (jr (hsE [0, 1, 2, 3, 4, 5] [1, 2, 3, 4] 0 Y Y Y Y) (Y5 ?_))
    refine k6 Y ?_ ?_
    ·refine jd [] [] Y Y Y Y Y Y Y call11 (fun w hh => Je m1.tenants qa3 na3 ca3 w (HV.callee (S0 := []) (vs0 := []) hh (roR hh 3 Y roN)) hna3 hqa3 hla3 h94) (fun l_14 h97 => ?_)
     have h98 := h97
     refine jT (S' := [_, _, _, _, _, _]) (vs' := [_, _, _, _, _, _]) [0, 1, 2, 3, 4, 5] [0, 1, 2, 3, 4, 5] 0 Y Y Y Y (jr (hsE [0, 1, 2, 3, 4, 5] [2, 3, 4, 5] 0 Y Y Y Y) (ji Y Y Y Y (fun _ _ => jG (vs := [(0, _), (1, _)]) (cells := [_, _]) Y Y) (jJ Y ?_)))
     refine ju (fun w => zeroValue28 w) Y (fun b_28 h99 => ?_)
     refine jr (hsE [1, 2, 3, 4, 5, 6] [2, 3, 4, 5] 0 Y Y Y Y) (jJ Y (jE (us := #[_, _]) (cs' := [_, _]) (S' := [_, _, _, _, _, _, _]) 0 (fun w => sizeOf28 w) Y Y Y Y Y Y Y (jr (hsE [1, 2, 3, 4, 5, 6] [2, 3, 4, 5] 0 Y Y Y Y) (jI ?_))))
     obtain rfl := sj hm
     exact jg (b_28, l_13, l_14) (⟨h96, h98⟩) (sE Y) (hsE [1, 2, 3, 4, 5, 6, 0] [2, 3, 4, 5, 1, 0] 0 Y Y Y Y)
    refine k6 Y ?_ ?_
    refine ju (fun w => zeroValue28 w) Y (fun b_29 h100 => ?_)
    refine jr (hsE [1, 2, 3, 4, 5, 6] [1, 2, 3, 4] 0 Y Y Y Y) (jJ Y ?_)
    refine jd [] [] Y Y Y Y Y Y Y call11 (fun w hh => Je m1.tenants qa3 na3 ca3 w (HV.callee (S0 := []) (vs0 := []) hh (roR hh 3 Y roN)) hna3 hqa3 hla3 h94) (fun l_15 h101 => ?_)
    have h102 := h101
    refine jT (S' := [_, _, _, _, _, _, _]) (vs' := [_, _, _, _, _, _]) [0, 1, 2, 3, 4, 5, 6] [0, 1, 2, 3, 4, 5] 0 Y Y Y Y (jr (hsE [1, 2, 3, 4, 5, 6] [2, 3, 4, 5] 0 Y Y Y Y) (ji Y Y Y Y (fun _ _ => jG (vs := [(0, _), (1, _)]) (cells := [_, _]) Y Y) (jJ Y (jE (us := #[_, _]) (cs' := [_, _]) (S' := [_, _, _, _, _, _, _]) 0 (fun w => sizeOf28 w) Y Y Y Y Y Y Y (jr (hsE [1, 2, 3, 4, 5, 6] [2, 3, 4, 5] 0 Y Y Y Y) (jI ?_))))))
    obtain rfl := sj hm
    exact jg (b_29, l_13, l_15) (⟨h96, h102⟩) (sE Y) (hsE [1, 2, 3, 4, 5, 6, 0] [2, 3, 4, 5, 1, 0] 0 Y Y Y Y)
    exact Kz
   refine k6 Y ?_ ?_
   refine ju (fun w => zeroValue28 w) Y (fun b_30 h103 => ?_)
   refine jr (hsE [1, 2, 3, 4, 5, 6] [0, 1, 2, 3] 0 Y Y Y Y) (jJ Y ?_)
   refine jd [] [] Y Y Y Y Y Y Y call11 (fun w hh => Je m1.strips qa2 na2 ca2 w (HV.callee (S0 := []) (vs0 := []) hh (roR hh 2 Y roN)) hna2 hqa2 hla2 h93) (fun l_16 h104 => ?_)
   have h105 := h104
   refine jT (S' := [_, _, _, _, _, _, _]) (vs' := [_, _, _, _, _]) [0, 1, 2, 3, 4, 5, 6] [0, 1, 2, 3, 4] 0 Y Y Y Y (jr (hsE [1, 2, 3, 4, 5, 6] [1, 2, 3, 4] 0 Y Y Y Y) (jJ Y ?_))
   refine jd [] [] Y Y Y Y Y Y Y call11 (fun w hh => Je m1.tenants qa3 na3 ca3 w (HV.callee (S0 := []) (vs0 := []) hh (roR hh 3 Y roN)) hna3 hqa3 hla3 h94) (fun l_17 h106 => ?_)
   have h107 := h106
   refine jT (S' := [_, _, _, _, _, _, _]) (vs' := [_, _, _, _, _, _]) [0, 1, 2, 3, 4, 5, 6] [0, 1, 2, 3, 4, 5] 0 Y Y Y Y (jr (hsE [1, 2, 3, 4, 5, 6] [2, 3, 4, 5] 0 Y Y Y Y) (ji Y Y Y Y (fun _ _ => jG (vs := [(0, _), (1, _)]) (cells := [_, _]) Y Y) (jJ Y (jE (us := #[_, _]) (cs' := [_, _]) (S' := [_, _, _, _, _, _, _]) 0 (fun w => sizeOf28 w) Y Y Y Y Y Y Y (jr (hsE [1, 2, 3, 4, 5, 6] [2, 3, 4, 5] 0 Y Y Y Y) (jI ?_))))))
   obtain rfl := sj hm
   exact jg (b_30, l_16, l_17) (⟨h105, h107⟩) (sE Y) (hsE [1, 2, 3, 4, 5, 6, 0] [2, 3, 4, 5, 1, 0] 0 Y Y Y Y)
   exact Kz
  intro l_12 hj
  obtain ⟨h91, h92⟩ := hj
  replace hm := h90
  refine ja (jp (jM 1 runUnderlying30 Y sizeOf26 Y Y (jS 1 isAgg26 Y Y Y Y ?_)))
  obtain ⟨t69, h108, hm⟩ := bindO hm
  refine jd [] [] Y Y Y Y Y Y Y call11 (fun w hh => Je l2.of_ qa4 na4 ca4 w (HV.callee (S0 := []) (vs0 := []) hh (roR hh 4 Y roN)) hna4 hqa4 hla4 h108) (fun l_18 h109 => ?_)
  have h110 := h109
  refine jT (S' := [_, _, _, _, _, _, _]) (vs' := [_, _, _, _, _, _, _]) [0, 1, 2, 3, 4, 5, 6] [0, 1, 2, 3, 4, 5, 6] 0 Y Y Y Y (jm Y Y (j3 (qh [_, _] 5 isAgg38 sizeOf38 Y Y Y Y ?_)))
  obtain ⟨t71, h111, hm⟩ := bindO hm
  refine jd [] [] Y Y Y Y Y Y Y call12 (fun w hh => jaz o_1.x12 (qA l_3.2.2.2.2.1.q) l_3.2.2.2.2.1.n l_3.2.2.2.2.1.cap (qA l_3.2.2.2.2.2.q) l_3.2.2.2.2.2.n l_3.2.2.2.2.2.cap w (HV.callee (S0 := []) (vs0 := []) hh (roC (hh.vsepA 3 Y h19) (roC (hh.vsepA 4 Y h20) roN))) (vlen RSt h19 Y) (AOK.q (vne h19)) (h19).hle (vlen RSp h20 Y) (AOK.q (vne h20)) (h20).hle h111) (fun l_19 h112 => ?_)
  refine jm Y Y (j3 (je Y Y (je Y Y (je Y Y (je Y Y (jm Y Y (jm Y Y ?_)))))))
  refine jm Y Y (jm Y Y (j3 (jm Y Y (jm Y Y (jm Y Y (j3 ?_))))))
  refine ju (fun w => zeroValue25 w) Y (fun b_31 h113 => ?_)
  refine jo (jk (kp 85 (kp 32 ?_)))
  obtain ⟨o_3, h114, h115⟩ := bindO hm
  refine jD (ι := VL × VL) (fun l_20 => VOK 7 l_20.1.n l_20.1.cap (RSt.enc o_3.want23_strips) l_20.1.sp l_20.1.q ∧ VOK 2 l_20.2.n l_20.2.cap (RSp.enc o_3.want23_carried) l_20.2.sp l_20.2.q) (fun l_20 => [(3, .int .i64 tenant3), (5, ptr b 0), (6, ptr b_1 0), (7, ptr b_2 0), (9, ptr b_3 0), (11, ptr l_3.1 0), (12, ptr l_3.2.1 0), (13, ptr l_12.1 0), (14, sL l_18), (16, .int .i64 o_3.a16), (17, .int .i64 o_3.b17), (18, .int .i64 o_3.c18), (19, .int .i64 o_3.d19), (20, .int .i64 o_3.lo20), (21, .int .i64 o_3.proved21), (22, .int .i64 o_3.lacks22), (23, ptr b_31 0)]) (fun l_20 => [kc b_31 #[sL l_20.1, sL l_20.2] 25, kc b_3 #[.int .i64 carried4.lo, .int .i64 carried4.hi] 32, kc b_2 #[.bool l2.tenants, .slice qa4 na4 ca4] 30, kc b_1 #[.slice qa2 na2 ca2, .slice qa3 na3 ca3] 28, kc b #[.slice qa0 na0 ca0, .slice qa1 na1 ca1] 25, kc l_3.1 #[sL l_3.2.2.1, sL l_3.2.2.2.1] 25, kc l_3.2.1 #[sL l_3.2.2.2.2.1, sL l_3.2.2.2.2.2] 38, kc l_12.1 #[sL l_12.2.1, sL l_12.2.2] 28]) (fun l_20 => [vL 3 l_18 (RI.enc t69), vL 85 l_20.1 (RSt.enc o_3.want23_strips), vL 32 l_20.2 (RSp.enc o_3.want23_carried), vL 85 l_3.2.2.1 (RSt.enc o_1.own11.strips), vL 32 l_3.2.2.2.1 (RSp.enc o_1.own11.carried), vL 98 l_3.2.2.2.2.1 (RSt.enc o_1.x12.strips), vL 32 l_3.2.2.2.2.2 (RSp.enc o_1.x12.carried), vL 3 l_12.2.1 (RI.enc o_2.strips), vL 3 l_12.2.2 (RI.enc o_2.tenants)]) ?_ ?_
  ·replace hm := h114
   refine jp (je Y Y (jc Y Y Y (fun _ _ => Kc Y Y) (jo ?_)))
   refine jq Y (fun h118 => ?_) (fun h118 => ?_)
   ·replace hm := ifD h118 hm
    refine jp (jm Y Y (jo (jk ?_)))
    obtain ⟨o_4, h119, h120⟩ := bindO hm
    refine jD (ι := Unit) (fun l_21 => True) (fun l_21 => [(3, .int .i64 tenant3), (5, ptr b 0), (6, ptr b_1 0), (7, ptr b_2 0), (9, ptr b_3 0), (11, ptr l_3.1 0), (12, ptr l_3.2.1 0), (13, ptr l_12.1 0), (14, sL l_18), (16, .int .i64 o_4.a16), (19, .int .i64 t71), (20, .int .i64 o_4.lo20), (23, ptr b_31 0)]) (fun l_21 => [kc b_31 #[slv none 0 0, slv none 0 0] 25, kc b_3 #[.int .i64 carried4.lo, .int .i64 carried4.hi] 32, kc b_2 #[.bool l2.tenants, .slice qa4 na4 ca4] 30, kc b_1 #[.slice qa2 na2 ca2, .slice qa3 na3 ca3] 28, kc b #[.slice qa0 na0 ca0, .slice qa1 na1 ca1] 25, kc l_3.1 #[sL l_3.2.2.1, sL l_3.2.2.2.1] 25, kc l_3.2.1 #[sL l_3.2.2.2.2.1, sL l_3.2.2.2.2.2] 38, kc l_12.1 #[sL l_12.2.1, sL l_12.2.2] 28]) (fun l_21 => [vL 3 l_18 (RI.enc t69), ⟨85, RSt.enc [], [], none, []⟩, ⟨32, RSp.enc [], [], none, []⟩, vL 85 l_3.2.2.1 (RSt.enc o_1.own11.strips), vL 32 l_3.2.2.2.1 (RSp.enc o_1.own11.carried), vL 98 l_3.2.2.2.2.1 (RSt.enc o_1.x12.strips), vL 32 l_3.2.2.2.2.2 (RSp.enc o_1.x12.carried), vL 3 l_12.2.1 (RI.enc o_2.strips), vL 3 l_12.2.2 (RI.enc o_2.tenants)]) ?_ ?_
    ·replace hm := h119
     refine jk ?_
     refine jV none (.hoist 0 (.hoist 1 (.one 2 (.one 3 (.free 4 (.free 5 (.free 6 (.free 7 (.free 8 (.free 9 .done)))))))))) _ Y (by decide +kernel) (fun w k hh => hh.draw k) (fun w hh => hh) ?_
     refine jA Y Y Y Y (fun w hh => kn (vs := [_, _]) (isAgg38 w) (sizeOf38 w) Y (hh.cells 6 Y Y)) (jA Y Y Y Y (fun w hh => kn (vs := [_, _]) (isAgg38 w) (sizeOf38 w) Y (hh.cells 6 Y Y)) (jJ Y ?_))
     obtain ⟨t81, h121, hm⟩ := bindO hm
     refine jd [] [] Y Y Y Y Y Y Y call14 (fun w hh => jau o_1.x12 (-1) (-1) (qA l_3.2.2.2.2.1.q) l_3.2.2.2.2.1.n l_3.2.2.2.2.1.cap (qA l_3.2.2.2.2.2.q) l_3.2.2.2.2.2.n l_3.2.2.2.2.2.cap w (HV.callee (S0 := []) (vs0 := []) hh (roC (hh.vsepA 5 Y h19) (roC (hh.vsepA 6 Y h20) roN))) (vlen RSt h19 Y) (AOK.q (vne h19)) (h19).hle (vlen RSp h20 Y) (AOK.q (vne h20)) (h20).hle h121) (fun l_22 h122 => ?_)
     obtain ⟨h123, h124⟩ := h122
     refine jT (S' := [_, _, _, _, _, _, _, _]) (vs' := [_, _, _, _, _, _, _, _, _, _]) [0, 1, 2, 3, 4, 5, 6, 7] [0, 1, 2, 3, 4, 5, 6, 7, 8, 9] 0 Y Y Y Y (jr (hsE [0, 1, 2, 3, 4, 5, 6, 7] [1, 2, 3, 4, 5, 6, 7, 8, 9] 0 Y Y Y Y) (jJ Y ?_))
     obtain ⟨t82, h125, hm⟩ := bindO hm
     refine jd [] [] Y Y Y Y Y Y Y call13 (fun w hh => jaG o_1.x12 t81 (qA l_3.2.2.2.2.1.q) l_3.2.2.2.2.1.n l_3.2.2.2.2.1.cap (qA l_3.2.2.2.2.2.q) l_3.2.2.2.2.2.n l_3.2.2.2.2.2.cap (qA l_22.v.q) l_22.v.n l_22.v.cap (toAL l_22.rs) w (HV.callee (S0 := []) (vs0 := []) hh (roC (hh.vsepA 6 Y h19) (roC (hh.vsepA 7 Y h20) (roC (hh.vsepD 0 Y h123) roN)))) (vlen RSt h19 Y) (AOK.q (vne h19)) (h19).hle (vlen RSp h20 Y) (AOK.q (vne h20)) (h20).hle (Eq.trans (h124).len (vlen RwH h123 Y)) (AOK.q (vne h123)) (h123).hle ((h124).toDRO Y) (hh.dsepT 0 Y h124) h125) (fun l_23 h126 => ?_)
     refine jr (hsE [0, 1, 2, 3, 4, 5, 6, 7] [1, 2, 3, 4, 5, 6, 7, 8, 9] 0 Y Y Y Y) (kb Y Y Y (ji Y Y Y Y (fun _ _ => yZ Y Y) (ji Y Y Y Y (fun _ _ => yZ Y Y) (ji Y Y Y Y (fun _ _ => yZ Y Y) (ji Y Y Y Y (fun _ _ => jQ Y) (ji Y Y Y Y (fun _ _ => jQ Y) (jI ?_)))))))
     refine ja (jp (je Y Y (jc Y Y Y (fun _ _ => kV Y) (jo ?_))))
     refine jq Y (fun h127 => ?_) (fun h127 => ?_)
     ·replace hm := ifT (h127) hm
      refine jh (jm Y Y (jv ?_))
      obtain rfl := sj hm
      exact jg () (trivial) (sE Y) (hsE [0, 1, 2, 3, 4, 5, 6, 7] [3, 2, 1, 4, 5, 6, 7, 8, 9] 0 Y Y Y Y)
     replace hm := ifN h127 hm
     refine jt ?_
     obtain rfl := sj hm
     exact jg () (trivial) (sE Y) (hsE [0, 1, 2, 3, 4, 5, 6, 7] [3, 2, 1, 4, 5, 6, 7, 8, 9] 0 Y Y Y Y)
    intro l_21 hj
    replace hm := h120
    refine ja (jp (qh [_, _] 6 isAgg38 sizeOf38 Y Y Y Y (jM 0 runUnderlying28 Y sizeOf26 Y Y (jS 3 isAgg26 Y Y Y Y (jM 1 runUnderlying28 Y sizeOf26 Y Y (jS 3 isAgg26 Y Y Y Y ?_))))))
    obtain ⟨t94, h128, hm⟩ := bindO hm
    refine jd [] [] Y Y Y Y Y Y Y call15 (fun w hh => Zd o_1.x12 m1.strips m1.tenants (qA l_3.2.2.2.2.1.q) l_3.2.2.2.2.1.n l_3.2.2.2.2.1.cap (qA l_3.2.2.2.2.2.q) l_3.2.2.2.2.2.n l_3.2.2.2.2.2.cap qa2 na2 ca2 qa3 na3 ca3 w (HV.callee (S0 := []) (vs0 := []) hh (roC (hh.vsepA 5 Y h19) (roC (hh.vsepA 6 Y h20) (roR hh 2 Y (roR hh 3 Y roN))))) (vlen RSt h19 Y) (AOK.q (vne h19)) (h19).hle (vlen RSp h20 Y) (AOK.q (vne h20)) (h20).hle hna2 hqa2 hla2 hna3 hqa3 hla3 h128) (fun l_24 h129 => ?_)
    refine je Y Y (kt Y Y Y (kt Y Y Y (jm Y Y (jm Y Y (j3 (qh [_, _] 6 isAgg38 sizeOf38 Y Y Y Y (jM 0 runUnderlying30 Y sizeOf4 Y Y ?_)))))))
    refine jS 2 isAgg4 Y Y Y Y (jM 1 runUnderlying30 Y sizeOf26 Y Y (jS 2 isAgg26 Y Y Y Y ?_))
    obtain ⟨t103, h130, hm⟩ := bindO hm
    refine jd [] [] Y Y Y Y Y Y Y call16 (fun w hh => jaC o_1.x12 l2.tenants l2.of_ (qA l_3.2.2.2.2.1.q) l_3.2.2.2.2.1.n l_3.2.2.2.2.1.cap (qA l_3.2.2.2.2.2.q) l_3.2.2.2.2.2.n l_3.2.2.2.2.2.cap qa4 na4 ca4 w (HV.callee (S0 := []) (vs0 := []) hh (roC (hh.vsepA 5 Y h19) (roC (hh.vsepA 6 Y h20) (roR hh 4 Y roN)))) (vlen RSt h19 Y) (AOK.q (vne h19)) (h19).hle (vlen RSp h20 Y) (AOK.q (vne h20)) (h20).hle hna4 hqa4 hla4 h130) (fun l_25 h131 => ?_)
    refine je Y Y (kt Y Y Y (kt Y Y Y (jm Y Y (jm Y Y (jo (jl (jk ?_)))))))
    obtain ⟨o_5, h132, h133⟩ := bindO hm
    refine jD (ι := Unit) (fun l_26 => True) (fun l_26 => [(3, .int .i64 tenant3), (5, ptr b 0), (6, ptr b_1 0), (7, ptr b_2 0), (9, ptr b_3 0), (11, ptr l_3.1 0), (12, ptr l_3.2.1 0), (13, ptr l_12.1 0), (14, sL l_18), (16, .int .i64 o_4.a16), (17, .int .i64 t94.r1), (18, .int .i64 t103.r1), (19, .int .i64 t71), (20, .int .i64 o_4.lo20), (21, .int .i64 t94.r0), (22, .int .i64 t103.r0), (23, ptr b_31 0), (131, .bool o_5)]) (fun l_26 => [kc b_31 #[slv none 0 0, slv none 0 0] 25, kc b_3 #[.int .i64 carried4.lo, .int .i64 carried4.hi] 32, kc b_2 #[.bool l2.tenants, .slice qa4 na4 ca4] 30, kc b_1 #[.slice qa2 na2 ca2, .slice qa3 na3 ca3] 28, kc b #[.slice qa0 na0 ca0, .slice qa1 na1 ca1] 25, kc l_3.1 #[sL l_3.2.2.1, sL l_3.2.2.2.1] 25, kc l_3.2.1 #[sL l_3.2.2.2.2.1, sL l_3.2.2.2.2.2] 38, kc l_12.1 #[sL l_12.2.1, sL l_12.2.2] 28]) (fun l_26 => [vL 3 l_18 (RI.enc t69), ⟨85, RSt.enc [], [], none, []⟩, ⟨32, RSp.enc [], [], none, []⟩, vL 85 l_3.2.2.1 (RSt.enc o_1.own11.strips), vL 32 l_3.2.2.2.1 (RSp.enc o_1.own11.carried), vL 98 l_3.2.2.2.2.1 (RSt.enc o_1.x12.strips), vL 32 l_3.2.2.2.2.2 (RSp.enc o_1.x12.carried), vL 3 l_12.2.1 (RI.enc o_2.strips), vL 3 l_12.2.2 (RI.enc o_2.tenants)]) ?_ ?_
    ·replace hm := h132
     refine jh (je Y Y (q8 Y Y Y (je Y Y ?_)))
     refine jH 134 Y (fun h134 => ?_) (fun h134 => ?_)
     ·replace hm := ifD h134 hm
      refine g_k Y Y Y Y (g_k Y Y Y Y (g_k Y Y Y Y (g_k Y Y Y Y (g_k Y Y Y Y (j8 Y Y Y (jm Y Y (jv ?_)))))))
      obtain rfl := sj hm
      exact jg () (trivial) (sE Y) (fun w hh => hh)
     replace hm := ifE h134 hm
     refine jb Y Y (je Y Y (jb Y Y (jM 1 runUnderlying25 Y sizeOf23 Y Y (jb Y Y (jS 4 isAgg23 Y Y Y Y (jb Y Y (jc Y Y Y (fun w _ => jB hna1 (runUnderlying23 w) Y) ?_)))))))
     refine jb Y Y (jc Y Y Y (fun _ _ => QS Y Y) (ky Y Y Y (jm Y Y (jv ?_))))
     obtain rfl := sj hm
     exact jg () (trivial) (sE Y) (fun w hh => hh)
    intro l_26 hj
    replace hm := h133
    refine ja ?_
    refine jq Y (fun h135 => ?_) (fun h135 => ?_)
    ·replace hm := ifT (h135) hm
     refine jh (jm Y Y (jv (js ?_)))
     obtain rfl := sj hm
     exact jg (⟨none, 0, 0, []⟩, ⟨none, 0, 0, []⟩) (⟨VOK.nil, VOK.nil⟩) (sE Y) (fun w hh => hh)
    replace hm := ifN h135 hm
    refine jk ?_
    obtain ⟨o_6, h136, h137⟩ := bindO hm
    refine jD (ι := Unit) (fun l_27 => True) (fun l_27 => [(3, .int .i64 tenant3), (5, ptr b 0), (6, ptr b_1 0), (7, ptr b_2 0), (9, ptr b_3 0), (11, ptr l_3.1 0), (12, ptr l_3.2.1 0), (13, ptr l_12.1 0), (14, sL l_18), (16, .int .i64 o_4.a16), (17, .int .i64 t94.r1), (18, .int .i64 t103.r1), (19, .int .i64 t71), (20, .int .i64 o_4.lo20), (21, .int .i64 t94.r0), (22, .int .i64 t103.r0), (23, ptr b_31 0), (141, .bool o_6)]) (fun l_27 => [kc b_31 #[slv none 0 0, slv none 0 0] 25, kc b_3 #[.int .i64 carried4.lo, .int .i64 carried4.hi] 32, kc b_2 #[.bool l2.tenants, .slice qa4 na4 ca4] 30, kc b_1 #[.slice qa2 na2 ca2, .slice qa3 na3 ca3] 28, kc b #[.slice qa0 na0 ca0, .slice qa1 na1 ca1] 25, kc l_3.1 #[sL l_3.2.2.1, sL l_3.2.2.2.1] 25, kc l_3.2.1 #[sL l_3.2.2.2.2.1, sL l_3.2.2.2.2.2] 38, kc l_12.1 #[sL l_12.2.1, sL l_12.2.2] 28]) (fun l_27 => [vL 3 l_18 (RI.enc t69), ⟨85, RSt.enc [], [], none, []⟩, ⟨32, RSp.enc [], [], none, []⟩, vL 85 l_3.2.2.1 (RSt.enc o_1.own11.strips), vL 32 l_3.2.2.2.1 (RSp.enc o_1.own11.carried), vL 98 l_3.2.2.2.2.1 (RSt.enc o_1.x12.strips), vL 32 l_3.2.2.2.2.2 (RSp.enc o_1.x12.carried), vL 3 l_12.2.1 (RI.enc o_2.strips), vL 3 l_12.2.2 (RI.enc o_2.tenants)]) ?_ ?_
    ·replace hm := h136
     refine jh (jM 0 runUnderlying32 Y sizeOf3 Y Y (jS 1 isAgg3 Y Y Y Y (q8 Y Y Y (je Y Y ?_))))
     refine jH 145 Y (fun h138 => ?_) (fun h138 => ?_)
     ·replace hm := ifD h138 hm
      refine g_k Y Y Y Y (g_k Y Y Y Y (g_k Y Y Y Y (j8 Y Y Y (je Y Y (g_k Y Y Y Y (g_k Y Y Y Y (g_k Y Y Y Y ?_)))))))
      refine j8 Y Y Y (je Y Y (g_k Y Y Y Y (g_k Y Y Y Y (g_k Y Y Y Y (j8 Y Y Y (jm Y Y (jv ?_)))))))
      obtain rfl := sj hm
      exact jg () (trivial) (sE Y) (fun w hh => hh)
     replace hm := ifE h138 hm
     refine jb Y Y (jM 0 runUnderlying32 Y sizeOf3 Y Y (jb Y Y (jS 1 isAgg3 Y Y Y Y (jb Y Y (jc Y Y Y (fun _ _ => JU Y Y) (ky Y Y Y (je Y Y ?_)))))))
     refine jH 150 Y (fun h139 => ?_) (fun h139 => ?_)
     ·replace hm := ifD h139 hm
      refine g_k Y Y Y Y (g_k Y Y Y Y (g_k Y Y Y Y (j8 Y Y Y (je Y Y (g_k Y Y Y Y (g_k Y Y Y Y (g_k Y Y Y Y ?_)))))))
      refine j8 Y Y Y (jm Y Y (jv ?_))
      obtain rfl := sj hm
      exact jg () (trivial) (sE Y) (fun w hh => hh)
     replace hm := ifE h139 hm
     refine jb Y Y (jM 1 runUnderlying32 Y sizeOf3 Y Y (jb Y Y (jS 1 isAgg3 Y Y Y Y (jb Y Y (q8 Y Y Y (ky Y Y Y (je Y Y ?_)))))))
     refine jH 155 Y (fun h140 => ?_) (fun h140 => ?_)
     ·replace hm := ifD h140 hm
      refine g_k Y Y Y Y (g_k Y Y Y Y (g_k Y Y Y Y (j8 Y Y Y (jm Y Y (jv ?_)))))
      obtain rfl := sj hm
      exact jg () (trivial) (sE Y) (fun w hh => hh)
     replace hm := ifE h140 hm
     refine jb Y Y (jM 1 runUnderlying32 Y sizeOf3 Y Y (jb Y Y (jS 1 isAgg3 Y Y Y Y (jb Y Y (jc Y Y Y (fun _ _ => JU Y Y) (ky Y Y Y (jm Y Y ?_)))))))
     refine jv ?_
     obtain rfl := sj hm
     exact jg () (trivial) (sE Y) (fun w hh => hh)
    intro l_27 hj
    replace hm := h137
    refine ja ?_
    refine jq Y (fun h141 => ?_) (fun h141 => ?_)
    ·replace hm := ifT (h141) hm
     refine jh (jm Y Y (jv (js ?_)))
     obtain rfl := sj hm
     exact jg (⟨none, 0, 0, []⟩, ⟨none, 0, 0, []⟩) (⟨VOK.nil, VOK.nil⟩) (sE Y) (fun w hh => hh)
    replace hm := ifN h141 hm
    refine jp (jM 0 runUnderlying32 Y sizeOf3 Y Y (jS 1 isAgg3 Y Y Y Y (jM 1 runUnderlying32 Y sizeOf3 Y Y (jS 1 isAgg3 Y Y Y Y (jc Y Y Y (fun _ _ => JU Y Y) (jm Y Y (jo ?_)))))))
    refine jq Y (fun h142 => ?_) (fun h142 => ?_)
    ·replace hm := ifD h142 hm
     refine jh (jm Y Y (jv (js ?_)))
     obtain rfl := sj hm
     exact jg (⟨none, 0, 0, []⟩, ⟨none, 0, 0, []⟩) (⟨VOK.nil, VOK.nil⟩) (sE Y) (fun w hh => hh)
    replace hm := ifE h142 hm
    refine jk ?_
    refine jV none (.free 0 (.hoist 1 (.free 2 (.hoist 3 (.free 4 (.free 5 (.free 6 (.hoist 7 (.free 8 (.free 9 (.hoist 10 (.free 11 (.hoist 12 (.free 13 (.free 14 (.free 15 (.hoist 16 (.free 17 (.free 18 (.free 19 .done)))))))))))))))))))) _ Y (by decide +kernel) (fun w k hh => hh.draw k) (fun w hh => hh) ?_
    refine kF 0 runUnderlying32 sizeOf3 Y Y Y Y (qs 1 isAgg3 Y Y Y Y Y (kF 1 runUnderlying25 sizeOf23 Y Y Y Y (qs 4 isAgg23 Y Y Y Y Y (kb Y Y Y ?_))))
    obtain ⟨t172, h143, hm⟩ := bindO hm
    refine ji Y Y Y Y (fun w _ => jY h143 (runUnderlying23 w) (sizeOf32 w) Y Y hna1 hqa1) (kF 0 runUnderlying32 sizeOf3 Y Y Y Y (jA Y Y Y Y (fun w hh => jW RSp 0 h143 (isAgg3 w) Y (hh.seg 1 Y) Y Y) (ji Y Y Y Y (fun _ _ => ZN Y Y) (kF 1 runUnderlying32 sizeOf3 Y Y Y Y (qs 1 isAgg3 Y Y Y Y Y (kF 1 runUnderlying25 sizeOf23 Y Y Y Y (qs 4 isAgg23 Y Y Y Y Y ?_)))))))
    refine kb Y Y Y ?_
    obtain ⟨t181, h144, hm⟩ := bindO hm
    refine ji Y Y Y Y (fun w _ => jY h144 (runUnderlying23 w) (sizeOf32 w) Y Y hna1 hqa1) (kF 1 runUnderlying32 sizeOf3 Y Y Y Y (jA Y Y Y Y (fun w hh => jW RSp 1 h144 (isAgg3 w) Y (hh.seg 1 Y) Y Y) (ji Y Y Y Y (fun _ _ => Z7 Y Y) (ji Y Y Y Y (fun _ _ => JU Y Y) (ji Y Y Y Y (fun _ _ => jQ Y) (jI (ja ?_)))))))
    refine jq Y (fun h145 => ?_) (fun h145 => ?_)
    ·replace hm := ifD h145 hm
     refine jh (jm Y Y (jv (js ?_)))
     obtain rfl := sj hm
     exact jg (⟨none, 0, 0, []⟩, ⟨none, 0, 0, []⟩) (⟨VOK.nil, VOK.nil⟩) (sE Y) (fun w hh => hh)
    replace hm := ifE h145 hm
    refine jp (qh [_, _] 4 isAgg25 sizeOf25 Y Y Y Y ?_)
    obtain ⟨t107, h146, hm⟩ := bindO hm
    refine jd [] [] Y Y Y Y Y Y Y call9 (fun w hh => YG s0 qa0 na0 ca0 qa1 na1 ca1 w (HV.callee (S0 := []) (vs0 := []) hh (roR hh 0 Y (roR hh 1 Y roN))) hna0 hqa0 hla0 hna1 hqa1 hla1 h146) (fun l_28 h147 => ?_)
    obtain ⟨h148, h149⟩ := h147
    refine jT (S' := [_, _, _, _, _, _, _, _]) (vs' := [_, _, _, _, _, _, _, _, _, _, _]) [0, 1, 2, 3, 4, 5, 6, 7] [0, 1, 2, 3, 4, 5, 6, 7, 8, 9, 10] 0 Y Y Y Y (jE (us := #[_, _]) (cs' := [_, _]) (S' := [_, _, _, _, _, _, _, _]) 0 (fun w => sizeOf25 w) Y Y Y Y Y Y Y (jo ?_))
    refine jV none (.free 0 (.hoist 1 (.free 2 (.free 3 (.hoist 4 (.free 5 (.hoist 6 (.free 7 (.free 8 (.free 9 (.hoist 10 (.free 11 (.free 12 (.hoist 13 (.free 14 (.hoist 15 (.free 16 (.free 17 (.free 18 (.hoist 19 (.free 20 (.free 21 (.free 22 (.one 23 .done)))))))))))))))))))))))) (HV _ _ [kc b_31 #[sL l_28.1, sL l_28.2] 25, kc b_3 #[.int .i64 carried4.lo, .int .i64 carried4.hi] 32, kc b_2 #[.bool l2.tenants, .slice qa4 na4 ca4] 30, kc b_1 #[.slice qa2 na2 ca2, .slice qa3 na3 ca3] 28, kc b #[.slice qa0 na0 ca0, .slice qa1 na1 ca1] 25, kc l_3.1 #[sL l_3.2.2.1, sL l_3.2.2.2.1] 25, kc l_3.2.1 #[sL l_3.2.2.2.2.1, sL l_3.2.2.2.2.2] 38, kc l_12.1 #[sL l_12.2.1, sL l_12.2.2] 28] [vL 85 l_28.1 (RSt.enc t107.strips), vL 3 l_18 (RI.enc t69), ⟨85, RSt.enc [], [], none, []⟩, ⟨32, RSp.enc [], [], none, []⟩, vL 85 l_3.2.2.1 (RSt.enc o_1.own11.strips), vL 32 l_3.2.2.2.1 (RSp.enc o_1.own11.carried), vL 98 l_3.2.2.2.2.1 (RSt.enc o_1.x12.strips), vL 32 l_3.2.2.2.2.2 (RSp.enc o_1.x12.carried), vL 3 l_12.2.1 (RI.enc o_2.strips), vL 3 l_12.2.2 (RI.enc o_2.tenants)] _) Y (by decide +kernel) (fun w k hh => hh.draw k) (hsE [0, 1, 2, 3, 4, 5, 6, 7] [0, 2, 3, 4, 5, 6, 7, 8, 9, 10] 0 Y Y Y Y) ?_
    refine kF 1 runUnderlying25 sizeOf23 Y Y Y Y (qs 0 isAgg23 Y Y Y Y Y (kb Y Y Y (kF 0 runUnderlying32 sizeOf3 Y Y Y Y (qs 1 isAgg3 Y Y Y Y Y (kF 1 runUnderlying25 sizeOf23 Y Y Y Y (qs 4 isAgg23 Y Y Y Y Y (kb Y Y Y ?_)))))))
    obtain ⟨t116, h150, hm⟩ := bindO hm
    refine ji Y Y Y Y (fun w _ => jY h150 (runUnderlying23 w) (sizeOf32 w) Y Y hna1 hqa1) (kF 0 runUnderlying32 sizeOf3 Y Y Y Y (jA Y Y Y Y (fun w hh => jW RSp 0 h150 (isAgg3 w) Y (hh.seg 1 Y) Y Y) (ji Y Y Y Y (fun _ _ => ZN Y Y) (kF 1 runUnderlying32 sizeOf3 Y Y Y Y (qs 1 isAgg3 Y Y Y Y Y (kF 1 runUnderlying25 sizeOf23 Y Y Y Y (qs 4 isAgg23 Y Y Y Y Y ?_)))))))
    refine kb Y Y Y ?_
    obtain ⟨t125, h151, hm⟩ := bindO hm
    refine ji Y Y Y Y (fun w _ => jY h151 (runUnderlying23 w) (sizeOf32 w) Y Y hna1 hqa1) (kF 1 runUnderlying32 sizeOf3 Y Y Y Y (jA Y Y Y Y (fun w hh => jW RSp 1 h151 (isAgg3 w) Y (hh.seg 1 Y) Y Y) (ji Y Y Y Y (fun _ _ => Z7 Y Y) (ji Y Y Y Y (fun _ _ => jG (vs := [(0, _), (1, _)]) (cells := [_, _]) Y Y) ?_))))
    obtain ⟨t130, h152, hm⟩ := bindO hm
    refine ji Y Y Y Y (fun w _ => qR h152 (runUnderlying23 w) (sizeOf32 w) Y Y (vlen RSp h149 Y) (vne h149)) (jJ Y ?_)
    obtain ⟨r0_carried, hr0_carried, hm⟩ := bindO hm
    refine ja6 (us := #[_, _]) RSp 1 (⟨(max carried4.lo t116.lo), (min carried4.hi t125.hi)⟩ : Span) (fun w => sizeOf32 w) Y Y Y h149 Y Y Y Y h152 Y (Option.some.inj hr0_carried) (fun h153 => ?_)
    refine jT (S' := [_, _, _, _, _, _, _, _]) (vs' := [_, _, _, _, _, _, _, _, _, _, _]) [0, 1, 2, 3, 4, 5, 6, 7] [0, 1, 2, 3, 4, 5, 6, 7, 8, 9, 10] 0 Y Y Y Y (jr (hsE [0, 1, 2, 3, 4, 5, 6, 7] [0, 2, 3, 4, 5, 6, 7, 8, 9, 10] 0 Y Y Y Y) (jI (js ?_)))
    obtain rfl := sj hm
    exact jg (l_28.1, l_28.2) (⟨h148, h153⟩) (sE Y) (hsE [0, 1, 2, 3, 4, 5, 6, 7] [2, 0, 1, 5, 6, 7, 8, 9, 10] 0 Y Y Y Y)
   replace hm := ifE h118 hm
   refine jt ?_
   obtain rfl := sj hm
   exact jg (⟨none, 0, 0, []⟩, ⟨none, 0, 0, []⟩) (⟨VOK.nil, VOK.nil⟩) (sE Y) (hsE [0, 1, 2, 3, 4, 5, 6, 7] [2, 1, 0, 3, 4, 5, 6, 7, 8] 0 Y Y Y Y)
  intro l_20 hj
  obtain ⟨h116, h117⟩ := hj
  replace hm := h115
  refine ja (jp (qh [_, _] 5 isAgg25 sizeOf25 Y Y Y Y ?_))
  obtain ⟨t188, h154, hm⟩ := bindO hm
  refine jd [] [] Y Y Y Y Y Y Y call17 (fun w hh => jaV o_1.own11 (qA l_3.2.2.1.q) l_3.2.2.1.n l_3.2.2.1.cap (qA l_3.2.2.2.1.q) l_3.2.2.2.1.n l_3.2.2.2.1.cap w (HV.callee (S0 := []) (vs0 := []) hh (roC (hh.vsepA 3 Y h17) (roC (hh.vsepA 4 Y h18) roN))) (vlen RSt h17 Y) (AOK.q (vne h17)) (h17).hle (vlen RSp h18 Y) (AOK.q (vne h18)) (h18).hle h154) (fun l_29 h155 => ?_)
  obtain ⟨h156, h157⟩ := h155
  refine jT (S' := [_, _, _, _, _, _, _, _]) (vs' := [_, _, _, _, _, _, _, _, _, _, _]) [0, 1, 2, 3, 4, 5, 6, 7] [0, 1, 2, 3, 4, 5, 6, 7, 8, 9, 10] 0 Y Y Y Y (je Y Y (kt Y Y Y (kt Y Y Y ?_)))
  refine ju (fun w => zeroValue28 w) Y (fun b_32 h158 => ?_)
  refine jE (us := #[_, _]) (cs' := [_, _]) (S' := [_, _, _, _, _, _, _, _, _]) 0 (fun w => sizeOf28 w) Y Y Y Y Y Y Y (jm Y Y (j3 (qh [_, _] 6 isAgg25 sizeOf25 Y Y Y Y (qh [_, _] 8 isAgg28 sizeOf28 Y Y Y Y ?_))))
  obtain ⟨t194, h159, hm⟩ := bindO hm
  refine jd [] [] Y Y Y Y Y Y Y call18 (fun w hh => Zh o_1.own11 o_2 (qA l_3.2.2.1.q) l_3.2.2.1.n l_3.2.2.1.cap (qA l_3.2.2.2.1.q) l_3.2.2.2.1.n l_3.2.2.2.1.cap (qA l_12.2.1.q) l_12.2.1.n l_12.2.1.cap (qA l_12.2.2.q) l_12.2.2.n l_12.2.2.cap w (HV.callee (S0 := []) (vs0 := []) hh (roC (hh.vsepA 5 Y h17) (roC (hh.vsepA 6 Y h18) (roC (hh.vsepA 9 Y h91) (roC (hh.vsepA 10 Y h92) roN))))) (vlen RSt h17 Y) (AOK.q (vne h17)) (h17).hle (vlen RSp h18 Y) (AOK.q (vne h18)) (h18).hle (vlen RI h91 Y) (AOK.q (vne h91)) (h91).hle (vlen RI h92 Y) (AOK.q (vne h92)) (h92).hle h159) (fun l_30 h160 => ?_)
  refine je Y Y (kt Y Y Y (kt Y Y Y (jm Y Y (jm Y Y (j3 (qh [_, _] 6 isAgg25 sizeOf25 Y Y Y Y (jM 0 runUnderlying30 Y sizeOf4 Y Y ?_)))))))
  refine jS 3 isAgg4 Y Y Y Y (je Y Y (jc Y Y Y (fun _ _ => jG (vs := [(0, _), (1, _)]) (cells := [_, _]) Y Y) ?_))
  obtain ⟨t203, h161, hm⟩ := bindO hm
  refine jd [] [] Y Y Y Y Y Y Y call19 (fun w hh => YM o_1.own11 (⟨l2.tenants, t69⟩ : Lack) (qA l_3.2.2.1.q) l_3.2.2.1.n l_3.2.2.1.cap (qA l_3.2.2.2.1.q) l_3.2.2.2.1.n l_3.2.2.2.1.cap (qA l_18.q) l_18.n l_18.cap w (HV.callee (S0 := []) (vs0 := []) hh (roC (hh.vsepA 5 Y h17) (roC (hh.vsepA 6 Y h18) (roC (hh.vsepA 2 Y h110) roN)))) (vlen RSt h17 Y) (AOK.q (vne h17)) (h17).hle (vlen RSp h18 Y) (AOK.q (vne h18)) (h18).hle (vlen RI h110 Y) (AOK.q (vne h110)) (h110).hle h161) (fun l_31 h162 => ?_)
  refine je Y Y (kt Y Y Y (kt Y Y Y (jm Y Y (jm Y Y (j3 (qh [_, _] 6 isAgg25 sizeOf25 Y Y Y Y (je Y Y ?_)))))))
  refine qh [_, _] 2 isAgg32 sizeOf32 Y Y Y Y ?_
  obtain ⟨t210, h163, hm⟩ := bindO hm
  refine jd [] [] Y Y Y Y Y Y Y call20 (fun w hh => ZG o_1.own11 tenant3 carried4 (qA l_3.2.2.1.q) l_3.2.2.1.n l_3.2.2.1.cap (qA l_3.2.2.2.1.q) l_3.2.2.2.1.n l_3.2.2.2.1.cap w (HV.callee (S0 := []) (vs0 := []) hh (roC (hh.vsepA 5 Y h17) (roC (hh.vsepA 6 Y h18) roN))) (vlen RSt h17 Y) (AOK.q (vne h17)) (h17).hle (vlen RSp h18 Y) (AOK.q (vne h18)) (h18).hle h163) (fun l_32 h164 => ?_)
  obtain ⟨h165, h166⟩ := h164
  refine jT (S' := [_, _, _, _, _, _, _, _, _]) (vs' := [_, _, _, _, _, _, _, _, _, _, _, _, _]) [0, 1, 2, 3, 4, 5, 6, 7, 8] [0, 1, 2, 3, 4, 5, 6, 7, 8, 9, 10, 11, 12] 0 Y Y Y Y ?_
  refine je Y Y (kt Y Y Y (kt Y Y Y ?_))
  refine ju (fun w => zeroValue25 w) Y (fun b_33 h167 => ?_)
  refine jE (us := #[_, _]) (cs' := [_, _]) (S' := [_, _, _, _, _, _, _, _, _, _]) 0 (fun w => sizeOf25 w) Y Y Y Y Y Y Y (jm Y Y (jo (jk (jk ?_))))
  obtain ⟨o_7, h168, h169⟩ := bindO hm
  refine jD (ι := Unit) (fun l_33 => True) (fun l_33 => [(5, ptr b 0), (6, ptr b_1 0), (7, ptr b_2 0), (11, ptr l_3.1 0), (12, ptr l_3.2.1 0), (13, ptr l_12.1 0), (14, sL l_18), (16, .int .i64 o_3.a16), (20, .int .i64 o_3.lo20), (25, ptr b_32 0), (31, ptr b_33 0), (260, .bool o_7)]) (fun l_33 => [kc b_33 #[sL l_32.1, sL l_32.2] 25, kc b_32 #[sL l_29.1, sL l_29.2] 28, kc b_31 #[sL l_20.1, sL l_20.2] 25, kc b_3 #[.int .i64 carried4.lo, .int .i64 carried4.hi] 32, kc b_2 #[.bool l2.tenants, .slice qa4 na4 ca4] 30, kc b_1 #[.slice qa2 na2 ca2, .slice qa3 na3 ca3] 28, kc b #[.slice qa0 na0 ca0, .slice qa1 na1 ca1] 25, kc l_3.1 #[sL l_3.2.2.1, sL l_3.2.2.2.1] 25, kc l_3.2.1 #[sL l_3.2.2.2.2.1, sL l_3.2.2.2.2.2] 38, kc l_12.1 #[sL l_12.2.1, sL l_12.2.2] 28]) (fun l_33 => [vL 3 l_18 (RI.enc t69), vL 85 l_32.1 (RSt.enc t210.r0.strips), vL 32 l_32.2 (RSp.enc t210.r0.carried), vL 3 l_29.1 (RI.enc t188.r0.strips), vL 3 l_29.2 (RI.enc t188.r0.tenants), vL 85 l_20.1 (RSt.enc o_3.want23_strips), vL 32 l_20.2 (RSp.enc o_3.want23_carried), vL 85 l_3.2.2.1 (RSt.enc o_1.own11.strips), vL 32 l_3.2.2.2.1 (RSp.enc o_1.own11.carried), vL 98 l_3.2.2.2.2.1 (RSt.enc o_1.x12.strips), vL 32 l_3.2.2.2.2.2 (RSp.enc o_1.x12.carried), vL 3 l_12.2.1 (RI.enc o_2.strips), vL 3 l_12.2.2 (RI.enc o_2.tenants)]) ?_ ?_
  ·replace hm := h168
   refine jh (je Y Y (je Y Y (jc Y Y Y (fun _ _ => k5 Y Y) (je Y Y ?_))))
   refine jH 216 Y (fun h170 => ?_) (fun h170 => ?_)
   ·replace hm := ifF (of_ndec_true h170) hm
    refine g_k Y Y Y Y (g_k Y Y Y Y (g_k Y Y Y Y (j8 Y Y Y (je Y Y (g_k Y Y Y Y (g_k Y Y Y Y (g_k Y Y Y Y ?_)))))))
    refine j8 Y Y Y (je Y Y (g_k Y Y Y Y (g_k Y Y Y Y (g_k Y Y Y Y (j8 Y Y Y (je Y Y (g_k Y Y Y Y ?_)))))))
    refine g_k Y Y Y Y (g_k Y Y Y Y (j8 Y Y Y (je Y Y (g_k Y Y Y Y (g_k Y Y Y Y (g_k Y Y Y Y (j8 Y Y Y ?_)))))))
    refine je Y Y (g_k Y Y Y Y (g_k Y Y Y Y (g_k Y Y Y Y (g_k Y Y Y Y (j8 Y Y Y (je Y Y (g_k Y Y Y Y ?_)))))))
    refine g_k Y Y Y Y (g_k Y Y Y Y ?_)
    refine jx Y Y Y Y Y ?_
    refine jx Y Y Y Y Y ?_
    refine jx Y Y Y Y Y ?_
    refine jx Y Y Y Y Y ?_
    refine jx Y Y Y Y Y ?_
    refine jx Y Y Y Y Y ?_
    refine jx Y Y Y Y Y ?_
    refine jx Y Y Y Y Y ?_
    refine g_k Y Y Y Y (j8 Y Y Y (jv ?_))
    obtain rfl := sj hm
    exact jg () (trivial) (sE Y) (hsE [0, 1, 2, 3, 4, 5, 6, 7, 8, 9] [4, 0, 1, 2, 3, 5, 6, 7, 8, 9, 10, 11, 12] 0 Y Y Y Y)
   replace hm := ifT (of_ndec_false h170) hm
   refine jb Y Y (je Y Y (jb Y Y (je Y Y (jb Y Y (jc Y Y Y (fun _ _ => k5 Y Y) (ky Y Y Y (je Y Y ?_)))))))
   refine jH 221 Y (fun h171 => ?_) (fun h171 => ?_)
   ·replace hm := ifF (of_ndec_true h171) hm
    refine g_k Y Y Y Y (g_k Y Y Y Y (g_k Y Y Y Y (j8 Y Y Y (je Y Y (g_k Y Y Y Y (g_k Y Y Y Y (g_k Y Y Y Y ?_)))))))
    refine j8 Y Y Y (je Y Y (g_k Y Y Y Y (g_k Y Y Y Y (g_k Y Y Y Y (j8 Y Y Y (je Y Y (g_k Y Y Y Y ?_)))))))
    refine g_k Y Y Y Y (g_k Y Y Y Y (j8 Y Y Y (je Y Y (g_k Y Y Y Y (g_k Y Y Y Y (g_k Y Y Y Y (g_k Y Y Y Y ?_)))))))
    refine j8 Y Y Y (je Y Y (g_k Y Y Y Y (g_k Y Y Y Y (g_k Y Y Y Y ?_))))
    refine jx Y Y Y Y Y ?_
    refine jx Y Y Y Y Y ?_
    refine jx Y Y Y Y Y ?_
    refine jx Y Y Y Y Y ?_
    refine jx Y Y Y Y Y ?_
    refine jx Y Y Y Y Y ?_
    refine jx Y Y Y Y Y ?_
    refine jx Y Y Y Y Y ?_
    refine g_k Y Y Y Y (j8 Y Y Y (jv ?_))
    obtain rfl := sj hm
    exact jg () (trivial) (sE Y) (hsE [0, 1, 2, 3, 4, 5, 6, 7, 8, 9] [4, 0, 1, 2, 3, 5, 6, 7, 8, 9, 10, 11, 12] 0 Y Y Y Y)
   replace hm := ifT (of_ndec_false h171) hm
   refine jb Y Y (je Y Y (jb Y Y (je Y Y (jb Y Y (jc Y Y Y (fun _ _ => k5 Y Y) (ky Y Y Y (je Y Y ?_)))))))
   refine jH 226 Y (fun h172 => ?_) (fun h172 => ?_)
   ·replace hm := ifF (of_ndec_true h172) hm
    refine g_k Y Y Y Y (g_k Y Y Y Y (g_k Y Y Y Y (j8 Y Y Y (je Y Y (g_k Y Y Y Y (g_k Y Y Y Y (g_k Y Y Y Y ?_)))))))
    refine j8 Y Y Y (je Y Y (g_k Y Y Y Y (g_k Y Y Y Y (g_k Y Y Y Y (j8 Y Y Y (je Y Y (g_k Y Y Y Y ?_)))))))
    refine g_k Y Y Y Y (g_k Y Y Y Y (g_k Y Y Y Y (j8 Y Y Y (je Y Y (g_k Y Y Y Y (g_k Y Y Y Y (g_k Y Y Y Y ?_)))))))
    refine jx Y Y Y Y Y ?_
    refine jx Y Y Y Y Y ?_
    refine jx Y Y Y Y Y ?_
    refine jx Y Y Y Y Y ?_
    refine jx Y Y Y Y Y ?_
    refine jx Y Y Y Y Y ?_
    refine jx Y Y Y Y Y ?_
    refine jx Y Y Y Y Y ?_
    refine g_k Y Y Y Y (j8 Y Y Y (jv ?_))
    obtain rfl := sj hm
    exact jg () (trivial) (sE Y) (hsE [0, 1, 2, 3, 4, 5, 6, 7, 8, 9] [4, 0, 1, 2, 3, 5, 6, 7, 8, 9, 10, 11, 12] 0 Y Y Y Y)
   replace hm := ifT (of_ndec_false h172) hm
   refine jb Y Y (je Y Y (jb Y Y (je Y Y (jb Y Y (jc Y Y Y (fun _ _ => k5 Y Y) (ky Y Y Y (je Y Y ?_)))))))
   refine jH 231 Y (fun h173 => ?_) (fun h173 => ?_)
   ·replace hm := ifF (of_ndec_true h173) hm
    refine g_k Y Y Y Y (g_k Y Y Y Y (g_k Y Y Y Y (j8 Y Y Y (je Y Y (g_k Y Y Y Y (g_k Y Y Y Y (g_k Y Y Y Y ?_)))))))
    refine j8 Y Y Y (je Y Y (g_k Y Y Y Y (g_k Y Y Y Y (g_k Y Y Y Y (g_k Y Y Y Y (j8 Y Y Y (je Y Y ?_)))))))
    refine g_k Y Y Y Y (g_k Y Y Y Y (g_k Y Y Y Y ?_))
    refine jx Y Y Y Y Y ?_
    refine jx Y Y Y Y Y ?_
    refine jx Y Y Y Y Y ?_
    refine jx Y Y Y Y Y ?_
    refine jx Y Y Y Y Y ?_
    refine jx Y Y Y Y Y ?_
    refine jx Y Y Y Y Y ?_
    refine jx Y Y Y Y Y ?_
    refine g_k Y Y Y Y (j8 Y Y Y (jv ?_))
    obtain rfl := sj hm
    exact jg () (trivial) (sE Y) (hsE [0, 1, 2, 3, 4, 5, 6, 7, 8, 9] [4, 0, 1, 2, 3, 5, 6, 7, 8, 9, 10, 11, 12] 0 Y Y Y Y)
   replace hm := ifT (of_ndec_false h173) hm
   refine jb Y Y (je Y Y (jb Y Y (je Y Y (jb Y Y (jc Y Y Y (fun _ _ => k5 Y Y) (ky Y Y Y (je Y Y ?_)))))))
   refine jH 236 Y (fun h174 => ?_) (fun h174 => ?_)
   ·replace hm := ifF (of_ndec_true h174) hm
    refine g_k Y Y Y Y (g_k Y Y Y Y (g_k Y Y Y Y (j8 Y Y Y (je Y Y (g_k Y Y Y Y (g_k Y Y Y Y (g_k Y Y Y Y ?_)))))))
    refine g_k Y Y Y Y (j8 Y Y Y (je Y Y (g_k Y Y Y Y (g_k Y Y Y Y (g_k Y Y Y Y ?_)))))
    refine jx Y Y Y Y Y ?_
    refine jx Y Y Y Y Y ?_
    refine jx Y Y Y Y Y ?_
    refine jx Y Y Y Y Y ?_
    refine jx Y Y Y Y Y ?_
    refine jx Y Y Y Y Y ?_
    refine jx Y Y Y Y Y ?_
    refine jx Y Y Y Y Y ?_
    refine g_k Y Y Y Y (j8 Y Y Y (jv ?_))
    obtain rfl := sj hm
    exact jg () (trivial) (sE Y) (hsE [0, 1, 2, 3, 4, 5, 6, 7, 8, 9] [4, 0, 1, 2, 3, 5, 6, 7, 8, 9, 10, 11, 12] 0 Y Y Y Y)
   replace hm := ifT (of_ndec_false h174) hm
   refine jb Y Y (je Y Y (jb Y Y (je Y Y (jb Y Y (jc Y Y Y (fun _ _ => k5 Y Y) (ky Y Y Y (je Y Y ?_)))))))
   refine jH 241 Y (fun h175 => ?_) (fun h175 => ?_)
   ·replace hm := ifF (of_ndec_true h175) hm
    refine g_k Y Y Y Y (g_k Y Y Y Y (g_k Y Y Y Y (g_k Y Y Y Y (j8 Y Y Y (je Y Y (g_k Y Y Y Y (g_k Y Y Y Y ?_)))))))
    refine g_k Y Y Y Y ?_
    refine jx Y Y Y Y Y ?_
    refine jx Y Y Y Y Y ?_
    refine jx Y Y Y Y Y ?_
    refine jx Y Y Y Y Y ?_
    refine jx Y Y Y Y Y ?_
    refine jx Y Y Y Y Y ?_
    refine jx Y Y Y Y Y ?_
    refine jx Y Y Y Y Y ?_
    refine g_k Y Y Y Y (j8 Y Y Y (jv ?_))
    obtain rfl := sj hm
    exact jg () (trivial) (sE Y) (hsE [0, 1, 2, 3, 4, 5, 6, 7, 8, 9] [4, 0, 1, 2, 3, 5, 6, 7, 8, 9, 10, 11, 12] 0 Y Y Y Y)
   replace hm := ifT (of_ndec_false h175) hm
   refine jb Y Y (qh [_, _] 0 isAgg25 sizeOf25 Y Y Y Y (jb Y Y (qh [_, _] 2 isAgg25 sizeOf25 Y Y Y Y (jb Y Y ?_))))
   obtain ⟨t244, h176, hm⟩ := bindO hm
   refine jd [] [] Y Y Y Y Y Y Y call21 (fun w hh => jah t210.r0 (⟨o_3.want23_strips, o_3.want23_carried⟩ : Scalps) (qA l_32.1.q) l_32.1.n l_32.1.cap (qA l_32.2.q) l_32.2.n l_32.2.cap (qA l_20.1.q) l_20.1.n l_20.1.cap (qA l_20.2.q) l_20.2.n l_20.2.cap w (HV.callee (S0 := []) (vs0 := []) hh (roC (hh.vsepA 0 Y h165) (roC (hh.vsepA 1 Y h166) (roC (hh.vsepA 5 Y h116) (roC (hh.vsepA 6 Y h117) roN))))) (vlen RSt h165 Y) (AOK.q (vne h165)) (h165).hle (vlen RSp h166 Y) (AOK.q (vne h166)) (h166).hle (vlen RSt h116 Y) (AOK.q (vne h116)) (h116).hle (vlen RSp h117 Y) (AOK.q (vne h117)) (h117).hle h176) (fun l_34 h177 => ?_)
   refine jb Y Y (jc Y Y Y (fun _ _ => kV Y) (ky Y Y Y (je Y Y ?_)))
   refine jH 247 Y (fun h178 => ?_) (fun h178 => ?_)
   ·replace hm := ifT (h178) hm
    refine g_k Y Y Y Y (g_k Y Y Y Y (g_k Y Y Y Y ?_))
    refine jx Y Y Y Y Y ?_
    refine jx Y Y Y Y Y ?_
    refine jx Y Y Y Y Y ?_
    refine jx Y Y Y Y Y ?_
    refine jx Y Y Y Y Y ?_
    refine jx Y Y Y Y Y ?_
    refine jx Y Y Y Y Y ?_
    refine jx Y Y Y Y Y ?_
    refine g_k Y Y Y Y (j8 Y Y Y (jv ?_))
    obtain rfl := sj hm
    exact jg () (trivial) (sE Y) (hsE [0, 1, 2, 3, 4, 5, 6, 7, 8, 9] [4, 0, 1, 2, 3, 5, 6, 7, 8, 9, 10, 11, 12] 0 Y Y Y Y)
   replace hm := ifN h178 hm
   refine jb Y Y (je Y Y (jb Y Y (jc Y Y Y (fun _ _ => k5 Y Y) (jb Y Y (je Y Y ?_)))))
   refine jH 250 Y (fun h179 => ?_) (fun h179 => ?_)
   ·replace hm := ifF (of_ndec_true h179) hm
    refine jb Y Y (jM 0 runUnderlying28 Y sizeOf26 Y Y (jb Y Y (jS 1 isAgg26 Y Y Y Y (jb Y Y (jc Y Y Y (fun w _ => QC (vlen RI h156 Y) (runUnderlying26 w) Y) (jb Y Y (jM 1 runUnderlying28 Y sizeOf26 Y Y ?_)))))))
    refine jb Y Y (jS 1 isAgg26 Y Y Y Y (jb Y Y (jc Y Y Y (fun w _ => QC (vlen RI h157 Y) (runUnderlying26 w) Y) (jb Y Y ?_))))
    obtain ⟨t257, h180, hm⟩ := bindO hm
    refine kS h180 Y Y Y (jb Y Y (jc Y Y Y (fun _ _ => JU Y Y) (jb Y Y (j8 Y Y Y (ky Y Y Y (jv ?_))))))
    obtain rfl := sj hm
    exact jg () (trivial) (sE Y) (hsE [0, 1, 2, 3, 4, 5, 6, 7, 8, 9] [4, 0, 1, 2, 3, 5, 6, 7, 8, 9, 10, 11, 12] 0 Y Y Y Y)
   replace hm := ifT (of_ndec_false h179) hm
   refine g_k Y Y Y Y (g_k Y Y Y Y (g_k Y Y Y Y (g_k Y Y Y Y (g_k Y Y Y Y (g_k Y Y Y Y (g_k Y Y Y Y (g_k Y Y Y Y ?_)))))))
   refine jb Y Y (ky Y Y Y (ky Y Y Y (jv ?_)))
   obtain rfl := sj hm
   exact jg () (trivial) (sE Y) (hsE [0, 1, 2, 3, 4, 5, 6, 7, 8, 9] [4, 0, 1, 2, 3, 5, 6, 7, 8, 9, 10, 11, 12] 0 Y Y Y Y)
  intro l_33 hj
  replace hm := h169
  refine ja ?_
  refine jq Y (fun h181 => ?_) (fun h181 => ?_)
  ·replace hm := ifT (h181) hm
   refine jp (jm Y Y (jo (jw (jf ?_))))
   obtain rfl := sj hm
   refine jn Y (fun w hh => (.tmp Y .nil)) (fun w hh => ⟨(), rfl, trivial, hh.se [] [] 5 Y Y Y rfl⟩)
  replace hm := ifN h181 hm
  refine jt (ja (jk ?_))
  obtain ⟨o_8, h182, h183⟩ := bindO hm
  refine jD (ι := Unit) (fun j => o_8 = .inl j) (fun j => [(5, ptr b 0), (6, ptr b_1 0), (7, ptr b_2 0), (11, ptr l_3.1 0), (13, ptr l_12.1 0), (14, sL l_18), (31, ptr b_33 0)]) (fun j => [kc b_33 #[sL l_32.1, sL l_32.2] 25, kc b_32 #[sL l_29.1, sL l_29.2] 28, kc b_31 #[sL l_20.1, sL l_20.2] 25, kc b_3 #[.int .i64 carried4.lo, .int .i64 carried4.hi] 32, kc b_2 #[.bool l2.tenants, .slice qa4 na4 ca4] 30, kc b_1 #[.slice qa2 na2 ca2, .slice qa3 na3 ca3] 28, kc b #[.slice qa0 na0 ca0, .slice qa1 na1 ca1] 25, kc l_3.1 #[sL l_3.2.2.1, sL l_3.2.2.2.1] 25, kc l_3.2.1 #[sL l_3.2.2.2.2.1, sL l_3.2.2.2.2.2] 38, kc l_12.1 #[sL l_12.2.1, sL l_12.2.2] 28]) (fun j => [vL 3 l_18 (RI.enc t69), vL 85 l_32.1 (RSt.enc t210.r0.strips), vL 32 l_32.2 (RSp.enc t210.r0.carried), vL 3 l_29.1 (RI.enc t188.r0.strips), vL 3 l_29.2 (RI.enc t188.r0.tenants), vL 85 l_20.1 (RSt.enc o_3.want23_strips), vL 32 l_20.2 (RSp.enc o_3.want23_carried), vL 85 l_3.2.2.1 (RSt.enc o_1.own11.strips), vL 32 l_3.2.2.2.1 (RSp.enc o_1.own11.carried), vL 98 l_3.2.2.2.2.1 (RSt.enc o_1.x12.strips), vL 32 l_3.2.2.2.2.2 (RSp.enc o_1.x12.carried), vL 3 l_12.2.1 (RI.enc o_2.strips), vL 3 l_12.2.2 (RI.enc o_2.tenants)]) ?_ ?_
  ·replace hm := h182
   refine jp (je Y Y (jc Y Y Y (fun _ _ => Kc Y Y) (jo ?_)))
   refine jq Y (fun h184 => ?_) (fun h184 => ?_)
   ·replace hm := ifD h184 hm
    refine jp (qh [_, _] 8 isAgg38 sizeOf38 Y Y Y Y (jM 0 runUnderlying28 Y sizeOf26 Y Y (jS 1 isAgg26 Y Y Y Y (jM 1 runUnderlying28 Y sizeOf26 Y Y (jS 1 isAgg26 Y Y Y Y ?_)))))
    obtain ⟨t269, h185, hm⟩ := bindO hm
    refine jd [] [] Y Y Y Y Y Y Y call15 (fun w hh => Zd o_1.x12 t188.r0.strips t188.r0.tenants (qA l_3.2.2.2.2.1.q) l_3.2.2.2.2.1.n l_3.2.2.2.2.1.cap (qA l_3.2.2.2.2.2.q) l_3.2.2.2.2.2.n l_3.2.2.2.2.2.cap (qA l_29.1.q) l_29.1.n l_29.1.cap (qA l_29.2.q) l_29.2.n l_29.2.cap w (HV.callee (S0 := []) (vs0 := []) hh (roC (hh.vsepA 9 Y h19) (roC (hh.vsepA 10 Y h20) (roC (hh.vsepA 3 Y h156) (roC (hh.vsepA 4 Y h157) roN))))) (vlen RSt h19 Y) (AOK.q (vne h19)) (h19).hle (vlen RSp h20 Y) (AOK.q (vne h20)) (h20).hle (vlen RI h156 Y) (AOK.q (vne h156)) (h156).hle (vlen RI h157 Y) (AOK.q (vne h157)) (h157).hle h185) (fun l_35 h186 => ?_)
    refine je Y Y (kt Y Y Y (kt Y Y Y (jm Y Y (jm Y Y (jo (jk ?_))))))
    obtain ⟨o_9, h187, h188⟩ := bindO hm
    refine jD (ι := Unit) (fun l_36 => True) (fun l_36 => [(5, ptr b 0), (6, ptr b_1 0), (7, ptr b_2 0), (11, ptr l_3.1 0), (13, ptr l_12.1 0), (14, sL l_18), (31, ptr b_33 0), (278, .bool o_9)]) (fun l_36 => [kc b_33 #[sL l_32.1, sL l_32.2] 25, kc b_32 #[sL l_29.1, sL l_29.2] 28, kc b_31 #[sL l_20.1, sL l_20.2] 25, kc b_3 #[.int .i64 carried4.lo, .int .i64 carried4.hi] 32, kc b_2 #[.bool l2.tenants, .slice qa4 na4 ca4] 30, kc b_1 #[.slice qa2 na2 ca2, .slice qa3 na3 ca3] 28, kc b #[.slice qa0 na0 ca0, .slice qa1 na1 ca1] 25, kc l_3.1 #[sL l_3.2.2.1, sL l_3.2.2.2.1] 25, kc l_3.2.1 #[sL l_3.2.2.2.2.1, sL l_3.2.2.2.2.2] 38, kc l_12.1 #[sL l_12.2.1, sL l_12.2.2] 28]) (fun l_36 => [vL 3 l_18 (RI.enc t69), vL 85 l_32.1 (RSt.enc t210.r0.strips), vL 32 l_32.2 (RSp.enc t210.r0.carried), vL 3 l_29.1 (RI.enc t188.r0.strips), vL 3 l_29.2 (RI.enc t188.r0.tenants), vL 85 l_20.1 (RSt.enc o_3.want23_strips), vL 32 l_20.2 (RSp.enc o_3.want23_carried), vL 85 l_3.2.2.1 (RSt.enc o_1.own11.strips), vL 32 l_3.2.2.2.1 (RSp.enc o_1.own11.carried), vL 98 l_3.2.2.2.2.1 (RSt.enc o_1.x12.strips), vL 32 l_3.2.2.2.2.2 (RSp.enc o_1.x12.carried), vL 3 l_12.2.1 (RI.enc o_2.strips), vL 3 l_12.2.2 (RI.enc o_2.tenants)]) ?_ ?_
    ·replace hm := h187
     refine jh (je Y Y (jc Y Y Y (fun _ _ => k5 Y Y) (je Y Y ?_)))
     refine jH 274 Y (fun h189 => ?_) (fun h189 => ?_)
     ·replace hm := ifF (of_ndec_true h189) hm
      refine g_k Y Y Y Y (g_k Y Y Y Y (g_k Y Y Y Y (j8 Y Y Y (jv ?_))))
      obtain rfl := sj hm
      exact jg () (trivial) (sE Y) (fun w hh => hh)
     replace hm := ifT (of_ndec_false h189) hm
     refine jb Y Y (je Y Y (jb Y Y (je Y Y (jb Y Y (jc Y Y Y (fun _ _ => k5 Y Y) (ky Y Y Y (jv ?_)))))))
     obtain rfl := sj hm
     exact jg () (trivial) (sE Y) (fun w hh => hh)
    intro l_36 hj
    replace hm := h188
    refine ja ?_
    refine jq Y (fun h190 => ?_) (fun h190 => ?_)
    ·replace hm := ifT (h190) hm
     refine jp (jm Y Y (jo (jw ?_)))
     obtain rfl := sj hm
     refine jf ?_
     replace hm := ocR h183
     refine jf ?_
     obtain rfl := sj hm
     refine jn Y (fun w hh => (.tmp Y .nil)) (fun w hh => ⟨(), rfl, trivial, hh.se [] [] 5 Y Y Y rfl⟩)
    replace hm := ifN h190 hm
    refine jt ?_
    obtain rfl := sj hm
    exact jg () (Y) (sE Y) (fun w hh => hh)
   replace hm := ifE h184 hm
   refine jt ?_
   obtain rfl := sj hm
   exact jg () (Y) (sE Y) (fun w hh => hh)
  intro j hj
  have h191 := hj
  subst h191
  replace hm := ocL h183
  refine ja (jp (jM 0 runUnderlying25 Y sizeOf22 Y Y (jS 0 isAgg22 Y Y Y Y ?_)))
  obtain ⟨r0_strips, hr0_strips, hm⟩ := bindO hm
  refine jae RSt (⟨0, (⟨0, 0⟩ : Span), (⟨0, 0⟩ : Span), (⟨0, 0⟩ : Span)⟩ : Strip) 1 (fun w => runUnderlying22 w) (fun w => zeroValue85 w) Y Y Y h165 Y Y (Option.some.inj hr0_strips) (fun h192 => ?_)
  refine jT (S' := [_, _, _, _, _, _, _, _, _, _]) (vs' := [_, _, _, _, _, _, _, _, _, _, _, _, _]) [0, 1, 2, 3, 4, 5, 6, 7, 8, 9] [0, 1, 2, 3, 4, 5, 6, 7, 8, 9, 10, 11, 12] 0 Y Y Y Y ?_
  refine j3 (jM 1 runUnderlying25 Y sizeOf23 Y Y (jS 0 isAgg23 Y Y Y Y ?_))
  obtain ⟨r0_carried_1, hr0_carried_1, hm⟩ := bindO hm
  refine jae RSp (⟨0, 0⟩ : Span) 2 (fun w => runUnderlying23 w) (fun w => zeroValue32 w) Y Y Y h166 Y Y (Option.some.inj hr0_carried_1) (fun h193 => ?_)
  refine jT (S' := [_, _, _, _, _, _, _, _, _, _]) (vs' := [_, _, _, _, _, _, _, _, _, _, _, _, _]) [0, 1, 2, 3, 4, 5, 6, 7, 8, 9] [0, 1, 2, 3, 4, 5, 6, 7, 8, 9, 10, 11, 12] 0 Y Y Y Y ?_
  refine jo (jk ?_)
  obtain ⟨o_10, h194, h195⟩ := bindO hm
  refine jD (ι := Unit) (fun l_37 => True) (fun l_37 => [(10, .bool o_10)]) (fun l_37 => [kc b_33 #[sL l_32.1, sL l_32.2] 25, kc b_32 #[sL l_29.1, sL l_29.2] 28, kc b_31 #[sL l_20.1, sL l_20.2] 25, kc b_3 #[.int .i64 carried4.lo, .int .i64 carried4.hi] 32, kc b_2 #[.bool l2.tenants, .slice qa4 na4 ca4] 30, kc b_1 #[.slice qa2 na2 ca2, .slice qa3 na3 ca3] 28, kc b #[.slice qa0 na0 ca0, .slice qa1 na1 ca1] 25, kc l_3.1 #[sL l_3.2.2.1, sL l_3.2.2.2.1] 25, kc l_3.2.1 #[sL l_3.2.2.2.2.1, sL l_3.2.2.2.2.2] 38, kc l_12.1 #[sL l_12.2.1, sL l_12.2.2] 28]) (fun l_37 => [vL 85 l_32.1 (RSt.enc r0_strips), vL 32 l_32.2 (RSp.enc r0_carried_1), vL 3 l_29.1 (RI.enc t188.r0.strips), vL 3 l_29.2 (RI.enc t188.r0.tenants), vL 85 l_20.1 (RSt.enc o_3.want23_strips), vL 32 l_20.2 (RSp.enc o_3.want23_carried), vL 85 l_3.2.2.1 (RSt.enc o_1.own11.strips), vL 32 l_3.2.2.2.1 (RSp.enc o_1.own11.carried), vL 98 l_3.2.2.2.2.1 (RSt.enc o_1.x12.strips), vL 32 l_3.2.2.2.2.2 (RSp.enc o_1.x12.carried), vL 3 l_12.2.1 (RI.enc o_2.strips), vL 3 l_12.2.2 (RI.enc o_2.tenants)]) ?_ ?_
  ·replace hm := h194
   refine jh (qh [_, _] 7 isAgg25 sizeOf25 Y Y Y Y (qh [_, _] 6 isAgg25 sizeOf25 Y Y Y Y ?_))
   obtain ⟨t285, h196, hm⟩ := bindO hm
   refine jd [] [] Y Y Y Y Y Y Y call21 (fun w hh => jah o_1.own11 s0 (qA l_3.2.2.1.q) l_3.2.2.1.n l_3.2.2.1.cap (qA l_3.2.2.2.1.q) l_3.2.2.2.1.n l_3.2.2.2.1.cap qa0 na0 ca0 qa1 na1 ca1 w (HV.callee (S0 := []) (vs0 := []) hh (roC (hh.vsepA 7 Y h17) (roC (hh.vsepA 8 Y h18) (roR hh 0 Y (roR hh 1 Y roN))))) (vlen RSt h17 Y) (AOK.q (vne h17)) (h17).hle (vlen RSp h18 Y) (AOK.q (vne h18)) (h18).hle hna0 hqa0 hla0 hna1 hqa1 hla1 h196) (fun l_38 h197 => ?_)
   refine je Y Y ?_
   refine jH 286 Y (fun h198 => ?_) (fun h198 => ?_)
   ·replace hm := ifT (h198) hm
    refine jb Y Y (jM 0 runUnderlying28 Y sizeOf26 Y Y (jb Y Y (jS 9 isAgg26 Y Y Y Y (jb Y Y (jM 0 runUnderlying28 Y sizeOf26 Y Y (jb Y Y (jS 5 isAgg26 Y Y Y Y ?_)))))))
    refine jb Y Y ?_
    obtain ⟨t291, h199, hm⟩ := bindO hm
    refine jd [] [] Y Y Y Y Y Y Y call22 (fun w hh => Ye o_2.strips m1.strips (qA l_12.2.1.q) l_12.2.1.n l_12.2.1.cap qa2 na2 ca2 w (HV.callee (S0 := []) (vs0 := []) hh (roC (hh.vsepA 11 Y h91) (roR hh 2 Y roN))) (vlen RI h91 Y) (AOK.q (vne h91)) (h91).hle hna2 hqa2 hla2 h199) (fun l_39 h200 => ?_)
    refine j8 Y Y Y (je Y Y ?_)
    refine jH 293 Y (fun h201 => ?_) (fun h201 => ?_)
    ·replace hm := ifT (h201) hm
     refine jb Y Y (jM 1 runUnderlying28 Y sizeOf26 Y Y (jb Y Y (jS 9 isAgg26 Y Y Y Y (jb Y Y (jM 1 runUnderlying28 Y sizeOf26 Y Y (jb Y Y (jS 5 isAgg26 Y Y Y Y ?_)))))))
     refine jb Y Y ?_
     obtain ⟨t298, h202, hm⟩ := bindO hm
     refine jd [] [] Y Y Y Y Y Y Y call22 (fun w hh => Ye o_2.tenants m1.tenants (qA l_12.2.2.q) l_12.2.2.n l_12.2.2.cap qa3 na3 ca3 w (HV.callee (S0 := []) (vs0 := []) hh (roC (hh.vsepA 12 Y h92) (roR hh 3 Y roN))) (vlen RI h92 Y) (AOK.q (vne h92)) (h92).hle hna3 hqa3 hla3 h202) (fun l_40 h203 => ?_)
     refine j8 Y Y Y (je Y Y ?_)
     refine jH 300 Y (fun h204 => ?_) (fun h204 => ?_)
     ·replace hm := ifT (h204) hm
      refine jb Y Y (je Y Y (jb Y Y (jM 1 runUnderlying30 Y sizeOf26 Y Y (jb Y Y (jS 4 isAgg26 Y Y Y Y (jb Y Y ?_))))))
      obtain ⟨t304, h205, hm⟩ := bindO hm
      refine jd [] [] Y Y Y Y Y Y Y call22 (fun w hh => Ye t69 l2.of_ (qA l_18.q) l_18.n l_18.cap qa4 na4 ca4 w (HV.callee (S0 := []) (vs0 := []) hh (roC (hh.vsepA 0 Y h110) (roR hh 4 Y roN))) (vlen RI h110 Y) (AOK.q (vne h110)) (h110).hle hna4 hqa4 hla4 h205) (fun l_41 h206 => ?_)
      refine j8 Y Y Y (je Y Y ?_)
      refine jH 306 Y (fun h207 => ?_) (fun h207 => ?_)
      ·replace hm := ifT (h207) hm
       refine jb Y Y ?_
       obtain ⟨t307, h208, hm⟩ := bindO hm
       refine jd [] [] Y Y Y Y Y Y Y call8 (fun w hh => ZJ  w (HV.callee (S0 := []) (vs0 := []) hh roN)  h208) (fun l_42 h209 => ?_)
       refine j8 Y Y Y (jm Y Y (jv ?_))
       obtain rfl := sj hm
       exact jg () (trivial) (sE Y) (hsE [0, 1, 2, 3, 4, 5, 6, 7, 8, 9] [1, 2, 3, 4, 5, 6, 7, 8, 9, 10, 11, 12] 0 Y Y Y Y)
      replace hm := ifN h207 hm
      refine g_k Y Y Y Y (ky Y Y Y (jm Y Y (jv ?_)))
      obtain rfl := sj hm
      exact jg () (trivial) (sE Y) (hsE [0, 1, 2, 3, 4, 5, 6, 7, 8, 9] [1, 2, 3, 4, 5, 6, 7, 8, 9, 10, 11, 12] 0 Y Y Y Y)
     replace hm := ifN h204 hm
     refine g_k Y Y Y Y (g_k Y Y Y Y (g_k Y Y Y Y (g_k Y Y Y Y (ky Y Y Y (je Y Y (g_k Y Y Y Y (ky Y Y Y ?_)))))))
     refine jm Y Y (jv ?_)
     obtain rfl := sj hm
     exact jg () (trivial) (sE Y) (hsE [0, 1, 2, 3, 4, 5, 6, 7, 8, 9] [1, 2, 3, 4, 5, 6, 7, 8, 9, 10, 11, 12] 0 Y Y Y Y)
    replace hm := ifN h201 hm
    refine g_k Y Y Y Y (g_k Y Y Y Y (g_k Y Y Y Y (g_k Y Y Y Y (g_k Y Y Y Y (ky Y Y Y (je Y Y (g_k Y Y Y Y ?_)))))))
    refine g_k Y Y Y Y (g_k Y Y Y Y (g_k Y Y Y Y (ky Y Y Y (je Y Y (g_k Y Y Y Y (ky Y Y Y (jm Y Y ?_)))))))
    refine jv ?_
    obtain rfl := sj hm
    exact jg () (trivial) (sE Y) (hsE [0, 1, 2, 3, 4, 5, 6, 7, 8, 9] [1, 2, 3, 4, 5, 6, 7, 8, 9, 10, 11, 12] 0 Y Y Y Y)
   replace hm := ifN h198 hm
   refine g_k Y Y Y Y (g_k Y Y Y Y (g_k Y Y Y Y (g_k Y Y Y Y (g_k Y Y Y Y (ky Y Y Y (je Y Y (g_k Y Y Y Y ?_)))))))
   refine g_k Y Y Y Y (g_k Y Y Y Y (g_k Y Y Y Y (g_k Y Y Y Y (ky Y Y Y (je Y Y (g_k Y Y Y Y (g_k Y Y Y Y ?_)))))))
   refine g_k Y Y Y Y (g_k Y Y Y Y (ky Y Y Y (je Y Y (g_k Y Y Y Y (ky Y Y Y (jm Y Y (jv ?_)))))))
   obtain rfl := sj hm
   exact jg () (trivial) (sE Y) (hsE [0, 1, 2, 3, 4, 5, 6, 7, 8, 9] [1, 2, 3, 4, 5, 6, 7, 8, 9, 10, 11, 12] 0 Y Y Y Y)
  intro l_37 hj
  replace hm := h195
  refine ja (jw ?_)
  obtain rfl := sj hm
  refine jn Y (fun w hh => (.tmp Y .nil)) (fun w hh => ⟨(), rfl, trivial, hh.se [] [] 5 Y Y Y rfl⟩)
end Go.Proofs.Ws

namespace Go.Proofs.Ws
open Go Go.Fw Go.Gx Go.Sp
theorem hasZ_iff {l : List Int} {v : Nat} : hasZ l v = true ↔ (v : Int) ∈ l := by
  unfold hasZ
  rw [List.any_eq_true]
  constructor
  · rintro ⟨x, h1, h2⟩
    rw [of_decide_eq_true h2]; exact h1
  · intro h; exact ⟨_, h, decide_eq_true rfl⟩
def manyL (s : Scalps) (l : Lack) : Int := if l.tenants = true then (s.carried.length : Int) else (s.strips.length : Int)
def showR (s : Scalps) (mp : List (Pair × Bool)) (l : Lack) : kx :=
  if (l.of_.all fun x => inb x 0 (manyL s l - 1)) = true then
    if (decide (l.of_.length ≠ 0) && ascB l.of_) = true then
      if lackV s mp l < 1 then ⟨0, 8⟩ else ⟨lackV s mp l, 0⟩
    else ⟨0, 4⟩
  else ⟨0, 1⟩
theorem jaH {s : Scalps} (hs : s.carried.length < 1000) {l : List Int} (hl : l.length < 100000) : yw l s = some (l.all fun x => inb x 0 ((s.carried.length : Int) - 1)) := by
  have := any_loop l 0 (fun x => qD x s) (fun x => !inb x 0 ((s.carried.length : Int) - 1)) (by omega) (fun x _ => by unfold qD; rw [QQ hs]; rfl) (f := qd l s) (fun s => rfl)
  unfold yw kr kM
  rw [this, Option.bind_some, not_any_not]
theorem jaP {s : Scalps} (hs : s.strips.length < 1000) {l : List Int} (hl : l.length < 100000) : yt l s = some (l.all fun x => inb x 0 ((s.strips.length : Int) - 1)) := by
  have := any_loop l 0 (fun x => qz x s) (fun x => !inb x 0 ((s.strips.length : Int) - 1)) (by omega) (fun x _ => by unfold qz; rw [jba hs]; rfl) (f := qa l s) (fun s => rfl)
  unfold yt kq kN
  rw [this, Option.bind_some, not_any_not]
theorem Shows_spec {s : Scalps} (h : Right s) {mp : List (Pair × Bool)} (hmp : kP s = some (.inr mp)) {l : Lack} (hl : l.of_.length < 100000) : zK s l = some (showR s mp l) := by
  have h6 := h.net.s6; have h5 := h.net.c5
  unfold zK showR manyL
  rw [hmp, Option.bind_some, oc_inr]
  by_cases ht : l.tenants = true
  · rw [if_pos ht, jaH (by omega) hl, Option.bind_some, not_true_if, if_pos ht]
    split
    · rw [Zj hl, Option.bind_some, not_true_if, Yu h hl, Option.bind_some, Option.bind_some]
      split
      · split <;> rfl
      · rfl
    · rfl
  · rw [if_neg ht, jaP (by omega) hl, Option.bind_some, not_true_if, if_neg ht]
    split
    · rw [Zj hl, Option.bind_some, not_true_if, Yu h hl, Option.bind_some, Option.bind_some]
      split
      · split <;> rfl
      · rfl
    · rfl
theorem Shows_wrong {s : Scalps} (h : chk s ≠ 0) (l : Lack) : zK s l = some ⟨0, chk s⟩ := by
  unfold zK
  rw [Kx h, Option.bind_some, oc_inl]
  split <;> rfl
end Go.Proofs.Ws

namespace Go.Proofs.Ws
open Go Go.Fw Go.Gx Go.Sp
set_option linter.unusedVariables false
theorem all_find {n : Nat} {p : Nat → Bool} : (List.range n).all p = ((List.range n).find? fun k => !p k).isNone := by
  rw [Bool.eq_iff_iff, List.all_eq_true, Option.isNone_iff_eq_none, List.find?_eq_none]
  constructor
  · intro h x hx; simp [h x hx]
  · intro h x hx; simpa using h x hx
theorem le60 {s : Scalps} (h : Right s) {y : Nat → Nat → Int} (hy : FitsS s y) {t k : Nat} (ht : t < s.carried.length) (hk : k < s.strips.length) : y t k ≤ 60 := by
  have a := sumTo_mem_le (f := y t) (n := s.strips.length) (j := k) (fun i hi => (hy.pos t i ht hi).1) hk
  have b := (hy.ten t ht).2
  have c := hOf_ok h.net ht
  have e : sumTo (fun k => y t k) s.strips.length = sumTo (y t) s.strips.length := rfl
  omega
end Go.Proofs.Ws

namespace Go.Proofs.Ws
open Go Go.Fw Go.Gx Go.Sp
set_option maxRecDepth 100000 in
theorem awake_eq : m_l_awake = some true := by decide +kernel
end Go.Proofs.Ws

namespace Go.Proofs.Ws
open Go Go.Fw Go.Gx Go.Sp
set_option linter.unusedVariables false
theorem gone_at {s : Scalps} (h : Right s) {k : Nat} (hk : k < s.strips.length) : j4 (s.strips.getD k default) = some (gOf s.strips k) := by
  have hx : s.strips.getD k default = s.strips[k] := by simp [List.getD_eq_getElem?_getD, hk]
  obtain ⟨b1, b2, b3, b4⟩ := h.net.sp _ (List.getElem_mem hk)
  unfold gOf; rw [hx]; exact Ql b1 b2 b3
end Go.Proofs.Ws

namespace Go.Proofs.Ws
open Go Go.Fw Go.Gx Go.Sp
set_option linter.unusedVariables false
def farL (l : List Wy) (s : List Int) (c : Change) : List Int := s.set (eB l c).toNat (min (gI 0 s (eB l c)) (gI 0 s (eA l c) + eC l c))
theorem pot_res {l : List Wy} {π : Int → Int} (h : Pot π l) {c : Change} (hc : c ∈ res l) : π (eB l c) ≤ π (eA l c) + eC l c := by
  obtain ⟨hw, hr⟩ := res_mem.1 hc
  have hp := h _ (wy_mem hw)
  unfold eA eB eC
  unfold rm at hr
  cases hm : c.more with
  | true =>
    rw [hm] at hr
    simp only [if_true] at hr ⊢
    exact hp.1 (by omega)
  | false =>
    rw [hm] at hr
    simp only [Bool.false_eq_true, if_false] at hr ⊢
    have := hp.2 (by omega)
    omega
structure FarQ (l : List Wy) (π : Int → Int) (s : List Int) : Prop where
  len : s.length = 12
  lo : ∀ v, 0 ≤ v → v < 12 → π v ≤ gI 0 s v
  hi : ∀ v, gI 0 s v ≤ 0
theorem farL_get {l : List Wy} (hl : NetOK l) {s : List Int} (hs : s.length = 12) {c : Change} (hc : isWay l c) (v : Int) : gI 0 (farL l s c) v = if v = eB l c then min (gI 0 s (eB l c)) (gI 0 s (eA l c) + eC l c) else gI 0 s v := by
  have he := ends_in hl hc
  unfold farL
  rw [gI_set (by omega) (by omega)]
  rfl
theorem farQ_step {l : List Wy} (hl : NetOK l) {π : Int → Int} (hp : Pot π l) {s : List Int} (h : FarQ l π s) {c : Change} (hc : c ∈ res l) : FarQ l π (farL l s c) := by
  have hw := (res_mem.1 hc).1
  have he := ends_in hl hw
  refine ⟨by unfold farL; rw [List.length_set]; exact h.len, fun v h0 h1 => ?_, fun v => ?_⟩
  · rw [farL_get hl h.len hw]
    split
    · rename_i hv
      have a := h.lo (eB l c) he.2.1.1 he.2.1.2
      have b := h.lo (eA l c) he.1.1 he.1.2
      have d := pot_res hp hc
      rw [hv]; omega
    · exact h.lo v h0 h1
  · rw [farL_get hl h.len hw]
    split
    · have := h.hi (eB l c); omega
    · exact h.hi v
theorem farQ_fold {l : List Wy} (hl : NetOK l) {π : Int → Int} (hp : Pot π l) : ∀ (L : List Change), (∀ c, c ∈ L → c ∈ res l) → ∀ {s : List Int}, FarQ l π s → FarQ l π (L.foldl (farL l) s)
  | [], _, s, h => h
  | c :: L, hL, s, h => farQ_fold hl hp L (fun x hx => hL x (List.mem_cons_of_mem _ hx)) (farQ_step hl hp h (hL c (by simp)))
theorem fold_le {l : List Wy} (hl : NetOK l) : ∀ (L : List Change), (∀ c, c ∈ L → c ∈ res l) → ∀ {s : List Int}, s.length = 12 → (L.foldl (farL l) s).length = 12 ∧ ∀ v, gI 0 (L.foldl (farL l) s) v ≤ gI 0 s v
  | [], _, s, h => ⟨h, fun v => Int.le_refl _⟩
  | c :: L, hL, s, h => by
    have h1 : (farL l s c).length = 12 := by unfold farL; rw [List.length_set]; exact h
    have h2 := fold_le hl L (fun x hx => hL x (List.mem_cons_of_mem _ hx)) h1
    refine ⟨h2.1, fun v => Int.le_trans (h2.2 v) ?_⟩
    rw [farL_get hl h (res_mem.1 (hL c (by simp))).1]
    split
    · rename_i hv; rw [hv]; omega
    · exact Int.le_refl _
theorem fold_fix {l : List Wy} (hl : NetOK l) : ∀ (L : List Change), (∀ c, c ∈ L → c ∈ res l) → ∀ {s : List Int}, s.length = 12 → (∀ v, gI 0 (L.foldl (farL l) s) v = gI 0 s v) → ∀ c, c ∈ L → gI 0 s (eB l c) ≤ gI 0 s (eA l c) + eC l c
  | [], _, s, h, _, c, hc => by cases hc
  | d :: L, hL, s, h, hfix, c, hc => by
    have hw := (res_mem.1 (hL d (by simp))).1
    have h1 : (farL l s d).length = 12 := by unfold farL; rw [List.length_set]; exact h
    have hL' := fun x hx => hL x (List.mem_cons_of_mem d hx)
    have h2 := fold_le hl L hL' h1
    have hstep : ∀ v, gI 0 (farL l s d) v ≤ gI 0 s v := fun v => by
      rw [farL_get hl h hw]
      split
      · rename_i hv; rw [hv]; omega
      · exact Int.le_refl _
    have heq : ∀ v, gI 0 (farL l s d) v = gI 0 s v := fun v => by
      have a := hstep v
      have b := h2.2 v
      have e : gI 0 (L.foldl (farL l) (farL l s d)) v = gI 0 s v := hfix v
      omega
    rcases List.mem_cons.1 hc with rfl | hc
    · have := heq (eB l c)
      rw [farL_get hl h hw, if_pos rfl] at this
      omega
    · have ih := fold_fix hl L hL' h1 (fun v => by rw [heq]; exact hfix v) c hc
      rw [heq, heq] at ih
      exact ih
theorem jal {l : List Wy} (hl : NetOK l) {π : Int → Int} (hb : ∀ v, -1000000 ≤ π v) {s : List Int} (h : FarQ l π s) {c : Change} (hc : isWay l c) (R : Int) : zx c (eA l c) (eB l c) (eC l c) R s = some (farL l s c) := by
  have he := ends_in hl hc
  have hlen := h.len
  unfold zx
  have a := h.lo (eA l c) he.1.1 he.1.2
  have b := h.hi (eA l c)
  have d := hb (eA l c)
  rw [ix_gI 0 (by omega) (by omega), Option.bind_some, ix_gI 0 (by omega) (by omega), Option.bind_some, addc_eq (by omega), Option.bind_some, KZ, Option.bind_some, Option.bind_some, Option.bind_some]
  rfl
theorem Y7 {l : List Wy} (hl : NetOK l) {π : Int → Int} (hp : Pot π l) (hb : ∀ v, -1000000 ≤ π v) {s : List Int} (h : FarQ l π s) : ze l s = some ((res l).foldl (farL l) s) := by
  unfold ze
  have hlen := hl.1
  have key := iterM_run (f := qN l) (fun k => ⟨(k : Int), (resTo l k).foldl (farL l) s⟩) l.length (b := (res l).foldl (farL l) s) (fun k hk => ?_) ?_ FU (FU_lt (by omega))
  · simp only [resTo, List.range_zero, List.flatMap_nil, List.foldl_nil] at key
    have e : ((0 : Nat) : Int) = 0 := rfl
    rw [e] at key
    rw [key, Option.bind_some]
  · have hsub : ∀ c, c ∈ resTo l k → c ∈ res l := fun c hc => by
      unfold resTo at hc
      obtain ⟨i, hi, h2⟩ := List.mem_flatMap.1 hc
      unfold res
      exact List.mem_flatMap.2 ⟨i, List.mem_range.2 (by have := List.mem_range.1 hi; omega), h2⟩
    have h12 := farQ_fold hl hp (resTo l k) hsub h
    generalize hs : (resTo l k).foldl (farL l) s = t at h12
    unfold qN
    have hlt : (k : Int) < (l.length : Int) := by omega
    simp only [hlt, if_true]
    have step : ∀ (b : Bool) (u : List Int), FarQ l π u → ((qq l (⟨(k : Int), b⟩ : Change)).bind fun t32 => if 0 < t32.r3 then ((zx (⟨(k : Int), b⟩ : Change) t32.r0 t32.r1 t32.r2 t32.r3 u).bind fun t45 => some t45) else (some u)) = some (if 0 < rm l ⟨(k : Int), b⟩ then farL l u ⟨(k : Int), b⟩ else u) := fun b u hu => by
      rw [J6 hl (way_nat hk b), Option.bind_some]
      by_cases hr : 0 < rm l ⟨(k : Int), b⟩
      · simp only [hr, if_true]
        rw [jal hl hb hu (way_nat hk b), Option.bind_some]
      · simp only [hr, if_false]
    obtain ⟨u1, hu1⟩ : ∃ u1, u1 = if 0 < rm l ⟨(k : Int), true⟩ then farL l t ⟨(k : Int), true⟩ else t := ⟨_, rfl⟩
    obtain ⟨u2, hu2⟩ : ∃ u2, u2 = if 0 < rm l ⟨(k : Int), false⟩ then farL l u1 ⟨(k : Int), false⟩ else u1 := ⟨_, rfl⟩
    have hq1 : FarQ l π u1 := by
      rw [hu1]; split
      · rename_i hr; exact farQ_step hl hp h12 (res_mem.2 ⟨way_nat hk true, hr⟩)
      · exact h12
    have f1 : kh l ⟨(k : Int), t⟩ ⟨0, t⟩ = some (.inl ⟨1, u1⟩) := by
      unfold kh
      simp only [List.length_cons, List.length_nil]
      rw [if_pos (by decide)]
      have e : ix [true, false] (0 : Int) = some true := rfl
      rw [e, Option.bind_some, step true t h12, ← hu1, Option.bind_some]
      rfl
    have f2 : kh l ⟨(k : Int), t⟩ ⟨1, u1⟩ = some (.inl ⟨2, u2⟩) := by
      unfold kh
      simp only [List.length_cons, List.length_nil]
      rw [if_pos (by decide)]
      have e : ix [true, false] (1 : Int) = some false := rfl
      rw [e, Option.bind_some, step false u1 hq1, ← hu2, Option.bind_some]
      rfl
    have f3 : kh l ⟨(k : Int), t⟩ ⟨2, u2⟩ = some (.inr u2) := by
      unfold kh
      simp only [List.length_cons, List.length_nil]
      rw [if_neg (by decide)]
    have e : FU = (FU - 3) + 1 + 1 + 1 := by unfold FU; rfl
    rw [e, iterM_step f1, iterM_step f2, iterM_done f3, Option.bind_some, addc_eq (by omega), Option.bind_some]
    have hn : (resTo l (k + 1)).foldl (farL l) s = u2 := by
      rw [resTo_succ, List.foldl_append, List.foldl_append, hs, hu2, hu1]
      by_cases h1 : 0 < rm l ⟨(k : Int), true⟩ <;> by_cases h2 : 0 < rm l ⟨(k : Int), false⟩ <;> simp [h1, h2]
    rw [hn]
    rfl
  · unfold qN
    simp only [Int.lt_irrefl, if_false]
    rw [resTo_all]
theorem list12 {a b : List Int} (ha : a.length = 12) (hb : b.length = 12) (h : ∀ v, gI 0 a v = gI 0 b v) : a = b := by
  apply List.ext_getElem (by omega)
  intro i h1 h2
  have := h (i : Int)
  unfold gI at this
  rw [if_pos (by omega), if_pos (by omega)] at this
  simpa [List.getD_eq_getElem?_getD, h1, h2] using this
def slack (π : Int → Int) (s : List Int) : Int := sumTo (fun v => gI 0 s (v : Int) - π (v : Int)) 12
theorem jaq {l : List Wy} (hl : NetOK l) {π : Int → Int} (hp : Pot π l) (hb : ∀ v, -1000000 ≤ π v) (hneg : ∀ v, π v ≤ 0) :
    ∃ s, Q0 l = some s ∧ s.length = 12 ∧ Pot (gI 0 s) l ∧ (∀ v, gI 0 s v ≤ 0) ∧ ∀ ρ : Int → Int, Pot ρ l → (∀ v, -1000000 ≤ ρ v) → (∀ v, ρ v ≤ 0) → ∀ v, 0 ≤ v → v < 12 → ρ v ≤ gI 0 s v := by
  have hq0 : ∀ ρ : Int → Int, (∀ v, ρ v ≤ 0) → FarQ l ρ (List.replicate 12 0) := fun ρ hρ => ⟨by simp, fun v _ _ => by rw [gI_rep]; exact hρ v, fun v => by rw [gI_rep]; exact Int.le_refl _⟩
  have hsl : slack π (List.replicate 12 0) ≤ 12000000 := by
    unfold slack
    have := sumTo_le (f := fun v : Nat => gI 0 (List.replicate 12 (0 : Int)) (v : Int) - π (v : Int)) (g := fun _ => 1000000) (k := 12) (fun j _ => by
      have := hb (j : Int)
      rw [gI_rep]
      show (0 : Int) - π (j : Int) ≤ 1000000
      omega)
    have e := sumTo_bound (f := fun _ => 1000000) (b := 1000000) (n := 12) (fun _ _ => by omega)
    omega
  obtain ⟨b, hbq, s, rfl, h1, h2, h3⟩ : ∃ b, iterM FU (J8 l) (List.replicate 12 0) = some b ∧ ∃ s, b = .inr s ∧ FarQ l π s ∧ Pot (gI 0 s) l ∧ ∀ ρ : Int → Int, Pot ρ l → (∀ v, -1000000 ≤ ρ v) → (∀ v, ρ v ≤ 0) → FarQ l ρ s := by
    refine iterM_inv (f := J8 l) (fun s => FarQ l π s ∧ ∀ ρ : Int → Int, Pot ρ l → (∀ v, -1000000 ≤ ρ v) → (∀ v, ρ v ≤ 0) → FarQ l ρ s) (fun s => (slack π s).toNat) _ (fun s hs => ?_) FU _ (FU_lt (by omega)) ⟨hq0 π hneg, fun ρ _ _ hρ => hq0 ρ hρ⟩
    obtain ⟨hq, hall⟩ := hs
    unfold J8
    rw [Y7 hl hp hb hq, Option.bind_some]
    have hq' := farQ_fold hl hp (res l) (fun c hc => hc) hq
    by_cases heq : (res l).foldl (farL l) s = s
    · right
      rw [if_pos heq]
      refine ⟨_, rfl, _, rfl, hq', ?_, fun ρ hρ hb1 hρ2 => farQ_fold hl hρ (res l) (fun c hc => hc) (hall ρ hρ hb1 hρ2)⟩
      rw [heq]
      exact pot_of (fold_fix hl (res l) (fun c hc => hc) hq.len (fun v => by rw [heq]))
    · left
      rw [if_neg heq]
      refine ⟨_, rfl, ⟨hq', fun ρ hρ hb1 hρ2 => farQ_fold hl hρ (res l) (fun c hc => hc) (hall ρ hρ hb1 hρ2)⟩, ?_⟩
      have hle := fold_le hl (res l) (fun c hc => hc) hq.len
      have hlt : slack π ((res l).foldl (farL l) s) < slack π s := by
        have hle2 : slack π ((res l).foldl (farL l) s) ≤ slack π s := sumTo_le fun j _ => by have := hle.2 (j : Int); omega
        rcases Int.lt_or_eq_of_le hle2 with h | h
        · exact h
        · exfalso
          apply heq
          apply list12 hq'.len hq.len
          intro v
          by_cases hv : 0 ≤ v ∧ v < 12
          · have hj := sumTo_mem_le (f := fun j : Nat => (gI 0 s (j : Int) - π (j : Int)) - (gI 0 ((res l).foldl (farL l) s) (j : Int) - π (j : Int))) (n := 12) (j := v.toNat) (fun i _ => by have := hle.2 (i : Int); omega) (by omega)
            have hz : sumTo (fun j : Nat => (gI 0 s (j : Int) - π (j : Int)) - (gI 0 ((res l).foldl (farL l) s) (j : Int) - π (j : Int))) 12 = 0 := by
              have e : sumTo (fun j : Nat => (gI 0 s (j : Int) - π (j : Int)) - (gI 0 ((res l).foldl (farL l) s) (j : Int) - π (j : Int))) 12 = slack π s + sumTo (fun j : Nat => -1 * (gI 0 ((res l).foldl (farL l) s) (j : Int) - π (j : Int))) 12 := by
                unfold slack
                rw [← sumTo_add]
                exact sumTo_congr fun j _ => by omega
              rw [e, sumTo_mul]
              unfold slack at h ⊢
              omega
            rw [hz, show ((v.toNat : Nat) : Int) = v by omega] at hj
            have := hle.2 v
            omega
          · have hout : ∀ t : List Int, t.length = 12 → gI 0 t v = 0 := fun t ht => by
              unfold gI
              split
              · rw [List.getD_eq_getElem?_getD, List.getElem?_eq_none (by omega)]; rfl
              · rfl
            rw [hout _ hq'.len, hout _ hq.len]
      have hnn : 0 ≤ slack π ((res l).foldl (farL l) s) := sumTo_nonneg fun j hj => by have := hq'.lo (j : Int) (by omega) (by omega); omega
      omega
  refine ⟨s, ?_, h1.len, h2, h1.hi, fun ρ hρ hb1 hρ2 v h0 h12 => (h3 ρ hρ hb1 hρ2).lo v h0 h12⟩
  unfold Q0
  rw [hbq, Option.bind_some, oc_inr]
end Go.Proofs.Ws

namespace Go.Proofs.Ws
open Go Go.Fw Go.Gx Go.Sp
set_option linter.unusedVariables false
theorem far_range {l : List Wy} (hl : NetOK l) {s : List Int} (hs : s.length = 12) (hp : Pot (gI 0 s) l) (hneg : ∀ v, gI 0 s v ≤ 0) (hlo : ∀ v, -1000000 ≤ gI 0 s v)
    (hmax : ∀ ρ : Int → Int, Pot ρ l → (∀ v, -1000000 ≤ ρ v) → (∀ v, ρ v ≤ 0) → ∀ v, 0 ≤ v → v < 12 → ρ v ≤ gI 0 s v) : ∀ v, 0 ≤ v → v < 12 → -11 ≤ gI 0 s v := by
  intro v0 h0 h12
  by_cases hv : -11 ≤ gI 0 s v0
  · exact hv
  · exfalso
    have hgap : ∃ g : Nat, g < 12 ∧ ∀ v, 0 ≤ v → v < 12 → gI 0 s v ≠ -(g : Int) := by
      by_cases hx : ∃ g : Nat, g < 12 ∧ ∀ v, 0 ≤ v → v < 12 → gI 0 s v ≠ -(g : Int)
      · exact hx
      · exfalso
        have hall : ∀ g : Nat, ∃ v, g < 12 → 0 ≤ v ∧ v < 12 ∧ gI 0 s v = -(g : Int) := fun g => by
          by_cases hg : g < 12
          · by_cases hh : ∃ v, 0 ≤ v ∧ v < 12 ∧ gI 0 s v = -(g : Int)
            · obtain ⟨v, hh⟩ := hh; exact ⟨v, fun _ => hh⟩
            · exact absurd ⟨g, hg, fun v a b c => hh ⟨v, a, b, c⟩⟩ hx
          · exact ⟨0, fun h => absurd h hg⟩
        obtain ⟨f, hf⟩ := Classical.axiomOfChoice hall
        obtain ⟨i, j, hij, hj, he⟩ := pig_fun (n := 12) (fun g => if g < 12 then f g else v0) (fun j hj => by
          by_cases hj2 : j < 12
          · rw [if_pos hj2]; have := hf j hj2; omega
          · rw [if_neg hj2]; omega)
        have hi := hf i (by omega)
        rw [if_pos (show i < 12 by omega)] at he
        by_cases hj2 : j < 12
        · rw [if_pos hj2] at he
          have := hf j hj2
          rw [he] at hi
          omega
        · rw [if_neg hj2] at he
          rw [he] at hi
          omega
    obtain ⟨g, hg, hno⟩ := hgap
    have hpot : Pot (fun v => if gI 0 s v < -(g : Int) then gI 0 s v + 1 else gI 0 s v) l := by
      refine pot_of fun c hc => ?_
      have hw := (res_mem.1 hc).1
      have he := ends_in hl hw
      have hpc := pot_res hp hc
      have ha := hno (eA l c) he.1.1 he.1.2
      split
      · split
        · omega
        · omega
      · split
        · omega
        · exact hpc
    have := hmax _ hpot (fun v => by have := hlo v; split <;> omega) (fun v => by have := hneg v; split <;> omega) v0 h0 h12
    rw [if_pos (by omega)] at this
    omega
def pvI (m : Int) (x : Span) : Int := if 0 < m then m * x.lo else m * x.hi
def provS (s : Scalps) (mk mt : Nat → Int) : Int := sumTo (fun t => pvI (mt t) (hOf s.carried t)) s.carried.length + sumTo (fun k => pvI (mk k) (gOf s.strips k)) s.strips.length
def HoldS (s : Scalps) (mk mt : Nat → Int) : Prop := ∀ t k, t < s.carried.length → k < s.strips.length → reachB s.strips t k = true → mt t + mk k ≤ thC s t k
theorem pv_eq {mu goes : Int} {x : Span} (h : x.lo ≤ goes ∧ goes ≤ x.hi) (h1 : goes < x.hi → 0 ≤ mu) (h2 : x.lo < goes → mu ≤ 0) : pvI mu x = mu * goes := by
  unfold pvI
  split
  · have : goes = x.lo := by
      by_cases hh : x.lo < goes
      · have := h2 hh; omega
      · omega
    rw [this]
  · by_cases hz : mu = 0
    · rw [hz]; simp
    · have : goes = x.hi := by
        by_cases hh : goes < x.hi
        · have := h1 hh; omega
        · omega
      rw [this]
def mkF (far : List Int) (k : Nat) : Int := gI 0 far 0 - gI 0 far (1 + (k : Int))
def mtF (far : List Int) (t : Nat) : Int := gI 0 far (7 + (t : Int)) - gI 0 far 0
theorem far_marks {s : Scalps} (h : Right s) {mp : List (Pair × Bool)} (hm : MapOK s.strips mp) {cf : Pair → Option Int} (hc : CfIs s cf (thC s)) {l : List Wy} (hg : Good (laidS s.strips s.carried mp cf) l) (hw : Within l) {far : List Int} (hp : Pot (gI 0 far) l) :
    HoldS s (mkF far) (mtF far) ∧ provS s (mkF far) (mtF far) = costs l := by
  have hS := h.net
  obtain ⟨gs, ys, zs, e, hf, hcost⟩ := net_shares hS hg hw
  have hrnd := hg.rnd
  rw [e] at hrnd
  obtain ⟨r1, r2⟩ := round_sums hS.s6 hrnd
  have hfs := (fitsY_iff hm).1 hf
  have hmem := fun w => (laidG_mem (S := s.strips.length) (T := s.carried.length) (g := gOf s.strips) (h := hOf s.carried) (R := rOf mp) (c := cOf cf) (gs := gs) (ys := ys) (zs := zs) (w := w))
  have hcf : ∀ t k, t < s.carried.length → k < s.strips.length → cOf cf t k = thC s t k := fun t k ht hk => by unfold cOf; rw [(hc t k ht hk).1]; rfl
  have hstrip : ∀ k, k < s.strips.length → pvI (mkF far k) (gOf s.strips k) = mkF far k * gs k := fun k hk => by
    have hin : ({ stripW (gOf s.strips) k with goes := gs k } : Wy) ∈ l := by rw [e]; exact (hmem _).2 (.inl ⟨k, hk, rfl⟩)
    have hpw := hp _ hin
    have hww := hw _ hin
    have hlo := gOf_ok hS hk
    unfold stripW at hpw hww
    simp only at hpw hww
    refine pv_eq hww (fun h1 => ?_) (fun h2 => ?_)
    · have := hpw.1 h1; unfold mkF; omega
    · have := hpw.2 (by omega); unfold mkF; omega
  have hten : ∀ t, t < s.carried.length → pvI (mtF far t) (hOf s.carried t) = mtF far t * zs t := fun t ht => by
    have hin : ({ tenW (hOf s.carried) t with goes := zs t } : Wy) ∈ l := by rw [e]; exact (hmem _).2 (.inr (.inr ⟨t, ht, rfl⟩))
    have hpw := hp _ hin
    have hww := hw _ hin
    unfold tenW at hpw hww
    simp only at hpw hww
    refine pv_eq hww (fun h1 => ?_) (fun h2 => ?_)
    · have := hpw.1 h1; unfold mtF; omega
    · have := hpw.2 (by omega); unfold mtF; omega
  have hinner : ∀ t k, t < s.carried.length → k < s.strips.length → rOf mp t k = true → mtF far t + mkF far k ≤ thC s t k ∧ (0 < ys t k → mtF far t + mkF far k = thC s t k) := fun t k ht hk hr => by
    have hin : ({ innerW (cOf cf) t k with goes := ys t k } : Wy) ∈ l := by rw [e]; exact (hmem _).2 (.inr (.inl ⟨t, k, ht, hk, hr, rfl⟩))
    have hpw := hp _ hin
    have hyv : Yr (rOf mp) ys t k = ys t k := by unfold Yr; rw [if_pos hr]
    have h60 := le60 h hfs ht hk
    rw [hyv] at h60
    unfold innerW at hpw
    simp only at hpw
    have a := hpw.1 (by omega)
    rw [hcf t k ht hk] at a hpw
    refine ⟨by unfold mtF mkF; omega, fun h0 => ?_⟩
    have b := hpw.2 (by omega)
    unfold mtF mkF; omega
  refine ⟨fun t k ht hk hr => (hinner t k ht hk (by rw [rOf_reach hm hk]; exact hr)).1, ?_⟩
  rw [hcost]
  unfold provS countY
  rw [sumTo_congr (g := fun t => sumTo (fun k => mtF far t * Yr (rOf mp) ys t k) s.strips.length) (fun t ht => by rw [hten t ht, r2 t ht, sumTo_mul]),
    sumTo_congr (f := fun k => pvI (mkF far k) (gOf s.strips k)) (g := fun k => sumTo (fun t => mkF far k * Yr (rOf mp) ys t k) s.carried.length) (fun k hk => by rw [hstrip k hk, r1 k hk, sumTo_mul]), ← sumTo_comm (fun t k => mkF far k * Yr (rOf mp) ys t k), ← sumTo_add]
  refine sumTo_congr fun t ht => ?_
  rw [← sumTo_add]
  refine sumTo_congr fun k hk => ?_
  rw [← Int.add_mul, hcf t k ht hk]
  unfold Yr
  by_cases hr : rOf mp t k = true
  · rw [if_pos hr]
    have hpos := hfs.pos t k ht hk
    unfold Yr at hpos
    rw [if_pos hr] at hpos
    by_cases h0 : 0 < ys t k
    · rw [(hinner t k ht hk hr).2 h0]
    · have : ys t k = 0 := by omega
      rw [this]; simp
  · rw [if_neg hr]; simp
end Go.Proofs.Ws

namespace Go.Proofs.Ws
open Go Go.Fw Go.Gx Go.Sp
set_option linter.unusedVariables false
theorem Mark_spec {s : Scalps} (h : Right s) :
    (∃ far lo hi, Ko s = some ⟨⟨(List.range s.strips.length).map (mkF far), (List.range s.carried.length).map (mtF far)⟩, 0⟩ ∧ HoldS s (mkF far) (mtF far) ∧ provS s (mkF far) (mtF far) = lo ∧ IsRange s (thC s) lo hi ∧ (∀ k, k < s.strips.length → -11 ≤ mkF far k ∧ mkF far k ≤ 11) ∧ ∀ t, t < s.carried.length → -11 ≤ mtF far t ∧ mtF far t ≤ 11) ∨
    (Ko s = some ⟨⟨[], []⟩, 7⟩ ∧ NoFit s) := by
  obtain ⟨mp, hmp, hm⟩ := Ky h
  have hc := cf_theft s
  have h6 := h.net.s6; have h5 := h.net.c5
  unfold Ko
  rw [hmp, Option.bind_some, oc_inr, Za, Option.bind_some]
  rcases filled_min h hm hc.ok with ⟨l, y, h1, ⟨π, hp, hb⟩, hg, hw, h2, _, h3, h4⟩ | ⟨w, met, h1, _, h3⟩
  · left
    rw [h1, Option.bind_some, oc_inr]
    simp only
    obtain ⟨far, f1, f2, f3, f4, f5⟩ := jaq hg.ok hp (fun v => (hb v).1) (fun v => (hb v).2)
    have hfl : ∀ v, -1000000 ≤ gI 0 far v := fun v => by
      by_cases hv : 0 ≤ v ∧ v < 12
      · have := f5 π hp (fun v => (hb v).1) (fun v => (hb v).2) v hv.1 hv.2
        have := (hb v).1; omega
      · have : gI 0 far v = 0 := by
          unfold gI
          split
          · rw [List.getD_eq_getElem?_getD, List.getElem?_eq_none (by omega)]; rfl
          · rfl
        omega
    have hrg := far_range hg.ok f2 f3 f4 hfl f5
    obtain ⟨m1, m2⟩ := far_marks h hm hc hg hw f3
    have e : costs l = countS s (thC s) y := by
      rw [hc.count] at h2
      have := YP hg.ok
      rw [this] at h2
      exact Option.some.inj h2
    have hkb : ∀ k, k < s.strips.length → -11 ≤ mkF far k ∧ mkF far k ≤ 11 := fun k hk => by
      have a := hrg 0 (by omega) (by omega)
      have b := hrg (1 + (k : Int)) (by omega) (by omega)
      have c := f4 0
      have d := f4 (1 + (k : Int))
      unfold mkF; omega
    have htb : ∀ t, t < s.carried.length → -11 ≤ mtF far t ∧ mtF far t ≤ 11 := fun t ht => by
      have a := hrg 0 (by omega) (by omega)
      have b := hrg (7 + (t : Int)) (by omega) (by omega)
      have c := f4 0
      have d := f4 (7 + (t : Int))
      unfold mtF; omega
    rw [f1, Option.bind_some]
    have k1 : iterM FU (Jb s far) ⟨0, []⟩ = some ((List.range s.strips.length).map (mkF far)) := by
      have key := iterM_run (f := Jb s far) (fun k => ⟨(k : Int), (List.range k).map (mkF far)⟩) s.strips.length (b := (List.range s.strips.length).map (mkF far)) (fun k hk => ?_) ?_ FU (FU_lt (by omega))
      · exact key
      · unfold Jb
        have hlt : (k : Int) < (s.strips.length : Int) := by omega
        have hkk := hkb k hk
        unfold mkF at hkk
        simp only [hlt, if_true]
        rw [ix_gI 0 (by omega) (by omega), Option.bind_some, addc_eq (by omega), Option.bind_some, ix_gI 0 (by omega) (by omega), Option.bind_some, subc_eq (by omega), Option.bind_some, appc_eq (by simp only [List.length_map, List.length_range, List.length_cons, List.length_nil]; omega), Option.bind_some, addc_eq (by omega), Option.bind_some, List.range_succ, List.map_append]
        rfl
      · unfold Jb
        simp
    have k2 : iterM FU (z5 s far) ⟨0, []⟩ = some ((List.range s.carried.length).map (mtF far)) := by
      have key := iterM_run (f := z5 s far) (fun k => ⟨(k : Int), (List.range k).map (mtF far)⟩) s.carried.length (b := (List.range s.carried.length).map (mtF far)) (fun k hk => ?_) ?_ FU (FU_lt (by omega))
      · exact key
      · unfold z5
        have hlt : (k : Int) < (s.carried.length : Int) := by omega
        have hkk := htb k hk
        unfold mtF at hkk
        simp only [hlt, if_true]
        rw [addc_eq (by omega), Option.bind_some, ix_gI 0 (by omega) (by omega), Option.bind_some, ix_gI 0 (by omega) (by omega), Option.bind_some, subc_eq (by omega), Option.bind_some, appc_eq (by simp only [List.length_map, List.length_range, List.length_cons, List.length_nil]; omega), Option.bind_some, addc_eq (by omega), Option.bind_some, List.range_succ, List.map_append]
        rfl
      · unfold z5
        simp
    rw [k1, Option.bind_some, k2, Option.bind_some]
    rcases spread_spec h hm hc with ⟨lo, hi, _, hr⟩ | ⟨_, hn⟩
    · refine ⟨far, _, hi, rfl, m1, m2, ?_, hkb, htb⟩
      have : countS s (thC s) y = lo := by
        obtain ⟨⟨y1, g1, e1⟩, _, b⟩ := hr
        have a1 := h4 _ g1
        rw [hc.count, hc.count] at a1
        have := b _ h3
        omega
      rw [e, this]; exact hr
    · exact absurd h3 (hn y)
  · right
    rw [h1, Option.bind_some, oc_inl]
    exact ⟨rfl, h3⟩
theorem Mark_wrong {s : Scalps} (h : chk s ≠ 0) : Ko s = some ⟨⟨[], []⟩, chk s⟩ := by
  unfold Ko
  rw [Kx h]; rfl
def mkOK (m : List Int) : Bool := m.all fun x => inb x (-20) 20
def holdRow (s : Scalps) (mk : Nat → Int) (t : Nat) (mt : Int) : Bool := (List.range s.strips.length).all fun k => !reachB s.strips t k || decide (mt + mk k ≤ thC s t k)
def holdB (s : Scalps) (m : Marks) : Bool := (List.range s.carried.length).all fun t => holdRow s (gtI m.strips) t (gtI m.tenants t)
theorem holdB_iff {s : Scalps} {m : Marks} : holdB s m = true ↔ HoldS s (gtI m.strips) (gtI m.tenants) := by
  unfold holdB holdRow HoldS
  rw [List.all_eq_true]
  constructor
  · intro h t k ht hk hr
    have := List.all_eq_true.1 (h t (List.mem_range.2 ht)) k (List.mem_range.2 hk)
    rw [hr] at this
    simpa using this
  · intro h t ht
    rw [List.all_eq_true]
    intro k hk
    cases hr : reachB s.strips t k with
    | false => rfl
    | true => simpa using h t k (List.mem_range.1 ht) (List.mem_range.1 hk) hr
def provesR (s : Scalps) (m : Marks) : qo :=
  if m.strips.length = s.strips.length ∧ m.tenants.length = s.carried.length then
    if mkOK m.strips = true ∧ mkOK m.tenants = true then
      if holdB s m = true then ⟨provS s (gtI m.strips) (gtI m.tenants), 0⟩ else ⟨0, 8⟩
    else ⟨0, 3⟩
  else ⟨0, 2⟩
theorem mul_bound {m v : Int} (hm : -20 ≤ m ∧ m ≤ 20) (hv : 0 ≤ v ∧ v ≤ 60) : -1200 ≤ m * v ∧ m * v ≤ 1200 := by
  have a := Int.mul_le_mul_of_nonneg_right hm.2 hv.1
  have b := Int.mul_le_mul_of_nonneg_right hm.1 hv.1
  omega
theorem pv_bound {m : Int} {x : Span} (hm : -20 ≤ m ∧ m ≤ 20) (hx : 0 ≤ x.lo ∧ x.lo ≤ x.hi ∧ x.hi ≤ 60) : -1200 ≤ pvI m x ∧ pvI m x ≤ 1200 := by
  unfold pvI
  split
  · exact mul_bound hm (by omega)
  · exact mul_bound hm (by omega)
theorem YR {m : Int} {x : Span} (hm : -20 ≤ m ∧ m ≤ 20) (hx : 0 ≤ x.lo ∧ x.lo ≤ x.hi ∧ x.hi ≤ 60) : Jj m x = some (pvI m x) := by
  unfold Jj pvI
  have a := mul_bound hm (v := x.lo) (by omega)
  have b := mul_bound hm (v := x.hi) (by omega)
  split
  · rw [mulc_eq (by omega)]; rfl
  · rw [mulc_eq (by omega)]; rfl
theorem Zb {l : List Int} (hl : l.length < 100000) : yH l = some (mkOK l) := by
  have := any_loop l 0 yu (fun x => !inb x (-20) 20) (by omega) (fun x _ => by unfold yu Km; rw [QX]; rfl) (f := qE l) (fun s => rfl)
  unfold yH kD qm
  rw [this, Option.bind_some, not_any_not]
  rfl
theorem iterX_scan {F : Int → Unit → Option (Unit ⊕ Int)} {bad : Int → Bool} : ∀ {L : List Int}, (∀ x, x ∈ L → F x () = some (if bad x = true then .inr 8 else .inl ())) → iterX F L () = some (if L.any bad = true then .inr 8 else .inl ())
  | [], _ => rfl
  | x :: L, h => by
    unfold iterX
    rw [h x (by simp), Option.bind_some]
    cases hb : bad x with
    | true => simp [hb]
    | false =>
      rw [if_neg (by simp), oc_inl, iterX_scan (fun y hy => h y (List.mem_cons_of_mem _ hy))]
      simp [hb]
theorem mk_at {l : List Int} (h : mkOK l = true) {i : Nat} (hi : i < l.length) : -20 ≤ gtI l i ∧ gtI l i ≤ 20 := by
  have hx : gtI l i = l[i] := by simp [gtI, List.getD_eq_getElem?_getD, hi]
  have := inb_iff.1 (List.all_eq_true.1 h _ (List.getElem_mem hi))
  rw [hx]; exact this
theorem sum_bound2 {f : Nat → Int} {b : Int} : ∀ {n : Nat}, (∀ j, j < n → -b ≤ f j ∧ f j ≤ b) → -b * (n : Int) ≤ sumTo f n ∧ sumTo f n ≤ b * (n : Int)
  | 0, _ => by simp [sumTo]
  | n + 1, h => by
    have ih := sum_bound2 (n := n) (fun j hj => h j (by omega))
    have := h n (by omega)
    simp only [sumTo]
    rw [show ((n + 1 : Nat) : Int) = (n : Int) + 1 by omega, Int.mul_add, Int.mul_one, Int.mul_add, Int.mul_one]
    omega
theorem Proves_spec {s : Scalps} (h : Right s) {m : Marks} (hml : m.strips.length < 100000 ∧ m.tenants.length < 100000) : zo s m = some (provesR s m) := by
  obtain ⟨mp, hmp, hm⟩ := Ky h
  have h6 := h.net.s6; have h5 := h.net.c5
  unfold zo provesR
  rw [hmp, Option.bind_some, oc_inr]
  by_cases hl1 : m.strips.length = s.strips.length
  · rw [if_pos (by omega)]
    by_cases hl2 : m.tenants.length = s.carried.length
    · rw [decide_eq_true (by omega), if_pos ⟨hl1, hl2⟩, Option.bind_some, if_neg (by simp), Zb hml.1, Option.bind_some, not_true_if, Zb hml.2, Option.bind_some]
      by_cases ho1 : mkOK m.strips = true
      · rw [if_pos ho1]
        by_cases ho2 : mkOK m.tenants = true
        · rw [ho2, if_pos ⟨ho1, rfl⟩, Option.bind_some, if_neg (by simp), Za, Option.bind_some]
          have hb0 : ∀ t, t < s.carried.length → -1200 ≤ pvI (gtI m.tenants t) (hOf s.carried t) ∧ pvI (gtI m.tenants t) (hOf s.carried t) ≤ 1200 := fun t ht => pv_bound (mk_at ho2 (by omega)) (by have := hOf_ok h.net ht; omega)
          have hb1 : ∀ k, k < s.strips.length → -1200 ≤ pvI (gtI m.strips k) (gOf s.strips k) ∧ pvI (gtI m.strips k) (gOf s.strips k) ≤ 1200 := fun k hk => pv_bound (mk_at ho1 (by omega)) (gOf_ok h.net hk)
          have k1 : iterM FU (yA m s mp) ⟨0, 0⟩ = some (if holdB s m = true then .inl (sumTo (fun t => pvI (gtI m.tenants t) (hOf s.carried t)) s.carried.length) else .inr ⟨0, 8⟩) := by
            have key := iterM_find (f := yA m s mp) (fun t => ⟨sumTo (fun t => pvI (gtI m.tenants t) (hOf s.carried t)) t, (t : Int)⟩) s.carried.length (fun t => !holdRow s (gtI m.strips) t (gtI m.tenants t)) (fun _ => .inr ⟨0, 8⟩) (.inl (sumTo (fun t => pvI (gtI m.tenants t) (hOf s.carried t)) s.carried.length)) (fun t ht _ => ?_) ?_ (N := FU) (FU_lt (by omega))
            · have e : (⟨0, 0⟩ : yR) = ⟨sumTo (fun t => pvI (gtI m.tenants t) (hOf s.carried t)) 0, ((0 : Nat) : Int)⟩ := rfl
              rw [e, key]
              unfold holdB
              rw [all_find]
              cases (List.range s.carried.length).find? (fun t => !holdRow s (gtI m.strips) t (gtI m.tenants t)) with
              | none => rfl
              | some k => rfl
            · unfold yA
              have hlt : (t : Int) < (m.tenants.length : Int) := by omega
              simp only [hlt, if_true]
              unfold J2
              rw [ix_nat 0 (by omega), Option.bind_some, Option.bind_some, if_pos (by omega)]
              have hscan := iterX_scan (F := JY m (m.tenants.getD t 0) ⟨sumTo (fun t => pvI (gtI m.tenants t) (hOf s.carried t)) t, (t : Int)⟩ s) (bad := fun x => decide (thC s t x.toNat < gtI m.tenants t + gtI m.strips x.toNat)) (L := reachL s.strips.length mp (t : Int)) (fun x hx => by
                rw [reachL_map] at hx
                obtain ⟨k, hk, rfl⟩ := List.mem_map.1 hx
                have hk' := List.mem_range.1 (List.mem_filter.1 hk).1
                have a := mk_at ho1 (i := k) (by omega)
                have b := mk_at ho2 (i := t) (by omega)
                unfold JY
                unfold gtI at a b ⊢
                rw [ix_nat 0 (by omega), Option.bind_some, addc_eq (by omega), Option.bind_some]
                have hc := (cf_theft s t k ht hk').1
                simp only at hc
                rw [hc, Option.bind_some, show Int.toNat (k : Int) = k by omega]
                by_cases hlt2 : thC s t k < m.tenants.getD t 0 + m.strips.getD k 0
                · rw [if_pos hlt2, if_pos (decide_eq_true hlt2)]
                · rw [if_neg hlt2, if_neg (fun hh => hlt2 (of_decide_eq_true hh))])
              rw [hscan, Option.bind_some]
              have hany : (reachL s.strips.length mp (t : Int)).any (fun x => decide (thC s t x.toNat < gtI m.tenants t + gtI m.strips x.toNat)) = !holdRow s (gtI m.strips) t (gtI m.tenants t) := by
                unfold holdRow
                rw [Bool.eq_iff_iff, List.any_eq_true, Bool.not_eq_true', ← Bool.not_eq_true, List.all_eq_true]
                constructor
                · rintro ⟨x, hx, hxb⟩ hall
                  rw [reachL_map] at hx
                  obtain ⟨k, hk, rfl⟩ := List.mem_map.1 hx
                  obtain ⟨k1, k2⟩ := List.mem_filter.1 hk
                  have hk' := List.mem_range.1 k1
                  have := hall k k1
                  rw [rOf_reach hm hk'] at k2
                  rw [k2] at this
                  have hxb' := of_decide_eq_true hxb
                  rw [show Int.toNat (k : Int) = k by omega] at hxb'
                  have := of_decide_eq_true (by simpa using this : decide (gtI m.tenants t + gtI m.strips k ≤ thC s t k) = true)
                  omega
                · intro hn
                  obtain ⟨k, hk⟩ := Classical.not_forall.1 hn
                  obtain ⟨hk1, hk2⟩ := Classical.not_imp.1 hk
                  have hk' := List.mem_range.1 hk1
                  have hr : reachB s.strips t k = true := by
                    cases hr : reachB s.strips t k with
                    | true => rfl
                    | false => rw [hr] at hk2; exact absurd rfl hk2
                  rw [hr] at hk2
                  refine ⟨(k : Int), ?_, decide_eq_true ?_⟩
                  · rw [reachL_map]
                    exact List.mem_map.2 ⟨k, List.mem_filter.2 ⟨hk1, by rw [rOf_reach hm hk']; exact hr⟩, rfl⟩
                  · rw [show Int.toNat (k : Int) = k by omega]
                    have : ¬ (gtI m.tenants t + gtI m.strips k ≤ thC s t k) := fun hh => hk2 (by simp [hh])
                    omega
              rw [hany]
              cases hrow : holdRow s (gtI m.strips) t (gtI m.tenants t) with
              | false =>
                simp only [Bool.not_false, if_true, oc_inr]
              | true =>
                simp only [Bool.not_true, Bool.false_eq_true, if_false, oc_inl]
                have hh := hOf_ok h.net ht
                have hbt := hb0 t ht
                have hbs := sum_bound2 (f := fun t => pvI (gtI m.tenants t) (hOf s.carried t)) (b := 1200) (n := t) (fun j hj => hb0 j (by omega))
                have hpe := YR (m := gtI m.tenants t) (x := hOf s.carried t) (mk_at ho2 (by omega)) (by omega)
                unfold gtI hOf at hpe
                rw [ix_nat default ht, Option.bind_some, hpe, Option.bind_some]
                unfold gtI hOf at hbt hbs ⊢
                rw [addc_eq (by omega), Option.bind_some, addc_eq (by omega), Option.bind_some]
                rfl
            · unfold yA
              simp only
              rw [if_neg (by omega)]
          rw [k1, Option.bind_some]
          by_cases hh : holdB s m = true
          · rw [if_pos hh, if_pos hh, oc_inl]
            have k2 : iterM FU (yN m s) ⟨sumTo (fun t => pvI (gtI m.tenants t) (hOf s.carried t)) s.carried.length, 0⟩ = some (provS s (gtI m.strips) (gtI m.tenants)) := by
              have key := iterM_run (f := yN m s) (fun k => ⟨sumTo (fun t => pvI (gtI m.tenants t) (hOf s.carried t)) s.carried.length + sumTo (fun k => pvI (gtI m.strips k) (gOf s.strips k)) k, (k : Int)⟩) s.strips.length (b := provS s (gtI m.strips) (gtI m.tenants)) (fun k hk => ?_) ?_ FU (FU_lt (by omega))
              · have e : (⟨sumTo (fun t => pvI (gtI m.tenants t) (hOf s.carried t)) s.carried.length, 0⟩ : zO) = ⟨sumTo (fun t => pvI (gtI m.tenants t) (hOf s.carried t)) s.carried.length + sumTo (fun k => pvI (gtI m.strips k) (gOf s.strips k)) 0, ((0 : Nat) : Int)⟩ := by
                  simp [sumTo]
                rw [e, key]
              · unfold yN
                have hlt : (k : Int) < (m.strips.length : Int) := by omega
                simp only [hlt, if_true]
                have hbt := hb1 k hk
                have hbs := sum_bound2 (f := fun t => pvI (gtI m.tenants t) (hOf s.carried t)) (b := 1200) (n := s.carried.length) (fun j hj => hb0 j hj)
                have hbs2 := sum_bound2 (f := fun k => pvI (gtI m.strips k) (gOf s.strips k)) (b := 1200) (n := k) (fun j hj => hb1 j (by omega))
                have hpe := YR (m := gtI m.strips k) (x := gOf s.strips k) (mk_at ho1 (by omega)) (gOf_ok h.net hk)
                have hga := gone_at h hk
                rw [ix_nat 0 (by omega), Option.bind_some, ix_nat default hk, Option.bind_some]
                have hga' : j4 (⟨(s.strips.getD k default).tenant, ⟨(s.strips.getD k default).lay.lo, (s.strips.getD k default).lay.hi⟩, ⟨(s.strips.getD k default).seeded.lo, (s.strips.getD k default).seeded.hi⟩, ⟨(s.strips.getD k default).left.lo, (s.strips.getD k default).left.hi⟩⟩ : Strip) = some (gOf s.strips k) := hga
                rw [hga', Option.bind_some]
                have hpe' : Jj (m.strips.getD k 0) (gOf s.strips k) = some (pvI (gtI m.strips k) (gOf s.strips k)) := hpe
                rw [hpe', Option.bind_some, addc_eq (by omega), Option.bind_some, addc_eq (by omega), Option.bind_some]
                simp only [sumTo]
                rw [Int.add_assoc]
                rfl
              · unfold yN
                simp only
                rw [if_neg (by omega)]
                rfl
            rw [k2]; rfl
          · rw [if_neg hh, if_neg hh, oc_inr]
        · have : mkOK m.tenants = false := by simpa using ho2
          rw [this, if_neg (fun hh => ho2 (by rw [this]; exact hh.2)), Option.bind_some]; rfl
      · rw [if_neg ho1, if_neg (fun hh => ho1 hh.1)]; rfl
    · rw [decide_eq_false (by omega), if_neg (fun hh => hl2 hh.2), Option.bind_some]; rfl
  · rw [if_neg (by omega), if_neg (fun hh => hl1 hh.1), Option.bind_some]; rfl
theorem Proves_wrong {s : Scalps} (h : chk s ≠ 0) (m : Marks) : zo s m = some ⟨0, chk s⟩ := by
  unfold zo
  rw [Kx h]; rfl
end Go.Proofs.Ws

namespace Go.Proofs.Ws
open Go Go.Fw Go.Gx Go.Sp
set_option linter.unusedVariables false
def bsN (ca : List Span) (t : Nat) : Nat := (hOf ca t).hi.toNat + 1
def stepN (ca : List Span) : Nat → Nat
  | 0 => 1
  | t + 1 => stepN ca t * bsN ca t
def digN (ca : List Span) (a t : Nat) : Nat := a / stepN ca t % bsN ca t
theorem stepN_pos (ca : List Span) : ∀ t, 0 < stepN ca t
  | 0 => Nat.one_pos
  | t + 1 => Nat.mul_pos (stepN_pos ca t) (Nat.succ_pos _)
theorem stepN_dvd (ca : List Span) {t : Nat} : ∀ {t'}, t < t' → ∃ m, stepN ca t' = stepN ca t * bsN ca t * m
  | 0, h => by omega
  | t' + 1, h => by
    by_cases he : t = t'
    · subst he; exact ⟨1, by simp [stepN]⟩
    · obtain ⟨m, hm⟩ := stepN_dvd ca (t := t) (t' := t') (by omega)
      exact ⟨m * bsN ca t', by simp only [stepN]; rw [hm, Nat.mul_assoc]⟩
theorem digN_lt (ca : List Span) (a t : Nat) : digN ca a t < bsN ca t := Nat.mod_lt _ (Nat.succ_pos _)
theorem div_add_digit {q n b : Nat} (h : q % b + n < b) : (q + n) / b = q / b ∧ (q + n) % b = q % b + n := by
  have h0 : 0 < b := by omega
  have e : q + n = (q % b + n) + b * (q / b) := by have := Nat.mod_add_div q b; omega
  constructor
  · rw [e, Nat.add_mul_div_left _ _ h0, Nat.div_eq_of_lt h, Nat.zero_add]
  · rw [e, Nat.add_mul_mod_self_left, Nat.mod_eq_of_lt h]
theorem div_up (ca : List Span) {a n t t' : Nat} (ht : t < t') (h : digN ca a t + n < bsN ca t) : (a + n * stepN ca t) / stepN ca t' = a / stepN ca t' := by
  obtain ⟨m, hm⟩ := stepN_dvd ca ht
  unfold digN at h
  rw [hm, ← Nat.div_div_eq_div_mul, ← Nat.div_div_eq_div_mul, Nat.add_mul_div_right _ _ (stepN_pos ca t), (div_add_digit h).1, Nat.div_div_eq_div_mul, Nat.div_div_eq_div_mul, Nat.mul_assoc]
theorem dig_add (ca : List Span) {a n t : Nat} (h : digN ca a t + n < bsN ca t) (t' : Nat) : digN ca (a + n * stepN ca t) t' = if t' = t then digN ca a t + n else digN ca a t' := by
  by_cases he : t' = t
  · subst he
    rw [if_pos rfl]
    unfold digN at h ⊢
    rw [Nat.add_mul_div_right _ _ (stepN_pos ca t'), (div_add_digit h).2]
  · rw [if_neg he]
    unfold digN
    by_cases hlt : t' < t
    · obtain ⟨m, hm⟩ := stepN_dvd ca hlt
      have e : a + n * stepN ca t = a + (n * (bsN ca t' * m)) * stepN ca t' := by
        rw [hm]
        congr 1
        rw [Nat.mul_assoc (stepN ca t'), Nat.mul_comm (stepN ca t'), ← Nat.mul_assoc]
      rw [e, Nat.add_mul_div_right _ _ (stepN_pos ca t'), show n * (bsN ca t' * m) = bsN ca t' * (n * m) by rw [Nat.mul_left_comm], Nat.add_mul_mod_self_left]
    · rw [div_up ca (by omega) h]
theorem at_up (ca : List Span) {a n t T : Nat} (hT : t < T) (ha : a < stepN ca T) (h : digN ca a t + n < bsN ca t) : a + n * stepN ca t < stepN ca T := by
  have h1 := div_up ca hT h
  rw [Nat.div_eq_of_lt ha] at h1
  exact (Nat.div_eq_zero_iff.1 h1).resolve_left (by have := stepN_pos ca T; omega)
theorem dig_zero (ca : List Span) (t : Nat) : digN ca 0 t = 0 := by unfold digN; simp
end Go.Proofs.Ws

namespace Go.Proofs.Ws
open Go Go.Fw Go.Gx Go.Sp
set_option linter.unusedVariables false
def gtB (l : List Bool) (j : Nat) : Bool := l.getD j false
structure BookOK (P : Nat → Int → Prop) (N : Nat) (b : Book) : Prop where
  l1 : b.can.length = N
  l2 : b.least.length = N
  l3 : b.most.length = N
  can : ∀ a, a < N → (gtB b.can a = true ↔ ∃ v, P a v)
  bd : ∀ a v, a < N → P a v → gtI b.least a ≤ v ∧ v ≤ gtI b.most a
  ends : ∀ a, a < N → gtB b.can a = true → P a (gtI b.least a) ∧ P a (gtI b.most a)
theorem BookOK.congr {P P' : Nat → Int → Prop} {N : Nat} {b : Book} (h : BookOK P N b) (hp : ∀ a v, a < N → (P a v ↔ P' a v)) : BookOK P' N b :=
  ⟨h.l1, h.l2, h.l3, fun a ha => (h.can a ha).trans ⟨fun ⟨v, hv⟩ => ⟨v, (hp a v ha).1 hv⟩, fun ⟨v, hv⟩ => ⟨v, (hp a v ha).2 hv⟩⟩, fun a v ha hv => h.bd a v ha ((hp a v ha).2 hv), fun a ha hc => ⟨(hp a _ ha).1 (h.ends a ha hc).1, (hp a _ ha).1 (h.ends a ha hc).2⟩⟩
theorem gtB_set {l : List Bool} {a x : Nat} {v : Bool} (ha : a < l.length) : gtB (l.set a v) x = if x = a then v else gtB l x := by
  unfold gtB
  rw [List.getD_eq_getElem?_getD, List.getD_eq_getElem?_getD, List.getElem?_set]
  by_cases h : a = x
  · subst h; rw [if_pos rfl, if_pos ha, if_pos rfl]; rfl
  · rw [if_neg h, if_neg (fun e => h e.symm)]
theorem gtI_set {l : List Int} {a x : Nat} {v : Int} (ha : a < l.length) : gtI (l.set a v) x = if x = a then v else gtI l x := by
  unfold gtI
  rw [List.getD_eq_getElem?_getD, List.getD_eq_getElem?_getD, List.getElem?_set]
  by_cases h : a = x
  · subst h; rw [if_pos rfl, if_pos ha, if_pos rfl]; rfl
  · rw [if_neg h, if_neg (fun e => h e.symm)]
theorem enter_spec {P : Nat → Int → Prop} {N : Nat} {b : Book} (h : BookOK P N b) {a : Nat} (ha : a < N) {lo hi : Int} {Q : Int → Prop} (q1 : Q lo) (q2 : Q hi) (q3 : ∀ v, Q v → lo ≤ v ∧ v ≤ hi) :
    ∃ r, J7 b (a : Int) lo hi = some r ∧ BookOK (fun x v => P x v ∨ (x = a ∧ Q v)) N ⟨r.b0_can, r.b0_least, r.b0_most⟩ := by
  have l1 := h.l1; have l2 := h.l2; have l3 := h.l3
  unfold J7
  rw [ix_nat false (by omega), Option.bind_some, show Int.toNat (a : Int) = a by omega]
  by_cases hc : gtB b.can a = true
  · have hc' : b.can.getD a false = true := hc
    rw [hc', if_neg (by simp), Option.bind_some]
    dsimp only
    rw [ix_nat 0 (by omega), Option.bind_some, Option.bind_some, Option.bind_some, ix_nat 0 (by omega), Option.bind_some, Option.bind_some, Option.bind_some]
    obtain ⟨e1, e2⟩ := h.ends a ha hc
    refine ⟨_, rfl, ⟨l1, by simp only; rw [List.length_set]; exact l2, by simp only; rw [List.length_set]; exact l3, fun x hx => ?_, fun x v hx hv => ?_, fun x hx hxc => ?_⟩⟩
    · simp only
      rw [h.can x hx]
      constructor
      · rintro ⟨v, hv⟩; exact ⟨v, .inl hv⟩
      · rintro ⟨v, hv | ⟨rfl, hv⟩⟩
        · exact ⟨v, hv⟩
        · exact (h.can x hx).1 hc
    · simp only
      rw [gtI_set (by omega), gtI_set (by omega)]
      by_cases hxa : x = a
      · subst hxa
        rw [if_pos rfl, if_pos rfl]
        show min (gtI b.least x) lo ≤ v ∧ v ≤ max (gtI b.most x) hi
        rcases hv with hv | ⟨_, hv⟩
        · have := h.bd x v hx hv; omega
        · have := q3 v hv; omega
      · rw [if_neg hxa, if_neg hxa]
        rcases hv with hv | ⟨rfl, _⟩
        · exact h.bd x v hx hv
        · exact absurd rfl hxa
    · simp only at hxc ⊢
      rw [gtI_set (by omega), gtI_set (by omega)]
      by_cases hxa : x = a
      · subst hxa
        rw [if_pos rfl, if_pos rfl]
        show (P x (min (gtI b.least x) lo) ∨ (x = x ∧ Q (min (gtI b.least x) lo))) ∧ (P x (max (gtI b.most x) hi) ∨ (x = x ∧ Q (max (gtI b.most x) hi)))
        constructor
        · by_cases hm : gtI b.least x ≤ lo
          · rw [Int.min_eq_left hm]; exact .inl e1
          · rw [Int.min_eq_right (by omega)]; exact .inr ⟨rfl, q1⟩
        · by_cases hm : hi ≤ gtI b.most x
          · rw [Int.max_eq_left hm]; exact .inl e2
          · rw [Int.max_eq_right (by omega)]; exact .inr ⟨rfl, q2⟩
      · rw [if_neg hxa, if_neg hxa]
        obtain ⟨f1, f2⟩ := h.ends x hx hxc
        exact ⟨.inl f1, .inl f2⟩
  · have hc' : b.can.getD a false = false := by
      cases hg : b.can.getD a false with
      | false => rfl
      | true => exact absurd hg hc
    have hnP : ∀ v, ¬ P a v := fun v hv => hc ((h.can a ha).2 ⟨v, hv⟩)
    rw [hc', if_pos (show (!false) = true from rfl), Option.bind_some, Option.bind_some, ix_nat 0 (by omega), Option.bind_some, Option.bind_some, ix_nat 0 (by omega), Option.bind_some, Option.bind_some, Option.bind_some]
    dsimp only
    rw [ix_nat 0 (by rw [List.length_set]; omega), Option.bind_some, Option.bind_some, Option.bind_some, ix_nat 0 (by rw [List.length_set]; omega), Option.bind_some, Option.bind_some, Option.bind_some]
    have g1 : (b.least.set a lo).getD a 0 = lo := by
      have := gtI_set (l := b.least) (a := a) (x := a) (v := lo) (by omega)
      rw [if_pos rfl] at this; exact this
    have g2 : (b.most.set a hi).getD a 0 = hi := by
      have := gtI_set (l := b.most) (a := a) (x := a) (v := hi) (by omega)
      rw [if_pos rfl] at this; exact this
    have m1 : min lo lo = lo := by omega
    have m2 : max hi hi = hi := by omega
    rw [g1, g2, List.set_set, List.set_set, m1, m2]
    refine ⟨_, rfl, ⟨by simp only; rw [List.length_set]; exact l1, by simp only; rw [List.length_set]; exact l2, by simp only; rw [List.length_set]; exact l3, fun x hx => ?_, fun x v hx hv => ?_, fun x hx hxc => ?_⟩⟩
    · simp only
      rw [gtB_set (by omega)]
      by_cases hxa : x = a
      · subst hxa
        rw [if_pos rfl]
        exact ⟨fun _ => ⟨lo, .inr ⟨rfl, q1⟩⟩, fun _ => rfl⟩
      · rw [if_neg hxa, h.can x hx]
        constructor
        · rintro ⟨v, hv⟩; exact ⟨v, .inl hv⟩
        · rintro ⟨v, hv | ⟨rfl, hv⟩⟩
          · exact ⟨v, hv⟩
          · exact absurd rfl hxa
    · simp only
      rw [gtI_set (by omega), gtI_set (by omega)]
      by_cases hxa : x = a
      · subst hxa
        rw [if_pos rfl, if_pos rfl]
        rcases hv with hv | ⟨_, hv⟩
        · exact absurd hv (hnP v)
        · exact q3 v hv
      · rw [if_neg hxa, if_neg hxa]
        rcases hv with hv | ⟨rfl, _⟩
        · exact h.bd x v hx hv
        · exact absurd rfl hxa
    · simp only at hxc ⊢
      rw [gtI_set (by omega), gtI_set (by omega)]
      rw [gtB_set (by omega)] at hxc
      by_cases hxa : x = a
      · subst hxa
        rw [if_pos rfl, if_pos rfl]
        exact ⟨.inr ⟨rfl, q1⟩, .inr ⟨rfl, q2⟩⟩
      · rw [if_neg hxa] at hxc
        rw [if_neg hxa, if_neg hxa]
        obtain ⟨f1, f2⟩ := h.ends x hx hxc
        exact ⟨.inl f1, .inl f2⟩
end Go.Proofs.Ws

namespace Go.Proofs.Ws
open Go Go.Fw Go.Gx Go.Sp
set_option linter.unusedVariables false
def sFrom (f : Nat → Int) : Nat → Nat → Int
  | _, 0 => 0
  | t, d + 1 => f t + sFrom f (t + 1) d
theorem sFrom_congr {f g : Nat → Int} : ∀ {d t : Nat}, (∀ i, t ≤ i → i < t + d → f i = g i) → sFrom f t d = sFrom g t d
  | 0, t, _ => rfl
  | d + 1, t, h => by
    simp only [sFrom]
    rw [h t (Nat.le_refl _) (by omega), sFrom_congr (d := d) (t := t + 1) (fun i h1 h2 => h i (by omega) (by omega))]
theorem sFrom_nonneg {f : Nat → Int} : ∀ {d t : Nat}, (∀ i, t ≤ i → i < t + d → 0 ≤ f i) → 0 ≤ sFrom f t d
  | 0, t, _ => Int.le_refl _
  | d + 1, t, h => by
    simp only [sFrom]
    have := h t (Nat.le_refl _) (by omega)
    have := sFrom_nonneg (f := f) (d := d) (t := t + 1) (fun i h1 h2 => h i (by omega) (by omega))
    omega
theorem refGone_eq {s : Scalps} (h : Right s) {k : Nat} (hk : k < s.strips.length) : Jl s (k : Int) = some (gOf s.strips k) := by
  have hx : s.strips.getD k default = s.strips[k] := by simp [List.getD_eq_getElem?_getD, hk]
  obtain ⟨b1, b2, b3, b4⟩ := h.net.sp _ (List.getElem_mem hk)
  unfold Jl gOf goneP
  unfold In30 at *
  rw [ix_nat default hk, Option.bind_some, hx, addc_eq (by omega), Option.bind_some, subc_eq (by omega), Option.bind_some, addc_eq (by omega), Option.bind_some, subc_eq (by omega), Option.bind_some]
theorem refReaches_eq {s : Scalps} (h6 : s.strips.length ≤ 1000) {t k : Nat} (hk : k < s.strips.length) : kl s (t : Int) (k : Int) = some (reachB s.strips t k) := by
  unfold kl
  rw [subc_eq (by omega), Option.bind_some]
  have hst : max (0 : Int) ((k : Int) - 1) = ((k - 1 : Nat) : Int) := by omega
  rw [hst]
  generalize hlo : k - 1 = lo
  have key := iterM_any (f := zd (k : Int) s (t : Int)) (lo : Int) (min (k + 1) (s.strips.length - 1) + 1 - lo) (fun j => decide ((s.strips.getD (lo + j) default).tenant = (t : Int))) (fun _ => true) (fun j hj => ?_) ?_ (N := FU) (FU_lt (by omega))
  · rw [key, Option.bind_some]
    have hany : reachB s.strips t k = ((List.range (min (k + 1) (s.strips.length - 1) + 1 - lo)).find? fun j => decide ((s.strips.getD (lo + j) default).tenant = (t : Int))).isSome := by
      unfold reachB
      rw [Bool.eq_iff_iff, List.any_eq_true, List.find?_isSome]
      constructor
      · rintro ⟨j, hj, hb⟩
        have hj' := List.mem_range.1 hj
        obtain ⟨b1, b2, b3⟩ := of_decide_eq_true hb
        refine ⟨j - lo, List.mem_range.2 (by omega), decide_eq_true ?_⟩
        rw [show lo + (j - lo) = j by omega]; exact b3
      · rintro ⟨j, hj, hb⟩
        have hj' := List.mem_range.1 hj
        exact ⟨lo + j, List.mem_range.2 (by omega), decide_eq_true ⟨by omega, by omega, of_decide_eq_true hb⟩⟩
    rw [hany]
    cases (List.range (min (k + 1) (s.strips.length - 1) + 1 - lo)).find? (fun j => decide ((s.strips.getD (lo + j) default).tenant = (t : Int))) <;> rfl
  · unfold zd
    rw [addc_eq (by omega), Option.bind_some, subc_eq (by omega), Option.bind_some, if_pos (by omega), show (lo : Int) + (j : Int) = ((lo + j : Nat) : Int) by omega, ix_nat default (by omega), Option.bind_some]
    by_cases ht : (s.strips.getD (lo + j) default).tenant = (t : Int)
    · rw [if_pos ht, if_pos (decide_eq_true ht)]
    · rw [if_neg ht, if_neg (fun hh => ht (of_decide_eq_true hh)), addc_eq (by omega), Option.bind_some]
  · unfold zd
    rw [addc_eq (by omega), Option.bind_some, subc_eq (by omega), Option.bind_some, if_neg (by omega)]
structure ColOK (s : Scalps) (k src t d : Nat) (taken : Int) (n : Nat → Int) : Prop where
  each : ∀ i, t ≤ i → i < t + d → 0 ≤ n i ∧ (0 < n i → reachB s.strips i k = true) ∧ (digN s.carried src i : Int) + n i ≤ (hOf s.carried i).hi
  lo : (gOf s.strips k).lo ≤ taken + sFrom n t d
  hi : taken + sFrom n t d ≤ (gOf s.strips k).hi
def TakeP (P : Nat → Int → Prop) (s : Scalps) (k src t d a : Nat) (taken : Int) (cS : Nat → Int) (Q : Int → Prop) (x : Nat) (v : Int) : Prop :=
  P x v ∨ ∃ n, ColOK s k src t d taken n ∧ (x : Int) = (a : Int) + sFrom (fun i => n i * (stepN s.carried i : Int)) t d ∧ ∃ v0, Q v0 ∧ v = v0 + sFrom (fun i => cS i * n i) t d
theorem bs_eq {s : Scalps} (h : Right s) {t : Nat} (ht : t < s.carried.length) : (hOf s.carried t).hi + 1 = (bsN s.carried t : Int) := by
  have := hOf_ok h.net ht
  unfold bsN; omega
theorem take_spec {s : Scalps} (h : Right s) {k : Nat} (hk : k < s.strips.length) {N : Nat} (hN : N = stepN s.carried s.carried.length) (hN5 : N ≤ 100000) {cb : List (List Bool)} {bt : Nat → Bool} (hcb : ∀ t, t < s.carried.length → ∃ row, ix cb (t : Int) = some row ∧ ix row (k : Int) = some (bt t)) {src : Nat} (hsrc : src < N) :
    ∀ (d t fuel a : Nat) (rest taken lo hi : Int) (Q : Int → Prop) (P : Nat → Int → Prop) (nb : Book), t + d = s.carried.length → d < fuel → a < N → (∀ i, t ≤ i → digN s.carried a i = digN s.carried src i) → rest = ((src / stepN s.carried t : Nat) : Int) → 0 ≤ taken → taken ≤ (gOf s.strips k).hi → Q lo → Q hi → (∀ v, Q v → lo ≤ v ∧ v ≤ hi) → 0 ≤ lo → hi + 100 * (d : Int) ≤ 1000000 → BookOK P N nb →
      ∃ r, qi fuel s cb (k : Int) (t : Int) (a : Int) rest taken lo hi nb = some r ∧ BookOK (TakeP P s k src t d a taken (fun i => cnt (bt i)) Q) N ⟨r.next9_can, r.next9_least, r.next9_most⟩
  | 0, t, fuel, a, rest, taken, lo, hi, Q, P, nb, htd, hf, ha, hdig, hrest, ht0, hth, q1, q2, q3, hlo, hhi, hB => by
    obtain ⟨fu, rfl⟩ : ∃ fu, fuel = fu + 1 := ⟨fuel - 1, by omega⟩
    unfold qi JI
    rw [refGone_eq h hk, Option.bind_some, if_pos (by omega)]
    have hcol : ∀ x v, x < N → ((P x v ∨ ((gOf s.strips k).lo ≤ taken ∧ x = a ∧ Q v)) ↔ TakeP P s k src t 0 a taken (fun i => cnt (bt i)) Q x v) := fun x v hx => by
      unfold TakeP
      constructor
      · rintro (hp | ⟨h1, rfl, hq⟩)
        · exact .inl hp
        · exact .inr ⟨fun _ => 0, ⟨fun i h2 h3 => by omega, by simp only [sFrom]; omega, by simp only [sFrom]; omega⟩, by simp [sFrom], v, hq, by simp [sFrom]⟩
      · rintro (hp | ⟨n, hc, hx2, v0, hq, hv⟩)
        · exact .inl hp
        · have c1 := hc.lo
          simp only [sFrom] at c1 hx2 hv
          refine .inr ⟨by omega, by omega, ?_⟩
          rw [show v = v0 by omega]; exact hq
    by_cases hg : (gOf s.strips k).lo ≤ taken
    · rw [if_pos hg]
      obtain ⟨r, hr, hb⟩ := enter_spec hB ha q1 q2 q3
      rw [hr, Option.bind_some, Option.bind_some]
      refine ⟨_, rfl, hb.congr fun x v hx => ?_⟩
      rw [← hcol x v hx]
      exact ⟨fun hh => hh.elim .inl (fun ⟨a1, a2⟩ => .inr ⟨hg, a1, a2⟩), fun hh => hh.elim .inl (fun ⟨_, a1, a2⟩ => .inr ⟨a1, a2⟩)⟩
    · rw [if_neg hg, Option.bind_some]
      refine ⟨_, rfl, hB.congr fun x v hx => ?_⟩
      rw [← hcol x v hx]
      exact ⟨.inl, fun hh => hh.elim id (fun ⟨a1, _⟩ => absurd a1 hg)⟩
  | d + 1, t, fuel, a, rest, taken, lo, hi, Q, P, nb, htd, hf, ha, hdig, hrest, ht0, hth, q1, q2, q3, hlo, hhi, hB => by
    obtain ⟨fu, rfl⟩ : ∃ fu, fuel = fu + 1 := ⟨fuel - 1, by omega⟩
    have ht : t < s.carried.length := by omega
    have h5 := h.net.c5; have h6 := h.net.s6
    have hho := hOf_ok h.net ht
    have hgo := gOf_ok h.net hk
    have hbs := bs_eq h ht
    have hbp := stepN_pos s.carried t
    have hlh := q3 lo q1
    have hlh2 := q3 hi q2
    unfold qi JI
    rw [refGone_eq h hk, Option.bind_some, if_neg (by omega)]
    have hstepN : ∀ i, i ≤ s.carried.length → stepN s.carried i ≤ N := fun i hi => by
      by_cases he : i = s.carried.length
      · rw [he, hN]; exact Nat.le_refl _
      · obtain ⟨m, hm⟩ := stepN_dvd s.carried (show i < s.carried.length by omega)
        have hm0 : 0 < m := by
          rcases Nat.eq_zero_or_pos m with hz | hz
          · have := stepN_pos s.carried s.carried.length
            rw [hm, hz] at this; simp at this
          · exact hz
        rw [hN, hm, Nat.mul_assoc]
        exact Nat.le_mul_of_pos_right _ (Nat.mul_pos (Nat.succ_pos _) hm0)
    have k0 : iterM FU (yI (t : Int) s) ⟨1, 0⟩ = some (stepN s.carried t : Int) := by
      have key := iterM_run (f := yI (t : Int) s) (fun i => ⟨(stepN s.carried i : Int), (i : Int)⟩) t (b := (stepN s.carried t : Int)) (fun i hi => ?_) ?_ FU (FU_lt (by omega))
      · exact key
      · unfold yI
        have hit : i < s.carried.length := by omega
        have hb2 := bs_eq h hit
        have hoi := hOf_ok h.net hit
        have hle := hstepN (i + 1) (by omega)
        have e : (stepN s.carried i : Int) * (bsN s.carried i : Int) = (stepN s.carried (i + 1) : Int) := by simp [stepN]
        simp only
        unfold hOf at hb2 hoi
        rw [if_pos (by omega), ix_nat default hit, Option.bind_some, addc_eq (by omega), Option.bind_some, hb2, mulc_eq (by rw [e]; omega), Option.bind_some, addc_eq (by omega), Option.bind_some, e]
        rfl
      · unfold yI
        simp
    rw [k0, Option.bind_some]
    have hca : ix s.carried (t : Int) = some (hOf s.carried t) := ix_nat default ht
    have hsrcq : src / stepN s.carried t ≤ src := Nat.div_le_self _ _
    have hrem : (((src / stepN s.carried t : Nat) : Int)).tmod (bsN s.carried t : Int) = (digN s.carried src t : Int) := by
      unfold digN; rw [Int.ofNat_tmod]
    have hquo : (((src / stepN s.carried t : Nat) : Int)).tdiv (bsN s.carried t : Int) = ((src / stepN s.carried (t + 1) : Nat) : Int) := by
      rw [show stepN s.carried (t + 1) = stepN s.carried t * bsN s.carried t from rfl, ← Nat.div_div_eq_div_mul]; exact (Int.ofNat_tdiv _ _).symm
    have hqle : src / stepN s.carried (t + 1) ≤ src := Nat.div_le_self _ _
    have hbpos : 0 < bsN s.carried t := Nat.succ_pos _
    have hq0 : (0 : Int) ≤ ((src / stepN s.carried (t + 1) : Nat) : Int) := Int.natCast_nonneg _
    have hq1 : ((src / stepN s.carried (t + 1) : Nat) : Int) ≤ (src : Int) := Int.ofNat_le.2 hqle
    rw [hca, Option.bind_some, addc_eq (by omega), Option.bind_some, hrest, hbs, remc_eq (by omega), Option.bind_some, Option.bind_some, addc_eq (by omega), Option.bind_some, hbs, quoc_eq (by omega) (by rw [hquo]; omega), Option.bind_some, hrem, hquo, refReaches_eq (by omega) hk, Option.bind_some]
    have hdl := digN_lt s.carried src t
    obtain ⟨room, hroom, hr0, hr1, hr2⟩ : ∃ room : Int, (if reachB s.strips t k = true then ((some (hOf s.carried t) : Option Span).bind fun t83 => (subc t83.hi (digN s.carried src t : Int)).bind fun t87 => (subc (gOf s.strips k).hi taken).bind fun t91 => some (min t87 t91)) else some 0) = some room ∧ 0 ≤ room ∧ (room ≤ 30 ∧ (digN s.carried src t : Int) + room ≤ (hOf s.carried t).hi ∧ taken + room ≤ (gOf s.strips k).hi) ∧ ∀ n : Int, 0 ≤ n → (0 < n → reachB s.strips t k = true) → (digN s.carried src t : Int) + n ≤ (hOf s.carried t).hi → taken + n ≤ (gOf s.strips k).hi → n ≤ room := by
      by_cases hre : reachB s.strips t k = true
      · rw [if_pos hre, Option.bind_some, subc_eq (by omega), Option.bind_some, subc_eq (by omega), Option.bind_some]
        exact ⟨_, rfl, by omega, by omega, fun n _ _ _ _ => by omega⟩
      · rw [if_neg hre]
        exact ⟨0, rfl, by omega, by omega, fun n h1 h2 _ _ => by
          by_cases h3 : 0 < n
          · exact absurd (h2 h3) hre
          · omega⟩
    rw [hroom, Option.bind_some]
    have hreach0 : ∀ n : Int, 0 < n → n ≤ room → reachB s.strips t k = true := fun n h1 h2 => by
      by_cases hre : reachB s.strips t k = true
      · exact hre
      · rw [if_neg hre] at hroom
        have := Option.some.inj hroom
        omega
    have key : ∃ o, iterM FU (zP room cb (t : Int) (k : Int) (stepN s.carried t : Int) (a : Int) taken lo hi (qi fu) s ((src / stepN s.carried (t + 1) : Nat) : Int)) ⟨0, nb.can, nb.least, nb.most⟩ = some o ∧ BookOK (TakeP P s k src t (d + 1) a taken (fun i => cnt (bt i)) Q) N ⟨o.next9_can, o.next9_least, o.next9_most⟩ := by
      refine iterM_inv (f := zP room cb (t : Int) (k : Int) (stepN s.carried t : Int) (a : Int) taken lo hi (qi fu) s ((src / stepN s.carried (t + 1) : Nat) : Int)) (fun z => ∃ j : Nat, z.n25 = (j : Int) ∧ (j : Int) ≤ room + 1 ∧ BookOK (fun x v => P x v ∨ ∃ n, (ColOK s k src t (d + 1) taken n ∧ n t < (j : Int)) ∧ (x : Int) = (a : Int) + sFrom (fun i => n i * (stepN s.carried i : Int)) t (d + 1) ∧ ∃ v0, Q v0 ∧ v = v0 + sFrom (fun i => cnt (bt i) * n i) t (d + 1)) N ⟨z.next9_can, z.next9_least, z.next9_most⟩) (fun z => (room + 1 - z.n25).toNat) _ (fun z hz => ?_) FU _ (FU_lt (by simp only; omega)) ⟨0, rfl, by omega, hB.congr fun x v hx => ⟨.inl, fun hh => hh.elim id (fun ⟨n, ⟨hc, hn⟩, _⟩ => by have := (hc.each t (Nat.le_refl _) (by omega)).1; omega)⟩⟩
      obtain ⟨j, hj, hjr, hbk⟩ := hz
      unfold zP
      rw [hj]
      by_cases hlt : (j : Int) ≤ room
      · left
        rw [if_pos hlt]
        obtain ⟨row, e1, e2⟩ := hcb t ht
        have hone : (if bt t = true then (some (j : Int) : Option Int) else some 0) = some (cnt (bt t) * (j : Int)) := by
          unfold cnt; split <;> simp
        have hc01 := cnt_range (bt t)
        have hcj : 0 ≤ cnt (bt t) * (j : Int) ∧ cnt (bt t) * (j : Int) ≤ 30 := by unfold cnt; split <;> omega
        have hdj : digN s.carried a t + j < bsN s.carried t := by
          rw [hdig t (Nat.le_refl _)]
          omega
        have hup := at_up s.carried (T := s.carried.length) ht (by rw [← hN]; exact ha) hdj
        rw [← hN] at hup
        have hmul : (j : Int) * (stepN s.carried t : Int) = ((j * stepN s.carried t : Nat) : Int) := by push_cast; rfl
        rw [e1, Option.bind_some, e2, Option.bind_some, hone, Option.bind_some, addc_eq (by omega), Option.bind_some, mulc_eq (by rw [hmul]; omega), Option.bind_some, hmul, addc_eq (by omega), Option.bind_some, addc_eq (by omega), Option.bind_some, addc_eq (by omega), Option.bind_some, addc_eq (by omega), Option.bind_some]
        have hrec := take_spec h hk hN hN5 hcb hsrc d (t + 1) fu (a + j * stepN s.carried t) ((src / stepN s.carried (t + 1) : Nat) : Int) (taken + (j : Int)) (lo + cnt (bt t) * (j : Int)) (hi + cnt (bt t) * (j : Int)) (fun v => ∃ v0, Q v0 ∧ v = v0 + cnt (bt t) * (j : Int)) _ ⟨z.next9_can, z.next9_least, z.next9_most⟩ (by omega) (by omega) hup (fun i hi => by
          rw [dig_add s.carried hdj, if_neg (by omega)]; exact hdig i (by omega)) rfl (by omega) (by omega) ⟨lo, q1, rfl⟩ ⟨hi, q2, rfl⟩ (fun v ⟨v0, hv0, hv⟩ => by have := q3 v0 hv0; omega) (by omega) (by push_cast at hhi; omega) hbk
        obtain ⟨r, hr, hb⟩ := hrec
        have hr' : qi fu s cb (k : Int) ((t : Int) + 1) ((a : Int) + ((j * stepN s.carried t : Nat) : Int)) ((src / stepN s.carried (t + 1) : Nat) : Int) (taken + (j : Int)) (lo + cnt (bt t) * (j : Int)) (hi + cnt (bt t) * (j : Int)) ⟨z.next9_can, z.next9_least, z.next9_most⟩ = some r := by
          rw [← hr]; push_cast; rfl
        rw [hr', Option.bind_some, addc_eq (by omega), Option.bind_some]
        refine ⟨_, rfl, ⟨j + 1, by push_cast; rfl, by push_cast; omega, hb.congr fun x v hx => ?_⟩, by simp only; omega⟩
        unfold TakeP
        constructor
        · rintro ((hp | ⟨n, ⟨hc, hn⟩, hrst⟩) | ⟨n, hc, hx2, v1, ⟨v0, hq, hv1⟩, hv⟩)
          · exact .inl hp
          · exact .inr ⟨n, ⟨hc, by push_cast; omega⟩, hrst⟩
          · refine .inr ⟨fun i => if i = t then (j : Int) else n i, ⟨⟨fun i h1 h2 => ?_, ?_, ?_⟩, ?_⟩, ?_, v0, hq, ?_⟩
            · by_cases hit : i = t
              · subst hit
                simp only [if_true]
                refine ⟨by omega, fun h3 => hreach0 _ h3 hlt, by omega⟩
              · simp only [hit, if_false]
                exact hc.each i (by omega) (by omega)
            · have e : sFrom (fun i => if i = t then (j : Int) else n i) (t + 1) d = sFrom n (t + 1) d := sFrom_congr fun i h1 _ => by rw [if_neg (by omega)]
              have := hc.lo
              simp only [sFrom, if_true]
              rw [e]; omega
            · have e : sFrom (fun i => if i = t then (j : Int) else n i) (t + 1) d = sFrom n (t + 1) d := sFrom_congr fun i h1 _ => by rw [if_neg (by omega)]
              have := hc.hi
              simp only [sFrom, if_true]
              rw [e]; omega
            · simp only [if_true]; push_cast; omega
            · have e : sFrom (fun i => (if i = t then (j : Int) else n i) * (stepN s.carried i : Int)) (t + 1) d = sFrom (fun i => n i * (stepN s.carried i : Int)) (t + 1) d := sFrom_congr fun i h1 _ => by rw [if_neg (by omega)]
              simp only [sFrom, if_true]
              rw [e, hx2]; push_cast; omega
            · have e : sFrom (fun i => cnt (bt i) * (if i = t then (j : Int) else n i)) (t + 1) d = sFrom (fun i => cnt (bt i) * n i) (t + 1) d := sFrom_congr fun i h1 _ => by rw [if_neg (by omega)]
              simp only [sFrom, if_true]
              try dsimp only at hv hv1
              rw [e, hv, hv1]; omega
        · rintro (hp | ⟨n, ⟨hc, hn⟩, hx2, v0, hq, hv⟩)
          · exact .inl (.inl hp)
          · by_cases hnj : n t < (j : Int)
            · exact .inl (.inr ⟨n, ⟨hc, hnj⟩, hx2, v0, hq, hv⟩)
            · have hne : n t = (j : Int) := by push_cast at hn; omega
              simp only [sFrom] at hx2 hv
              have c1 := hc.lo
              have c2 := hc.hi
              simp only [sFrom] at c1 c2
              rw [hne] at hx2 hv c1 c2
              refine .inr ⟨n, ⟨fun i h1 h2 => hc.each i (by omega) (by omega), by omega, by omega⟩, ?_, v0 + cnt (bt t) * (j : Int), ⟨v0, hq, rfl⟩, ?_⟩
              · rw [hx2]; push_cast; omega
              · try dsimp only
                try dsimp only at hv
                rw [hv]; omega
      · right
        rw [if_neg hlt]
        refine ⟨_, rfl, hbk.congr fun x v hx => ?_⟩
        unfold TakeP
        constructor
        · rintro (hp | ⟨n, ⟨hc, _⟩, hrst⟩)
          · exact .inl hp
          · exact .inr ⟨n, hc, hrst⟩
        · rintro (hp | ⟨n, hc, hrst⟩)
          · exact .inl hp
          · refine .inr ⟨n, ⟨hc, ?_⟩, hrst⟩
            have e := hc.each t (Nat.le_refl _) (by omega)
            have hnn : 0 ≤ sFrom n (t + 1) d := sFrom_nonneg fun i h1 h2 => (hc.each i (by omega) (by omega)).1
            have c2 := hc.hi
            simp only [sFrom] at c2
            have := hr2 (n t) e.1 e.2.1 e.2.2 (by omega)
            omega
    obtain ⟨o, ho, hb⟩ := key
    rw [ho, Option.bind_some]
    exact ⟨_, rfl, hb⟩
end Go.Proofs.Ws

namespace Go.Proofs.Ws
open Go Go.Fw Go.Gx Go.Sp
set_option linter.unusedVariables false
def valN (ca : List Span) (f : Nat → Nat) : Nat → Nat
  | 0 => 0
  | t + 1 => valN ca f t + f t * stepN ca t
theorem stepN_mono (ca : List Span) {t T : Nat} (h : t ≤ T) : stepN ca t ≤ stepN ca T := by
  by_cases he : t = T
  · rw [he]; exact Nat.le_refl _
  · obtain ⟨m, hm⟩ := stepN_dvd ca (show t < T by omega)
    have hm0 : 0 < m := by
      rcases Nat.eq_zero_or_pos m with hz | hz
      · have := stepN_pos ca T
        rw [hm, hz] at this; simp at this
      · exact hz
    rw [hm, Nat.mul_assoc]
    exact Nat.le_mul_of_pos_right _ (Nat.mul_pos (Nat.succ_pos _) hm0)
theorem dig_big (ca : List Span) {a t : Nat} (h : a < stepN ca t) : digN ca a t = 0 := by
  unfold digN
  rw [Nat.div_eq_of_lt h, Nat.zero_mod]
theorem valN_lt (ca : List Span) {f : Nat → Nat} : ∀ {T : Nat}, (∀ i, i < T → f i < bsN ca i) → valN ca f T < stepN ca T
  | 0, _ => by simp [valN, stepN]
  | T + 1, h => by
    have ih := valN_lt ca (f := f) (T := T) (fun i hi => h i (by omega))
    have hT := h T (Nat.lt_succ_self _)
    simp only [valN, stepN]
    have h1 : f T * stepN ca T + stepN ca T ≤ bsN ca T * stepN ca T := by
      rw [← Nat.succ_mul]; exact Nat.mul_le_mul_right _ hT
    rw [Nat.mul_comm (stepN ca T)]
    omega
theorem valN_dig (ca : List Span) {f : Nat → Nat} : ∀ {T : Nat}, (∀ i, i < T → f i < bsN ca i) → ∀ i, i < T → digN ca (valN ca f T) i = f i
  | 0, _, i, hi => by omega
  | T + 1, h, i, hi => by
    have hb := valN_lt ca (f := f) (T := T) (fun i hi => h i (by omega))
    have h0 := dig_big ca hb
    have hd : digN ca (valN ca f T) T + f T < bsN ca T := by rw [h0, Nat.zero_add]; exact h T (Nat.lt_succ_self _)
    simp only [valN]
    rw [dig_add ca hd]
    by_cases he : i = T
    · subst he; rw [if_pos rfl, h0, Nat.zero_add]
    · rw [if_neg he]
      exact valN_dig ca (fun i hi => h i (by omega)) i (by omega)
theorem dig_val (ca : List Span) {a : Nat} : ∀ {T : Nat}, a % stepN ca T = valN ca (digN ca a) T
  | 0 => by simp [stepN, valN, Nat.mod_one]
  | T + 1 => by
    simp only [stepN, valN]
    rw [Nat.mod_mul, dig_val (T := T)]
    unfold digN
    rw [Nat.mul_comm (stepN ca T)]
theorem dig_val_lt (ca : List Span) {a T : Nat} (h : a < stepN ca T) : a = valN ca (digN ca a) T := by
  rw [← dig_val, Nat.mod_eq_of_lt h]
theorem valN_congr (ca : List Span) {f g : Nat → Nat} : ∀ {T : Nat}, (∀ i, i < T → f i = g i) → valN ca f T = valN ca g T
  | 0, _ => rfl
  | T + 1, h => by
    simp only [valN]
    rw [h T (Nat.lt_succ_self _), valN_congr ca (fun i hi => h i (by omega))]
theorem valN_add (ca : List Span) (f g : Nat → Nat) : ∀ T, valN ca (fun i => f i + g i) T = valN ca f T + valN ca g T
  | 0 => rfl
  | T + 1 => by simp only [valN]; rw [valN_add ca f g T, Nat.add_mul]; omega
theorem sFrom_sumTo (f : Nat → Int) : ∀ d t, sFrom f t d = sumTo f (t + d) - sumTo f t
  | 0, t => by simp [sFrom]
  | d + 1, t => by
    simp only [sFrom]
    rw [sFrom_sumTo f d (t + 1), show t + 1 + d = t + (d + 1) by omega]
    simp only [sumTo]
    omega
theorem sFrom0 (f : Nat → Int) (d : Nat) : sFrom f 0 d = sumTo f d := by
  rw [sFrom_sumTo, Nat.zero_add]; simp [sumTo]
theorem sum_valN (ca : List Span) {n : Nat → Int} : ∀ {T : Nat}, (∀ i, i < T → 0 ≤ n i) → sumTo (fun i => n i * (stepN ca i : Int)) T = (valN ca (fun i => (n i).toNat) T : Int)
  | 0, _ => rfl
  | T + 1, h => by
    simp only [sumTo, valN]
    have := h T (Nat.lt_succ_self _)
    rw [sum_valN ca (fun i hi => h i (by omega))]
    push_cast
    rw [Int.toNat_of_nonneg this]
structure PartP (s : Scalps) (c : Nat → Nat → Int) (k : Nat) (a : Nat) (v : Int) (y : Nat → Nat → Int) : Prop where
  pos : ∀ t j, t < s.carried.length → j < k → 0 ≤ y t j ∧ (0 < y t j → reachB s.strips t j = true)
  row : ∀ t, t < s.carried.length → sumTo (fun j => y t j) k = (digN s.carried a t : Int)
  str : ∀ j, j < k → (gOf s.strips j).lo ≤ sumTo (fun t => y t j) s.carried.length ∧ sumTo (fun t => y t j) s.carried.length ≤ (gOf s.strips j).hi
  val : v = sumTo (fun j => sumTo (fun t => c t j * y t j) s.carried.length) k
theorem part_zero {s : Scalps} {c : Nat → Nat → Int} {a : Nat} {v : Int} (ha : a < stepN s.carried s.carried.length) : (∃ y, PartP s c 0 a v y) ↔ a = 0 ∧ v = 0 := by
  constructor
  · rintro ⟨y, h⟩
    refine ⟨?_, by simpa [sumTo] using h.val⟩
    rw [dig_val_lt s.carried ha]
    have : ∀ T, T ≤ s.carried.length → valN s.carried (digN s.carried a) T = 0 := by
      intro T
      induction T with
      | zero => intro _; rfl
      | succ T ih =>
        intro hT
        simp only [valN]
        have := h.row T (by omega)
        simp only [sumTo] at this
        rw [ih (by omega), show digN s.carried a T = 0 by omega]
        simp
    exact this _ (Nat.le_refl _)
  · rintro ⟨rfl, rfl⟩
    exact ⟨fun _ _ => 0, fun t j _ hj => by omega, fun t _ => by rw [dig_zero]; rfl, fun j hj => by omega, rfl⟩
theorem part_succ {s : Scalps} (h : Right s) {c : Nat → Nat → Int} {k : Nat} (hk : k < s.strips.length) {x : Nat} (hx : x < stepN s.carried s.carried.length) {v : Int} :
    (∃ y, PartP s c (k + 1) x v y) ↔ ∃ src, src < stepN s.carried s.carried.length ∧ ∃ n, ColOK s k src 0 s.carried.length 0 n ∧ (x : Int) = (src : Int) + sFrom (fun i => n i * (stepN s.carried i : Int)) 0 s.carried.length ∧ ∃ v0, (∃ y, PartP s c k src v0 y) ∧ v = v0 + sFrom (fun i => c i k * n i) 0 s.carried.length := by
  constructor
  · rintro ⟨y, hy⟩
    have hrow : ∀ t, t < s.carried.length → 0 ≤ sumTo (fun j => y t j) k ∧ sumTo (fun j => y t j) k + y t k = (digN s.carried x t : Int) := fun t ht => by
      have := hy.row t ht
      simp only [sumTo] at this
      exact ⟨sumTo_nonneg fun j hj => (hy.pos t j ht (by omega)).1, this⟩
    have hp : ∀ t, t < s.carried.length → 0 ≤ y t k := fun t ht => (hy.pos t k ht (Nat.lt_succ_self _)).1
    have hf : ∀ t, t < s.carried.length → (sumTo (fun j => y t j) k).toNat < bsN s.carried t := fun t ht => by
      have := hrow t ht; have := hp t ht
      have := digN_lt s.carried x t
      omega
    have hd := valN_dig s.carried hf
    refine ⟨valN s.carried (fun t => (sumTo (fun j => y t j) k).toNat) s.carried.length, valN_lt s.carried hf, fun t => y t k, ⟨fun i _ hi => ?_, ?_, ?_⟩, ?_, sumTo (fun j => sumTo (fun t => c t j * y t j) s.carried.length) k, ⟨y, ⟨fun t j ht hj => hy.pos t j ht (by omega), fun t ht => ?_, fun j hj => hy.str j (by omega), rfl⟩⟩, ?_⟩
    · have hi' : i < s.carried.length := by omega
      refine ⟨hp i hi', (hy.pos i k hi' (Nat.lt_succ_self _)).2, ?_⟩
      rw [hd i hi']
      have := hrow i hi'
      have := digN_lt s.carried x i
      have := bs_eq h hi'
      omega
    · rw [sFrom0, Int.zero_add]; exact (hy.str k (Nat.lt_succ_self _)).1
    · rw [sFrom0, Int.zero_add]; exact (hy.str k (Nat.lt_succ_self _)).2
    · rw [sFrom0, sum_valN s.carried (fun i hi => hp i hi), ← Int.natCast_add, ← valN_add]
      congr 1
      refine (dig_val_lt s.carried hx).trans (valN_congr s.carried fun i hi => ?_)
      have := hrow i hi; have := hp i hi
      omega
    · rw [hd t ht]
      have := (hrow t ht).1
      omega
    · rw [sFrom0, hy.val]; rfl
  · rintro ⟨src, hsrc, n, hc, hx2, v0, ⟨y, hy⟩, hv⟩
    have hn : ∀ i, i < s.carried.length → 0 ≤ n i := fun i hi => (hc.each i (Nat.zero_le _) (by omega)).1
    have hb : ∀ i, i < s.carried.length → digN s.carried src i + (n i).toNat < bsN s.carried i := fun i hi => by
      have := hc.each i (Nat.zero_le _) (by omega)
      have := bs_eq h hi
      omega
    have hxe : x = valN s.carried (fun i => digN s.carried src i + (n i).toNat) s.carried.length := by
      rw [valN_add, ← dig_val_lt s.carried hsrc]
      rw [sFrom0, sum_valN s.carried hn] at hx2
      omega
    have hdx : ∀ i, i < s.carried.length → digN s.carried x i = digN s.carried src i + (n i).toNat := fun i hi => by
      rw [hxe]; exact valN_dig s.carried hb i hi
    refine ⟨fun t j => if j = k then n t else y t j, ⟨fun t j ht hj => ?_, fun t ht => ?_, fun j hj => ?_, ?_⟩⟩
    · by_cases he : j = k
      · subst he
        simp only [if_true]
        have := hc.each t (Nat.zero_le _) (by omega)
        exact ⟨this.1, this.2.1⟩
      · simp only [he, if_false]
        exact hy.pos t j ht (by omega)
    · simp only [sumTo, if_true]
      rw [sumTo_congr (g := fun j => y t j) (fun j hj => by rw [if_neg (by omega)]), hy.row t ht, hdx t ht]
      have := hn t ht
      omega
    · by_cases he : j = k
      · subst he
        simp only [if_true]
        have h1 := hc.lo; have h2 := hc.hi
        rw [sFrom0, Int.zero_add] at h1 h2
        exact ⟨h1, h2⟩
      · simp only [he, if_false]
        exact hy.str j (by omega)
    · simp only [sumTo, if_true]
      rw [sumTo_congr (g := fun j => sumTo (fun t => c t j * y t j) s.carried.length) (fun j hj => sumTo_congr fun t _ => by rw [if_neg (by omega)]), hv, hy.val, sFrom0]
end Go.Proofs.Ws

namespace Go.Proofs.Ws
open Go Go.Fw Go.Gx Go.Sp
set_option linter.unusedVariables false
theorem part_bd {s : Scalps} (h : Right s) {bt : Nat → Nat → Bool} {k a : Nat} {v : Int} {y : Nat → Nat → Int} (hp : PartP s (fun t j => cnt (bt t j)) k a v y) : 0 ≤ v ∧ v ≤ 150 := by
  have h5 := h.net.c5
  rw [hp.val]
  constructor
  · exact sumTo_nonneg fun j hj => sumTo_nonneg fun t ht => Int.mul_nonneg (cnt_range _).2.2 (hp.pos t j ht hj).1
  · have e : sumTo (fun j => sumTo (fun t => cnt (bt t j) * y t j) s.carried.length) k ≤ sumTo (fun j => sumTo (fun t => y t j) s.carried.length) k := by
      refine sumTo_le fun j hj => sumTo_le fun t ht => ?_
      have h1 := (hp.pos t j ht hj).1
      unfold cnt
      split <;> omega
    have e2 : sumTo (fun j => sumTo (fun t => y t j) s.carried.length) k = sumTo (fun t => (digN s.carried a t : Int)) s.carried.length := by
      rw [sumTo_comm (fun j t => y t j)]
      exact sumTo_congr fun t ht => hp.row t ht
    have e3 : sumTo (fun t => (digN s.carried a t : Int)) s.carried.length ≤ sumTo (fun _ => 30) s.carried.length := by
      refine sumTo_le fun t ht => ?_
      have := digN_lt s.carried a t
      have := bs_eq h ht
      have := hOf_ok h.net ht
      omega
    have e4 : sumTo (fun _ => (30 : Int)) s.carried.length ≤ 150 := by
      have : ∀ n : Nat, sumTo (fun _ => (30 : Int)) n = 30 * (n : Int) := by
        intro n
        induction n with
        | zero => rfl
        | succ n ih => simp only [sumTo]; rw [ih]; omega
      rw [this]; omega
    omega
theorem blank_eq {N : Nat} (hN : N ≤ 100000) : KM (N : Int) = some ⟨List.replicate N false, List.replicate N 0, List.replicate N 0⟩ := by
  unfold KM
  rw [makec_eq ⟨by omega, by omega, by omega, by omega⟩, Option.bind_some, makec_eq ⟨by omega, by omega, by omega, by omega⟩, Option.bind_some, Option.bind_some, Option.bind_some, Int.toNat_natCast]
theorem gtB_rep {N a : Nat} : gtB (List.replicate N false) a = false := by
  unfold gtB
  rw [List.getD_eq_getElem?_getD, List.getElem?_replicate]
  split <;> rfl
theorem gtI_rep {N a : Nat} : gtI (List.replicate N 0) a = 0 := by
  unfold gtI
  rw [List.getD_eq_getElem?_getD, List.getElem?_replicate]
  split <;> rfl
theorem blank_ok {N : Nat} : BookOK (fun _ _ => False) N ⟨List.replicate N false, List.replicate N 0, List.replicate N 0⟩ :=
  ⟨by simp, by simp, by simp, fun a ha => by simp only; rw [gtB_rep]; simp, fun a v ha h => h.elim, fun a ha hc => by simp only at hc; rw [gtB_rep] at hc; cases hc⟩
theorem first_ok {N : Nat} (hN : 0 < N) : BookOK (fun a v => a = 0 ∧ v = 0) N ⟨(List.replicate N false).set 0 true, List.replicate N 0, List.replicate N 0⟩ := by
  refine ⟨by simp, by simp, by simp, fun a ha => ?_, fun a v ha h => ?_, fun a ha hc => ?_⟩
  · simp only
    rw [gtB_set (by simp; omega), gtB_rep]
    by_cases h0 : a = 0
    · rw [if_pos h0]; exact ⟨fun _ => ⟨0, h0, rfl⟩, fun _ => rfl⟩
    · rw [if_neg h0]; exact ⟨fun h => (by cases h), fun ⟨v, h, _⟩ => absurd h h0⟩
  · simp only
    rw [gtI_rep]; omega
  · simp only at hc ⊢
    rw [gtB_set (by simp; omega), gtB_rep] at hc
    by_cases h0 : a = 0
    · rw [gtI_rep]; exact ⟨⟨h0, rfl⟩, h0, rfl⟩
    · rw [if_neg h0] at hc; cases hc
def enB (s : Scalps) (a : Nat) : Bool := (List.range s.carried.length).all fun t => decide ((hOf s.carried t).lo ≤ (digN s.carried a t : Int))
theorem enB_iff {s : Scalps} {a : Nat} : enB s a = true ↔ ∀ t, t < s.carried.length → (hOf s.carried t).lo ≤ (digN s.carried a t : Int) := by
  unfold enB
  rw [List.all_eq_true]
  exact ⟨fun h t ht => of_decide_eq_true (h t (List.mem_range.2 ht)), fun h t ht => decide_eq_true (h t (List.mem_range.1 ht))⟩
theorem enough_eq {s : Scalps} (h : Right s) {a : Nat} (ha : a ≤ 100000) : KN s (a : Int) = some (enB s a) := by
  have h5 := h.net.c5
  unfold KN
  have key := iterM_find (f := zV s) (fun t => ⟨((a / stepN s.carried t : Nat) : Int), (t : Int)⟩) s.carried.length (fun t => !decide ((hOf s.carried t).lo ≤ (digN s.carried a t : Int))) (fun _ => .inr false) (.inl ()) (fun t ht _ => ?_) ?_ (N := FU) (FU_lt (by omega))
  · have e0 : (⟨(a : Int), 0⟩ : zQ) = ⟨((a / stepN s.carried 0 : Nat) : Int), ((0 : Nat) : Int)⟩ := by simp [stepN]
    rw [e0, key, Option.bind_some]
    have e : enB s a = ((List.range s.carried.length).find? fun t => !decide ((hOf s.carried t).lo ≤ (digN s.carried a t : Int))).isNone := by
      unfold enB
      exact all_find
    rw [e]
    cases (List.range s.carried.length).find? fun t => !decide ((hOf s.carried t).lo ≤ (digN s.carried a t : Int)) <;> rfl
  · unfold zV
    have hb2 := bs_eq h ht
    have hoi := hOf_ok h.net ht
    have hq : a / stepN s.carried t ≤ a := Nat.div_le_self _ _
    have hq2 : a / stepN s.carried (t + 1) ≤ a := Nat.div_le_self _ _
    have hlt : (t : Int) < (s.carried.length : Int) := by omega
    have hbpos : 0 < bsN s.carried t := Nat.succ_pos _
    have hq0 : (0 : Int) ≤ ((a / stepN s.carried (t + 1) : Nat) : Int) := Int.natCast_nonneg _
    have hq1 : ((a / stepN s.carried (t + 1) : Nat) : Int) ≤ (a : Int) := Int.ofNat_le.2 hq2
    have hca : ix s.carried (t : Int) = some (hOf s.carried t) := ix_nat default ht
    have hrem : (((a / stepN s.carried t : Nat) : Int)).tmod (bsN s.carried t : Int) = (digN s.carried a t : Int) := by
      unfold digN; rw [Int.ofNat_tmod]
    have hquo : (((a / stepN s.carried t : Nat) : Int)).tdiv (bsN s.carried t : Int) = ((a / stepN s.carried (t + 1) : Nat) : Int) := by
      rw [show stepN s.carried (t + 1) = stepN s.carried t * bsN s.carried t from rfl, ← Nat.div_div_eq_div_mul]; exact (Int.ofNat_tdiv _ _).symm
    simp only [hlt, if_true]
    rw [hca, Option.bind_some, addc_eq (by omega), Option.bind_some, hb2, remc_eq (by omega), Option.bind_some, hrem, Option.bind_some]
    by_cases hd : (hOf s.carried t).lo ≤ (digN s.carried a t : Int)
    · rw [if_neg (by omega), Option.bind_some, addc_eq (by omega), Option.bind_some, hb2, quoc_eq (by omega) (by rw [hquo]; omega), Option.bind_some, addc_eq (by omega), Option.bind_some, hquo, decide_eq_true hd]
      rfl
    · rw [if_pos (by omega), decide_eq_false hd]
      rfl
  · unfold zV
    simp
theorem strip_L2 {s : Scalps} (h : Right s) {k : Nat} (hk : k < s.strips.length) {N : Nat} (hN : N = stepN s.carried s.carried.length) (hN5 : N ≤ 100000) {cb : List (List Bool)} {bt : Nat → Nat → Bool} (hcb : ∀ t k, t < s.carried.length → k < s.strips.length → ∃ row, ix cb (t : Int) = some row ∧ ix row (k : Int) = some (bt t k)) {z : zt} (hz : z.k10 = (k : Int)) (hB : BookOK (fun a v => ∃ y, PartP s (fun t j => cnt (bt t j)) k a v y) N ⟨z.now9_can, z.now9_least, z.now9_most⟩) :
    ∃ o, iterM FU (Jy (N : Int) z s cb) ⟨0, List.replicate N false, List.replicate N 0, List.replicate N 0⟩ = some o ∧ BookOK (fun a v => ∃ y, PartP s (fun t j => cnt (bt t j)) (k + 1) a v y) N ⟨o.r0_can, o.r0_least, o.r0_most⟩ := by
  have h5 := h.net.c5
  have hgo := gOf_ok h.net hk
  have key := iterM_inv (f := Jy (N : Int) z s cb) (fun u => ∃ j : Nat, u.at12 = (j : Int) ∧ j ≤ N ∧ BookOK (fun x v => ∃ src, src < j ∧ ∃ n, ColOK s k src 0 s.carried.length 0 n ∧ (x : Int) = (src : Int) + sFrom (fun i => n i * (stepN s.carried i : Int)) 0 s.carried.length ∧ ∃ v0, (∃ y, PartP s (fun t j => cnt (bt t j)) k src v0 y) ∧ v = v0 + sFrom (fun i => cnt (bt i k) * n i) 0 s.carried.length) N ⟨u.r0_can, u.r0_least, u.r0_most⟩) (fun u => ((N : Int) - u.at12).toNat) (fun o => BookOK (fun a v => ∃ y, PartP s (fun t j => cnt (bt t j)) (k + 1) a v y) N ⟨o.r0_can, o.r0_least, o.r0_most⟩) (fun u hu => ?_) FU ⟨0, List.replicate N false, List.replicate N 0, List.replicate N 0⟩ (FU_lt (by simp only; omega)) ⟨0, rfl, by omega, blank_ok.congr fun x v hx => ⟨fun hf => hf.elim, fun ⟨src, hs, _⟩ => absurd hs (by omega)⟩⟩
  · exact key
  obtain ⟨j, hj, hjN, hbk⟩ := hu
  unfold Jy
  rw [hj]
  by_cases hlt : j < N
  · left
    rw [if_pos (by omega), ix_nat false (by rw [show z.now9_can.length = N from hB.l1]; exact hlt), Option.bind_some]
    have hcj : z.now9_can.getD j false = gtB z.now9_can j := rfl
    rw [hcj]
    by_cases hc : gtB z.now9_can j = true
    · obtain ⟨e1, e2⟩ := hB.ends j hlt hc
      obtain ⟨y1, p1⟩ := e1
      obtain ⟨y2, p2⟩ := e2
      have b1 := part_bd h p1
      have b2 := part_bd h p2
      obtain ⟨r, hr, hb⟩ := take_spec h hk hN hN5 (cb := cb) (bt := fun t => bt t k) (fun t ht => hcb t k ht hk) (src := j) hlt s.carried.length 0 FU j (j : Int) 0 (gtI z.now9_least j) (gtI z.now9_most j) (fun v => ∃ y, PartP s (fun t j => cnt (bt t j)) k j v y) _ ⟨u.r0_can, u.r0_least, u.r0_most⟩ (by omega) (FU_lt (by omega)) hlt (fun _ _ => rfl) (by simp [stepN]) (Int.le_refl _) (by omega) ⟨y1, p1⟩ ⟨y2, p2⟩ (fun v hv => hB.bd j v hlt hv) b1.1 (by simp only at b2; omega) hbk
      rw [if_pos hc, ix_nat 0 (by rw [show z.now9_least.length = N from hB.l2]; exact hlt), Option.bind_some, ix_nat 0 (by rw [show z.now9_most.length = N from hB.l3]; exact hlt), Option.bind_some, hz]
      have hr' : qi FU s cb (k : Int) 0 (j : Int) (j : Int) 0 (z.now9_least.getD j 0) (z.now9_most.getD j 0) ⟨u.r0_can, u.r0_least, u.r0_most⟩ = some r := hr
      rw [hr', Option.bind_some, Option.bind_some, addc_eq (by omega), Option.bind_some]
      refine ⟨_, rfl, ⟨j + 1, by push_cast; rfl, hlt, hb.congr fun x v hx => ?_⟩, by simp only; omega⟩
      unfold TakeP
      constructor
      · rintro (⟨src, hs, hrst⟩ | ⟨n, c1, c2, v0, c3, c4⟩)
        · exact ⟨src, by omega, hrst⟩
        · exact ⟨j, by omega, n, c1, c2, v0, c3, c4⟩
      · rintro ⟨src, hs, n, c1, c2, v0, c3, c4⟩
        by_cases he : src = j
        · subst he; exact .inr ⟨n, c1, c2, v0, c3, c4⟩
        · exact .inl ⟨src, by omega, n, c1, c2, v0, c3, c4⟩
    · rw [if_neg hc, Option.bind_some, addc_eq (by omega), Option.bind_some]
      refine ⟨_, rfl, ⟨j + 1, by push_cast; rfl, hlt, hbk.congr fun x v hx => ?_⟩, by simp only; omega⟩
      constructor
      · rintro ⟨src, hs, hrst⟩; exact ⟨src, by omega, hrst⟩
      · rintro ⟨src, hs, n, c1, c2, v0, c3, c4⟩
        by_cases he : src = j
        · subst he; exact absurd ((hB.can src hlt).2 ⟨v0, c3⟩) hc
        · exact ⟨src, by omega, n, c1, c2, v0, c3, c4⟩
  · right
    rw [if_neg (by omega)]
    have hjn : j = N := by omega
    subst hjn
    refine ⟨_, rfl, hbk.congr fun x v hx => ?_⟩
    rw [hN] at hx
    rw [part_succ h hk hx, hN]
theorem fits_part {s : Scalps} (h : Right s) {c : Nat → Nat → Int} {y : Nat → Nat → Int} : FitsS s y ↔ ∃ a, a < stepN s.carried s.carried.length ∧ enB s a = true ∧ PartP s c s.strips.length a (countS s c y) y := by
  have hcnt : countS s c y = sumTo (fun j => sumTo (fun t => c t j * y t j) s.carried.length) s.strips.length := by
    unfold countS countY
    exact sumTo_comm (fun t k => c t k * y t k) _ _
  constructor
  · intro hy
    have hp : ∀ t, t < s.carried.length → 0 ≤ sumTo (fun k => y t k) s.strips.length := fun t ht => sumTo_nonneg fun k hk => (hy.pos t k ht hk).1
    have hf : ∀ t, t < s.carried.length → (sumTo (fun k => y t k) s.strips.length).toNat < bsN s.carried t := fun t ht => by
      have := (hy.ten t ht).2
      have := hp t ht
      have := bs_eq h ht
      omega
    have hd := valN_dig s.carried hf
    refine ⟨valN s.carried (fun t => (sumTo (fun k => y t k) s.strips.length).toNat) s.carried.length, valN_lt s.carried hf, enB_iff.2 fun t ht => ?_, ⟨fun t j ht hj => hy.pos t j ht hj, fun t ht => ?_, hy.str, hcnt⟩⟩
    · rw [hd t ht]
      have := (hy.ten t ht).1
      omega
    · rw [hd t ht]
      have := hp t ht
      omega
  · rintro ⟨a, ha, he, hp⟩
    refine ⟨hp.pos, fun t ht => ?_, hp.str⟩
    rw [hp.row t ht]
    have := enB_iff.1 he t ht
    have := digN_lt s.carried a t
    have := bs_eq h ht
    omega
structure RgInv (ok : Nat → Prop) (P : Nat → Int → Prop) (j : Nat) (f : Bool) (lo hi : Int) : Prop where
  no : f = false → lo = 0 ∧ hi = 0 ∧ ∀ a, a < j → ¬ ok a
  yes : f = true → (∃ a, a < j ∧ ok a ∧ P a lo) ∧ (∃ a, a < j ∧ ok a ∧ P a hi) ∧ ∀ a v, a < j → ok a → P a v → lo ≤ v ∧ v ≤ hi
theorem Range_spec {s : Scalps} (h : Right s) (hN5 : stepN s.carried s.carried.length ≤ 100000) {cb : List (List Bool)} {bt : Nat → Nat → Bool} (hcb : ∀ t k, t < s.carried.length → k < s.strips.length → ∃ row, ix cb (t : Int) = some row ∧ ix row (k : Int) = some (bt t k)) :
    (∃ lo hi, JB s cb = some ⟨lo, hi, true⟩ ∧ IsRange s (fun t k => cnt (bt t k)) lo hi) ∨ (JB s cb = some ⟨0, 0, false⟩ ∧ NoFit s) := by
  have h5 := h.net.c5; have h6 := h.net.s6
  generalize hN : stepN s.carried s.carried.length = N at hN5
  have hNp : 0 < N := by rw [← hN]; exact stepN_pos _ _
  have k0 : iterM FU (zy s) ⟨1, 0⟩ = some (N : Int) := by
    have key := iterM_run (f := zy s) (fun i => ⟨(stepN s.carried i : Int), (i : Int)⟩) s.carried.length (b := (N : Int)) (fun i hi => ?_) ?_ FU (FU_lt (by omega))
    · exact key
    · unfold zy
      have hb2 := bs_eq h hi
      have hoi := hOf_ok h.net hi
      have hle := stepN_mono s.carried (show i + 1 ≤ s.carried.length by omega)
      have e : (stepN s.carried i : Int) * (bsN s.carried i : Int) = (stepN s.carried (i + 1) : Int) := by simp [stepN]
      have hca : ix s.carried (i : Int) = some (hOf s.carried i) := ix_nat default hi
      simp only
      rw [if_pos (by omega), hca, Option.bind_some, addc_eq (by omega), Option.bind_some, hb2, mulc_eq (by rw [e]; omega), Option.bind_some, addc_eq (by omega), Option.bind_some, e]
      rfl
    · unfold zy
      simp [hN]
  unfold JB
  rw [k0, Option.bind_some, blank_eq hN5, Option.bind_some]
  dsimp only
  have hix : ix (List.replicate N false) 0 = some ((List.replicate N false).getD 0 false) := ix_nat (k := 0) false (by simp; omega)
  rw [hix, Option.bind_some, Option.bind_some, Int.toNat_zero]
  have k1 : ∃ o, iterM FU (Jz s (N : Int) cb) ⟨0, (List.replicate N false).set 0 true, List.replicate N 0, List.replicate N 0⟩ = some o ∧ BookOK (fun a v => ∃ y, PartP s (fun t j => cnt (bt t j)) s.strips.length a v y) N ⟨o.now9_can, o.now9_least, o.now9_most⟩ := by
    refine iterM_inv (f := Jz s (N : Int) cb) (fun z => ∃ k : Nat, z.k10 = (k : Int) ∧ k ≤ s.strips.length ∧ BookOK (fun a v => ∃ y, PartP s (fun t j => cnt (bt t j)) k a v y) N ⟨z.now9_can, z.now9_least, z.now9_most⟩) (fun z => ((s.strips.length : Int) - z.k10).toNat) _ (fun z hz => ?_) FU _ (FU_lt (by simp only; omega)) ⟨0, rfl, by omega, (first_ok hNp).congr fun a v ha => (part_zero (by rw [hN]; exact ha)).symm⟩
    obtain ⟨k, hk, hkS, hB⟩ := hz
    unfold Jz
    by_cases hlt : k < s.strips.length
    · left
      obtain ⟨o, ho, hb⟩ := strip_L2 h hlt hN.symm hN5 hcb hk hB
      rw [hk, if_pos (by omega), blank_eq hN5, Option.bind_some]
      dsimp only
      rw [ho, Option.bind_some, addc_eq (by omega), Option.bind_some]
      exact ⟨_, rfl, ⟨k + 1, by push_cast; rfl, hlt, hb⟩, by simp only; omega⟩
    · right
      rw [hk, if_neg (by omega)]
      have : k = s.strips.length := by omega
      subst this
      exact ⟨_, rfl, hB⟩
  obtain ⟨o1, ho1, hB⟩ := k1
  rw [ho1, Option.bind_some]
  have k3 : ∃ o, iterM FU (JF (N : Int) o1 s) ⟨false, 0, 0, 0⟩ = some o ∧ RgInv (fun a => gtB o1.now9_can a = true ∧ enB s a = true) (fun a v => ∃ y, PartP s (fun t j => cnt (bt t j)) s.strips.length a v y) N o.found13 o.least14 o.most15 := by
    refine iterM_inv (f := JF (N : Int) o1 s) (fun z => ∃ j : Nat, z.at16 = (j : Int) ∧ j ≤ N ∧ RgInv (fun a => gtB o1.now9_can a = true ∧ enB s a = true) (fun a v => ∃ y, PartP s (fun t j => cnt (bt t j)) s.strips.length a v y) j z.found13 z.least14 z.most15) (fun z => ((N : Int) - z.at16).toNat) _ (fun z hz => ?_) FU _ (FU_lt (by simp only; omega)) ⟨0, rfl, by omega, ⟨fun _ => ⟨rfl, rfl, fun a ha => absurd ha (by omega)⟩, fun hf => (by cases hf)⟩⟩
    obtain ⟨j, hj, hjN, hI⟩ := hz
    unfold JF
    rw [hj]
    by_cases hlt : j < N
    · left
      have e1 : ix o1.now9_can (j : Int) = some (gtB o1.now9_can j) := ix_nat false (by rw [show o1.now9_can.length = N from hB.l1]; exact hlt)
      have e2 : ix o1.now9_least (j : Int) = some (gtI o1.now9_least j) := ix_nat 0 (by rw [show o1.now9_least.length = N from hB.l2]; exact hlt)
      have e3 : ix o1.now9_most (j : Int) = some (gtI o1.now9_most j) := ix_nat 0 (by rw [show o1.now9_most.length = N from hB.l3]; exact hlt)
      rw [if_pos (by omega), e1, e2, e3, Option.bind_some, enough_eq h (by omega)]
      have e4 : (if (!gtB o1.now9_can j) = true then (some true : Option Bool) else (some (enB s j)).bind fun t89 => some (!t89)) = some (!(gtB o1.now9_can j && enB s j)) := by
        cases gtB o1.now9_can j <;> simp
      rw [e4, Option.bind_some]
      by_cases hok : (gtB o1.now9_can j && enB s j) = true
      · have hok2 : gtB o1.now9_can j = true ∧ enB s j = true := by simpa using hok
        obtain ⟨p1, p2⟩ := hB.ends j hlt hok2.1
        have hbd := hB.bd j
        rw [hok, Bool.not_true, if_neg (by simp)]
        by_cases hf : z.found13 = true
        · rw [hf, Bool.not_true, if_neg (by simp), Option.bind_some]
          dsimp only
          rw [Option.bind_some, Option.bind_some, Option.bind_some, addc_eq (by omega), Option.bind_some]
          refine ⟨_, rfl, ⟨j + 1, by push_cast; rfl, hlt, ⟨fun hff => (by cases hff), fun _ => ?_⟩⟩, by simp only; omega⟩
          obtain ⟨⟨a1, b1, c1, d1⟩, ⟨a2, b2, c2, d2⟩, hall⟩ := hI.yes hf
          refine ⟨?_, ?_, fun a v ha hoa hv => ?_⟩
          · simp only
            by_cases hm : z.least14 ≤ gtI o1.now9_least j
            · rw [Int.min_eq_left hm]; exact ⟨a1, by omega, c1, d1⟩
            · rw [Int.min_eq_right (by omega)]; exact ⟨j, by omega, hok2, p1⟩
          · simp only
            by_cases hm : gtI o1.now9_most j ≤ z.most15
            · rw [Int.max_eq_left hm]; exact ⟨a2, by omega, c2, d2⟩
            · rw [Int.max_eq_right (by omega)]; exact ⟨j, by omega, hok2, p2⟩
          · simp only
            by_cases haj : a = j
            · subst haj
              have := hbd v hlt hv
              simp only at this
              omega
            · have := hall a v (by omega) hoa hv
              omega
        · have hff : z.found13 = false := by simpa using hf
          rw [hff, if_pos (by simp), Option.bind_some, Option.bind_some, Option.bind_some]
          dsimp only
          rw [Option.bind_some, Option.bind_some, Option.bind_some, addc_eq (by omega), Option.bind_some]
          refine ⟨_, rfl, ⟨j + 1, by push_cast; rfl, hlt, ⟨fun hx => (by cases hx), fun _ => ?_⟩⟩, by simp only; omega⟩
          obtain ⟨_, _, hno⟩ := hI.no hff
          simp only
          rw [show min (gtI o1.now9_least j) (gtI o1.now9_least j) = gtI o1.now9_least j by omega, show max (gtI o1.now9_most j) (gtI o1.now9_most j) = gtI o1.now9_most j by omega]
          refine ⟨⟨j, by omega, hok2, p1⟩, ⟨j, by omega, hok2, p2⟩, fun a v ha hoa hv => ?_⟩
          by_cases haj : a = j
          · subst haj; exact hbd v hlt hv
          · exact absurd hoa (hno a (by omega))
      · have hok2 : ¬ (gtB o1.now9_can j = true ∧ enB s j = true) := fun hh => hok (by rw [hh.1, hh.2]; rfl)
        have hokf : (gtB o1.now9_can j && enB s j) = false := by simpa using hok
        rw [hokf, Bool.not_false, if_pos rfl, Option.bind_some, addc_eq (by omega), Option.bind_some]
        refine ⟨_, rfl, ⟨j + 1, by push_cast; rfl, hlt, ⟨fun hff => ?_, fun hff => ?_⟩⟩, by simp only; omega⟩
        · obtain ⟨a1, a2, hno⟩ := hI.no hff
          refine ⟨a1, a2, fun a ha => ?_⟩
          by_cases haj : a = j
          · subst haj; exact hok2
          · exact hno a (by omega)
        · obtain ⟨⟨a1, b1, c1, d1⟩, ⟨a2, b2, c2, d2⟩, hall⟩ := hI.yes hff
          refine ⟨⟨a1, by omega, c1, d1⟩, ⟨a2, by omega, c2, d2⟩, fun a v ha hoa hv => ?_⟩
          by_cases haj : a = j
          · subst haj; exact absurd hoa hok2
          · exact hall a v (by omega) hoa hv
    · right
      rw [if_neg (by omega)]
      have : j = N := by omega
      subst this
      exact ⟨_, rfl, hI⟩
  obtain ⟨o3, ho3, hI⟩ := k3
  rw [ho3, Option.bind_some]
  by_cases hf : o3.found13 = true
  · left
    obtain ⟨⟨a1, b1, ⟨c1, c1'⟩, y1, d1⟩, ⟨a2, b2, ⟨c2, c2'⟩, y2, d2⟩, hall⟩ := hI.yes hf
    have hval : ∀ {a : Nat} {v : Int} {y : Nat → Nat → Int}, PartP s (fun t j => cnt (bt t j)) s.strips.length a v y → v = countS s (fun t k => cnt (bt t k)) y := fun {a v y} hp => by
      rw [hp.val]
      unfold countS countY
      exact (sumTo_comm (fun t k => cnt (bt t k) * y t k) _ _).symm
    refine ⟨o3.least14, o3.most15, by rw [hf], ⟨y1, ?_, (hval d1).symm⟩, ⟨y2, ?_, (hval d2).symm⟩, fun y hy => ?_⟩
    · exact (fits_part h (c := fun t k => cnt (bt t k))).2 ⟨a1, by omega, c1', hval d1 ▸ d1⟩
    · exact (fits_part h (c := fun t k => cnt (bt t k))).2 ⟨a2, by omega, c2', hval d2 ▸ d2⟩
    · obtain ⟨a, ha, he, hp⟩ := (fits_part h (c := fun t k => cnt (bt t k))).1 hy
      rw [hN] at ha
      exact hall a _ ha ⟨(hB.can a ha).2 ⟨_, _, hp⟩, he⟩ ⟨_, hp⟩
  · right
    have hff : o3.found13 = false := by simpa using hf
    obtain ⟨a1, a2, hno⟩ := hI.no hff
    refine ⟨by rw [hff, a1, a2], fun y hy => ?_⟩
    obtain ⟨a, ha, he, hp⟩ := (fits_part h (c := fun t k => cnt (bt t k))).1 hy
    rw [hN] at ha
    exact hno a ha ⟨(hB.can a ha).2 ⟨_, _, hp⟩, he⟩
end Go.Proofs.Ws

