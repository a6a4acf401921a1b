/- What the functions that the law BranchCourses reaches come to, and why it holds: part 9. -/
import Derived.Test.YtpjnpibgnkgnaaaGreatBranchCourses8
namespace Go.Proofs.Wb
set_option maxHeartbeats 4000000
set_option maxRecDepth 100000
open Go Go.Fw Go.Gx Go.Sb
open Tryz
set_option linter.unusedVariables false
def qy (t31 : (List Int)) (c0 : Channel) (s_1 : Int) : Option (Int ⊕ (Unit ⊕ Bool)) :=
 if s_1 < (t31.length : Int) then
 (((ix t31 s_1).bind fun t47 =>
 (subc c0.cells 1).bind fun t51 =>
 (jE t47 0 t51).bind fun t52 =>
 if t52 = true then
 (some true) else
 (if 0 < s_1 then
 ((ix t31 s_1).bind fun t59 =>
 (subc s_1 1).bind fun t63 =>
 (ix t31 t63).bind fun t64 =>
 some (decide (t59 ≤ t64))) else
 (some false))).bind fun o_3 =>
 if o_3 = true then
 (some (.inr (.inr false))) else
 ((addc s_1 1).bind fun t44 =>
 some (.inl t44))) else
 (some (.inr (.inl ())))
def ym (course1 : (List (List Int))) (c0 : Channel) (s : Int) : Option (Int ⊕ (Unit ⊕ Bool)) :=
 if s < (course1.length : Int) then
 ((ix course1 s).bind fun t31 =>
 if (t31.length : Int) = (c0.fords.length : Int) then
 ((iterM FU (qy t31 c0) 0).bind fun o_2 =>
 oc o_2 (fun j_1 => (if 0 < s then
 ((subc s 1).bind fun t75 =>
 (ix course1 t75).bind fun t76 =>
 (qD c0 t76 t31).bind fun t79 =>
 if (!t79) = true then
 (some true) else
 ((jK c0).bind fun t87 =>
 (kk c0 s t31 t87).bind fun t88 =>
 some (!t88))) else
 ((jK c0).bind fun t87_1 =>
 (kk c0 s t31 t87_1).bind fun t88_1 =>
 some (!t88_1))).bind fun o_4 =>
 if o_4 = true then
 (some (.inr (.inr false))) else
 ((addc s 1).bind fun t28 =>
 some (.inl t28))) (fun r_2 => some (.inr (.inr r_2)))) else
 (some (.inr (.inr false)))) else
 (some (.inr (.inl ())))
def yz (c0 : Channel) (course1 : (List (List Int))) : Option Bool :=
 ((addc c0.tides 1).bind fun t12 =>
 if (course1.length : Int) = t12 then
 ((ix course1 0).bind fun t16 =>
 (yC t16 c0.fords).bind fun t20 =>
 some (!t20)) else
 (some true)).bind fun o =>
 if o = true then
 (some false) else
 ((iterM FU (ym course1 c0) 0).bind fun o_1 =>
 oc o_1 (fun j => some true) (fun r_3 => some r_3))
theorem Qo (c0 : Channel) (course1 : (List (List Int))) (qa0 : Option Addr) (na0 ca0 : Nat) (qa1 : Option Addr) (na1 ca1 : Nat) (qa2 : Option Addr) (na2 ca2 : Nat) (qa3 : Option Addr) (na3 ca3 : Nat) (ar3 : List AL) (w : World) (hw : HV w (keys [] []) [] [] [(aB qa0, aO qa0, RI.enc c0.fords), (aB qa1, aO qa1, RSa.enc c0.sands), (aB qa2, aO qa2, RSi.enc c0.sights), (aB qa3, aO qa3, RwA.enc ar3)] w) (hna0 : c0.fords.length = na0) (hqa0 : AOK na0 qa0) (hla0 : na0 ≤ ca0) (hna1 : c0.sands.length = na1) (hqa1 : AOK na1 qa1) (hla1 : na1 ≤ ca1) (hna2 : c0.sights.length = na2) (hqa2 : AOK na2 qa2) (hla2 : na2 ≤ ca2) (hna3 : course1.length = na3) (hqa3 : AOK na3 qa3) (hla3 : na3 ≤ ca3) (hda3 : DRO course1 ar3) (hTa3 : ∀ t, t ∈ rsg RI course1 ar3 → segOK w t ∧ (t.2.2 ≠ [] → t.1 ∉ keys [] [])) {res : Bool} (hm : yz c0 course1 = some res) :
    Calls Tryz.prog 29 #[.agg #[.int .i64 c0.cells, .int .i64 c0.tides, .slice qa0 na0 ca0, .slice qa1 na1 ca1, .slice qa2 na2 ca2], .slice qa3 na3 ca3] w (fun en w' => ∃ l : Unit, en = .returned (.bool res) ∧ (True) ∧ HV w (keys [] []) [] [] [] w') := by
  unfold yz at hm
  refine yd func29 Y ntmps29 Y (e := [(0, _), (1, _)]) Y hw (jt ?_)
  refine jP Y Y (fun b h1 => ?_)
  refine jp Y Y (jq (jh (jh ?_)))
  obtain ⟨o, h2, h3⟩ := bindO hm
  refine jI (ι := Unit) (fun l => True) (fun l => [(1, .slice qa3 na3 ca3), (2, ptr b 0), (22, .bool o)]) (fun l => [kc b #[.int .i64 c0.cells, .int .i64 c0.tides, .slice qa0 na0 ca0, .slice qa1 na1 ca1, .slice qa2 na2 ca2] 33]) (fun l => []) ?_ ?_
  ·replace hm := h2
   refine j5 none (.free 0 (.free 1 (.free 2 (.hoist 3 (.free 4 (.free 5 (.free 6 (.free 7 (.free 8 (.hoist 9 (.free 10 (.hoist 11 (.one 12 (.free 13 (.free 14 .done))))))))))))))) _ Y (by decide +kernel) (fun w k hh => hh.draw k) (fun w hh => hh) ?_
   refine k9 Y Y Y (jl Y Y Y Y (fun w _ => jR hna3 (runUnderlying41 w) Y) (Kk 1 runUnderlying33 sizeOf3 Y Y Y Y (K8 0 isAgg3 Y Y Y Y Y ?_)))
   obtain ⟨t12, h4, hm⟩ := bindO hm
   refine jl Y Y Y Y (fun _ _ => Kh h4 Y Y) (jl Y Y Y Y (fun _ _ => Jr Y Y) (k9 Y Y Y ?_))
   refine jQ 14 Y (fun h5 => ?_) (fun h5 => ?_)
   ·replace hm := ifF (of_ndec_true h5) hm
    refine jv Y Y Y Y Y Y Y (jv Y Y Y Y Y Y Y (qi Y Y Y Y Y Y Y (jv Y Y Y Y Y Y Y (qi Y Y Y Y Y Y Y (jF Y (g_k Y Y Y Y (jo (fun w hh => hh) ?_)))))))
    refine jv Y Y Y Y Y Y Y (jl Y Y Y Y (fun _ _ => zD Y Y) (jG ?_))
    obtain rfl := sj hm
    exact jj () (trivial) (sE Y) (fun w hh => hh)
   replace hm := ifT (of_ndec_false h5) hm
   refine jy Y Y Y Y Y Y (fun _ _ => jN Y) ?_
   obtain ⟨t16, h6, hm⟩ := bindO hm
   obtain ⟨A, h7, h8, h9, h10⟩ := (hda3).row h6
   refine jy Y Y Y Y Y Y (fun w _ => qx h7 (runUnderlying41 w) (sizeOf22 w) Y Y (Eq.trans (hda3).len.symm hna3) hqa3) (jZ Y Y Y Y Y Y (fun w hh => ka RwA 0 h7 (isAgg22 w) Y (hh.seg 3 Y) Y (Nat.add_zero _).symm) (jy Y Y Y Y Y Y (fun w _ => jJ 2 (runUnderlying33 w) Y (sizeOf22 w) Y) (jZ Y Y Y Y Y Y (fun w hh => jL (isAgg22 w) Y (hh.cell 0 Y Y)) (jF Y (jb Y Y ?_)))))
   obtain ⟨t20, h11, hm⟩ := bindO hm
   refine jd [] [] Y Y Y Y Y Y Y call101 (fun w hh => Qk t16 c0.fords A.a A.n A.cap qa0 na0 ca0 w (HV.callee (S0 := []) (vs0 := []) hh (roC (hh.oldsep (S0 := []) (vs0 := []) (hTa3 _ (rsg_ix h6 h7))) (roR hh 0 Y roN))) h8 h9 h10 hna0 hqa0 hla0 h11) (fun l_1 h12 => ?_)
   refine jo (fun w hh => hh) (jy Y Y Y Y Y Y (fun _ _ => ze Y) (jl Y Y Y Y (fun _ _ => q5 Y Y) (jG ?_)))
   obtain rfl := sj hm
   exact jj () (trivial) (sE Y) (fun w hh => hh)
  intro l hj
  replace hm := h3
  refine ja ?_
  refine jr Y (fun h13 => ?_) (fun h13 => ?_)
  ·replace hm := ifT (h13) hm
   refine jt (jp Y Y (jq (jz (je ?_))))
   obtain rfl := sj hm
   refine jn Y (fun w hh => (.tmp Y .nil)) (fun w hh => ⟨(), rfl, trivial, hh.se [] [] 4 Y Y Y rfl⟩)
  replace hm := ifN h13 hm
  refine js (ja (jh (jt (jp Y Y (jq ?_)))))
  obtain ⟨o_1, h14, h15⟩ := bindO hm
  refine jI (ι := Unit) (fun j => o_1 = .inl j) (fun j => []) (fun j => [kc b #[.int .i64 c0.cells, .int .i64 c0.tides, .slice qa0 na0 ca0, .slice qa1 na1 ca1, .slice qa2 na2 ca2] 33]) (fun j => []) ?_ ?_
  ·replace hm := h14
   refine jm ?_
   refine jM (ι := Unit) hm (fun s l_2 => True) (fun s l_2 => [(1, .slice qa3 na3 ca3), (2, ptr b 0), (5, .int .i64 s)]) (fun s l_2 => [kc b #[.int .i64 c0.cells, .int .i64 c0.tides, .slice qa0 na0 ca0, .slice qa1 na1 ca1, .slice qa2 na2 ca2] 33]) (fun s l_2 => []) () (trivial) (sE Y) (fun w hh => hh) (fun s l_2 r hpl hm h16 => ?_)
   unfold ym at hm
   refine jh (jt (jk Y Y (jk Y Y (jc Y Y Y (fun w _ => jR hna3 (runUnderlying41 w) Y) (Jo Y Y Y (jq ?_))))))
   refine jr Y (fun h17 => ?_) (fun h17 => ?_)
   ·replace hm := ifD h17 hm
    refine js (ja (jh (jm (jt (jk Y Y (jk Y Y ?_))))))
    obtain ⟨t31, h18, hm⟩ := bindO hm
    obtain ⟨A_1, h19, h20, h21, h22⟩ := (hda3).row h18
    refine jc Y Y Y (fun w _ => qx h19 (runUnderlying41 w) (sizeOf22 w) Y Y (Eq.trans (hda3).len.symm hna3) hqa3) (jc Y Y Y (fun w hh => ka RwA 0 h19 (isAgg22 w) Y (hh.seg 3 Y) Y (Nat.add_zero _).symm) (jp Y Y (jq (jh (jt (jk Y Y (jc Y Y Y (fun w _ => jR h20 (runUnderlying22 w) Y) ?_)))))))
    refine qT 2 runUnderlying33 Y sizeOf22 Y Y (qq 0 isAgg22 Y Y Y Y (jc Y Y Y (fun w _ => jR hna0 (runUnderlying22 w) Y) (jc Y Y Y (fun _ _ => Jr Y Y) (jq ?_))))
    refine jr Y (fun h23 => ?_) (fun h23 => ?_)
    ·replace hm := ifF (of_ndec_true h23) hm
     refine jt (jp Y Y (jq (jz (je (jB (je (je ?_)))))))
     refine jB ?_
     obtain rfl := sj hm
     have hbo := h16 _ Y
     subst hbo
     refine je ?_
     replace hm := ocR h15
     refine je ?_
     obtain rfl := sj hm
     refine jn Y (fun w hh => (.tmp Y .nil)) (fun w hh => ⟨(), rfl, trivial, hh.se [] [] 4 Y Y Y rfl⟩)
    replace hm := ifT (of_ndec_false h23) hm
    refine js (ja (jh (jt (jp Y Y (jq ?_)))))
    obtain ⟨o_2, h24, h25⟩ := bindO hm
    refine jI (ι := Unit) (fun j_1 => o_2 = .inl j_1) (fun j_1 => [(1, .slice qa3 na3 ca3), (2, ptr b 0), (5, .int .i64 s), (6, .slice A_1.a A_1.n A_1.cap)]) (fun j_1 => [kc b #[.int .i64 c0.cells, .int .i64 c0.tides, .slice qa0 na0 ca0, .slice qa1 na1 ca1, .slice qa2 na2 ca2] 33]) (fun j_1 => []) ?_ ?_
    ·replace hm := h24
     refine jm ?_
     refine jM (ι := Unit) hm (fun s_1 l_3 => True) (fun s_1 l_3 => [(1, .slice qa3 na3 ca3), (2, ptr b 0), (5, .int .i64 s), (6, .slice A_1.a A_1.n A_1.cap), (7, .int .i64 s_1)]) (fun s_1 l_3 => [kc b #[.int .i64 c0.cells, .int .i64 c0.tides, .slice qa0 na0 ca0, .slice qa1 na1 ca1, .slice qa2 na2 ca2] 33]) (fun s_1 l_3 => []) () (trivial) (sE Y) (fun w hh => hh) (fun s_1 l_3 r_1 hpl hm h26 => ?_)
     unfold qy at hm
     refine jh (jt (jk Y Y (jk Y Y (jc Y Y Y (fun w _ => jR h20 (runUnderlying22 w) Y) (Jo Y Y Y (jq ?_))))))
     refine jr Y (fun h27 => ?_) (fun h27 => ?_)
     ·replace hm := ifD h27 hm
      refine js (ja (jh (jm (jh ?_))))
      obtain ⟨o_3, h28, h29⟩ := bindO hm
      refine jI (ι := Unit) (fun l_4 => True) (fun l_4 => [(1, .slice qa3 na3 ca3), (2, ptr b 0), (5, .int .i64 s), (6, .slice A_1.a A_1.n A_1.cap), (7, .int .i64 s_1), (68, .bool o_3)]) (fun l_4 => [kc b #[.int .i64 c0.cells, .int .i64 c0.tides, .slice qa0 na0 ca0, .slice qa1 na1 ca1, .slice qa2 na2 ca2] 33]) (fun l_4 => []) ?_ ?_
      ·replace hm := h28
       refine j5 none (.free 0 (.free 1 (.free 2 (.hoist 3 (.free 4 (.hoist 5 (.free 6 (.one 7 (.free 8 (.free 9 (.free 10 (.free 11 (.free 12 (.free 13 (.free 14 (.hoist 15 (.free 16 (.free 17 (.free 18 (.free 19 (.hoist 20 (.free 21 (.free 22 (.free 23 .done)))))))))))))))))))))))) _ Y (by decide +kernel) (fun w k hh => hh.draw k) (fun w hh => hh) ?_
       refine k9 Y Y Y (k9 Y Y Y ?_)
       obtain ⟨t47, h30, hm⟩ := bindO hm
       refine jl Y Y Y Y (fun w _ => qx h30 (runUnderlying22 w) (sizeOf3 w) Y Y h20 h21) (jw Y Y Y Y (fun w hh => ka RI 0 h30 (isAgg3 w) Y (hh.oldseg (hTa3 _ (rsg_ix h18 h19))) Y (Nat.add_zero _).symm) (Kk 0 runUnderlying33 sizeOf3 Y Y Y Y (K8 0 isAgg3 Y Y Y Y Y ?_)))
       obtain ⟨t51, h31, hm⟩ := bindO hm
       refine jl Y Y Y Y (fun _ _ => yX h31 Y Y) (jF Y ?_)
       obtain ⟨t52, h32, hm⟩ := bindO hm
       refine jd [] [] Y Y Y Y Y Y Y call88 (fun w hh => kb t47 0 t51 w (HV.callee (S0 := []) (vs0 := []) hh roN)  h32) (fun l_5 h33 => ?_)
       refine jo (fun w hh => hh) (k9 Y Y Y ?_)
       refine jQ 53 Y (fun h34 => ?_) (fun h34 => ?_)
       ·replace hm := ifT (h34) hm
        refine jv Y Y Y Y Y Y Y (jv Y Y Y Y Y Y Y (jv Y Y Y Y Y Y Y (qz Y Y Y Y Y Y (qz Y Y Y Y Y Y (qz Y Y Y Y Y Y (Q6 Y Y Y Y Y Y (qz Y Y Y Y Y Y ?_)))))))
        refine qz Y Y Y Y Y Y (qz Y Y Y Y Y Y (qz Y Y Y Y Y Y (Q6 Y Y Y Y Y Y (qz Y Y Y Y Y Y (jv Y Y Y Y Y Y Y (jl Y Y Y Y (fun _ _ => zD Y Y) (jG ?_)))))))
        obtain rfl := sj hm
        exact jj () (trivial) (sE Y) (fun w hh => hh)
       replace hm := ifN h34 hm
       refine jy Y Y Y Y Y Y (fun _ _ => jN Y) (jy Y Y Y Y Y Y (fun _ _ => Qz Y Y) (jy Y Y Y Y Y Y (fun _ _ => jN Y) ?_))
       refine jQ 56 Y (fun h35 => ?_) (fun h35 => ?_)
       ·replace hm := ifD h35 hm
        refine jy Y Y Y Y Y Y (fun _ _ => jN Y) (jy Y Y Y Y Y Y (fun _ _ => jN Y) ?_)
        obtain ⟨t59, h36, hm⟩ := bindO hm
        refine jy Y Y Y Y Y Y (fun w _ => qx h36 (runUnderlying22 w) (sizeOf3 w) Y Y h20 h21) (jZ Y Y Y Y Y Y (fun w hh => ka RI 0 h36 (isAgg3 w) Y (hh.oldseg (hTa3 _ (rsg_ix h18 h19))) Y (Nat.add_zero _).symm) (jy Y Y Y Y Y Y (fun _ _ => jN Y) (jy Y Y Y Y Y Y (fun _ _ => jN Y) ?_)))
        obtain ⟨t63, h37, hm⟩ := bindO hm
        refine jy Y Y Y Y Y Y (fun _ _ => yX h37 Y Y) ?_
        obtain ⟨t64, h38, hm⟩ := bindO hm
        refine jy Y Y Y Y Y Y (fun w _ => qx h38 (runUnderlying22 w) (sizeOf3 w) Y Y h20 h21) (jZ Y Y Y Y Y Y (fun w hh => ka RI 0 h38 (isAgg3 w) Y (hh.oldseg (hTa3 _ (rsg_ix h18 h19))) Y (Nat.add_zero _).symm) (jy Y Y Y Y Y Y (fun _ _ => Zo Y Y) (jy Y Y Y Y Y Y (fun _ _ => zD Y Y) (jl Y Y Y Y (fun _ _ => q5 Y Y) (jG ?_)))))
        obtain rfl := sj hm
        exact jj () (trivial) (sE Y) (fun w hh => hh)
       replace hm := ifE h35 hm
       refine jv Y Y Y Y Y Y Y (jv Y Y Y Y Y Y Y (jv Y Y Y Y Y Y Y (qi Y Y Y Y Y Y Y (jv Y Y Y Y Y Y Y (jv Y Y Y Y Y Y Y (jv Y Y Y Y Y Y Y (jv Y Y Y Y Y Y Y ?_)))))))
       refine qi Y Y Y Y Y Y Y (jv Y Y Y Y Y Y Y (jy Y Y Y Y Y Y (fun _ _ => q5 Y Y) (jl Y Y Y Y (fun _ _ => q5 Y Y) (jG ?_))))
       obtain rfl := sj hm
       exact jj () (trivial) (sE Y) (fun w hh => hh)
      intro l_4 hj
      replace hm := h29
      refine ja ?_
      refine jr Y (fun h39 => ?_) (fun h39 => ?_)
      ·replace hm := ifT (h39) hm
       refine jt (jp Y Y (jq (jz (jB (je (je (jB ?_)))))))
       obtain rfl := sj hm
       have hbo := h26 _ Y
       subst hbo
       refine je ?_
       replace hm := ocR h25
       refine je (jB (je (je (jB ?_))))
       obtain rfl := sj hm
       have hbo := h16 _ Y
       subst hbo
       refine je ?_
       replace hm := ocR h15
       refine je ?_
       obtain rfl := sj hm
       refine jn Y (fun w hh => (.tmp Y .nil)) (fun w hh => ⟨(), rfl, trivial, hh.se [] [] 4 Y Y Y rfl⟩)
      replace hm := ifN h39 hm
      refine js (jx (ja (jg (jk Y Y ?_))))
      obtain ⟨t44, h40, hm⟩ := bindO hm
      refine JG h40 Y Y Y (jp Y Y (ju ?_))
      obtain rfl := sj hm
      refine ja ?_
      exact jC _ () Y (trivial) (sE Y) (fun w hh => hh)
     replace hm := ifE h27 hm
     refine jS (ji (ji (jD ?_)))
     obtain rfl := sj hm
     have hbo := h26 _ Y
     subst hbo
     exact jj () (Y) (sE Y) (fun w hh => hh)
    intro j_1 hj
    have h41 := hj
    subst h41
    replace hm := ocL h25
    refine ja (jh ?_)
    obtain ⟨o_4, h42, h43⟩ := bindO hm
    refine jI (ι := Unit) (fun l_6 => True) (fun l_6 => [(1, .slice qa3 na3 ca3), (2, ptr b 0), (5, .int .i64 s), (90, .bool o_4)]) (fun l_6 => [kc b #[.int .i64 c0.cells, .int .i64 c0.tides, .slice qa0 na0 ca0, .slice qa1 na1 ca1, .slice qa2 na2 ca2] 33]) (fun l_6 => []) ?_ ?_
    ·replace hm := h42
     refine j5 none (.free 0 (.free 1 (.free 2 (.hoist 3 (.free 4 (.free 5 (.free 6 (.free 7 (.hoist 8 (.free 9 (.one 10 (.free 11 (.free 12 (.free 13 (.hoist 14 (.free 15 (.free 16 (.hoist 17 (.one 18 (.one 19 (.free 20 (.free 21 .done)))))))))))))))))))))) _ Y (by decide +kernel) (fun w k hh => hh.draw k) (fun w hh => hh) ?_
     refine k9 Y Y Y (jl Y Y Y Y (fun _ _ => Qz Y Y) (k9 Y Y Y ?_))
     refine jQ 71 Y (fun h44 => ?_) (fun h44 => ?_)
     ·replace hm := ifD h44 hm
      refine jZ Y Y Y Y Y Y (fun w hh => jH (vs := [_, _, _, _, _]) (isAgg33 w) (sizeOf33 w) Y (hh.cells 0 Y Y)) (jy Y Y Y Y Y Y (fun _ _ => jN Y) (jy Y Y Y Y Y Y (fun _ _ => jN Y) ?_))
      obtain ⟨t75, h45, hm⟩ := bindO hm
      refine jy Y Y Y Y Y Y (fun _ _ => yX h45 Y Y) ?_
      obtain ⟨t76, h46, hm⟩ := bindO hm
      obtain ⟨A_2, h47, h48, h49, h50⟩ := (hda3).row h46
      refine jy Y Y Y Y Y Y (fun w _ => qx h47 (runUnderlying41 w) (sizeOf22 w) Y Y (Eq.trans (hda3).len.symm hna3) hqa3) (jZ Y Y Y Y Y Y (fun w hh => ka RwA 0 h47 (isAgg22 w) Y (hh.seg 3 Y) Y (Nat.add_zero _).symm) (jy Y Y Y Y Y Y (fun _ _ => jN Y) (jF Y (jb Y Y ?_))))
      obtain ⟨t79, h51, hm⟩ := bindO hm
      refine jd [] [] Y Y Y Y Y Y Y call92 (fun w hh => JL c0 t76 t31 qa0 na0 ca0 qa1 na1 ca1 qa2 na2 ca2 A_2.a A_2.n A_2.cap A_1.a A_1.n A_1.cap w (HV.callee (S0 := []) (vs0 := []) hh (roR hh 0 Y (roR hh 1 Y (roR hh 2 Y (roC (hh.oldsep (S0 := []) (vs0 := []) (hTa3 _ (rsg_ix h46 h47))) (roC (hh.oldsep (S0 := []) (vs0 := []) (hTa3 _ (rsg_ix h18 h19))) roN)))))) hna0 hqa0 hla0 hna1 hqa1 hla1 hna2 hqa2 hla2 h48 h49 h50 h20 h21 h22 h51) (fun l_7 h52 => ?_)
      refine jo (fun w hh => hh) (jy Y Y Y Y Y Y (fun _ _ => ze Y) (jl Y Y Y Y (fun _ _ => zD Y Y) (k9 Y Y Y ?_)))
      refine jQ 82 Y (fun h53 => ?_) (fun h53 => ?_)
      ·replace hm := ifT (h53) hm
       refine qi Y Y Y Y Y Y Y (jv Y Y Y Y Y Y Y (jv Y Y Y Y Y Y Y (qi Y Y Y Y Y Y Y (jF Y (g_k Y Y Y Y (jo (fun w hh => hh) (jF Y ?_)))))))
       refine g_k Y Y Y Y (jo (fun w hh => hh) (jv Y Y Y Y Y Y Y (jl Y Y Y Y (fun _ _ => zD Y Y) (jG ?_))))
       obtain rfl := sj hm
       exact jj () (trivial) (sE Y) (fun w hh => hh)
      replace hm := ifN h53 hm
      refine jZ Y Y Y Y Y Y (fun w hh => jH (vs := [_, _, _, _, _]) (isAgg33 w) (sizeOf33 w) Y (hh.cells 0 Y Y)) (jy Y Y Y Y Y Y (fun _ _ => jN Y) (jy Y Y Y Y Y Y (fun _ _ => jN Y) (jZ Y Y Y Y Y Y (fun w hh => jH (vs := [_, _, _, _, _]) (isAgg33 w) (sizeOf33 w) Y (hh.cells 0 Y Y)) (jF Y (jb Y Y ?_)))))
      obtain ⟨t87, h54, hm⟩ := bindO hm
      refine jd [] [] Y Y Y Y Y Y Y call24 (fun w hh => yB c0 qa0 na0 ca0 qa1 na1 ca1 qa2 na2 ca2 w (HV.callee (S0 := []) (vs0 := []) hh (roR hh 0 Y (roR hh 1 Y (roR hh 2 Y roN)))) hna0 hqa0 hla0 hna1 hqa1 hla1 hna2 hqa2 hla2 h54) (fun l_8 h55 => ?_)
      refine jo (fun w hh => hh) (jF Y (jb Y Y ?_))
      obtain ⟨t88, h56, hm⟩ := bindO hm
      refine jd [] [] Y Y Y Y Y Y Y call102 (fun w hh => JT c0 s t31 t87 qa0 na0 ca0 qa1 na1 ca1 qa2 na2 ca2 A_1.a A_1.n A_1.cap w (HV.callee (S0 := []) (vs0 := []) hh (roR hh 0 Y (roR hh 1 Y (roR hh 2 Y (roC (hh.oldsep (S0 := []) (vs0 := []) (hTa3 _ (rsg_ix h18 h19))) roN))))) hna0 hqa0 hla0 hna1 hqa1 hla1 hna2 hqa2 hla2 h20 h21 h22 h56) (fun l_9 h57 => ?_)
      refine jo (fun w hh => hh) (jy Y Y Y Y Y Y (fun _ _ => ze Y) (jl Y Y Y Y (fun _ _ => q5 Y Y) (jG ?_)))
      obtain rfl := sj hm
      exact jj () (trivial) (sE Y) (fun w hh => hh)
     replace hm := ifE h44 hm
     refine qi Y Y Y Y Y Y Y (jv Y Y Y Y Y Y Y (jv Y Y Y Y Y Y Y (jv Y Y Y Y Y Y Y (jv Y Y Y Y Y Y Y (qi Y Y Y Y Y Y Y (jv Y Y Y Y Y Y Y (jF Y ?_)))))))
     refine g_k Y Y Y Y (jo (fun w hh => hh) (jv Y Y Y Y Y Y Y (jl Y Y Y Y (fun _ _ => q5 Y Y) (k9 Y Y Y (jZ Y Y Y Y Y Y (fun w hh => jH (vs := [_, _, _, _, _]) (isAgg33 w) (sizeOf33 w) Y (hh.cells 0 Y Y)) (jy Y Y Y Y Y Y (fun _ _ => jN Y) (jy Y Y Y Y Y Y (fun _ _ => jN Y) ?_)))))))
     refine jZ Y Y Y Y Y Y (fun w hh => jH (vs := [_, _, _, _, _]) (isAgg33 w) (sizeOf33 w) Y (hh.cells 0 Y Y)) (jF Y (jb Y Y ?_))
     obtain ⟨t87_1, h58, hm⟩ := bindO hm
     refine jd [] [] Y Y Y Y Y Y Y call24 (fun w hh => yB c0 qa0 na0 ca0 qa1 na1 ca1 qa2 na2 ca2 w (HV.callee (S0 := []) (vs0 := []) hh (roR hh 0 Y (roR hh 1 Y (roR hh 2 Y roN)))) hna0 hqa0 hla0 hna1 hqa1 hla1 hna2 hqa2 hla2 h58) (fun l_10 h59 => ?_)
     refine jo (fun w hh => hh) (jF Y (jb Y Y ?_))
     obtain ⟨t88_1, h60, hm⟩ := bindO hm
     refine jd [] [] Y Y Y Y Y Y Y call102 (fun w hh => JT c0 s t31 t87_1 qa0 na0 ca0 qa1 na1 ca1 qa2 na2 ca2 A_1.a A_1.n A_1.cap w (HV.callee (S0 := []) (vs0 := []) hh (roR hh 0 Y (roR hh 1 Y (roR hh 2 Y (roC (hh.oldsep (S0 := []) (vs0 := []) (hTa3 _ (rsg_ix h18 h19))) roN))))) hna0 hqa0 hla0 hna1 hqa1 hla1 hna2 hqa2 hla2 h20 h21 h22 h60) (fun l_11 h61 => ?_)
     refine jo (fun w hh => hh) (jy Y Y Y Y Y Y (fun _ _ => ze Y) (jl Y Y Y Y (fun _ _ => q5 Y Y) (jG ?_)))
     obtain rfl := sj hm
     exact jj () (trivial) (sE Y) (fun w hh => hh)
    intro l_6 hj
    replace hm := h43
    refine ja ?_
    refine jr Y (fun h62 => ?_) (fun h62 => ?_)
    ·replace hm := ifT (h62) hm
     refine jt (jp Y Y (jq (jz (jB (je (je (jB ?_)))))))
     obtain rfl := sj hm
     have hbo := h16 _ Y
     subst hbo
     refine je ?_
     replace hm := ocR h15
     refine je ?_
     obtain rfl := sj hm
     refine jn Y (fun w hh => (.tmp Y .nil)) (fun w hh => ⟨(), rfl, trivial, hh.se [] [] 4 Y Y Y rfl⟩)
    replace hm := ifN h62 hm
    refine js (jx (ja (jg (jk Y Y ?_))))
    obtain ⟨t28, h63, hm⟩ := bindO hm
    refine JG h63 Y Y Y (jp Y Y (ju ?_))
    obtain rfl := sj hm
    refine ja ?_
    exact jC _ () Y (trivial) (sE Y) (fun w hh => hh)
   replace hm := ifE h17 hm
   refine jS (ji (ji (jD ?_)))
   obtain rfl := sj hm
   have hbo := h16 _ Y
   subst hbo
   exact jj () (Y) (.nil) (fun w hh => hh)
  intro j hj
  have h64 := hj
  subst h64
  replace hm := ocL h15
  refine ja (jt (jp Y Y (jq (jz ?_))))
  obtain rfl := sj hm
  refine jn Y (fun w hh => (.tmp Y .nil)) (fun w hh => ⟨(), rfl, trivial, hh.se [] [] 4 Y Y Y rfl⟩)
def qL (s10 : (List Sand)) (s21 : (List Sand)) (s : Int) : Option (Int ⊕ (Unit ⊕ Bool)) :=
 if s < (s10.length : Int) then
 ((ix s10 s).bind fun t18 =>
 (ix s21 s).bind fun t22 =>
 if (⟨(⟨t18.span.lo, t18.span.hi⟩ : Span), t18.reach⟩ : Sand) = (⟨(⟨t22.span.lo, t22.span.hi⟩ : Span), t22.reach⟩ : Sand) then
 ((addc s 1).bind fun t25 =>
 some (.inl t25)) else
 (some (.inr (.inr false)))) else
 (some (.inr (.inl ())))
def k4 (s10 : (List Sand)) (s21 : (List Sand)) : Option Bool :=
 if (s10.length : Int) = (s21.length : Int) then
 ((iterM FU (qL s10 s21) 0).bind fun o =>
 oc o (fun j => some true) (fun r_1 => some r_1)) else
 (some false)
theorem KA (s10 : (List Sand)) (s21 : (List Sand)) (qa0 : Option Addr) (na0 ca0 : Nat) (qa1 : Option Addr) (na1 ca1 : Nat) (w : World) (hw : HV w (keys [] []) [] [] [(aB qa0, aO qa0, RSa.enc s10), (aB qa1, aO qa1, RSa.enc s21)] w) (hna0 : s10.length = na0) (hqa0 : AOK na0 qa0) (hla0 : na0 ≤ ca0) (hna1 : s21.length = na1) (hqa1 : AOK na1 qa1) (hla1 : na1 ≤ ca1) {res : Bool} (hm : k4 s10 s21 = some res) :
    Calls Tryz.prog 164 #[.slice qa0 na0 ca0, .slice qa1 na1 ca1] w (fun en w' => ∃ l : Unit, en = .returned (.bool res) ∧ (True) ∧ HV w (keys [] []) [] [] [] w') := by
  unfold k4 at hm
  refine yd func164 Y ntmps164 Y (e := [(0, _), (1, _)]) Y hw (jt (jp Y Y (jq (jh (jt (jk Y Y (jc Y Y Y (fun w _ => jR hna0 (runUnderlying23 w) Y) ?_)))))))
  refine jk Y Y (jc Y Y Y (fun w _ => jR hna1 (runUnderlying23 w) Y) (jc Y Y Y (fun _ _ => Jr Y Y) (jq ?_)))
  refine jr Y (fun h1 => ?_) (fun h1 => ?_)
  ·replace hm := ifF (of_ndec_true h1) hm
   refine jt (jp Y Y (jq (jz (je ?_))))
   obtain rfl := sj hm
   refine jn Y (fun w hh => (.tmp Y .nil)) (fun w hh => ⟨(), rfl, trivial, hh.se [] [] 2 Y Y Y rfl⟩)
  replace hm := ifT (of_ndec_false h1) hm
  refine js (ja (jh (jt (jk Y Y (jc Y Y Y (fun w _ => jR hna0 (runUnderlying23 w) Y) (jk Y Y (jq ?_)))))))
  obtain ⟨o, h2, h3⟩ := bindO hm
  refine jI (ι := Unit) (fun j => o = .inl j) (fun j => []) (fun j => []) (fun j => []) ?_ ?_
  ·replace hm := h2
   refine jm ?_
   refine jM (ι := Unit) hm (fun s l => True) (fun s l => [(0, .slice qa0 na0 ca0), (1, .slice qa1 na1 ca1), (12, .int .i64 (s10.length : Int)), (13, .int .i64 s)]) (fun s l => []) (fun s l => []) () (trivial) (sE Y) (fun w hh => hh) (fun s l r hpl hm h4 => ?_)
   unfold qL at hm
   refine jt (Jo Y Y Y (jq (jh ?_)))
   refine jr Y (fun h5 => ?_) (fun h5 => ?_)
   ·replace hm := ifD h5 hm
    refine js (ja (jh (jm (jt (jk Y Y (jp Y Y (jq ?_)))))))
    refine jh ?_
    refine j5 none (.free 0 (.free 1 (.free 2 (.hoist 3 (.free 4 (.free 5 (.free 6 (.hoist 7 (.free 8 .done))))))))) _ Y (by decide +kernel) (fun w k hh => hh.draw k) (fun w hh => hh) ?_
    refine k9 Y Y Y (k9 Y Y Y ?_)
    obtain ⟨t18, h6, hm⟩ := bindO hm
    refine jl Y Y Y Y (fun w _ => qx h6 (runUnderlying23 w) (sizeOf98 w) Y Y hna0 hqa0) ?_
    refine jw Y Y Y Y (fun w hh => Jy RSa 0 [.int .i64 t18.span.lo, .int .i64 t18.span.hi, .int .i64 t18.reach] h6 (isAgg98 w) (sizeOf98 w) Y (hh.seg 0 Y) Y (Nat.add_zero _).symm) ?_
    refine k9 Y Y Y (k9 Y Y Y ?_)
    obtain ⟨t22, h7, hm⟩ := bindO hm
    refine jl Y Y Y Y (fun w _ => qx h7 (runUnderlying23 w) (sizeOf98 w) Y Y hna1 hqa1) ?_
    refine jw Y Y Y Y (fun w hh => Jy RSa 0 [.int .i64 t22.span.lo, .int .i64 t22.span.hi, .int .i64 t22.reach] h7 (isAgg98 w) (sizeOf98 w) Y (hh.seg 1 Y) Y (Nat.add_zero _).symm) ?_
    refine jl Y Y Y Y (fun w _ => ZG (jbi (⟨(⟨t18.span.lo, t18.span.hi⟩ : Span), t18.reach⟩ : Sand) (⟨(⟨t22.span.lo, t22.span.hi⟩ : Span), t22.reach⟩ : Sand) w) ja9 Y Y) ?_
    refine jG (ja ?_)
    refine jr Y (fun h8 => ?_) (fun h8 => ?_)
    ·replace hm := ifF (of_ndec_true h8) hm
     refine jt (jp Y Y (jq (jz (jB (je (je (jB ?_)))))))
     obtain rfl := sj hm
     have hbo := h4 _ Y
     subst hbo
     refine je ?_
     replace hm := ocR h3
     refine je ?_
     obtain rfl := sj hm
     refine jn Y (fun w hh => (.tmp Y .nil)) (fun w hh => ⟨(), rfl, trivial, hh.se [] [] 2 Y Y Y rfl⟩)
    replace hm := ifT (of_ndec_false h8) hm
    refine js (jx (ja (jg ?_)))
    obtain ⟨t25, h9, hm⟩ := bindO hm
    refine JG h9 Y Y Y (jk Y Y (ju ?_))
    obtain rfl := sj hm
    refine ja ?_
    exact jC _ () Y (trivial) (sE Y) (fun w hh => hh)
   replace hm := ifE h5 hm
   refine jS (ji (ji (jD ?_)))
   obtain rfl := sj hm
   have hbo := h4 _ Y
   subst hbo
   exact jj () (Y) (.nil) (fun w hh => hh)
  intro j hj
  have h10 := hj
  subst h10
  replace hm := ocL h3
  refine ja (jt (jp Y Y (jq (jz ?_))))
  obtain rfl := sj hm
  refine jn Y (fun w hh => (.tmp Y .nil)) (fun w hh => ⟨(), rfl, trivial, hh.se [] [] 2 Y Y Y rfl⟩)
def zN (a0 : (List Sand)) (b1 : (List Sand)) : Option Bool :=
 (k4 a0 b1).bind fun t7 =>
 some t7
theorem YN (a0 : (List Sand)) (b1 : (List Sand)) (qa0 : Option Addr) (na0 ca0 : Nat) (qa1 : Option Addr) (na1 ca1 : Nat) (w : World) (hw : HV w (keys [] []) [] [] [(aB qa0, aO qa0, RSa.enc a0), (aB qa1, aO qa1, RSa.enc b1)] w) (hna0 : a0.length = na0) (hqa0 : AOK na0 qa0) (hla0 : na0 ≤ ca0) (hna1 : b1.length = na1) (hqa1 : AOK na1 qa1) (hla1 : na1 ≤ ca1) {res : Bool} (hm : zN a0 b1 = some res) :
    Calls Tryz.prog 103 #[.slice qa0 na0 ca0, .slice qa1 na1 ca1] w (fun en w' => ∃ l : Unit, en = .returned (.bool res) ∧ (True) ∧ HV w (keys [] []) [] [] [] w') := by
  unfold zN at hm
  refine yd func103 Y ntmps103 Y (e := [(0, _), (1, _)]) Y hw (jt (jp Y Y (qs (jk Y Y (jk Y Y ?_)))))
  obtain ⟨t7, h1, hm⟩ := bindO hm
  refine jd [] [] Y Y Y Y Y Y Y call164 (fun w hh => KA a0 b1 qa0 na0 ca0 qa1 na1 ca1 w (HV.callee (S0 := []) (vs0 := []) hh (roR hh 0 Y (roR hh 1 Y roN))) hna0 hqa0 hla0 hna1 hqa1 hla1 h1) (fun l h2 => ?_)
  refine jp Y Y (jq (jz ?_))
  obtain rfl := sj hm
  refine jn Y (fun w hh => (.tmp Y .nil)) (fun w hh => ⟨(), rfl, trivial, hh.se [] [] 2 Y Y Y rfl⟩)
def qp (s10 : (List Sight)) (s21 : (List Sight)) (s : Int) : Option (Int ⊕ (Unit ⊕ Bool)) :=
 if s < (s10.length : Int) then
 ((ix s10 s).bind fun t18 =>
 (ix s21 s).bind fun t22 =>
 if t18 = (⟨t22.after, t22.cell, t22.upright⟩ : Sight) then
 ((addc s 1).bind fun t25 =>
 some (.inl t25)) else
 (some (.inr (.inr false)))) else
 (some (.inr (.inl ())))
def kG (s10 : (List Sight)) (s21 : (List Sight)) : Option Bool :=
 if (s10.length : Int) = (s21.length : Int) then
 ((iterM FU (qp s10 s21) 0).bind fun o =>
 oc o (fun j => some true) (fun r_1 => some r_1)) else
 (some false)
theorem Ko (s10 : (List Sight)) (s21 : (List Sight)) (qa0 : Option Addr) (na0 ca0 : Nat) (qa1 : Option Addr) (na1 ca1 : Nat) (w : World) (hw : HV w (keys [] []) [] [] [(aB qa0, aO qa0, RSi.enc s10), (aB qa1, aO qa1, RSi.enc s21)] w) (hna0 : s10.length = na0) (hqa0 : AOK na0 qa0) (hla0 : na0 ≤ ca0) (hna1 : s21.length = na1) (hqa1 : AOK na1 qa1) (hla1 : na1 ≤ ca1) {res : Bool} (hm : kG s10 s21 = some res) :
    Calls Tryz.prog 165 #[.slice qa0 na0 ca0, .slice qa1 na1 ca1] w (fun en w' => ∃ l : Unit, en = .returned (.bool res) ∧ (True) ∧ HV w (keys [] []) [] [] [] w') := by
  unfold kG at hm
  refine yd func165 Y ntmps165 Y (e := [(0, _), (1, _)]) Y hw (jt (jp Y Y (jq (jh (jt (jk Y Y (jc Y Y Y (fun w _ => jR hna0 (runUnderlying24 w) Y) ?_)))))))
  refine jk Y Y (jc Y Y Y (fun w _ => jR hna1 (runUnderlying24 w) Y) (jc Y Y Y (fun _ _ => Jr Y Y) (jq ?_)))
  refine jr Y (fun h1 => ?_) (fun h1 => ?_)
  ·replace hm := ifF (of_ndec_true h1) hm
   refine jt (jp Y Y (jq (jz (je ?_))))
   obtain rfl := sj hm
   refine jn Y (fun w hh => (.tmp Y .nil)) (fun w hh => ⟨(), rfl, trivial, hh.se [] [] 2 Y Y Y rfl⟩)
  replace hm := ifT (of_ndec_false h1) hm
  refine js (ja (jh (jt (jk Y Y (jc Y Y Y (fun w _ => jR hna0 (runUnderlying24 w) Y) (jk Y Y (jq ?_)))))))
  obtain ⟨o, h2, h3⟩ := bindO hm
  refine jI (ι := Unit) (fun j => o = .inl j) (fun j => []) (fun j => []) (fun j => []) ?_ ?_
  ·replace hm := h2
   refine jm ?_
   refine jM (ι := Unit) hm (fun s l => True) (fun s l => [(0, .slice qa0 na0 ca0), (1, .slice qa1 na1 ca1), (12, .int .i64 (s10.length : Int)), (13, .int .i64 s)]) (fun s l => []) (fun s l => []) () (trivial) (sE Y) (fun w hh => hh) (fun s l r hpl hm h4 => ?_)
   unfold qp at hm
   refine jt (Jo Y Y Y (jq (jh ?_)))
   refine jr Y (fun h5 => ?_) (fun h5 => ?_)
   ·replace hm := ifD h5 hm
    refine js (ja (jh (jm (jt (jk Y Y (jp Y Y (jq ?_)))))))
    refine jh ?_
    refine j5 none (.free 0 (.free 1 (.free 2 (.hoist 3 (.free 4 (.free 5 (.free 6 (.hoist 7 (.free 8 .done))))))))) _ Y (by decide +kernel) (fun w k hh => hh.draw k) (fun w hh => hh) ?_
    refine k9 Y Y Y (k9 Y Y Y ?_)
    obtain ⟨t18, h6, hm⟩ := bindO hm
    refine jl Y Y Y Y (fun w _ => qx h6 (runUnderlying24 w) (sizeOf55 w) Y Y hna0 hqa0) ?_
    refine jw Y Y Y Y (fun w hh => Jy RSi 0 [.int .i64 t18.after, .int .i64 t18.cell, .bool t18.upright] h6 (isAgg55 w) (sizeOf55 w) Y (hh.seg 0 Y) Y (Nat.add_zero _).symm) ?_
    refine k9 Y Y Y (k9 Y Y Y ?_)
    obtain ⟨t22, h7, hm⟩ := bindO hm
    refine jl Y Y Y Y (fun w _ => qx h7 (runUnderlying24 w) (sizeOf55 w) Y Y hna1 hqa1) ?_
    refine jw Y Y Y Y (fun w hh => Jy RSi 0 [.int .i64 t22.after, .int .i64 t22.cell, .bool t22.upright] h7 (isAgg55 w) (sizeOf55 w) Y (hh.seg 1 Y) Y (Nat.add_zero _).symm) ?_
    refine jl Y Y Y Y (fun w _ => ZG (jaW t18 (⟨t22.after, t22.cell, t22.upright⟩ : Sight) w) jaF Y Y) (jG (ja ?_))
    refine jr Y (fun h8 => ?_) (fun h8 => ?_)
    ·replace hm := ifF (of_ndec_true h8) hm
     refine jt (jp Y Y (jq (jz (jB (je (je (jB ?_)))))))
     obtain rfl := sj hm
     have hbo := h4 _ Y
     subst hbo
     refine je ?_
     replace hm := ocR h3
     refine je ?_
     obtain rfl := sj hm
     refine jn Y (fun w hh => (.tmp Y .nil)) (fun w hh => ⟨(), rfl, trivial, hh.se [] [] 2 Y Y Y rfl⟩)
    replace hm := ifT (of_ndec_false h8) hm
    refine js (jx (ja (jg ?_)))
    obtain ⟨t25, h9, hm⟩ := bindO hm
    refine JG h9 Y Y Y (jk Y Y (ju ?_))
    obtain rfl := sj hm
    refine ja ?_
    exact jC _ () Y (trivial) (sE Y) (fun w hh => hh)
   replace hm := ifE h5 hm
   refine jS (ji (ji (jD ?_)))
   obtain rfl := sj hm
   have hbo := h4 _ Y
   subst hbo
   exact jj () (Y) (.nil) (fun w hh => hh)
  intro j hj
  have h10 := hj
  subst h10
  replace hm := ocL h3
  refine ja (jt (jp Y Y (jq (jz ?_))))
  obtain rfl := sj hm
  refine jn Y (fun w hh => (.tmp Y .nil)) (fun w hh => ⟨(), rfl, trivial, hh.se [] [] 2 Y Y Y rfl⟩)
def zy (a0 : (List Sight)) (b1 : (List Sight)) : Option Bool :=
 (kG a0 b1).bind fun t7 =>
 some t7
theorem Yv (a0 : (List Sight)) (b1 : (List Sight)) (qa0 : Option Addr) (na0 ca0 : Nat) (qa1 : Option Addr) (na1 ca1 : Nat) (w : World) (hw : HV w (keys [] []) [] [] [(aB qa0, aO qa0, RSi.enc a0), (aB qa1, aO qa1, RSi.enc b1)] w) (hna0 : a0.length = na0) (hqa0 : AOK na0 qa0) (hla0 : na0 ≤ ca0) (hna1 : b1.length = na1) (hqa1 : AOK na1 qa1) (hla1 : na1 ≤ ca1) {res : Bool} (hm : zy a0 b1 = some res) :
    Calls Tryz.prog 104 #[.slice qa0 na0 ca0, .slice qa1 na1 ca1] w (fun en w' => ∃ l : Unit, en = .returned (.bool res) ∧ (True) ∧ HV w (keys [] []) [] [] [] w') := by
  unfold zy at hm
  refine yd func104 Y ntmps104 Y (e := [(0, _), (1, _)]) Y hw (jt (jp Y Y (qs (jk Y Y (jk Y Y ?_)))))
  obtain ⟨t7, h1, hm⟩ := bindO hm
  refine jd [] [] Y Y Y Y Y Y Y call165 (fun w hh => Ko a0 b1 qa0 na0 ca0 qa1 na1 ca1 w (HV.callee (S0 := []) (vs0 := []) hh (roR hh 0 Y (roR hh 1 Y roN))) hna0 hqa0 hla0 hna1 hqa1 hla1 h1) (fun l h2 => ?_)
  refine jp Y Y (jq (jz ?_))
  obtain rfl := sj hm
  refine jn Y (fun w hh => (.tmp Y .nil)) (fun w hh => ⟨(), rfl, trivial, hh.se [] [] 2 Y Y Y rfl⟩)
def zt (a0 : Channel) (b1 : Channel) : Option Bool :=
 (if a0.cells = b1.cells then
 (if a0.tides = b1.tides then
 ((Kj a0.fords b1.fords).bind fun t22 =>
 if t22 = true then
 ((zN a0.sands b1.sands).bind fun t29 =>
 if t29 = true then
 ((zy a0.sights b1.sights).bind fun t36 =>
 some t36) else
 (some false)) else
 (some false)) else
 (some false)) else
 (some false)).bind fun o =>
 some o
theorem Yt (a0 : Channel) (b1 : Channel) (qa0 : Option Addr) (na0 ca0 : Nat) (qa1 : Option Addr) (na1 ca1 : Nat) (qa2 : Option Addr) (na2 ca2 : Nat) (qa3 : Option Addr) (na3 ca3 : Nat) (qa4 : Option Addr) (na4 ca4 : Nat) (qa5 : Option Addr) (na5 ca5 : Nat) (w : World) (hw : HV w (keys [] []) [] [] [(aB qa0, aO qa0, RI.enc a0.fords), (aB qa1, aO qa1, RSa.enc a0.sands), (aB qa2, aO qa2, RSi.enc a0.sights), (aB qa3, aO qa3, RI.enc b1.fords), (aB qa4, aO qa4, RSa.enc b1.sands), (aB qa5, aO qa5, RSi.enc b1.sights)] w) (hna0 : a0.fords.length = na0) (hqa0 : AOK na0 qa0) (hla0 : na0 ≤ ca0) (hna1 : a0.sands.length = na1) (hqa1 : AOK na1 qa1) (hla1 : na1 ≤ ca1) (hna2 : a0.sights.length = na2) (hqa2 : AOK na2 qa2) (hla2 : na2 ≤ ca2) (hna3 : b1.fords.length = na3) (hqa3 : AOK na3 qa3) (hla3 : na3 ≤ ca3) (hna4 : b1.sands.length = na4) (hqa4 : AOK na4 qa4) (hla4 : na4 ≤ ca4) (hna5 : b1.sights.length = na5) (hqa5 : AOK na5 qa5) (hla5 : na5 ≤ ca5) {res : Bool} (hm : zt a0 b1 = some res) :
    Calls Tryz.prog 31 #[.agg #[.int .i64 a0.cells, .int .i64 a0.tides, .slice qa0 na0 ca0, .slice qa1 na1 ca1, .slice qa2 na2 ca2], .agg #[.int .i64 b1.cells, .int .i64 b1.tides, .slice qa3 na3 ca3, .slice qa4 na4 ca4, .slice qa5 na5 ca5]] w (fun en w' => ∃ l : Unit, en = .returned (.bool res) ∧ (True) ∧ HV w (keys [] []) [] [] [] w') := by
  unfold zt at hm
  refine yd func31 Y ntmps31 Y (e := [(0, _), (1, _)]) Y hw (jt ?_)
  refine jP Y Y (fun b h1 => ?_)
  refine jP Y Y (fun b_1 h2 => ?_)
  refine jp Y Y (jq (jh ?_))
  obtain ⟨o, h3, h4⟩ := bindO hm
  refine jI (ι := Unit) (fun l => True) (fun l => [(4, .bool o)]) (fun l => [kc b_1 #[.int .i64 b1.cells, .int .i64 b1.tides, .slice qa3 na3 ca3, .slice qa4 na4 ca4, .slice qa5 na5 ca5] 26, kc b #[.int .i64 a0.cells, .int .i64 a0.tides, .slice qa0 na0 ca0, .slice qa1 na1 ca1, .slice qa2 na2 ca2] 26]) (fun l => []) ?_ ?_
  ·replace hm := h3
   refine jg (qT 0 runUnderlying26 Y sizeOf3 Y Y (qq 1 isAgg3 Y Y Y Y (qT 0 runUnderlying26 Y sizeOf3 Y Y (qq 0 isAgg3 Y Y Y Y (jc Y Y Y (fun _ _ => Ju Y Y) (jk Y Y ?_))))))
   refine jQ 10 Y (fun h5 => ?_) (fun h5 => ?_)
   ·replace hm := ifD h5 hm
    refine jb Y Y (qT 1 runUnderlying26 Y sizeOf3 Y Y (jb Y Y (qq 1 isAgg3 Y Y Y Y (jb Y Y (qT 1 runUnderlying26 Y sizeOf3 Y Y (jb Y Y (qq 0 isAgg3 Y Y Y Y ?_)))))))
    refine jb Y Y (jc Y Y Y (fun _ _ => Ju Y Y) (yx Y Y Y (jk Y Y ?_)))
    refine jQ 17 Y (fun h6 => ?_) (fun h6 => ?_)
    ·replace hm := ifD h6 hm
     refine jb Y Y (qT 2 runUnderlying26 Y sizeOf22 Y Y (jb Y Y (qq 1 isAgg22 Y Y Y Y (jb Y Y (qT 2 runUnderlying26 Y sizeOf22 Y Y (jb Y Y (qq 0 isAgg22 Y Y Y Y ?_)))))))
     refine jb Y Y ?_
     obtain ⟨t22, h7, hm⟩ := bindO hm
     refine jd [] [] Y Y Y Y Y Y Y call45 (fun w hh => Q7 a0.fords b1.fords qa0 na0 ca0 qa3 na3 ca3 w (HV.callee (S0 := []) (vs0 := []) hh (roR hh 0 Y (roR hh 3 Y roN))) hna0 hqa0 hla0 hna3 hqa3 hla3 h7) (fun l_1 h8 => ?_)
     refine yx Y Y Y (jk Y Y ?_)
     refine jQ 24 Y (fun h9 => ?_) (fun h9 => ?_)
     ·replace hm := ifT (h9) hm
      refine jb Y Y (qT 3 runUnderlying26 Y sizeOf23 Y Y (jb Y Y (qq 1 isAgg23 Y Y Y Y (jb Y Y (qT 3 runUnderlying26 Y sizeOf23 Y Y (jb Y Y (qq 0 isAgg23 Y Y Y Y ?_)))))))
      refine jb Y Y ?_
      obtain ⟨t29, h10, hm⟩ := bindO hm
      refine jd [] [] Y Y Y Y Y Y Y call103 (fun w hh => YN a0.sands b1.sands qa1 na1 ca1 qa4 na4 ca4 w (HV.callee (S0 := []) (vs0 := []) hh (roR hh 1 Y (roR hh 4 Y roN))) hna1 hqa1 hla1 hna4 hqa4 hla4 h10) (fun l_2 h11 => ?_)
      refine yx Y Y Y (jk Y Y ?_)
      refine jQ 31 Y (fun h12 => ?_) (fun h12 => ?_)
      ·replace hm := ifT (h12) hm
       refine jb Y Y (qT 4 runUnderlying26 Y sizeOf24 Y Y (jb Y Y (qq 1 isAgg24 Y Y Y Y (jb Y Y (qT 4 runUnderlying26 Y sizeOf24 Y Y (jb Y Y (qq 0 isAgg24 Y Y Y Y ?_)))))))
       refine jb Y Y ?_
       obtain ⟨t36, h13, hm⟩ := bindO hm
       refine jd [] [] Y Y Y Y Y Y Y call104 (fun w hh => Yv a0.sights b1.sights qa2 na2 ca2 qa5 na5 ca5 w (HV.callee (S0 := []) (vs0 := []) hh (roR hh 2 Y (roR hh 5 Y roN))) hna2 hqa2 hla2 hna5 hqa5 hla5 h13) (fun l_3 h14 => ?_)
       refine yx Y Y Y (jp Y Y (ju ?_))
       obtain rfl := sj hm
       exact jj () (trivial) (sE Y) (fun w hh => hh)
      replace hm := ifN h12 hm
      refine g_k Y Y Y Y (g_k Y Y Y Y (g_k Y Y Y Y (g_k Y Y Y Y (g_k Y Y Y Y (y4 Y Y Y (jp Y Y (ju ?_)))))))
      obtain rfl := sj hm
      exact jj () (trivial) (sE Y) (fun w hh => hh)
     replace hm := ifN h9 hm
     refine g_k Y Y Y Y (g_k Y Y Y Y (g_k Y Y Y Y (g_k Y Y Y Y (g_k Y Y Y Y (y4 Y Y Y (jk Y Y (g_k Y Y Y Y ?_)))))))
     refine g_k Y Y Y Y (g_k Y Y Y Y (g_k Y Y Y Y (g_k Y Y Y Y (y4 Y Y Y (jp Y Y (ju ?_))))))
     obtain rfl := sj hm
     exact jj () (trivial) (sE Y) (fun w hh => hh)
    replace hm := ifE h6 hm
    refine g_k Y Y Y Y (g_k Y Y Y Y (g_k Y Y Y Y (g_k Y Y Y Y (g_k Y Y Y Y (y4 Y Y Y (jk Y Y (g_k Y Y Y Y ?_)))))))
    refine g_k Y Y Y Y (g_k Y Y Y Y (g_k Y Y Y Y (g_k Y Y Y Y (y4 Y Y Y (jk Y Y (g_k Y Y Y Y (g_k Y Y Y Y ?_)))))))
    refine g_k Y Y Y Y (g_k Y Y Y Y (g_k Y Y Y Y (y4 Y Y Y (jp Y Y (ju ?_)))))
    obtain rfl := sj hm
    exact jj () (trivial) (sE Y) (fun w hh => hh)
   replace hm := ifE h5 hm
   refine g_k Y Y Y Y (g_k Y Y Y Y (g_k Y Y Y Y (g_k Y Y Y Y (g_k Y Y Y Y (y4 Y Y Y (jk Y Y (g_k Y Y Y Y ?_)))))))
   refine g_k Y Y Y Y (g_k Y Y Y Y (g_k Y Y Y Y (g_k Y Y Y Y (y4 Y Y Y (jk Y Y (g_k Y Y Y Y (g_k Y Y Y Y ?_)))))))
   refine g_k Y Y Y Y (g_k Y Y Y Y (g_k Y Y Y Y (y4 Y Y Y (jk Y Y (g_k Y Y Y Y (g_k Y Y Y Y (g_k Y Y Y Y ?_)))))))
   refine g_k Y Y Y Y (g_k Y Y Y Y (y4 Y Y Y (jp Y Y (ju ?_))))
   obtain rfl := sj hm
   exact jj () (trivial) (sE Y) (fun w hh => hh)
  intro l hj
  replace hm := h4
  refine ja (jz ?_)
  obtain rfl := sj hm
  refine jn Y (fun w hh => (.tmp Y .nil)) (fun w hh => ⟨(), rfl, trivial, hh.se [] [] 6 Y Y Y rfl⟩)
structure KO where
  own3 : Channel
  x4 : Channel
def yp : Plan := (.one 1 (.one 3 (.one 6 (.one 7 .done))))
def yl : Plan := (.br (.alt 3 (.one 4 (.one 6 (.one 7 .done))) (.alt 4 (.one 3 (.one 6 (.one 7 .done))) .nil)))
def KQ : Plan := (.br (.alt 1 yl (.alt 4 yp .nil)))
def yu : Plan := (.br (.alt 3 (.one 5 (.one 6 (.one 7 .done))) (.alt 5 (.one 3 (.one 6 (.one 7 .done))) .nil)))
def KN : Plan := (.br (.alt 1 yu (.alt 5 yp .nil)))
def KM : Plan := (.br (.alt 4 (.one 5 (.one 6 (.one 7 .done))) (.alt 5 (.one 4 (.one 6 (.one 7 .done))) .nil)))
def KK : Plan := (.br (.alt 3 KM (.alt 4 yu (.alt 5 yl .nil))))
structure yw where
  u6 : Int
  many7 : Int
  few8 : Int
structure qg where
  sum16 : Int
  t103 : Int
def j4 (t50 : zK) (s : qg) : Option (qg ⊕ Int) :=
 if s.t103 < (t50.r0.length : Int) then
 ((if 0 < s.t103 then
 ((subc s.t103 1).bind fun t111 =>
 (ix t50.r0 t111).bind fun t112 =>
 (ix t50.r0 s.t103).bind fun t116 =>
 (kU t112 t116).bind fun t118 =>
 (addc s.sum16 t118).bind fun t119 =>
 some t119) else
 (some s.sum16)).bind fun o_6 =>
 (addc s.t103 1).bind fun t120 =>
 some (.inl (⟨o_6, t120⟩ : qg))) else
 (some (.inr s.sum16))
def qN (c0 : Channel) : Option Bool :=
 (zp c0).bind fun t19 =>
 if t19 = true then
 ((yY).bind fun t20 =>
 some t20) else
 (((zJ c0).bind fun t22 =>
 (yO c0).bind fun t24 =>
 some (⟨t22, t24⟩ : KO)).bind fun o =>
 (yT o.x4).bind fun t26 =>
 (if t26 = 0 then
 ((jK o.x4).bind fun t32 =>
 (yc o.x4 t32).bind fun t33 =>
 (zs o.x4).bind fun t35 =>
 if t35 < 0 then
 (some (⟨7, t33, 0⟩ : yw)) else
 (some (⟨t26, t33, t35⟩ : yw))) else
 (some (⟨t26, 0, 0⟩ : yw))).bind fun o_1 =>
 (yP o.own3).bind fun t40 =>
 (Kl o.own3).bind fun t45 =>
 (zU o.own3).bind fun t50 =>
 (if t40.r0 = o_1.many7 then
 (if t40.r1 = t26 then
 (if t45.r1 = o_1.u6 then
 (if t50.r2 = o_1.u6 then
 (if t50.r1 = o_1.few8 then
 (if o_1.u6 = 0 then
 (some false) else
 ((addc (t45.r0.length : Int) (t50.r0.length : Int)).bind fun t85 =>
 some (decide (0 < t85)))) else
 (some true)) else
 (some true)) else
 (some true)) else
 (some true)) else
 (some true)).bind fun o_2 =>
 if o_2 = true then
 (some false) else
 ((if o_1.u6 = 0 then
 (((yz o.x4 t45.r0).bind fun t93 =>
 if (!t93) = true then
 (some true) else
 ((yz o.x4 t50.r0).bind fun t98 =>
 some (!t98))).bind fun o_4 =>
 if o_4 = true then
 (some (.inr false)) else
 ((iterM FU (j4 t50) (⟨0, 0⟩ : qg)).bind fun o_5 =>
 if o_5 = o_1.few8 then
 (some (.inl ())) else
 (some (.inr false)))) else
 (some (.inl ()))).bind fun o_3 =>
 oc o_3 (fun j => ((zt o.own3 c0).bind fun t126 =>
 if t126 = true then
 ((yY).bind fun t128 =>
 some t128) else
 (some false)).bind fun o_7 =>
 some o_7) (fun r_1 => some r_1)))
theorem KX (c0 : Channel) (qa0 : Option Addr) (na0 ca0 : Nat) (qa1 : Option Addr) (na1 ca1 : Nat) (qa2 : Option Addr) (na2 ca2 : Nat) (w : World) (hw : HV w (keys [] []) [] [] [(aB qa0, aO qa0, RI.enc c0.fords), (aB qa1, aO qa1, RSa.enc c0.sands), (aB qa2, aO qa2, RSi.enc c0.sights)] w) (hna0 : c0.fords.length = na0) (hqa0 : AOK na0 qa0) (hla0 : na0 ≤ ca0) (hna1 : c0.sands.length = na1) (hqa1 : AOK na1 qa1) (hla1 : na1 ≤ ca1) (hna2 : c0.sights.length = na2) (hqa2 : AOK na2 qa2) (hla2 : na2 ≤ ca2) {res : Bool} (hm : qN c0 = some res) :
    Calls Tryz.prog 3 #[.agg #[.int .i64 c0.cells, .int .i64 c0.tides, .slice qa0 na0 ca0, .slice qa1 na1 ca1, .slice qa2 na2 ca2]] w (fun en w' => ∃ l : Unit, en = .returned (.bool res) ∧ (True) ∧ HV w (keys [] []) [] [] [] w') := by
  unfold qN at hm
  refine yd func3 Y ntmps3 Y (e := [(0, _)]) Y hw (jt ?_)
  refine jP Y Y (fun b h1 => ?_)
  refine jp Y Y (jq (jh (jt (Jp [_, _, _, _, _] 0 isAgg26 sizeOf26 Y Y Y Y ?_))))
  obtain ⟨t19, h2, hm⟩ := bindO hm
  refine jd [] [] Y Y Y Y Y Y Y call18 (fun w hh => Yy c0 qa0 na0 ca0 qa1 na1 ca1 qa2 na2 ca2 w (HV.callee (S0 := []) (vs0 := []) hh (roR hh 0 Y (roR hh 1 Y (roR hh 2 Y roN)))) hna0 hqa0 hla0 hna1 hqa1 hla1 hna2 hqa2 hla2 h2) (fun l h3 => ?_)
  refine jq ?_
  refine jr Y (fun h4 => ?_) (fun h4 => ?_)
  ·replace hm := ifT (h4) hm
   refine jt ?_
   obtain ⟨t20, h5, hm⟩ := bindO hm
   refine jd [] [] Y Y Y Y Y Y Y call19 (fun w hh => KZ  w (HV.callee (S0 := []) (vs0 := []) hh roN)  h5) (fun l_1 h6 => ?_)
   refine jp Y Y (jq (jz (je ?_)))
   obtain rfl := sj hm
   refine jn Y (fun w hh => (.tmp Y .nil)) (fun w hh => ⟨(), rfl, trivial, hh.se [] [] 3 Y Y Y rfl⟩)
  replace hm := ifN h4 hm
  refine js (ja (jh ?_))
  obtain ⟨o, h7, h8⟩ := bindO hm
  refine jI (ι := Nat × Nat × VL × VL × VL × VL × VL × VL) (fun l_2 => VOK 1 l_2.2.2.1.n l_2.2.2.1.cap (RI.enc o.own3.fords) l_2.2.2.1.sp l_2.2.2.1.q ∧ VOK 3 l_2.2.2.2.1.n l_2.2.2.2.1.cap (RSa.enc o.own3.sands) l_2.2.2.2.1.sp l_2.2.2.2.1.q ∧ VOK 3 l_2.2.2.2.2.1.n l_2.2.2.2.2.1.cap (RSi.enc o.own3.sights) l_2.2.2.2.2.1.sp l_2.2.2.2.2.1.q ∧ VOK 1 l_2.2.2.2.2.2.1.n l_2.2.2.2.2.2.1.cap (RI.enc o.x4.fords) l_2.2.2.2.2.2.1.sp l_2.2.2.2.2.2.1.q ∧ VOK 3 l_2.2.2.2.2.2.2.1.n l_2.2.2.2.2.2.2.1.cap (RSa.enc o.x4.sands) l_2.2.2.2.2.2.2.1.sp l_2.2.2.2.2.2.2.1.q ∧ VOK 3 l_2.2.2.2.2.2.2.2.n l_2.2.2.2.2.2.2.2.cap (RSi.enc o.x4.sights) l_2.2.2.2.2.2.2.2.sp l_2.2.2.2.2.2.2.2.q) (fun l_2 => [(1, ptr b 0), (3, ptr l_2.1 0), (4, ptr l_2.2.1 0)]) (fun l_2 => [kc b #[.int .i64 c0.cells, .int .i64 c0.tides, .slice qa0 na0 ca0, .slice qa1 na1 ca1, .slice qa2 na2 ca2] 26, kc l_2.1 #[.int .i64 o.own3.cells, .int .i64 o.own3.tides, sL l_2.2.2.1, sL l_2.2.2.2.1, sL l_2.2.2.2.2.1] 26, kc l_2.2.1 #[.int .i64 o.x4.cells, .int .i64 o.x4.tides, sL l_2.2.2.2.2.2.1, sL l_2.2.2.2.2.2.2.1, sL l_2.2.2.2.2.2.2.2] 33]) (fun l_2 => [vL 3 l_2.2.2.1 (RI.enc o.own3.fords), vL 98 l_2.2.2.2.1 (RSa.enc o.own3.sands), vL 55 l_2.2.2.2.2.1 (RSi.enc o.own3.sights), vL 3 l_2.2.2.2.2.2.1 (RI.enc o.x4.fords), vL 138 l_2.2.2.2.2.2.2.1 (RSa.enc o.x4.sands), vL 139 l_2.2.2.2.2.2.2.2 (RSi.enc o.x4.sights)]) ?_ ?_
  ·replace hm := h7
   obtain ⟨t22, h15, hm⟩ := bindO hm
   obtain ⟨t24, h16, hm⟩ := bindO hm
   refine j5 none (.hoist 0 (.hoist 2 (.br (.alt 1 KK (.alt 4 KN (.alt 5 KQ .nil)))))) _ Y (by decide +kernel) (fun w k hh => hh.draw k) (fun w hh => hh) ?_
   refine jw Y Y Y Y (fun w hh => jH (vs := [_, _, _, _, _]) (isAgg26 w) (sizeOf26 w) Y (hh.cells 0 Y Y)) (jw Y Y Y Y (fun w hh => jH (vs := [_, _, _, _, _]) (isAgg26 w) (sizeOf26 w) Y (hh.cells 0 Y Y)) ?_)
   refine zC (.one 7 .done) (fun g => ∀ (b_1 : Nat) (b_2 : Nat) (L : VL) (L_1 : VL) (L_2 : VL) (L_3 : VL) (L_4 : VL) (L_5 : VL), vk 1 L (RI.enc t24.fords) → vk 3 L_1 (RSa.enc t24.sands) → vk 3 L_2 (RSi.enc t24.sights) → vk 1 L_3 (RI.enc t22.fords) → vk 3 L_4 (RSa.enc t22.sands) → vk 3 L_5 (RSi.enc t22.sights) → g [(1, ptr b 0), (3, ptr b_1 0), (4, ptr b_2 0), (24, .agg #[.int .i64 t24.cells, .int .i64 t24.tides, sL L, sL L_1, sL L_2])] [kc b #[.int .i64 c0.cells, .int .i64 c0.tides, .slice qa0 na0 ca0, .slice qa1 na1 ca1, .slice qa2 na2 ca2] 26, kc b_1 #[.int .i64 t22.cells, .int .i64 t22.tides, sL L_3, sL L_4, sL L_5] 26, kc b_2 #[.int .i64 0, .int .i64 0, slv none 0 0, slv none 0 0, slv none 0 0] 33] [vL 3 L (RI.enc t24.fords), vL 138 L_1 (RSa.enc t24.sands), vL 139 L_2 (RSi.enc t24.sights), vL 3 L_3 (RI.enc t22.fords), vL 98 L_4 (RSa.enc t22.sands), vL 55 L_5 (RSi.enc t22.sights)]) ?_ (fun h23 => ?_)
   ·intro b_1 b_2 L L_1 L_2 L_3 L_4 L_5 h17 h18 h19 h20 h21 h22
    refine jF Y (kE (us := #[_, _, _, _, _]) (cs' := [_, _, _, _, _]) (S' := [_, _, _]) 2 (fun w => sizeOf33 w) Y Y Y Y Y Y Y (jo (hsE [0] [] 0 Y Y Y Y) (jG ?_)))
    obtain rfl := sj hm
    exact jj (b_1, b_2, L_3, L_4, L_5, L, L_1, L_2) (⟨h20, h21, h22, h17, h18, h19⟩) (sE Y) (hsE [0, 1, 2] [3, 4, 5, 0, 1, 2] 0 Y Y Y Y)
   refine zC (.one 6 (.one 7 .done)) (fun g => ∀ (b_3 : Nat) (b_4 : Nat) (L_6 : VL) (L_7 : VL) (L_8 : VL) (L_9 : VL) (L_10 : VL) (L_11 : VL), vk 1 L_6 (RI.enc t22.fords) → vk 3 L_7 (RSa.enc t22.sands) → vk 3 L_8 (RSi.enc t22.sights) → vk 1 L_9 (RI.enc t24.fords) → vk 3 L_10 (RSa.enc t24.sands) → vk 3 L_11 (RSi.enc t24.sights) → g [(1, ptr b 0), (3, ptr b_3 0), (4, ptr b_4 0), (22, .agg #[.int .i64 t22.cells, .int .i64 t22.tides, sL L_6, sL L_7, sL L_8]), (24, .agg #[.int .i64 t24.cells, .int .i64 t24.tides, sL L_9, sL L_10, sL L_11])] [kc b #[.int .i64 c0.cells, .int .i64 c0.tides, .slice qa0 na0 ca0, .slice qa1 na1 ca1, .slice qa2 na2 ca2] 26, kc b_3 #[.int .i64 0, .int .i64 0, slv none 0 0, slv none 0 0, slv none 0 0] 26, kc b_4 #[.int .i64 0, .int .i64 0, slv none 0 0, slv none 0 0, slv none 0 0] 33] [vL 3 L_6 (RI.enc t22.fords), vL 98 L_7 (RSa.enc t22.sands), vL 55 L_8 (RSi.enc t22.sights), vL 3 L_9 (RI.enc t24.fords), vL 138 L_10 (RSa.enc t24.sands), vL 139 L_11 (RSi.enc t24.sights)]) ?_ (fun h30 => ?_)
   intro b_3 b_4 L_6 L_7 L_8 L_9 L_10 L_11 h24 h25 h26 h27 h28 h29
   refine jF Y (kE (us := #[_, _, _, _, _]) (cs' := [_, _, _, _, _]) (S' := [_, _, _]) 1 (fun w => sizeOf26 w) Y Y Y Y Y Y Y (jo (hsE [0] [] 0 Y Y Y Y) ?_))
   exact zM (h23 b_3 b_4 L_9 L_10 L_11 L_6 L_7 L_8 h27 h28 h29 h24 h25 h26) (sE Y) (hsE [0, 1, 2] [3, 4, 5, 0, 1, 2] 0 Y Y Y Y)
   refine zC (.one 3 (.one 6 (.one 7 .done))) (fun g => ∀ (b_5 : Nat) (b_6 : Nat) (L_12 : VL) (L_13 : VL) (L_14 : VL), vk 1 L_12 (RI.enc t22.fords) → vk 3 L_13 (RSa.enc t22.sands) → vk 3 L_14 (RSi.enc t22.sights) → g [(1, ptr b 0), (3, ptr b_5 0), (4, ptr b_6 0), (22, .agg #[.int .i64 t22.cells, .int .i64 t22.tides, sL L_12, sL L_13, sL L_14]), (23, .agg #[.int .i64 c0.cells, .int .i64 c0.tides, .slice qa0 na0 ca0, .slice qa1 na1 ca1, .slice qa2 na2 ca2])] [kc b #[.int .i64 c0.cells, .int .i64 c0.tides, .slice qa0 na0 ca0, .slice qa1 na1 ca1, .slice qa2 na2 ca2] 26, kc b_5 #[.int .i64 0, .int .i64 0, slv none 0 0, slv none 0 0, slv none 0 0] 26, kc b_6 #[.int .i64 0, .int .i64 0, slv none 0 0, slv none 0 0, slv none 0 0] 33] [vL 3 L_12 (RI.enc t22.fords), vL 98 L_13 (RSa.enc t22.sands), vL 55 L_14 (RSi.enc t22.sights)]) ?_ (fun h34 => ?_)
   ·intro b_5 b_6 L_12 L_13 L_14 h31 h32 h33
    refine jF Y ?_
    refine jd [] [] Y Y Y Y Y Y Y call21 (fun w hh => zH c0 qa0 na0 ca0 qa1 na1 ca1 qa2 na2 ca2 w (HV.callee (S0 := []) (vs0 := []) hh (roR hh 0 Y (roR hh 1 Y (roR hh 2 Y roN)))) hna0 hqa0 hla0 hna1 hqa1 hla1 hna2 hqa2 hla2 h16) (fun l_3 h35 => ?_)
    obtain ⟨h36, h37, h38⟩ := h35
    refine k3 (S' := [_, _, _]) (vs' := [_, _, _, _, _, _]) [0, 1, 2] [0, 1, 2, 3, 4, 5] 0 Y Y Y Y (jo (hsE [0] [] 0 Y Y Y Y) ?_)
    exact zM (h30 b_5 b_6 L_12 L_13 L_14 l_3.1 l_3.2.1 l_3.2.2 h31 h32 h33 h36 h37 h38) (sE Y) (hsE [0, 1, 2] [3, 4, 5, 0, 1, 2] 0 Y Y Y Y)
   refine zC (.one 4 (.one 6 (.one 7 .done))) (fun g => ∀ (b_7 : Nat) (L_15 : VL) (L_16 : VL) (L_17 : VL) (L_18 : VL) (L_19 : VL) (L_20 : VL), vk 1 L_15 (RI.enc t22.fords) → vk 3 L_16 (RSa.enc t22.sands) → vk 3 L_17 (RSi.enc t22.sights) → vk 1 L_18 (RI.enc t24.fords) → vk 3 L_19 (RSa.enc t24.sands) → vk 3 L_20 (RSi.enc t24.sights) → g [(1, ptr b 0), (4, ptr b_7 0), (22, .agg #[.int .i64 t22.cells, .int .i64 t22.tides, sL L_15, sL L_16, sL L_17]), (24, .agg #[.int .i64 t24.cells, .int .i64 t24.tides, sL L_18, sL L_19, sL L_20])] [kc b #[.int .i64 c0.cells, .int .i64 c0.tides, .slice qa0 na0 ca0, .slice qa1 na1 ca1, .slice qa2 na2 ca2] 26, kc b_7 #[.int .i64 0, .int .i64 0, slv none 0 0, slv none 0 0, slv none 0 0] 33] [vL 3 L_15 (RI.enc t22.fords), vL 98 L_16 (RSa.enc t22.sands), vL 55 L_17 (RSi.enc t22.sights), vL 3 L_18 (RI.enc t24.fords), vL 138 L_19 (RSa.enc t24.sands), vL 139 L_20 (RSi.enc t24.sights)]) ?_ (fun h45 => ?_)
   intro b_7 L_15 L_16 L_17 L_18 L_19 L_20 h39 h40 h41 h42 h43 h44
   refine jF Y ?_
   refine jA (fun w => zeroValue26 w) Y (fun b_8 h46 => ?_)
   refine jo (hsE [1] [] 0 Y Y Y Y) ?_
   exact zM (h30 b_8 b_7 L_15 L_16 L_17 L_18 L_19 L_20 h39 h40 h41 h42 h43 h44) (sE Y) (hsE [1, 0, 2] [0, 1, 2, 3, 4, 5] 0 Y Y Y Y)
   refine zC (.one 5 (.one 6 (.one 7 .done))) (fun g => ∀ (b_9 : Nat) (L_21 : VL) (L_22 : VL) (L_23 : VL) (L_24 : VL) (L_25 : VL) (L_26 : VL), vk 1 L_21 (RI.enc t22.fords) → vk 3 L_22 (RSa.enc t22.sands) → vk 3 L_23 (RSi.enc t22.sights) → vk 1 L_24 (RI.enc t24.fords) → vk 3 L_25 (RSa.enc t24.sands) → vk 3 L_26 (RSi.enc t24.sights) → g [(1, ptr b 0), (3, ptr b_9 0), (22, .agg #[.int .i64 t22.cells, .int .i64 t22.tides, sL L_21, sL L_22, sL L_23]), (24, .agg #[.int .i64 t24.cells, .int .i64 t24.tides, sL L_24, sL L_25, sL L_26])] [kc b #[.int .i64 c0.cells, .int .i64 c0.tides, .slice qa0 na0 ca0, .slice qa1 na1 ca1, .slice qa2 na2 ca2] 26, kc b_9 #[.int .i64 0, .int .i64 0, slv none 0 0, slv none 0 0, slv none 0 0] 26] [vL 3 L_21 (RI.enc t22.fords), vL 98 L_22 (RSa.enc t22.sands), vL 55 L_23 (RSi.enc t22.sights), vL 3 L_24 (RI.enc t24.fords), vL 138 L_25 (RSa.enc t24.sands), vL 139 L_26 (RSi.enc t24.sights)]) ?_ (fun h53 => ?_)
   ·intro b_9 L_21 L_22 L_23 L_24 L_25 L_26 h47 h48 h49 h50 h51 h52
    refine jF Y ?_
    refine jA (fun w => zeroValue33 w) Y (fun b_10 h54 => ?_)
    refine jo (hsE [1] [] 0 Y Y Y Y) ?_
    exact zM (h30 b_9 b_10 L_21 L_22 L_23 L_24 L_25 L_26 h47 h48 h49 h50 h51 h52) (sE Y) (hsE [1, 2, 0] [0, 1, 2, 3, 4, 5] 0 Y Y Y Y)
   refine zC yp (fun g => ∀ (b_11 : Nat) (b_12 : Nat), g [(1, ptr b 0), (3, ptr b_11 0), (4, ptr b_12 0), (21, .agg #[.int .i64 c0.cells, .int .i64 c0.tides, .slice qa0 na0 ca0, .slice qa1 na1 ca1, .slice qa2 na2 ca2]), (23, .agg #[.int .i64 c0.cells, .int .i64 c0.tides, .slice qa0 na0 ca0, .slice qa1 na1 ca1, .slice qa2 na2 ca2])] [kc b #[.int .i64 c0.cells, .int .i64 c0.tides, .slice qa0 na0 ca0, .slice qa1 na1 ca1, .slice qa2 na2 ca2] 26, kc b_11 #[.int .i64 0, .int .i64 0, slv none 0 0, slv none 0 0, slv none 0 0] 26, kc b_12 #[.int .i64 0, .int .i64 0, slv none 0 0, slv none 0 0, slv none 0 0] 33] []) ?_ (fun h55 => ?_)
   intro b_11 b_12
   refine jF Y ?_
   refine jd [] [] Y Y Y Y Y Y Y call20 (fun w hh => JI c0 qa0 na0 ca0 qa1 na1 ca1 qa2 na2 ca2 w (HV.callee (S0 := []) (vs0 := []) hh (roR hh 0 Y (roR hh 1 Y (roR hh 2 Y roN)))) hna0 hqa0 hla0 hna1 hqa1 hla1 hna2 hqa2 hla2 h15) (fun l_4 h56 => ?_)
   obtain ⟨h57, h58, h59⟩ := h56
   refine k3 (S' := [_, _, _]) (vs' := [_, _, _]) [0, 1, 2] [0, 1, 2] 0 Y Y Y Y (jo (hsE [0] [] 0 Y Y Y Y) ?_)
   exact zM (h34 b_11 b_12 l_4.1 l_4.2.1 l_4.2.2 h57 h58 h59) (sE Y) (fun w hh => hh)
   refine zC yl (fun g => ∀ (b_13 : Nat) (L_27 : VL) (L_28 : VL) (L_29 : VL), vk 1 L_27 (RI.enc t22.fords) → vk 3 L_28 (RSa.enc t22.sands) → vk 3 L_29 (RSi.enc t22.sights) → g [(1, ptr b 0), (4, ptr b_13 0), (22, .agg #[.int .i64 t22.cells, .int .i64 t22.tides, sL L_27, sL L_28, sL L_29]), (23, .agg #[.int .i64 c0.cells, .int .i64 c0.tides, .slice qa0 na0 ca0, .slice qa1 na1 ca1, .slice qa2 na2 ca2])] [kc b #[.int .i64 c0.cells, .int .i64 c0.tides, .slice qa0 na0 ca0, .slice qa1 na1 ca1, .slice qa2 na2 ca2] 26, kc b_13 #[.int .i64 0, .int .i64 0, slv none 0 0, slv none 0 0, slv none 0 0] 33] [vL 3 L_27 (RI.enc t22.fords), vL 98 L_28 (RSa.enc t22.sands), vL 55 L_29 (RSi.enc t22.sights)]) ?_ (fun h63 => ?_)
   ·intro b_13 L_27 L_28 L_29 h60 h61 h62
    refine Y7 ?_
    refine yK Y ?_ ?_
    ·refine jd [] [] Y Y Y Y Y Y Y call21 (fun w hh => zH c0 qa0 na0 ca0 qa1 na1 ca1 qa2 na2 ca2 w (HV.callee (S0 := []) (vs0 := []) hh (roR hh 0 Y (roR hh 1 Y (roR hh 2 Y roN)))) hna0 hqa0 hla0 hna1 hqa1 hla1 hna2 hqa2 hla2 h16) (fun l_5 h64 => ?_)
     obtain ⟨h65, h66, h67⟩ := h64
     refine k3 (S' := [_, _]) (vs' := [_, _, _, _, _, _]) [0, 1] [0, 1, 2, 3, 4, 5] 0 Y Y Y Y (jo (hsE [0] [] 0 Y Y Y Y) ?_)
     exact zM (h45 b_13 L_27 L_28 L_29 l_5.1 l_5.2.1 l_5.2.2 h60 h61 h62 h65 h66 h67) (sE Y) (hsE [0, 1] [3, 4, 5, 0, 1, 2] 0 Y Y Y Y)
    refine yK Y ?_ ?_
    refine jA (fun w => zeroValue26 w) Y (fun b_14 h68 => ?_)
    refine jo (hsE [1] [] 0 Y Y Y Y) ?_
    exact zM (h34 b_14 b_13 L_27 L_28 L_29 h60 h61 h62) (sE Y) (hsE [1, 0, 2] [0, 1, 2] 0 Y Y Y Y)
    exact K5
   refine zC yu (fun g => ∀ (b_15 : Nat) (L_30 : VL) (L_31 : VL) (L_32 : VL), vk 1 L_30 (RI.enc t22.fords) → vk 3 L_31 (RSa.enc t22.sands) → vk 3 L_32 (RSi.enc t22.sights) → g [(1, ptr b 0), (3, ptr b_15 0), (22, .agg #[.int .i64 t22.cells, .int .i64 t22.tides, sL L_30, sL L_31, sL L_32]), (23, .agg #[.int .i64 c0.cells, .int .i64 c0.tides, .slice qa0 na0 ca0, .slice qa1 na1 ca1, .slice qa2 na2 ca2])] [kc b #[.int .i64 c0.cells, .int .i64 c0.tides, .slice qa0 na0 ca0, .slice qa1 na1 ca1, .slice qa2 na2 ca2] 26, kc b_15 #[.int .i64 0, .int .i64 0, slv none 0 0, slv none 0 0, slv none 0 0] 26] [vL 3 L_30 (RI.enc t22.fords), vL 98 L_31 (RSa.enc t22.sands), vL 55 L_32 (RSi.enc t22.sights)]) ?_ (fun h72 => ?_)
   intro b_15 L_30 L_31 L_32 h69 h70 h71
   refine Y7 ?_
   refine yK Y ?_ ?_
   ·refine jd [] [] Y Y Y Y Y Y Y call21 (fun w hh => zH c0 qa0 na0 ca0 qa1 na1 ca1 qa2 na2 ca2 w (HV.callee (S0 := []) (vs0 := []) hh (roR hh 0 Y (roR hh 1 Y (roR hh 2 Y roN)))) hna0 hqa0 hla0 hna1 hqa1 hla1 hna2 hqa2 hla2 h16) (fun l_6 h73 => ?_)
    obtain ⟨h74, h75, h76⟩ := h73
    refine k3 (S' := [_, _]) (vs' := [_, _, _, _, _, _]) [0, 1] [0, 1, 2, 3, 4, 5] 0 Y Y Y Y (jo (hsE [0] [] 0 Y Y Y Y) ?_)
    exact zM (h53 b_15 L_30 L_31 L_32 l_6.1 l_6.2.1 l_6.2.2 h69 h70 h71 h74 h75 h76) (sE Y) (hsE [0, 1] [3, 4, 5, 0, 1, 2] 0 Y Y Y Y)
   refine yK Y ?_ ?_
   refine jA (fun w => zeroValue33 w) Y (fun b_16 h77 => ?_)
   refine jo (hsE [1] [] 0 Y Y Y Y) ?_
   exact zM (h34 b_15 b_16 L_30 L_31 L_32 h69 h70 h71) (sE Y) (hsE [1, 2, 0] [0, 1, 2] 0 Y Y Y Y)
   exact K5
   refine Y7 ?_
   refine yK Y ?_ ?_
   ·refine jd [] [] Y Y Y Y Y Y Y call20 (fun w hh => JI c0 qa0 na0 ca0 qa1 na1 ca1 qa2 na2 ca2 w (HV.callee (S0 := []) (vs0 := []) hh (roR hh 0 Y (roR hh 1 Y (roR hh 2 Y roN)))) hna0 hqa0 hla0 hna1 hqa1 hla1 hna2 hqa2 hla2 h15) (fun l_7 h78 => ?_)
    obtain ⟨h79, h80, h81⟩ := h78
    refine k3 (S' := [_]) (vs' := [_, _, _]) [0] [0, 1, 2] 0 Y Y Y Y (jo (hsE [0] [] 0 Y Y Y Y) (Y7 ?_))
    refine yK Y ?_ ?_
    ·refine jd [] [] Y Y Y Y Y Y Y call21 (fun w hh => zH c0 qa0 na0 ca0 qa1 na1 ca1 qa2 na2 ca2 w (HV.callee (S0 := []) (vs0 := []) hh (roR hh 0 Y (roR hh 1 Y (roR hh 2 Y roN)))) hna0 hqa0 hla0 hna1 hqa1 hla1 hna2 hqa2 hla2 h16) (fun l_8 h82 => ?_)
     obtain ⟨h83, h84, h85⟩ := h82
     refine k3 (S' := [_]) (vs' := [_, _, _, _, _, _]) [0] [0, 1, 2, 3, 4, 5] 0 Y Y Y Y (jo (hsE [0] [] 0 Y Y Y Y) (Y7 ?_))
     refine yK Y ?_ ?_
     ·refine jA (fun w => zeroValue26 w) Y (fun b_17 h86 => ?_)
      refine jo (hsE [1] [] 0 Y Y Y Y) ?_
      exact zM (h53 b_17 l_7.1 l_7.2.1 l_7.2.2 l_8.1 l_8.2.1 l_8.2.2 h79 h80 h81 h83 h84 h85) (sE Y) (hsE [1, 0] [3, 4, 5, 0, 1, 2] 0 Y Y Y Y)
     refine yK Y ?_ ?_
     refine jA (fun w => zeroValue33 w) Y (fun b_18 h87 => ?_)
     refine jo (hsE [1] [] 0 Y Y Y Y) ?_
     exact zM (h45 b_18 l_7.1 l_7.2.1 l_7.2.2 l_8.1 l_8.2.1 l_8.2.2 h79 h80 h81 h83 h84 h85) (sE Y) (hsE [1, 0] [3, 4, 5, 0, 1, 2] 0 Y Y Y Y)
     exact K5
    refine yK Y ?_ ?_
    refine jA (fun w => zeroValue26 w) Y (fun b_19 h88 => ?_)
    refine jo (hsE [1] [] 0 Y Y Y Y) ?_
    exact zM (h72 b_19 l_7.1 l_7.2.1 l_7.2.2 h79 h80 h81) (sE Y) (hsE [1, 0] [0, 1, 2] 0 Y Y Y Y)
    refine yK Y ?_ ?_
    ·refine jA (fun w => zeroValue33 w) Y (fun b_20 h89 => ?_)
     refine jo (hsE [1] [] 0 Y Y Y Y) ?_
     exact zM (h63 b_20 l_7.1 l_7.2.1 l_7.2.2 h79 h80 h81) (sE Y) (hsE [1, 0] [0, 1, 2] 0 Y Y Y Y)
    exact K5
   refine yK Y ?_ ?_
   refine jA (fun w => zeroValue26 w) Y (fun b_21 h90 => ?_)
   refine jo (hsE [1] [] 0 Y Y Y Y) (Y7 ?_)
   refine yK Y ?_ ?_
   ·refine jd [] [] Y Y Y Y Y Y Y call20 (fun w hh => JI c0 qa0 na0 ca0 qa1 na1 ca1 qa2 na2 ca2 w (HV.callee (S0 := []) (vs0 := []) hh (roR hh 0 Y (roR hh 1 Y (roR hh 2 Y roN)))) hna0 hqa0 hla0 hna1 hqa1 hla1 hna2 hqa2 hla2 h15) (fun l_9 h91 => ?_)
    obtain ⟨h92, h93, h94⟩ := h91
    refine k3 (S' := [_, _]) (vs' := [_, _, _]) [0, 1] [0, 1, 2] 0 Y Y Y Y (jo (hsE [1] [] 0 Y Y Y Y) ?_)
    exact zM (h72 b_21 l_9.1 l_9.2.1 l_9.2.2 h92 h93 h94) (sE Y) (hsE [1, 0] [0, 1, 2] 0 Y Y Y Y)
   refine yK Y ?_ ?_
   refine jA (fun w => zeroValue33 w) Y (fun b_22 h95 => ?_)
   refine jo (hsE [2] [] 0 Y Y Y Y) ?_
   exact zM (h55 b_21 b_22) (sE Y) (hsE [2, 1, 0] [] 0 Y Y Y Y)
   exact K5
   refine yK Y ?_ ?_
   ·refine jA (fun w => zeroValue33 w) Y (fun b_23 h96 => ?_)
    refine jo (hsE [1] [] 0 Y Y Y Y) (Y7 ?_)
    refine yK Y ?_ ?_
    ·refine jd [] [] Y Y Y Y Y Y Y call20 (fun w hh => JI c0 qa0 na0 ca0 qa1 na1 ca1 qa2 na2 ca2 w (HV.callee (S0 := []) (vs0 := []) hh (roR hh 0 Y (roR hh 1 Y (roR hh 2 Y roN)))) hna0 hqa0 hla0 hna1 hqa1 hla1 hna2 hqa2 hla2 h15) (fun l_10 h97 => ?_)
     obtain ⟨h98, h99, h100⟩ := h97
     refine k3 (S' := [_, _]) (vs' := [_, _, _]) [0, 1] [0, 1, 2] 0 Y Y Y Y (jo (hsE [1] [] 0 Y Y Y Y) ?_)
     exact zM (h63 b_23 l_10.1 l_10.2.1 l_10.2.2 h98 h99 h100) (sE Y) (hsE [1, 0] [0, 1, 2] 0 Y Y Y Y)
    refine yK Y ?_ ?_
    refine jA (fun w => zeroValue26 w) Y (fun b_24 h101 => ?_)
    refine jo (hsE [2] [] 0 Y Y Y Y) ?_
    exact zM (h55 b_24 b_23) (sE Y) (hsE [2, 0, 1] [] 0 Y Y Y Y)
    exact K5
   exact K5
  intro l_2 hj
  obtain ⟨h9, h10, h11, h12, h13, h14⟩ := hj
  replace hm := h8
  refine ja (jt (Jp [_, _, _, _, _] 2 isAgg33 sizeOf33 Y Y Y Y ?_))
  obtain ⟨t26, h102, hm⟩ := bindO hm
  refine jd [] [] Y Y Y Y Y Y Y call22 (fun w hh => Yi o.x4 (qA l_2.2.2.2.2.2.1.q) l_2.2.2.2.2.2.1.n l_2.2.2.2.2.2.1.cap (qA l_2.2.2.2.2.2.2.1.q) l_2.2.2.2.2.2.2.1.n l_2.2.2.2.2.2.2.1.cap (qA l_2.2.2.2.2.2.2.2.q) l_2.2.2.2.2.2.2.2.n l_2.2.2.2.2.2.2.2.cap w (HV.callee (S0 := []) (vs0 := []) hh (roC (hh.vsepA 3 Y h12) (roC (hh.vsepA 4 Y h13) (roC (hh.vsepA 5 Y h14) roN)))) (vlen RI h12 Y) (AOK.q (vne h12)) (h12).hle (vlen RSa h13 Y) (AOK.q (vne h13)) (h13).hle (vlen RSi h14 Y) (AOK.q (vne h14)) (h14).hle h102) (fun l_11 h103 => ?_)
  refine jp Y Y (qs (jk Y Y (jp Y Y (qs (jp Y Y (jp Y Y (jq ?_)))))))
  refine jh ?_
  obtain ⟨o_1, h104, h105⟩ := bindO hm
  refine jI (ι := Unit) (fun l_12 => True) (fun l_12 => [(1, ptr b 0), (3, ptr l_2.1 0), (4, ptr l_2.2.1 0), (5, .int .i64 t26), (6, .int .i64 o_1.u6), (7, .int .i64 o_1.many7), (8, .int .i64 o_1.few8)]) (fun l_12 => [kc b #[.int .i64 c0.cells, .int .i64 c0.tides, .slice qa0 na0 ca0, .slice qa1 na1 ca1, .slice qa2 na2 ca2] 26, kc l_2.1 #[.int .i64 o.own3.cells, .int .i64 o.own3.tides, sL l_2.2.2.1, sL l_2.2.2.2.1, sL l_2.2.2.2.2.1] 26, kc l_2.2.1 #[.int .i64 o.x4.cells, .int .i64 o.x4.tides, sL l_2.2.2.2.2.2.1, sL l_2.2.2.2.2.2.2.1, sL l_2.2.2.2.2.2.2.2] 33]) (fun l_12 => [vL 3 l_2.2.2.1 (RI.enc o.own3.fords), vL 98 l_2.2.2.2.1 (RSa.enc o.own3.sands), vL 55 l_2.2.2.2.2.1 (RSi.enc o.own3.sights), vL 3 l_2.2.2.2.2.2.1 (RI.enc o.x4.fords), vL 138 l_2.2.2.2.2.2.2.1 (RSa.enc o.x4.sands), vL 139 l_2.2.2.2.2.2.2.2 (RSi.enc o.x4.sights)]) ?_ ?_
  ·replace hm := h104
   refine jt (jk Y Y (jc Y Y Y (fun _ _ => Ju Y Y) (jq ?_)))
   refine jr Y (fun h106 => ?_) (fun h106 => ?_)
   ·replace hm := ifD h106 hm
    refine jh (j5 none (.hoist 0 (.hoist 1 (.one 2 (.one 3 (.free 4 .done))))) _ Y (by decide +kernel) (fun w k hh => hh.draw k) (fun w hh => hh) (jw Y Y Y Y (fun w hh => jH (vs := [_, _, _, _, _]) (isAgg33 w) (sizeOf33 w) Y (hh.cells 2 Y Y)) (jw Y Y Y Y (fun w hh => jH (vs := [_, _, _, _, _]) (isAgg33 w) (sizeOf33 w) Y (hh.cells 2 Y Y)) (jF Y ?_))))
    obtain ⟨t32, h107, hm⟩ := bindO hm
    refine jd [] [] Y Y Y Y Y Y Y call24 (fun w hh => yB o.x4 (qA l_2.2.2.2.2.2.1.q) l_2.2.2.2.2.2.1.n l_2.2.2.2.2.2.1.cap (qA l_2.2.2.2.2.2.2.1.q) l_2.2.2.2.2.2.2.1.n l_2.2.2.2.2.2.2.1.cap (qA l_2.2.2.2.2.2.2.2.q) l_2.2.2.2.2.2.2.2.n l_2.2.2.2.2.2.2.2.cap w (HV.callee (S0 := []) (vs0 := []) hh (roC (hh.vsepA 3 Y h12) (roC (hh.vsepA 4 Y h13) (roC (hh.vsepA 5 Y h14) roN)))) (vlen RI h12 Y) (AOK.q (vne h12)) (h12).hle (vlen RSa h13 Y) (AOK.q (vne h13)) (h13).hle (vlen RSi h14 Y) (AOK.q (vne h14)) (h14).hle h107) (fun l_13 h108 => ?_)
    refine jo (fun w hh => hh) (jF Y ?_)
    obtain ⟨t33, h109, hm⟩ := bindO hm
    refine jd [] [] Y Y Y Y Y Y Y call23 (fun w hh => Ye o.x4 t32 (qA l_2.2.2.2.2.2.1.q) l_2.2.2.2.2.2.1.n l_2.2.2.2.2.2.1.cap (qA l_2.2.2.2.2.2.2.1.q) l_2.2.2.2.2.2.2.1.n l_2.2.2.2.2.2.2.1.cap (qA l_2.2.2.2.2.2.2.2.q) l_2.2.2.2.2.2.2.2.n l_2.2.2.2.2.2.2.2.cap w (HV.callee (S0 := []) (vs0 := []) hh (roC (hh.vsepA 3 Y h12) (roC (hh.vsepA 4 Y h13) (roC (hh.vsepA 5 Y h14) roN)))) (vlen RI h12 Y) (AOK.q (vne h12)) (h12).hle (vlen RSa h13 Y) (AOK.q (vne h13)) (h13).hle (vlen RSi h14 Y) (AOK.q (vne h14)) (h14).hle h109) (fun l_14 h110 => ?_)
    refine jo (fun w hh => hh) (jl Y Y Y Y (fun _ _ => kx Y) (jG (ja (jt (Jp [_, _, _, _, _] 2 isAgg33 sizeOf33 Y Y Y Y ?_)))))
    obtain ⟨t35, h111, hm⟩ := bindO hm
    refine jd [] [] Y Y Y Y Y Y Y call25 (fun w hh => Yz o.x4 (qA l_2.2.2.2.2.2.1.q) l_2.2.2.2.2.2.1.n l_2.2.2.2.2.2.1.cap (qA l_2.2.2.2.2.2.2.1.q) l_2.2.2.2.2.2.2.1.n l_2.2.2.2.2.2.2.1.cap (qA l_2.2.2.2.2.2.2.2.q) l_2.2.2.2.2.2.2.2.n l_2.2.2.2.2.2.2.2.cap w (HV.callee (S0 := []) (vs0 := []) hh (roC (hh.vsepA 3 Y h12) (roC (hh.vsepA 4 Y h13) (roC (hh.vsepA 5 Y h14) roN)))) (vlen RI h12 Y) (AOK.q (vne h12)) (h12).hle (vlen RSa h13 Y) (AOK.q (vne h13)) (h13).hle (vlen RSi h14 Y) (AOK.q (vne h14)) (h14).hle h111) (fun l_15 h112 => ?_)
    refine jp Y Y (qs (jk Y Y (Jo Y Y Y (jq ?_))))
    refine jr Y (fun h113 => ?_) (fun h113 => ?_)
    ·replace hm := ifD h113 hm
     refine jg (jp Y Y (jp Y Y (ju ?_)))
     obtain rfl := sj hm
     exact jj () (trivial) (sE Y) (fun w hh => hh)
    replace hm := ifE h113 hm
    refine js ?_
    obtain rfl := sj hm
    exact jj () (trivial) (sE Y) (fun w hh => hh)
   replace hm := ifE h106 hm
   refine js ?_
   obtain rfl := sj hm
   exact jj () (trivial) (sE Y) (fun w hh => hh)
  intro l_12 hj
  replace hm := h105
  refine ja (jt (Jp [_, _, _, _, _] 1 isAgg26 sizeOf26 Y Y Y Y ?_))
  obtain ⟨t40, h114, hm⟩ := bindO hm
  refine jd [] [] Y Y Y Y Y Y Y call26 (fun w hh => Qr o.own3 (qA l_2.2.2.1.q) l_2.2.2.1.n l_2.2.2.1.cap (qA l_2.2.2.2.1.q) l_2.2.2.2.1.n l_2.2.2.2.1.cap (qA l_2.2.2.2.2.1.q) l_2.2.2.2.2.1.n l_2.2.2.2.2.1.cap w (HV.callee (S0 := []) (vs0 := []) hh (roC (hh.vsepA 0 Y h9) (roC (hh.vsepA 1 Y h10) (roC (hh.vsepA 2 Y h11) roN)))) (vlen RI h9 Y) (AOK.q (vne h9)) (h9).hle (vlen RSa h10 Y) (AOK.q (vne h10)) (h10).hle (vlen RSi h11 Y) (AOK.q (vne h11)) (h11).hle h114) (fun l_16 h115 => ?_)
  refine jk Y Y (JB Y Y Y (JB Y Y Y (jp Y Y (jp Y Y (qs (Jp [_, _, _, _, _] 1 isAgg26 sizeOf26 Y Y Y Y ?_))))))
  obtain ⟨t45, h116, hm⟩ := bindO hm
  refine jd [] [] Y Y Y Y Y Y Y call27 (fun w hh => Zb o.own3 (qA l_2.2.2.1.q) l_2.2.2.1.n l_2.2.2.1.cap (qA l_2.2.2.2.1.q) l_2.2.2.2.1.n l_2.2.2.2.1.cap (qA l_2.2.2.2.2.1.q) l_2.2.2.2.2.1.n l_2.2.2.2.2.1.cap w (HV.callee (S0 := []) (vs0 := []) hh (roC (hh.vsepA 0 Y h9) (roC (hh.vsepA 1 Y h10) (roC (hh.vsepA 2 Y h11) roN)))) (vlen RI h9 Y) (AOK.q (vne h9)) (h9).hle (vlen RSa h10 Y) (AOK.q (vne h10)) (h10).hle (vlen RSi h11 Y) (AOK.q (vne h11)) (h11).hle h116) (fun l_17 h117 => ?_)
  obtain ⟨h118, h119⟩ := h117
  refine k3 (S' := [_, _, _]) (vs' := [_, _, _, _, _, _, _]) [0, 1, 2] [0, 1, 2, 3, 4, 5, 6] 0 Y Y Y Y (jk Y Y (JB Y Y Y (JB Y Y Y (jp Y Y (jp Y Y (qs (Jp [_, _, _, _, _] 1 isAgg26 sizeOf26 Y Y Y Y ?_)))))))
  obtain ⟨t50, h120, hm⟩ := bindO hm
  refine jd [] [] Y Y Y Y Y Y Y call28 (fun w hh => QJ o.own3 (qA l_2.2.2.1.q) l_2.2.2.1.n l_2.2.2.1.cap (qA l_2.2.2.2.1.q) l_2.2.2.2.1.n l_2.2.2.2.1.cap (qA l_2.2.2.2.2.1.q) l_2.2.2.2.2.1.n l_2.2.2.2.2.1.cap w (HV.callee (S0 := []) (vs0 := []) hh (roC (hh.vsepA 1 Y h9) (roC (hh.vsepA 2 Y h10) (roC (hh.vsepA 3 Y h11) roN)))) (vlen RI h9 Y) (AOK.q (vne h9)) (h9).hle (vlen RSa h10 Y) (AOK.q (vne h10)) (h10).hle (vlen RSi h11 Y) (AOK.q (vne h11)) (h11).hle h120) (fun l_18 h121 => ?_)
  obtain ⟨h122, h123⟩ := h121
  refine k3 (S' := [_, _, _]) (vs' := [_, _, _, _, _, _, _, _]) [0, 1, 2] [0, 1, 2, 3, 4, 5, 6, 7] 0 Y Y Y Y (jk Y Y (JB Y Y Y (JB Y Y Y (JB Y Y Y (jp Y Y (jp Y Y (jp Y Y ?_)))))))
  refine jq (jh (jh ?_))
  obtain ⟨o_2, h124, h125⟩ := bindO hm
  refine jI (ι := Unit) (fun l_19 => True) (fun l_19 => [(1, ptr b 0), (3, ptr l_2.1 0), (4, ptr l_2.2.1 0), (6, .int .i64 o_1.u6), (8, .int .i64 o_1.few8), (11, sL l_17.v), (13, sL l_18.v), (88, .bool o_2)]) (fun l_19 => [kc b #[.int .i64 c0.cells, .int .i64 c0.tides, .slice qa0 na0 ca0, .slice qa1 na1 ca1, .slice qa2 na2 ca2] 26, kc l_2.1 #[.int .i64 o.own3.cells, .int .i64 o.own3.tides, sL l_2.2.2.1, sL l_2.2.2.2.1, sL l_2.2.2.2.2.1] 26, kc l_2.2.1 #[.int .i64 o.x4.cells, .int .i64 o.x4.tides, sL l_2.2.2.2.2.2.1, sL l_2.2.2.2.2.2.2.1, sL l_2.2.2.2.2.2.2.2] 33]) (fun l_19 => [⟨22, RwH.enc l_17.rs, l_17.v.sp, l_17.v.q, dbl 3 RI t45.r0 l_17.rs⟩, ⟨22, RwH.enc l_18.rs, l_18.v.sp, l_18.v.q, dbl 3 RI t50.r0 l_18.rs⟩, vL 3 l_2.2.2.1 (RI.enc o.own3.fords), vL 98 l_2.2.2.2.1 (RSa.enc o.own3.sands), vL 55 l_2.2.2.2.2.1 (RSi.enc o.own3.sights), vL 3 l_2.2.2.2.2.2.1 (RI.enc o.x4.fords), vL 138 l_2.2.2.2.2.2.2.1 (RSa.enc o.x4.sands), vL 139 l_2.2.2.2.2.2.2.2 (RSi.enc o.x4.sights)]) ?_ ?_
  ·replace hm := h124
   refine jg (jk Y Y (jk Y Y (jc Y Y Y (fun _ _ => Jr Y Y) (jk Y Y ?_))))
   refine jQ 57 Y (fun h126 => ?_) (fun h126 => ?_)
   ·replace hm := ifF (of_ndec_true h126) hm
    refine g_k Y Y Y Y (g_k Y Y Y Y (g_k Y Y Y Y (yx Y Y Y (jk Y Y (g_k Y Y Y Y (g_k Y Y Y Y (g_k Y Y Y Y ?_)))))))
    refine yx Y Y Y (jk Y Y (g_k Y Y Y Y (g_k Y Y Y Y (g_k Y Y Y Y (yx Y Y Y (jk Y Y (g_k Y Y Y Y ?_)))))))
    refine g_k Y Y Y Y (g_k Y Y Y Y (yx Y Y Y (jk Y Y (g_k Y Y Y Y (g_k Y Y Y Y (g_k Y Y Y Y ?_))))))
    refine jU Y Y Y Y Y ?_
    refine jU Y Y Y Y Y ?_
    refine jU Y Y Y Y Y ?_
    refine jU Y Y Y Y Y ?_
    refine jU Y Y Y Y Y ?_
    refine jU Y Y Y Y Y ?_
    refine g_k Y Y Y Y (yx Y Y Y (ju ?_))
    obtain rfl := sj hm
    exact jj () (trivial) (sE Y) (hsE [0, 1, 2] [1, 0, 2, 3, 4, 5, 6, 7] 0 Y Y Y Y)
   replace hm := ifT (of_ndec_false h126) hm
   refine jb Y Y (jk Y Y (jb Y Y (jk Y Y (jb Y Y (jc Y Y Y (fun _ _ => Jr Y Y) (y4 Y Y Y (jk Y Y ?_)))))))
   refine jQ 62 Y (fun h127 => ?_) (fun h127 => ?_)
   ·replace hm := ifF (of_ndec_true h127) hm
    refine g_k Y Y Y Y (g_k Y Y Y Y (g_k Y Y Y Y (yx Y Y Y (jk Y Y (g_k Y Y Y Y (g_k Y Y Y Y (g_k Y Y Y Y ?_)))))))
    refine yx Y Y Y (jk Y Y (g_k Y Y Y Y (g_k Y Y Y Y (g_k Y Y Y Y (yx Y Y Y (jk Y Y (g_k Y Y Y Y ?_)))))))
    refine g_k Y Y Y Y (g_k Y Y Y Y ?_)
    refine jU Y Y Y Y Y ?_
    refine jU Y Y Y Y Y ?_
    refine jU Y Y Y Y Y ?_
    refine jU Y Y Y Y Y ?_
    refine jU Y Y Y Y Y ?_
    refine jU Y Y Y Y Y ?_
    refine g_k Y Y Y Y (yx Y Y Y (ju ?_))
    obtain rfl := sj hm
    exact jj () (trivial) (sE Y) (hsE [0, 1, 2] [1, 0, 2, 3, 4, 5, 6, 7] 0 Y Y Y Y)
   replace hm := ifT (of_ndec_false h127) hm
   refine jb Y Y (jk Y Y (jb Y Y (jk Y Y (jb Y Y (jc Y Y Y (fun _ _ => Jr Y Y) (y4 Y Y Y (jk Y Y ?_)))))))
   refine jQ 67 Y (fun h128 => ?_) (fun h128 => ?_)
   ·replace hm := ifF (of_ndec_true h128) hm
    refine g_k Y Y Y Y (g_k Y Y Y Y (g_k Y Y Y Y (yx Y Y Y (jk Y Y (g_k Y Y Y Y (g_k Y Y Y Y (g_k Y Y Y Y ?_)))))))
    refine yx Y Y Y (jk Y Y (g_k Y Y Y Y (g_k Y Y Y Y (g_k Y Y Y Y ?_))))
    refine jU Y Y Y Y Y ?_
    refine jU Y Y Y Y Y ?_
    refine jU Y Y Y Y Y ?_
    refine jU Y Y Y Y Y ?_
    refine jU Y Y Y Y Y ?_
    refine jU Y Y Y Y Y ?_
    refine g_k Y Y Y Y (yx Y Y Y (ju ?_))
    obtain rfl := sj hm
    exact jj () (trivial) (sE Y) (hsE [0, 1, 2] [1, 0, 2, 3, 4, 5, 6, 7] 0 Y Y Y Y)
   replace hm := ifT (of_ndec_false h128) hm
   refine jb Y Y (jk Y Y (jb Y Y (jk Y Y (jb Y Y (jc Y Y Y (fun _ _ => Jr Y Y) (y4 Y Y Y (jk Y Y ?_)))))))
   refine jQ 72 Y (fun h129 => ?_) (fun h129 => ?_)
   ·replace hm := ifF (of_ndec_true h129) hm
    refine g_k Y Y Y Y (g_k Y Y Y Y (g_k Y Y Y Y (yx Y Y Y (jk Y Y (g_k Y Y Y Y (g_k Y Y Y Y (g_k Y Y Y Y ?_)))))))
    refine jU Y Y Y Y Y ?_
    refine jU Y Y Y Y Y ?_
    refine jU Y Y Y Y Y ?_
    refine jU Y Y Y Y Y ?_
    refine jU Y Y Y Y Y ?_
    refine jU Y Y Y Y Y ?_
    refine g_k Y Y Y Y (yx Y Y Y (ju ?_))
    obtain rfl := sj hm
    exact jj () (trivial) (sE Y) (hsE [0, 1, 2] [1, 0, 2, 3, 4, 5, 6, 7] 0 Y Y Y Y)
   replace hm := ifT (of_ndec_false h129) hm
   refine jb Y Y (jk Y Y (jb Y Y (jk Y Y (jb Y Y (jc Y Y Y (fun _ _ => Jr Y Y) (y4 Y Y Y (jk Y Y ?_)))))))
   refine jQ 77 Y (fun h130 => ?_) (fun h130 => ?_)
   ·replace hm := ifF (of_ndec_true h130) hm
    refine g_k Y Y Y Y (g_k Y Y Y Y (g_k Y Y Y Y ?_))
    refine jU Y Y Y Y Y ?_
    refine jU Y Y Y Y Y ?_
    refine jU Y Y Y Y Y ?_
    refine jU Y Y Y Y Y ?_
    refine jU Y Y Y Y Y ?_
    refine jU Y Y Y Y Y ?_
    refine g_k Y Y Y Y (yx Y Y Y (ju ?_))
    obtain rfl := sj hm
    exact jj () (trivial) (sE Y) (hsE [0, 1, 2] [1, 0, 2, 3, 4, 5, 6, 7] 0 Y Y Y Y)
   replace hm := ifT (of_ndec_false h130) hm
   refine jb Y Y (jk Y Y (jb Y Y (jc Y Y Y (fun _ _ => Jr Y Y) (jb Y Y (jk Y Y ?_)))))
   refine jQ 80 Y (fun h131 => ?_) (fun h131 => ?_)
   ·replace hm := ifF (of_ndec_true h131) hm
    refine jb Y Y (jk Y Y (jb Y Y (jc Y Y Y (fun w _ => Jh (Eq.trans (h119).len (vlen RwH h118 Y)) (runUnderlying41 w) Y) (jb Y Y (jk Y Y (jb Y Y (jc Y Y Y (fun w _ => Jh (Eq.trans (h123).len (vlen RwH h122 Y)) (runUnderlying41 w) Y) ?_)))))))
    refine jb Y Y ?_
    obtain ⟨t85, h132, hm⟩ := bindO hm
    refine JG h132 Y Y Y (jb Y Y (jc Y Y Y (fun _ _ => Qz Y Y) (jb Y Y (yx Y Y Y (y4 Y Y Y (ju ?_))))))
    obtain rfl := sj hm
    exact jj () (trivial) (sE Y) (hsE [0, 1, 2] [1, 0, 2, 3, 4, 5, 6, 7] 0 Y Y Y Y)
   replace hm := ifT (of_ndec_false h131) hm
   refine g_k Y Y Y Y (g_k Y Y Y Y (g_k Y Y Y Y (g_k Y Y Y Y (g_k Y Y Y Y (g_k Y Y Y Y (jb Y Y (y4 Y Y Y ?_)))))))
   refine y4 Y Y Y (ju ?_)
   obtain rfl := sj hm
   exact jj () (trivial) (sE Y) (hsE [0, 1, 2] [1, 0, 2, 3, 4, 5, 6, 7] 0 Y Y Y Y)
  intro l_19 hj
  replace hm := h125
  refine ja ?_
  refine jr Y (fun h133 => ?_) (fun h133 => ?_)
  ·replace hm := ifT (h133) hm
   refine jt (jp Y Y (jq (jz (je ?_))))
   obtain rfl := sj hm
   refine jn Y (fun w hh => (.tmp Y .nil)) (fun w hh => ⟨(), rfl, trivial, hh.se [] [] 3 Y Y Y rfl⟩)
  replace hm := ifN h133 hm
  refine js (ja (jh ?_))
  obtain ⟨o_3, h134, h135⟩ := bindO hm
  refine jI (ι := Unit) (fun j => o_3 = .inl j) (fun j => [(1, ptr b 0), (3, ptr l_2.1 0)]) (fun j => [kc b #[.int .i64 c0.cells, .int .i64 c0.tides, .slice qa0 na0 ca0, .slice qa1 na1 ca1, .slice qa2 na2 ca2] 26, kc l_2.1 #[.int .i64 o.own3.cells, .int .i64 o.own3.tides, sL l_2.2.2.1, sL l_2.2.2.2.1, sL l_2.2.2.2.2.1] 26, kc l_2.2.1 #[.int .i64 o.x4.cells, .int .i64 o.x4.tides, sL l_2.2.2.2.2.2.1, sL l_2.2.2.2.2.2.2.1, sL l_2.2.2.2.2.2.2.2] 33]) (fun j => [vL 3 l_2.2.2.1 (RI.enc o.own3.fords), vL 98 l_2.2.2.2.1 (RSa.enc o.own3.sands), vL 55 l_2.2.2.2.2.1 (RSi.enc o.own3.sights), vL 3 l_2.2.2.2.2.2.1 (RI.enc o.x4.fords), vL 138 l_2.2.2.2.2.2.2.1 (RSa.enc o.x4.sands), vL 139 l_2.2.2.2.2.2.2.2 (RSi.enc o.x4.sights)]) ?_ ?_
  ·replace hm := h134
   refine jt (jk Y Y (jc Y Y Y (fun _ _ => Ju Y Y) (jq ?_)))
   refine jr Y (fun h136 => ?_) (fun h136 => ?_)
   ·replace hm := ifD h136 hm
    refine jh (jh ?_)
    obtain ⟨o_4, h137, h138⟩ := bindO hm
    refine jI (ι := Unit) (fun l_20 => True) (fun l_20 => [(1, ptr b 0), (3, ptr l_2.1 0), (8, .int .i64 o_1.few8), (13, sL l_18.v), (100, .bool o_4)]) (fun l_20 => [kc b #[.int .i64 c0.cells, .int .i64 c0.tides, .slice qa0 na0 ca0, .slice qa1 na1 ca1, .slice qa2 na2 ca2] 26, kc l_2.1 #[.int .i64 o.own3.cells, .int .i64 o.own3.tides, sL l_2.2.2.1, sL l_2.2.2.2.1, sL l_2.2.2.2.2.1] 26, kc l_2.2.1 #[.int .i64 o.x4.cells, .int .i64 o.x4.tides, sL l_2.2.2.2.2.2.1, sL l_2.2.2.2.2.2.2.1, sL l_2.2.2.2.2.2.2.2] 33]) (fun l_20 => [⟨22, RwH.enc l_18.rs, l_18.v.sp, l_18.v.q, dbl 3 RI t50.r0 l_18.rs⟩, vL 3 l_2.2.2.1 (RI.enc o.own3.fords), vL 98 l_2.2.2.2.1 (RSa.enc o.own3.sands), vL 55 l_2.2.2.2.2.1 (RSi.enc o.own3.sights), vL 3 l_2.2.2.2.2.2.1 (RI.enc o.x4.fords), vL 138 l_2.2.2.2.2.2.2.1 (RSa.enc o.x4.sands), vL 139 l_2.2.2.2.2.2.2.2 (RSi.enc o.x4.sights)]) ?_ ?_
    ·replace hm := h137
     refine jg (Jp [_, _, _, _, _] 2 isAgg33 sizeOf33 Y Y Y Y (jk Y Y ?_))
     obtain ⟨t93, h139, hm⟩ := bindO hm
     refine jd [] [] Y Y Y Y Y Y Y call29 (fun w hh => Qo o.x4 t45.r0 (qA l_2.2.2.2.2.2.1.q) l_2.2.2.2.2.2.1.n l_2.2.2.2.2.2.1.cap (qA l_2.2.2.2.2.2.2.1.q) l_2.2.2.2.2.2.2.1.n l_2.2.2.2.2.2.2.1.cap (qA l_2.2.2.2.2.2.2.2.q) l_2.2.2.2.2.2.2.2.n l_2.2.2.2.2.2.2.2.cap (qA l_17.v.q) l_17.v.n l_17.v.cap (toAL l_17.rs) w (HV.callee (S0 := []) (vs0 := []) hh (roC (hh.vsepA 5 Y h12) (roC (hh.vsepA 6 Y h13) (roC (hh.vsepA 7 Y h14) (roC (hh.vsepD 0 Y h118) roN))))) (vlen RI h12 Y) (AOK.q (vne h12)) (h12).hle (vlen RSa h13 Y) (AOK.q (vne h13)) (h13).hle (vlen RSi h14 Y) (AOK.q (vne h14)) (h14).hle (Eq.trans (h119).len (vlen RwH h118 Y)) (AOK.q (vne h118)) (h118).hle ((h119).toDRO Y) (hh.dsepT 0 Y h119) h139) (fun l_21 h140 => ?_)
     refine jc Y Y Y (fun _ _ => ze Y) (jk Y Y ?_)
     refine jQ 95 Y (fun h141 => ?_) (fun h141 => ?_)
     ·replace hm := ifT (h141) hm
      refine g_k Y Y Y Y (g_k Y Y Y Y (g_k Y Y Y Y (g_k Y Y Y Y (yx Y Y Y (ju ?_)))))
      obtain rfl := sj hm
      exact jj () (trivial) (sE Y) (hsE [0, 1, 2] [1, 2, 3, 4, 5, 6, 7] 0 Y Y Y Y)
     replace hm := ifN h141 hm
     refine jb Y Y (Jp [_, _, _, _, _] 2 isAgg33 sizeOf33 Y Y Y Y (jb Y Y (jk Y Y (jb Y Y ?_))))
     obtain ⟨t98, h142, hm⟩ := bindO hm
     refine jd [] [] Y Y Y Y Y Y Y call29 (fun w hh => Qo o.x4 t50.r0 (qA l_2.2.2.2.2.2.1.q) l_2.2.2.2.2.2.1.n l_2.2.2.2.2.2.1.cap (qA l_2.2.2.2.2.2.2.1.q) l_2.2.2.2.2.2.2.1.n l_2.2.2.2.2.2.2.1.cap (qA l_2.2.2.2.2.2.2.2.q) l_2.2.2.2.2.2.2.2.n l_2.2.2.2.2.2.2.2.cap (qA l_18.v.q) l_18.v.n l_18.v.cap (toAL l_18.rs) w (HV.callee (S0 := []) (vs0 := []) hh (roC (hh.vsepA 5 Y h12) (roC (hh.vsepA 6 Y h13) (roC (hh.vsepA 7 Y h14) (roC (hh.vsepD 1 Y h122) roN))))) (vlen RI h12 Y) (AOK.q (vne h12)) (h12).hle (vlen RSa h13 Y) (AOK.q (vne h13)) (h13).hle (vlen RSi h14 Y) (AOK.q (vne h14)) (h14).hle (Eq.trans (h123).len (vlen RwH h122 Y)) (AOK.q (vne h122)) (h122).hle ((h123).toDRO Y) (hh.dsepT 1 Y h123) h142) (fun l_22 h143 => ?_)
     refine jb Y Y (jc Y Y Y (fun _ _ => ze Y) (y4 Y Y Y (ju ?_)))
     obtain rfl := sj hm
     exact jj () (trivial) (sE Y) (hsE [0, 1, 2] [1, 2, 3, 4, 5, 6, 7] 0 Y Y Y Y)
    intro l_20 hj
    replace hm := h138
    refine ja ?_
    refine jr Y (fun h144 => ?_) (fun h144 => ?_)
    ·replace hm := ifT (h144) hm
     refine jt (jp Y Y (jq (jz (je ?_))))
     obtain rfl := sj hm
     refine je ?_
     replace hm := ocR h135
     refine je ?_
     obtain rfl := sj hm
     refine jn Y (fun w hh => (.tmp Y .nil)) (fun w hh => ⟨(), rfl, trivial, hh.se [] [] 3 Y Y Y rfl⟩)
    replace hm := ifN h144 hm
    refine js (ja (jt (jp Y Y (jq (jh (jt (jk Y Y ?_)))))))
    refine jc Y Y Y (fun w _ => Jh (Eq.trans (h123).len (vlen RwH h122 Y)) (runUnderlying41 w) Y) (jk Y Y (jq ?_))
    obtain ⟨o_5, h145, h146⟩ := bindO hm
    refine jI (ι := Unit) (fun l_23 => True) (fun l_23 => [(1, ptr b 0), (3, ptr l_2.1 0), (8, .int .i64 o_1.few8), (16, .int .i64 o_5)]) (fun l_23 => [kc b #[.int .i64 c0.cells, .int .i64 c0.tides, .slice qa0 na0 ca0, .slice qa1 na1 ca1, .slice qa2 na2 ca2] 26, kc l_2.1 #[.int .i64 o.own3.cells, .int .i64 o.own3.tides, sL l_2.2.2.1, sL l_2.2.2.2.1, sL l_2.2.2.2.2.1] 26, kc l_2.2.1 #[.int .i64 o.x4.cells, .int .i64 o.x4.tides, sL l_2.2.2.2.2.2.1, sL l_2.2.2.2.2.2.2.1, sL l_2.2.2.2.2.2.2.2] 33]) (fun l_23 => [vL 3 l_2.2.2.1 (RI.enc o.own3.fords), vL 98 l_2.2.2.2.1 (RSa.enc o.own3.sands), vL 55 l_2.2.2.2.2.1 (RSi.enc o.own3.sights), vL 3 l_2.2.2.2.2.2.1 (RI.enc o.x4.fords), vL 138 l_2.2.2.2.2.2.2.1 (RSa.enc o.x4.sands), vL 139 l_2.2.2.2.2.2.2.2 (RSi.enc o.x4.sights)]) ?_ ?_
    ·replace hm := h145
     refine jm ?_
     refine jM (ι := Unit) hm (fun s l_24 => True) (fun s l_24 => [(1, ptr b 0), (3, ptr l_2.1 0), (8, .int .i64 o_1.few8), (13, sL l_18.v), (16, .int .i64 s.sum16), (102, .int .i64 (t50.r0.length : Int)), (103, .int .i64 s.t103)]) (fun s l_24 => [kc b #[.int .i64 c0.cells, .int .i64 c0.tides, .slice qa0 na0 ca0, .slice qa1 na1 ca1, .slice qa2 na2 ca2] 26, kc l_2.1 #[.int .i64 o.own3.cells, .int .i64 o.own3.tides, sL l_2.2.2.1, sL l_2.2.2.2.1, sL l_2.2.2.2.2.1] 26, kc l_2.2.1 #[.int .i64 o.x4.cells, .int .i64 o.x4.tides, sL l_2.2.2.2.2.2.1, sL l_2.2.2.2.2.2.2.1, sL l_2.2.2.2.2.2.2.2] 33]) (fun s l_24 => [⟨22, RwH.enc l_18.rs, l_18.v.sp, l_18.v.q, dbl 3 RI t50.r0 l_18.rs⟩, vL 3 l_2.2.2.1 (RI.enc o.own3.fords), vL 98 l_2.2.2.2.1 (RSa.enc o.own3.sands), vL 55 l_2.2.2.2.2.1 (RSi.enc o.own3.sights), vL 3 l_2.2.2.2.2.2.1 (RI.enc o.x4.fords), vL 138 l_2.2.2.2.2.2.2.1 (RSa.enc o.x4.sands), vL 139 l_2.2.2.2.2.2.2.2 (RSi.enc o.x4.sights)]) () (trivial) (sE Y) (fun w hh => hh) (fun s l_24 r hpl hm h147 => ?_)
     unfold j4 at hm
     refine jt (Jo Y Y Y (jq (jh ?_)))
     refine jr Y (fun h148 => ?_) (fun h148 => ?_)
     ·replace hm := ifD h148 hm
      refine js (ja (jh ?_))
      obtain ⟨o_6, h149, h150⟩ := bindO hm
      refine jI (ι := Unit) (fun l_25 => True) (fun l_25 => [(1, ptr b 0), (3, ptr l_2.1 0), (8, .int .i64 o_1.few8), (13, sL l_18.v), (16, .int .i64 o_6), (102, .int .i64 (t50.r0.length : Int)), (103, .int .i64 s.t103)]) (fun l_25 => [kc b #[.int .i64 c0.cells, .int .i64 c0.tides, .slice qa0 na0 ca0, .slice qa1 na1 ca1, .slice qa2 na2 ca2] 26, kc l_2.1 #[.int .i64 o.own3.cells, .int .i64 o.own3.tides, sL l_2.2.2.1, sL l_2.2.2.2.1, sL l_2.2.2.2.2.1] 26, kc l_2.2.1 #[.int .i64 o.x4.cells, .int .i64 o.x4.tides, sL l_2.2.2.2.2.2.1, sL l_2.2.2.2.2.2.2.1, sL l_2.2.2.2.2.2.2.2] 33]) (fun l_25 => [⟨22, RwH.enc l_18.rs, l_18.v.sp, l_18.v.q, dbl 3 RI t50.r0 l_18.rs⟩, vL 3 l_2.2.2.1 (RI.enc o.own3.fords), vL 98 l_2.2.2.2.1 (RSa.enc o.own3.sands), vL 55 l_2.2.2.2.2.1 (RSi.enc o.own3.sights), vL 3 l_2.2.2.2.2.2.1 (RI.enc o.x4.fords), vL 138 l_2.2.2.2.2.2.2.1 (RSa.enc o.x4.sands), vL 139 l_2.2.2.2.2.2.2.2 (RSi.enc o.x4.sights)]) ?_ ?_
      ·replace hm := h149
       refine jm (jt (jk Y Y (jp Y Y (qs (jk Y Y (jc Y Y Y (fun _ _ => Qz Y Y) (jq ?_)))))))
       refine jr Y (fun h151 => ?_) (fun h151 => ?_)
       ·replace hm := ifD h151 hm
        refine j5 none (.free 0 (.free 1 (.free 2 (.free 3 (.free 4 (.hoist 5 (.free 6 (.free 7 (.free 8 (.hoist 9 (.one 10 (.free 11 (.free 12 .done))))))))))))) _ Y (by decide +kernel) (fun w k hh => hh.draw k) (fun w hh => hh) ?_
        refine k9 Y Y Y (k9 Y Y Y (k9 Y Y Y ?_))
        obtain ⟨t111, h152, hm⟩ := bindO hm
        refine jl Y Y Y Y (fun _ _ => yX h152 Y Y) ?_
        obtain ⟨t112, h153, hm⟩ := bindO hm
        obtain ⟨L_33, h154, h155⟩ := (h123).row h153
        refine jl Y Y Y Y (fun w _ => qM h154 (runUnderlying41 w) (sizeOf22 w) Y Y (vlen RwH h122 Y) (vne h122)) (jw Y Y Y Y (fun w hh => ka RwH 0 h154 (isAgg22 w) Y (hh.vseg 0 Y h122) Y (Nat.add_zero _).symm) (k9 Y Y Y (k9 Y Y Y ?_)))
        obtain ⟨t116, h156, hm⟩ := bindO hm
        obtain ⟨L_34, h157, h158⟩ := (h123).row h156
        refine jl Y Y Y Y (fun w _ => qM h157 (runUnderlying41 w) (sizeOf22 w) Y Y (vlen RwH h122 Y) (vne h122)) (jw Y Y Y Y (fun w hh => ka RwH 0 h157 (isAgg22 w) Y (hh.vseg 0 Y h122) Y (Nat.add_zero _).symm) (jF Y ?_))
        obtain ⟨t118, h159, hm⟩ := bindO hm
        refine jd [] [] Y Y Y Y Y Y Y call30 (fun w hh => K6 t112 t116 (qA L_33.q) L_33.n L_33.cap (qA L_34.q) L_34.n L_34.cap w (HV.callee (S0 := []) (vs0 := []) hh (roC (hh.dsepA (S0 := []) (vs0 := []) 0 Y h153 h154 h155) (roC (hh.dsepA (S0 := []) (vs0 := []) 0 Y h156 h157 h158) roN))) (vlen RI h155 Y) (AOK.q (vne h155)) (h155).hle (vlen RI h158 Y) (AOK.q (vne h158)) (h158).hle h159) (fun l_26 h160 => ?_)
        refine jo (fun w hh => hh) ?_
        obtain ⟨t119, h161, hm⟩ := bindO hm
        refine jl Y Y Y Y (fun _ _ => Kh h161 Y Y) (jl Y Y Y Y (fun _ _ => kx Y) (jG (jx ?_)))
        obtain rfl := sj hm
        exact jj () (trivial) (sE Y) (fun w hh => hh)
       replace hm := ifE h151 hm
       refine js (jx ?_)
       obtain rfl := sj hm
       exact jj () (trivial) (sE Y) (fun w hh => hh)
      intro l_25 hj
      replace hm := h150
      refine ja (jg ?_)
      obtain ⟨t120, h162, hm⟩ := bindO hm
      refine JG h162 Y Y Y (jk Y Y (ju ?_))
      obtain rfl := sj hm
      refine ja ?_
      exact jC _ () Y (trivial) (sE Y) (fun w hh => hh)
     replace hm := ifE h148 hm
     refine jS (ji (ji (jD ?_)))
     obtain rfl := sj hm
     have hbo := h147 _ Y
     subst hbo
     exact jj () (trivial) (sE Y) (hsE [0, 1, 2] [1, 2, 3, 4, 5, 6] 0 Y Y Y Y)
    intro l_23 hj
    replace hm := h146
    refine ja (jt (jk Y Y (jk Y Y (jc Y Y Y (fun _ _ => Jr Y Y) (jq ?_)))))
    refine jr Y (fun h163 => ?_) (fun h163 => ?_)
    ·replace hm := ifF (of_ndec_true h163) hm
     refine jt (jp Y Y (jq (jz ?_)))
     obtain rfl := sj hm
     refine je ?_
     replace hm := ocR h135
     refine je ?_
     obtain rfl := sj hm
     refine jn Y (fun w hh => (.tmp Y .nil)) (fun w hh => ⟨(), rfl, trivial, hh.se [] [] 3 Y Y Y rfl⟩)
    replace hm := ifT (of_ndec_false h163) hm
    refine js ?_
    obtain rfl := sj hm
    exact jj () (Y) (sE Y) (fun w hh => hh)
   replace hm := ifE h136 hm
   refine js ?_
   obtain rfl := sj hm
   exact jj () (Y) (sE Y) (hsE [0, 1, 2] [2, 3, 4, 5, 6, 7] 0 Y Y Y Y)
  intro j hj
  have h164 := hj
  subst h164
  replace hm := ocL h135
  refine ja (jh ?_)
  obtain ⟨o_7, h165, h166⟩ := bindO hm
  refine jI (ι := Unit) (fun l_27 => True) (fun l_27 => [(2, .bool o_7)]) (fun l_27 => [kc b #[.int .i64 c0.cells, .int .i64 c0.tides, .slice qa0 na0 ca0, .slice qa1 na1 ca1, .slice qa2 na2 ca2] 26, kc l_2.1 #[.int .i64 o.own3.cells, .int .i64 o.own3.tides, sL l_2.2.2.1, sL l_2.2.2.2.1, sL l_2.2.2.2.2.1] 26, kc l_2.2.1 #[.int .i64 o.x4.cells, .int .i64 o.x4.tides, sL l_2.2.2.2.2.2.1, sL l_2.2.2.2.2.2.2.1, sL l_2.2.2.2.2.2.2.2] 33]) (fun l_27 => [vL 3 l_2.2.2.1 (RI.enc o.own3.fords), vL 98 l_2.2.2.2.1 (RSa.enc o.own3.sands), vL 55 l_2.2.2.2.2.1 (RSi.enc o.own3.sights), vL 3 l_2.2.2.2.2.2.1 (RI.enc o.x4.fords), vL 138 l_2.2.2.2.2.2.2.1 (RSa.enc o.x4.sands), vL 139 l_2.2.2.2.2.2.2.2 (RSi.enc o.x4.sights)]) ?_ ?_
  ·replace hm := h165
   refine jg (Jp [_, _, _, _, _] 1 isAgg26 sizeOf26 Y Y Y Y (Jp [_, _, _, _, _] 0 isAgg26 sizeOf26 Y Y Y Y ?_))
   obtain ⟨t126, h167, hm⟩ := bindO hm
   refine jd [] [] Y Y Y Y Y Y Y call31 (fun w hh => Yt o.own3 c0 (qA l_2.2.2.1.q) l_2.2.2.1.n l_2.2.2.1.cap (qA l_2.2.2.2.1.q) l_2.2.2.2.1.n l_2.2.2.2.1.cap (qA l_2.2.2.2.2.1.q) l_2.2.2.2.2.1.n l_2.2.2.2.2.1.cap qa0 na0 ca0 qa1 na1 ca1 qa2 na2 ca2 w (HV.callee (S0 := []) (vs0 := []) hh (roC (hh.vsepA 0 Y h9) (roC (hh.vsepA 1 Y h10) (roC (hh.vsepA 2 Y h11) (roR hh 0 Y (roR hh 1 Y (roR hh 2 Y roN))))))) (vlen RI h9 Y) (AOK.q (vne h9)) (h9).hle (vlen RSa h10 Y) (AOK.q (vne h10)) (h10).hle (vlen RSi h11 Y) (AOK.q (vne h11)) (h11).hle hna0 hqa0 hla0 hna1 hqa1 hla1 hna2 hqa2 hla2 h167) (fun l_28 h168 => ?_)
   refine jk Y Y ?_
   refine jQ 127 Y (fun h169 => ?_) (fun h169 => ?_)
   ·replace hm := ifT (h169) hm
    refine jb Y Y ?_
    obtain ⟨t128, h170, hm⟩ := bindO hm
    refine jd [] [] Y Y Y Y Y Y Y call19 (fun w hh => KZ  w (HV.callee (S0 := []) (vs0 := []) hh roN)  h170) (fun l_29 h171 => ?_)
    refine yx Y Y Y (jp Y Y (ju ?_))
    obtain rfl := sj hm
    exact jj () (trivial) (sE Y) (fun w hh => hh)
   replace hm := ifN h169 hm
   refine g_k Y Y Y Y (y4 Y Y Y (jp Y Y (ju ?_)))
   obtain rfl := sj hm
   exact jj () (trivial) (sE Y) (fun w hh => hh)
  intro l_27 hj
  replace hm := h166
  refine ja (jz ?_)
  obtain rfl := sj hm
  refine jn Y (fun w hh => (.tmp Y .nil)) (fun w hh => ⟨(), rfl, trivial, hh.se [] [] 3 Y Y Y rfl⟩)
end Go.Proofs.Wb

namespace Go.Gx
open Go
theorem eq_loop {α : Type} [DecidableEq α] {a b : List α} (d : α) (hl : a.length = b.length) (hn : a.length < 1000000) {f : Int → Option (Int ⊕ (Unit ⊕ Bool))}
    (hf : ∀ s, f s = if s < (a.length : Int) then ((ix a s).bind fun x => (ix b s).bind fun y => if x = y then ((addc s 1).bind fun k => some (.inl k)) else some (.inr (.inr false))) else some (.inr (.inl ()))) :
    ((iterM FU f 0).bind fun o => oc o (fun _ => (some true : Option Bool)) (fun r => some r)) = some (decide (a = b)) := by
  have key := iterM_any0 (f := f) a.length (fun k => decide (¬ a.getD k d = b.getD k d)) false (fun k hk => by
    rw [hf, if_pos (by omega), ix_nat d hk, Option.bind_some, ix_nat d (by omega), Option.bind_some]
    by_cases h : a.getD k d = b.getD k d
    · rw [if_pos h, addc_eq (by omega), Option.bind_some, if_neg (by simpa using h)]
    · rw [if_neg h, if_pos (by simpa using h)]) (by rw [hf, if_neg (by omega)]) (N := FU) (FU_lt (by omega))
  rw [key, Option.bind_some]
  by_cases h : a = b
  · subst h
    have : ((List.range a.length).any fun k => decide (¬ a.getD k d = a.getD k d)) = false := by
      rw [List.any_eq_false]; intro x _; simp
    rw [this]; simp
  · have : ((List.range a.length).any fun k => decide (¬ a.getD k d = b.getD k d)) = true := by
      cases h2 : ((List.range a.length).any fun k => decide (¬ a.getD k d = b.getD k d)) with
      | true => rfl
      | false =>
        exfalso
        apply h
        apply List.ext_getElem hl
        intro i hi hi'
        have h3 := List.any_eq_false.1 h2 i (by simpa using hi)
        simpa [List.getD_eq_getElem?_getD, hi, hi'] using h3
    rw [this]; simp [h]
end Go.Gx
namespace Go.Proofs.Wb
open Go Go.Fw Go.Gx Go.Sb
set_option linter.unusedVariables false
theorem jaj {a b : List Int} (hn : a.length < 1000000) : Kj a b = some (decide (a = b)) := by
  unfold Kj JJ
  by_cases h : a.length = b.length
  · rw [if_pos (by omega), eq_loop 0 h hn (f := JV a b) (fun s => rfl)]; rfl
  · rw [if_neg (by omega), Option.bind_some]
    congr 1
    symm
    rw [decide_eq_false_iff_not]
    intro e; exact h (by rw [e])
theorem ZY {a b : List Sand} (hn : a.length < 1000000) : zN a b = some (decide (a = b)) := by
  unfold zN k4
  by_cases h : a.length = b.length
  · rw [if_pos (by omega), eq_loop default h hn (f := qL a b) (fun s => rfl)]; rfl
  · rw [if_neg (by omega), Option.bind_some]
    congr 1
    symm
    rw [decide_eq_false_iff_not]
    intro e; exact h (by rw [e])
theorem ZR {a b : List Sight} (hn : a.length < 1000000) : zy a b = some (decide (a = b)) := by
  unfold zy kG
  by_cases h : a.length = b.length
  · rw [if_pos (by omega), eq_loop default h hn (f := qp a b) (fun s => rfl)]; rfl
  · rw [if_neg (by omega), Option.bind_some]
    congr 1
    symm
    rw [decide_eq_false_iff_not]
    intro e; exact h (by rw [e])
def Few (c : Channel) : Prop := c.fords.length ≤ 100 ∧ c.sands.length ≤ 100 ∧ c.sights.length ≤ 100
theorem jaA {a b : Channel} (h : Few a) : zt a b = some (decide (a = b)) := by
  unfold zt
  obtain ⟨h1, h2, h3⟩ := h
  rw [jaj (by omega), ZY (by omega), ZR (by omega)]
  simp only [Option.bind_some, decide_eq_true_eq]
  obtain ⟨a1, a2, a3, a4, a5⟩ := a
  obtain ⟨b1, b2, b3, b4, b5⟩ := b
  simp only [Channel.mk.injEq]
  by_cases e1 : a1 = b1
  · by_cases e2 : a2 = b2
    · by_cases e3 : a3 = b3
      · by_cases e4 : a4 = b4
        · simp [e1, e2, e3, e4]
        · simp [e1, e2, e3, e4]
      · simp [e1, e2, e3]
    · simp [e1, e2]
  · simp [e1]
theorem jad {l : List Int} (h : l.length ≤ 100000) : Kz l = some l := by
  unfold Kz
  rw [makec_eq (by omega), Option.bind_some, appc_eq (by simp; omega)]
  simp
theorem Own_eq {c : Channel} (h : Few c) : zJ c = some c := by
  obtain ⟨h1, h2, h3⟩ := h
  unfold zJ Jj zS
  rw [jad (by omega), makec_eq (by omega), makec_eq (by omega)]
  simp only [Option.bind_some]
  rw [appc_eq (by simp; omega), appc_eq (by simp; omega)]
  simp
theorem copy_loop {α σ : Type} {l : List α} (d : α) (by_ : Nat) (hb : l.length * by_ ≤ 100000000) (hn : l.length < 1000000) (mk : Int → List α → σ) {f : σ → Option (σ ⊕ List α)}
    (hf : ∀ i o, f (mk i o) = if i < (l.length : Int) then ((ix l i).bind fun x => (appc by_ o [x]).bind fun t => (addc i 1).bind fun k => some (.inl (mk k t))) else some (.inr o)) :
    iterM FU f (mk 0 []) = some l := by
  have key := iterM_run (f := f) (fun j => mk (j : Int) (l.take j)) l.length (b := l) (fun j hj => ?_) ?_ FU (FU_lt (by omega))
  · simpa using key
  · have e : l.take (j + 1) = l.take j ++ [l[j]] := by rw [List.take_append_getElem]
    have hx : l.getD j d = l[j] := by simp [List.getD_eq_getElem?_getD, hj]
    rw [hf, if_pos (by omega), ix_nat d hj, Option.bind_some, hx, appc_eq (by
      simp only [List.length_take, List.length_cons, List.length_nil]
      have : min j l.length + (0 + 1) ≤ l.length := by omega
      have := Nat.mul_le_mul_right by_ this
      omega), Option.bind_some, addc_eq (by omega), Option.bind_some, e]
    rfl
  · rw [hf, if_neg (by omega), List.take_length]
theorem theirs_eq {c : Channel} (h : Few c) : yO c = some c := by
  obtain ⟨h1, h2, h3⟩ := h
  unfold yO
  rw [jad (by omega)]
  simp only [Option.bind_some]
  rw [copy_loop (l := c.sands) default 24 (by omega) (by omega) (fun i o => (⟨i, o⟩ : qU)) (f := zW c) (fun i o => rfl)]
  simp only [Option.bind_some]
  rw [copy_loop (l := c.sights) default 24 (by omega) (by omega) (fun i o => (⟨i, o⟩ : qO)) (f := zY c) (fun i o => rfl)]
  rfl
end Go.Proofs.Wb

namespace Go.Proofs.Wb
open Go Go.Fw Go.Gx Go.Sb
set_option linter.unusedVariables false
theorem J9 (n lo hi : Int) : jE n lo hi = some (!inb n lo hi) := by
  unfold jE inb
  by_cases h : n < lo
  · rw [if_pos h, Option.bind_some]
    simp
    omega
  · rw [if_neg h, Option.bind_some]
    congr 1
    rw [Bool.eq_iff_iff]
    simp
    omega
theorem any_not_all {α : Type} {l : List α} {d : α} {p : α → Bool} : ((List.range l.length).any fun k => !p (l.getD k d)) = !l.all p := by
  rw [any_range (p := fun x => !p x), List.not_all_eq_any_not]
theorem ref_loop {α ρ : Type} (l : List α) (d : α) (p : α → Bool) {e : ρ} (hl : l.length < 1000000000000) {f : Int → Option (Int ⊕ (Unit ⊕ ρ))}
    (hf : ∀ k : Nat, k < l.length → f (k : Int) = some (if (!p (l.getD k d)) = true then .inr (.inr e) else .inl ((k : Int) + 1))) (he : f (l.length : Int) = some (.inr (.inl ()))) :
    iterM FU f 0 = some (if l.all p = true then .inl () else .inr e) := by
  rw [iterM_any0 (f := f) l.length (fun k => !p (l.getD k d)) e hf he (FU_lt hl), any_not_all]
  cases l.all p <;> rfl
theorem ref_up {c : Channel} (h : c.fords.length ≤ 100) : iterM FU (kF c) 1 = some (if upB c.fords = true then .inl () else .inr 4) := by
  by_cases h0 : c.fords.length = 0
  · have e : c.fords = [] := List.length_eq_zero_iff.1 h0
    obtain ⟨N, hN⟩ : ∃ N, FU = N + 1 := ⟨FU - 1, by unfold FU; rfl⟩
    rw [hN, iterM_done (b := .inl ()) (by unfold kF; rw [if_neg (by rw [e]; decide)]), e]
    rfl
  · have key := iterM_any (f := kF c) 1 (c.fords.length - 1) (fun k => decide (c.fords.getD (k + 1) (-1) ≤ c.fords.getD k (-1))) (fun _ => 4) (fun k hk => ?_) ?_ (N := FU) (FU_lt (by omega))
    · rw [key]
      cases hf : (List.range (c.fords.length - 1)).find? (fun k => decide (c.fords.getD (k + 1) (-1) ≤ c.fords.getD k (-1))) with
      | none =>
        have : upB c.fords = true := by
          rw [upB_ix]
          intro i hi
          have h2 := List.find?_eq_none.1 hf i (by simp; omega)
          simp only [decide_eq_true_eq] at h2
          omega
        rw [if_pos this]
      | some k =>
        have h2 := List.find?_some hf
        have h3 : k < c.fords.length - 1 := by simpa using List.mem_of_find?_eq_some hf
        have : ¬ upB c.fords = true := by
          rw [upB_ix]
          intro hu
          have := hu k (by omega)
          simp only [decide_eq_true_eq] at h2
          omega
        rw [if_neg this]
    · unfold kF
      rw [if_pos (by omega), show (1 : Int) + (k : Int) = ((k + 1 : Nat) : Int) by push_cast; omega, ix_nat (-1) (by omega), Option.bind_some, subc_eq (by omega), Option.bind_some, show ((k + 1 : Nat) : Int) - 1 = (k : Int) by push_cast; omega, ix_nat (-1) (by omega), Option.bind_some, addc_eq (by omega), Option.bind_some]
      by_cases h : c.fords.getD (k + 1) (-1) ≤ c.fords.getD k (-1)
      · rw [if_pos h, if_pos (by simpa using h)]
      · rw [if_neg h, if_neg (by simpa using h)]
    · unfold kF
      rw [if_neg (by omega)]
theorem many_eq' {c : Channel} {f : Bool → Option Int} : (((jE c.cells 2 10).bind fun t9 => if t9 = true then (some true) else ((jE c.tides 0 4).bind fun t14 => if t14 = true then (some true) else ((jE (c.fords.length : Int) 1 3).bind fun t21 => if t21 = true then (some true) else (if 4 < (c.sands.length : Int) then (some true) else (some (decide (8 < (c.sights.length : Int)))))))).bind f) = f (!okMany c) := by
  rw [J9, J9, J9]
  have := many_eq (c := c) (f := f)
  rw [QM, QM, QM] at this
  simp only [Option.bind_some] at this ⊢
  exact this
theorem refCheck_eq {c : Channel} (h : Few c) : yT c = some (chk c) := by
  unfold yT chk
  rw [many_eq']
  by_cases h1 : okMany c = true
  · rw [if_pos h1]
    rw [if_neg (by simp [h1])]
    obtain ⟨hc, ht, hf, hs, hg⟩ := okMany_iff.1 h1
    rw [ref_loop c.sands default (fun s => inb s.reach 1 2) (e := 3) (by omega) (fun k hk => by
        unfold zb
        rw [if_pos (by omega), ix_nat default hk, Option.bind_some, J9, Option.bind_some, addc_eq (by omega), Option.bind_some]
        split <;> rfl) (by unfold zb; rw [if_neg (by omega)]),
      ref_loop c.sights default (fun s => inb s.after 0 c.tides) (e := 3) (by omega) (fun k hk => by
        unfold zc
        rw [if_pos (by omega), ix_nat default hk, Option.bind_some, J9, Option.bind_some, addc_eq (by omega), Option.bind_some]
        split <;> rfl) (by unfold zc; rw [if_neg (by omega)]),
      ref_loop c.fords default (fun x => inb x 0 (c.cells - 1)) (e := 1) (by omega) (fun k hk => by
        unfold y9
        rw [if_pos (by omega), ix_nat default hk, Option.bind_some, subc_eq (by omega), Option.bind_some, J9, Option.bind_some, addc_eq (by omega), Option.bind_some]
        split <;> rfl) (by unfold y9; rw [if_neg (by omega)]),
      ref_loop c.sands default (fun s => inb s.span.lo 0 (c.cells - 1) && inb s.span.hi 0 (c.cells - 1)) (e := 1) (by omega) (fun k hk => by
        unfold y7
        rw [if_pos (by omega), ix_nat default hk, Option.bind_some, subc_eq (by omega), Option.bind_some, J9, Option.bind_some, Option.bind_some, Option.bind_some, J9, Option.bind_some, addc_eq (by omega)]
        cases inb (c.sands.getD k default).span.lo 0 (c.cells - 1) <;> cases inb (c.sands.getD k default).span.hi 0 (c.cells - 1) <;> rfl) (by unfold y7; rw [if_neg (by omega)]),
      ref_loop c.sights default (fun s => inb s.cell 0 (c.cells - 1)) (e := 1) (by omega) (fun k hk => by
        unfold zd
        rw [if_pos (by omega), ix_nat default hk, Option.bind_some, subc_eq (by omega), Option.bind_some, J9, Option.bind_some, addc_eq (by omega), Option.bind_some]
        split <;> rfl) (by unfold zd; rw [if_neg (by omega)]),
      ref_up (by omega),
      ref_loop c.sands default (fun s => decide (s.span.lo ≤ s.span.hi)) (e := 4) (by omega) (fun k hk => by
        unfold y5
        rw [if_pos (by omega), ix_nat default hk, Option.bind_some, Option.bind_some, addc_eq (by omega), Option.bind_some]
        by_cases h : (c.sands.getD k default).span.hi < (c.sands.getD k default).span.lo
        · rw [if_pos h, if_pos (by simp at h ⊢; omega)]
        · rw [if_neg h, if_neg (by simp at h ⊢; omega)]) (by unfold y5; rw [if_neg (by omega)])]
    unfold okLimit okMiss okOrder
    simp only [Option.bind_some]
    cases (c.sands.all fun s => inb s.reach 1 2)
    · rfl
    cases (c.sights.all fun s => inb s.after 0 c.tides)
    · rfl
    cases (c.fords.all fun x => inb x 0 (c.cells - 1))
    · rfl
    cases (c.sands.all fun s => inb s.span.lo 0 (c.cells - 1) && inb s.span.hi 0 (c.cells - 1))
    · rfl
    cases (c.sights.all fun s => inb s.cell 0 (c.cells - 1))
    · rfl
    cases upB c.fords
    · rfl
    cases (c.sands.all fun s => decide (s.span.lo ≤ s.span.hi))
    · rfl
    rfl
  · rw [if_neg h1, if_pos (by simp [h1])]
end Go.Proofs.Wb

namespace Go.Proofs.Wb
open Go Go.Fw Go.Gx Go.Sb
set_option linter.unusedVariables false
def stepR (x : Int) (r : Int) (s : Sand) : Int := if s.span.lo ≤ x ∧ x ≤ s.span.hi then max r s.reach else r
def rchC (l : List Sand) (x : Int) : Int := l.foldl (stepR x) 0
def rchL (c : Channel) : List Int := (List.range c.cells.toNat).map fun t : Nat => rchC c.sands (t : Int)
theorem rchC_snoc {l : List Sand} {s : Sand} {x : Int} : rchC (l ++ [s]) x = stepR x (rchC l x) s := by unfold rchC; rw [List.foldl_append]; rfl
theorem rchC_bounds {l : List Sand} {x : Int} (h : ∀ s ∈ l, 1 ≤ s.reach ∧ s.reach ≤ 2) : 0 ≤ rchC l x ∧ rchC l x ≤ 2 := by
  unfold rchC
  have key : ∀ (l : List Sand) (r : Int), (∀ s ∈ l, 1 ≤ s.reach ∧ s.reach ≤ 2) → 0 ≤ r ∧ r ≤ 2 → 0 ≤ l.foldl (stepR x) r ∧ l.foldl (stepR x) r ≤ 2 := by
    intro l
    induction l with
    | nil => intro r _ h; exact h
    | cons s l ih =>
      intro r h hr
      rw [List.foldl_cons]
      refine ih _ (fun t ht => h t (List.mem_cons_of_mem _ ht)) ?_
      have := h s List.mem_cons_self
      unfold stepR
      split <;> omega
  exact key l 0 h (by omega)
theorem refReach_eq {c : Channel} (h : c.sands.length ≤ 100) (x : Int) : yZ c x = some (rchC c.sands x) := by
  unfold yZ
  have key := iterM_run (f := ya c x) (fun j => ⟨rchC (c.sands.take j) x, (j : Int)⟩) c.sands.length (b := rchC c.sands x) (fun j hj => ?_) ?_ FU (FU_lt (by omega))
  · simp only [List.take_zero] at key
    rw [show (⟨0, 0⟩ : q9) = ⟨rchC [] x, ((0 : Nat) : Int)⟩ from rfl, key]
    rfl
  · have e : c.sands.take (j + 1) = c.sands.take j ++ [c.sands[j]] := by rw [List.take_append_getElem]
    have hx : c.sands.getD j default = c.sands[j] := by simp [List.getD_eq_getElem?_getD, hj]
    unfold ya
    simp only
    rw [if_pos (by omega), ix_nat default hj, Option.bind_some, Option.bind_some, J9, Option.bind_some, Option.bind_some, hx, e, rchC_snoc, addc_eq (by omega)]
    unfold stepR inb
    by_cases h1 : c.sands[j].span.lo ≤ x ∧ x ≤ c.sands[j].span.hi
    · rw [if_pos h1]
      simp [h1]
    · rw [if_neg h1]
      have : (decide (c.sands[j].span.lo ≤ x) && decide (x ≤ c.sands[j].span.hi)) = false := by
        rw [Bool.and_eq_false_iff]
        simp only [decide_eq_false_iff_not]
        omega
      rw [this]
      rfl
  · unfold ya
    simp only
    rw [if_neg (by omega), List.take_length]
theorem reaches_in {n : Nat} {f : Nat → Int} {s : Sand} (h0 : 0 ≤ s.span.lo) (h1 : s.span.hi < n) (h2 : s.span.lo ≤ s.span.hi) (hn : n ≤ 1000) :
    iterM FU (ko s) ⟨s.span.lo, (List.range n).map f⟩ = some ((List.range n).map fun t : Nat => stepR (t : Int) (f t) s) := by
  have key := iterM_run (f := ko s) (fun j => ⟨s.span.lo + (j : Int), (List.range n).map fun t : Nat => if (s.span.lo ≤ (t : Int) ∧ (t : Int) < s.span.lo + (j : Int)) then max (f t) s.reach else f t⟩) (s.span.hi - s.span.lo + 1).toNat (b := (List.range n).map fun t : Nat => stepR (t : Int) (f t) s) (fun j hj => ?_) ?_ FU (FU_lt (by omega))
  · have e : ((List.range n).map fun t : Nat => if (s.span.lo ≤ (t : Int) ∧ (t : Int) < s.span.lo + ((0 : Nat) : Int)) then max (f t) s.reach else f t) = (List.range n).map f := by
      apply List.map_congr_left
      intro t _
      rw [if_neg (by omega)]
    simp only [e] at key
    simpa using key
  · unfold ko
    simp only
    have ej : s.span.lo + (j : Int) = ((s.span.lo.toNat + j : Nat) : Int) := by omega
    rw [if_pos (by omega), ej, range_ix (by omega), Option.bind_some, Option.bind_some, Int.toNat_natCast, range_set, Option.bind_some, addc_eq (by omega), Option.bind_some]
    congr 3
    · omega
    · apply List.map_congr_left
      intro t ht
      by_cases h : t = s.span.lo.toNat + j
      · rw [if_pos h, if_neg (by omega), if_pos (by omega)]; rw [h]
      · rw [if_neg h]
        by_cases h3 : s.span.lo ≤ (t : Int) ∧ (t : Int) < ((s.span.lo.toNat + j : Nat) : Int)
        · rw [if_pos h3, if_pos (by omega)]
        · rw [if_neg h3, if_neg (by omega)]
  · unfold ko
    simp only
    rw [if_neg (by omega)]
    congr 2
    apply List.map_congr_left
    intro t ht
    unfold stepR
    by_cases h3 : s.span.lo ≤ (t : Int) ∧ (t : Int) ≤ s.span.hi
    · rw [if_pos h3, if_pos (by omega)]
    · rw [if_neg h3, if_neg (by omega)]
theorem ZT {c : Channel} (r : Right c) : kP c = some (rchL c) := by
  have hc := r.cells
  have hs := r.sands
  unfold kP
  rw [makec_eq (by omega), Option.bind_some]
  have key := iterM_run (f := kZ c) (fun j => ⟨(j : Int), (List.range c.cells.toNat).map fun t : Nat => rchC (c.sands.take j) (t : Int)⟩) c.sands.length (b := rchL c) (fun j hj => ?_) ?_ FU (FU_lt (by omega))
  · have e : List.replicate c.cells.toNat (0 : Int) = (List.range c.cells.toNat).map fun t : Nat => rchC (c.sands.take 0) (t : Int) := by
      apply List.ext_getElem (by simp)
      intro i h1 h2
      simp [rchC]
    rw [e, show (0 : Int) = ((0 : Nat) : Int) from rfl, key]
    rfl
  · have e : c.sands.take (j + 1) = c.sands.take j ++ [c.sands[j]] := by rw [List.take_append_getElem]
    have hx : c.sands.getD j default = c.sands[j] := by simp [List.getD_eq_getElem?_getD, hj]
    have hsp := r.span c.sands[j] (List.getElem_mem hj)
    unfold kZ
    simp only
    rw [if_pos (by omega), ix_nat default hj, Option.bind_some, hx, reaches_in hsp.1 (by omega) hsp.2.2 (by omega), Option.bind_some, addc_eq (by omega), Option.bind_some]
    congr 3
    apply List.map_congr_left
    intro t _
    rw [e, rchC_snoc]
  · unfold kZ
    simp only
    rw [if_neg (by omega), List.take_length]
    rfl
theorem rchL_len {c : Channel} : (rchL c).length = c.cells.toNat := by simp [rchL]
theorem rchL_get {c : Channel} {x : Int} (h : 0 ≤ x ∧ x < c.cells) : (rchL c).getD x.toNat 0 = rchC c.sands x := by
  unfold rchL
  rw [List.getD_eq_getElem?_getD, List.getElem?_map, List.getElem?_range (by omega)]
  simp
  congr 1
  omega
theorem Y9 {c : Channel} (h : Few c) : yS c = some (if chk c = 0 then .inr ⟨c.cells, c.tides, rchL c⟩ else .inl (chk c)) := by
  unfold yS
  rw [jap, Option.bind_some]
  by_cases h0 : chk c = 0
  · rw [if_pos h0, if_pos h0, ZT (rightOf h0)]; rfl
  · rw [if_neg h0, if_neg h0, if_pos h0]
end Go.Proofs.Wb

namespace Go.Proofs.Wb
open Go Go.Fw Go.Gx Go.Sb
set_option linter.unusedVariables false
set_option maxRecDepth 100000
theorem Z0 : ∀ {l : List Int}, l.length ≤ 3 → Kn l = some (mkCells l)
  | [], _ => by decide +kernel
  | [a], _ => rfl
  | [a, b], _ => rfl
  | [a, b, c], _ => rfl
  | a :: b :: c :: d :: l, h => absurd h (by simp)
def clS (nf : Nat) (s : State) : List Int := [s.at_.c0, s.at_.c1, s.at_.c2].take nf
theorem clS_mk {l : List Int} {k : Int} (h : l.length ≤ 3) : clS l.length ⟨k, mkCells l⟩ = l := by
  unfold clS mkCells
  match l, h with
  | [], _ => rfl
  | [a], _ => rfl
  | [a, b], _ => rfl
  | [a, b, c], _ => rfl
  | a :: b :: c :: d :: l, h => exact absurd h (by simp)
theorem Y8 {d0 d1 : Int} {f : List Int} {a : List Sand} {b : List Sight} {r : List Int} (h : f.length ≤ 3) (s : State) : qf d0 d1 f a b r s = some (clS f.length s) := by
  unfold qf
  rw [if_pos (by simp; omega), Int.toNat_natCast, Zv (by simp; omega)]
  rfl
theorem ZC {l : List Int} (hl : l.length < 1000000) (v : Int) : qe l v = some (decide (v ∈ l)) := by
  unfold qe JF
  rw [contains_loop (f := yH l v) l 0 (fun x => decide (v = x)) (by omega) (fun k hk => ?_) ?_]
  · congr 1
    rw [Bool.eq_iff_iff, List.any_eq_true, decide_eq_true_eq]
    constructor
    · rintro ⟨x, hx, he⟩
      rw [decide_eq_true_eq] at he
      subst he; exact hx
    · intro h; exact ⟨v, h, by simp⟩
  · unfold yH
    rw [if_neg (by omega)]
  · unfold yH
    rw [if_pos (by omega), ix_nat 0 hk, Option.bind_some, addc_eq (by omega), Option.bind_some]
    by_cases h : v = l.getD k 0
    · rw [if_pos h, if_pos (by simpa using h)]
    · rw [if_neg h, if_neg (by simpa using h)]
def offS (k : Int) (l : List Int) (x : Sight) : Bool := decide (x.after = k) && !(decide (x.cell ∈ l) == x.upright)
def agP (cnt : Nat → Bool) (sg : List Sight) (k : Int) (l : List Int) : Bool := !(List.range sg.length).any fun i => cnt i && offS k l (sg.getD i default)
theorem agP_iff {cnt : Nat → Bool} {sg : List Sight} {k : Int} {l : List Int} : agP cnt sg k l = true ↔ ∀ i, i < sg.length → cnt i = true → (sg.getD i default).after = k → (decide ((sg.getD i default).cell ∈ l) = (sg.getD i default).upright) := by
  unfold agP
  rw [Bool.not_eq_true', List.any_eq_false]
  simp only [List.mem_range, offS, Bool.and_eq_true, decide_eq_true_eq, Bool.not_eq_true', not_and, Bool.not_eq_false, beq_iff_eq]
theorem Z6 {d0 d1 : Int} {f : List Int} {a : List Sand} {sg : List Sight} {r : List Int} (h : f.length ≤ 3) (hs : sg.length ≤ 100) (s : State) : yL d0 d1 f a sg r s = some (agP (fun _ => true) sg s.after (clS f.length s)) := by
  unfold yL
  rw [iterM_any0 (f := qR sg s d0 d1 f a r) sg.length (fun k => offS s.after (clS f.length s) (sg.getD k default)) false (fun k hk => ?_) ?_ (FU_lt (by omega)), Option.bind_some]
  · unfold agP
    simp only [Bool.true_and]
    cases (List.range sg.length).any fun k => offS s.after (clS f.length s) (sg.getD k default) <;> rfl
  · unfold qR
    rw [if_neg (by omega)]
  · unfold qR KJ
    rw [if_pos (by omega), ix_nat default hk, Option.bind_some, Y8 h, Option.bind_some, if_pos rfl, Option.bind_some, ZC (by unfold clS; simp; omega), Option.bind_some, addc_eq (by omega)]
    unfold offS
    by_cases h1 : (sg.getD k default).after = s.after
    · rw [if_pos h1, Option.bind_some, decide_eq_true h1, Bool.true_and]
      split <;> rfl
    · rw [if_neg h1, Option.bind_some, decide_eq_false h1, Bool.false_and]
      rfl
theorem Q4 {d0 d1 : Int} {f : List Int} {a : List Sand} {b : List Sight} {r : List Int} (h : f.length ≤ 3) : jV d0 d1 f a b r = some ⟨0, mkCells f⟩ := by
  unfold jV
  rw [Z0 h]; rfl
theorem jaS {l : List Int} (hl : l.length < 1000000) (n : Int) : zP l n = some (decide (n ∈ l)) := by
  unfold zP
  rw [iterM_any0 (f := yJ l n) l.length (fun k => decide (l.getD k 0 = n)) true (fun k hk => ?_) ?_ (FU_lt (by omega)), Option.bind_some]
  · rw [any_range (p := fun x => decide (x = n))]
    cases h : l.any fun x => decide (x = n) with
    | true =>
      obtain ⟨x, hx, he⟩ := List.any_eq_true.1 h
      rw [decide_eq_true_eq] at he
      subst he
      simp [hx]
    | false =>
      have : n ∉ l := fun hm => by
        have := List.any_eq_false.1 h n hm
        simp at this
      simp [this]
  · unfold yJ
    rw [if_neg (by omega)]
  · unfold yJ
    rw [if_pos (by omega), ix_nat 0 hk, Option.bind_some, addc_eq (by omega), Option.bind_some]
    by_cases h : l.getD k 0 = n
    · rw [if_pos h, if_pos (by simpa using h)]
    · rw [if_neg h, if_neg (by simpa using h)]
def bitN (n i : Nat) : Bool := decide (n / 2 ^ i % 2 = 1)
theorem refAgrees_eq {c : Channel} (hs : c.sights.length ≤ 100) {l : List Int} (hl : l.length < 1000) (k : Int) (n : Nat) (hn : n ≤ 1000000000000) : kk c k l (n : Int) = some (agP (bitN n) c.sights k l) := by
  unfold kk
  have key := iterM_find (f := qY c k l) (fun j => ⟨((n / 2 ^ j : Nat) : Int), (j : Int)⟩) c.sights.length (fun i => bitN n i && offS k l (c.sights.getD i default)) (fun _ => .inr false) (.inl ()) (fun j hj _ => ?_) ?_ (N := FU) (FU_lt (by omega))
  · simp only [Nat.pow_zero, Nat.div_one] at key
    rw [show (⟨(n : Int), 0⟩ : qV) = ⟨(n : Int), ((0 : Nat) : Int)⟩ from rfl, key, Option.bind_some]
    unfold agP
    cases hf : (List.range c.sights.length).find? (fun i => bitN n i && offS k l (c.sights.getD i default)) with
    | none =>
      have : (List.range c.sights.length).any (fun i => bitN n i && offS k l (c.sights.getD i default)) = false := by
        rw [List.any_eq_false]; intro x hx; simpa using List.find?_eq_none.1 hf x hx
      rw [this]; rfl
    | some i =>
      have h2 := List.find?_some hf
      have : (List.range c.sights.length).any (fun i => bitN n i && offS k l (c.sights.getD i default)) = true := List.any_eq_true.2 ⟨i, List.mem_of_find?_eq_some hf, h2⟩
      rw [this]; rfl
  · unfold qY
    have hdv : n / 2 ^ j ≤ n := Nat.div_le_self _ _
    have e1 : ((n / 2 ^ j : Nat) : Int).tmod 2 = ((n / 2 ^ j % 2 : Nat) : Int) := by rfl
    have e2 : ((n / 2 ^ j : Nat) : Int).tdiv 2 = ((n / 2 ^ (j + 1) : Nat) : Int) := by
      rw [Nat.pow_succ, ← Nat.div_div_eq_div_mul]; rfl
    simp only
    rw [if_pos (by omega), ix_nat default hj, Option.bind_some, remc_eq (by omega), Option.bind_some, e1, jaS (by omega), Option.bind_some, quoc_eq (by omega) (by rw [e2]; have h5 : n / 2 ^ (j + 1) ≤ n := Nat.div_le_self _ _; generalize n / 2 ^ (j + 1) = q at h5 ⊢; omega), Option.bind_some, addc_eq (by omega), Option.bind_some, e2]
    unfold bitN offS
    by_cases hb : n / 2 ^ j % 2 = 1
    · rw [if_pos (by omega), decide_eq_true hb, Bool.true_and]
      by_cases ha : (c.sights.getD j default).after = k
      · rw [if_pos ha, Option.bind_some, decide_eq_true ha, Bool.true_and]
        split <;> rfl
      · rw [if_neg ha, Option.bind_some, decide_eq_false ha, Bool.false_and]
        rfl
    · rw [if_neg (by omega), Option.bind_some, decide_eq_false hb, Bool.false_and]
      rfl
  · unfold qY
    simp only
    rw [if_neg (by omega)]
theorem K3 {c : Channel} (hs : c.sights.length ≤ 30) : jK c = some ((2 ^ c.sights.length - 1 : Nat) : Int) := by
  unfold jK
  have hp : ∀ j, j ≤ 30 → 2 ^ j ≤ 2 ^ 30 := fun j hj => Nat.pow_le_pow_right (by omega) hj
  have key := iterM_run (f := kX c) (fun j => ⟨((2 ^ j : Nat) : Int), (j : Int)⟩) c.sights.length (b := ((2 ^ c.sights.length : Nat) : Int)) (fun j hj => ?_) ?_ FU (FU_lt (by omega))
  · rw [show (⟨1, 0⟩ : kV) = ⟨((2 ^ 0 : Nat) : Int), ((0 : Nat) : Int)⟩ from rfl, key, Option.bind_some]
    have h1 := hp c.sights.length hs
    have h2 := Nat.one_le_two_pow (n := c.sights.length)
    rw [subc_eq (by omega), Option.bind_some]
    congr 1
    omega
  · unfold kX
    have h1 := hp j (by omega)
    simp only
    rw [if_pos (by omega), mulc_eq (by generalize 2 ^ j = q at h1 ⊢; omega), Option.bind_some, addc_eq (by omega), Option.bind_some]
    rw [Nat.pow_succ]
    generalize 2 ^ j = q
    congr 3
    omega
  · unfold kX
    simp only
    rw [if_neg (by omega)]
theorem bitN_all {n i : Nat} (h : i < n) : bitN (2 ^ n - 1) i = true := by
  unfold bitN
  rw [decide_eq_true_eq]
  have h1 : 2 ^ n = 2 ^ i * (2 * 2 ^ (n - i - 1)) := by
    rw [← Nat.pow_succ', ← Nat.pow_add]
    congr 1
    omega
  have h2 := Nat.one_le_two_pow (n := i)
  have h3 := Nat.one_le_two_pow (n := n - i - 1)
  have h4 : (2 ^ n - 1) / 2 ^ i = 2 * 2 ^ (n - i - 1) - 1 := by
    rw [h1]
    generalize 2 * 2 ^ (n - i - 1) = m at *
    have hm : 1 ≤ m := by
      rcases Nat.eq_zero_or_pos m with h0 | h0
      · rw [h0, Nat.mul_zero] at h1
        have := Nat.one_le_two_pow (n := n)
        omega
      · exact h0
    obtain ⟨q, rfl⟩ : ∃ q, m = q + 1 := ⟨m - 1, by omega⟩
    rw [Nat.mul_succ, Nat.add_sub_cancel]
    rw [show 2 ^ i * q + 2 ^ i - 1 = (2 ^ i - 1) + 2 ^ i * q by omega, Nat.add_mul_div_left _ _ (by omega), Nat.div_eq_of_lt (by omega)]
    omega
  rw [h4]
  omega
theorem agP_congr {c1 c2 : Nat → Bool} {sg : List Sight} {k : Int} {l : List Int} (h : ∀ i, i < sg.length → c1 i = c2 i) : agP c1 sg k l = agP c2 sg k l := by
  rw [Bool.eq_iff_iff, agP_iff, agP_iff]
  constructor
  · intro h1 i hi hc; exact h1 i hi (by rw [h i hi]; exact hc)
  · intro h1 i hi hc; exact h1 i hi (by rw [← h i hi]; exact hc)
end Go.Proofs.Wb

namespace Go.Proofs.Wb
open Go Go.Fw Go.Gx Go.Sb
set_option linter.unusedVariables false
set_option maxRecDepth 100000
def canB (sa : List Sand) (a b : List Int) : Bool := (List.range a.length).all fun i => inb (b.getD i (-1)) (a.getD i (-1) - rchC sa (a.getD i (-1))) (a.getD i (-1) + rchC sa (a.getD i (-1)))
def rowB (c : Channel) (l : List Int) : Bool := decide (l.length = c.fords.length) && (upB l && l.all fun x => inb x 0 (c.cells - 1))
def okAt (cnt : Nat → Bool) (c : Channel) (course : List (List Int)) (k : Nat) : Bool := rowB c (course.getD k []) && ((decide (k = 0) || canB c.sands (course.getD (k - 1) []) (course.getD k [])) && agP cnt c.sights (k : Int) (course.getD k []))
def fitB (cnt : Nat → Bool) (c : Channel) (course : List (List Int)) : Bool := decide ((course.length : Int) = c.tides + 1) && (decide (course.getD 0 [] = c.fords) && (List.range course.length).all (okAt cnt c course))
theorem rowB_iff {c : Channel} {l : List Int} : rowB c l = true ↔ l.length = c.fords.length ∧ upB l = true ∧ ∀ x ∈ l, 0 ≤ x ∧ x < c.cells := by
  unfold rowB
  simp only [Bool.and_eq_true, decide_eq_true_eq, List.all_eq_true, inb_iff]
  constructor
  · rintro ⟨h1, h2, h3⟩; exact ⟨h1, h2, fun x hx => by have := h3 x hx; omega⟩
  · rintro ⟨h1, h2, h3⟩; exact ⟨h1, h2, fun x hx => by have := h3 x hx; omega⟩
theorem YR {a b : List Int} (hn : a.length < 1000000) : yC a b = some (decide (a = b)) := by
  unfold yC
  by_cases h : a.length = b.length
  · rw [if_pos (by omega), eq_loop 0 h hn (f := Jw a b) (fun s => rfl)]
  · rw [if_neg (by omega)]
    congr 1
    symm
    rw [decide_eq_false_iff_not]
    intro e; exact h (by rw [e])
theorem getD_mem {l : List Int} {i : Nat} {d : Int} (h : i < l.length) : l.getD i d ∈ l := by
  rw [List.getD_eq_getElem?_getD, List.getElem?_eq_getElem h]
  exact List.getElem_mem h
theorem Y1 {c : Channel} (hs : c.sands.length ≤ 100) (hr : ∀ s ∈ c.sands, 1 ≤ s.reach ∧ s.reach ≤ 2) {a b : List Int} (hl : a.length ≤ b.length) (hn : a.length ≤ 1000) (ha : ∀ x ∈ a, 0 ≤ x ∧ x < 1000) : qD c a b = some (canB c.sands a b) := by
  unfold qD
  have key := iterM_any0 (f := yM a c b) a.length (fun i => !inb (b.getD i (-1)) (a.getD i (-1) - rchC c.sands (a.getD i (-1))) (a.getD i (-1) + rchC c.sands (a.getD i (-1)))) false (fun k hk => by
    have h1 := ha _ (getD_mem (d := -1) hk)
    have h2 := rchC_bounds (x := a.getD k (-1)) hr
    unfold yM
    rw [if_pos (by omega), ix_nat (-1) hk, Option.bind_some, refReach_eq hs, Option.bind_some, ix_nat (-1) (by omega), Option.bind_some, Option.bind_some, subc_eq (by omega), Option.bind_some, Option.bind_some, addc_eq (by omega), Option.bind_some, J9, Option.bind_some, addc_eq (by omega), Option.bind_some]
    split <;> rfl) (by unfold yM; rw [if_neg (by omega)]) (N := FU) (FU_lt (by omega))
  rw [key, Option.bind_some]
  unfold canB
  rw [← not_any_not]
  cases (List.range a.length).any fun i => !inb (b.getD i (-1)) (a.getD i (-1) - rchC c.sands (a.getD i (-1))) (a.getD i (-1) + rchC c.sands (a.getD i (-1))) <;> rfl
theorem row_any {c : Channel} {l : List Int} : ((List.range l.length).any fun k => !inb (l.getD k (-1)) 0 (c.cells - 1) || (decide (0 < k) && decide (l.getD k (-1) ≤ l.getD (k - 1) (-1)))) = !(upB l && l.all fun x => inb x 0 (c.cells - 1)) := by
  rw [Bool.eq_iff_iff, Bool.not_eq_true', List.any_eq_true]
  constructor
  · rintro ⟨k, hk, h⟩
    rw [Bool.and_eq_false_iff]
    rw [Bool.or_eq_true] at h
    rcases h with h | h
    · right
      rw [List.all_eq_false]
      exact ⟨_, getD_mem (d := -1) (by simpa using hk), by simpa using h⟩
    · left
      rw [Bool.and_eq_true, decide_eq_true_eq, decide_eq_true_eq] at h
      cases hu : upB l with
      | false => rfl
      | true =>
        have := upB_ix.1 hu (k - 1) (by have : k < l.length := by simpa using hk
                                        omega)
        rw [show k - 1 + 1 = k by omega] at this
        omega
  · intro h
    rw [Bool.and_eq_false_iff] at h
    rcases h with h | h
    · have h2 : ¬ upB l = true := by rw [h]; decide
      rw [upB_ix] at h2
      have h3 : ∃ i, i + 1 < l.length ∧ ¬ l.getD i (-1) < l.getD (i + 1) (-1) := by
        by_cases hq : ∃ i, i + 1 < l.length ∧ ¬ l.getD i (-1) < l.getD (i + 1) (-1)
        · exact hq
        · exact absurd (fun i hi => by
            by_cases h4 : l.getD i (-1) < l.getD (i + 1) (-1)
            · exact h4
            · exact absurd ⟨i, hi, h4⟩ hq) h2
      obtain ⟨i, hi, h4⟩ := h3
      refine ⟨i + 1, by simpa using hi, ?_⟩
      rw [Bool.or_eq_true]
      right
      rw [Bool.and_eq_true, decide_eq_true_eq, decide_eq_true_eq, Nat.add_sub_cancel]
      omega
    · rw [List.all_eq_false] at h
      obtain ⟨x, hx, h⟩ := h
      obtain ⟨k, hk, rfl⟩ := List.getElem_of_mem hx
      refine ⟨k, by simpa using hk, ?_⟩
      rw [Bool.or_eq_true]
      left
      simpa [List.getD_eq_getElem?_getD, hk] using h
theorem row_loop {c : Channel} (hc : 2 ≤ c.cells ∧ c.cells ≤ 10) {l : List Int} (hl : l.length ≤ 100) : iterM FU (qy l c) 0 = some (if (upB l && l.all fun x => inb x 0 (c.cells - 1)) = true then .inl () else .inr false) := by
  have key := iterM_any0 (f := qy l c) l.length (fun k => !inb (l.getD k (-1)) 0 (c.cells - 1) || (decide (0 < k) && decide (l.getD k (-1) ≤ l.getD (k - 1) (-1)))) false (fun k hk => by
    unfold qy
    rw [if_pos (by omega), ix_nat (-1) hk, Option.bind_some, subc_eq (by omega), Option.bind_some, J9, Option.bind_some, addc_eq (by omega)]
    cases hb : inb (l.getD k (-1)) 0 (c.cells - 1) with
    | false => rfl
    | true =>
      simp only [Bool.not_true, Bool.false_eq_true, if_false, Bool.false_or]
      by_cases h0 : 0 < k
      · rw [if_pos (by omega), Option.bind_some, subc_eq (by omega), Option.bind_some, show (k : Int) - 1 = ((k - 1 : Nat) : Int) by omega, ix_nat (-1) (by omega), Option.bind_some, Option.bind_some, decide_eq_true h0, Bool.true_and]
        split <;> rfl
      · rw [if_neg (by omega), decide_eq_false h0, Bool.false_and]
        rfl) (by unfold qy; rw [if_neg (by omega)]) (N := FU) (FU_lt (by omega))
  rw [key, row_any]
  cases (upB l && l.all fun x => inb x 0 (c.cells - 1)) <;> rfl
theorem refFits_eq {c : Channel} (r : Right c) {course : List (List Int)} (hn : course.length ≤ 100) (hl : ∀ l ∈ course, l.length ≤ 100) : yz c course = some (fitB (fun _ => true) c course) := by
  have hc := r.cells
  have ht := r.tides
  have hf := r.fords
  have hs := r.sights
  have hsa := r.sands
  unfold yz fitB
  rw [addc_eq (by omega), Option.bind_some]
  by_cases h1 : (course.length : Int) = c.tides + 1
  · have hg : ∀ k, k < course.length → (course.getD k []).length ≤ 100 := fun k hk => hl _ (by rw [List.getD_eq_getElem?_getD, List.getElem?_eq_getElem hk]; exact List.getElem_mem hk)
    rw [if_pos h1, show (0 : Int) = ((0 : Nat) : Int) from rfl, ix_nat [] (by omega), Option.bind_some, YR (by have := hg 0 (by omega); omega), Option.bind_some, Option.bind_some, not_true_if, decide_eq_true h1, Bool.true_and]
    by_cases h2 : course.getD 0 [] = c.fords
    · rw [if_pos (by simpa using h2), decide_eq_true h2, Bool.true_and]
      have key := iterM_find (f := ym course c) (fun j => (j : Int)) course.length (fun k => !okAt (fun _ => true) c course k) (fun _ => .inr false) (.inl ()) (fun k hk hb => ?_) ?_ (N := FU) (FU_lt (by omega))
      · rw [key, Option.bind_some]
        rw [← not_any_not]
        cases hq : (List.range course.length).find? (fun k => !okAt (fun _ => true) c course k) with
        | none =>
          have : (List.range course.length).any (fun k => !okAt (fun _ => true) c course k) = false := by
            rw [List.any_eq_false]; intro x hx; exact List.find?_eq_none.1 hq x hx
          rw [this]; rfl
        | some k =>
          have h3 := List.find?_some hq
          have : (List.range course.length).any (fun k => !okAt (fun _ => true) c course k) = true := List.any_eq_true.2 ⟨k, List.mem_of_find?_eq_some hq, h3⟩
          rw [this]; rfl
      · unfold ym okAt rowB
        rw [if_pos (by omega), ix_nat [] hk, Option.bind_some, row_loop hc (hg k hk), addc_eq (by omega)]
        by_cases h4 : (course.getD k []).length = c.fords.length
        · rw [if_pos (by omega), decide_eq_true h4, Bool.true_and, Option.bind_some]
          cases h5 : (upB (course.getD k []) && (course.getD k []).all fun x => inb x 0 (c.cells - 1)) with
          | false => rfl
          | true =>
            simp only [if_true, oc_inl, Bool.true_and]
            have hag : (jK c).bind (fun t => kk c (k : Int) (course.getD k []) t) = some (agP (fun _ => true) c.sights (k : Int) (course.getD k [])) := by
              have h6 : 2 ^ c.sights.length ≤ 2 ^ 20 := Nat.pow_le_pow_right (by omega) hs
              rw [K3 (by omega), Option.bind_some, refAgrees_eq (by omega) (by have := hg k hk; omega) _ _ (by generalize 2 ^ c.sights.length = q at h6 ⊢; omega), agP_congr (fun i hi => bitN_all hi)]
            have hag2 : ((jK c).bind fun t => (kk c (k : Int) (course.getD k []) t).bind fun t88 => some (!t88)) = some (!agP (fun _ => true) c.sights (k : Int) (course.getD k [])) := by
              rw [← Option.bind_assoc, hag]; rfl
            rw [hag2]
            by_cases h0 : 0 < k
            · have hp := hb (k - 1) (by omega)
              rw [Bool.not_eq_false'] at hp
              unfold okAt at hp
              rw [Bool.and_eq_true, rowB_iff] at hp
              obtain ⟨⟨p1, p2, p3⟩, _⟩ := hp
              rw [if_pos (by omega), subc_eq (by omega), Option.bind_some, show (k : Int) - 1 = ((k - 1 : Nat) : Int) by omega, ix_nat [] (by omega), Option.bind_some, Y1 (by omega) r.reach (by omega) (by omega) (fun x hx => by have := p3 x hx; omega), Option.bind_some, decide_eq_false (by omega), Bool.false_or, not_true_if]
              cases canB c.sands (course.getD (k - 1) []) (course.getD k []) with
              | false => rfl
              | true =>
                rw [if_pos rfl, Option.bind_some, Bool.true_and]
                cases agP (fun _ => true) c.sights (k : Int) (course.getD k []) <;> rfl
            · rw [if_neg (by omega), Option.bind_some, decide_eq_true (by omega), Bool.true_or, Bool.true_and]
              cases agP (fun _ => true) c.sights (k : Int) (course.getD k []) <;> rfl
        · rw [if_neg (by omega), decide_eq_false h4, Bool.false_and]
          rfl
      · unfold ym
        rw [if_neg (by omega)]
    · rw [if_neg (by simpa using h2), decide_eq_false h2, Bool.false_and]
  · rw [if_neg h1, Option.bind_some, if_pos rfl, decide_eq_false h1, Bool.false_and]
end Go.Proofs.Wb

namespace Go.Proofs.Wb
open Go Go.Fw Go.Gx Go.Sb
set_option linter.unusedVariables false
set_option maxRecDepth 100000
theorem cGet_mk {l : List Int} {i : Nat} (h : i < 3) : cGet (mkCells l) i = l.getD i (-1) := by
  have : i = 0 ∨ i = 1 ∨ i = 2 := by omega
  rcases this with rfl | rfl | rfl <;> rfl
theorem rch_eq {c : Channel} {x : Int} (h : 0 ≤ x ∧ x < c.cells) : rch (rchL c) x = rchC c.sands x := rchL_get h
theorem nextOK_of {c : Channel} (r : Right c) {a : List Int} (ha : rowB c a = true) {k : Int} (hk : -1000 ≤ k ∧ k ≤ 1000) : nextOK c.cells (rchL c) (c.fords.length : Int) ⟨k, mkCells a⟩ := by
  obtain ⟨h1, h2, h3⟩ := rowB_iff.1 ha
  have hc := r.cells
  have hf := r.fords
  refine ⟨by omega, by omega, hk.1, hk.2, fun i hi => ?_⟩
  rw [Int.toNat_natCast] at hi
  simp only
  rw [cGet_mk (by omega)]
  have h4 := h3 _ (getD_mem (l := a) (i := i) (d := -1) (by omega))
  have h5 := rchC_bounds (x := a.getD i (-1)) r.reach
  rw [rchL_get h4, rchL_len]
  omega
theorem can_iff {c : Channel} (r : Right c) {a l : List Int} (ha : rowB c a = true) (hl : rowB c l = true) : canB c.sands a l = true ↔ CanS c.cells (rchL c) c.fords.length (mkCells a) l := by
  obtain ⟨a1, a2, a3⟩ := rowB_iff.1 ha
  obtain ⟨l1, l2, l3⟩ := rowB_iff.1 hl
  have hf := r.fords
  unfold canB
  simp only [List.all_eq_true, List.mem_range, inb_iff]
  constructor
  · intro h
    refine ⟨l1, fun i hi => l3 _ (getD_mem (by omega)), fun i hi => ?_, fun i hi => upB_ix.1 l2 i (by omega)⟩
    rw [cGet_mk (by omega), rch_eq (a3 _ (getD_mem (by omega)))]
    exact h i (by omega)
  · intro h i hi
    have := h.near i (by omega)
    rw [cGet_mk (by omega), rch_eq (a3 _ (getD_mem (by omega)))] at this
    exact this
end Go.Proofs.Wb

namespace Go.Gx
open Go
theorem afind_none {α β : Type} [DecidableEq α] : ∀ {l : List (α × β)} {k : α} {i : Nat}, afind l k i = none ↔ ∀ p, p ∈ l → p.1 ≠ k
  | [], k, i => by simp [afind]
  | (k', v') :: r, k, i => by
    unfold afind
    by_cases h : k = k'
    · rw [if_pos h]
      constructor
      · intro h2; cases h2
      · intro h2; exact absurd h.symm (h2 (k', v') (by simp))
    · rw [if_neg h, afind_none]
      constructor
      · intro h2 p hp
        rcases List.mem_cons.1 hp with rfl | hp
        · exact fun e => h e.symm
        · exact h2 p hp
      · intro h2 p hp; exact h2 p (List.mem_cons_of_mem _ hp)
theorem aget_val {α β : Type} [DecidableEq α] : ∀ {l : List (α × β)} {k : α} {i : Nat}, (afind l k i).map (·.2) = (l.find? fun p => decide (p.1 = k)).map (·.2)
  | [], k, i => rfl
  | (k', v') :: r, k, i => by
    unfold afind
    by_cases h : k = k'
    · rw [if_pos h, List.find?_cons, decide_eq_true h.symm]; rfl
    · rw [if_neg h, aget_val (i := i + 1), List.find?_cons, decide_eq_false (fun e => h e.symm)]
theorem find_modify {α β : Type} [DecidableEq α] (v : β) (k x : α) : ∀ {l : List (α × β)} {i j : Nat} {v0 : β}, afind l k j = some (i, v0) → ((l.modify (i - j) (fun p => (p.1, v))).find? fun p => decide (p.1 = x)).map (·.2) = if x = k then some v else (l.find? fun p => decide (p.1 = x)).map (·.2)
  | [], i, j, v0, h => by cases h
  | (k', v') :: r, i, j, v0, h => by
    unfold afind at h
    by_cases hk : k = k'
    · rw [if_pos hk] at h
      cases h
      rw [Nat.sub_self, List.modify_zero_cons, List.find?_cons, List.find?_cons]
      subst hk
      by_cases hx : k = x
      · rw [decide_eq_true hx, if_pos hx.symm]; rfl
      · rw [decide_eq_false hx, if_neg (fun e => hx e.symm)]
    · rw [if_neg hk] at h
      have hle := (afind_some h).1
      have e : i - j = (i - (j + 1)) + 1 := by omega
      rw [e, List.modify_succ_cons, List.find?_cons, List.find?_cons]
      have ih := find_modify v k x h
      by_cases hx : k' = x
      · rw [decide_eq_true hx, if_neg (fun e => hk (by rw [← e, hx]))]
      · rw [decide_eq_false hx]; exact ih
theorem aget_aset {α β : Type} [DecidableEq α] (l : List (α × β)) (k x : α) (v : β) : aget (aset l k v) x = if x = k then some v else aget l x := by
  unfold aget aset
  rw [aget_val, aget_val]
  cases h : afind l k 0 with
  | none =>
    simp only
    rw [List.find?_append]
    by_cases hx : x = k
    · subst hx
      have : (l.find? fun p => decide (p.1 = x)) = none := by
        rw [List.find?_eq_none]
        intro p hp
        simpa using afind_none.1 h p hp
      rw [this, if_pos rfl]
      simp
    · rw [if_neg hx]
      have : (List.find? (fun p : α × β => decide (p.1 = x)) [(k, v)]) = none := by
        rw [List.find?_cons, decide_eq_false (fun e => hx e.symm)]; rfl
      rw [this, Option.or_none]
  | some p =>
    obtain ⟨i, v0⟩ := p
    exact find_modify v k x h
end Go.Gx
namespace Go.Proofs.Wb
open Go Go.Fw Go.Gx Go.Sb
set_option linter.unusedVariables false
abbrev ML := List (State × Int)
def fR (M : State → ML → Option (Int × ML)) (x : State) (p : Int × ML) : Option (Int × ML) := (M x p.2).bind fun q => (addc p.1 q.1).bind fun t => some (t, q.2)
structure RestEq (M : Nat → State → ML → Option (Int × ML)) (V : State → Prop) (ag : State → Bool) (nx : State → List State) (T : Int) : Prop where
  eq : ∀ fu s ml, V s → M (fu + 1) s ml = if (aget ml s).isSome = true then some ((aget ml s).getD 0, ml) else if ag s = true then (if s.after = T then some (1, aset ml s 1) else (iterL (fR (M fu)) (nx s) (0, ml)).bind fun p => some (p.1, aset p.2 s p.1)) else some (0, aset ml s 0)
  nxV : ∀ s t, V s → s.after < T → t ∈ nx s → V t ∧ t.after = s.after + 1
  le : ∀ s, V s → s.after ≤ T
  len : ∀ s, (nx s).length ≤ 1000
theorem sum_le {α : Type} (f : α → Nat) (B : Nat) : ∀ (l : List α), (∀ x ∈ l, f x ≤ B) → (l.map f).sum ≤ l.length * B
  | [], _ => by simp
  | x :: l, h => by
    rw [List.map_cons, List.sum_cons, List.length_cons, Nat.succ_mul]
    have h1 := h x List.mem_cons_self
    have h2 := sum_le f B l (fun y hy => h y (List.mem_cons_of_mem _ hy))
    omega
theorem R_le {nx : State → List State} {ag : State → Bool} (h : ∀ s, (nx s).length ≤ 1000) : ∀ k s, R nx ag k s ≤ 1000 ^ k
  | 0, s => by rw [R]; split <;> simp
  | k + 1, s => by
    rw [R]
    split
    · have h1 := sum_le (R nx ag k) (1000 ^ k) (nx s) (fun x _ => R_le h k x)
      have h2 := Nat.mul_le_mul_right (1000 ^ k) (h s)
      rw [Nat.pow_succ, Nat.mul_comm]
      omega
    · exact Nat.zero_le _
section
variable {nx : State → List State} {ag : State → Bool} {T : Int}
def valR (nx : State → List State) (ag : State → Bool) (T : Int) (s : State) : Int := (R nx ag (T - s.after).toNat s : Nat)
def Sound (nx : State → List State) (ag : State → Bool) (T : Int) (ml : ML) : Prop := ∀ x v, aget ml x = some v → v = valR nx ag T x
def Closed (nx : State → List State) (ag : State → Bool) (T : Int) (ml : ML) : Prop := ∀ x, (aget ml x).isSome = true → ag x = true → x.after < T → ∀ t ∈ nx x, (aget ml t).isSome = true
def Grows (ml ml' : ML) : Prop := ∀ x, (aget ml x).isSome = true → (aget ml' x).isSome = true
theorem Grows.trans {a b c : ML} (h : Grows a b) (h' : Grows b c) : Grows a c := fun x hx => h' x (h x hx)
theorem Sound.set {ml : ML} (h : Sound nx ag T ml) {s : State} {v : Int} (hv : v = valR nx ag T s) : Sound nx ag T (aset ml s v) := by
  intro x w hx
  rw [aget_aset] at hx
  split at hx
  · rename_i e; subst e; rw [← Option.some.inj hx]; exact hv
  · exact h x w hx
theorem Grows.set (ml : ML) (s : State) (v : Int) : Grows ml (aset ml s v) := by
  intro x hx
  rw [aget_aset]
  split
  · rfl
  · exact hx
theorem Closed.set {ml : ML} (h : Closed nx ag T ml) {s : State} {v : Int} (hs : ag s = true → s.after < T → ∀ t ∈ nx s, (aget ml t).isSome = true) : Closed nx ag T (aset ml s v) := by
  intro x hx ha hl t ht
  by_cases e : x = s
  · subst e; exact Grows.set ml x v t (hs ha hl t ht)
  · rw [aget_aset, if_neg e] at hx
    exact Grows.set ml s v t (h x hx ha hl t ht)
def Good (nx : State → List State) (ag : State → Bool) (T : Int) (ml : ML) (s : State) (r : Option (Int × ML)) : Prop := ∃ ml', r = some (valR nx ag T s, ml') ∧ Sound nx ag T ml' ∧ Closed nx ag T ml' ∧ Grows ml ml' ∧ (aget ml' s).isSome = true
theorem rest_loop {M : State → ML → Option (Int × ML)} : ∀ (l : List State) (n : Int) (ml : ML), (∀ x ∈ l, ∀ ml, Sound nx ag T ml → Closed nx ag T ml → Good nx ag T ml x (M x ml)) → 0 ≤ n → n + ((l.length : Nat) : Int) * 1000000000000 ≤ 1000000000000000 → (∀ x ∈ l, valR nx ag T x ≤ 1000000000000) → Sound nx ag T ml → Closed nx ag T ml →
    ∃ ml', iterL (fR M) l (n, ml) = some (n + ((l.map fun x => R nx ag (T - x.after).toNat x).sum : Nat), ml') ∧ Sound nx ag T ml' ∧ Closed nx ag T ml' ∧ Grows ml ml' ∧ ∀ x ∈ l, (aget ml' x).isSome = true
  | [], n, ml, _, _, _, _, hS, hC => ⟨ml, by simp [iterL], hS, hC, fun _ h => h, fun x hx => by cases hx⟩
  | x :: l, n, ml, hM, h0, hb, hv, hS, hC => by
    obtain ⟨m1, e1, s1, c1, g1, i1⟩ := hM x List.mem_cons_self ml hS hC
    have hx := hv x List.mem_cons_self
    have hx0 : 0 ≤ valR nx ag T x := Int.natCast_nonneg _
    rw [List.length_cons] at hb
    obtain ⟨m2, e2, s2, c2, g2, i2⟩ := rest_loop l (n + valR nx ag T x) m1 (fun y hy => hM y (List.mem_cons_of_mem _ hy)) (by omega) (by push_cast at hb ⊢; omega) (fun y hy => hv y (List.mem_cons_of_mem _ hy)) s1 c1
    refine ⟨m2, ?_, s2, c2, g1.trans g2, fun y hy => ?_⟩
    · rw [iterL]
      unfold fR
      simp only
      rw [e1, Option.bind_some, addc_eq (by push_cast at hb; omega), Option.bind_some, Option.bind_some]
      have := e2
      unfold fR at this
      rw [this, List.map_cons, List.sum_cons]
      unfold valR
      push_cast
      rw [Int.add_assoc]
    · rcases List.mem_cons.1 hy with rfl | hy
      · exact g2 _ i1
      · exact i2 y hy
theorem rest_spec {M : Nat → State → ML → Option (Int × ML)} {V : State → Prop} (h : RestEq M V ag nx T) (hT : 0 ≤ T ∧ T ≤ 4) : ∀ (k : Nat) (fu : Nat) (s : State) (ml : ML), V s → 0 ≤ s.after → (T - s.after).toNat = k → k < fu → Sound nx ag T ml → Closed nx ag T ml → Good nx ag T ml s (M fu s ml) := by
  intro k
  induction k with
  | zero =>
    intro fu s ml hV h0 hk hf hS hC
    obtain ⟨fu, rfl⟩ : ∃ f, fu = f + 1 := ⟨fu - 1, by omega⟩
    have hle := h.le s hV
    have hl : s.after = T := by omega
    rw [h.eq fu s ml hV]
    by_cases h1 : (aget ml s).isSome = true
    · rw [if_pos h1]
      obtain ⟨v, hv⟩ := Option.isSome_iff_exists.1 h1
      refine ⟨ml, ?_, hS, hC, fun _ h => h, h1⟩
      rw [hv, Option.getD_some, hS s v hv]
    · rw [if_neg h1]
      by_cases h2 : ag s = true
      · rw [if_pos h2, if_pos hl]
        have e : (1 : Int) = valR nx ag T s := by unfold valR; rw [hk, R, if_pos h2]; rfl
        refine ⟨_, ?_, hS.set e, hC.set (fun _ hlt => absurd hlt (by omega)), Grows.set _ _ _, by rw [aget_aset, if_pos rfl]; rfl⟩
        rw [← e]
      · rw [if_neg h2]
        have e : (0 : Int) = valR nx ag T s := by unfold valR; rw [hk, R, if_neg h2]; rfl
        refine ⟨_, ?_, hS.set e, hC.set (fun ha => absurd ha h2), Grows.set _ _ _, by rw [aget_aset, if_pos rfl]; rfl⟩
        rw [← e]
  | succ k ih =>
    intro fu s ml hV h0 hk hf hS hC
    obtain ⟨fu, rfl⟩ : ∃ f, fu = f + 1 := ⟨fu - 1, by omega⟩
    have hl : s.after < T := by omega
    rw [h.eq fu s ml hV]
    by_cases h1 : (aget ml s).isSome = true
    · rw [if_pos h1]
      obtain ⟨v, hv⟩ := Option.isSome_iff_exists.1 h1
      refine ⟨ml, ?_, hS, hC, fun _ h => h, h1⟩
      rw [hv, Option.getD_some, hS s v hv]
    · rw [if_neg h1]
      by_cases h2 : ag s = true
      · rw [if_pos h2, if_neg (by omega)]
        have hlen := h.len s
        have hmx : (1000 : Nat) ^ k ≤ 1000 ^ 4 := Nat.pow_le_pow_right (by omega) (by omega)
        obtain ⟨m2, e2, s2, c2, g2, i2⟩ := rest_loop (M := M fu) (nx s) 0 ml (fun x hx ml hS hC => by
            obtain ⟨v1, v2⟩ := h.nxV s x hV hl hx
            exact ih fu x ml v1 (by omega) (by omega) (by omega) hS hC) (by omega) (by omega) (fun x hx => by
            obtain ⟨v1, v2⟩ := h.nxV s x hV hl hx
            have e3 : (T - x.after).toNat = k := by omega
            unfold valR
            rw [e3]
            have := R_le (nx := nx) (ag := ag) h.len k x
            have : R nx ag k x ≤ 1000000000000 := by
              have e4 : (1000 : Nat) ^ 4 = 1000000000000 := by decide
              omega
            omega) hS hC
        have e : ((0 : Int) + (((nx s).map fun x => R nx ag (T - x.after).toNat x).sum : Nat)) = valR nx ag T s := by
          unfold valR
          rw [hk, R, if_pos h2, Int.zero_add]
          congr 2
          apply List.map_congr_left
          intro x hx
          obtain ⟨v1, v2⟩ := h.nxV s x hV hl hx
          rw [show (T - x.after).toNat = k by omega]
        rw [e2, Option.bind_some, e]
        exact ⟨_, rfl, s2.set rfl, c2.set (fun _ _ => i2), g2.trans (Grows.set _ _ _), by rw [aget_aset, if_pos rfl]; rfl⟩
      · rw [if_neg h2]
        have e : (0 : Int) = valR nx ag T s := by unfold valR; rw [hk, R, if_neg h2]; rfl
        refine ⟨_, ?_, hS.set e, hC.set (fun ha => absurd ha h2), Grows.set _ _ _, by rw [aget_aset, if_pos rfl]; rfl⟩
        rw [← e]
end
end Go.Proofs.Wb

namespace Go.Proofs.Wb
open Go Go.Fw Go.Gx Go.Sb
set_option linter.unusedVariables false
set_option maxRecDepth 100000
theorem iterL_pair {α σ τ : Type} (g : σ → τ) {f : α → σ → Option σ} {f' : α → τ → Option τ} (h : ∀ x s, (f x s).map g = f' x (g s)) : ∀ (l : List α) (s : σ), (iterL f l s).map g = iterL f' l (g s)
  | [], s => rfl
  | x :: l, s => by
    rw [iterL, iterL, ← h]
    cases f x s with
    | none => rfl
    | some s' => exact iterL_pair g h l s'
def VS (c : Channel) (s : State) : Prop := (∃ l, rowB c l = true ∧ s.at_ = mkCells l) ∧ 0 ≤ s.after ∧ s.after ≤ c.tides
def agS (cnt : Nat → Bool) (c : Channel) (s : State) : Bool := agP cnt c.sights s.after (clS c.fords.length s)
def nxS (c : Channel) (s : State) : List State := nextL c.cells (rchL c) (c.fords.length : Int) s
theorem putL_len {n : Nat} {reach : List Int} {a : Cells} : ∀ (m : Nat) (pre : List Int), (putL n reach a m pre).length ≤ n ^ m
  | 0, pre => by simp [putL]
  | m + 1, pre => by
    rw [putL, List.length_flatMap]
    have h := sum_le (fun x : Nat => (if okN reach a pre (x : Int) = true then putL n reach a m (pre ++ [(x : Int)]) else []).length) (n ^ m) (List.range n) (fun x _ => by
      split
      · exact putL_len m _
      · exact Nat.zero_le _)
    rw [List.length_range] at h
    rw [Nat.pow_succ, Nat.mul_comm]
    exact h
theorem nxS_len {c : Channel} (r : Right c) (s : State) : (nxS c s).length ≤ 1000 := by
  have hc := r.cells
  have hf := r.fords
  unfold nxS nextL
  rw [List.length_map]
  refine Nat.le_trans (putL_len _ _) ?_
  have h1 : c.cells.toNat ^ (c.fords.length : Int).toNat ≤ 10 ^ (c.fords.length : Int).toNat := Nat.pow_le_pow_left (by omega) _
  have h2 : 10 ^ (c.fords.length : Int).toNat ≤ 10 ^ 3 := Nat.pow_le_pow_right (by omega) (by omega)
  omega
theorem nxS_mem {c : Channel} (r : Right c) {s t : State} : t ∈ nxS c s ↔ ∃ l, CanS c.cells (rchL c) c.fords.length s.at_ l ∧ t = ⟨s.after + 1, mkCells l⟩ := by
  have hc := r.cells
  unfold nxS
  rw [mem_nextL (by omega), Int.toNat_natCast]
theorem row_of_can {c : Channel} {a : Cells} {l : List Int} (h : CanS c.cells (rchL c) c.fords.length a l) : rowB c l = true := by
  rw [rowB_iff]
  refine ⟨h.len, upB_ix.2 fun i hi => h.up i (by rw [← h.len]; exact hi), fun x hx => ?_⟩
  obtain ⟨i, hi, rfl⟩ := List.getElem_of_mem hx
  have := h.inC i (by rw [← h.len]; exact hi)
  simpa [List.getD_eq_getElem?_getD, hi] using this
theorem nxS_V {c : Channel} (r : Right c) {s t : State} (hs : VS c s) (hl : s.after < c.tides) (ht : t ∈ nxS c s) : VS c t ∧ t.after = s.after + 1 := by
  obtain ⟨l, h1, rfl⟩ := (nxS_mem r).1 ht
  obtain ⟨_, h2, h3⟩ := hs
  exact ⟨⟨⟨l, row_of_can h1, rfl⟩, by simp only; omega, by simp only; omega⟩, rfl⟩
theorem nxS_nodup {c : Channel} (r : Right c) (s : State) : (nxS c s).Nodup := nextL_nodup (by have := r.fords; omega)
theorem VS_next {c : Channel} (r : Right c) {s : State} (h : VS c s) : nextOK c.cells (rchL c) (c.fords.length : Int) s := by
  obtain ⟨⟨l, h1, h2⟩, h3, h4⟩ := h
  have ht := r.tides
  obtain ⟨k, a⟩ := s
  simp only at h2 h3 h4
  subst h2
  exact nextOK_of r h1 (by omega)
def MR (c : Channel) (fu : Nat) (s : State) (ml : ML) : Option (Int × ML) := (jO fu s ml c.cells c.tides c.fords c.sands c.sights (rchL c)).map fun q => (q.r0, q.a11)
theorem restEq_all {c : Channel} (r : Right c) : RestEq (MR c) (VS c) (agS (fun _ => true) c) (nxS c) c.tides where
  eq fu s ml hV := by
    have hf := r.fords
    have hs := r.sights
    unfold MR
    rw [jO]
    unfold yk
    by_cases h1 : (aget ml s).isSome = true
    · rw [if_pos h1, if_pos h1]; rfl
    · rw [if_neg h1, if_neg h1, Z6 (by omega) (by omega), Option.bind_some, not_true_if]
      show _ = if agS (fun _ => true) c s = true then _ else _
      unfold agS
      by_cases h2 : agP (fun _ => true) c.sights s.after (clS c.fords.length s) = true
      · rw [if_pos h2, if_pos h2]
        by_cases h3 : s.after = c.tides
        · rw [if_pos h3, if_pos h3]; rfl
        · rw [if_neg h3, if_neg h3]
          unfold kH
          rw [Option.bind_some, if_pos (VS_next r hV)]
          have hp := iterL_pair (fun q : ku => (q.n9, q.a11)) (f := qb (jO fu) c.cells c.tides c.fords c.sands c.sights (rchL c)) (f' := fR (MR c fu)) (fun x q => by
            unfold qb fR MR
            cases jO fu x q.a11 c.cells c.tides c.fords c.sands c.sights (rchL c) with
            | none => rfl
            | some q' =>
              simp only [Option.bind_some, Option.map_some]
              cases addc q.n9 q'.r0 <;> rfl) (nxS c s) ⟨0, ml⟩
          simp only at hp
          show _ = (iterL (fR (MR c fu)) (nxS c s) (0, ml)).bind _
          rw [← hp]
          unfold nxS
          cases iterL (qb (jO fu) c.cells c.tides c.fords c.sands c.sights (rchL c)) (nextL c.cells (rchL c) (c.fords.length : Int) s) ⟨0, ml⟩ <;> rfl
      · rw [if_neg h2, if_neg h2]; rfl
  nxV s t hs hl ht := nxS_V r hs hl ht
  le s hs := hs.2.2
  len s := nxS_len r s
def first (c : Channel) : State := ⟨0, mkCells c.fords⟩
theorem first_V {c : Channel} (r : Right c) : VS c (first c) := ⟨⟨c.fords, rowB_iff.2 ⟨rfl, r.up, r.fcell⟩, rfl⟩, Int.le_refl _, r.tides.1⟩
theorem Zt {c : Channel} (r : Right c) : ∃ ml, yf c.cells c.tides c.fords c.sands c.sights (rchL c) = some ml ∧ Sound (nxS c) (agS (fun _ => true) c) c.tides ml ∧ Closed (nxS c) (agS (fun _ => true) c) c.tides ml ∧ (aget ml (first c)).isSome = true := by
  have hf := r.fords
  have ht := r.tides
  unfold yf
  rw [Q4 (by omega), Option.bind_some]
  obtain ⟨ml, e, s1, c1, _, i1⟩ := rest_spec (restEq_all r) ht (c.tides - (first c).after).toNat FU (first c) [] (first_V r) (Int.le_refl _) rfl (by unfold first FU; simp only; omega) (fun x v hx => by simp [aget, afind] at hx) (fun x hx => by simp [aget, afind] at hx)
  unfold MR at e
  rw [Option.map_eq_some_iff] at e
  obtain ⟨q, e1, e2⟩ := e
  simp only [Prod.mk.injEq] at e2
  refine ⟨ml, ?_, s1, c1, i1⟩
  show (jO FU (first c) [] c.cells c.tides c.fords c.sands c.sights (rchL c)).bind _ = _
  rw [e1, Option.bind_some, e2.2]
def cntS (cnt : Nat → Bool) (c : Channel) : Nat := R (nxS c) (agS cnt c) c.tides.toNat (first c)
theorem jaq {c : Channel} (r : Right c) : ye c.cells c.tides c.fords c.sands c.sights (rchL c) = some (cntS (fun _ => true) c : Int) := by
  have hf := r.fords
  unfold ye Kg
  obtain ⟨ml, e, s1, c1, i1⟩ := Zt r
  rw [Option.bind_some, e, Option.bind_some, Q4 (by omega), Option.bind_some]
  obtain ⟨v, hv⟩ := Option.isSome_iff_exists.1 i1
  have := s1 _ _ hv
  show some ((aget ml (first c)).getD 0) = _
  rw [hv, Option.getD_some, this]
  unfold valR cntS first
  simp
theorem jan {c : Channel} (h : Few c) : yP c = some (if chk c = 0 then ⟨(cntS (fun _ => true) c : Int), 0⟩ else ⟨0, chk c⟩) := by
  unfold yP
  rw [Y9 h, Option.bind_some]
  by_cases h0 : chk c = 0
  · rw [if_pos h0, if_pos h0, oc_inr, jaq (rightOf h0)]; rfl
  · rw [if_neg h0, if_neg h0, oc_inl]
end Go.Proofs.Wb

namespace Go.Proofs.Wb
open Go Go.Fw Go.Gx Go.Sb
set_option linter.unusedVariables false
set_option maxRecDepth 100000
def stepP (ml : ML) (p : List (State × Bool) × List State) (x : State) : List (State × Bool) × List State := if 0 < (aget ml x).getD 0 ∧ (aget p.1 x).getD false = false then (aset p.1 x true, p.2 ++ [x]) else p
theorem stepP_len (ml : ML) : ∀ (L : List State) (p : List (State × Bool) × List State), (L.foldl (stepP ml) p).2.length ≤ p.2.length + L.length
  | [], p => by simp
  | x :: L, p => by
    rw [List.foldl_cons, List.length_cons]
    have h := stepP_len ml L (stepP ml p x)
    have h2 : (stepP ml p x).2.length ≤ p.2.length + 1 := by
      unfold stepP
      split
      · simp
      · omega
    omega
theorem fit_F2 (ml : ML) : ∀ (L : List State) (p : List (State × Bool) × List State), p.2.length + L.length ≤ 3000000000000 → iterL (qI ml) L ⟨p.1, p.2⟩ = some ⟨(L.foldl (stepP ml) p).1, (L.foldl (stepP ml) p).2⟩
  | [], p, _ => rfl
  | x :: L, p, h => by
    rw [List.length_cons] at h
    rw [iterL, List.foldl_cons]
    have hs : qI ml x ⟨p.1, p.2⟩ = some ⟨(stepP ml p x).1, (stepP ml p x).2⟩ := by
      unfold qI stepP
      simp only
      by_cases h1 : 0 < (aget ml x).getD 0
      · rw [if_pos h1, Option.bind_some]
        by_cases h2 : (aget p.1 x).getD false = false
        · rw [if_pos (by simp [h2]), if_pos ⟨h1, h2⟩, appc_eq (by simp; omega)]
          rfl
        · rw [if_neg (by simpa using h2), if_neg (fun q => h2 q.2)]
      · rw [if_neg h1, Option.bind_some, if_neg (by decide), if_neg (fun q => h1 q.1)]
    have h2 : (stepP ml p x).2.length ≤ p.2.length + 1 := stepP_len ml [x] p
    rw [hs, Option.bind_some]
    exact fit_F2 ml L (stepP ml p x) (by omega)
def Met (p : List (State × Bool) × List State) : Prop := ∀ x, (aget p.1 x).getD false = decide (x ∈ p.2)
theorem stepP_met {ml : ML} {p : List (State × Bool) × List State} {x : State} (h : Met p) : Met (stepP ml p x) ∧ ∀ y, y ∈ (stepP ml p x).2 ↔ y ∈ p.2 ∨ (y = x ∧ 0 < (aget ml y).getD 0) := by
  unfold stepP
  by_cases h1 : 0 < (aget ml x).getD 0 ∧ (aget p.1 x).getD false = false
  · rw [if_pos h1]
    constructor
    · intro y
      simp only
      rw [aget_aset]
      by_cases e : y = x
      · rw [if_pos e]; simp [e]
      · rw [if_neg e, h y]; simp [e]
    · intro y
      simp only [List.mem_append, List.mem_singleton]
      constructor
      · rintro (h2 | rfl)
        · exact .inl h2
        · exact .inr ⟨rfl, h1.1⟩
      · rintro (h2 | ⟨rfl, _⟩)
        · exact .inl h2
        · exact .inr rfl
  · rw [if_neg h1]
    refine ⟨h, fun y => ⟨.inl, ?_⟩⟩
    rintro (h2 | ⟨rfl, h2⟩)
    · exact h2
    · have h3 : ¬ (aget p.1 y).getD false = false := fun q => h1 ⟨h2, q⟩
      rw [h y] at h3
      simpa using h3
theorem foldP_met {ml : ML} : ∀ (L : List State) (p : List (State × Bool) × List State), Met p → Met (L.foldl (stepP ml) p) ∧ ∀ y, y ∈ (L.foldl (stepP ml) p).2 ↔ y ∈ p.2 ∨ (y ∈ L ∧ 0 < (aget ml y).getD 0)
  | [], p, h => ⟨h, fun y => by simp⟩
  | x :: L, p, h => by
    obtain ⟨h1, h2⟩ := stepP_met (ml := ml) (x := x) h
    obtain ⟨h3, h4⟩ := foldP_met L _ h1
    refine ⟨h3, fun y => ?_⟩
    rw [List.foldl_cons, h4 y, h2 y, List.mem_cons]
    constructor
    · rintro ((h | ⟨h, q⟩) | ⟨h, q⟩)
      · exact .inl h
      · exact .inr ⟨.inl h, q⟩
      · exact .inr ⟨.inr h, q⟩
    · rintro (h | ⟨h | h, q⟩)
      · exact .inl (.inl h)
      · exact .inl (.inr ⟨h, q⟩)
      · exact .inr ⟨h, q⟩
def rowP (ml : ML) (nx : State → List State) (l : List State) : List State := ((l.flatMap nx).foldl (stepP ml) ([], [])).2
theorem mem_rowP {ml : ML} {nx : State → List State} {l : List State} {y : State} : y ∈ rowP ml nx l ↔ (∃ s ∈ l, y ∈ nx s) ∧ 0 < (aget ml y).getD 0 := by
  unfold rowP
  rw [(foldP_met (ml := ml) (l.flatMap nx) ([], []) (fun x => by simp [aget, afind])).2 y, List.mem_flatMap]
  simp
theorem flatMap_len {nx : State → List State} (h : ∀ s, (nx s).length ≤ 1000) (l : List State) : (l.flatMap nx).length ≤ l.length * 1000 := by
  rw [List.length_flatMap]
  exact sum_le (fun s => (nx s).length) 1000 l (fun x _ => h x)
theorem rowP_len {ml : ML} {nx : State → List State} (h : ∀ s, (nx s).length ≤ 1000) (l : List State) : (rowP ml nx l).length ≤ l.length * 1000 := by
  have := stepP_len ml (l.flatMap nx) ([], [])
  have := flatMap_len h l
  unfold rowP
  simp only [List.length_nil, Nat.zero_add] at *
  omega
theorem fit_L1 {c : Channel} (r : Right c) (ml : ML) {l : List State} (hl : l.length ≤ 1000000000) (hV : ∀ s ∈ l, VS c s) :
    ∃ met, iterM FU (kQ l c.cells c.tides c.fords c.sands c.sights (rchL c) ml) ⟨0, [], []⟩ = some ⟨met, rowP ml (nxS c) l⟩ := by
  refine ⟨((l.flatMap (nxS c)).foldl (stepP ml) ([], [])).1, ?_⟩
  have key := iterM_run (f := kQ l c.cells c.tides c.fords c.sands c.sights (rchL c) ml) (fun j => ⟨(j : Int), (((l.take j).flatMap (nxS c)).foldl (stepP ml) ([], [])).1, (((l.take j).flatMap (nxS c)).foldl (stepP ml) ([], [])).2⟩) l.length (b := ⟨((l.flatMap (nxS c)).foldl (stepP ml) ([], [])).1, ((l.flatMap (nxS c)).foldl (stepP ml) ([], [])).2⟩) (fun j hj => ?_) ?_ FU (FU_lt (by omega))
  · exact key
  · have e : l.take (j + 1) = l.take j ++ [l[j]] := by rw [List.take_append_getElem]
    have hx : l.getD j default = l[j] := by simp [List.getD_eq_getElem?_getD, hj]
    unfold kQ kH
    simp only
    rw [if_pos (by omega), ix_nat default hj, Option.bind_some, hx, Option.bind_some, if_pos (VS_next r (hV _ (List.getElem_mem hj)))]
    have h1 := stepP_len ml ((l.take j).flatMap (nxS c)) ([], [])
    have h2 := flatMap_len (nxS_len r) (l.take j)
    have h3 := nxS_len r l[j]
    have h4 : (l.take j).length ≤ l.length := by rw [List.length_take]; omega
    have h5 := Nat.mul_le_mul_right 1000 h4
    have hf := fit_F2 ml (nxS c l[j]) (((l.take j).flatMap (nxS c)).foldl (stepP ml) ([], [])) (by simp only [List.length_nil, Nat.zero_add] at h1; omega)
    unfold nxS at hf
    unfold nxS
    rw [hf, Option.bind_some, addc_eq (by omega), Option.bind_some, e, List.flatMap_append, List.foldl_append]
    simp
  · unfold kQ
    simp only
    rw [if_neg (by omega), List.take_length]
def lev (c : Channel) (ml : ML) : Nat → List State
  | 0 => [first c]
  | k + 1 => rowP ml (nxS c) (lev c ml k)
theorem lev_len {c : Channel} (r : Right c) (ml : ML) : ∀ k, (lev c ml k).length ≤ 1000 ^ k
  | 0 => by simp [lev]
  | k + 1 => by
    have h := rowP_len (ml := ml) (nxS_len r) (lev c ml k)
    have h2 := Nat.mul_le_mul_right 1000 (lev_len r ml k)
    rw [lev, Nat.pow_succ]
    omega
theorem lev_V {c : Channel} (r : Right c) (ml : ML) : ∀ k : Nat, (k : Int) ≤ c.tides → ∀ s ∈ lev c ml k, VS c s ∧ s.after = (k : Int)
  | 0, _, s, hs => by
    simp only [lev, List.mem_singleton] at hs
    subst hs
    exact ⟨first_V r, rfl⟩
  | k + 1, hk, s, hs => by
    obtain ⟨⟨u, hu, hn⟩, _⟩ := mem_rowP.1 hs
    obtain ⟨h1, h2⟩ := lev_V r ml k (by omega) u hu
    obtain ⟨h3, h4⟩ := nxS_V r h1 (by omega) hn
    exact ⟨h3, by omega⟩
theorem lev_on {c : Channel} (r : Right c) {ml : ML} (hS : Sound (nxS c) (agS (fun _ => true) c) c.tides ml) (hC : Closed (nxS c) (agS (fun _ => true) c) c.tides ml) (hi : (aget ml (first c)).isSome = true) (hp : 0 < cntS (fun _ => true) c) :
    ∀ k : Nat, (k : Int) ≤ c.tides → ∀ t, (t ∈ lev c ml k ↔ On (nxS c) (agS (fun _ => true) c) k c.tides.toNat (first c) t) ∧ (t ∈ lev c ml k → (aget ml t).isSome = true)
  | 0, _, t => by
    constructor
    · rw [lev, List.mem_singleton, on_zero]
      constructor
      · intro h; exact ⟨h, hp⟩
      · exact fun h => h.1
    · intro h
      rw [lev, List.mem_singleton] at h
      rw [h]; exact hi
  | k + 1, hk, t => by
    have ih := lev_on r hS hC hi hp k (by omega)
    have hsome : t ∈ lev c ml (k + 1) → (aget ml t).isSome = true := by
      intro h
      have h2 := (mem_rowP.1 h).2
      cases hq : aget ml t with
      | none => rw [hq] at h2; simp at h2
      | some v => rfl
    refine ⟨?_, hsome⟩
    rw [on_succ (by omega)]
    constructor
    · intro h
      obtain ⟨⟨u, hu, hn⟩, h2⟩ := mem_rowP.1 h
      obtain ⟨v1, v2⟩ := lev_V r ml k (by omega) u hu
      obtain ⟨v3, v4⟩ := nxS_V r v1 (by omega) hn
      refine ⟨u, (ih u).1.1 hu, hn, ?_⟩
      obtain ⟨v, hv⟩ := Option.isSome_iff_exists.1 (hsome h)
      have h3 := hS t v hv
      rw [hv, Option.getD_some, h3] at h2
      unfold valR at h2
      rw [show (c.tides - t.after).toNat = c.tides.toNat - k - 1 by omega] at h2
      omega
    · rintro ⟨u, hu, hn, h2⟩
      have hu' := (ih u).1.2 hu
      obtain ⟨v1, v2⟩ := lev_V r ml k (by omega) u hu'
      obtain ⟨v3, v4⟩ := nxS_V r v1 (by omega) hn
      have hag := R_ag (on_R (by omega) hu)
      have hst := hC u ((ih u).2 hu') hag (by omega) t hn
      obtain ⟨v, hv⟩ := Option.isSome_iff_exists.1 hst
      have h3 := hS t v hv
      refine mem_rowP.2 ⟨⟨u, hu', hn⟩, ?_⟩
      rw [hv, Option.getD_some, h3]
      unfold valR
      rw [show (c.tides - t.after).toNat = c.tides.toNat - k - 1 by omega]
      omega
structure Levs (c : Channel) (L : List (List State)) : Prop where
  len : (L.length : Int) = c.tides + 1
  mem : ∀ k : Nat, (k : Int) ≤ c.tides → ∀ t, t ∈ L.getD k [] ↔ On (nxS c) (agS (fun _ => true) c) k c.tides.toNat (first c) t
  val : ∀ k : Nat, (k : Int) ≤ c.tides → ∀ s ∈ L.getD k [], VS c s ∧ s.after = (k : Int)
  bnd : ∀ k : Nat, (k : Int) ≤ c.tides → (L.getD k []).length ≤ 1000000000000
theorem ZM {c : Channel} (r : Right c) : ∃ L, yo c.cells c.tides c.fords c.sands c.sights (rchL c) = some (if cntS (fun _ => true) c = 0 then .inl () else .inr L) ∧ (cntS (fun _ => true) c ≠ 0 → Levs c L) := by
  have hf := r.fords
  have ht := r.tides
  obtain ⟨ml, e, s1, c1, i1⟩ := Zt r
  obtain ⟨v, hv⟩ := Option.isSome_iff_exists.1 i1
  have hv2 := s1 _ _ hv
  have hv3 : v = (cntS (fun _ => true) c : Int) := by
    rw [hv2]
    unfold valR cntS first
    simp
  refine ⟨(List.range (c.tides.toNat + 1)).map (lev c ml), ?_, ?_⟩
  · unfold yo Kg
    rw [Option.bind_some, e, Option.bind_some, Q4 (by omega), Option.bind_some]
    show (if (aget ml (first c)).getD 0 = 0 then _ else _) = _
    rw [hv, Option.getD_some, hv3]
    by_cases h0 : cntS (fun _ => true) c = 0
    · rw [if_pos (by omega), if_pos h0]
    · rw [if_neg (by omega), if_neg h0, Option.bind_some]
      have key := iterM_run (f := kS c.tides c.cells c.fords c.sands c.sights (rchL c) ml) (fun j => ⟨(j : Int), (List.range (j + 1)).map (lev c ml)⟩) c.tides.toNat (b := (List.range (c.tides.toNat + 1)).map (lev c ml)) (fun j hj => ?_) ?_ FU (FU_lt (by omega))
      · show (iterM FU (kS c.tides c.cells c.fords c.sands c.sights (rchL c) ml) ⟨((0 : Nat) : Int), (List.range (0 + 1)).map (lev c ml)⟩).bind _ = _
        rw [key]; rfl
      · unfold kS
        simp only
        have hlen := lev_len r ml j
        have hpw : (1000 : Nat) ^ j ≤ 1000 ^ 3 := Nat.pow_le_pow_right (by omega) (by omega)
        have e3 : (1000 : Nat) ^ 3 = 1000000000 := by decide
        obtain ⟨met, hm⟩ := fit_L1 r ml (l := lev c ml j) (by omega) (fun s hs => (lev_V r ml j (by omega) s hs).1)
        rw [if_pos (by omega), range_ix (by omega), Option.bind_some, hm, Option.bind_some, appc_eq (by simp; omega), Option.bind_some, addc_eq (by omega), Option.bind_some, List.range_succ (n := j + 1), List.map_append]
        rfl
      · unfold kS
        simp only
        rw [if_neg (by omega)]
  · intro h0
    have hg : ∀ k : Nat, (k : Int) ≤ c.tides → ((List.range (c.tides.toNat + 1)).map (lev c ml)).getD k [] = lev c ml k := by
      intro k hk
      rw [List.getD_eq_getElem?_getD, List.getElem?_map, List.getElem?_range (by omega)]
      rfl
    refine ⟨by simp; omega, fun k hk t => ?_, fun k hk s hs => ?_, fun k hk => ?_⟩
    · rw [hg k hk]; exact (lev_on r s1 c1 i1 (by omega) k hk t).1
    · rw [hg k hk] at hs; exact lev_V r ml k hk s hs
    · rw [hg k hk]
      have := lev_len r ml k
      have hpw : (1000 : Nat) ^ k ≤ 1000 ^ 4 := Nat.pow_le_pow_right (by omega) (by omega)
      have e4 : (1000 : Nat) ^ 4 = 1000000000000 := by decide
      omega
theorem Z5 {c : Channel} (h : Few c) : ∃ L, yr c = some (if chk c = 0 then (if cntS (fun _ => true) c = 0 then .inl 7 else .inr ⟨c.cells, c.tides, L, rchL c⟩) else .inl (chk c)) ∧ (chk c = 0 → cntS (fun _ => true) c ≠ 0 → Levs c L) := by
  unfold yr
  rw [Y9 h, Option.bind_some]
  by_cases h0 : chk c = 0
  · have r := rightOf h0
    obtain ⟨L, e, hL⟩ := ZM r
    refine ⟨L, ?_, fun _ h1 => hL h1⟩
    rw [if_pos h0, if_pos h0, oc_inr, e, Option.bind_some]
    by_cases h1 : cntS (fun _ => true) c = 0
    · rw [if_pos h1, if_pos h1, oc_inl]
    · rw [if_neg h1, if_neg h1, oc_inr, if_pos (by have := (hL h1).len; have := r.tides; omega)]
  · exact ⟨[], by rw [if_neg h0, if_neg h0, oc_inl], fun h => absurd h h0⟩
end Go.Proofs.Wb

namespace Go.Proofs.Wb
open Go Go.Fw Go.Gx Go.Sb
set_option linter.unusedVariables false
set_option maxRecDepth 100000
def sumN {α : Type} (l : List α) (f : α → Nat) : Nat := (l.map f).sum
theorem sumN_nil {α : Type} (f : α → Nat) : sumN [] f = 0 := rfl
theorem sumN_cons {α : Type} (x : α) (l : List α) (f : α → Nat) : sumN (x :: l) f = f x + sumN l f := by unfold sumN; rw [List.map_cons, List.sum_cons]
theorem sumN_append {α : Type} (l m : List α) (f : α → Nat) : sumN (l ++ m) f = sumN l f + sumN m f := by unfold sumN; rw [List.map_append, List.sum_append]
theorem sumN_congr {α : Type} {l : List α} {f g : α → Nat} (h : ∀ x ∈ l, f x = g x) : sumN l f = sumN l g := by unfold sumN; rw [List.map_congr_left h]
theorem sumN_zero {α : Type} {l : List α} {f : α → Nat} (h : ∀ x ∈ l, f x = 0) : sumN l f = 0 := by
  induction l with
  | nil => rfl
  | cons x l ih => rw [sumN_cons, h x List.mem_cons_self, ih (fun y hy => h y (List.mem_cons_of_mem _ hy))]
theorem sumN_add {α : Type} (l : List α) (f g : α → Nat) : sumN l (fun x => f x + g x) = sumN l f + sumN l g := by
  induction l with
  | nil => rfl
  | cons x l ih => rw [sumN_cons, sumN_cons, sumN_cons, ih]; omega
theorem sumN_mul {α : Type} (l : List α) (f : α → Nat) (k : Nat) : sumN l (fun x => f x * k) = sumN l f * k := by
  induction l with
  | nil => simp [sumN]
  | cons x l ih => rw [sumN_cons, sumN_cons, ih, Nat.add_mul]
theorem sumN_mul' {α : Type} (l : List α) (f : α → Nat) (k : Nat) : sumN l (fun x => k * f x) = k * sumN l f := by
  induction l with
  | nil => simp [sumN]
  | cons x l ih => rw [sumN_cons, sumN_cons, ih, Nat.mul_add]
theorem sumN_comm {α β : Type} (l : List α) (m : List β) (f : α → β → Nat) : sumN l (fun x => sumN m fun y => f x y) = sumN m fun y => sumN l fun x => f x y := by
  induction l with
  | nil => rw [sumN_nil, sumN_zero (fun y _ => sumN_nil _)]
  | cons x l ih =>
    rw [sumN_cons, ih, ← sumN_add]
    refine sumN_congr fun y _ => ?_
    rw [sumN_cons]
theorem sumN_pos {α : Type} {l : List α} {f : α → Nat} : 0 < sumN l f ↔ ∃ x ∈ l, 0 < f x := by
  induction l with
  | nil => simp [sumN]
  | cons x l ih =>
    rw [sumN_cons]
    constructor
    · intro h
      by_cases hx : 0 < f x
      · exact ⟨x, List.mem_cons_self, hx⟩
      · obtain ⟨y, hy, h2⟩ := ih.1 (by omega)
        exact ⟨y, List.mem_cons_of_mem _ hy, h2⟩
    · rintro ⟨y, hy, h⟩
      rcases List.mem_cons.1 hy with rfl | hy
      · omega
      · have := ih.2 ⟨y, hy, h⟩; omega
theorem sumN_perm {α : Type} {l m : List α} (h : l.Perm m) (f : α → Nat) : sumN l f = sumN m f := by
  unfold sumN
  exact (h.map f).sum_nat
theorem sumN_map {α β : Type} (l : List α) (g : α → β) (f : β → Nat) : sumN (l.map g) f = sumN l fun x => f (g x) := by unfold sumN; rw [List.map_map]; rfl
theorem sumN_filter {α : Type} (l : List α) (p : α → Bool) (f : α → Nat) : sumN (l.filter p) f = sumN l fun x => if p x = true then f x else 0 := by
  induction l with
  | nil => rfl
  | cons x l ih =>
    rw [List.filter_cons, sumN_cons, ← ih]
    split
    · rw [sumN_cons]
    · rw [Nat.zero_add]
theorem sumN_one {α : Type} [DecidableEq α] {l : List α} (hn : l.Nodup) {a : α} (ha : a ∈ l) (k : Nat) : sumN l (fun x => if x = a then k else 0) = k := by
  induction l with
  | nil => cases ha
  | cons x l ih =>
    obtain ⟨h1, h2⟩ := List.nodup_cons.1 hn
    rw [sumN_cons]
    by_cases hx : x = a
    · subst hx
      rw [if_pos rfl, sumN_zero (fun y hy => if_neg (fun e : y = x => h1 (e ▸ hy)))]
      rfl
    · rw [if_neg hx, ih h2 ((List.mem_cons.1 ha).resolve_left (fun e => hx e.symm)), Nat.zero_add]
def incL (below : Nat) : Nat → Nat → List (List Int)
  | 0, _ => [[]]
  | m + 1, fr => (List.range (below - fr)).flatMap fun d => (incL below m (fr + d + 1)).map (((fr + d : Nat) : Int) :: ·)
theorem mem_incL {below : Nat} : ∀ (m fr : Nat) (l : List Int), l ∈ incL below m fr ↔ l.length = m ∧ upB l = true ∧ ∀ x ∈ l, (fr : Int) ≤ x ∧ x < (below : Int)
  | 0, fr, l => by
    rw [incL, List.mem_singleton]
    constructor
    · rintro rfl; exact ⟨rfl, rfl, fun x hx => by cases hx⟩
    · rintro ⟨h, _⟩; exact List.length_eq_zero_iff.1 h
  | m + 1, fr, l => by
    rw [incL]
    simp only [List.mem_flatMap, List.mem_range, List.mem_map]
    constructor
    · rintro ⟨d, hd, v, hv, rfl⟩
      obtain ⟨h1, h2, h3⟩ := (mem_incL m _ v).1 hv
      refine ⟨by simp [h1], ?_, fun x hx => ?_⟩
      · rw [upB_iff, List.pairwise_cons]
        exact ⟨fun y hy => by have := h3 y hy; push_cast at this ⊢; omega, upB_iff.1 h2⟩
      · rcases List.mem_cons.1 hx with rfl | hx
        · push_cast; omega
        · have := h3 x hx; push_cast at this; omega
    · rintro ⟨h1, h2, h3⟩
      cases l with
      | nil => simp at h1
      | cons y v =>
        have hy := h3 y List.mem_cons_self
        obtain ⟨q1, q2⟩ := List.pairwise_cons.1 (upB_iff.1 h2)
        refine ⟨y.toNat - fr, by omega, v, (mem_incL m _ v).2 ⟨by simpa using h1, upB_iff.2 q2, fun x hx => ?_⟩, ?_⟩
        · have a := q1 x hx
          have b := h3 x (List.mem_cons_of_mem _ hx)
          push_cast
          omega
        · congr 1
          omega
theorem incL_nodup {below : Nat} : ∀ (m fr : Nat), (incL below m fr).Nodup
  | 0, fr => by simp [incL]
  | m + 1, fr => by
    rw [incL]
    refine nodup_flatMap' List.nodup_range (fun d _ => nodup_map' (incL_nodup m _) (fun a _ b _ h => by simpa using h)) ?_
    intro d _ e _ w h1 h2
    obtain ⟨v, _, rfl⟩ := List.mem_map.1 h1
    obtain ⟨v', _, he⟩ := List.mem_map.1 h2
    injection he with he _
    omega
theorem incL_len {below : Nat} : ∀ (m fr : Nat), (incL below m fr).length ≤ below ^ m
  | 0, fr => by simp [incL]
  | m + 1, fr => by
    rw [incL, List.length_flatMap]
    have h := sum_le (fun d => ((incL below m (fr + d + 1)).map (((fr + d : Nat) : Int) :: ·)).length) (below ^ m) (List.range (below - fr)) (fun d _ => by rw [List.length_map]; exact incL_len m _)
    rw [List.length_range] at h
    have h2 := Nat.mul_le_mul_right (below ^ m) (show below - fr ≤ below by omega)
    rw [Nat.pow_succ, Nat.mul_comm]
    omega
def LL (c : Channel) : List (List Int) := incL c.cells.toNat c.fords.length 0
theorem mem_LL {c : Channel} (hc : 0 ≤ c.cells) {l : List Int} : l ∈ LL c ↔ rowB c l = true := by
  unfold LL
  rw [mem_incL, rowB_iff]
  constructor
  · rintro ⟨h1, h2, h3⟩; exact ⟨h1, h2, fun x hx => by have := h3 x hx; push_cast at this; omega⟩
  · rintro ⟨h1, h2, h3⟩; exact ⟨h1, h2, fun x hx => by have := h3 x hx; push_cast; omega⟩
theorem LL_nodup (c : Channel) : (LL c).Nodup := incL_nodup _ _
theorem LL_len {c : Channel} (r : Right c) : (LL c).length ≤ 1000 := by
  have hc := r.cells
  have hf := r.fords
  refine Nat.le_trans (incL_len _ _) ?_
  have h1 : c.cells.toNat ^ c.fords.length ≤ 10 ^ c.fords.length := Nat.pow_le_pow_left (by omega) _
  have h2 : 10 ^ c.fords.length ≤ 10 ^ 3 := Nat.pow_le_pow_right (by omega) (by omega)
  omega
def stL (k : Nat) (l : List Int) : State := ⟨(k : Int), mkCells l⟩
theorem nxS_perm {c : Channel} (r : Right c) {k : Nat} {a : List Int} (ha : rowB c a = true) : (nxS c (stL k a)).Perm (((LL c).filter fun l => canB c.sands a l).map (stL (k + 1))) := by
  have hc := r.cells
  have hf := r.fords
  refine (List.perm_ext_iff_of_nodup (nxS_nodup r _) (nodup_map' ((LL_nodup c).filter _) (fun x hx y hy h => ?_))).2 (fun t => ?_)
  · have hx' := (rowB_iff.1 ((mem_LL (by omega)).1 (List.mem_filter.1 hx).1)).1
    have hy' := (rowB_iff.1 ((mem_LL (by omega)).1 (List.mem_filter.1 hy).1)).1
    simp only [stL, State.mk.injEq, true_and] at h
    exact mkCells_inj (by omega) (by omega) h
  · rw [nxS_mem r, List.mem_map]
    constructor
    · rintro ⟨l, h, rfl⟩
      have hr := row_of_can h
      exact ⟨l, List.mem_filter.2 ⟨(mem_LL (by omega)).2 hr, (can_iff r ha hr).2 h⟩, by simp [stL]⟩
    · rintro ⟨l, h, rfl⟩
      obtain ⟨h1, h2⟩ := List.mem_filter.1 h
      exact ⟨l, (can_iff r ha ((mem_LL (by omega)).1 h1)).1 h2, by simp [stL]⟩
def FcL (cnt : Nat → Bool) (c : Channel) : Nat → List Int → Nat
  | 0, l => if agP cnt c.sights 0 l = true ∧ l = c.fords then 1 else 0
  | k + 1, l => if agP cnt c.sights ((k + 1 : Nat) : Int) l = true then sumN (LL c) fun a => if canB c.sands a l = true then FcL cnt c k a else 0 else 0
theorem agS_stL {cnt : Nat → Bool} {c : Channel} (r : Right c) {k : Nat} {l : List Int} (h : rowB c l = true) : agS cnt c (stL k l) = agP cnt c.sights (k : Int) l := by
  have hf := r.fords
  have h1 := (rowB_iff.1 h).1
  unfold agS stL
  simp only
  rw [← h1, clS_mk (by omega)]
theorem R_stL {cnt : Nat → Bool} {c : Channel} (r : Right c) {j k : Nat} {a : List Int} (ha : rowB c a = true) : R (nxS c) (agS cnt c) (j + 1) (stL k a) = if agP cnt c.sights (k : Int) a = true then sumN (LL c) fun l => if canB c.sands a l = true then R (nxS c) (agS cnt c) j (stL (k + 1) l) else 0 else 0 := by
  rw [R, agS_stL r ha]
  by_cases h : agP cnt c.sights (k : Int) a = true
  · rw [if_pos h, if_pos h]
    show sumN (nxS c (stL k a)) _ = _
    rw [sumN_perm (nxS_perm r ha), sumN_map, sumN_filter]
  · rw [if_neg h, if_neg h]
theorem FcL_ag {cnt : Nat → Bool} {c : Channel} {k : Nat} {l : List Int} (h : ¬ agP cnt c.sights (k : Int) l = true) : FcL cnt c k l = 0 := by
  cases k with
  | zero => rw [FcL, if_neg (fun q => h q.1)]
  | succ k => rw [FcL, if_neg h]
theorem FcL_sum {cnt : Nat → Bool} {c : Channel} (r : Right c) : ∀ (k j : Nat), sumN (LL c) (fun l => FcL cnt c k l * R (nxS c) (agS cnt c) j (stL k l)) = R (nxS c) (agS cnt c) (k + j) (first c)
  | 0, j => by
    have hc := r.cells
    have hfr : rowB c c.fords = true := rowB_iff.2 ⟨rfl, r.up, r.fcell⟩
    have e : sumN (LL c) (fun l => FcL cnt c 0 l * R (nxS c) (agS cnt c) j (stL 0 l)) = sumN (LL c) (fun l => if l = c.fords then R (nxS c) (agS cnt c) j (first c) else 0) := by
      refine sumN_congr fun l hl => ?_
      by_cases h : l = c.fords
      · subst h
        rw [if_pos rfl, FcL]
        by_cases h2 : agP cnt c.sights 0 c.fords = true
        · rw [if_pos ⟨h2, rfl⟩, Nat.one_mul]; rfl
        · rw [if_neg (fun q => h2 q.1), Nat.zero_mul]
          have h3 : ¬ 0 < R (nxS c) (agS cnt c) j (first c) := fun q => by
            have := R_ag q
            rw [show first c = stL 0 c.fords from rfl, agS_stL r hfr] at this
            exact h2 this
          omega
      · rw [if_neg h, FcL, if_neg (fun q => h q.2), Nat.zero_mul]
    rw [e, sumN_one (LL_nodup c) ((mem_LL (by omega)).2 hfr), Nat.zero_add]
  | k + 1, j => by
    have hc := r.cells
    have ih := FcL_sum (cnt := cnt) r k (j + 1)
    rw [show k + 1 + j = k + (j + 1) by omega, ← ih]
    have e1 : sumN (LL c) (fun l => FcL cnt c (k + 1) l * R (nxS c) (agS cnt c) j (stL (k + 1) l)) = sumN (LL c) (fun l => sumN (LL c) fun a => (if canB c.sands a l = true then FcL cnt c k a else 0) * R (nxS c) (agS cnt c) j (stL (k + 1) l)) := by
      refine sumN_congr fun l hl => ?_
      rw [sumN_mul, FcL]
      by_cases h : agP cnt c.sights ((k + 1 : Nat) : Int) l = true
      · rw [if_pos h]
      · rw [if_neg h, Nat.zero_mul]
        have h3 : ¬ 0 < R (nxS c) (agS cnt c) j (stL (k + 1) l) := fun q => by
          have := R_ag q
          rw [agS_stL r ((mem_LL (by omega)).1 hl)] at this
          exact h this
        rw [Nat.eq_zero_of_not_pos h3, Nat.mul_zero]
    rw [e1, sumN_comm]
    refine sumN_congr fun a ha => ?_
    rw [R_stL r ((mem_LL (by omega)).1 ha)]
    by_cases h : agP cnt c.sights (k : Int) a = true
    · rw [if_pos h, ← sumN_mul']
      refine sumN_congr fun l _ => ?_
      split
      · rfl
      · rw [Nat.zero_mul, Nat.mul_zero]
    · rw [if_neg h, Nat.mul_zero]
      refine sumN_zero fun l _ => ?_
      rw [FcL_ag h]
      split <;> rw [Nat.zero_mul]
end Go.Proofs.Wb

namespace Go.Proofs.Wb
open Go Go.Fw Go.Gx Go.Sb
set_option linter.unusedVariables false
set_option maxRecDepth 100000
def outL (b m fr j : Nat) : List (List Int) := (List.range j).flatMap fun d => (incL b m (fr + d + 1)).map (((fr + d : Nat) : Int) :: ·)
theorem outL_succ {b m fr j : Nat} : outL b m fr (j + 1) = outL b m fr j ++ (incL b m (fr + j + 1)).map (((fr + j : Nat) : Int) :: ·) := by
  unfold outL
  rw [List.range_succ, List.flatMap_append]
  simp
theorem outL_len {b m fr j : Nat} : (outL b m fr j).length ≤ j * b ^ m := by
  unfold outL
  rw [List.length_flatMap]
  have h := sum_le (fun d => ((incL b m (fr + d + 1)).map (((fr + d : Nat) : Int) :: ·)).length) (b ^ m) (List.range j) (fun d _ => by rw [List.length_map]; exact incL_len m _)
  rw [List.length_range] at h
  exact h
theorem lists_L1 {l : List (List Int)} (out : List (List Int)) (n : Int) (h : out.length + l.length ≤ 1000000) (hl : ∀ x ∈ l, x.length ≤ 100) : iterM FU (qo l ⟨n, out⟩) ⟨0, out⟩ = some (out ++ l.map (n :: ·)) := by
  have key := iterM_run (f := qo l ⟨n, out⟩) (fun j => ⟨(j : Int), out ++ (l.take j).map (n :: ·)⟩) l.length (b := out ++ l.map (n :: ·)) (fun j hj => ?_) ?_ FU (FU_lt (by omega))
  · simpa using key
  · have e : l.take (j + 1) = l.take j ++ [l[j]] := by rw [List.take_append_getElem]
    have hx : l.getD j default = l[j] := by simp [List.getD_eq_getElem?_getD, hj]
    have := hl l[j] (List.getElem_mem hj)
    unfold qo
    simp only
    rw [if_pos (by omega), ix_nat default hj, Option.bind_some, hx, appc_eq (by simp; omega), Option.bind_some, appc_eq (by simp; omega), Option.bind_some, addc_eq (by omega), Option.bind_some, e, List.map_append, ← List.append_assoc]
    rfl
  · unfold qo
    simp only
    rw [if_neg (by omega), List.take_length]
theorem Zu {b : Nat} (hb : b ≤ 10) : ∀ (m fu fr : Nat), m ≤ 3 → m < fu → fr ≤ 100 → kv fu (m : Int) (fr : Int) (b : Int) = some (incL b m fr)
  | m, 0, fr, _, h, _ => absurd h (by omega)
  | 0, fu + 1, fr, _, _, _ => rfl
  | m + 1, fu + 1, fr, hm, hf, hr => by
    rw [kv]
    unfold zw
    rw [if_neg (by omega)]
    have hpw : b ^ m ≤ 10 ^ m := Nat.pow_le_pow_left hb m
    have hpw2 : 10 ^ m ≤ 10 ^ 2 := Nat.pow_le_pow_right (by omega) (by omega)
    have key := iterM_run (f := ql (b : Int) ((m + 1 : Nat) : Int) (kv fu)) (fun j => ⟨((fr + j : Nat) : Int), outL b m fr j⟩) (b - fr) (b := incL b (m + 1) fr) (fun j hj => ?_) ?_ FU (FU_lt (by omega))
    · show (iterM FU (ql (b : Int) ((m + 1 : Nat) : Int) (kv fu)) ⟨((fr + 0 : Nat) : Int), outL b m fr 0⟩).bind _ = _
      rw [key]; rfl
    · have h1 := outL_len (b := b) (m := m) (fr := fr) (j := j)
      have h2 := Nat.mul_le_mul_left j (Nat.le_trans hpw hpw2)
      have h3 := incL_len (below := b) m (fr + j + 1)
      unfold ql
      simp only
      rw [if_pos (by omega), subc_eq (by omega), Option.bind_some, addc_eq (by omega), Option.bind_some, show ((m + 1 : Nat) : Int) - 1 = (m : Int) by omega, show ((fr + j : Nat) : Int) + 1 = ((fr + j + 1 : Nat) : Int) by omega, Zu hb m fu (fr + j + 1) (by omega) (by omega) (by omega), Option.bind_some, lists_L1 (outL b m fr j) _ (by omega) (fun x hx => by have := ((mem_incL _ _ _).1 hx).1; omega), Option.bind_some, Option.bind_some, outL_succ]
      congr 3
    · unfold ql
      simp only
      rw [if_neg (by omega)]
      rfl
theorem YO {c : Channel} (r : Right c) : qv c = some (LL c) := by
  have hc := r.cells
  have hf := r.fords
  unfold qv
  have h := Zu (b := c.cells.toNat) (by omega) c.fords.length FU 0 (by omega) (by unfold FU; omega) (by omega)
  rw [show ((c.cells.toNat : Nat) : Int) = c.cells by omega] at h
  rw [show (0 : Int) = ((0 : Nat) : Int) from rfl, h]
  rfl
theorem FcL_le {cnt : Nat → Bool} {c : Channel} (r : Right c) : ∀ k l, FcL cnt c k l ≤ 1000 ^ k
  | 0, l => by rw [FcL]; split <;> simp
  | k + 1, l => by
    rw [FcL]
    split
    · have h1 := sum_le (fun a => if canB c.sands a l = true then FcL cnt c k a else 0) (1000 ^ k) (LL c) (fun a _ => by
        split
        · exact FcL_le r k a
        · exact Nat.zero_le _)
      have h2 := Nat.mul_le_mul_right (1000 ^ k) (LL_len r)
      unfold sumN
      rw [Nat.pow_succ, Nat.mul_comm]
      omega
    · exact Nat.zero_le _
theorem FcL_bnd {cnt : Nat → Bool} {c : Channel} (r : Right c) {k : Nat} (hk : k ≤ 4) (l : List Int) : FcL cnt c k l ≤ 1000000000000 := by
  have h := FcL_le (cnt := cnt) r k l
  have h2 : (1000 : Nat) ^ k ≤ 1000 ^ 4 := Nat.pow_le_pow_right (by omega) hk
  have e4 : (1000 : Nat) ^ 4 = 1000000000000 := by decide
  omega
def li (c : Channel) (i : Nat) : List Int := (LL c).getD i []
theorem li_row {c : Channel} (r : Right c) {i : Nat} (h : i < (LL c).length) : rowB c (li c i) = true := by
  have hc := r.cells
  refine (mem_LL (by omega)).1 ?_
  unfold li
  rw [List.getD_eq_getElem?_getD, List.getElem?_eq_getElem h]
  exact List.getElem_mem h
theorem sumN_li {c : Channel} (f : List Int → Nat) : sumN (LL c) f = sumN (List.range (LL c).length) fun i => f (li c i) := by
  rw [show (fun i => f (li c i)) = fun i => f ((LL c).getD i []) from rfl, ← sumN_map (List.range (LL c).length) (fun i => (LL c).getD i []) f, range_getD]
theorem sumN_range_succ (f : Nat → Nat) (n : Nat) : sumN (List.range (n + 1)) f = sumN (List.range n) f + f n := by
  rw [List.range_succ, sumN_append]; simp [sumN]
theorem sumN_range_le (f : Nat → Nat) (B n : Nat) (h : ∀ i, f i ≤ B) : sumN (List.range n) f ≤ n * B := by
  have := sum_le f B (List.range n) (fun x _ => h x)
  rw [List.length_range] at this
  exact this
def rowZ (cnt : Nat → Bool) (c : Channel) (k : Nat) : List Int := (List.range (LL c).length).map fun i : Nat => (FcL cnt c k (li c i) : Int)
def rowT (n b : Nat) (g : Nat → Int) (v : Int) : List Int := (List.range n).map fun i : Nat => if i < b then g i else if i = b then v else 0
theorem rowT_set {n b : Nat} {g : Nat → Int} {v u : Int} : (rowT n b g v).set b u = rowT n b g u := by
  unfold rowT
  rw [range_set]
  apply List.map_congr_left
  intro i _
  by_cases h : i = b
  · subst h; simp
  · rw [if_neg h]
    by_cases h2 : i < b
    · rw [if_pos h2, if_pos h2]
    · rw [if_neg h2, if_neg h2, if_neg h, if_neg h]
theorem rowT_ix {n b : Nat} {g : Nat → Int} {v : Int} (h : b < n) : ix (rowT n b g v) (b : Int) = some v := by
  unfold rowT
  rw [range_ix h, if_neg (by omega), if_pos rfl]
theorem rowT_next {n b : Nat} {g : Nat → Int} : rowT n b g (g b) = rowT n (b + 1) g 0 := by
  unfold rowT
  apply List.map_congr_left
  intro i _
  by_cases h : i < b
  · rw [if_pos h, if_pos (by omega)]
  · by_cases h2 : i = b
    · subst h2; rw [if_neg h, if_pos rfl, if_pos (by omega)]
    · rw [if_neg h, if_neg h2, if_neg (by omega)]
      split <;> rfl
theorem come_L2 {cnt : Nat → Bool} {c : Channel} (r : Right c) {k b : Nat} (hk : k + 1 ≤ 4) (hb : b < (LL c).length) (g : Nat → Int) (out : List (List Int)) (ho : ix out (k : Int) = some (rowZ cnt c k)) (t0 : List Int) :
    iterM FU (ks (LL c) ⟨((k + 1 : Nat) : Int), out⟩ ⟨(b : Int), t0⟩ c) ⟨0, rowT (LL c).length b g 0⟩ = some (rowT (LL c).length b g (sumN (LL c) fun a => if canB c.sands a (li c b) = true then FcL cnt c k a else 0 : Nat)) := by
  have hc := r.cells
  have hf := r.fords
  have hs := r.sands
  have hLL := LL_len r
  have hbb := fun i => FcL_bnd (cnt := cnt) r (show k ≤ 4 by omega) (li c i)
  have key := iterM_run (f := ks (LL c) ⟨((k + 1 : Nat) : Int), out⟩ ⟨(b : Int), t0⟩ c) (fun a => ⟨(a : Int), rowT (LL c).length b g ((sumN (List.range a) fun i => if canB c.sands (li c i) (li c b) = true then FcL cnt c k (li c i) else 0 : Nat) : Int)⟩) (LL c).length (b := rowT (LL c).length b g (sumN (LL c) fun a => if canB c.sands a (li c b) = true then FcL cnt c k a else 0 : Nat)) (fun a ha => ?_) ?_ FU (FU_lt (by omega))
  · exact key
  · have hra := rowB_iff.1 (li_row r ha)
    have hrb := rowB_iff.1 (li_row r hb)
    have hsum := sumN_range_le (fun i => if canB c.sands (li c i) (li c b) = true then FcL cnt c k (li c i) else 0) 1000000000000 a (fun i => by
      split
      · exact hbb i
      · omega)
    have hm := Nat.mul_le_mul_right 1000000000000 (show a ≤ 1000 by omega)
    have hcan := Y1 (c := c) (by omega) r.reach (a := li c a) (b := li c b) (by omega) (by omega) (fun x hx => by have := hra.2.2 x hx; omega)
    have hzi : ix (rowZ cnt c k) (a : Int) = some (FcL cnt c k (li c a) : Int) := by unfold rowZ; rw [range_ix ha]
    have hba := hbb a
    unfold ks
    simp only
    rw [if_pos (by omega), Option.bind_some, if_pos (by rw [decide_eq_true_eq]; omega), subc_eq (by omega), Option.bind_some, show ((k + 1 : Nat) : Int) - 1 = (k : Int) by omega, ho, Option.bind_some, hzi, Option.bind_some]
    rw [sumN_range_succ]
    have hxa : (LL c).getD a [] = li c a := rfl
    have hxb : (LL c).getD b [] = li c b := rfl
    by_cases h0 : 0 < FcL cnt c k (li c a)
    · rw [if_pos (by omega), ix_nat [] ha, Option.bind_some, ix_nat [] hb, Option.bind_some, hxa, hxb, hcan, Option.bind_some, Option.bind_some]
      by_cases h1 : canB c.sands (li c a) (li c b) = true
      · rw [if_pos h1, if_pos h1, rowT_ix hb, Option.bind_some, Option.bind_some, ho, Option.bind_some, hzi, Option.bind_some, addc_eq (by omega), Option.bind_some, Option.bind_some, Option.bind_some, Option.bind_some, Int.toNat_natCast, rowT_set, addc_eq (by omega), Option.bind_some]
        congr 3
      · rw [if_neg h1, if_neg h1, Option.bind_some, addc_eq (by omega), Option.bind_some, Nat.add_zero]
        congr 3
    · rw [if_neg (by omega), Option.bind_some, if_neg (by decide), Option.bind_some, addc_eq (by omega), Option.bind_some]
      have e0 : FcL cnt c k (li c a) = 0 := by omega
      rw [e0]
      split <;> rfl
  · unfold ks
    simp only
    rw [if_neg (by omega), Option.bind_some, if_neg (by decide), sumN_li]
theorem come_L1 {c : Channel} (r : Right c) {n : Nat} (hn : n ≤ 1000000000000) {k : Nat} (hk : k ≤ 4) (out : List (List Int)) (ho : ∀ j, j + 1 = k → ix out (j : Int) = some (rowZ (bitN n) c j)) :
    iterM FU (qK (LL c) c ⟨(k : Int), out⟩ (n : Int)) ⟨0, rowT (LL c).length 0 (fun i => (FcL (bitN n) c k (li c i) : Int)) 0⟩ = some (rowZ (bitN n) c k) := by
  have hc := r.cells
  have hf := r.fords
  have hs := r.sights
  have hLL := LL_len r
  have key := iterM_run (f := qK (LL c) c ⟨(k : Int), out⟩ (n : Int)) (fun b => ⟨(b : Int), rowT (LL c).length b (fun i => (FcL (bitN n) c k (li c i) : Int)) 0⟩) (LL c).length (b := rowZ (bitN n) c k) (fun b hb => ?_) ?_ FU (FU_lt (by omega))
  · exact key
  · have hrb := rowB_iff.1 (li_row r hb)
    have hxb : (LL c).getD b [] = li c b := rfl
    unfold qK
    simp only
    rw [if_pos (by omega), ix_nat [] hb, Option.bind_some, hxb, refAgrees_eq (by omega) (by omega) _ _ hn, Option.bind_some, addc_eq (by omega), ← rowT_next]
    by_cases hag : agP (bitN n) c.sights (k : Int) (li c b) = true
    · rw [if_neg (by simp [hag])]
      cases k with
      | zero =>
        have hend : ∀ T : List Int, iterM FU (ks (LL c) ⟨((0 : Nat) : Int), out⟩ ⟨(b : Int), rowT (LL c).length b (fun i => (FcL (bitN n) c 0 (li c i) : Int)) 0⟩ c) ⟨0, T⟩ = some T := by
          intro T
          obtain ⟨N, hN⟩ : ∃ N, FU = N + 1 := ⟨FU - 1, by unfold FU; rfl⟩
          rw [hN, iterM_done]
          unfold ks
          simp only
          split
          · rw [Option.bind_some, if_neg (by simp)]
          · rw [Option.bind_some, if_neg (by simp)]
        rw [if_pos (show ((0 : Nat) : Int) = 0 from rfl), Option.bind_some, YR (by omega), Option.bind_some, Option.bind_some]
        by_cases he : li c b = c.fords
        · rw [if_pos (by simpa using he), rowT_ix hb, Option.bind_some, Option.bind_some, Option.bind_some, Int.toNat_natCast, rowT_set, hend, Option.bind_some, Option.bind_some, Option.bind_some]
          congr 3
          rw [FcL, if_pos ⟨hag, he⟩]
          rfl
        · rw [if_neg (by simpa using he), Option.bind_some, hend, Option.bind_some, Option.bind_some, Option.bind_some]
          congr 3
          rw [FcL, if_neg (fun q => he q.2)]
          rfl
      | succ k =>
        rw [if_neg (by omega), Option.bind_some, if_neg (by decide), Option.bind_some, come_L2 (cnt := bitN n) r hk hb _ out (ho k rfl), Option.bind_some, Option.bind_some, Option.bind_some]
        congr 3
        rw [FcL, if_pos hag]
    · rw [if_pos (by simpa using hag), Option.bind_some, Option.bind_some]
      congr 3
      rw [FcL_ag hag]
      rfl
  · unfold qK
    simp only
    rw [if_neg (by omega)]
    congr 2
    unfold rowT rowZ
    apply List.map_congr_left
    intro i hi
    rw [if_pos (by simpa using hi)]
theorem ZP {c : Channel} (r : Right c) {n : Nat} (hn : n ≤ 1000000000000) : yE c (n : Int) = some ((List.range (c.tides.toNat + 1)).map (rowZ (bitN n) c)) := by
  have ht := r.tides
  have hLL := LL_len r
  unfold yE
  rw [YO r, Option.bind_some]
  have key := iterM_run (f := qB c (LL c) (n : Int)) (fun k => ⟨(k : Int), (List.range k).map (rowZ (bitN n) c)⟩) (c.tides.toNat + 1) (b := (List.range (c.tides.toNat + 1)).map (rowZ (bitN n) c)) (fun k hk => ?_) ?_ FU (FU_lt (by omega))
  · show (iterM FU (qB c (LL c) (n : Int)) ⟨((0 : Nat) : Int), (List.range 0).map (rowZ (bitN n) c)⟩).bind _ = _
    rw [key]; rfl
  · unfold qB
    simp only
    have e0 : List.replicate ((LL c).length : Int).toNat (0 : Int) = rowT (LL c).length 0 (fun i => (FcL (bitN n) c k (li c i) : Int)) 0 := by
      unfold rowT
      apply List.ext_getElem (by simp)
      intro i h1 h2
      simp
    rw [if_pos (by omega), makec_eq (by omega), Option.bind_some, e0, come_L1 r hn (by omega) _ (fun j hj => by rw [range_ix (by omega)]), Option.bind_some, appc_eq (by simp; omega), Option.bind_some, addc_eq (by omega), Option.bind_some, List.range_succ, List.map_append]
    rfl
  · unfold qB
    simp only
    rw [if_neg (by omega)]
theorem ZA {c : Channel} (r : Right c) {n : Nat} (hn : n ≤ 1000000000000) : yc c (n : Int) = some (cntS (bitN n) c : Int) := by
  have ht := r.tides
  have hc := r.cells
  have hLL := LL_len r
  have hbb := fun i => FcL_bnd (cnt := bitN n) r (show c.tides.toNat ≤ 4 by omega) (li c i)
  unfold yc
  rw [ZP r hn, Option.bind_some]
  have hrow : ix ((List.range (c.tides.toNat + 1)).map (rowZ (bitN n) c)) c.tides = some (rowZ (bitN n) c c.tides.toNat) := by
    have h := range_ix (f := rowZ (bitN n) c) (n := c.tides.toNat + 1) (i := c.tides.toNat) (by omega)
    rw [show ((c.tides.toNat : Nat) : Int) = c.tides by omega] at h
    exact h
  have hlen : ((rowZ (bitN n) c c.tides.toNat).length : Int) = ((LL c).length : Int) := by unfold rowZ; simp
  have key := iterM_run (f := qm ((List.range (c.tides.toNat + 1)).map (rowZ (bitN n) c)) c) (fun a => ⟨((sumN (List.range a) fun i => FcL (bitN n) c c.tides.toNat (li c i) : Nat) : Int), (a : Int)⟩) (LL c).length (b := (cntS (bitN n) c : Int)) (fun a ha => ?_) ?_ FU (FU_lt (by omega))
  · show (iterM FU (qm ((List.range (c.tides.toNat + 1)).map (rowZ (bitN n) c)) c) ⟨((sumN (List.range 0) fun i => FcL (bitN n) c c.tides.toNat (li c i) : Nat) : Int), ((0 : Nat) : Int)⟩).bind _ = _
    rw [key]; rfl
  · have hsum := sumN_range_le (fun i => FcL (bitN n) c c.tides.toNat (li c i)) 1000000000000 a hbb
    have hm := Nat.mul_le_mul_right 1000000000000 (show a ≤ 1000 by omega)
    have hba := hbb a
    have hzi : ix (rowZ (bitN n) c c.tides.toNat) (a : Int) = some (FcL (bitN n) c c.tides.toNat (li c a) : Int) := by unfold rowZ; rw [range_ix ha]
    unfold qm
    simp only
    rw [hrow, Option.bind_some, hlen, if_pos (by omega), Option.bind_some, hzi, Option.bind_some, addc_eq (by omega), Option.bind_some, addc_eq (by omega), Option.bind_some, sumN_range_succ]
    congr 3
  · unfold qm
    simp only
    rw [hrow, Option.bind_some, hlen, if_neg (by omega)]
    congr 2
    rw [← sumN_li (fun l => FcL (bitN n) c c.tides.toNat l)]
    have h := FcL_sum (cnt := bitN n) r c.tides.toNat 0
    unfold cntS
    rw [Nat.add_zero] at h
    rw [← h]
    congr 1
    refine sumN_congr fun l hl => ?_
    rw [R, agS_stL r ((mem_LL (by omega)).1 hl)]
    by_cases hag : agP (bitN n) c.sights ((c.tides.toNat : Nat) : Int) l = true
    · rw [if_pos hag, Nat.mul_one]
    · rw [if_neg hag, Nat.mul_zero, FcL_ag hag]
end Go.Proofs.Wb

namespace Go.Proofs.Wb
open Go Go.Fw Go.Gx Go.Sb
set_option linter.unusedVariables false
set_option maxRecDepth 100000
abbrev tt : Nat → Bool := fun _ => true
theorem agS_all (c : Channel) : agS (bitN (2 ^ c.sights.length - 1)) c = agS tt c := by
  funext s
  exact agP_congr (fun i hi => bitN_all hi)
theorem FcL_all (c : Channel) : ∀ k l, FcL (bitN (2 ^ c.sights.length - 1)) c k l = FcL tt c k l
  | 0, l => by rw [FcL, FcL, agP_congr (fun i hi => bitN_all hi)]
  | k + 1, l => by
    rw [FcL, FcL, agP_congr (fun i hi => bitN_all hi)]
    congr 1
    refine sumN_congr fun a _ => ?_
    rw [FcL_all c k a]
theorem cntS_all (c : Channel) : cntS (bitN (2 ^ c.sights.length - 1)) c = cntS tt c := by unfold cntS; rw [agS_all]
theorem all_small {c : Channel} (r : Right c) : 2 ^ c.sights.length - 1 ≤ 1000000000000 := by
  have h6 : 2 ^ c.sights.length ≤ 2 ^ 20 := Nat.pow_le_pow_right (by omega) r.sights
  generalize 2 ^ c.sights.length = q at h6 ⊢
  omega
def onB (c : Channel) (k : Nat) (l : List Int) : Bool := decide (0 < FcL tt c k l) && decide (0 < R (nxS c) (agS tt c) (c.tides.toNat - k) (stL k l))
theorem FcL_succ_pos {c : Channel} {k : Nat} {l : List Int} : 0 < FcL tt c (k + 1) l ↔ agP tt c.sights ((k + 1 : Nat) : Int) l = true ∧ ∃ a ∈ LL c, canB c.sands a l = true ∧ 0 < FcL tt c k a := by
  rw [FcL]
  by_cases h : agP tt c.sights ((k + 1 : Nat) : Int) l = true
  · rw [if_pos h, sumN_pos]
    constructor
    · rintro ⟨a, ha, h2⟩
      split at h2
      · rename_i hc; exact ⟨h, a, ha, hc, h2⟩
      · omega
    · rintro ⟨_, a, ha, hc, h2⟩
      exact ⟨a, ha, by rw [if_pos hc]; exact h2⟩
  · rw [if_neg h]
    constructor
    · intro q; omega
    · rintro ⟨q, _⟩; exact absurd q h
theorem FcL_pos_ag {c : Channel} {k : Nat} {l : List Int} (h : 0 < FcL tt c k l) : agP tt c.sights (k : Int) l = true := by
  cases hq : agP tt c.sights (k : Int) l with
  | true => rfl
  | false => rw [FcL_ag (by rw [hq]; decide)] at h; omega
theorem R_stL_pos {c : Channel} (r : Right c) {j k : Nat} {a : List Int} (ha : rowB c a = true) : 0 < R (nxS c) (agS tt c) (j + 1) (stL k a) ↔ agP tt c.sights (k : Int) a = true ∧ ∃ l ∈ LL c, canB c.sands a l = true ∧ 0 < R (nxS c) (agS tt c) j (stL (k + 1) l) := by
  rw [R_stL r ha]
  by_cases h : agP tt c.sights (k : Int) a = true
  · rw [if_pos h, sumN_pos]
    constructor
    · rintro ⟨l, hl, h2⟩
      split at h2
      · rename_i hc; exact ⟨h, l, hl, hc, h2⟩
      · omega
    · rintro ⟨_, l, hl, hc, h2⟩
      exact ⟨l, hl, by rw [if_pos hc]; exact h2⟩
  · rw [if_neg h]
    constructor
    · intro q; omega
    · rintro ⟨q, _⟩; exact absurd q h
theorem stL_of {c : Channel} (r : Right c) {s : State} {k : Nat} (h : VS c s) (hk : s.after = (k : Int)) : ∃ a ∈ LL c, s = stL k a := by
  have hc := r.cells
  obtain ⟨⟨l, h1, h2⟩, _⟩ := h
  obtain ⟨x, y⟩ := s
  simp only at hk h2
  exact ⟨l, (mem_LL (by omega)).2 h1, by rw [hk, h2]; rfl⟩
theorem mem_nx_stL {c : Channel} (r : Right c) {k : Nat} {a l : List Int} (ha : rowB c a = true) (hl : rowB c l = true) : stL (k + 1) l ∈ nxS c (stL k a) ↔ canB c.sands a l = true := by
  have hf := r.fords
  rw [nxS_mem r, can_iff r ha hl]
  constructor
  · rintro ⟨l', h, e⟩
    simp only [stL, State.mk.injEq] at e
    have := mkCells_inj (l := l) (m := l') (by rw [h.len]; exact (rowB_iff.1 hl).1) (by have := (rowB_iff.1 hl).1; omega) e.2
    rw [this]; exact h
  · intro h
    exact ⟨l, h, by simp [stL]⟩
theorem on_V {c : Channel} (r : Right c) : ∀ (k : Nat), (k : Int) ≤ c.tides → ∀ t, On (nxS c) (agS tt c) k c.tides.toNat (first c) t → VS c t ∧ t.after = (k : Int)
  | 0, _, t, h => by
    obtain ⟨rfl, _⟩ := on_zero.1 h
    exact ⟨first_V r, rfl⟩
  | k + 1, hk, t, h => by
    obtain ⟨u, h1, h2, _⟩ := (on_succ (by omega)).1 h
    obtain ⟨v1, v2⟩ := on_V r k (by omega) u h1
    obtain ⟨v3, v4⟩ := nxS_V r v1 (by omega) h2
    exact ⟨v3, by omega⟩
theorem on_iff {c : Channel} (r : Right c) : ∀ (k : Nat), (k : Int) ≤ c.tides → ∀ l, rowB c l = true → (On (nxS c) (agS tt c) k c.tides.toNat (first c) (stL k l) ↔ onB c k l = true)
  | 0, _, l, hl => by
    have hf := r.fords
    have h1 := (rowB_iff.1 hl).1
    unfold onB
    rw [on_zero, Bool.and_eq_true, decide_eq_true_eq, decide_eq_true_eq, FcL, Nat.sub_zero]
    constructor
    · rintro ⟨e, h2⟩
      have e2 : l = c.fords := by
        simp only [stL, first, State.mk.injEq] at e
        exact mkCells_inj (by omega) (by omega) e.2
      subst e2
      have hag := R_ag h2
      rw [show first c = stL 0 c.fords from rfl, agS_stL r hl] at hag
      exact ⟨by rw [if_pos ⟨hag, rfl⟩]; omega, h2⟩
    · rintro ⟨h2, h3⟩
      split at h2
      · rename_i q
        obtain ⟨_, q⟩ := q
        subst q
        exact ⟨rfl, h3⟩
      · omega
  | k + 1, hk, l, hl => by
    have hc := r.cells
    unfold onB
    rw [on_succ (by omega), Bool.and_eq_true, decide_eq_true_eq, decide_eq_true_eq, FcL_succ_pos, show c.tides.toNat - (k + 1) = c.tides.toNat - k - 1 by omega]
    constructor
    · rintro ⟨u, h1, h2, h3⟩
      obtain ⟨v1, v2⟩ := on_V r k (by omega) u h1
      obtain ⟨a, ha, rfl⟩ := stL_of r v1 v2
      have ha' := (mem_LL (by omega)).1 ha
      have h4 := (on_iff r k (by omega) a ha').1 h1
      unfold onB at h4
      rw [Bool.and_eq_true, decide_eq_true_eq] at h4
      have hag := R_ag h3
      rw [agS_stL r hl] at hag
      exact ⟨⟨hag, a, ha, (mem_nx_stL r ha' hl).1 h2, h4.1⟩, h3⟩
    · rintro ⟨⟨hag, a, ha, h1, h2⟩, h3⟩
      have ha' := (mem_LL (by omega)).1 ha
      refine ⟨stL k a, (on_iff r k (by omega) a ha').2 ?_, (mem_nx_stL r ha' hl).2 h1, h3⟩
      unfold onB
      rw [Bool.and_eq_true, decide_eq_true_eq, decide_eq_true_eq, show c.tides.toNat - k = (c.tides.toNat - k - 1) + 1 by omega, R_stL_pos r ha']
      exact ⟨h2, FcL_pos_ag h2, l, (mem_LL (by omega)).2 hl, h1, h3⟩
theorem onB_step {c : Channel} (r : Right c) {k : Nat} (hk : (k : Int) < c.tides) {a : List Int} (ha : rowB c a = true) (hp : 0 < FcL tt c k a) : onB c k a = (List.range (LL c).length).any fun b => onB c (k + 1) (li c b) && canB c.sands a (li c b) := by
  have hc := r.cells
  have hag := FcL_pos_ag hp
  rw [Bool.eq_iff_iff]
  unfold onB
  rw [Bool.and_eq_true, decide_eq_true_eq, decide_eq_true_eq, show c.tides.toNat - k = (c.tides.toNat - (k + 1)) + 1 by omega, R_stL_pos r ha, List.any_eq_true]
  constructor
  · rintro ⟨_, _, l, hl, h1, h2⟩
    obtain ⟨b, hb, e⟩ := List.getElem_of_mem hl
    have e2 : li c b = l := by unfold li; rw [← e]; simp [List.getD_eq_getElem?_getD, hb]
    refine ⟨b, by simpa using hb, ?_⟩
    rw [e2, Bool.and_eq_true, Bool.and_eq_true, decide_eq_true_eq, decide_eq_true_eq, FcL_succ_pos]
    have hag2 := R_ag h2
    rw [agS_stL r ((mem_LL (by omega)).1 hl)] at hag2
    exact ⟨⟨⟨hag2, a, (mem_LL (by omega)).2 ha, h1, hp⟩, h2⟩, h1⟩
  · rintro ⟨b, hb, h⟩
    have hb' : b < (LL c).length := by simpa using hb
    rw [Bool.and_eq_true, Bool.and_eq_true, decide_eq_true_eq, decide_eq_true_eq] at h
    exact ⟨hp, hag, li c b, (mem_LL (by omega)).2 (li_row r hb'), h.2, h.1.2⟩
theorem onB_last {c : Channel} (r : Right c) {k : Nat} (hk : (k : Int) = c.tides) {a : List Int} (ha : rowB c a = true) (hp : 0 < FcL tt c k a) : onB c k a = true := by
  unfold onB
  rw [Bool.and_eq_true, decide_eq_true_eq, decide_eq_true_eq, show c.tides.toNat - k = 0 by omega, R, agS_stL r ha, if_pos (FcL_pos_ag hp)]
  exact ⟨hp, by omega⟩
def rowU (n b : Nat) (g : Nat → Bool) (v : Bool) : List Bool := (List.range n).map fun i : Nat => if i < b then g i else if i = b then v else false
theorem rowU_set {n b : Nat} {g : Nat → Bool} {v u : Bool} : (rowU n b g v).set b u = rowU n b g u := by
  unfold rowU
  rw [range_set]
  apply List.map_congr_left
  intro i _
  by_cases h : i = b
  · subst h; simp
  · rw [if_neg h]
    by_cases h2 : i < b
    · rw [if_pos h2, if_pos h2]
    · rw [if_neg h2, if_neg h2, if_neg h, if_neg h]
theorem rowU_ix {n b : Nat} {g : Nat → Bool} {v : Bool} (h : b < n) : ix (rowU n b g v) (b : Int) = some v := by
  unfold rowU
  rw [range_ix h, if_neg (by omega), if_pos rfl]
theorem rowU_next {n b : Nat} {g : Nat → Bool} : rowU n b g (g b) = rowU n (b + 1) g false := by
  unfold rowU
  apply List.map_congr_left
  intro i _
  by_cases h : i < b
  · rw [if_pos h, if_pos (by omega)]
  · by_cases h2 : i = b
    · subst h2; rw [if_neg h, if_pos rfl, if_pos (by omega)]
    · rw [if_neg h, if_neg h2, if_neg (by omega)]
      split <;> rfl
def onRow (c : Channel) (k : Nat) : List Bool := (List.range (LL c).length).map fun i : Nat => onB c k (li c i)
def outK (c : Channel) (k : Nat) (row : List Bool) : List (List Bool) := (List.range (c.tides.toNat + 1)).map fun i : Nat => if i = k then row else if k < i then onRow c i else []
theorem outK_ix {c : Channel} {k : Nat} {row : List Bool} (h : k ≤ c.tides.toNat) : ix (outK c k row) (k : Int) = some row := by
  unfold outK
  rw [range_ix (by omega), if_pos rfl]
theorem outK_ix' {c : Channel} {k : Nat} {row : List Bool} (h : k + 1 ≤ c.tides.toNat) : ix (outK c k row) ((k : Int) + 1) = some (onRow c (k + 1)) := by
  have := range_ix (f := fun i : Nat => if i = k then row else if k < i then onRow c i else []) (n := c.tides.toNat + 1) (i := k + 1) (by omega)
  rw [if_neg (by omega), if_pos (by omega)] at this
  exact this
theorem outK_set {c : Channel} {k : Nat} {row row' : List Bool} : (outK c k row).set k row' = outK c k row' := by
  unfold outK
  rw [range_set]
  apply List.map_congr_left
  intro i _
  by_cases h : i = k
  · rw [if_pos h, if_pos h]
  · rw [if_neg h, if_neg h, if_neg h]
theorem on_L2 {c : Channel} (r : Right c) {k a : Nat} (hk : (k : Int) ≤ c.tides) (ha : a < (LL c).length) (g : Nat → Bool) (v : Bool) (t0 o0 : List (List Bool)) :
    iterM FU (qu (LL c) ⟨(k : Int), o0⟩ c ⟨(a : Int), t0⟩) ⟨0, outK c k (rowU (LL c).length a g v)⟩ = some (outK c k (rowU (LL c).length a g (v || (decide ((k : Int) < c.tides) && (List.range (LL c).length).any fun b => onB c (k + 1) (li c b) && canB c.sands (li c a) (li c b))))) := by
  have hc := r.cells
  have hf := r.fords
  have hs := r.sands
  have hLL := LL_len r
  have ht := r.tides
  by_cases hkt : (k : Int) < c.tides
  · have key := iterM_run (f := qu (LL c) ⟨(k : Int), o0⟩ c ⟨(a : Int), t0⟩) (fun b => ⟨(b : Int), outK c k (rowU (LL c).length a g (v || (List.range b).any fun b => onB c (k + 1) (li c b) && canB c.sands (li c a) (li c b)))⟩) (LL c).length (b := outK c k (rowU (LL c).length a g (v || (decide ((k : Int) < c.tides) && (List.range (LL c).length).any fun b => onB c (k + 1) (li c b) && canB c.sands (li c a) (li c b))))) (fun b hb => ?_) ?_ FU (FU_lt (by omega))
    · simpa using key
    · have hra := rowB_iff.1 (li_row r ha)
      have hrb := rowB_iff.1 (li_row r hb)
      have hcan := Y1 (c := c) (by omega) r.reach (a := li c a) (b := li c b) (by omega) (by omega) (fun x hx => by have := hra.2.2 x hx; omega)
      have hxa : (LL c).getD a [] = li c a := rfl
      have hxb : (LL c).getD b [] = li c b := rfl
      have hor : ix (onRow c (k + 1)) (b : Int) = some (onB c (k + 1) (li c b)) := by unfold onRow; rw [range_ix hb]
      have hany : ((List.range (b + 1)).any fun b => onB c (k + 1) (li c b) && canB c.sands (li c a) (li c b)) = (((List.range b).any fun b => onB c (k + 1) (li c b) && canB c.sands (li c a) (li c b)) || (onB c (k + 1) (li c b) && canB c.sands (li c a) (li c b))) := by
        rw [List.range_succ, List.any_append]; simp
      unfold qu
      simp only
      rw [hany, ← Bool.or_assoc]
      generalize (v || (List.range b).any fun b => onB c (k + 1) (li c b) && canB c.sands (li c a) (li c b)) = u
      rw [if_pos (by omega), Option.bind_some, if_pos (by rw [decide_eq_true_eq]; exact hkt), outK_ix (by omega), Option.bind_some, Option.bind_some, rowU_ix ha, Option.bind_some]
      cases u with
      | true =>
        rw [if_pos rfl, Option.bind_some, Option.bind_some, Option.bind_some, Option.bind_some, Int.toNat_natCast, Int.toNat_natCast, rowU_set, outK_set, addc_eq (by omega), Option.bind_some, Bool.true_or]
        rfl
      | false =>
        rw [if_neg (by decide), addc_eq (by omega), Option.bind_some, outK_ix' (by omega), Option.bind_some, hor, Option.bind_some, Bool.false_or]
        cases h1 : onB c (k + 1) (li c b) with
        | true =>
          rw [if_pos rfl, ix_nat [] ha, Option.bind_some, ix_nat [] hb, Option.bind_some, hxa, hxb, hcan, Option.bind_some, Option.bind_some, Option.bind_some, Option.bind_some, Option.bind_some, Int.toNat_natCast, Int.toNat_natCast, rowU_set, outK_set, addc_eq (by omega), Option.bind_some, Bool.true_and]
          rfl
        | false =>
          rw [if_neg (by decide), Option.bind_some, Option.bind_some, Option.bind_some, Option.bind_some, Int.toNat_natCast, Int.toNat_natCast, rowU_set, outK_set, addc_eq (by omega), Option.bind_some, Bool.false_and]
          rfl
    · unfold qu
      simp only
      rw [if_neg (by omega), Option.bind_some, if_neg (by decide), decide_eq_true hkt, Bool.true_and]
  · rw [decide_eq_false hkt, Bool.false_and, Bool.or_false]
    obtain ⟨N, hN⟩ : ∃ N, FU = N + 1 := ⟨FU - 1, by unfold FU; rfl⟩
    rw [hN, iterM_done]
    unfold qu
    simp only
    split
    · rw [Option.bind_some, if_neg (by simpa using hkt)]
    · rw [Option.bind_some, if_neg (by decide)]
theorem on_L1 {c : Channel} (r : Right c) {k : Nat} (hk : (k : Int) ≤ c.tides) (rows : List (List Int)) (hrows : ix rows (k : Int) = some (rowZ (bitN (2 ^ c.sights.length - 1)) c k)) (o0 : List (List Bool)) :
    iterM FU (yg (LL c) rows ⟨(k : Int), o0⟩ c) ⟨0, outK c k (rowU (LL c).length 0 (fun i => onB c k (li c i)) false)⟩ = some (outK c k (onRow c k)) := by
  have hLL := LL_len r
  have ht := r.tides
  have key := iterM_run (f := yg (LL c) rows ⟨(k : Int), o0⟩ c) (fun a => ⟨(a : Int), outK c k (rowU (LL c).length a (fun i => onB c k (li c i)) false)⟩) (LL c).length (b := outK c k (onRow c k)) (fun a ha => ?_) ?_ FU (FU_lt (by omega))
  · exact key
  · have hzi : ix (rowZ (bitN (2 ^ c.sights.length - 1)) c k) (a : Int) = some (FcL tt c k (li c a) : Int) := by unfold rowZ; rw [range_ix ha, FcL_all]
    unfold yg
    simp only
    rw [if_pos (by omega), hrows, Option.bind_some, hzi, Option.bind_some, addc_eq (by omega), ← rowU_next]
    by_cases h0 : FcL tt c k (li c a) = 0
    · rw [if_pos (by omega), Option.bind_some, Option.bind_some]
      have : onB c k (li c a) = false := by unfold onB; rw [h0]; rfl
      rw [this]
      rfl
    · rw [if_neg (by omega)]
      by_cases hkt : (k : Int) = c.tides
      · rw [if_pos hkt, outK_ix (by omega), Option.bind_some, rowU_ix ha, Option.bind_some, Option.bind_some, Option.bind_some, Option.bind_some, Int.toNat_natCast, Int.toNat_natCast, rowU_set, outK_set, on_L2 r hk ha, Option.bind_some, Option.bind_some, Option.bind_some, onB_last r hkt (li_row r ha) (by omega), Bool.true_or]
        rfl
      · rw [if_neg hkt, Option.bind_some, on_L2 r hk ha, Option.bind_some, Option.bind_some, Option.bind_some, Bool.false_or, decide_eq_true (by omega), Bool.true_and, ← onB_step r (by omega) (li_row r ha) (by omega)]
        rfl
  · unfold yg
    simp only
    rw [if_neg (by omega)]
    congr 2
    unfold rowU onRow
    congr 1
    apply List.map_congr_left
    intro i hi
    rw [if_pos (by simpa using hi)]
theorem jbc {c : Channel} (r : Right c) : zZ c = some ((List.range (c.tides.toNat + 1)).map (onRow c)) := by
  have hLL := LL_len r
  have ht := r.tides
  have hs := r.sights
  unfold zZ
  rw [YO r, Option.bind_some, K3 (by omega), Option.bind_some, ZP r (all_small r), Option.bind_some, List.length_map, List.length_range, makec_eq (by omega), Option.bind_some]
  have key := iterM_run (f := yV (LL c) ((List.range (c.tides.toNat + 1)).map (rowZ (bitN (2 ^ c.sights.length - 1)) c)) c) (fun j => ⟨c.tides - (j : Int), (List.range (c.tides.toNat + 1)).map fun i : Nat => if c.tides.toNat < i + j then onRow c i else []⟩) (c.tides.toNat + 1) (b := (List.range (c.tides.toNat + 1)).map (onRow c)) (fun j hj => ?_) ?_ FU (FU_lt (by omega))
  · have e0 : List.replicate ((c.tides.toNat + 1 : Nat) : Int).toNat ([] : List Bool) = (List.range (c.tides.toNat + 1)).map fun i : Nat => if c.tides.toNat < i + 0 then onRow c i else [] := by
      apply List.ext_getElem (by simp; omega)
      intro i h1 h2
      have : i < c.tides.toNat + 1 := by simpa using h2
      simp only [List.getElem_replicate, List.getElem_map, List.getElem_range]
      rw [if_neg (by omega)]
    simp only [Int.natCast_zero, Int.sub_zero, show ((0 : Nat) : Int) = 0 from rfl] at key
    rw [e0, key]
    rfl
  · obtain ⟨k, hk⟩ : ∃ k : Nat, c.tides - (j : Int) = (k : Int) := ⟨(c.tides - (j : Int)).toNat, by omega⟩
    have hrow : ix ((List.range (c.tides.toNat + 1)).map (rowZ (bitN (2 ^ c.sights.length - 1)) c)) (k : Int) = some (rowZ (bitN (2 ^ c.sights.length - 1)) c k) := range_ix (by omega)
    have e1 : ((List.range (c.tides.toNat + 1)).map fun i : Nat => if c.tides.toNat < i + j then onRow c i else []).set k (List.replicate ((LL c).length : Int).toNat false) = outK c k (rowU (LL c).length 0 (fun i => onB c k (li c i)) false) := by
      rw [range_set]
      unfold outK
      apply List.map_congr_left
      intro i hi
      by_cases h : i = k
      · rw [if_pos h, if_pos h]
        unfold rowU
        apply List.ext_getElem (by simp)
        intro i h1 h2
        simp
      · rw [if_neg h, if_neg h]
        by_cases h2 : k < i
        · rw [if_pos (by omega), if_pos h2]
        · rw [if_neg (by omega), if_neg h2]
    unfold yV
    simp only
    rw [hk, if_pos (by omega), makec_eq (by omega), Option.bind_some, range_ix (by omega), Option.bind_some, Option.bind_some, Int.toNat_natCast, e1, on_L1 r (by omega) _ hrow, Option.bind_some, subc_eq (by omega), Option.bind_some]
    congr 3
    · omega
    · unfold outK
      apply List.map_congr_left
      intro i hi
      by_cases h : i = k
      · rw [if_pos h, if_pos (by omega), h]
      · rw [if_neg h]
        by_cases h2 : k < i
        · rw [if_pos h2, if_pos (by omega)]
        · rw [if_neg h2, if_neg (by omega)]
  · unfold yV
    simp only
    rw [if_neg (by omega)]
    congr 2
    apply List.map_congr_left
    intro i hi
    have : i < c.tides.toNat + 1 := by simpa using hi
    rw [if_pos (by omega)]
end Go.Proofs.Wb

namespace Go.Proofs.Wb
open Go Go.Fw Go.Gx Go.Sb
set_option linter.unusedVariables false
set_option maxRecDepth 100000
theorem lev_iff {c : Channel} (r : Right c) {L : List (List State)} (hL : Levs c L) {k : Nat} (hk : (k : Int) ≤ c.tides) {s : State} : s ∈ L.getD k [] ↔ ∃ l ∈ LL c, s = stL k l ∧ onB c k l = true := by
  have hc := r.cells
  rw [hL.mem k hk]
  constructor
  · intro h
    obtain ⟨v1, v2⟩ := on_V r k hk s h
    obtain ⟨l, hl, rfl⟩ := stL_of r v1 v2
    exact ⟨l, hl, rfl, (on_iff r k hk l ((mem_LL (by omega)).1 hl)).1 h⟩
  · rintro ⟨l, hl, rfl, h⟩
    exact (on_iff r k hk l ((mem_LL (by omega)).1 hl)).2 h
theorem levs_ix {c : Channel} (r : Right c) {L : List (List State)} (hL : Levs c L) {k : Int} (h0 : 0 ≤ k) (hk : k ≤ c.tides) : ix L k = some (L.getD k.toNat []) := ix_eq [] h0 (by have := hL.len; omega)
theorem rows_ix {c : Channel} {k : Nat} (hk : (k : Int) ≤ c.tides) (h0 : 0 ≤ c.tides) : ix ((List.range (c.tides.toNat + 1)).map (onRow c)) (k : Int) = some (onRow c k) := range_ix (by omega)
theorem onRow_ix {c : Channel} {k a : Nat} (ha : a < (LL c).length) : ix (onRow c k) (a : Int) = some (onB c k (li c a)) := by unfold onRow; rw [range_ix ha]
end Go.Proofs.Wb

namespace Go.Proofs.Wb
open Go Go.Fw Go.Gx Go.Sb
set_option maxRecDepth 100000
theorem awake_true : yY = some true := by decide +kernel
end Go.Proofs.Wb

namespace Go.Proofs.Wb
open Go Go.Fw Go.Gx Go.Sb
set_option linter.unusedVariables false
set_option maxRecDepth 100000
theorem jai (c : Channel) : yW c = some (decide (10 < c.fords.length ∨ 10 < c.sands.length ∨ 14 < c.sights.length)) := by
  unfold yW
  by_cases h1 : 10 < c.fords.length
  · rw [if_pos (by omega), Option.bind_some, decide_eq_true (.inl h1)]
  · rw [if_neg (by omega)]
    by_cases h2 : 10 < c.sands.length
    · rw [if_pos (by omega), Option.bind_some, decide_eq_true (.inr (.inl h2))]
    · rw [if_neg (by omega), Option.bind_some]
      congr 1
      rw [Bool.eq_iff_iff, decide_eq_true_eq, decide_eq_true_eq]
      omega
theorem few_of {c : Channel} (h : ¬ (10 < c.fords.length ∨ 10 < c.sands.length ∨ 14 < c.sights.length)) : Few c := ⟨by omega, by omega, by omega⟩
end Go.Proofs.Wb

namespace Go.Proofs.Wb
open Go Go.Fw Go.Gx Go.Sb
set_option linter.unusedVariables false
set_option maxRecDepth 100000
def WideP (c : Channel) : Prop := (10 < c.fords.length ∨ 10 < c.sands.length ∨ 14 < c.sights.length) ∨ c.fords.length = 3 ∨ (8 < c.cells ∧ c.cells ≤ 10)
instance (c : Channel) : Decidable (WideP c) := by unfold WideP; infer_instance
theorem jas (c : Channel) : zp c = some (decide (WideP c)) := by
  unfold zp
  rw [jai, Option.bind_some]
  by_cases h1 : 10 < c.fords.length ∨ 10 < c.sands.length ∨ 14 < c.sights.length
  · rw [if_pos (by simpa using h1), Option.bind_some, decide_eq_true (p := WideP c) (.inl h1)]
  · rw [if_neg (by simpa using h1)]
    by_cases h2 : c.fords.length = 3
    · rw [if_pos (by omega), Option.bind_some, decide_eq_true (p := WideP c) (.inr (.inl h2))]
    · rw [if_neg (by omega)]
      by_cases h3 : 8 < c.cells
      · rw [if_pos h3, Option.bind_some]
        congr 1
        rw [Bool.eq_iff_iff, decide_eq_true_eq, decide_eq_true_eq]
        unfold WideP
        omega
      · rw [if_neg h3, Option.bind_some]
        congr 1
        symm
        rw [decide_eq_false_iff_not]
        unfold WideP
        omega
theorem few_wide {c : Channel} (h : ¬ WideP c) : Few c := few_of (fun q => h (.inl q))
theorem YT {c : Channel} (r : Right c) : jK c = some ((2 ^ c.sights.length - 1 : Nat) : Int) := K3 (by have := r.sights; omega)
theorem Zp {c : Channel} (r : Right c) : yc c ((2 ^ c.sights.length - 1 : Nat) : Int) = some (cntS tt c : Int) := by rw [ZA r (all_small r), cntS_all]
end Go.Proofs.Wb

namespace Go.Proofs.Wb
open Go Go.Fw Go.Gx Go.Sb
set_option linter.unusedVariables false
set_option maxRecDepth 100000
theorem cntS_sum {cnt : Nat → Bool} {c : Channel} (r : Right c) : cntS cnt c = sumN (LL c) (FcL cnt c c.tides.toNat) := by
  have hc := r.cells
  have h := FcL_sum (cnt := cnt) r c.tides.toNat 0
  unfold cntS
  rw [Nat.add_zero] at h
  rw [← h]
  refine sumN_congr fun l hl => ?_
  rw [R, agS_stL r ((mem_LL (by omega)).1 hl)]
  by_cases hag : agP cnt c.sights ((c.tides.toNat : Nat) : Int) l = true
  · rw [if_pos hag, Nat.mul_one]
  · rw [if_neg hag, Nat.mul_zero, FcL_ag hag]
theorem ZZ {c : Channel} (h : Few c) : yP c = some (if chk c = 0 then ⟨(cntS tt c : Int), 0⟩ else ⟨0, chk c⟩) := jan h
end Go.Proofs.Wb

namespace Go.Proofs.Wb
open Go Go.Fw Go.Gx Go.Sb
set_option linter.unusedVariables false
set_option maxRecDepth 100000
theorem contains_loop2 {α : Type} {f : Int → Option (Int ⊕ (Unit ⊕ Int))} (l : List α) (d : α) (bad : α → Bool) (hl : l.length ≤ 1000000000000)
    (h : ∀ k : Nat, k < l.length → f (k : Int) = some (if bad (l.getD k d) = true then .inr (.inr (k : Int)) else .inl ((k : Int) + 1))) (he : f (l.length : Int) = some (.inr (.inl ()))) :
    (((iterM FU f 0).bind fun o => oc o (fun _ => (some (-1) : Option Int)) (fun r => some r)).bind fun t => some (decide (0 ≤ t))) = some (l.any bad) := by
  have key := iterM_any (f := f) 0 l.length (fun k => bad (l.getD k d)) (fun k => (k : Int)) (fun k hk => by
    have := h k hk
    rw [Int.zero_add]
    exact this) (by rw [Int.zero_add]; exact he) (N := FU) (FU_lt2 (by omega))
  rw [key]
  cases hf : (List.range l.length).find? (fun k => bad (l.getD k d)) with
  | none =>
    have : l.any bad = false := by
      rw [List.any_eq_false]
      intro x hx
      obtain ⟨i, hi, rfl⟩ := List.getElem_of_mem hx
      have h2 := List.find?_eq_none.1 hf i (by simpa using hi)
      simpa [List.getD_eq_getElem?_getD, hi] using h2
    rw [this]
    rfl
  | some k =>
    have h1 := List.find?_some hf
    have h2 : k < l.length := by simpa using List.mem_of_find?_eq_some hf
    have : l.any bad = true := by
      rw [List.any_eq_true]
      refine ⟨l[k], List.getElem_mem h2, ?_⟩
      simpa [List.getD_eq_getElem?_getD, h2] using h1
    rw [this, Option.bind_some, oc_inr, Option.bind_some, decide_eq_true (show (0 : Int) ≤ (k : Int) by omega)]
theorem Zn {l : List State} (hl : l.length ≤ 1000000000000) (v : State) : jX l v = some (decide (v ∈ l)) := by
  unfold jX kK
  rw [contains_loop2 (f := jW l v) l default (fun x => decide (v = x)) hl (fun k hk => ?_) ?_]
  · congr 1
    rw [Bool.eq_iff_iff, List.any_eq_true, decide_eq_true_eq]
    constructor
    · rintro ⟨x, hx, he⟩
      rw [decide_eq_true_eq] at he
      subst he; exact hx
    · intro h
      exact ⟨v, h, by simp⟩
  · unfold jW
    rw [if_neg (by omega)]
  · unfold jW
    rw [if_pos (by omega), ix_nat default hk, Option.bind_some]
    show (if v = l.getD k default then _ else _) = _
    by_cases h : v = l.getD k default
    · rw [if_pos h, if_pos (by simpa using h)]
    · rw [if_neg h, if_neg (by simpa using h), addc_eq (by omega), Option.bind_some]
def mvI (x y : Int) : Int := max (x - y) (y - x)
def sumI (f : Nat → Int) : Nat → Int
  | 0 => 0
  | n + 1 => sumI f n + f n
theorem sumI_bnd {f : Nat → Int} {B : Int} : ∀ n, (∀ i, i < n → 0 ≤ f i ∧ f i ≤ B) → 0 ≤ sumI f n ∧ sumI f n ≤ n * B
  | 0, _ => by simp [sumI]
  | n + 1, h => by
    have h1 := sumI_bnd n (fun i hi => h i (by omega))
    have h2 := h n (by omega)
    rw [sumI, show ((n + 1 : Nat) : Int) * B = n * B + B by rw [Int.natCast_add, Int.add_mul]; simp]
    omega
theorem sumI_congr {f g : Nat → Int} : ∀ n, (∀ i, i < n → f i = g i) → sumI f n = sumI g n
  | 0, _ => rfl
  | n + 1, h => by rw [sumI, sumI, sumI_congr n (fun i hi => h i (by omega)), h n (by omega)]
def movS (s t : State) : Int := sumI (fun i => mvI (cGet s.at_ i) (cGet t.at_ i)) 3
def movL (a b : List Int) : Int := sumI (fun i => mvI (a.getD i (-1)) (b.getD i (-1))) a.length
theorem movS_stL {a b : List Int} (h : a.length = b.length) (h3 : a.length ≤ 3) (j k : Nat) : movS (stL j a) (stL k b) = movL a b := by
  have e : ∀ i, i < 3 → (fun i => mvI (cGet (stL j a).at_ i) (cGet (stL k b).at_ i)) i = (fun i => mvI (a.getD i (-1)) (b.getD i (-1))) i := by
    intro i hi
    show mvI (cGet (mkCells a) i) (cGet (mkCells b) i) = _
    rw [cGet_mk hi, cGet_mk hi]
  unfold movS movL
  rw [sumI_congr 3 e]
  have z : ∀ i, a.length ≤ i → mvI (a.getD i (-1)) (b.getD i (-1)) = 0 := by
    intro i hi
    rw [List.getD_eq_getElem?_getD, List.getD_eq_getElem?_getD, List.getElem?_eq_none hi, List.getElem?_eq_none (by omega)]
    rfl
  have : a.length = 0 ∨ a.length = 1 ∨ a.length = 2 ∨ a.length = 3 := by omega
  rcases this with h | h | h | h <;> rw [h]
  · simp only [sumI, z 0 (by omega), z 1 (by omega), z 2 (by omega)]; rfl
  · simp only [sumI, z 1 (by omega), z 2 (by omega)]; omega
  · simp only [sumI, z 2 (by omega)]; omega
theorem VS_cell {c : Channel} (r : Right c) {s : State} (h : VS c s) {i : Nat} (hi : i < 3) : -1 ≤ cGet s.at_ i ∧ cGet s.at_ i ≤ 10 := by
  obtain ⟨⟨l, h1, h2⟩, _⟩ := h
  have hc := r.cells
  rw [h2, cGet_mk hi]
  by_cases hl : i < l.length
  · have := (rowB_iff.1 h1).2.2 _ (getD_mem (d := -1) hl)
    omega
  · rw [List.getD_eq_getElem?_getD, List.getElem?_eq_none (by omega)]
    simp
theorem movS_bnd {c : Channel} (r : Right c) {s t : State} (hs : VS c s) (ht : VS c t) : 0 ≤ movS s t ∧ movS s t ≤ 33 := by
  have := sumI_bnd (f := fun i => mvI (cGet s.at_ i) (cGet t.at_ i)) (B := 11) 3 (fun i hi => by
    have h1 := VS_cell r hs hi
    have h2 := VS_cell r ht hi
    unfold mvI
    omega)
  unfold movS
  omega
theorem jar {c : Channel} (r : Right c) {s t : State} (hs : VS c s) (ht : VS c t) : JZ s t = some (movS s t) := by
  unfold JZ
  have key := iterM_run (f := yR s t) (fun i => ⟨sumI (fun i => mvI (cGet s.at_ i) (cGet t.at_ i)) i, (i : Int)⟩) 3 (b := movS s t) (fun i hi => ?_) ?_ FU (FU_lt (by omega))
  · show (iterM FU (yR s t) ⟨sumI (fun i => mvI (cGet s.at_ i) (cGet t.at_ i)) 0, ((0 : Nat) : Int)⟩).bind _ = _
    rw [key]; rfl
  · have h1 := VS_cell r hs hi
    have h2 := VS_cell r ht hi
    have h3 := sumI_bnd (f := fun i => mvI (cGet s.at_ i) (cGet t.at_ i)) (B := 11) i (fun j hj => by
      have h1 := VS_cell r hs (show j < 3 by omega)
      have h2 := VS_cell r ht (show j < 3 by omega)
      unfold mvI
      omega)
    unfold yR
    simp only
    rw [if_pos (by omega), ix3 hi, Option.bind_some, ix3 hi, Option.bind_some, subc_eq (by omega), Option.bind_some, Option.bind_some, subc_eq (by omega), Option.bind_some, addc_eq (by omega), Option.bind_some, addc_eq (by omega), Option.bind_some]
    rfl
  · unfold yR
    simp only
    rw [if_neg (by omega)]
    rfl
def FV (few : List (State × Int)) (x : State) : Int := (aget few x).getD 0
def stepC (X : List State) (few : List (State × Int)) (s : State) (p : Int × List (State × State)) (x : State) : Int × List (State × State) := if x ∈ X then (if p.1 < 0 ∨ movS s x + FV few x < p.1 then (movS s x + FV few x, aset p.2 s x) else p) else p
theorem calm_F2 {c : Channel} (r : Right c) {L : List (List State)} {k : Nat} (X : List State) (hX : ix L ((k : Int) + 1) = some X) (hXl : X.length ≤ 1000000000000) (hk : k < 100) {s : State} (hs : VS c s) (S : q3) (hSk : S.k10 = (k : Int)) (S1 : zl) (hB : ∀ x ∈ X, VS c x ∧ 0 ≤ FV S1.t27 x ∧ FV S1.t27 x ≤ 1000) : ∀ (xs : List State) (p : Int × List (State × State)),
    iterL (z8 S ⟨c.cells, c.tides, L, rchL c⟩ s S1) xs ⟨p.1, p.2⟩ = some ⟨(xs.foldl (stepC X S1.t27 s) p).1, (xs.foldl (stepC X S1.t27 s) p).2⟩
  | [], p => rfl
  | x :: xs, p => by
    rw [iterL, List.foldl_cons]
    have h1 : z8 S ⟨c.cells, c.tides, L, rchL c⟩ s S1 x ⟨p.1, p.2⟩ = some ⟨(stepC X S1.t27 s p x).1, (stepC X S1.t27 s p x).2⟩ := by
      unfold z8 stepC
      simp only
      rw [hSk, addc_eq (by omega), Option.bind_some, hX, Option.bind_some, Zn hXl, Option.bind_some, not_true_if]
      by_cases hx : x ∈ X
      · obtain ⟨b1, b2, b3⟩ := hB x hx
        have hm := movS_bnd r hs b1
        rw [if_pos (by simpa using hx), if_pos hx, jar r hs b1, Option.bind_some]
        have e : (aget S1.t27 x).getD 0 = FV S1.t27 x := rfl
        rw [e, addc_eq (by omega), Option.bind_some]
        by_cases h0 : p.1 < 0
        · rw [if_pos h0, Option.bind_some, if_pos rfl, if_pos (.inl h0)]; rfl
        · rw [if_neg h0, Option.bind_some]
          by_cases h2 : movS s x + FV S1.t27 x < p.1
          · rw [if_pos (by simpa using h2), if_pos (.inr h2)]; rfl
          · rw [if_neg (by simpa using h2), if_neg (by rintro (q | q); exact h0 q; exact h2 q)]
      · rw [if_neg (by simpa using hx), if_neg hx]
    rw [h1, Option.bind_some]
    exact calm_F2 r X hX hXl hk hs S hSk S1 hB xs _
structure InvC (X : List State) (few : List (State × Int)) (s : State) (to0 : List (State × State)) (P : List State) (p : Int × List (State × State)) : Prop where
  same : ∀ t, t ≠ s → aget p.2 t = aget to0 t
  best : (p.1 = -1 ∧ ∀ y ∈ P, y ∉ X) ∨ (0 ≤ p.1 ∧ (∃ x ∈ P, x ∈ X ∧ aget p.2 s = some x ∧ p.1 = movS s x + FV few x) ∧ ∀ y ∈ P, y ∈ X → p.1 ≤ movS s y + FV few y)
theorem invC_step {X : List State} {few : List (State × Int)} {s : State} {to0 : List (State × State)} (hB : ∀ x ∈ X, 0 ≤ movS s x ∧ 0 ≤ FV few x) {P : List State} {p : Int × List (State × State)} (h : InvC X few s to0 P p) (x : State) : InvC X few s to0 (P ++ [x]) (stepC X few s p x) := by
  obtain ⟨h1, h2⟩ := h
  unfold stepC
  by_cases hx : x ∈ X
  · have hb := hB x hx
    rw [if_pos hx]
    by_cases h3 : p.1 < 0 ∨ movS s x + FV few x < p.1
    · rw [if_pos h3]
      refine ⟨fun t ht => ?_, .inr ⟨by simp only; omega, ⟨x, by simp, hx, ?_, rfl⟩, fun y hy hyX => ?_⟩⟩
      · simp only
        rw [aget_aset, if_neg ht]
        exact h1 t ht
      · simp only
        rw [aget_aset, if_pos rfl]
      · simp only
        rcases List.mem_append.1 hy with hy | hy
        · rcases h2 with ⟨_, h2⟩ | ⟨h4, _, h2⟩
          · exact absurd hyX (h2 y hy)
          · have := h2 y hy hyX
            rcases h3 with h3 | h3 <;> omega
        · rw [List.mem_singleton] at hy
          subst hy
          exact Int.le_refl _
    · rw [if_neg h3]
      refine ⟨h1, ?_⟩
      rcases h2 with ⟨h2, _⟩ | ⟨h4, ⟨z, hz, hzX, h5, h6⟩, h2⟩
      · exact absurd (.inl (by omega)) h3
      · refine .inr ⟨h4, ⟨z, List.mem_append_left _ hz, hzX, h5, h6⟩, fun y hy hyX => ?_⟩
        rcases List.mem_append.1 hy with hy | hy
        · exact h2 y hy hyX
        · rw [List.mem_singleton] at hy
          subst hy
          have : ¬ movS s y + FV few y < p.1 := fun q => h3 (.inr q)
          omega
  · rw [if_neg hx]
    refine ⟨h1, ?_⟩
    have hno : ∀ y ∈ P ++ [x], y ∈ X → y ∈ P := by
      intro y hy hyX
      rcases List.mem_append.1 hy with hy | hy
      · exact hy
      · rw [List.mem_singleton] at hy
        subst hy
        exact absurd hyX hx
    rcases h2 with ⟨h2, h3⟩ | ⟨h4, ⟨z, hz, hzX, h5, h6⟩, h2⟩
    · exact .inl ⟨h2, fun y hy hyX => h3 y (hno y hy hyX) hyX⟩
    · exact .inr ⟨h4, ⟨z, List.mem_append_left _ hz, hzX, h5, h6⟩, fun y hy hyX => h2 y (hno y hy hyX) hyX⟩
theorem invC_fold {X : List State} {few : List (State × Int)} {s : State} {to0 : List (State × State)} (hB : ∀ x ∈ X, 0 ≤ movS s x ∧ 0 ≤ FV few x) : ∀ (xs P : List State) (p : Int × List (State × State)), InvC X few s to0 P p → InvC X few s to0 (P ++ xs) (xs.foldl (stepC X few s) p)
  | [], P, p, h => by rw [List.append_nil]; exact h
  | x :: xs, P, p, h => by
    have := invC_fold hB xs (P ++ [x]) _ (invC_step hB h x)
    rw [List.append_assoc] at this
    exact this
def GoodC (c : Channel) (X : List State) (few : List (State × Int)) (to : List (State × State)) (s : State) : Prop := ∃ x, aget to s = some x ∧ x ∈ nxS c s ∧ x ∈ X ∧ aget few s = some (movS s x + FV few x) ∧ ∀ y ∈ nxS c s, y ∈ X → movS s x + FV few x ≤ movS s y + FV few y
def BndC (c : Channel) (few : List (State × Int)) : Prop := ∀ x, VS c x → 0 ≤ FV few x ∧ FV few x ≤ 33 * (c.tides - x.after)
def stepV (c : Channel) (X : List State) (q : List (State × State) × List (State × Int)) (s : State) : List (State × State) × List (State × Int) := (((nxS c s).foldl (stepC X q.2 s) (-1, q.1)).2, aset q.2 s ((nxS c s).foldl (stepC X q.2 s) (-1, q.1)).1)
structure LvlC (c : Channel) (k : Nat) (X : List State) (q0 : List (State × State) × List (State × Int)) (P : List State) (q : List (State × State) × List (State × Int)) : Prop where
  same : ∀ t : State, t.after ≠ (k : Int) → aget q.1 t = aget q0.1 t ∧ aget q.2 t = aget q0.2 t
  good : ∀ s ∈ P, GoodC c X q.2 q.1 s
  bnd : BndC c q.2
theorem FV_same {few few' : List (State × Int)} {x : State} (h : aget few x = aget few' x) : FV few x = FV few' x := by unfold FV; rw [h]
theorem lvl_step {c : Channel} (r : Right c) {k : Nat} (hk : (k : Int) < c.tides) {X : List State} (hX : ∀ x ∈ X, VS c x ∧ x.after = (k : Int) + 1) {q0 q : List (State × State) × List (State × Int)} {P : List State} (h : LvlC c k X q0 P q) {s : State} (hs : VS c s ∧ s.after = (k : Int)) (hex : ∃ x ∈ nxS c s, x ∈ X) (hP : ∀ t ∈ P, t.after = (k : Int)) : LvlC c k X q0 (P ++ [s]) (stepV c X q s) := by
  obtain ⟨h1, h2, h3⟩ := h
  have hB : ∀ x ∈ X, 0 ≤ movS s x ∧ 0 ≤ FV q.2 x := fun x hx => ⟨(movS_bnd r hs.1 (hX x hx).1).1, (h3 x (hX x hx).1).1⟩
  have inv := invC_fold (to0 := q.1) hB (nxS c s) [] (-1, q.1) ⟨fun _ _ => rfl, .inl ⟨rfl, by simp⟩⟩
  rw [List.nil_append] at inv
  obtain ⟨i1, i2⟩ := inv
  unfold stepV
  generalize (nxS c s).foldl (stepC X q.2 s) (-1, q.1) = p at i1 i2 ⊢
  obtain ⟨x0, hx0, hx0X⟩ := hex
  rcases i2 with ⟨_, i2⟩ | ⟨i3, ⟨x, hx, hxX, i4, i5⟩, i6⟩
  · exact absurd hx0X (i2 x0 hx0)
  have hsX : s ∉ X := fun hq => by have := (hX s hq).2; omega
  have eF : ∀ y : State, y ≠ s → aget (aset q.2 s p.1) y = aget q.2 y := fun y hy => by rw [aget_aset, if_neg hy]
  have eFX : ∀ y ∈ X, FV (aset q.2 s p.1) y = FV q.2 y := fun y hy => FV_same (eF y (fun e => hsX (e ▸ hy)))
  have gs : GoodC c X (aset q.2 s p.1) p.2 s := by
    refine ⟨x, i4, hx, hxX, ?_, fun y hy hyX => ?_⟩
    · rw [aget_aset, if_pos rfl, eFX x hxX, i5]
    · rw [eFX x hxX, eFX y hyX, ← i5]
      exact i6 y hy hyX
  refine ⟨fun t ht => ?_, fun t ht => ?_, fun y hy => ?_⟩
  · have hts : t ≠ s := fun e => ht (e ▸ hs.2)
    simp only
    rw [eF t hts, i1 t hts]
    exact h1 t ht
  · by_cases hts : t = s
    · rw [hts]; exact gs
    · have htP : t ∈ P := by
        rcases List.mem_append.1 ht with ht | ht
        · exact ht
        · exact absurd (List.mem_singleton.1 ht) hts
      obtain ⟨z, z1, z2, z3, z4, z5⟩ := h2 t htP
      refine ⟨z, ?_, z2, z3, ?_, fun y hy hyX => ?_⟩
      · simp only; rw [i1 t hts]; exact z1
      · simp only; rw [eF t hts, eFX z z3]; exact z4
      · simp only; rw [eFX z z3, eFX y hyX]; exact z5 y hy hyX
  · simp only
    by_cases hys : y = s
    · subst hys
      have e : FV (aset q.2 y p.1) y = p.1 := by unfold FV; rw [aget_aset, if_pos rfl]; rfl
      have m := movS_bnd r hs.1 (hX x hxX).1
      have b := h3 x (hX x hxX).1
      have a := (hX x hxX).2
      rw [e]
      omega
    · rw [FV_same (eF y hys)]
      exact h3 y hy
theorem lvl_fold {c : Channel} (r : Right c) {k : Nat} (hk : (k : Int) < c.tides) {X : List State} (hX : ∀ x ∈ X, VS c x ∧ x.after = (k : Int) + 1) {q0 : List (State × State) × List (State × Int)} : ∀ (l P : List State) (q : List (State × State) × List (State × Int)), LvlC c k X q0 P q → (∀ s ∈ l, (VS c s ∧ s.after = (k : Int)) ∧ ∃ x ∈ nxS c s, x ∈ X) → (∀ t ∈ P, t.after = (k : Int)) → LvlC c k X q0 (P ++ l) (l.foldl (stepV c X) q)
  | [], P, q, h, _, _ => by rw [List.append_nil]; exact h
  | s :: l, P, q, h, hl, hP => by
    have h1 := hl s (by simp)
    have := lvl_fold r hk hX l (P ++ [s]) _ (lvl_step r hk hX h h1.1 h1.2 hP) (fun t ht => hl t (List.mem_cons_of_mem _ ht)) (fun t ht => by
      rcases List.mem_append.1 ht with ht | ht
      · exact hP t ht
      · rw [List.mem_singleton] at ht; rw [ht]; exact h1.1.2)
    rw [List.append_assoc] at this
    exact this
theorem lev_next {c : Channel} (r : Right c) {L : List (List State)} (hL : Levs c L) {k : Nat} (hk : (k : Int) < c.tides) {s : State} (hs : s ∈ L.getD k []) : ∃ x ∈ nxS c s, x ∈ L.getD (k + 1) [] := by
  have ht := r.tides
  have h1 := (hL.mem k (by omega) s).1 hs
  have h2 := on_R (by omega) h1
  rw [show c.tides.toNat - k = (c.tides.toNat - k - 1) + 1 by omega, R_succ_pos] at h2
  obtain ⟨_, t, ht1, ht2⟩ := h2
  exact ⟨t, ht1, (hL.mem (k + 1) (by omega) t).2 ((on_succ (by omega)).2 ⟨s, h1, ht1, ht2⟩)⟩
theorem calm_L1 {c : Channel} (r : Right c) {L : List (List State)} (hL : Levs c L) {k : Nat} (hk : (k : Int) < c.tides) (S : q3) (hSk : S.k10 = (k : Int)) (q0 : List (State × State) × List (State × Int)) (hB : BndC c q0.2) :
    iterM FU (zk (L.getD k []) ⟨c.cells, c.tides, L, rchL c⟩ c S) ⟨0, q0.1, q0.2⟩ = some ⟨((L.getD k []).foldl (stepV c (L.getD (k + 1) [])) q0).1, ((L.getD k []).foldl (stepV c (L.getD (k + 1) [])) q0).2⟩ ∧ LvlC c k (L.getD (k + 1) []) q0 (L.getD k []) ((L.getD k []).foldl (stepV c (L.getD (k + 1) [])) q0) := by
  have ht := r.tides
  have hX : ∀ x ∈ L.getD (k + 1) [], VS c x ∧ x.after = (k : Int) + 1 := fun x hx => by
    have := hL.val (k + 1) (by omega) x hx
    exact ⟨this.1, by omega⟩
  have hl : ∀ s ∈ L.getD k [], (VS c s ∧ s.after = (k : Int)) ∧ ∃ x ∈ nxS c s, x ∈ L.getD (k + 1) [] := fun s hs => ⟨hL.val k (by omega) s hs, lev_next r hL hk hs⟩
  have h0 : LvlC c k (L.getD (k + 1) []) q0 [] q0 := ⟨fun _ _ => ⟨rfl, rfl⟩, by simp, hB⟩
  have fin := lvl_fold r hk hX (L.getD k []) [] q0 h0 hl (by simp)
  rw [List.nil_append] at fin
  refine ⟨?_, fin⟩
  have hixX : ix L ((k : Int) + 1) = some (L.getD (k + 1) []) := by
    have := levs_ix r hL (k := (k : Int) + 1) (by omega) (by omega)
    rw [this, show ((k : Int) + 1).toNat = k + 1 by omega]
  have hXl := hL.bnd (k + 1) (by omega)
  have hll := hL.bnd k (by omega)
  generalize L.getD k [] = l at *
  generalize L.getD (k + 1) [] = X at *
  have key := iterM_run (f := zk l ⟨c.cells, c.tides, L, rchL c⟩ c S) (fun j => ⟨(j : Int), ((l.take j).foldl (stepV c X) q0).1, ((l.take j).foldl (stepV c X) q0).2⟩) l.length (b := ⟨(l.foldl (stepV c X) q0).1, (l.foldl (stepV c X) q0).2⟩) (fun j hj => ?_) ?_ FU (FU_lt2 (by omega))
  · exact key
  · have e : l.take (j + 1) = l.take j ++ [l[j]] := by rw [List.take_append_getElem]
    have hx : l.getD j default = l[j] := by simp [List.getD_eq_getElem?_getD, hj]
    have hv := (hl l[j] (List.getElem_mem hj)).1
    have mid := lvl_fold r hk hX (l.take j) [] q0 h0 (fun s hs => hl s (List.mem_of_mem_take hs)) (by simp)
    have hb := mid.bnd
    unfold zk kH
    simp only
    rw [if_pos (by omega), ix_nat default hj, Option.bind_some, hx, Option.bind_some, if_pos (VS_next r hv.1)]
    have hf := calm_F2 r (L := L) X hixX hXl (by omega) hv.1 S hSk ⟨(j : Int), ((l.take j).foldl (stepV c X) q0).1, ((l.take j).foldl (stepV c X) q0).2⟩ (fun x hx => ⟨(hX x hx).1, (hb x (hX x hx).1).1, by have := (hb x (hX x hx).1).2; have := (hX x hx).2; simp only; omega⟩) (nxS c l[j]) (-1, ((l.take j).foldl (stepV c X) q0).1)
    unfold nxS at hf
    simp only at hf
    rw [hf, Option.bind_some, Option.bind_some, addc_eq (by omega), Option.bind_some, e, List.foldl_append]
    rfl
  · unfold zk
    simp only
    rw [if_neg (by omega), List.take_length]
end Go.Proofs.Wb

namespace Go.Proofs.Wb
open Go Go.Fw Go.Gx Go.Sb
set_option linter.unusedVariables false
set_option maxRecDepth 100000
def calmC (c : Channel) (L : List (List State)) : Nat → List (State × State) × List (State × Int)
  | 0 => ([], [])
  | m + 1 => (L.getD (c.tides.toNat - 1 - m) []).foldl (stepV c (L.getD (c.tides.toNat - 1 - m + 1) [])) (calmC c L m)
structure CalmI (c : Channel) (L : List (List State)) (m : Nat) (q : List (State × State) × List (State × Int)) : Prop where
  bnd : BndC c q.2
  good : ∀ k : Nat, c.tides.toNat - m ≤ k → k < c.tides.toNat → ∀ s ∈ L.getD k [], GoodC c (L.getD (k + 1) []) q.2 q.1 s
  last : ∀ s : State, s.after = c.tides → aget q.2 s = none
theorem GoodC.same {c : Channel} {X : List State} {few few' : List (State × Int)} {to to' : List (State × State)} {s : State} (h : GoodC c X few to s) (h1 : aget to' s = aget to s) (h2 : aget few' s = aget few s) (h3 : ∀ x ∈ X, aget few' x = aget few x) : GoodC c X few' to' s := by
  obtain ⟨z, z1, z2, z3, z4, z5⟩ := h
  have e : ∀ x ∈ X, FV few' x = FV few x := fun x hx => FV_same (h3 x hx)
  refine ⟨z, by rw [h1]; exact z1, z2, z3, by rw [h2, e z z3]; exact z4, fun y hy hyX => ?_⟩
  rw [e z z3, e y hyX]
  exact z5 y hy hyX
theorem calmI {c : Channel} (r : Right c) {L : List (List State)} (hL : Levs c L) : ∀ m : Nat, m ≤ c.tides.toNat → CalmI c L m (calmC c L m)
  | 0, _ => ⟨fun x hx => by
      have : FV [] x = 0 := rfl
      obtain ⟨_, _, h⟩ := hx
      show 0 ≤ FV [] x ∧ FV [] x ≤ _
      rw [this]
      omega, fun k h1 h2 => by omega, fun s _ => rfl⟩
  | m + 1, hm => by
    have ih := calmI r hL m (by omega)
    have ht := r.tides
    have hk : ((c.tides.toNat - 1 - m : Nat) : Int) < c.tides := by omega
    obtain ⟨_, lv⟩ := calm_L1 r hL hk ⟨((c.tides.toNat - 1 - m : Nat) : Int), [], []⟩ rfl (calmC c L m) ih.bnd
    have e : calmC c L (m + 1) = (L.getD (c.tides.toNat - 1 - m) []).foldl (stepV c (L.getD (c.tides.toNat - 1 - m + 1) [])) (calmC c L m) := rfl
    rw [e]
    refine ⟨lv.bnd, fun k h1 h2 s hs => ?_, fun s hs => ?_⟩
    · by_cases h3 : k = c.tides.toNat - 1 - m
      · subst h3; exact lv.good s hs
      · have hv := hL.val k (by omega) s hs
        have s1 := lv.same s (by omega)
        refine (ih.good k (by omega) h2 s hs).same s1.1 s1.2 (fun x hx => ?_)
        have hv2 := hL.val (k + 1) (by omega) x hx
        exact (lv.same x (by omega)).2
    · rw [(lv.same s (by omega)).2]
      exact ih.last s hs
def fewC (c : Channel) (L : List (List State)) (s : State) : Int := FV (calmC c L c.tides.toNat).2 s
def pth (c : Channel) (L : List (List State)) : Nat → State
  | 0 => first c
  | j + 1 => (aget (calmC c L c.tides.toNat).1 (pth c L j)).getD ⟨0, ⟨0, 0, 0⟩⟩
theorem first_lev {c : Channel} (r : Right c) {L : List (List State)} (hL : Levs c L) (h : cntS tt c ≠ 0) : first c ∈ L.getD 0 [] := by
  have ht := r.tides
  refine (hL.mem 0 (by omega) _).2 (on_zero.2 ⟨rfl, ?_⟩)
  exact Nat.pos_of_ne_zero h
theorem pth_spec {c : Channel} (r : Right c) {L : List (List State)} (hL : Levs c L) (h : cntS tt c ≠ 0) : ∀ j : Nat, j ≤ c.tides.toNat → pth c L j ∈ L.getD j [] ∧ (j < c.tides.toNat → pth c L (j + 1) ∈ nxS c (pth c L j) ∧ fewC c L (pth c L j) = movS (pth c L j) (pth c L (j + 1)) + fewC c L (pth c L (j + 1))) := by
  have step : ∀ j : Nat, j < c.tides.toNat → pth c L j ∈ L.getD j [] → pth c L (j + 1) ∈ L.getD (j + 1) [] ∧ pth c L (j + 1) ∈ nxS c (pth c L j) ∧ fewC c L (pth c L j) = movS (pth c L j) (pth c L (j + 1)) + fewC c L (pth c L (j + 1)) := by
    intro j hj hin
    obtain ⟨x, x1, x2, x3, x4, _⟩ := (calmI r hL c.tides.toNat (Nat.le_refl _)).good j (by omega) hj _ hin
    have e : pth c L (j + 1) = x := by rw [pth, x1]; rfl
    rw [e]
    refine ⟨x3, x2, ?_⟩
    show (aget _ _).getD 0 = _
    rw [x4]
    rfl
  intro j
  induction j with
  | zero => intro hj; exact ⟨first_lev r hL h, fun h1 => (step 0 h1 (first_lev r hL h)).2⟩
  | succ j ih =>
    intro hj
    have h1 := step j (by omega) (ih (by omega)).1
    exact ⟨h1.1, fun h2 => (step (j + 1) h2 h1.1).2⟩
def crsC (c : Channel) (L : List (List State)) : List (List Int) := (List.range (c.tides.toNat + 1)).map fun j => clS c.fords.length (pth c L j)
theorem jay {c : Channel} (h : Few c) : ∃ L, zU c = some (if chk c = 0 then (if cntS tt c = 0 then ⟨0, 7, []⟩ else ⟨fewC c L (first c), 0, crsC c L⟩) else ⟨0, chk c, []⟩) ∧ (chk c = 0 → cntS tt c ≠ 0 → Levs c L) := by
  unfold zU
  obtain ⟨L, e, hL⟩ := Z5 h
  refine ⟨L, ?_, hL⟩
  rw [e, Option.bind_some]
  by_cases h0 : chk c = 0
  · have r := rightOf h0
    have hf := r.fords
    have ht := r.tides
    rw [if_pos h0, if_pos h0]
    by_cases h3 : cntS tt c = 0
    · rw [if_pos h3, if_pos h3, oc_inl]
    · rw [if_neg h3, if_neg h3, oc_inr]
      have hL' := hL h0 h3
      have key := iterM_run (f := zi ⟨c.cells, c.tides, L, rchL c⟩ c) (fun m => ⟨c.tides - 1 - (m : Int), (calmC c L m).1, (calmC c L m).2⟩) c.tides.toNat (b := ⟨(calmC c L c.tides.toNat).1, (calmC c L c.tides.toNat).2⟩) (fun m hm => ?_) ?_ FU (FU_lt (by omega))
      · rw [subc_eq (by omega), Option.bind_some]
        have k0 : iterM FU (zi ⟨c.cells, c.tides, L, rchL c⟩ c) ⟨c.tides - 1, [], []⟩ = some ⟨(calmC c L c.tides.toNat).1, (calmC c L c.tides.toNat).2⟩ := by
          have : c.tides - 1 - ((0 : Nat) : Int) = c.tides - 1 := by omega
          rw [← key, this]
          rfl
        rw [k0, Option.bind_some, Q4 hf.2, Option.bind_some, Y8 hf.2, Option.bind_some]
        have key2 := iterM_run (f := yF c ⟨c.cells, c.tides, L, rchL c⟩ ⟨(calmC c L c.tides.toNat).1, (calmC c L c.tides.toNat).2⟩) (fun j => ⟨(j : Int), (pth c L j).after, (pth c L j).at_.c0, (pth c L j).at_.c1, (pth c L j).at_.c2, (List.range (j + 1)).map fun j => clS c.fords.length (pth c L j)⟩) c.tides.toNat (b := ⟨(pth c L c.tides.toNat).after, (pth c L c.tides.toNat).at_.c0, (pth c L c.tides.toNat).at_.c1, (pth c L c.tides.toNat).at_.c2, crsC c L⟩) (fun j hj => ?_) ?_ FU (FU_lt (by omega))
        · have k1 : iterM FU (yF c ⟨c.cells, c.tides, L, rchL c⟩ ⟨(calmC c L c.tides.toNat).1, (calmC c L c.tides.toNat).2⟩) ⟨0, (first c).after, (first c).at_.c0, (first c).at_.c1, (first c).at_.c2, [clS c.fords.length (first c)]⟩ = _ := key2
          show ((iterM FU (yF c ⟨c.cells, c.tides, L, rchL c⟩ ⟨(calmC c L c.tides.toNat).1, (calmC c L c.tides.toNat).2⟩) ⟨0, (first c).after, (first c).at_.c0, (first c).at_.c1, (first c).at_.c2, [clS c.fords.length (first c)]⟩).bind _) = _
          rw [k1, Option.bind_some, Option.bind_some]
          rfl
        · unfold yF
          simp only
          rw [if_pos (by omega), Y8 hf.2, Option.bind_some, appc_eq (by simp; omega), Option.bind_some, addc_eq (by omega), Option.bind_some, List.range_succ (n := j + 1), List.map_append]
          rfl
        · unfold yF
          simp only
          rw [if_neg (by omega)]
          rfl
      · have hI := calmI r hL' m (by omega)
        have ek : c.tides - 1 - (m : Int) = ((c.tides.toNat - 1 - m : Nat) : Int) := by omega
        obtain ⟨run, _⟩ := calm_L1 r hL' (k := c.tides.toNat - 1 - m) (by omega) ⟨((c.tides.toNat - 1 - m : Nat) : Int), (calmC c L m).1, (calmC c L m).2⟩ rfl (calmC c L m) hI.bnd
        unfold zi
        simp only
        rw [ek, if_pos (by omega), levs_ix r hL' (by omega) (by omega), Option.bind_some, Int.toNat_natCast, run, Option.bind_some, subc_eq (by omega), Option.bind_some, show ((c.tides.toNat - 1 - m : Nat) : Int) - 1 = c.tides - 1 - ((m + 1 : Nat) : Int) by omega]
        rfl
      · unfold zi
        simp only
        rw [if_neg (by omega)]
  · rw [if_neg h0, if_neg h0, oc_inl]
theorem lev_row {c : Channel} (r : Right c) {L : List (List State)} (hL : Levs c L) {k : Nat} (hk : (k : Int) ≤ c.tides) {s : State} (hs : s ∈ L.getD k []) : ∃ l ∈ LL c, s = stL k l ∧ onB c k l = true ∧ clS c.fords.length s = l ∧ rowB c l = true := by
  have hc := r.cells
  have hf := r.fords
  obtain ⟨l, hl, rfl, ho⟩ := (lev_iff r hL hk).1 hs
  have hr := (mem_LL (by omega)).1 hl
  have h1 := (rowB_iff.1 hr).1
  refine ⟨l, hl, rfl, ho, ?_, hr⟩
  unfold stL
  rw [← h1, clS_mk (by omega)]
theorem onB_ag {c : Channel} {k : Nat} {l : List Int} (h : onB c k l = true) : agP tt c.sights (k : Int) l = true := by
  unfold onB at h
  rw [Bool.and_eq_true, decide_eq_true_eq] at h
  exact FcL_pos_ag h.1
theorem crs_get {c : Channel} {L : List (List State)} {j : Nat} (h : j ≤ c.tides.toNat) : (crsC c L).getD j [] = clS c.fords.length (pth c L j) := by
  unfold crsC
  rw [List.getD_eq_getElem?_getD, List.getElem?_map, List.getElem?_range (by omega)]
  rfl
theorem crs_len {c : Channel} {L : List (List State)} : (crsC c L).length = c.tides.toNat + 1 := by unfold crsC; simp
theorem crs_fit {c : Channel} (r : Right c) {L : List (List State)} (hL : Levs c L) (h : cntS tt c ≠ 0) : fitB tt c (crsC c L) = true := by
  have ht := r.tides
  have hf := r.fords
  unfold fitB
  rw [crs_len, Bool.and_eq_true, Bool.and_eq_true, decide_eq_true_eq, decide_eq_true_eq, List.all_eq_true, crs_get (by omega)]
  refine ⟨by omega, clS_mk hf.2, fun k hk => ?_⟩
  have hk' : k ≤ c.tides.toNat := by have : k < c.tides.toNat + 1 := by simpa using hk
                                     omega
  obtain ⟨p1, p2⟩ := pth_spec r hL h k hk'
  obtain ⟨l, hl, e, ho, ec, hr⟩ := lev_row r hL (by omega) p1
  unfold okAt
  rw [crs_get hk', ec, hr, onB_ag ho, Bool.true_and, Bool.and_true, Bool.or_eq_true, decide_eq_true_eq]
  cases k with
  | zero => exact .inl rfl
  | succ k =>
    right
    obtain ⟨q1, q2⟩ := pth_spec r hL h k (by omega)
    obtain ⟨l', hl', e', ho', ec', hr'⟩ := lev_row r hL (by omega) q1
    have := (q2 (by omega)).1
    rw [e, e'] at this
    rw [show k + 1 - 1 = k by omega, crs_get (by omega), ec']
    exact (mem_nx_stL r hr' hr).1 this
theorem pth_V {c : Channel} (r : Right c) {L : List (List State)} (hL : Levs c L) (h : cntS tt c ≠ 0) {j : Nat} (hj : j ≤ c.tides.toNat) : VS c (pth c L j) ∧ (pth c L j).after = (j : Int) := hL.val j (by have := r.tides; omega) _ (pth_spec r hL h j hj).1
theorem few_last {c : Channel} (r : Right c) {L : List (List State)} (hL : Levs c L) {s : State} (hs : s.after = c.tides) : fewC c L s = 0 := by
  unfold fewC FV
  rw [(calmI r hL c.tides.toNat (Nat.le_refl _)).last s hs]
  rfl
theorem few_bnd {c : Channel} (r : Right c) {L : List (List State)} (hL : Levs c L) {s : State} (hs : VS c s) : 0 ≤ fewC c L s ∧ fewC c L s ≤ 200 := by
  have h := (calmI r hL c.tides.toNat (Nat.le_refl _)).bnd s hs
  have ht := r.tides
  obtain ⟨_, h1, h2⟩ := hs
  unfold fewC
  omega
theorem pth_sum {c : Channel} (r : Right c) {L : List (List State)} (hL : Levs c L) (h : cntS tt c ≠ 0) : ∀ j : Nat, j ≤ c.tides.toNat → fewC c L (first c) = sumI (fun i => movS (pth c L i) (pth c L (i + 1))) j + fewC c L (pth c L j)
  | 0, _ => by rw [sumI, Int.zero_add]; rfl
  | j + 1, hj => by
    rw [pth_sum r hL h j (by omega), (((pth_spec r hL h j (by omega)).2 (by omega)).2), sumI]
    omega
theorem ZE {a b : List Int} (h : a.length = b.length) (h3 : a.length ≤ 3) (ha : ∀ x ∈ a, 0 ≤ x ∧ x < 10) (hb : ∀ x ∈ b, 0 ≤ x ∧ x < 10) : kU a b = some (movL a b) := by
  unfold kU
  have hB : ∀ i, i < a.length → 0 ≤ mvI (a.getD i (-1)) (b.getD i (-1)) ∧ mvI (a.getD i (-1)) (b.getD i (-1)) ≤ 11 := by
    intro i hi
    have h1 := ha _ (getD_mem (d := -1) hi)
    have h2 := hb _ (getD_mem (d := -1) (show i < b.length by omega))
    unfold mvI
    omega
  have key := iterM_run (f := qj a b) (fun i => ⟨sumI (fun i => mvI (a.getD i (-1)) (b.getD i (-1))) i, (i : Int)⟩) a.length (b := movL a b) (fun i hi => ?_) ?_ FU (FU_lt (by omega))
  · show (iterM FU (qj a b) ⟨sumI (fun i => mvI (a.getD i (-1)) (b.getD i (-1))) 0, ((0 : Nat) : Int)⟩).bind _ = _
    rw [key]; rfl
  · have h1 := ha _ (getD_mem (d := -1) hi)
    have h2 := hb _ (getD_mem (d := -1) (show i < b.length by omega))
    have h4 := sumI_bnd (f := fun i => mvI (a.getD i (-1)) (b.getD i (-1))) (B := 11) i (fun j hj => hB j (by omega))
    unfold qj
    simp only
    rw [if_pos (by omega), ix_nat (-1) hi, Option.bind_some, ix_nat (-1) (by omega), Option.bind_some, subc_eq (by omega), Option.bind_some, Option.bind_some, Option.bind_some, subc_eq (by omega), Option.bind_some, addc_eq (by omega), Option.bind_some, addc_eq (by omega), Option.bind_some]
    rfl
  · unfold qj
    simp only
    rw [if_neg (by omega)]
    rfl
theorem row_moves {c : Channel} (r : Right c) {a b : List Int} (ha : rowB c a = true) (hb : rowB c b = true) : kU a b = some (movL a b) := by
  have hc := r.cells
  have hf := r.fords
  have h1 := rowB_iff.1 ha
  have h2 := rowB_iff.1 hb
  exact ZE (by omega) (by omega) (fun x hx => by have := h1.2.2 x hx; omega) (fun x hx => by have := h2.2.2 x hx; omega)
theorem movL_bnd {c : Channel} (r : Right c) {a b : List Int} (ha : rowB c a = true) (hb : rowB c b = true) : 0 ≤ movL a b ∧ movL a b ≤ 33 := by
  have hf := r.fords
  have ht := r.tides
  have h1 := rowB_iff.1 ha
  have h2 := rowB_iff.1 hb
  rw [← movS_stL (by omega) (by omega) 0 0]
  exact movS_bnd r ⟨⟨a, ha, rfl⟩, Int.le_refl _, ht.1⟩ ⟨⟨b, hb, rfl⟩, Int.le_refl _, ht.1⟩
theorem crs_moves {c : Channel} (r : Right c) {L : List (List State)} (hL : Levs c L) (h : cntS tt c ≠ 0) {j : Nat} (hj : j < c.tides.toNat) : kU ((crsC c L).getD j []) ((crsC c L).getD (j + 1) []) = some (movS (pth c L j) (pth c L (j + 1))) := by
  have hf := r.fords
  obtain ⟨l, hl, e, ho, ec, hr⟩ := lev_row r hL (by omega) (pth_spec r hL h j (by omega)).1
  obtain ⟨l', hl', e', ho', ec', hr'⟩ := lev_row r hL (by omega) (pth_spec r hL h (j + 1) (by omega)).1
  have h1 := rowB_iff.1 hr
  have h2 := rowB_iff.1 hr'
  rw [crs_get (by omega), crs_get (by omega), ec, ec', row_moves r hr hr', e, e', movS_stL (by omega) (by omega)]
end Go.Proofs.Wb

