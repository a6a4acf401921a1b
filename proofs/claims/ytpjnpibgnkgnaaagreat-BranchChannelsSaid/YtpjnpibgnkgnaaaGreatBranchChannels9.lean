/- What the functions that the law BranchChannels reaches come to, and why it holds: part 9. -/
import Derived.Test.YtpjnpibgnkgnaaaGreatBranchChannels8
import Derived.Deep.Slices
import Derived.ChangeArms
namespace Go.Proofs.Wb
set_option maxHeartbeats 4000000
set_option maxRecDepth 100000
open Go Go.Fw Go.Gx Go.Sb
open Tryz
set_option linter.unusedVariables false
def kf (course2 : (List (List Int))) (s : Int) : Option (Int ⊕ (Unit ⊕ Bool)) :=
 if s < (course2.length : Int) then
 ((ix course2 s).bind fun t35 =>
 if 6 < (t35.length : Int) then
 ((qY).bind fun t40 =>
 some (.inr (.inr t40))) else
 ((addc s 1).bind fun t41 =>
 some (.inl t41))) else
 (some (.inr (.inl ())))
structure Kl where
  own11 : Channel
  x12 : Channel
  mine13 : (List (List Int))
def q4 : Plan := (.one 1 (.one 3 (.one 5 (.one 8 (.one 9 (.free 10 .done))))))
def qU : Plan := (.one 3 (.one 5 (.one 8 (.one 9 (.free 10 .done)))))
def q5 : Plan := (.one 5 (.one 8 (.one 9 (.free 10 .done))))
def qS : Plan := (.one 6 (.one 8 (.one 9 (.free 10 .done))))
def qO : Plan := (.br (.alt 5 qS (.alt 6 q5 .nil)))
def qW : Plan := (.br (.alt 3 qO (.alt 6 qU .nil)))
def Km : Plan := (.br (.alt 1 qW (.alt 6 q4 .nil)))
def qZ : Plan := (.one 7 (.one 8 (.one 9 (.free 10 .done))))
def qT : Plan := (.br (.alt 5 qZ (.alt 7 q5 .nil)))
def qR : Plan := (.br (.alt 3 qT (.alt 7 qU .nil)))
def Kg : Plan := (.br (.alt 1 qR (.alt 7 q4 .nil)))
def Kd : Plan := (.br (.alt 6 qZ (.alt 7 qS .nil)))
def Ke : Plan := (.br (.alt 5 Kd (.alt 6 qT (.alt 7 qO .nil))))
def Kf : Plan := (.br (.alt 3 Ke (.alt 6 qR (.alt 7 qW .nil))))
structure j8 where
  want21_cells : Int
  want21_tides : Int
  want21_fords : (List Int)
  want21_sands : (List Sand)
  want21_sights : (List Sight)
def qp (c0 : Channel) (cell1 : Int) (course2 : (List (List Int))) (s3 : Sight) : Option Bool :=
 ((yA c0).bind fun t24 =>
 if t24 = true then
 (some true) else
 (some (decide (8 < (course2.length : Int))))).bind fun o =>
 if o = true then
 ((qY).bind fun t30 =>
 some t30) else
 ((iterM FU (kf course2) 0).bind fun o_1 =>
 oc o_1 (fun j => ((yx c0).bind fun t43 =>
 (yr c0).bind fun t45 =>
 (zY course2).bind fun t47 =>
 some (⟨t43, t45, t47⟩ : Kl)).bind fun o_2 =>
 (yB o_2.x12).bind fun t49 =>
 (q7 o_2.own11).bind fun t51 =>
 if t51 = t49 then
 ((Kb o_2.own11 o_2.mine13).bind fun t57 =>
 (if t57.r1 = t49 then
 (if t49 = 0 then
 ((yd o_2.x12 course2).bind fun t70 =>
 some (!(t57.r0 == t70))) else
 (some (!(t57.r0 == false)))) else
 (some true)).bind fun o_3 =>
 if o_3 = true then
 (some false) else
 (((if t49 = 0 then
 (if cell1 < 0 then
 (some true) else
 (some (decide (c0.cells ≤ cell1)))) else
 (some false)).bind fun o_5 =>
 if o_5 = true then
 (some 1) else
 (some t49)).bind fun o_4 =>
 (if o_4 = 0 then
 ((qh o_2.x12 cell1).bind fun t91 =>
 some t91) else
 (some 0)).bind fun o_6 =>
 (zD o_2.own11 cell1).bind fun t95 =>
 (if t95.r0 = o_6 then
 (some (!decide (t95.r1 = o_4))) else
 (some true)).bind fun o_7 =>
 if o_7 = true then
 (some false) else
 ((if t49 = 0 then
 (if (c0.sights.length : Int) = 8 then
 (some 2) else
 ((if s3.after < 0 then
 (some true) else
 (some (decide (c0.tides < s3.after)))).bind fun o_9 =>
 if o_9 = true then
 (some 3) else
 ((if s3.cell < 0 then
 (some true) else
 (some (decide (c0.cells ≤ s3.cell)))).bind fun o_10 =>
 if o_10 = true then
 (some 1) else
 (some t49)))) else
 (some t49)).bind fun o_8 =>
 (if o_8 = 0 then
 ((yx c0).bind fun t139 =>
 (appc 24 t139.sights [s3]).bind fun t144 =>
 some (⟨t139.cells, t139.tides, t139.fords, t139.sands, t144⟩ : j8)) else
 (some (⟨0, 0, [], [], []⟩ : j8))).bind fun o_11 =>
 (Ja o_2.own11 s3).bind fun t149 =>
 (if t149.r1 = o_8 then
 ((ya t149.r0 (⟨o_11.want21_cells, o_11.want21_tides, o_11.want21_fords, o_11.want21_sands, o_11.want21_sights⟩ : Channel)).bind fun t158 =>
 some (!t158)) else
 (some true)).bind fun o_12 =>
 if o_12 = true then
 (some false) else
 ((some (List.replicate t149.r0.fords.length 0 : List Int)).bind fun r0_fords =>
 (some (List.replicate t149.r0.sands.length (⟨(⟨0, 0⟩ : Span), 0⟩ : Sand) : List Sand)).bind fun r0_sands =>
 (some (List.replicate t149.r0.sights.length (⟨0, 0, false⟩ : Sight) : List Sight)).bind fun r0_sights =>
 ((ya o_2.own11 c0).bind fun t169 =>
 if t169 = true then
 ((Jv o_2.mine13 course2).bind fun t173 =>
 if t173 = true then
 ((qY).bind fun t176 =>
 some t176) else
 (some false)) else
 (some false)).bind fun o_13 =>
 some o_13)))) else
 (some false)) (fun r_1 => some r_1))
theorem KE (c0 : Channel) (cell1 : Int) (course2 : (List (List Int))) (s3 : Sight) (qa0 : Option Addr) (na0 ca0 : Nat) (qa1 : Option Addr) (na1 ca1 : Nat) (qa2 : Option Addr) (na2 ca2 : Nat) (qa3 : Option Addr) (na3 ca3 : Nat) (ar3 : List AL) (w : World) (hw : HV w (keys [] []) [] [] [(aB qa0, aO qa0, RI.enc c0.fords), (aB qa1, aO qa1, RSa.enc c0.sands), (aB qa2, aO qa2, RSi.enc c0.sights), (aB qa3, aO qa3, RwA.enc ar3)] w) (hna0 : c0.fords.length = na0) (hqa0 : AOK na0 qa0) (hla0 : na0 ≤ ca0) (hna1 : c0.sands.length = na1) (hqa1 : AOK na1 qa1) (hla1 : na1 ≤ ca1) (hna2 : c0.sights.length = na2) (hqa2 : AOK na2 qa2) (hla2 : na2 ≤ ca2) (hna3 : course2.length = na3) (hqa3 : AOK na3 qa3) (hla3 : na3 ≤ ca3) (hda3 : DRO course2 ar3) (hTa3 : ∀ t, t ∈ rsg RI course2 ar3 → segOK w t ∧ (t.2.2 ≠ [] → t.1 ∉ keys [] [])) {res : Bool} (hm : qp c0 cell1 course2 s3 = some res) :
    Calls Tryz.prog 7 #[.agg #[.int .i64 c0.cells, .int .i64 c0.tides, .slice qa0 na0 ca0, .slice qa1 na1 ca1, .slice qa2 na2 ca2], .int .i64 cell1, .slice qa3 na3 ca3, .agg #[.int .i64 s3.after, .int .i64 s3.cell, .bool s3.upright]] w (fun en w' => ∃ l : Unit, en = .returned (.bool res) ∧ (True) ∧ HV w (keys [] []) [] [] [] w') := by
  unfold qp at hm
  refine qN func7 Y ntmps7 Y (e := [(0, _), (1, _), (2, _), (3, _)]) Y hw (jq ?_)
  refine jJ Y Y (fun b h1 => ?_)
  refine jJ Y Y (fun b_1 h2 => ?_)
  refine jm Y Y (jp (jh (jh ?_)))
  obtain ⟨o, h3, h4⟩ := bindO hm
  refine jP (ι := Unit) (fun l => True) (fun l => [(1, .int .i64 cell1), (2, .slice qa3 na3 ca3), (4, ptr b 0), (7, ptr b_1 0), (29, .bool o)]) (fun l => [kc b_1 #[.int .i64 s3.after, .int .i64 s3.cell, .bool s3.upright] 55, kc b #[.int .i64 c0.cells, .int .i64 c0.tides, .slice qa0 na0 ca0, .slice qa1 na1 ca1, .slice qa2 na2 ca2] 26]) (fun l => []) ?_ ?_
  ·replace hm := h3
   refine jg (zd [_, _, _, _, _] 1 isAgg26 sizeOf26 Y Y Y Y ?_)
   obtain ⟨t24, h5, hm⟩ := bindO hm
   refine je [] [] Y Y Y Y Y Y Y call53 (fun w hh => Q9 c0 qa0 na0 ca0 qa1 na1 ca1 qa2 na2 ca2 w (HV.callee (S0 := []) (vs0 := []) hh (roR hh 0 Y (roR hh 1 Y (roR hh 2 Y roN)))) hna0 hqa0 hla0 hna1 hqa1 hla1 hna2 hqa2 hla2 h5) (fun l_1 h6 => ?_)
   refine ji Y Y ?_
   refine jN 25 Y (fun h7 => ?_) (fun h7 => ?_)
   ·replace hm := ifT (h7) hm
    refine g_k Y Y Y Y (g_k Y Y Y Y (g_k Y Y Y Y (yK Y Y Y (jw ?_))))
    obtain rfl := sj hm
    exact jl () (trivial) (sE Y) (fun w hh => hh)
   replace hm := ifN h7 hm
   refine jb Y Y (ji Y Y (jb Y Y (jc Y Y Y (fun w _ => jD hna3 (runUnderlying41 w) Y) (jb Y Y (jc Y Y Y (fun _ _ => Qt Y Y) (yz Y Y Y (jw ?_)))))))
   obtain rfl := sj hm
   exact jl () (trivial) (sE Y) (fun w hh => hh)
  intro l hj
  replace hm := h4
  refine ja ?_
  refine js Y (fun h8 => ?_) (fun h8 => ?_)
  ·replace hm := ifT (h8) hm
   refine jq ?_
   obtain ⟨t30, h9, hm⟩ := bindO hm
   refine je [] [] Y Y Y Y Y Y Y call19 (fun w hh => JJ  w (HV.callee (S0 := []) (vs0 := []) hh roN)  h9) (fun l_2 h10 => ?_)
   refine jm Y Y (jp (jv (jd ?_)))
   obtain rfl := sj hm
   refine jj Y (fun w hh => (.tmp Y .nil)) (fun w hh => ⟨(), rfl, trivial, hh.se [] [] 4 Y Y Y rfl⟩)
  replace hm := ifN h8 hm
  refine jt (ja (jh (jq (ji Y Y (jc Y Y Y (fun w _ => jD hna3 (runUnderlying41 w) Y) (ji Y Y (jp ?_)))))))
  obtain ⟨o_1, h11, h12⟩ := bindO hm
  refine jP (ι := Unit) (fun j => o_1 = .inl j) (fun j => [(1, .int .i64 cell1), (2, .slice qa3 na3 ca3), (4, ptr b 0), (7, ptr b_1 0)]) (fun j => [kc b_1 #[.int .i64 s3.after, .int .i64 s3.cell, .bool s3.upright] 55, kc b #[.int .i64 c0.cells, .int .i64 c0.tides, .slice qa0 na0 ca0, .slice qa1 na1 ca1, .slice qa2 na2 ca2] 26]) (fun j => []) ?_ ?_
  ·replace hm := h11
   refine jn ?_
   refine jQ (ι := Unit) hm (fun s l_3 => True) (fun s l_3 => [(1, .int .i64 cell1), (2, .slice qa3 na3 ca3), (4, ptr b 0), (7, ptr b_1 0), (31, .slice qa3 na3 ca3), (32, .int .i64 (course2.length : Int)), (33, .int .i64 s)]) (fun s l_3 => [kc b_1 #[.int .i64 s3.after, .int .i64 s3.cell, .bool s3.upright] 55, kc b #[.int .i64 c0.cells, .int .i64 c0.tides, .slice qa0 na0 ca0, .slice qa1 na1 ca1, .slice qa2 na2 ca2] 26]) (fun s l_3 => []) () (trivial) (sE Y) (fun w hh => hh) (fun s l_3 r hpl hm h13 => ?_)
   unfold kf at hm
   refine jq (JT Y Y Y (jp (jh ?_)))
   refine js Y (fun h14 => ?_) (fun h14 => ?_)
   ·replace hm := ifD h14 hm
    refine jt (ja (jh (jn (jq ?_))))
    obtain ⟨t35, h15, hm⟩ := bindO hm
    obtain ⟨A, h16, h17, h18, h19⟩ := (hda3).row h15
    refine jc Y Y Y (fun w _ => qe h16 (runUnderlying41 w) (sizeOf22 w) Y Y (Eq.trans (hda3).len.symm hna3) hqa3) (jc Y Y Y (fun w hh => qQ RwA 0 h16 (isAgg22 w) Y (hh.seg 3 Y) Y (Nat.add_zero _).symm) (jm Y Y (ql (ji Y Y (jc Y Y Y (fun w _ => jD h17 (runUnderlying22 w) Y) (jc Y Y Y (fun _ _ => Qt Y Y) (jp ?_)))))))
    refine js Y (fun h20 => ?_) (fun h20 => ?_)
    ·replace hm := ifD h20 hm
     refine jq ?_
     obtain ⟨t40, h21, hm⟩ := bindO hm
     refine je [] [] Y Y Y Y Y Y Y call19 (fun w hh => JJ  w (HV.callee (S0 := []) (vs0 := []) hh roN)  h21) (fun l_4 h22 => ?_)
     refine jm Y Y (jp (jv (jy (jd (jd (jy ?_))))))
     obtain rfl := sj hm
     have hbo := h13 _ Y
     subst hbo
     refine jd ?_
     replace hm := ocR h12
     refine jd ?_
     obtain rfl := sj hm
     refine jj Y (fun w hh => (.tmp Y .nil)) (fun w hh => ⟨(), rfl, trivial, hh.se [] [] 4 Y Y Y rfl⟩)
    replace hm := ifE h20 hm
    refine jt (jx (ja (jg ?_)))
    obtain ⟨t41, h23, hm⟩ := bindO hm
    refine Kc h23 Y Y Y (ji Y Y (jw ?_))
    obtain rfl := sj hm
    refine ja ?_
    exact jE _ () Y (trivial) (sE Y) (fun w hh => hh)
   replace hm := ifE h14 hm
   refine jZ (jk (jk (jI ?_)))
   obtain rfl := sj hm
   have hbo := h13 _ Y
   subst hbo
   exact jl () (Y) (sE Y) (fun w hh => hh)
  intro j hj
  have h24 := hj
  subst h24
  replace hm := ocL h12
  refine ja (jh ?_)
  obtain ⟨o_2, h25, h26⟩ := bindO hm
  refine jP (ι := Nat × Nat × DL × VL × VL × VL × VL × VL × VL) (fun l_5 => VOK 1 l_5.2.2.1.v.n l_5.2.2.1.v.cap (RwH.enc l_5.2.2.1.rs) l_5.2.2.1.v.sp l_5.2.2.1.v.q ∧ DOK RI o_2.mine13 l_5.2.2.1.rs ∧ VOK 1 l_5.2.2.2.1.n l_5.2.2.2.1.cap (RI.enc o_2.own11.fords) l_5.2.2.2.1.sp l_5.2.2.2.1.q ∧ VOK 3 l_5.2.2.2.2.1.n l_5.2.2.2.2.1.cap (RSa.enc o_2.own11.sands) l_5.2.2.2.2.1.sp l_5.2.2.2.2.1.q ∧ VOK 3 l_5.2.2.2.2.2.1.n l_5.2.2.2.2.2.1.cap (RSi.enc o_2.own11.sights) l_5.2.2.2.2.2.1.sp l_5.2.2.2.2.2.1.q ∧ VOK 1 l_5.2.2.2.2.2.2.1.n l_5.2.2.2.2.2.2.1.cap (RI.enc o_2.x12.fords) l_5.2.2.2.2.2.2.1.sp l_5.2.2.2.2.2.2.1.q ∧ VOK 3 l_5.2.2.2.2.2.2.2.1.n l_5.2.2.2.2.2.2.2.1.cap (RSa.enc o_2.x12.sands) l_5.2.2.2.2.2.2.2.1.sp l_5.2.2.2.2.2.2.2.1.q ∧ VOK 3 l_5.2.2.2.2.2.2.2.2.n l_5.2.2.2.2.2.2.2.2.cap (RSi.enc o_2.x12.sights) l_5.2.2.2.2.2.2.2.2.sp l_5.2.2.2.2.2.2.2.2.q) (fun l_5 => [(1, .int .i64 cell1), (2, .slice qa3 na3 ca3), (4, ptr b 0), (7, ptr b_1 0), (11, ptr l_5.1 0), (12, ptr l_5.2.1 0), (13, sL l_5.2.2.1.v)]) (fun l_5 => [kc b_1 #[.int .i64 s3.after, .int .i64 s3.cell, .bool s3.upright] 55, kc b #[.int .i64 c0.cells, .int .i64 c0.tides, .slice qa0 na0 ca0, .slice qa1 na1 ca1, .slice qa2 na2 ca2] 26, kc l_5.1 #[.int .i64 o_2.own11.cells, .int .i64 o_2.own11.tides, sL l_5.2.2.2.1, sL l_5.2.2.2.2.1, sL l_5.2.2.2.2.2.1] 26, kc l_5.2.1 #[.int .i64 o_2.x12.cells, .int .i64 o_2.x12.tides, sL l_5.2.2.2.2.2.2.1, sL l_5.2.2.2.2.2.2.2.1, sL l_5.2.2.2.2.2.2.2.2] 33]) (fun l_5 => [⟨22, RwH.enc l_5.2.2.1.rs, l_5.2.2.1.v.sp, l_5.2.2.1.v.q, dbl 3 RI o_2.mine13 l_5.2.2.1.rs⟩, vL 3 l_5.2.2.2.1 (RI.enc o_2.own11.fords), vL 98 l_5.2.2.2.2.1 (RSa.enc o_2.own11.sands), vL 55 l_5.2.2.2.2.2.1 (RSi.enc o_2.own11.sights), vL 3 l_5.2.2.2.2.2.2.1 (RI.enc o_2.x12.fords), vL 138 l_5.2.2.2.2.2.2.2.1 (RSa.enc o_2.x12.sands), vL 139 l_5.2.2.2.2.2.2.2.2 (RSi.enc o_2.x12.sights)]) ?_ ?_
  ·replace hm := h25
   obtain ⟨t43, h35, hm⟩ := bindO hm
   obtain ⟨t45, h36, hm⟩ := bindO hm
   obtain ⟨t47, h37, hm⟩ := bindO hm
   refine ks none (.hoist 0 (.hoist 2 (.free 4 (.br (.alt 1 Kf (.alt 6 Kg (.alt 7 Km .nil))))))) _ Y (by decide +kernel) (fun w k hh => hh.draw k) (fun w hh => hh) ?_
   refine jz Y Y Y Y (fun w hh => jK (vs := [_, _, _, _, _]) (isAgg26 w) (sizeOf26 w) Y (hh.cells 1 Y Y)) (jz Y Y Y Y (fun w hh => jK (vs := [_, _, _, _, _]) (isAgg26 w) (sizeOf26 w) Y (hh.cells 1 Y Y)) (yG Y Y Y ?_))
   refine yi (.free 10 .done) (fun g => ∀ (b_2 : Nat) (b_3 : Nat) (L : DL) (L_1 : VL) (L_2 : VL) (L_3 : VL) (L_4 : VL) (L_5 : VL) (L_6 : VL), VOK 1 L.v.n L.v.cap (RwH.enc L.rs) L.v.sp L.v.q → DOK RI t47 L.rs → vk 1 L_1 (RI.enc t43.fords) → vk 3 L_2 (RSa.enc t43.sands) → vk 3 L_3 (RSi.enc t43.sights) → vk 1 L_4 (RI.enc t45.fords) → vk 3 L_5 (RSa.enc t45.sands) → vk 3 L_6 (RSi.enc t45.sights) → g [(1, .int .i64 cell1), (2, .slice qa3 na3 ca3), (4, ptr b 0), (7, ptr b_1 0), (11, ptr b_2 0), (12, ptr b_3 0), (47, sL L.v)] [kc b_1 #[.int .i64 s3.after, .int .i64 s3.cell, .bool s3.upright] 55, kc b #[.int .i64 c0.cells, .int .i64 c0.tides, .slice qa0 na0 ca0, .slice qa1 na1 ca1, .slice qa2 na2 ca2] 26, kc b_2 #[.int .i64 t43.cells, .int .i64 t43.tides, sL L_1, sL L_2, sL L_3] 26, kc b_3 #[.int .i64 t45.cells, .int .i64 t45.tides, sL L_4, sL L_5, sL L_6] 33] [⟨22, RwH.enc L.rs, L.v.sp, L.v.q, dbl 3 RI t47 L.rs⟩, vL 3 L_1 (RI.enc t43.fords), vL 98 L_2 (RSa.enc t43.sands), vL 55 L_3 (RSi.enc t43.sights), vL 3 L_4 (RI.enc t45.fords), vL 138 L_5 (RSa.enc t45.sands), vL 139 L_6 (RSi.enc t45.sights)]) ?_ (fun h46 => ?_)
   ·intro b_2 b_3 L L_1 L_2 L_3 L_4 L_5 L_6 h38 h39 h40 h41 h42 h43 h44 h45
    refine jr Y Y Y Y (fun _ _ => kN Y) (jM ?_)
    obtain rfl := sj hm
    exact jl (b_2, b_3, L, L_1, L_2, L_3, L_4, L_5, L_6) (⟨h38, h39, h40, h41, h42, h43, h44, h45⟩) (sE Y) (fun w hh => hh)
   refine yi (.one 9 (.free 10 .done)) (fun g => ∀ (b_4 : Nat) (b_5 : Nat) (L_7 : VL) (L_8 : VL) (L_9 : VL) (L_10 : DL) (L_11 : VL) (L_12 : VL) (L_13 : VL), vk 1 L_7 (RI.enc t45.fords) → vk 3 L_8 (RSa.enc t45.sands) → vk 3 L_9 (RSi.enc t45.sights) → VOK 1 L_10.v.n L_10.v.cap (RwH.enc L_10.rs) L_10.v.sp L_10.v.q → DOK RI t47 L_10.rs → vk 1 L_11 (RI.enc t43.fords) → vk 3 L_12 (RSa.enc t43.sands) → vk 3 L_13 (RSi.enc t43.sights) → g [(1, .int .i64 cell1), (2, .slice qa3 na3 ca3), (4, ptr b 0), (7, ptr b_1 0), (11, ptr b_4 0), (12, ptr b_5 0), (45, .agg #[.int .i64 t45.cells, .int .i64 t45.tides, sL L_7, sL L_8, sL L_9]), (47, sL L_10.v)] [kc b_1 #[.int .i64 s3.after, .int .i64 s3.cell, .bool s3.upright] 55, kc b #[.int .i64 c0.cells, .int .i64 c0.tides, .slice qa0 na0 ca0, .slice qa1 na1 ca1, .slice qa2 na2 ca2] 26, kc b_4 #[.int .i64 t43.cells, .int .i64 t43.tides, sL L_11, sL L_12, sL L_13] 26, kc b_5 #[.int .i64 0, .int .i64 0, slv none 0 0, slv none 0 0, slv none 0 0] 33] [vL 3 L_7 (RI.enc t45.fords), vL 138 L_8 (RSa.enc t45.sands), vL 139 L_9 (RSi.enc t45.sights), ⟨22, RwH.enc L_10.rs, L_10.v.sp, L_10.v.q, dbl 3 RI t47 L_10.rs⟩, vL 3 L_11 (RI.enc t43.fords), vL 98 L_12 (RSa.enc t43.sands), vL 55 L_13 (RSi.enc t43.sights)]) ?_ (fun h55 => ?_)
   intro b_4 b_5 L_7 L_8 L_9 L_10 L_11 L_12 L_13 h47 h48 h49 h50 h51 h52 h53 h54
   refine jH Y (jV (us := #[_, _, _, _, _]) (cs' := [_, _, _, _, _]) (S' := [_, _, _, _]) 3 (fun w => sizeOf33 w) Y Y Y Y Y Y Y (jo (hsE [0, 1] [] 0 Y Y Y Y) ?_))
   exact yu (h46 b_4 b_5 L_10 L_11 L_12 L_13 L_7 L_8 L_9 h50 h51 h52 h53 h54 h47 h48 h49) (sE Y) (hsE [0, 1, 2, 3] [3, 4, 5, 6, 0, 1, 2] 0 Y Y Y Y)
   refine yi (.one 8 (.one 9 (.free 10 .done))) (fun g => ∀ (b_6 : Nat) (b_7 : Nat) (L_14 : VL) (L_15 : VL) (L_16 : VL) (L_17 : VL) (L_18 : VL) (L_19 : VL) (L_20 : DL), vk 1 L_14 (RI.enc t43.fords) → vk 3 L_15 (RSa.enc t43.sands) → vk 3 L_16 (RSi.enc t43.sights) → vk 1 L_17 (RI.enc t45.fords) → vk 3 L_18 (RSa.enc t45.sands) → vk 3 L_19 (RSi.enc t45.sights) → VOK 1 L_20.v.n L_20.v.cap (RwH.enc L_20.rs) L_20.v.sp L_20.v.q → DOK RI t47 L_20.rs → g [(1, .int .i64 cell1), (2, .slice qa3 na3 ca3), (4, ptr b 0), (7, ptr b_1 0), (11, ptr b_6 0), (12, ptr b_7 0), (43, .agg #[.int .i64 t43.cells, .int .i64 t43.tides, sL L_14, sL L_15, sL L_16]), (45, .agg #[.int .i64 t45.cells, .int .i64 t45.tides, sL L_17, sL L_18, sL L_19]), (47, sL L_20.v)] [kc b_1 #[.int .i64 s3.after, .int .i64 s3.cell, .bool s3.upright] 55, kc b #[.int .i64 c0.cells, .int .i64 c0.tides, .slice qa0 na0 ca0, .slice qa1 na1 ca1, .slice qa2 na2 ca2] 26, kc b_6 #[.int .i64 0, .int .i64 0, slv none 0 0, slv none 0 0, slv none 0 0] 26, kc b_7 #[.int .i64 0, .int .i64 0, slv none 0 0, slv none 0 0, slv none 0 0] 33] [vL 3 L_14 (RI.enc t43.fords), vL 98 L_15 (RSa.enc t43.sands), vL 55 L_16 (RSi.enc t43.sights), vL 3 L_17 (RI.enc t45.fords), vL 138 L_18 (RSa.enc t45.sands), vL 139 L_19 (RSi.enc t45.sights), ⟨22, RwH.enc L_20.rs, L_20.v.sp, L_20.v.q, dbl 3 RI t47 L_20.rs⟩]) ?_ (fun h64 => ?_)
   ·intro b_6 b_7 L_14 L_15 L_16 L_17 L_18 L_19 L_20 h56 h57 h58 h59 h60 h61 h62 h63
    refine jH Y (jV (us := #[_, _, _, _, _]) (cs' := [_, _, _, _, _]) (S' := [_, _, _, _]) 2 (fun w => sizeOf26 w) Y Y Y Y Y Y Y (jo (hsE [0, 1] [] 0 Y Y Y Y) ?_))
    exact yu (h55 b_6 b_7 L_17 L_18 L_19 L_20 L_14 L_15 L_16 h59 h60 h61 h62 h63 h56 h57 h58) (sE Y) (hsE [0, 1, 2, 3] [3, 4, 5, 6, 0, 1, 2] 0 Y Y Y Y)
   refine yi q5 (fun g => ∀ (b_8 : Nat) (b_9 : Nat) (L_21 : VL) (L_22 : VL) (L_23 : VL) (L_24 : VL) (L_25 : VL) (L_26 : VL), vk 1 L_21 (RI.enc t43.fords) → vk 3 L_22 (RSa.enc t43.sands) → vk 3 L_23 (RSi.enc t43.sights) → vk 1 L_24 (RI.enc t45.fords) → vk 3 L_25 (RSa.enc t45.sands) → vk 3 L_26 (RSi.enc t45.sights) → g [(1, .int .i64 cell1), (2, .slice qa3 na3 ca3), (4, ptr b 0), (7, ptr b_1 0), (11, ptr b_8 0), (12, ptr b_9 0), (43, .agg #[.int .i64 t43.cells, .int .i64 t43.tides, sL L_21, sL L_22, sL L_23]), (45, .agg #[.int .i64 t45.cells, .int .i64 t45.tides, sL L_24, sL L_25, sL L_26]), (46, .slice qa3 na3 ca3)] [kc b_1 #[.int .i64 s3.after, .int .i64 s3.cell, .bool s3.upright] 55, kc b #[.int .i64 c0.cells, .int .i64 c0.tides, .slice qa0 na0 ca0, .slice qa1 na1 ca1, .slice qa2 na2 ca2] 26, kc b_8 #[.int .i64 0, .int .i64 0, slv none 0 0, slv none 0 0, slv none 0 0] 26, kc b_9 #[.int .i64 0, .int .i64 0, slv none 0 0, slv none 0 0, slv none 0 0] 33] [vL 3 L_21 (RI.enc t43.fords), vL 98 L_22 (RSa.enc t43.sands), vL 55 L_23 (RSi.enc t43.sights), vL 3 L_24 (RI.enc t45.fords), vL 138 L_25 (RSa.enc t45.sands), vL 139 L_26 (RSi.enc t45.sights)]) ?_ (fun h71 => ?_)
   intro b_8 b_9 L_21 L_22 L_23 L_24 L_25 L_26 h65 h66 h67 h68 h69 h70
   refine jH Y ?_
   refine je [] [] Y Y Y Y Y Y Y call54 (fun w hh => J0 course2 qa3 na3 ca3 ar3 w (HV.callee (S0 := []) (vs0 := []) hh (roR hh 3 Y roN)) hna3 hqa3 hla3 hda3 (hh.oldT (S0 := []) (vs0 := []) hTa3) h37) (fun l_6 h72 => ?_)
   obtain ⟨h73, h74⟩ := h72
   refine qj (S' := [_, _, _, _]) (vs' := [_, _, _, _, _, _, _]) [0, 1, 2, 3] [0, 1, 2, 3, 4, 5, 6] 0 Y Y Y Y (jo (hsE [0, 1] [] 0 Y Y Y Y) ?_)
   exact yu (h64 b_8 b_9 L_21 L_22 L_23 L_24 L_25 L_26 l_6 h65 h66 h67 h68 h69 h70 h73 h74) (sE Y) (hsE [0, 1, 2, 3] [1, 2, 3, 4, 5, 6, 0] 0 Y Y Y Y)
   refine yi qS (fun g => ∀ (b_10 : Nat) (L_27 : VL) (L_28 : VL) (L_29 : VL) (L_30 : VL) (L_31 : VL) (L_32 : VL) (L_33 : DL), vk 1 L_27 (RI.enc t43.fords) → vk 3 L_28 (RSa.enc t43.sands) → vk 3 L_29 (RSi.enc t43.sights) → vk 1 L_30 (RI.enc t45.fords) → vk 3 L_31 (RSa.enc t45.sands) → vk 3 L_32 (RSi.enc t45.sights) → VOK 1 L_33.v.n L_33.v.cap (RwH.enc L_33.rs) L_33.v.sp L_33.v.q → DOK RI t47 L_33.rs → g [(1, .int .i64 cell1), (2, .slice qa3 na3 ca3), (4, ptr b 0), (7, ptr b_1 0), (12, ptr b_10 0), (43, .agg #[.int .i64 t43.cells, .int .i64 t43.tides, sL L_27, sL L_28, sL L_29]), (45, .agg #[.int .i64 t45.cells, .int .i64 t45.tides, sL L_30, sL L_31, sL L_32]), (47, sL L_33.v)] [kc b_1 #[.int .i64 s3.after, .int .i64 s3.cell, .bool s3.upright] 55, kc b #[.int .i64 c0.cells, .int .i64 c0.tides, .slice qa0 na0 ca0, .slice qa1 na1 ca1, .slice qa2 na2 ca2] 26, kc b_10 #[.int .i64 0, .int .i64 0, slv none 0 0, slv none 0 0, slv none 0 0] 33] [vL 3 L_27 (RI.enc t43.fords), vL 98 L_28 (RSa.enc t43.sands), vL 55 L_29 (RSi.enc t43.sights), vL 3 L_30 (RI.enc t45.fords), vL 138 L_31 (RSa.enc t45.sands), vL 139 L_32 (RSi.enc t45.sights), ⟨22, RwH.enc L_33.rs, L_33.v.sp, L_33.v.q, dbl 3 RI t47 L_33.rs⟩]) ?_ (fun h83 => ?_)
   ·intro b_10 L_27 L_28 L_29 L_30 L_31 L_32 L_33 h75 h76 h77 h78 h79 h80 h81 h82
    refine jH Y ?_
    refine ju (fun w => zeroValue26 w) Y (fun b_11 h84 => ?_)
    refine jo (hsE [1, 2] [] 0 Y Y Y Y) ?_
    exact yu (h64 b_11 b_10 L_27 L_28 L_29 L_30 L_31 L_32 L_33 h75 h76 h77 h78 h79 h80 h81 h82) (sE Y) (hsE [1, 2, 0, 3] [0, 1, 2, 3, 4, 5, 6] 0 Y Y Y Y)
   refine yi qZ (fun g => ∀ (b_12 : Nat) (L_34 : VL) (L_35 : VL) (L_36 : VL) (L_37 : VL) (L_38 : VL) (L_39 : VL) (L_40 : DL), vk 1 L_34 (RI.enc t43.fords) → vk 3 L_35 (RSa.enc t43.sands) → vk 3 L_36 (RSi.enc t43.sights) → vk 1 L_37 (RI.enc t45.fords) → vk 3 L_38 (RSa.enc t45.sands) → vk 3 L_39 (RSi.enc t45.sights) → VOK 1 L_40.v.n L_40.v.cap (RwH.enc L_40.rs) L_40.v.sp L_40.v.q → DOK RI t47 L_40.rs → g [(1, .int .i64 cell1), (2, .slice qa3 na3 ca3), (4, ptr b 0), (7, ptr b_1 0), (11, ptr b_12 0), (43, .agg #[.int .i64 t43.cells, .int .i64 t43.tides, sL L_34, sL L_35, sL L_36]), (45, .agg #[.int .i64 t45.cells, .int .i64 t45.tides, sL L_37, sL L_38, sL L_39]), (47, sL L_40.v)] [kc b_1 #[.int .i64 s3.after, .int .i64 s3.cell, .bool s3.upright] 55, kc b #[.int .i64 c0.cells, .int .i64 c0.tides, .slice qa0 na0 ca0, .slice qa1 na1 ca1, .slice qa2 na2 ca2] 26, kc b_12 #[.int .i64 0, .int .i64 0, slv none 0 0, slv none 0 0, slv none 0 0] 26] [vL 3 L_34 (RI.enc t43.fords), vL 98 L_35 (RSa.enc t43.sands), vL 55 L_36 (RSi.enc t43.sights), vL 3 L_37 (RI.enc t45.fords), vL 138 L_38 (RSa.enc t45.sands), vL 139 L_39 (RSi.enc t45.sights), ⟨22, RwH.enc L_40.rs, L_40.v.sp, L_40.v.q, dbl 3 RI t47 L_40.rs⟩]) ?_ (fun h93 => ?_)
   intro b_12 L_34 L_35 L_36 L_37 L_38 L_39 L_40 h85 h86 h87 h88 h89 h90 h91 h92
   refine jH Y ?_
   refine ju (fun w => zeroValue33 w) Y (fun b_13 h94 => ?_)
   refine jo (hsE [1, 2] [] 0 Y Y Y Y) ?_
   exact yu (h64 b_12 b_13 L_34 L_35 L_36 L_37 L_38 L_39 L_40 h85 h86 h87 h88 h89 h90 h91 h92) (sE Y) (hsE [1, 2, 3, 0] [0, 1, 2, 3, 4, 5, 6] 0 Y Y Y Y)
   refine yi qU (fun g => ∀ (b_14 : Nat) (b_15 : Nat) (L_41 : VL) (L_42 : VL) (L_43 : VL), vk 1 L_41 (RI.enc t43.fords) → vk 3 L_42 (RSa.enc t43.sands) → vk 3 L_43 (RSi.enc t43.sights) → g [(1, .int .i64 cell1), (2, .slice qa3 na3 ca3), (4, ptr b 0), (7, ptr b_1 0), (11, ptr b_14 0), (12, ptr b_15 0), (43, .agg #[.int .i64 t43.cells, .int .i64 t43.tides, sL L_41, sL L_42, sL L_43]), (44, .agg #[.int .i64 c0.cells, .int .i64 c0.tides, .slice qa0 na0 ca0, .slice qa1 na1 ca1, .slice qa2 na2 ca2]), (46, .slice qa3 na3 ca3)] [kc b_1 #[.int .i64 s3.after, .int .i64 s3.cell, .bool s3.upright] 55, kc b #[.int .i64 c0.cells, .int .i64 c0.tides, .slice qa0 na0 ca0, .slice qa1 na1 ca1, .slice qa2 na2 ca2] 26, kc b_14 #[.int .i64 0, .int .i64 0, slv none 0 0, slv none 0 0, slv none 0 0] 26, kc b_15 #[.int .i64 0, .int .i64 0, slv none 0 0, slv none 0 0, slv none 0 0] 33] [vL 3 L_41 (RI.enc t43.fords), vL 98 L_42 (RSa.enc t43.sands), vL 55 L_43 (RSi.enc t43.sights)]) ?_ (fun h98 => ?_)
   ·intro b_14 b_15 L_41 L_42 L_43 h95 h96 h97
    refine jH Y ?_
    refine je [] [] Y Y Y Y Y Y Y call21 (fun w hh => zc c0 qa0 na0 ca0 qa1 na1 ca1 qa2 na2 ca2 w (HV.callee (S0 := []) (vs0 := []) hh (roR hh 0 Y (roR hh 1 Y (roR hh 2 Y roN)))) hna0 hqa0 hla0 hna1 hqa1 hla1 hna2 hqa2 hla2 h36) (fun l_7 h99 => ?_)
    obtain ⟨h100, h101, h102⟩ := h99
    refine qj (S' := [_, _, _, _]) (vs' := [_, _, _, _, _, _]) [0, 1, 2, 3] [0, 1, 2, 3, 4, 5] 0 Y Y Y Y (jo (hsE [0, 1] [] 0 Y Y Y Y) ?_)
    exact yu (h71 b_14 b_15 L_41 L_42 L_43 l_7.1 l_7.2.1 l_7.2.2 h95 h96 h97 h100 h101 h102) (sE Y) (hsE [0, 1, 2, 3] [3, 4, 5, 0, 1, 2] 0 Y Y Y Y)
   refine yi qO (fun g => ∀ (b_16 : Nat) (L_44 : VL) (L_45 : VL) (L_46 : VL) (L_47 : VL) (L_48 : VL) (L_49 : VL), vk 1 L_44 (RI.enc t43.fords) → vk 3 L_45 (RSa.enc t43.sands) → vk 3 L_46 (RSi.enc t43.sights) → vk 1 L_47 (RI.enc t45.fords) → vk 3 L_48 (RSa.enc t45.sands) → vk 3 L_49 (RSi.enc t45.sights) → g [(1, .int .i64 cell1), (2, .slice qa3 na3 ca3), (4, ptr b 0), (7, ptr b_1 0), (12, ptr b_16 0), (43, .agg #[.int .i64 t43.cells, .int .i64 t43.tides, sL L_44, sL L_45, sL L_46]), (45, .agg #[.int .i64 t45.cells, .int .i64 t45.tides, sL L_47, sL L_48, sL L_49]), (46, .slice qa3 na3 ca3)] [kc b_1 #[.int .i64 s3.after, .int .i64 s3.cell, .bool s3.upright] 55, kc b #[.int .i64 c0.cells, .int .i64 c0.tides, .slice qa0 na0 ca0, .slice qa1 na1 ca1, .slice qa2 na2 ca2] 26, kc b_16 #[.int .i64 0, .int .i64 0, slv none 0 0, slv none 0 0, slv none 0 0] 33] [vL 3 L_44 (RI.enc t43.fords), vL 98 L_45 (RSa.enc t43.sands), vL 55 L_46 (RSi.enc t43.sights), vL 3 L_47 (RI.enc t45.fords), vL 138 L_48 (RSa.enc t45.sands), vL 139 L_49 (RSi.enc t45.sights)]) ?_ (fun h109 => ?_)
   intro b_16 L_44 L_45 L_46 L_47 L_48 L_49 h103 h104 h105 h106 h107 h108
   refine YD ?_
   refine qG Y ?_ ?_
   ·refine je [] [] Y Y Y Y Y Y Y call54 (fun w hh => J0 course2 qa3 na3 ca3 ar3 w (HV.callee (S0 := []) (vs0 := []) hh (roR hh 3 Y roN)) hna3 hqa3 hla3 hda3 (hh.oldT (S0 := []) (vs0 := []) hTa3) h37) (fun l_8 h110 => ?_)
    obtain ⟨h111, h112⟩ := h110
    refine qj (S' := [_, _, _]) (vs' := [_, _, _, _, _, _, _]) [0, 1, 2] [0, 1, 2, 3, 4, 5, 6] 0 Y Y Y Y (jo (hsE [0, 1] [] 0 Y Y Y Y) ?_)
    exact yu (h83 b_16 L_44 L_45 L_46 L_47 L_48 L_49 l_8 h103 h104 h105 h106 h107 h108 h111 h112) (sE Y) (hsE [0, 1, 2] [1, 2, 3, 4, 5, 6, 0] 0 Y Y Y Y)
   refine qG Y ?_ ?_
   refine ju (fun w => zeroValue26 w) Y (fun b_17 h113 => ?_)
   refine jo (hsE [1, 2] [] 0 Y Y Y Y) ?_
   exact yu (h71 b_17 b_16 L_44 L_45 L_46 L_47 L_48 L_49 h103 h104 h105 h106 h107 h108) (sE Y) (hsE [1, 2, 0, 3] [0, 1, 2, 3, 4, 5] 0 Y Y Y Y)
   exact Ku
   refine yi qT (fun g => ∀ (b_18 : Nat) (L_50 : VL) (L_51 : VL) (L_52 : VL) (L_53 : VL) (L_54 : VL) (L_55 : VL), vk 1 L_50 (RI.enc t43.fords) → vk 3 L_51 (RSa.enc t43.sands) → vk 3 L_52 (RSi.enc t43.sights) → vk 1 L_53 (RI.enc t45.fords) → vk 3 L_54 (RSa.enc t45.sands) → vk 3 L_55 (RSi.enc t45.sights) → g [(1, .int .i64 cell1), (2, .slice qa3 na3 ca3), (4, ptr b 0), (7, ptr b_1 0), (11, ptr b_18 0), (43, .agg #[.int .i64 t43.cells, .int .i64 t43.tides, sL L_50, sL L_51, sL L_52]), (45, .agg #[.int .i64 t45.cells, .int .i64 t45.tides, sL L_53, sL L_54, sL L_55]), (46, .slice qa3 na3 ca3)] [kc b_1 #[.int .i64 s3.after, .int .i64 s3.cell, .bool s3.upright] 55, kc b #[.int .i64 c0.cells, .int .i64 c0.tides, .slice qa0 na0 ca0, .slice qa1 na1 ca1, .slice qa2 na2 ca2] 26, kc b_18 #[.int .i64 0, .int .i64 0, slv none 0 0, slv none 0 0, slv none 0 0] 26] [vL 3 L_50 (RI.enc t43.fords), vL 98 L_51 (RSa.enc t43.sands), vL 55 L_52 (RSi.enc t43.sights), vL 3 L_53 (RI.enc t45.fords), vL 138 L_54 (RSa.enc t45.sands), vL 139 L_55 (RSi.enc t45.sights)]) ?_ (fun h120 => ?_)
   ·intro b_18 L_50 L_51 L_52 L_53 L_54 L_55 h114 h115 h116 h117 h118 h119
    refine YD ?_
    refine qG Y ?_ ?_
    ·refine je [] [] Y Y Y Y Y Y Y call54 (fun w hh => J0 course2 qa3 na3 ca3 ar3 w (HV.callee (S0 := []) (vs0 := []) hh (roR hh 3 Y roN)) hna3 hqa3 hla3 hda3 (hh.oldT (S0 := []) (vs0 := []) hTa3) h37) (fun l_9 h121 => ?_)
     obtain ⟨h122, h123⟩ := h121
     refine qj (S' := [_, _, _]) (vs' := [_, _, _, _, _, _, _]) [0, 1, 2] [0, 1, 2, 3, 4, 5, 6] 0 Y Y Y Y (jo (hsE [0, 1] [] 0 Y Y Y Y) ?_)
     exact yu (h93 b_18 L_50 L_51 L_52 L_53 L_54 L_55 l_9 h114 h115 h116 h117 h118 h119 h122 h123) (sE Y) (hsE [0, 1, 2] [1, 2, 3, 4, 5, 6, 0] 0 Y Y Y Y)
    refine qG Y ?_ ?_
    refine ju (fun w => zeroValue33 w) Y (fun b_19 h124 => ?_)
    refine jo (hsE [1, 2] [] 0 Y Y Y Y) ?_
    exact yu (h71 b_18 b_19 L_50 L_51 L_52 L_53 L_54 L_55 h114 h115 h116 h117 h118 h119) (sE Y) (hsE [1, 2, 3, 0] [0, 1, 2, 3, 4, 5] 0 Y Y Y Y)
    exact Ku
   refine yi q4 (fun g => ∀ (b_20 : Nat) (b_21 : Nat), g [(1, .int .i64 cell1), (2, .slice qa3 na3 ca3), (4, ptr b 0), (7, ptr b_1 0), (11, ptr b_20 0), (12, ptr b_21 0), (42, .agg #[.int .i64 c0.cells, .int .i64 c0.tides, .slice qa0 na0 ca0, .slice qa1 na1 ca1, .slice qa2 na2 ca2]), (44, .agg #[.int .i64 c0.cells, .int .i64 c0.tides, .slice qa0 na0 ca0, .slice qa1 na1 ca1, .slice qa2 na2 ca2]), (46, .slice qa3 na3 ca3)] [kc b_1 #[.int .i64 s3.after, .int .i64 s3.cell, .bool s3.upright] 55, kc b #[.int .i64 c0.cells, .int .i64 c0.tides, .slice qa0 na0 ca0, .slice qa1 na1 ca1, .slice qa2 na2 ca2] 26, kc b_20 #[.int .i64 0, .int .i64 0, slv none 0 0, slv none 0 0, slv none 0 0] 26, kc b_21 #[.int .i64 0, .int .i64 0, slv none 0 0, slv none 0 0, slv none 0 0] 33] []) ?_ (fun h125 => ?_)
   intro b_20 b_21
   refine jH Y ?_
   refine je [] [] Y Y Y Y Y Y Y call20 (fun w hh => zg c0 qa0 na0 ca0 qa1 na1 ca1 qa2 na2 ca2 w (HV.callee (S0 := []) (vs0 := []) hh (roR hh 0 Y (roR hh 1 Y (roR hh 2 Y roN)))) hna0 hqa0 hla0 hna1 hqa1 hla1 hna2 hqa2 hla2 h35) (fun l_10 h126 => ?_)
   obtain ⟨h127, h128, h129⟩ := h126
   refine qj (S' := [_, _, _, _]) (vs' := [_, _, _]) [0, 1, 2, 3] [0, 1, 2] 0 Y Y Y Y (jo (hsE [0, 1] [] 0 Y Y Y Y) ?_)
   exact yu (h98 b_20 b_21 l_10.1 l_10.2.1 l_10.2.2 h127 h128 h129) (sE Y) (fun w hh => hh)
   refine yi qW (fun g => ∀ (b_22 : Nat) (L_56 : VL) (L_57 : VL) (L_58 : VL), vk 1 L_56 (RI.enc t43.fords) → vk 3 L_57 (RSa.enc t43.sands) → vk 3 L_58 (RSi.enc t43.sights) → g [(1, .int .i64 cell1), (2, .slice qa3 na3 ca3), (4, ptr b 0), (7, ptr b_1 0), (12, ptr b_22 0), (43, .agg #[.int .i64 t43.cells, .int .i64 t43.tides, sL L_56, sL L_57, sL L_58]), (44, .agg #[.int .i64 c0.cells, .int .i64 c0.tides, .slice qa0 na0 ca0, .slice qa1 na1 ca1, .slice qa2 na2 ca2]), (46, .slice qa3 na3 ca3)] [kc b_1 #[.int .i64 s3.after, .int .i64 s3.cell, .bool s3.upright] 55, kc b #[.int .i64 c0.cells, .int .i64 c0.tides, .slice qa0 na0 ca0, .slice qa1 na1 ca1, .slice qa2 na2 ca2] 26, kc b_22 #[.int .i64 0, .int .i64 0, slv none 0 0, slv none 0 0, slv none 0 0] 33] [vL 3 L_56 (RI.enc t43.fords), vL 98 L_57 (RSa.enc t43.sands), vL 55 L_58 (RSi.enc t43.sights)]) ?_ (fun h133 => ?_)
   ·intro b_22 L_56 L_57 L_58 h130 h131 h132
    refine YD ?_
    refine qG Y ?_ ?_
    ·refine je [] [] Y Y Y Y Y Y Y call21 (fun w hh => zc c0 qa0 na0 ca0 qa1 na1 ca1 qa2 na2 ca2 w (HV.callee (S0 := []) (vs0 := []) hh (roR hh 0 Y (roR hh 1 Y (roR hh 2 Y roN)))) hna0 hqa0 hla0 hna1 hqa1 hla1 hna2 hqa2 hla2 h36) (fun l_11 h134 => ?_)
     obtain ⟨h135, h136, h137⟩ := h134
     refine qj (S' := [_, _, _]) (vs' := [_, _, _, _, _, _]) [0, 1, 2] [0, 1, 2, 3, 4, 5] 0 Y Y Y Y (jo (hsE [0, 1] [] 0 Y Y Y Y) ?_)
     exact yu (h109 b_22 L_56 L_57 L_58 l_11.1 l_11.2.1 l_11.2.2 h130 h131 h132 h135 h136 h137) (sE Y) (hsE [0, 1, 2] [3, 4, 5, 0, 1, 2] 0 Y Y Y Y)
    refine qG Y ?_ ?_
    refine ju (fun w => zeroValue26 w) Y (fun b_23 h138 => ?_)
    refine jo (hsE [1, 2] [] 0 Y Y Y Y) ?_
    exact yu (h98 b_23 b_22 L_56 L_57 L_58 h130 h131 h132) (sE Y) (hsE [1, 2, 0, 3] [0, 1, 2] 0 Y Y Y Y)
    exact Ku
   refine yi qR (fun g => ∀ (b_24 : Nat) (L_59 : VL) (L_60 : VL) (L_61 : VL), vk 1 L_59 (RI.enc t43.fords) → vk 3 L_60 (RSa.enc t43.sands) → vk 3 L_61 (RSi.enc t43.sights) → g [(1, .int .i64 cell1), (2, .slice qa3 na3 ca3), (4, ptr b 0), (7, ptr b_1 0), (11, ptr b_24 0), (43, .agg #[.int .i64 t43.cells, .int .i64 t43.tides, sL L_59, sL L_60, sL L_61]), (44, .agg #[.int .i64 c0.cells, .int .i64 c0.tides, .slice qa0 na0 ca0, .slice qa1 na1 ca1, .slice qa2 na2 ca2]), (46, .slice qa3 na3 ca3)] [kc b_1 #[.int .i64 s3.after, .int .i64 s3.cell, .bool s3.upright] 55, kc b #[.int .i64 c0.cells, .int .i64 c0.tides, .slice qa0 na0 ca0, .slice qa1 na1 ca1, .slice qa2 na2 ca2] 26, kc b_24 #[.int .i64 0, .int .i64 0, slv none 0 0, slv none 0 0, slv none 0 0] 26] [vL 3 L_59 (RI.enc t43.fords), vL 98 L_60 (RSa.enc t43.sands), vL 55 L_61 (RSi.enc t43.sights)]) ?_ (fun h142 => ?_)
   intro b_24 L_59 L_60 L_61 h139 h140 h141
   refine YD ?_
   refine qG Y ?_ ?_
   ·refine je [] [] Y Y Y Y Y Y Y call21 (fun w hh => zc c0 qa0 na0 ca0 qa1 na1 ca1 qa2 na2 ca2 w (HV.callee (S0 := []) (vs0 := []) hh (roR hh 0 Y (roR hh 1 Y (roR hh 2 Y roN)))) hna0 hqa0 hla0 hna1 hqa1 hla1 hna2 hqa2 hla2 h36) (fun l_12 h143 => ?_)
    obtain ⟨h144, h145, h146⟩ := h143
    refine qj (S' := [_, _, _]) (vs' := [_, _, _, _, _, _]) [0, 1, 2] [0, 1, 2, 3, 4, 5] 0 Y Y Y Y (jo (hsE [0, 1] [] 0 Y Y Y Y) ?_)
    exact yu (h120 b_24 L_59 L_60 L_61 l_12.1 l_12.2.1 l_12.2.2 h139 h140 h141 h144 h145 h146) (sE Y) (hsE [0, 1, 2] [3, 4, 5, 0, 1, 2] 0 Y Y Y Y)
   refine qG Y ?_ ?_
   refine ju (fun w => zeroValue33 w) Y (fun b_25 h147 => ?_)
   refine jo (hsE [1, 2] [] 0 Y Y Y Y) ?_
   exact yu (h98 b_24 b_25 L_59 L_60 L_61 h139 h140 h141) (sE Y) (hsE [1, 2, 3, 0] [0, 1, 2] 0 Y Y Y Y)
   exact Ku
   refine YD ?_
   refine qG Y ?_ ?_
   ·refine je [] [] Y Y Y Y Y Y Y call20 (fun w hh => zg c0 qa0 na0 ca0 qa1 na1 ca1 qa2 na2 ca2 w (HV.callee (S0 := []) (vs0 := []) hh (roR hh 0 Y (roR hh 1 Y (roR hh 2 Y roN)))) hna0 hqa0 hla0 hna1 hqa1 hla1 hna2 hqa2 hla2 h35) (fun l_13 h148 => ?_)
    obtain ⟨h149, h150, h151⟩ := h148
    refine qj (S' := [_, _]) (vs' := [_, _, _]) [0, 1] [0, 1, 2] 0 Y Y Y Y (jo (hsE [0, 1] [] 0 Y Y Y Y) (YD ?_))
    refine qG Y ?_ ?_
    ·refine je [] [] Y Y Y Y Y Y Y call21 (fun w hh => zc c0 qa0 na0 ca0 qa1 na1 ca1 qa2 na2 ca2 w (HV.callee (S0 := []) (vs0 := []) hh (roR hh 0 Y (roR hh 1 Y (roR hh 2 Y roN)))) hna0 hqa0 hla0 hna1 hqa1 hla1 hna2 hqa2 hla2 h36) (fun l_14 h152 => ?_)
     obtain ⟨h153, h154, h155⟩ := h152
     refine qj (S' := [_, _]) (vs' := [_, _, _, _, _, _]) [0, 1] [0, 1, 2, 3, 4, 5] 0 Y Y Y Y (jo (hsE [0, 1] [] 0 Y Y Y Y) (YD ?_))
     refine qG Y ?_ ?_
     ·refine je [] [] Y Y Y Y Y Y Y call54 (fun w hh => J0 course2 qa3 na3 ca3 ar3 w (HV.callee (S0 := []) (vs0 := []) hh (roR hh 3 Y roN)) hna3 hqa3 hla3 hda3 (hh.oldT (S0 := []) (vs0 := []) hTa3) h37) (fun l_15 h156 => ?_)
      obtain ⟨h157, h158⟩ := h156
      refine qj (S' := [_, _]) (vs' := [_, _, _, _, _, _, _]) [0, 1] [0, 1, 2, 3, 4, 5, 6] 0 Y Y Y Y (jo (hsE [0, 1] [] 0 Y Y Y Y) (YD ?_))
      refine qG Y ?_ ?_
      ·refine ju (fun w => zeroValue26 w) Y (fun b_26 h159 => ?_)
       refine jo (hsE [1, 2] [] 0 Y Y Y Y) ?_
       exact yu (h93 b_26 l_13.1 l_13.2.1 l_13.2.2 l_14.1 l_14.2.1 l_14.2.2 l_15 h149 h150 h151 h153 h154 h155 h157 h158) (sE Y) (hsE [1, 2, 0] [4, 5, 6, 1, 2, 3, 0] 0 Y Y Y Y)
      refine qG Y ?_ ?_
      refine ju (fun w => zeroValue33 w) Y (fun b_27 h160 => ?_)
      refine jo (hsE [1, 2] [] 0 Y Y Y Y) ?_
      exact yu (h83 b_27 l_13.1 l_13.2.1 l_13.2.2 l_14.1 l_14.2.1 l_14.2.2 l_15 h149 h150 h151 h153 h154 h155 h157 h158) (sE Y) (hsE [1, 2, 0] [4, 5, 6, 1, 2, 3, 0] 0 Y Y Y Y)
      exact Ku
     refine qG Y ?_ ?_
     refine ju (fun w => zeroValue26 w) Y (fun b_28 h161 => ?_)
     refine jo (hsE [1, 2] [] 0 Y Y Y Y) ?_
     exact yu (h120 b_28 l_13.1 l_13.2.1 l_13.2.2 l_14.1 l_14.2.1 l_14.2.2 h149 h150 h151 h153 h154 h155) (sE Y) (hsE [1, 2, 0] [3, 4, 5, 0, 1, 2] 0 Y Y Y Y)
     refine qG Y ?_ ?_
     ·refine ju (fun w => zeroValue33 w) Y (fun b_29 h162 => ?_)
      refine jo (hsE [1, 2] [] 0 Y Y Y Y) ?_
      exact yu (h109 b_29 l_13.1 l_13.2.1 l_13.2.2 l_14.1 l_14.2.1 l_14.2.2 h149 h150 h151 h153 h154 h155) (sE Y) (hsE [1, 2, 0] [3, 4, 5, 0, 1, 2] 0 Y Y Y Y)
     exact Ku
    refine qG Y ?_ ?_
    refine ju (fun w => zeroValue26 w) Y (fun b_30 h163 => ?_)
    refine jo (hsE [1, 2] [] 0 Y Y Y Y) ?_
    exact yu (h142 b_30 l_13.1 l_13.2.1 l_13.2.2 h149 h150 h151) (sE Y) (hsE [1, 2, 0] [0, 1, 2] 0 Y Y Y Y)
    refine qG Y ?_ ?_
    ·refine ju (fun w => zeroValue33 w) Y (fun b_31 h164 => ?_)
     refine jo (hsE [1, 2] [] 0 Y Y Y Y) ?_
     exact yu (h133 b_31 l_13.1 l_13.2.1 l_13.2.2 h149 h150 h151) (sE Y) (hsE [1, 2, 0] [0, 1, 2] 0 Y Y Y Y)
    exact Ku
   refine qG Y ?_ ?_
   refine ju (fun w => zeroValue26 w) Y (fun b_32 h165 => ?_)
   refine jo (hsE [1, 2] [] 0 Y Y Y Y) (YD ?_)
   refine qG Y ?_ ?_
   ·refine je [] [] Y Y Y Y Y Y Y call20 (fun w hh => zg c0 qa0 na0 ca0 qa1 na1 ca1 qa2 na2 ca2 w (HV.callee (S0 := []) (vs0 := []) hh (roR hh 0 Y (roR hh 1 Y (roR hh 2 Y roN)))) hna0 hqa0 hla0 hna1 hqa1 hla1 hna2 hqa2 hla2 h35) (fun l_16 h166 => ?_)
    obtain ⟨h167, h168, h169⟩ := h166
    refine qj (S' := [_, _, _]) (vs' := [_, _, _]) [0, 1, 2] [0, 1, 2] 0 Y Y Y Y (jo (hsE [1, 2] [] 0 Y Y Y Y) ?_)
    exact yu (h142 b_32 l_16.1 l_16.2.1 l_16.2.2 h167 h168 h169) (sE Y) (hsE [1, 2, 0] [0, 1, 2] 0 Y Y Y Y)
   refine qG Y ?_ ?_
   refine ju (fun w => zeroValue33 w) Y (fun b_33 h170 => ?_)
   refine jo (hsE [2, 3] [] 0 Y Y Y Y) ?_
   exact yu (h125 b_32 b_33) (sE Y) (hsE [2, 3, 1, 0] [] 0 Y Y Y Y)
   exact Ku
   refine qG Y ?_ ?_
   ·refine ju (fun w => zeroValue33 w) Y (fun b_34 h171 => ?_)
    refine jo (hsE [1, 2] [] 0 Y Y Y Y) (YD ?_)
    refine qG Y ?_ ?_
    ·refine je [] [] Y Y Y Y Y Y Y call20 (fun w hh => zg c0 qa0 na0 ca0 qa1 na1 ca1 qa2 na2 ca2 w (HV.callee (S0 := []) (vs0 := []) hh (roR hh 0 Y (roR hh 1 Y (roR hh 2 Y roN)))) hna0 hqa0 hla0 hna1 hqa1 hla1 hna2 hqa2 hla2 h35) (fun l_17 h172 => ?_)
     obtain ⟨h173, h174, h175⟩ := h172
     refine qj (S' := [_, _, _]) (vs' := [_, _, _]) [0, 1, 2] [0, 1, 2] 0 Y Y Y Y (jo (hsE [1, 2] [] 0 Y Y Y Y) ?_)
     exact yu (h133 b_34 l_17.1 l_17.2.1 l_17.2.2 h173 h174 h175) (sE Y) (hsE [1, 2, 0] [0, 1, 2] 0 Y Y Y Y)
    refine qG Y ?_ ?_
    refine ju (fun w => zeroValue26 w) Y (fun b_35 h176 => ?_)
    refine jo (hsE [2, 3] [] 0 Y Y Y Y) ?_
    exact yu (h125 b_35 b_34) (sE Y) (hsE [2, 3, 0, 1] [] 0 Y Y Y Y)
    exact Ku
   exact Ku
  intro l_5 hj
  obtain ⟨h27, h28, h29, h30, h31, h32, h33, h34⟩ := hj
  replace hm := h26
  refine ja (jq (zd [_, _, _, _, _] 3 isAgg33 sizeOf33 Y Y Y Y ?_))
  obtain ⟨t49, h177, hm⟩ := bindO hm
  refine je [] [] Y Y Y Y Y Y Y call22 (fun w hh => Q8 o_2.x12 (qA l_5.2.2.2.2.2.2.1.q) l_5.2.2.2.2.2.2.1.n l_5.2.2.2.2.2.2.1.cap (qA l_5.2.2.2.2.2.2.2.1.q) l_5.2.2.2.2.2.2.2.1.n l_5.2.2.2.2.2.2.2.1.cap (qA l_5.2.2.2.2.2.2.2.2.q) l_5.2.2.2.2.2.2.2.2.n l_5.2.2.2.2.2.2.2.2.cap w (HV.callee (S0 := []) (vs0 := []) hh (roC (hh.vsepA 4 Y h32) (roC (hh.vsepA 5 Y h33) (roC (hh.vsepA 6 Y h34) roN)))) (vlen RI h32 Y) (AOK.q (vne h32)) (h32).hle (vlen RSa h33 Y) (AOK.q (vne h33)) (h33).hle (vlen RSi h34 Y) (AOK.q (vne h34)) (h34).hle h177) (fun l_18 h178 => ?_)
  refine jm Y Y (jp (jh (jq (zd [_, _, _, _, _] 2 isAgg26 sizeOf26 Y Y Y Y ?_))))
  obtain ⟨t51, h179, hm⟩ := bindO hm
  refine je [] [] Y Y Y Y Y Y Y call55 (fun w hh => Jw o_2.own11 (qA l_5.2.2.2.1.q) l_5.2.2.2.1.n l_5.2.2.2.1.cap (qA l_5.2.2.2.2.1.q) l_5.2.2.2.2.1.n l_5.2.2.2.2.1.cap (qA l_5.2.2.2.2.2.1.q) l_5.2.2.2.2.2.1.n l_5.2.2.2.2.2.1.cap w (HV.callee (S0 := []) (vs0 := []) hh (roC (hh.vsepA 1 Y h29) (roC (hh.vsepA 2 Y h30) (roC (hh.vsepA 3 Y h31) roN)))) (vlen RI h29 Y) (AOK.q (vne h29)) (h29).hle (vlen RSa h30 Y) (AOK.q (vne h30)) (h30).hle (vlen RSi h31 Y) (AOK.q (vne h31)) (h31).hle h179) (fun l_19 h180 => ?_)
  refine ji Y Y (jc Y Y Y (fun _ _ => zw Y Y) (jp ?_))
  refine js Y (fun h181 => ?_) (fun h181 => ?_)
  ·replace hm := ifF (of_ndec_true h181) hm
   refine jq (jm Y Y (jp (jv (jd ?_))))
   obtain rfl := sj hm
   refine jj Y (fun w hh => (.tmp Y .nil)) (fun w hh => ⟨(), rfl, trivial, hh.se [] [] 4 Y Y Y rfl⟩)
  replace hm := ifT (of_ndec_false h181) hm
  refine jt (ja (jq (zd [_, _, _, _, _] 2 isAgg26 sizeOf26 Y Y Y Y (ji Y Y ?_))))
  obtain ⟨t57, h182, hm⟩ := bindO hm
  refine je [] [] Y Y Y Y Y Y Y call56 (fun w hh => Zn o_2.own11 o_2.mine13 (qA l_5.2.2.2.1.q) l_5.2.2.2.1.n l_5.2.2.2.1.cap (qA l_5.2.2.2.2.1.q) l_5.2.2.2.2.1.n l_5.2.2.2.2.1.cap (qA l_5.2.2.2.2.2.1.q) l_5.2.2.2.2.2.1.n l_5.2.2.2.2.2.1.cap (qA l_5.2.2.1.v.q) l_5.2.2.1.v.n l_5.2.2.1.v.cap (toAL l_5.2.2.1.rs) w (HV.callee (S0 := []) (vs0 := []) hh (roC (hh.vsepA 1 Y h29) (roC (hh.vsepA 2 Y h30) (roC (hh.vsepA 3 Y h31) (roC (hh.vsepD 0 Y h27) roN))))) (vlen RI h29 Y) (AOK.q (vne h29)) (h29).hle (vlen RSa h30 Y) (AOK.q (vne h30)) (h30).hle (vlen RSi h31 Y) (AOK.q (vne h31)) (h31).hle (Eq.trans (h28).len (vlen RwH h27 Y)) (AOK.q (vne h27)) (h27).hle ((h28).toDRO Y) (hh.dsepT 0 Y h28) h182) (fun l_20 h183 => ?_)
  refine ji Y Y (zI Y Y Y (zI Y Y Y (jm Y Y (jm Y Y (jp (jh (jh ?_)))))))
  obtain ⟨o_3, h184, h185⟩ := bindO hm
  refine jP (ι := Unit) (fun l_21 => True) (fun l_21 => [(1, .int .i64 cell1), (2, .slice qa3 na3 ca3), (4, ptr b 0), (7, ptr b_1 0), (11, ptr l_5.1 0), (12, ptr l_5.2.1 0), (13, sL l_5.2.2.1.v), (14, .int .i64 t49), (73, .bool o_3)]) (fun l_21 => [kc b_1 #[.int .i64 s3.after, .int .i64 s3.cell, .bool s3.upright] 55, kc b #[.int .i64 c0.cells, .int .i64 c0.tides, .slice qa0 na0 ca0, .slice qa1 na1 ca1, .slice qa2 na2 ca2] 26, kc l_5.1 #[.int .i64 o_2.own11.cells, .int .i64 o_2.own11.tides, sL l_5.2.2.2.1, sL l_5.2.2.2.2.1, sL l_5.2.2.2.2.2.1] 26, kc l_5.2.1 #[.int .i64 o_2.x12.cells, .int .i64 o_2.x12.tides, sL l_5.2.2.2.2.2.2.1, sL l_5.2.2.2.2.2.2.2.1, sL l_5.2.2.2.2.2.2.2.2] 33]) (fun l_21 => [⟨22, RwH.enc l_5.2.2.1.rs, l_5.2.2.1.v.sp, l_5.2.2.1.v.q, dbl 3 RI o_2.mine13 l_5.2.2.1.rs⟩, vL 3 l_5.2.2.2.1 (RI.enc o_2.own11.fords), vL 98 l_5.2.2.2.2.1 (RSa.enc o_2.own11.sands), vL 55 l_5.2.2.2.2.2.1 (RSi.enc o_2.own11.sights), vL 3 l_5.2.2.2.2.2.2.1 (RI.enc o_2.x12.fords), vL 138 l_5.2.2.2.2.2.2.2.1 (RSa.enc o_2.x12.sands), vL 139 l_5.2.2.2.2.2.2.2.2 (RSi.enc o_2.x12.sights)]) ?_ ?_
  ·replace hm := h184
   refine jg (ji Y Y (ji Y Y (jc Y Y Y (fun _ _ => zw Y Y) (ji Y Y ?_))))
   refine jN 63 Y (fun h186 => ?_) (fun h186 => ?_)
   ·replace hm := ifF (of_ndec_true h186) hm
    refine g_k Y Y Y Y (g_k Y Y Y Y (g_k Y Y Y Y (g_k Y Y Y Y ?_)))
    refine Qu Y Y Y Y Y ?_
    refine Qu Y Y Y Y Y ?_
    refine Qu Y Y Y Y Y ?_
    refine g_k Y Y Y Y (g_k Y Y Y Y (yK Y Y Y (jw ?_)))
    obtain rfl := sj hm
    exact jl () (trivial) (sE Y) (fun w hh => hh)
   replace hm := ifT (of_ndec_false h186) hm
   refine jb Y Y (ji Y Y (jb Y Y (ji Y Y (jb Y Y (jc Y Y Y (fun _ _ => zT Y Y) (jb Y Y (ji Y Y ?_)))))))
   refine jN 67 Y (fun h187 => ?_) (fun h187 => ?_)
   ·replace hm := ifD h187 hm
    refine jb Y Y (zd [_, _, _, _, _] 3 isAgg33 sizeOf33 Y Y Y Y (jb Y Y (ji Y Y (jb Y Y ?_))))
    obtain ⟨t70, h188, hm⟩ := bindO hm
    refine je [] [] Y Y Y Y Y Y Y call29 (fun w hh => Yp o_2.x12 course2 (qA l_5.2.2.2.2.2.2.1.q) l_5.2.2.2.2.2.2.1.n l_5.2.2.2.2.2.2.1.cap (qA l_5.2.2.2.2.2.2.2.1.q) l_5.2.2.2.2.2.2.2.1.n l_5.2.2.2.2.2.2.2.1.cap (qA l_5.2.2.2.2.2.2.2.2.q) l_5.2.2.2.2.2.2.2.2.n l_5.2.2.2.2.2.2.2.2.cap qa3 na3 ca3 ar3 w (HV.callee (S0 := []) (vs0 := []) hh (roC (hh.vsepA 4 Y h32) (roC (hh.vsepA 5 Y h33) (roC (hh.vsepA 6 Y h34) (roR hh 3 Y roN))))) (vlen RI h32 Y) (AOK.q (vne h32)) (h32).hle (vlen RSa h33 Y) (AOK.q (vne h33)) (h33).hle (vlen RSi h34 Y) (AOK.q (vne h34)) (h34).hle hna3 hqa3 hla3 hda3 (hh.oldT (S0 := []) (vs0 := []) hTa3) h188) (fun l_22 h189 => ?_)
    refine jb Y Y (yK Y Y Y (jb Y Y (jc Y Y Y (fun w _ => QL (runUnderlying4 w) Y Y) (yz Y Y Y (jw ?_)))))
    obtain rfl := sj hm
    exact jl () (trivial) (sE Y) (fun w hh => hh)
   replace hm := ifE h187 hm
   refine g_k Y Y Y Y (g_k Y Y Y Y (g_k Y Y Y Y (jb Y Y (yz Y Y Y (jb Y Y (jc Y Y Y (fun w _ => QL (runUnderlying4 w) Y Y) (yz Y Y Y ?_)))))))
   refine jw ?_
   obtain rfl := sj hm
   exact jl () (trivial) (sE Y) (fun w hh => hh)
  intro l_21 hj
  replace hm := h185
  refine ja ?_
  refine js Y (fun h190 => ?_) (fun h190 => ?_)
  ·replace hm := ifT (h190) hm
   refine jq (jm Y Y (jp (jv (jd ?_))))
   obtain rfl := sj hm
   refine jj Y (fun w hh => (.tmp Y .nil)) (fun w hh => ⟨(), rfl, trivial, hh.se [] [] 4 Y Y Y rfl⟩)
  replace hm := ifN h190 hm
  refine jt (ja (jq (ji Y Y (jm Y Y (jm Y Y (jp (jh ?_)))))))
  obtain ⟨o_4, h191, h192⟩ := bindO hm
  refine jP (ι := Unit) (fun l_23 => True) (fun l_23 => [(1, .int .i64 cell1), (2, .slice qa3 na3 ca3), (4, ptr b 0), (7, ptr b_1 0), (11, ptr l_5.1 0), (12, ptr l_5.2.1 0), (13, sL l_5.2.2.1.v), (14, .int .i64 t49), (17, .int .i64 0), (18, .int .i64 o_4)]) (fun l_23 => [kc b_1 #[.int .i64 s3.after, .int .i64 s3.cell, .bool s3.upright] 55, kc b #[.int .i64 c0.cells, .int .i64 c0.tides, .slice qa0 na0 ca0, .slice qa1 na1 ca1, .slice qa2 na2 ca2] 26, kc l_5.1 #[.int .i64 o_2.own11.cells, .int .i64 o_2.own11.tides, sL l_5.2.2.2.1, sL l_5.2.2.2.2.1, sL l_5.2.2.2.2.2.1] 26, kc l_5.2.1 #[.int .i64 o_2.x12.cells, .int .i64 o_2.x12.tides, sL l_5.2.2.2.2.2.2.1, sL l_5.2.2.2.2.2.2.2.1, sL l_5.2.2.2.2.2.2.2.2] 33]) (fun l_23 => [⟨22, RwH.enc l_5.2.2.1.rs, l_5.2.2.1.v.sp, l_5.2.2.1.v.q, dbl 3 RI o_2.mine13 l_5.2.2.1.rs⟩, vL 3 l_5.2.2.2.1 (RI.enc o_2.own11.fords), vL 98 l_5.2.2.2.2.1 (RSa.enc o_2.own11.sands), vL 55 l_5.2.2.2.2.2.1 (RSi.enc o_2.own11.sights), vL 3 l_5.2.2.2.2.2.2.1 (RI.enc o_2.x12.fords), vL 138 l_5.2.2.2.2.2.2.2.1 (RSa.enc o_2.x12.sands), vL 139 l_5.2.2.2.2.2.2.2.2 (RSi.enc o_2.x12.sights)]) ?_ ?_
  ·replace hm := h191
   refine jh ?_
   obtain ⟨o_5, h193, h194⟩ := bindO hm
   refine jP (ι := Unit) (fun l_24 => True) (fun l_24 => [(1, .int .i64 cell1), (2, .slice qa3 na3 ca3), (4, ptr b 0), (7, ptr b_1 0), (11, ptr l_5.1 0), (12, ptr l_5.2.1 0), (13, sL l_5.2.2.1.v), (14, .int .i64 t49), (17, .int .i64 0), (18, .int .i64 t49), (86, .bool o_5)]) (fun l_24 => [kc b_1 #[.int .i64 s3.after, .int .i64 s3.cell, .bool s3.upright] 55, kc b #[.int .i64 c0.cells, .int .i64 c0.tides, .slice qa0 na0 ca0, .slice qa1 na1 ca1, .slice qa2 na2 ca2] 26, kc l_5.1 #[.int .i64 o_2.own11.cells, .int .i64 o_2.own11.tides, sL l_5.2.2.2.1, sL l_5.2.2.2.2.1, sL l_5.2.2.2.2.2.1] 26, kc l_5.2.1 #[.int .i64 o_2.x12.cells, .int .i64 o_2.x12.tides, sL l_5.2.2.2.2.2.2.1, sL l_5.2.2.2.2.2.2.2.1, sL l_5.2.2.2.2.2.2.2.2] 33]) (fun l_24 => [⟨22, RwH.enc l_5.2.2.1.rs, l_5.2.2.1.v.sp, l_5.2.2.1.v.q, dbl 3 RI o_2.mine13 l_5.2.2.1.rs⟩, vL 3 l_5.2.2.2.1 (RI.enc o_2.own11.fords), vL 98 l_5.2.2.2.2.1 (RSa.enc o_2.own11.sands), vL 55 l_5.2.2.2.2.2.1 (RSi.enc o_2.own11.sights), vL 3 l_5.2.2.2.2.2.2.1 (RI.enc o_2.x12.fords), vL 138 l_5.2.2.2.2.2.2.2.1 (RSa.enc o_2.x12.sands), vL 139 l_5.2.2.2.2.2.2.2.2 (RSi.enc o_2.x12.sights)]) ?_ ?_
   ·replace hm := h193
    refine jg (ji Y Y (jc Y Y Y (fun _ _ => zT Y Y) (ji Y Y ?_)))
    refine jN 77 Y (fun h195 => ?_) (fun h195 => ?_)
    ·replace hm := ifD h195 hm
     refine jb Y Y (ji Y Y (jb Y Y (JT Y Y Y (jb Y Y (ji Y Y ?_)))))
     refine jN 80 Y (fun h196 => ?_) (fun h196 => ?_)
     ·replace hm := ifD h196 hm
      refine g_k Y Y Y Y (g_k Y Y Y Y (g_k Y Y Y Y (g_k Y Y Y Y (jb Y Y (yK Y Y Y (yK Y Y Y (jw ?_)))))))
      obtain rfl := sj hm
      exact jl () (trivial) (sE Y) (fun w hh => hh)
     replace hm := ifE h196 hm
     refine jb Y Y (ji Y Y (jb Y Y (qg 0 runUnderlying26 Y sizeOf3 Y Y (jb Y Y (kX 1 isAgg3 Y Y Y Y (jb Y Y (jc Y Y Y (fun _ _ => Yh Y Y) ?_)))))))
     refine jb Y Y (yz Y Y Y (yK Y Y Y (jw ?_)))
     obtain rfl := sj hm
     exact jl () (trivial) (sE Y) (fun w hh => hh)
    replace hm := ifE h195 hm
    refine g_k Y Y Y Y (g_k Y Y Y Y (g_k Y Y Y Y ?_))
    refine Qu Y Y Y Y Y ?_
    refine Qu Y Y Y Y Y ?_
    refine Qu Y Y Y Y Y ?_
    refine Qu Y Y Y Y Y ?_
    refine g_k Y Y Y Y (yz Y Y Y (jw ?_))
    obtain rfl := sj hm
    exact jl () (trivial) (sE Y) (fun w hh => hh)
   intro l_24 hj
   replace hm := h194
   refine ja ?_
   refine js Y (fun h197 => ?_) (fun h197 => ?_)
   ·replace hm := ifT (h197) hm
    refine jg (jm Y Y (jw ?_))
    obtain rfl := sj hm
    exact jl () (trivial) (sE Y) (fun w hh => hh)
   replace hm := ifN h197 hm
   refine jt ?_
   obtain rfl := sj hm
   exact jl () (trivial) (sE Y) (fun w hh => hh)
  intro l_23 hj
  replace hm := h192
  refine ja (jh ?_)
  obtain ⟨o_6, h198, h199⟩ := bindO hm
  refine jP (ι := Unit) (fun l_25 => True) (fun l_25 => [(1, .int .i64 cell1), (2, .slice qa3 na3 ca3), (4, ptr b 0), (7, ptr b_1 0), (11, ptr l_5.1 0), (13, sL l_5.2.2.1.v), (14, .int .i64 t49), (17, .int .i64 o_6), (18, .int .i64 o_4)]) (fun l_25 => [kc b_1 #[.int .i64 s3.after, .int .i64 s3.cell, .bool s3.upright] 55, kc b #[.int .i64 c0.cells, .int .i64 c0.tides, .slice qa0 na0 ca0, .slice qa1 na1 ca1, .slice qa2 na2 ca2] 26, kc l_5.1 #[.int .i64 o_2.own11.cells, .int .i64 o_2.own11.tides, sL l_5.2.2.2.1, sL l_5.2.2.2.2.1, sL l_5.2.2.2.2.2.1] 26, kc l_5.2.1 #[.int .i64 o_2.x12.cells, .int .i64 o_2.x12.tides, sL l_5.2.2.2.2.2.2.1, sL l_5.2.2.2.2.2.2.2.1, sL l_5.2.2.2.2.2.2.2.2] 33]) (fun l_25 => [⟨22, RwH.enc l_5.2.2.1.rs, l_5.2.2.1.v.sp, l_5.2.2.1.v.q, dbl 3 RI o_2.mine13 l_5.2.2.1.rs⟩, vL 3 l_5.2.2.2.1 (RI.enc o_2.own11.fords), vL 98 l_5.2.2.2.2.1 (RSa.enc o_2.own11.sands), vL 55 l_5.2.2.2.2.2.1 (RSi.enc o_2.own11.sights), vL 3 l_5.2.2.2.2.2.2.1 (RI.enc o_2.x12.fords), vL 138 l_5.2.2.2.2.2.2.2.1 (RSa.enc o_2.x12.sands), vL 139 l_5.2.2.2.2.2.2.2.2 (RSi.enc o_2.x12.sights)]) ?_ ?_
  ·replace hm := h198
   refine jq (ji Y Y (jc Y Y Y (fun _ _ => zT Y Y) (jp ?_)))
   refine js Y (fun h200 => ?_) (fun h200 => ?_)
   ·replace hm := ifD h200 hm
    refine jg (zd [_, _, _, _, _] 3 isAgg33 sizeOf33 Y Y Y Y (ji Y Y ?_))
    obtain ⟨t91, h201, hm⟩ := bindO hm
    refine je [] [] Y Y Y Y Y Y Y call57 (fun w hh => KG o_2.x12 cell1 (qA l_5.2.2.2.2.2.2.1.q) l_5.2.2.2.2.2.2.1.n l_5.2.2.2.2.2.2.1.cap (qA l_5.2.2.2.2.2.2.2.1.q) l_5.2.2.2.2.2.2.2.1.n l_5.2.2.2.2.2.2.2.1.cap (qA l_5.2.2.2.2.2.2.2.2.q) l_5.2.2.2.2.2.2.2.2.n l_5.2.2.2.2.2.2.2.2.cap w (HV.callee (S0 := []) (vs0 := []) hh (roC (hh.vsepA 4 Y h32) (roC (hh.vsepA 5 Y h33) (roC (hh.vsepA 6 Y h34) roN)))) (vlen RI h32 Y) (AOK.q (vne h32)) (h32).hle (vlen RSa h33 Y) (AOK.q (vne h33)) (h33).hle (vlen RSi h34 Y) (AOK.q (vne h34)) (h34).hle h201) (fun l_26 h202 => ?_)
    refine jm Y Y (jw ?_)
    obtain rfl := sj hm
    exact jl () (trivial) (sE Y) (fun w hh => hh)
   replace hm := ifE h200 hm
   refine jt ?_
   obtain rfl := sj hm
   exact jl () (trivial) (sE Y) (fun w hh => hh)
  intro l_25 hj
  replace hm := h199
  refine ja (jh (jq (zd [_, _, _, _, _] 2 isAgg26 sizeOf26 Y Y Y Y (ji Y Y ?_))))
  obtain ⟨t95, h203, hm⟩ := bindO hm
  refine je [] [] Y Y Y Y Y Y Y call58 (fun w hh => Y0 o_2.own11 cell1 (qA l_5.2.2.2.1.q) l_5.2.2.2.1.n l_5.2.2.2.1.cap (qA l_5.2.2.2.2.1.q) l_5.2.2.2.2.1.n l_5.2.2.2.2.1.cap (qA l_5.2.2.2.2.2.1.q) l_5.2.2.2.2.2.1.n l_5.2.2.2.2.2.1.cap w (HV.callee (S0 := []) (vs0 := []) hh (roC (hh.vsepA 1 Y h29) (roC (hh.vsepA 2 Y h30) (roC (hh.vsepA 3 Y h31) roN)))) (vlen RI h29 Y) (AOK.q (vne h29)) (h29).hle (vlen RSa h30 Y) (AOK.q (vne h30)) (h30).hle (vlen RSi h31 Y) (AOK.q (vne h31)) (h31).hle h203) (fun l_27 h204 => ?_)
  refine ji Y Y (zI Y Y Y (zI Y Y Y (jm Y Y (jm Y Y (jp (jh ?_))))))
  obtain ⟨o_7, h205, h206⟩ := bindO hm
  refine jP (ι := Unit) (fun l_28 => True) (fun l_28 => [(2, .slice qa3 na3 ca3), (4, ptr b 0), (7, ptr b_1 0), (11, ptr l_5.1 0), (13, sL l_5.2.2.1.v), (14, .int .i64 t49), (105, .bool o_7)]) (fun l_28 => [kc b_1 #[.int .i64 s3.after, .int .i64 s3.cell, .bool s3.upright] 55, kc b #[.int .i64 c0.cells, .int .i64 c0.tides, .slice qa0 na0 ca0, .slice qa1 na1 ca1, .slice qa2 na2 ca2] 26, kc l_5.1 #[.int .i64 o_2.own11.cells, .int .i64 o_2.own11.tides, sL l_5.2.2.2.1, sL l_5.2.2.2.2.1, sL l_5.2.2.2.2.2.1] 26, kc l_5.2.1 #[.int .i64 o_2.x12.cells, .int .i64 o_2.x12.tides, sL l_5.2.2.2.2.2.2.1, sL l_5.2.2.2.2.2.2.2.1, sL l_5.2.2.2.2.2.2.2.2] 33]) (fun l_28 => [⟨22, RwH.enc l_5.2.2.1.rs, l_5.2.2.1.v.sp, l_5.2.2.1.v.q, dbl 3 RI o_2.mine13 l_5.2.2.1.rs⟩, vL 3 l_5.2.2.2.1 (RI.enc o_2.own11.fords), vL 98 l_5.2.2.2.2.1 (RSa.enc o_2.own11.sands), vL 55 l_5.2.2.2.2.2.1 (RSi.enc o_2.own11.sights), vL 3 l_5.2.2.2.2.2.2.1 (RI.enc o_2.x12.fords), vL 138 l_5.2.2.2.2.2.2.2.1 (RSa.enc o_2.x12.sands), vL 139 l_5.2.2.2.2.2.2.2.2 (RSi.enc o_2.x12.sights)]) ?_ ?_
  ·replace hm := h205
   refine jg (ji Y Y (ji Y Y (jc Y Y Y (fun _ _ => zw Y Y) (ji Y Y ?_))))
   refine jN 101 Y (fun h207 => ?_) (fun h207 => ?_)
   ·replace hm := ifF (of_ndec_true h207) hm
    refine g_k Y Y Y Y (g_k Y Y Y Y (g_k Y Y Y Y (yK Y Y Y (jw ?_))))
    obtain rfl := sj hm
    exact jl () (trivial) (sE Y) (fun w hh => hh)
   replace hm := ifT (of_ndec_false h207) hm
   refine jb Y Y (ji Y Y (jb Y Y (ji Y Y (jb Y Y (jc Y Y Y (fun _ _ => zw Y Y) (yz Y Y Y (jw ?_)))))))
   obtain rfl := sj hm
   exact jl () (trivial) (sE Y) (fun w hh => hh)
  intro l_28 hj
  replace hm := h206
  refine ja ?_
  refine js Y (fun h208 => ?_) (fun h208 => ?_)
  ·replace hm := ifT (h208) hm
   refine jq (jm Y Y (jp (jv (jd ?_))))
   obtain rfl := sj hm
   refine jj Y (fun w hh => (.tmp Y .nil)) (fun w hh => ⟨(), rfl, trivial, hh.se [] [] 4 Y Y Y rfl⟩)
  replace hm := ifN h208 hm
  refine jt (ja (jh ?_))
  obtain ⟨o_8, h209, h210⟩ := bindO hm
  refine jP (ι := Unit) (fun l_29 => True) (fun l_29 => [(2, .slice qa3 na3 ca3), (4, ptr b 0), (7, ptr b_1 0), (11, ptr l_5.1 0), (13, sL l_5.2.2.1.v), (14, .int .i64 o_8)]) (fun l_29 => [kc b_1 #[.int .i64 s3.after, .int .i64 s3.cell, .bool s3.upright] 55, kc b #[.int .i64 c0.cells, .int .i64 c0.tides, .slice qa0 na0 ca0, .slice qa1 na1 ca1, .slice qa2 na2 ca2] 26, kc l_5.1 #[.int .i64 o_2.own11.cells, .int .i64 o_2.own11.tides, sL l_5.2.2.2.1, sL l_5.2.2.2.2.1, sL l_5.2.2.2.2.2.1] 26, kc l_5.2.1 #[.int .i64 o_2.x12.cells, .int .i64 o_2.x12.tides, sL l_5.2.2.2.2.2.2.1, sL l_5.2.2.2.2.2.2.2.1, sL l_5.2.2.2.2.2.2.2.2] 33]) (fun l_29 => [⟨22, RwH.enc l_5.2.2.1.rs, l_5.2.2.1.v.sp, l_5.2.2.1.v.q, dbl 3 RI o_2.mine13 l_5.2.2.1.rs⟩, vL 3 l_5.2.2.2.1 (RI.enc o_2.own11.fords), vL 98 l_5.2.2.2.2.1 (RSa.enc o_2.own11.sands), vL 55 l_5.2.2.2.2.2.1 (RSi.enc o_2.own11.sights), vL 3 l_5.2.2.2.2.2.2.1 (RI.enc o_2.x12.fords), vL 138 l_5.2.2.2.2.2.2.2.1 (RSa.enc o_2.x12.sands), vL 139 l_5.2.2.2.2.2.2.2.2 (RSi.enc o_2.x12.sights)]) ?_ ?_
  ·replace hm := h209
   refine jn (jq (ji Y Y (jc Y Y Y (fun _ _ => zw Y Y) (jm Y Y (jp ?_)))))
   refine js Y (fun h211 => ?_) (fun h211 => ?_)
   ·replace hm := ifF (of_ndec_true h211) hm
    refine jt (jx ?_)
    obtain rfl := sj hm
    exact jl () (trivial) (sE Y) (fun w hh => hh)
   replace hm := ifT (of_ndec_false h211) hm
   refine jq (qg 4 runUnderlying26 Y sizeOf24 Y Y (kX 1 isAgg24 Y Y Y Y (jc Y Y Y (fun w _ => jD hna2 (runUnderlying24 w) Y) (jc Y Y Y (fun _ _ => zT Y Y) (jm Y Y (jp ?_))))))
   refine js Y (fun h212 => ?_) (fun h212 => ?_)
   ·replace hm := ifD h212 hm
    refine jg (jm Y Y (jw (jx ?_)))
    obtain rfl := sj hm
    exact jl () (trivial) (sE Y) (fun w hh => hh)
   replace hm := ifE h212 hm
   refine jh ?_
   obtain ⟨o_9, h213, h214⟩ := bindO hm
   refine jP (ι := Unit) (fun l_30 => True) (fun l_30 => [(2, .slice qa3 na3 ca3), (4, ptr b 0), (7, ptr b_1 0), (11, ptr l_5.1 0), (13, sL l_5.2.2.1.v), (14, .int .i64 t49), (114, .bool o_9)]) (fun l_30 => [kc b_1 #[.int .i64 s3.after, .int .i64 s3.cell, .bool s3.upright] 55, kc b #[.int .i64 c0.cells, .int .i64 c0.tides, .slice qa0 na0 ca0, .slice qa1 na1 ca1, .slice qa2 na2 ca2] 26, kc l_5.1 #[.int .i64 o_2.own11.cells, .int .i64 o_2.own11.tides, sL l_5.2.2.2.1, sL l_5.2.2.2.2.1, sL l_5.2.2.2.2.2.1] 26, kc l_5.2.1 #[.int .i64 o_2.x12.cells, .int .i64 o_2.x12.tides, sL l_5.2.2.2.2.2.2.1, sL l_5.2.2.2.2.2.2.2.1, sL l_5.2.2.2.2.2.2.2.2] 33]) (fun l_30 => [⟨22, RwH.enc l_5.2.2.1.rs, l_5.2.2.1.v.sp, l_5.2.2.1.v.q, dbl 3 RI o_2.mine13 l_5.2.2.1.rs⟩, vL 3 l_5.2.2.2.1 (RI.enc o_2.own11.fords), vL 98 l_5.2.2.2.2.1 (RSa.enc o_2.own11.sands), vL 55 l_5.2.2.2.2.2.1 (RSi.enc o_2.own11.sights), vL 3 l_5.2.2.2.2.2.2.1 (RI.enc o_2.x12.fords), vL 138 l_5.2.2.2.2.2.2.2.1 (RSa.enc o_2.x12.sands), vL 139 l_5.2.2.2.2.2.2.2.2 (RSi.enc o_2.x12.sights)]) ?_ ?_
   ·replace hm := h213
    refine jg (qg 0 runUnderlying55 Y sizeOf3 Y Y (kX 0 isAgg3 Y Y Y Y (JT Y Y Y (ji Y Y ?_))))
    refine jN 118 Y (fun h215 => ?_) (fun h215 => ?_)
    ·replace hm := ifD h215 hm
     refine g_k Y Y Y Y (g_k Y Y Y Y (g_k Y Y Y Y (g_k Y Y Y Y (g_k Y Y Y Y (yK Y Y Y (jm Y Y (jw ?_)))))))
     obtain rfl := sj hm
     exact jl () (trivial) (sE Y) (fun w hh => hh)
    replace hm := ifE h215 hm
    refine jb Y Y (qg 0 runUnderlying55 Y sizeOf3 Y Y (jb Y Y (kX 0 isAgg3 Y Y Y Y (jb Y Y (qg 1 runUnderlying26 Y sizeOf3 Y Y (jb Y Y (kX 1 isAgg3 Y Y Y Y ?_)))))))
    refine jb Y Y (jc Y Y Y (fun _ _ => Qt Y Y) (yz Y Y Y (jm Y Y (jw ?_))))
    obtain rfl := sj hm
    exact jl () (trivial) (sE Y) (fun w hh => hh)
   intro l_30 hj
   replace hm := h214
   refine ja ?_
   refine js Y (fun h216 => ?_) (fun h216 => ?_)
   ·replace hm := ifT (h216) hm
    refine jg (jm Y Y (jw (jx ?_)))
    obtain rfl := sj hm
    exact jl () (trivial) (sE Y) (fun w hh => hh)
   replace hm := ifN h216 hm
   refine jh ?_
   obtain ⟨o_10, h217, h218⟩ := bindO hm
   refine jP (ι := Unit) (fun l_31 => True) (fun l_31 => [(2, .slice qa3 na3 ca3), (4, ptr b 0), (7, ptr b_1 0), (11, ptr l_5.1 0), (13, sL l_5.2.2.1.v), (14, .int .i64 t49), (125, .bool o_10)]) (fun l_31 => [kc b_1 #[.int .i64 s3.after, .int .i64 s3.cell, .bool s3.upright] 55, kc b #[.int .i64 c0.cells, .int .i64 c0.tides, .slice qa0 na0 ca0, .slice qa1 na1 ca1, .slice qa2 na2 ca2] 26, kc l_5.1 #[.int .i64 o_2.own11.cells, .int .i64 o_2.own11.tides, sL l_5.2.2.2.1, sL l_5.2.2.2.2.1, sL l_5.2.2.2.2.2.1] 26, kc l_5.2.1 #[.int .i64 o_2.x12.cells, .int .i64 o_2.x12.tides, sL l_5.2.2.2.2.2.2.1, sL l_5.2.2.2.2.2.2.2.1, sL l_5.2.2.2.2.2.2.2.2] 33]) (fun l_31 => [⟨22, RwH.enc l_5.2.2.1.rs, l_5.2.2.1.v.sp, l_5.2.2.1.v.q, dbl 3 RI o_2.mine13 l_5.2.2.1.rs⟩, vL 3 l_5.2.2.2.1 (RI.enc o_2.own11.fords), vL 98 l_5.2.2.2.2.1 (RSa.enc o_2.own11.sands), vL 55 l_5.2.2.2.2.2.1 (RSi.enc o_2.own11.sights), vL 3 l_5.2.2.2.2.2.2.1 (RI.enc o_2.x12.fords), vL 138 l_5.2.2.2.2.2.2.2.1 (RSa.enc o_2.x12.sands), vL 139 l_5.2.2.2.2.2.2.2.2 (RSi.enc o_2.x12.sights)]) ?_ ?_
   ·replace hm := h217
    refine jg (qg 1 runUnderlying55 Y sizeOf3 Y Y (kX 0 isAgg3 Y Y Y Y (JT Y Y Y (ji Y Y ?_))))
    refine jN 129 Y (fun h219 => ?_) (fun h219 => ?_)
    ·replace hm := ifD h219 hm
     refine g_k Y Y Y Y (g_k Y Y Y Y (g_k Y Y Y Y (g_k Y Y Y Y (g_k Y Y Y Y (yK Y Y Y (jm Y Y (jw ?_)))))))
     obtain rfl := sj hm
     exact jl () (trivial) (sE Y) (fun w hh => hh)
    replace hm := ifE h219 hm
    refine jb Y Y (qg 1 runUnderlying55 Y sizeOf3 Y Y (jb Y Y (kX 0 isAgg3 Y Y Y Y (jb Y Y (qg 0 runUnderlying26 Y sizeOf3 Y Y (jb Y Y (kX 1 isAgg3 Y Y Y Y ?_)))))))
    refine jb Y Y (jc Y Y Y (fun _ _ => Yh Y Y) (yz Y Y Y (jm Y Y (jw ?_))))
    obtain rfl := sj hm
    exact jl () (trivial) (sE Y) (fun w hh => hh)
   intro l_31 hj
   replace hm := h218
   refine ja ?_
   refine js Y (fun h220 => ?_) (fun h220 => ?_)
   ·replace hm := ifT (h220) hm
    refine jg (jm Y Y (jw (jx ?_)))
    obtain rfl := sj hm
    exact jl () (trivial) (sE Y) (fun w hh => hh)
   replace hm := ifN h220 hm
   refine jt (jx ?_)
   obtain rfl := sj hm
   exact jl () (trivial) (sE Y) (fun w hh => hh)
  intro l_29 hj
  replace hm := h210
  refine ja (jq ?_)
  refine ju (fun w => zeroValue26 w) Y (fun b_36 h221 => ?_)
  refine jp (jh (yf 3 (yf 98 (yf 55 ?_))))
  obtain ⟨o_11, h222, h223⟩ := bindO hm
  refine jP (ι := VL × VL × VL) (fun l_32 => VOK 1 l_32.1.n l_32.1.cap (RI.enc o_11.want21_fords) l_32.1.sp l_32.1.q ∧ VOK 3 l_32.2.1.n l_32.2.1.cap (RSa.enc o_11.want21_sands) l_32.2.1.sp l_32.2.1.q ∧ VOK 3 l_32.2.2.n l_32.2.2.cap (RSi.enc o_11.want21_sights) l_32.2.2.sp l_32.2.2.q) (fun l_32 => [(2, .slice qa3 na3 ca3), (4, ptr b 0), (7, ptr b_1 0), (11, ptr l_5.1 0), (13, sL l_5.2.2.1.v), (14, .int .i64 o_8), (21, ptr b_36 0)]) (fun l_32 => [kc b_36 #[.int .i64 o_11.want21_cells, .int .i64 o_11.want21_tides, sL l_32.1, sL l_32.2.1, sL l_32.2.2] 26, kc b_1 #[.int .i64 s3.after, .int .i64 s3.cell, .bool s3.upright] 55, kc b #[.int .i64 c0.cells, .int .i64 c0.tides, .slice qa0 na0 ca0, .slice qa1 na1 ca1, .slice qa2 na2 ca2] 26, kc l_5.1 #[.int .i64 o_2.own11.cells, .int .i64 o_2.own11.tides, sL l_5.2.2.2.1, sL l_5.2.2.2.2.1, sL l_5.2.2.2.2.2.1] 26, kc l_5.2.1 #[.int .i64 o_2.x12.cells, .int .i64 o_2.x12.tides, sL l_5.2.2.2.2.2.2.1, sL l_5.2.2.2.2.2.2.2.1, sL l_5.2.2.2.2.2.2.2.2] 33]) (fun l_32 => [⟨22, RwH.enc l_5.2.2.1.rs, l_5.2.2.1.v.sp, l_5.2.2.1.v.q, dbl 3 RI o_2.mine13 l_5.2.2.1.rs⟩, vL 3 l_32.1 (RI.enc o_11.want21_fords), vL 98 l_32.2.1 (RSa.enc o_11.want21_sands), vL 55 l_32.2.2 (RSi.enc o_11.want21_sights), vL 3 l_5.2.2.2.1 (RI.enc o_2.own11.fords), vL 98 l_5.2.2.2.2.1 (RSa.enc o_2.own11.sands), vL 55 l_5.2.2.2.2.2.1 (RSi.enc o_2.own11.sights), vL 3 l_5.2.2.2.2.2.2.1 (RI.enc o_2.x12.fords), vL 138 l_5.2.2.2.2.2.2.2.1 (RSa.enc o_2.x12.sands), vL 139 l_5.2.2.2.2.2.2.2.2 (RSi.enc o_2.x12.sights)]) ?_ ?_
  ·replace hm := h222
   refine jq (ji Y Y (jc Y Y Y (fun _ _ => zT Y Y) (jp ?_)))
   refine js Y (fun h227 => ?_) (fun h227 => ?_)
   ·replace hm := ifD h227 hm
    refine jq (zd [_, _, _, _, _] 2 isAgg26 sizeOf26 Y Y Y Y ?_)
    obtain ⟨t139, h228, hm⟩ := bindO hm
    refine je [] [] Y Y Y Y Y Y Y call20 (fun w hh => zg c0 qa0 na0 ca0 qa1 na1 ca1 qa2 na2 ca2 w (HV.callee (S0 := []) (vs0 := []) hh (roR hh 0 Y (roR hh 1 Y (roR hh 2 Y roN)))) hna0 hqa0 hla0 hna1 hqa1 hla1 hna2 hqa2 hla2 h228) (fun l_33 h229 => ?_)
    obtain ⟨h230, h231, h232⟩ := h229
    refine qj (S' := [_, _, _, _, _]) (vs' := [_, _, _, _, _, _, _, _, _, _, _, _, _]) [0, 1, 2, 3, 4] [0, 1, 2, 3, 4, 5, 6, 7, 8, 9, 10, 11, 12] 0 Y Y Y Y (jV (us := #[_, _, _, _, _]) (cs' := [_, _, _, _, _]) (S' := [_, _, _, _, _]) 0 (fun w => sizeOf26 w) Y Y Y Y Y Y Y (jp (jg (qg 4 runUnderlying26 Y sizeOf24 Y Y (kX 0 isAgg24 Y Y Y Y (zd [_, _, _] 1 isAgg55 sizeOf55 Y Y Y Y ?_))))))
    refine q6 RSi [s3] (ps := [(0, _)]) (cells := [_, _, _]) (fun w => runUnderlying24 w) (fun w => sizeOf55 w) (fun w => zeroValue55 w) Y Y Y Y Y Y Y Y (fun L_62 h233 => ?_)
    obtain ⟨t144, h234, hm⟩ := bindO hm
    refine Ji RSi 3 h234 underlying24 YT Y Y Y Y Y h232 Y Y (vlen RSi h233 Y) (AOK.q (vne h233)) (fun w hh => (hh.vsegA 0 Y h233)) Y (fun L_63 h235 h235n => ?_)
    refine qj (S' := [_, _, _, _, _]) (vs' := [_, _, _, _, _, _, _, _, _, _, _, _, _, _]) [0, 1, 2, 3, 4] [0, 1, 2, 3, 4, 5, 6, 7, 8, 9, 10, 11, 12, 13] 0 Y Y Y Y ?_
    refine qg 4 runUnderlying26 Y sizeOf24 Y Y (yM (cs' := #[_, _, _, _, _]) (S' := [_, _, _, _, _]) 0 (fun w => sizeOf24 w) Y Y Y Y Y Y Y (jw ?_))
    obtain rfl := sj hm
    exact jl (l_33.1, l_33.2.1, L_63) (⟨h230, h231, h235⟩) (sE Y) (hsE [0, 1, 2, 3, 4] [7, 1, 2, 3, 8, 9, 10, 11, 12, 13] 0 Y Y Y Y)
   replace hm := ifE h227 hm
   refine jt ?_
   obtain rfl := sj hm
   exact jl (⟨none, 0, 0, []⟩, ⟨none, 0, 0, []⟩, ⟨none, 0, 0, []⟩) (⟨VOK.nil, VOK.nil, VOK.nil⟩) (sE Y) (hsE [0, 1, 2, 3, 4] [3, 2, 1, 0, 4, 5, 6, 7, 8, 9] 0 Y Y Y Y)
  intro l_32 hj
  obtain ⟨h224, h225, h226⟩ := hj
  replace hm := h223
  refine ja (jq (zd [_, _, _, _, _] 3 isAgg26 sizeOf26 Y Y Y Y (zd [_, _, _] 1 isAgg55 sizeOf55 Y Y Y Y ?_)))
  obtain ⟨t149, h236, hm⟩ := bindO hm
  refine je [] [] Y Y Y Y Y Y Y call59 (fun w hh => Zc o_2.own11 s3 (qA l_5.2.2.2.1.q) l_5.2.2.2.1.n l_5.2.2.2.1.cap (qA l_5.2.2.2.2.1.q) l_5.2.2.2.2.1.n l_5.2.2.2.2.1.cap (qA l_5.2.2.2.2.2.1.q) l_5.2.2.2.2.2.1.n l_5.2.2.2.2.2.1.cap w (HV.callee (S0 := []) (vs0 := []) hh (roC (hh.vsepA 4 Y h29) (roC (hh.vsepA 5 Y h30) (roC (hh.vsepA 6 Y h31) roN)))) (vlen RI h29 Y) (AOK.q (vne h29)) (h29).hle (vlen RSa h30 Y) (AOK.q (vne h30)) (h30).hle (vlen RSi h31 Y) (AOK.q (vne h31)) (h31).hle h236) (fun l_34 h237 => ?_)
  obtain ⟨h238, h239, h240⟩ := h237
  refine qj (S' := [_, _, _, _, _]) (vs' := [_, _, _, _, _, _, _, _, _, _, _, _, _]) [0, 1, 2, 3, 4] [0, 1, 2, 3, 4, 5, 6, 7, 8, 9, 10, 11, 12] 0 Y Y Y Y (ji Y Y (zI Y Y Y (zI Y Y Y ?_)))
  refine ju (fun w => zeroValue26 w) Y (fun b_37 h241 => ?_)
  refine jV (us := #[_, _, _, _, _]) (cs' := [_, _, _, _, _]) (S' := [_, _, _, _, _, _]) 0 (fun w => sizeOf26 w) Y Y Y Y Y Y Y (jm Y Y (jp (jh (jh ?_))))
  obtain ⟨o_12, h242, h243⟩ := bindO hm
  refine jP (ι := Unit) (fun l_35 => True) (fun l_35 => [(2, .slice qa3 na3 ca3), (4, ptr b 0), (11, ptr l_5.1 0), (13, sL l_5.2.2.1.v), (22, ptr b_37 0), (160, .bool o_12)]) (fun l_35 => [kc b_37 #[.int .i64 t149.r0.cells, .int .i64 t149.r0.tides, sL l_34.1, sL l_34.2.1, sL l_34.2.2] 26, kc b_36 #[.int .i64 o_11.want21_cells, .int .i64 o_11.want21_tides, sL l_32.1, sL l_32.2.1, sL l_32.2.2] 26, kc b_1 #[.int .i64 s3.after, .int .i64 s3.cell, .bool s3.upright] 55, kc b #[.int .i64 c0.cells, .int .i64 c0.tides, .slice qa0 na0 ca0, .slice qa1 na1 ca1, .slice qa2 na2 ca2] 26, kc l_5.1 #[.int .i64 o_2.own11.cells, .int .i64 o_2.own11.tides, sL l_5.2.2.2.1, sL l_5.2.2.2.2.1, sL l_5.2.2.2.2.2.1] 26, kc l_5.2.1 #[.int .i64 o_2.x12.cells, .int .i64 o_2.x12.tides, sL l_5.2.2.2.2.2.2.1, sL l_5.2.2.2.2.2.2.2.1, sL l_5.2.2.2.2.2.2.2.2] 33]) (fun l_35 => [⟨22, RwH.enc l_5.2.2.1.rs, l_5.2.2.1.v.sp, l_5.2.2.1.v.q, dbl 3 RI o_2.mine13 l_5.2.2.1.rs⟩, vL 3 l_34.1 (RI.enc t149.r0.fords), vL 98 l_34.2.1 (RSa.enc t149.r0.sands), vL 55 l_34.2.2 (RSi.enc t149.r0.sights), vL 3 l_32.1 (RI.enc o_11.want21_fords), vL 98 l_32.2.1 (RSa.enc o_11.want21_sands), vL 55 l_32.2.2 (RSi.enc o_11.want21_sights), vL 3 l_5.2.2.2.1 (RI.enc o_2.own11.fords), vL 98 l_5.2.2.2.2.1 (RSa.enc o_2.own11.sands), vL 55 l_5.2.2.2.2.2.1 (RSi.enc o_2.own11.sights), vL 3 l_5.2.2.2.2.2.2.1 (RI.enc o_2.x12.fords), vL 138 l_5.2.2.2.2.2.2.2.1 (RSa.enc o_2.x12.sands), vL 139 l_5.2.2.2.2.2.2.2.2 (RSi.enc o_2.x12.sights)]) ?_ ?_
  ·replace hm := h242
   refine jg (ji Y Y (ji Y Y (jc Y Y Y (fun _ _ => zw Y Y) (ji Y Y ?_))))
   refine jN 155 Y (fun h244 => ?_) (fun h244 => ?_)
   ·replace hm := ifF (of_ndec_true h244) hm
    refine g_k Y Y Y Y (g_k Y Y Y Y (g_k Y Y Y Y (g_k Y Y Y Y (yK Y Y Y (jw ?_)))))
    obtain rfl := sj hm
    exact jl () (trivial) (sE Y) (hsE [0, 1, 2, 3, 4, 5] [3, 0, 1, 2, 4, 5, 6, 7, 8, 9, 10, 11, 12] 0 Y Y Y Y)
   replace hm := ifT (of_ndec_false h244) hm
   refine jb Y Y (zd [_, _, _, _, _] 0 isAgg26 sizeOf26 Y Y Y Y (jb Y Y (zd [_, _, _, _, _] 1 isAgg26 sizeOf26 Y Y Y Y (jb Y Y ?_))))
   obtain ⟨t158, h245, hm⟩ := bindO hm
   refine je [] [] Y Y Y Y Y Y Y call31 (fun w hh => K3 t149.r0 (⟨o_11.want21_cells, o_11.want21_tides, o_11.want21_fords, o_11.want21_sands, o_11.want21_sights⟩ : Channel) (qA l_34.1.q) l_34.1.n l_34.1.cap (qA l_34.2.1.q) l_34.2.1.n l_34.2.1.cap (qA l_34.2.2.q) l_34.2.2.n l_34.2.2.cap (qA l_32.1.q) l_32.1.n l_32.1.cap (qA l_32.2.1.q) l_32.2.1.n l_32.2.1.cap (qA l_32.2.2.q) l_32.2.2.n l_32.2.2.cap w (HV.callee (S0 := []) (vs0 := []) hh (roC (hh.vsepA 0 Y h238) (roC (hh.vsepA 1 Y h239) (roC (hh.vsepA 2 Y h240) (roC (hh.vsepA 4 Y h224) (roC (hh.vsepA 5 Y h225) (roC (hh.vsepA 6 Y h226) roN))))))) (vlen RI h238 Y) (AOK.q (vne h238)) (h238).hle (vlen RSa h239 Y) (AOK.q (vne h239)) (h239).hle (vlen RSi h240 Y) (AOK.q (vne h240)) (h240).hle (vlen RI h224 Y) (AOK.q (vne h224)) (h224).hle (vlen RSa h225 Y) (AOK.q (vne h225)) (h225).hle (vlen RSi h226 Y) (AOK.q (vne h226)) (h226).hle h245) (fun l_36 h246 => ?_)
   refine jb Y Y (jc Y Y Y (fun _ _ => yj Y) (yz Y Y Y (jw ?_)))
   obtain rfl := sj hm
   exact jl () (trivial) (sE Y) (hsE [0, 1, 2, 3, 4, 5] [3, 0, 1, 2, 4, 5, 6, 7, 8, 9, 10, 11, 12] 0 Y Y Y Y)
  intro l_35 hj
  replace hm := h243
  refine ja ?_
  refine js Y (fun h247 => ?_) (fun h247 => ?_)
  ·replace hm := ifT (h247) hm
   refine jq (jm Y Y (jp (jv (jd ?_))))
   obtain rfl := sj hm
   refine jj Y (fun w hh => (.tmp Y .nil)) (fun w hh => ⟨(), rfl, trivial, hh.se [] [] 4 Y Y Y rfl⟩)
  replace hm := ifN h247 hm
  refine jt (ja (jq (qg 2 runUnderlying26 Y sizeOf22 Y Y (kX 0 isAgg22 Y Y Y Y ?_))))
  obtain ⟨r0_fords, hr0_fords, hm⟩ := bindO hm
  refine Zg RI 0 1 (fun w => runUnderlying22 w) (fun w => zeroValue3 w) Y Y Y h238 Y Y (Option.some.inj hr0_fords) (fun h248 => ?_)
  refine qj (S' := [_, _, _, _, _, _]) (vs' := [_, _, _, _, _, _, _, _, _, _, _, _, _]) [0, 1, 2, 3, 4, 5] [0, 1, 2, 3, 4, 5, 6, 7, 8, 9, 10, 11, 12] 0 Y Y Y Y ?_
  refine ql (qg 3 runUnderlying26 Y sizeOf23 Y Y (kX 0 isAgg23 Y Y Y Y ?_))
  obtain ⟨r0_sands, hr0_sands, hm⟩ := bindO hm
  refine Zg RSa (⟨(⟨0, 0⟩ : Span), 0⟩ : Sand) 2 (fun w => runUnderlying23 w) (fun w => zeroValue98 w) Y Y Y h239 Y Y (Option.some.inj hr0_sands) (fun h249 => ?_)
  refine qj (S' := [_, _, _, _, _, _]) (vs' := [_, _, _, _, _, _, _, _, _, _, _, _, _]) [0, 1, 2, 3, 4, 5] [0, 1, 2, 3, 4, 5, 6, 7, 8, 9, 10, 11, 12] 0 Y Y Y Y ?_
  refine ql (qg 4 runUnderlying26 Y sizeOf24 Y Y (kX 0 isAgg24 Y Y Y Y ?_))
  obtain ⟨r0_sights, hr0_sights, hm⟩ := bindO hm
  refine Zg RSi (⟨0, 0, false⟩ : Sight) 3 (fun w => runUnderlying24 w) (fun w => zeroValue55 w) Y Y Y h240 Y Y (Option.some.inj hr0_sights) (fun h250 => ?_)
  refine qj (S' := [_, _, _, _, _, _]) (vs' := [_, _, _, _, _, _, _, _, _, _, _, _, _]) [0, 1, 2, 3, 4, 5] [0, 1, 2, 3, 4, 5, 6, 7, 8, 9, 10, 11, 12] 0 Y Y Y Y ?_
  refine jp (jh ?_)
  obtain ⟨o_13, h251, h252⟩ := bindO hm
  refine jP (ι := Unit) (fun l_37 => True) (fun l_37 => [(8, .bool o_13)]) (fun l_37 => [kc b_37 #[.int .i64 t149.r0.cells, .int .i64 t149.r0.tides, sL l_34.1, sL l_34.2.1, sL l_34.2.2] 26, kc b_36 #[.int .i64 o_11.want21_cells, .int .i64 o_11.want21_tides, sL l_32.1, sL l_32.2.1, sL l_32.2.2] 26, kc b_1 #[.int .i64 s3.after, .int .i64 s3.cell, .bool s3.upright] 55, kc b #[.int .i64 c0.cells, .int .i64 c0.tides, .slice qa0 na0 ca0, .slice qa1 na1 ca1, .slice qa2 na2 ca2] 26, kc l_5.1 #[.int .i64 o_2.own11.cells, .int .i64 o_2.own11.tides, sL l_5.2.2.2.1, sL l_5.2.2.2.2.1, sL l_5.2.2.2.2.2.1] 26, kc l_5.2.1 #[.int .i64 o_2.x12.cells, .int .i64 o_2.x12.tides, sL l_5.2.2.2.2.2.2.1, sL l_5.2.2.2.2.2.2.2.1, sL l_5.2.2.2.2.2.2.2.2] 33]) (fun l_37 => [vL 3 l_34.1 (RI.enc r0_fords), vL 98 l_34.2.1 (RSa.enc r0_sands), vL 55 l_34.2.2 (RSi.enc r0_sights), vL 3 l_32.1 (RI.enc o_11.want21_fords), vL 98 l_32.2.1 (RSa.enc o_11.want21_sands), vL 55 l_32.2.2 (RSi.enc o_11.want21_sights), vL 3 l_5.2.2.2.1 (RI.enc o_2.own11.fords), vL 98 l_5.2.2.2.2.1 (RSa.enc o_2.own11.sands), vL 55 l_5.2.2.2.2.2.1 (RSi.enc o_2.own11.sights), vL 3 l_5.2.2.2.2.2.2.1 (RI.enc o_2.x12.fords), vL 138 l_5.2.2.2.2.2.2.2.1 (RSa.enc o_2.x12.sands), vL 139 l_5.2.2.2.2.2.2.2.2 (RSi.enc o_2.x12.sights)]) ?_ ?_
  ·replace hm := h251
   refine jg (zd [_, _, _, _, _] 4 isAgg26 sizeOf26 Y Y Y Y (zd [_, _, _, _, _] 3 isAgg26 sizeOf26 Y Y Y Y ?_))
   obtain ⟨t169, h253, hm⟩ := bindO hm
   refine je [] [] Y Y Y Y Y Y Y call31 (fun w hh => K3 o_2.own11 c0 (qA l_5.2.2.2.1.q) l_5.2.2.2.1.n l_5.2.2.2.1.cap (qA l_5.2.2.2.2.1.q) l_5.2.2.2.2.1.n l_5.2.2.2.2.1.cap (qA l_5.2.2.2.2.2.1.q) l_5.2.2.2.2.2.1.n l_5.2.2.2.2.2.1.cap qa0 na0 ca0 qa1 na1 ca1 qa2 na2 ca2 w (HV.callee (S0 := []) (vs0 := []) hh (roC (hh.vsepA 7 Y h29) (roC (hh.vsepA 8 Y h30) (roC (hh.vsepA 9 Y h31) (roR hh 0 Y (roR hh 1 Y (roR hh 2 Y roN))))))) (vlen RI h29 Y) (AOK.q (vne h29)) (h29).hle (vlen RSa h30 Y) (AOK.q (vne h30)) (h30).hle (vlen RSi h31 Y) (AOK.q (vne h31)) (h31).hle hna0 hqa0 hla0 hna1 hqa1 hla1 hna2 hqa2 hla2 h253) (fun l_38 h254 => ?_)
   refine ji Y Y ?_
   refine jN 170 Y (fun h255 => ?_) (fun h255 => ?_)
   ·replace hm := ifT (h255) hm
    refine jb Y Y (ji Y Y (jb Y Y (ji Y Y (jb Y Y ?_))))
    obtain ⟨t173, h256, hm⟩ := bindO hm
    refine je [] [] Y Y Y Y Y Y Y call60 (fun w hh => Y3 o_2.mine13 course2 (qA l_5.2.2.1.v.q) l_5.2.2.1.v.n l_5.2.2.1.v.cap (toAL l_5.2.2.1.rs) qa3 na3 ca3 ar3 w (HV.callee (S0 := []) (vs0 := []) hh (roC (hh.vsepD 0 Y h27) (roR hh 3 Y roN))) (Eq.trans (h28).len (vlen RwH h27 Y)) (AOK.q (vne h27)) (h27).hle ((h28).toDRO Y) (hh.dsepT 0 Y h28) hna3 hqa3 hla3 hda3 (hh.oldT (S0 := []) (vs0 := []) hTa3) h256) (fun l_39 h257 => ?_)
    refine yK Y Y Y (ji Y Y ?_)
    refine jN 175 Y (fun h258 => ?_) (fun h258 => ?_)
    ·replace hm := ifT (h258) hm
     refine jb Y Y ?_
     obtain ⟨t176, h259, hm⟩ := bindO hm
     refine je [] [] Y Y Y Y Y Y Y call19 (fun w hh => JJ  w (HV.callee (S0 := []) (vs0 := []) hh roN)  h259) (fun l_40 h260 => ?_)
     refine yK Y Y Y (jm Y Y (jw ?_))
     obtain rfl := sj hm
     exact jl () (trivial) (sE Y) (hsE [0, 1, 2, 3, 4, 5] [1, 2, 3, 4, 5, 6, 7, 8, 9, 10, 11, 12] 0 Y Y Y Y)
    replace hm := ifN h258 hm
    refine g_k Y Y Y Y (yz Y Y Y (jm Y Y (jw ?_)))
    obtain rfl := sj hm
    exact jl () (trivial) (sE Y) (hsE [0, 1, 2, 3, 4, 5] [1, 2, 3, 4, 5, 6, 7, 8, 9, 10, 11, 12] 0 Y Y Y Y)
   replace hm := ifN h255 hm
   refine g_k Y Y Y Y (g_k Y Y Y Y (g_k Y Y Y Y (yz Y Y Y (ji Y Y (g_k Y Y Y Y (yz Y Y Y (jm Y Y ?_)))))))
   refine jw ?_
   obtain rfl := sj hm
   exact jl () (trivial) (sE Y) (hsE [0, 1, 2, 3, 4, 5] [1, 2, 3, 4, 5, 6, 7, 8, 9, 10, 11, 12] 0 Y Y Y Y)
  intro l_37 hj
  replace hm := h252
  refine ja (jv ?_)
  obtain rfl := sj hm
  refine jj Y (fun w hh => (.tmp Y .nil)) (fun w hh => ⟨(), rfl, trivial, hh.se [] [] 4 Y Y Y rfl⟩)
end Go.Proofs.Wb

namespace Go.Gx
open Go
theorem eq_loop {α : Type} [DecidableEq α] {a b : List α} (d : α) (hl : a.length = b.length) (hn : a.length < 1000000) {f : Int → Option (Int ⊕ (Unit ⊕ Bool))}
    (hf : ∀ s, f s = if s < (a.length : Int) then ((ix a s).bind fun x => (ix b s).bind fun y => if x = y then ((addc s 1).bind fun k => some (.inl k)) else some (.inr (.inr false))) else some (.inr (.inl ()))) :
    ((iterM FU f 0).bind fun o => oc o (fun _ => (some true : Option Bool)) (fun r => some r)) = some (decide (a = b)) := by
  have key := iterM_any0 (f := f) a.length (fun k => decide (¬ a.getD k d = b.getD k d)) false (fun k hk => by
    rw [hf, if_pos (by omega), ix_nat d hk, Option.bind_some, ix_nat d (by omega), Option.bind_some]
    by_cases h : a.getD k d = b.getD k d
    · rw [if_pos h, addc_eq (by omega), Option.bind_some, if_neg (by simpa using h)]
    · rw [if_neg h, if_pos (by simpa using h)]) (by rw [hf, if_neg (by omega)]) (N := FU) (FU_lt (by omega))
  rw [key, Option.bind_some]
  by_cases h : a = b
  · subst h
    have : ((List.range a.length).any fun k => decide (¬ a.getD k d = a.getD k d)) = false := by
      rw [List.any_eq_false]; intro x _; simp
    rw [this]; simp
  · have : ((List.range a.length).any fun k => decide (¬ a.getD k d = b.getD k d)) = true := by
      cases h2 : ((List.range a.length).any fun k => decide (¬ a.getD k d = b.getD k d)) with
      | true => rfl
      | false =>
        exfalso
        apply h
        apply List.ext_getElem hl
        intro i hi hi'
        have h3 := List.any_eq_false.1 h2 i (by simpa using hi)
        simpa [List.getD_eq_getElem?_getD, hi, hi'] using h3
    rw [this]; simp [h]
end Go.Gx
namespace Go.Proofs.Wb
open Go Go.Fw Go.Gx Go.Sb
set_option linter.unusedVariables false
theorem Y7 {a b : List Int} (hn : a.length < 1000000) : z6 a b = some (decide (a = b)) := by
  unfold z6 qP
  by_cases h : a.length = b.length
  · rw [if_pos (by omega), eq_loop 0 h hn (f := Jo a b) (fun s => rfl)]; rfl
  · rw [if_neg (by omega), Option.bind_some]
    congr 1
    symm
    rw [decide_eq_false_iff_not]
    intro e; exact h (by rw [e])
theorem ZJ {a b : List Sand} (hn : a.length < 1000000) : zn a b = some (decide (a = b)) := by
  unfold zn kS
  by_cases h : a.length = b.length
  · rw [if_pos (by omega), eq_loop default h hn (f := qq a b) (fun s => rfl)]; rfl
  · rw [if_neg (by omega), Option.bind_some]
    congr 1
    symm
    rw [decide_eq_false_iff_not]
    intro e; exact h (by rw [e])
theorem Zu {a b : List Sight} (hn : a.length < 1000000) : yX a b = some (decide (a = b)) := by
  unfold yX kC
  by_cases h : a.length = b.length
  · rw [if_pos (by omega), eq_loop default h hn (f := qb a b) (fun s => rfl)]; rfl
  · rw [if_neg (by omega), Option.bind_some]
    congr 1
    symm
    rw [decide_eq_false_iff_not]
    intro e; exact h (by rw [e])
def Few (c : Channel) : Prop := c.fords.length ≤ 100 ∧ c.sands.length ≤ 100 ∧ c.sights.length ≤ 100
theorem Zx {a b : Channel} (h : Few a) : ya a b = some (decide (a = b)) := by
  unfold ya
  obtain ⟨h1, h2, h3⟩ := h
  rw [Y7 (by omega), ZJ (by omega), Zu (by omega)]
  simp only [Option.bind_some, decide_eq_true_eq]
  obtain ⟨a1, a2, a3, a4, a5⟩ := a
  obtain ⟨b1, b2, b3, b4, b5⟩ := b
  simp only [Channel.mk.injEq]
  by_cases e1 : a1 = b1
  · by_cases e2 : a2 = b2
    · by_cases e3 : a3 = b3
      · by_cases e4 : a4 = b4
        · simp [e1, e2, e3, e4]
        · simp [e1, e2, e3, e4]
      · simp [e1, e2, e3]
    · simp [e1, e2]
  · simp [e1]
theorem Ze {l : List Int} (h : l.length ≤ 100000) : JH l = some l := by
  unfold JH
  rw [makec_eq (by omega), Option.bind_some, appc_eq (by simp; omega)]
  simp
theorem Own_eq {c : Channel} (h : Few c) : yx c = some c := by
  obtain ⟨h1, h2, h3⟩ := h
  unfold yx zK zs
  rw [Ze (by omega), makec_eq (by omega), makec_eq (by omega)]
  simp only [Option.bind_some]
  rw [appc_eq (by simp; omega), appc_eq (by simp; omega)]
  simp
theorem copy_loop {α σ : Type} {l : List α} (d : α) (by_ : Nat) (hb : l.length * by_ ≤ 100000000) (hn : l.length < 1000000) (mk : Int → List α → σ) {f : σ → Option (σ ⊕ List α)}
    (hf : ∀ i o, f (mk i o) = if i < (l.length : Int) then ((ix l i).bind fun x => (appc by_ o [x]).bind fun t => (addc i 1).bind fun k => some (.inl (mk k t))) else some (.inr o)) :
    iterM FU f (mk 0 []) = some l := by
  have key := iterM_run (f := f) (fun j => mk (j : Int) (l.take j)) l.length (b := l) (fun j hj => ?_) ?_ FU (FU_lt (by omega))
  · simpa using key
  · have e : l.take (j + 1) = l.take j ++ [l[j]] := by rw [List.take_append_getElem]
    have hx : l.getD j d = l[j] := by simp [List.getD_eq_getElem?_getD, hj]
    rw [hf, if_pos (by omega), ix_nat d hj, Option.bind_some, hx, appc_eq (by
      simp only [List.length_take, List.length_cons, List.length_nil]
      have : min j l.length + (0 + 1) ≤ l.length := by omega
      have := Nat.mul_le_mul_right by_ this
      omega), Option.bind_some, addc_eq (by omega), Option.bind_some, e]
    rfl
  · rw [hf, if_neg (by omega), List.take_length]
theorem theirs_eq {c : Channel} (h : Few c) : yr c = some c := by
  obtain ⟨h1, h2, h3⟩ := h
  unfold yr
  rw [Ze (by omega)]
  simp only [Option.bind_some]
  rw [copy_loop (l := c.sands) default 24 (by omega) (by omega) (fun i o => (⟨i, o⟩ : qC)) (f := zq c) (fun i o => rfl)]
  simp only [Option.bind_some]
  rw [copy_loop (l := c.sights) default 24 (by omega) (by omega) (fun i o => (⟨i, o⟩ : qt)) (f := zp c) (fun i o => rfl)]
  rfl
end Go.Proofs.Wb

namespace Go.Proofs.Wb
open Go Go.Fw Go.Gx Go.Sb
set_option linter.unusedVariables false
theorem JB (n lo hi : Int) : jB n lo hi = some (!inb n lo hi) := by
  unfold jB inb
  by_cases h : n < lo
  · rw [if_pos h, Option.bind_some]
    simp
    omega
  · rw [if_neg h, Option.bind_some]
    congr 1
    rw [Bool.eq_iff_iff]
    simp
    omega
theorem any_not_all {α : Type} {l : List α} {d : α} {p : α → Bool} : ((List.range l.length).any fun k => !p (l.getD k d)) = !l.all p := by
  rw [any_range (p := fun x => !p x), List.not_all_eq_any_not]
theorem ref_loop {α ρ : Type} (l : List α) (d : α) (p : α → Bool) {e : ρ} (hl : l.length < 1000000000000) {f : Int → Option (Int ⊕ (Unit ⊕ ρ))}
    (hf : ∀ k : Nat, k < l.length → f (k : Int) = some (if (!p (l.getD k d)) = true then .inr (.inr e) else .inl ((k : Int) + 1))) (he : f (l.length : Int) = some (.inr (.inl ()))) :
    iterM FU f 0 = some (if l.all p = true then .inl () else .inr e) := by
  rw [iterM_any0 (f := f) l.length (fun k => !p (l.getD k d)) e hf he (FU_lt hl), any_not_all]
  cases l.all p <;> rfl
theorem ref_up {c : Channel} (h : c.fords.length ≤ 100) : iterM FU (kx c) 1 = some (if upB c.fords = true then .inl () else .inr 4) := by
  by_cases h0 : c.fords.length = 0
  · have e : c.fords = [] := List.length_eq_zero_iff.1 h0
    obtain ⟨N, hN⟩ : ∃ N, FU = N + 1 := ⟨FU - 1, by unfold FU; rfl⟩
    rw [hN, iterM_done (b := .inl ()) (by unfold kx; rw [if_neg (by rw [e]; decide)]), e]
    rfl
  · have key := iterM_any (f := kx c) 1 (c.fords.length - 1) (fun k => decide (c.fords.getD (k + 1) (-1) ≤ c.fords.getD k (-1))) (fun _ => 4) (fun k hk => ?_) ?_ (N := FU) (FU_lt (by omega))
    · rw [key]
      cases hf : (List.range (c.fords.length - 1)).find? (fun k => decide (c.fords.getD (k + 1) (-1) ≤ c.fords.getD k (-1))) with
      | none =>
        have : upB c.fords = true := by
          rw [upB_ix]
          intro i hi
          have h2 := List.find?_eq_none.1 hf i (by simp; omega)
          simp only [decide_eq_true_eq] at h2
          omega
        rw [if_pos this]
      | some k =>
        have h2 := List.find?_some hf
        have h3 : k < c.fords.length - 1 := by simpa using List.mem_of_find?_eq_some hf
        have : ¬ upB c.fords = true := by
          rw [upB_ix]
          intro hu
          have := hu k (by omega)
          simp only [decide_eq_true_eq] at h2
          omega
        rw [if_neg this]
    · unfold kx
      rw [if_pos (by omega), show (1 : Int) + (k : Int) = ((k + 1 : Nat) : Int) by push_cast; omega, ix_nat (-1) (by omega), Option.bind_some, subc_eq (by omega), Option.bind_some, show ((k + 1 : Nat) : Int) - 1 = (k : Int) by push_cast; omega, ix_nat (-1) (by omega), Option.bind_some, addc_eq (by omega), Option.bind_some]
      by_cases h : c.fords.getD (k + 1) (-1) ≤ c.fords.getD k (-1)
      · rw [if_pos h, if_pos (by simpa using h)]
      · rw [if_neg h, if_neg (by simpa using h)]
    · unfold kx
      rw [if_neg (by omega)]
theorem many_eq' {c : Channel} {f : Bool → Option Int} : (((jB c.cells 2 10).bind fun t9 => if t9 = true then (some true) else ((jB c.tides 0 4).bind fun t14 => if t14 = true then (some true) else ((jB (c.fords.length : Int) 1 3).bind fun t21 => if t21 = true then (some true) else (if 4 < (c.sands.length : Int) then (some true) else (some (decide (8 < (c.sights.length : Int)))))))).bind f) = f (!okMany c) := by
  rw [JB, JB, JB]
  have := many_eq (c := c) (f := f)
  rw [Qs, Qs, Qs] at this
  simp only [Option.bind_some] at this ⊢
  exact this
theorem refCheck_eq {c : Channel} (h : Few c) : yB c = some (chk c) := by
  unfold yB chk
  rw [many_eq']
  by_cases h1 : okMany c = true
  · rw [if_pos h1]
    rw [if_neg (by simp [h1])]
    obtain ⟨hc, ht, hf, hs, hg⟩ := okMany_iff.1 h1
    rw [ref_loop c.sands default (fun s => inb s.reach 1 2) (e := 3) (by omega) (fun k hk => by
        unfold yE
        rw [if_pos (by omega), ix_nat default hk, Option.bind_some, JB, Option.bind_some, addc_eq (by omega), Option.bind_some]
        split <;> rfl) (by unfold yE; rw [if_neg (by omega)]),
      ref_loop c.sights default (fun s => inb s.after 0 c.tides) (e := 3) (by omega) (fun k hk => by
        unfold yD
        rw [if_pos (by omega), ix_nat default hk, Option.bind_some, JB, Option.bind_some, addc_eq (by omega), Option.bind_some]
        split <;> rfl) (by unfold yD; rw [if_neg (by omega)]),
      ref_loop c.fords default (fun x => inb x 0 (c.cells - 1)) (e := 1) (by omega) (fun k hk => by
        unfold yH
        rw [if_pos (by omega), ix_nat default hk, Option.bind_some, subc_eq (by omega), Option.bind_some, JB, Option.bind_some, addc_eq (by omega), Option.bind_some]
        split <;> rfl) (by unfold yH; rw [if_neg (by omega)]),
      ref_loop c.sands default (fun s => inb s.span.lo 0 (c.cells - 1) && inb s.span.hi 0 (c.cells - 1)) (e := 1) (by omega) (fun k hk => by
        unfold yJ
        rw [if_pos (by omega), ix_nat default hk, Option.bind_some, subc_eq (by omega), Option.bind_some, JB, Option.bind_some, Option.bind_some, Option.bind_some, JB, Option.bind_some, addc_eq (by omega)]
        cases inb (c.sands.getD k default).span.lo 0 (c.cells - 1) <;> cases inb (c.sands.getD k default).span.hi 0 (c.cells - 1) <;> rfl) (by unfold yJ; rw [if_neg (by omega)]),
      ref_loop c.sights default (fun s => inb s.cell 0 (c.cells - 1)) (e := 1) (by omega) (fun k hk => by
        unfold yI
        rw [if_pos (by omega), ix_nat default hk, Option.bind_some, subc_eq (by omega), Option.bind_some, JB, Option.bind_some, addc_eq (by omega), Option.bind_some]
        split <;> rfl) (by unfold yI; rw [if_neg (by omega)]),
      ref_up (by omega),
      ref_loop c.sands default (fun s => decide (s.span.lo ≤ s.span.hi)) (e := 4) (by omega) (fun k hk => by
        unfold yF
        rw [if_pos (by omega), ix_nat default hk, Option.bind_some, Option.bind_some, addc_eq (by omega), Option.bind_some]
        by_cases h : (c.sands.getD k default).span.hi < (c.sands.getD k default).span.lo
        · rw [if_pos h, if_pos (by simp at h ⊢; omega)]
        · rw [if_neg h, if_neg (by simp at h ⊢; omega)]) (by unfold yF; rw [if_neg (by omega)])]
    unfold okLimit okMiss okOrder
    simp only [Option.bind_some]
    cases (c.sands.all fun s => inb s.reach 1 2)
    · rfl
    cases (c.sights.all fun s => inb s.after 0 c.tides)
    · rfl
    cases (c.fords.all fun x => inb x 0 (c.cells - 1))
    · rfl
    cases (c.sands.all fun s => inb s.span.lo 0 (c.cells - 1) && inb s.span.hi 0 (c.cells - 1))
    · rfl
    cases (c.sights.all fun s => inb s.cell 0 (c.cells - 1))
    · rfl
    cases upB c.fords
    · rfl
    cases (c.sands.all fun s => decide (s.span.lo ≤ s.span.hi))
    · rfl
    rfl
  · rw [if_neg h1, if_pos (by simp [h1])]
end Go.Proofs.Wb

namespace Go.Proofs.Wb
open Go Go.Fw Go.Gx Go.Sb
set_option linter.unusedVariables false
def stepR (x : Int) (r : Int) (s : Sand) : Int := if s.span.lo ≤ x ∧ x ≤ s.span.hi then max r s.reach else r
def rchC (l : List Sand) (x : Int) : Int := l.foldl (stepR x) 0
def rchL (c : Channel) : List Int := (List.range c.cells.toNat).map fun t : Nat => rchC c.sands (t : Int)
theorem rchC_snoc {l : List Sand} {s : Sand} {x : Int} : rchC (l ++ [s]) x = stepR x (rchC l x) s := by unfold rchC; rw [List.foldl_append]; rfl
theorem rchC_bounds {l : List Sand} {x : Int} (h : ∀ s ∈ l, 1 ≤ s.reach ∧ s.reach ≤ 2) : 0 ≤ rchC l x ∧ rchC l x ≤ 2 := by
  unfold rchC
  have key : ∀ (l : List Sand) (r : Int), (∀ s ∈ l, 1 ≤ s.reach ∧ s.reach ≤ 2) → 0 ≤ r ∧ r ≤ 2 → 0 ≤ l.foldl (stepR x) r ∧ l.foldl (stepR x) r ≤ 2 := by
    intro l
    induction l with
    | nil => intro r _ h; exact h
    | cons s l ih =>
      intro r h hr
      rw [List.foldl_cons]
      refine ih _ (fun t ht => h t (List.mem_cons_of_mem _ ht)) ?_
      have := h s List.mem_cons_self
      unfold stepR
      split <;> omega
  exact key l 0 h (by omega)
theorem refReach_eq {c : Channel} (h : c.sands.length ≤ 100) (x : Int) : qh c x = some (rchC c.sands x) := by
  unfold qh
  have key := iterM_run (f := qL c x) (fun j => ⟨rchC (c.sands.take j) x, (j : Int)⟩) c.sands.length (b := rchC c.sands x) (fun j hj => ?_) ?_ FU (FU_lt (by omega))
  · simp only [List.take_zero] at key
    rw [show (⟨0, 0⟩ : qK) = ⟨rchC [] x, ((0 : Nat) : Int)⟩ from rfl, key]
    rfl
  · have e : c.sands.take (j + 1) = c.sands.take j ++ [c.sands[j]] := by rw [List.take_append_getElem]
    have hx : c.sands.getD j default = c.sands[j] := by simp [List.getD_eq_getElem?_getD, hj]
    unfold qL
    simp only
    rw [if_pos (by omega), ix_nat default hj, Option.bind_some, Option.bind_some, JB, Option.bind_some, Option.bind_some, hx, e, rchC_snoc, addc_eq (by omega)]
    unfold stepR inb
    by_cases h1 : c.sands[j].span.lo ≤ x ∧ x ≤ c.sands[j].span.hi
    · rw [if_pos h1]
      simp [h1]
    · rw [if_neg h1]
      have : (decide (c.sands[j].span.lo ≤ x) && decide (x ≤ c.sands[j].span.hi)) = false := by
        rw [Bool.and_eq_false_iff]
        simp only [decide_eq_false_iff_not]
        omega
      rw [this]
      rfl
  · unfold qL
    simp only
    rw [if_neg (by omega), List.take_length]
theorem reaches_in {n : Nat} {f : Nat → Int} {s : Sand} (h0 : 0 ≤ s.span.lo) (h1 : s.span.hi < n) (h2 : s.span.lo ≤ s.span.hi) (hn : n ≤ 1000) :
    iterM FU (ki s) ⟨s.span.lo, (List.range n).map f⟩ = some ((List.range n).map fun t : Nat => stepR (t : Int) (f t) s) := by
  have key := iterM_run (f := ki s) (fun j => ⟨s.span.lo + (j : Int), (List.range n).map fun t : Nat => if (s.span.lo ≤ (t : Int) ∧ (t : Int) < s.span.lo + (j : Int)) then max (f t) s.reach else f t⟩) (s.span.hi - s.span.lo + 1).toNat (b := (List.range n).map fun t : Nat => stepR (t : Int) (f t) s) (fun j hj => ?_) ?_ FU (FU_lt (by omega))
  · have e : ((List.range n).map fun t : Nat => if (s.span.lo ≤ (t : Int) ∧ (t : Int) < s.span.lo + ((0 : Nat) : Int)) then max (f t) s.reach else f t) = (List.range n).map f := by
      apply List.map_congr_left
      intro t _
      rw [if_neg (by omega)]
    simp only [e] at key
    simpa using key
  · unfold ki
    simp only
    have ej : s.span.lo + (j : Int) = ((s.span.lo.toNat + j : Nat) : Int) := by omega
    rw [if_pos (by omega), ej, range_ix (by omega), Option.bind_some, Option.bind_some, Int.toNat_natCast, range_set, Option.bind_some, addc_eq (by omega), Option.bind_some]
    congr 3
    · omega
    · apply List.map_congr_left
      intro t ht
      by_cases h : t = s.span.lo.toNat + j
      · rw [if_pos h, if_neg (by omega), if_pos (by omega)]; rw [h]
      · rw [if_neg h]
        by_cases h3 : s.span.lo ≤ (t : Int) ∧ (t : Int) < ((s.span.lo.toNat + j : Nat) : Int)
        · rw [if_pos h3, if_pos (by omega)]
        · rw [if_neg h3, if_neg (by omega)]
  · unfold ki
    simp only
    rw [if_neg (by omega)]
    congr 2
    apply List.map_congr_left
    intro t ht
    unfold stepR
    by_cases h3 : s.span.lo ≤ (t : Int) ∧ (t : Int) ≤ s.span.hi
    · rw [if_pos h3, if_pos (by omega)]
    · rw [if_neg h3, if_neg (by omega)]
theorem Zw {c : Channel} (r : Right c) : kG c = some (rchL c) := by
  have hc := r.cells
  have hs := r.sands
  unfold kG
  rw [makec_eq (by omega), Option.bind_some]
  have key := iterM_run (f := kJ c) (fun j => ⟨(j : Int), (List.range c.cells.toNat).map fun t : Nat => rchC (c.sands.take j) (t : Int)⟩) c.sands.length (b := rchL c) (fun j hj => ?_) ?_ FU (FU_lt (by omega))
  · have e : List.replicate c.cells.toNat (0 : Int) = (List.range c.cells.toNat).map fun t : Nat => rchC (c.sands.take 0) (t : Int) := by
      apply List.ext_getElem (by simp)
      intro i h1 h2
      simp [rchC]
    rw [e, show (0 : Int) = ((0 : Nat) : Int) from rfl, key]
    rfl
  · have e : c.sands.take (j + 1) = c.sands.take j ++ [c.sands[j]] := by rw [List.take_append_getElem]
    have hx : c.sands.getD j default = c.sands[j] := by simp [List.getD_eq_getElem?_getD, hj]
    have hsp := r.span c.sands[j] (List.getElem_mem hj)
    unfold kJ
    simp only
    rw [if_pos (by omega), ix_nat default hj, Option.bind_some, hx, reaches_in hsp.1 (by omega) hsp.2.2 (by omega), Option.bind_some, addc_eq (by omega), Option.bind_some]
    congr 3
    apply List.map_congr_left
    intro t _
    rw [e, rchC_snoc]
  · unfold kJ
    simp only
    rw [if_neg (by omega), List.take_length]
    rfl
theorem rchL_len {c : Channel} : (rchL c).length = c.cells.toNat := by simp [rchL]
theorem rchL_get {c : Channel} {x : Int} (h : 0 ≤ x ∧ x < c.cells) : (rchL c).getD x.toNat 0 = rchC c.sands x := by
  unfold rchL
  rw [List.getD_eq_getElem?_getD, List.getElem?_map, List.getElem?_range (by omega)]
  simp
  congr 1
  omega
theorem YM {c : Channel} (h : Few c) : qy c = some (if chk c = 0 then .inr ⟨c.cells, c.tides, rchL c⟩ else .inl (chk c)) := by
  unfold qy
  rw [Yx, Option.bind_some]
  by_cases h0 : chk c = 0
  · rw [if_pos h0, if_pos h0, Zw (chk_zero.1 h0)]; rfl
  · rw [if_neg h0, if_neg h0, if_pos h0]
end Go.Proofs.Wb

namespace Go.Proofs.Wb
open Go Go.Fw Go.Gx Go.Sb
set_option linter.unusedVariables false
set_option maxRecDepth 100000
theorem YU : ∀ {l : List Int}, l.length ≤ 3 → zX l = some (mkCells l)
  | [], _ => by decide +kernel
  | [a], _ => rfl
  | [a, b], _ => rfl
  | [a, b, c], _ => rfl
  | a :: b :: c :: d :: l, h => absurd h (by simp)
def clS (nf : Nat) (s : State) : List Int := [s.at_.c0, s.at_.c1, s.at_.c2].take nf
theorem clS_mk {l : List Int} {k : Int} (h : l.length ≤ 3) : clS l.length ⟨k, mkCells l⟩ = l := by
  unfold clS mkCells
  match l, h with
  | [], _ => rfl
  | [a], _ => rfl
  | [a, b], _ => rfl
  | [a, b, c], _ => rfl
  | a :: b :: c :: d :: l, h => exact absurd h (by simp)
theorem jai {d0 d1 : Int} {f : List Int} {a : List Sand} {b : List Sight} {r : List Int} (h : f.length ≤ 3) (s : State) : k5 d0 d1 f a b r s = some (clS f.length s) := by
  unfold k5
  rw [if_pos (by simp; omega), Int.toNat_natCast, YB (by simp; omega)]
  rfl
theorem Zi {l : List Int} (hl : l.length < 1000000) (v : Int) : kZ l v = some (decide (v ∈ l)) := by
  unfold kZ Jd
  rw [contains_loop (f := ym l v) l 0 (fun x => decide (v = x)) (by omega) (fun k hk => ?_) ?_]
  · congr 1
    rw [Bool.eq_iff_iff, List.any_eq_true, decide_eq_true_eq]
    constructor
    · rintro ⟨x, hx, he⟩
      rw [decide_eq_true_eq] at he
      subst he; exact hx
    · intro h; exact ⟨v, h, by simp⟩
  · unfold ym
    rw [if_neg (by omega)]
  · unfold ym
    rw [if_pos (by omega), ix_nat 0 hk, Option.bind_some, addc_eq (by omega), Option.bind_some]
    by_cases h : v = l.getD k 0
    · rw [if_pos h, if_pos (by simpa using h)]
    · rw [if_neg h, if_neg (by simpa using h)]
def offS (k : Int) (l : List Int) (x : Sight) : Bool := decide (x.after = k) && !(decide (x.cell ∈ l) == x.upright)
def agP (cnt : Nat → Bool) (sg : List Sight) (k : Int) (l : List Int) : Bool := !(List.range sg.length).any fun i => cnt i && offS k l (sg.getD i default)
theorem agP_iff {cnt : Nat → Bool} {sg : List Sight} {k : Int} {l : List Int} : agP cnt sg k l = true ↔ ∀ i, i < sg.length → cnt i = true → (sg.getD i default).after = k → (decide ((sg.getD i default).cell ∈ l) = (sg.getD i default).upright) := by
  unfold agP
  rw [Bool.not_eq_true', List.any_eq_false]
  simp only [List.mem_range, offS, Bool.and_eq_true, decide_eq_true_eq, Bool.not_eq_true', not_and, Bool.not_eq_false, beq_iff_eq]
theorem ZH {d0 d1 : Int} {f : List Int} {a : List Sand} {sg : List Sight} {r : List Int} (h : f.length ≤ 3) (hs : sg.length ≤ 100) (s : State) : kY d0 d1 f a sg r s = some (agP (fun _ => true) sg s.after (clS f.length s)) := by
  unfold kY
  rw [iterM_any0 (f := qx sg s d0 d1 f a r) sg.length (fun k => offS s.after (clS f.length s) (sg.getD k default)) false (fun k hk => ?_) ?_ (FU_lt (by omega)), Option.bind_some]
  · unfold agP
    simp only [Bool.true_and]
    cases (List.range sg.length).any fun k => offS s.after (clS f.length s) (sg.getD k default) <;> rfl
  · unfold qx
    rw [if_neg (by omega)]
  · unfold qx Kq
    rw [if_pos (by omega), ix_nat default hk, Option.bind_some, jai h, Option.bind_some, if_pos rfl, Option.bind_some, Zi (by unfold clS; simp; omega), Option.bind_some, addc_eq (by omega)]
    unfold offS
    by_cases h1 : (sg.getD k default).after = s.after
    · rw [if_pos h1, Option.bind_some, decide_eq_true h1, Bool.true_and]
      split <;> rfl
    · rw [if_neg h1, Option.bind_some, decide_eq_false h1, Bool.false_and]
      rfl
theorem ZZ {d0 d1 : Int} {f : List Int} {a : List Sand} {b : List Sight} {r : List Int} (h : f.length ≤ 3) : jL d0 d1 f a b r = some ⟨0, mkCells f⟩ := by
  unfold jL
  rw [YU h]; rfl
theorem jal {l : List Int} (hl : l.length < 1000000) (n : Int) : zl l n = some (decide (n ∈ l)) := by
  unfold zl
  rw [iterM_any0 (f := yn l n) l.length (fun k => decide (l.getD k 0 = n)) true (fun k hk => ?_) ?_ (FU_lt (by omega)), Option.bind_some]
  · rw [any_range (p := fun x => decide (x = n))]
    cases h : l.any fun x => decide (x = n) with
    | true =>
      obtain ⟨x, hx, he⟩ := List.any_eq_true.1 h
      rw [decide_eq_true_eq] at he
      subst he
      simp [hx]
    | false =>
      have : n ∉ l := fun hm => by
        have := List.any_eq_false.1 h n hm
        simp at this
      simp [this]
  · unfold yn
    rw [if_neg (by omega)]
  · unfold yn
    rw [if_pos (by omega), ix_nat 0 hk, Option.bind_some, addc_eq (by omega), Option.bind_some]
    by_cases h : l.getD k 0 = n
    · rw [if_pos h, if_pos (by simpa using h)]
    · rw [if_neg h, if_neg (by simpa using h)]
def bitN (n i : Nat) : Bool := decide (n / 2 ^ i % 2 = 1)
theorem refAgrees_eq {c : Channel} (hs : c.sights.length ≤ 100) {l : List Int} (hl : l.length < 1000) (k : Int) (n : Nat) (hn : n ≤ 1000000000000) : kw c k l (n : Int) = some (agP (bitN n) c.sights k l) := by
  unfold kw
  have key := iterM_find (f := qE c k l) (fun j => ⟨((n / 2 ^ j : Nat) : Int), (j : Int)⟩) c.sights.length (fun i => bitN n i && offS k l (c.sights.getD i default)) (fun _ => .inr false) (.inl ()) (fun j hj _ => ?_) ?_ (N := FU) (FU_lt (by omega))
  · simp only [Nat.pow_zero, Nat.div_one] at key
    rw [show (⟨(n : Int), 0⟩ : qB) = ⟨(n : Int), ((0 : Nat) : Int)⟩ from rfl, key, Option.bind_some]
    unfold agP
    cases hf : (List.range c.sights.length).find? (fun i => bitN n i && offS k l (c.sights.getD i default)) with
    | none =>
      have : (List.range c.sights.length).any (fun i => bitN n i && offS k l (c.sights.getD i default)) = false := by
        rw [List.any_eq_false]; intro x hx; simpa using List.find?_eq_none.1 hf x hx
      rw [this]; rfl
    | some i =>
      have h2 := List.find?_some hf
      have : (List.range c.sights.length).any (fun i => bitN n i && offS k l (c.sights.getD i default)) = true := List.any_eq_true.2 ⟨i, List.mem_of_find?_eq_some hf, h2⟩
      rw [this]; rfl
  · unfold qE
    have hdv : n / 2 ^ j ≤ n := Nat.div_le_self _ _
    have e1 : ((n / 2 ^ j : Nat) : Int).tmod 2 = ((n / 2 ^ j % 2 : Nat) : Int) := by rfl
    have e2 : ((n / 2 ^ j : Nat) : Int).tdiv 2 = ((n / 2 ^ (j + 1) : Nat) : Int) := by
      rw [Nat.pow_succ, ← Nat.div_div_eq_div_mul]; rfl
    simp only
    rw [if_pos (by omega), ix_nat default hj, Option.bind_some, remc_eq (by omega), Option.bind_some, e1, jal (by omega), Option.bind_some, quoc_eq (by omega) (by rw [e2]; have h5 : n / 2 ^ (j + 1) ≤ n := Nat.div_le_self _ _; generalize n / 2 ^ (j + 1) = q at h5 ⊢; omega), Option.bind_some, addc_eq (by omega), Option.bind_some, e2]
    unfold bitN offS
    by_cases hb : n / 2 ^ j % 2 = 1
    · rw [if_pos (by omega), decide_eq_true hb, Bool.true_and]
      by_cases ha : (c.sights.getD j default).after = k
      · rw [if_pos ha, Option.bind_some, decide_eq_true ha, Bool.true_and]
        split <;> rfl
      · rw [if_neg ha, Option.bind_some, decide_eq_false ha, Bool.false_and]
        rfl
    · rw [if_neg (by omega), Option.bind_some, decide_eq_false hb, Bool.false_and]
      rfl
  · unfold qE
    simp only
    rw [if_neg (by omega)]
theorem YR {c : Channel} (hs : c.sights.length ≤ 30) : jU c = some ((2 ^ c.sights.length - 1 : Nat) : Int) := by
  unfold jU
  have hp : ∀ j, j ≤ 30 → 2 ^ j ≤ 2 ^ 30 := fun j hj => Nat.pow_le_pow_right (by omega) hj
  have key := iterM_run (f := kK c) (fun j => ⟨((2 ^ j : Nat) : Int), (j : Int)⟩) c.sights.length (b := ((2 ^ c.sights.length : Nat) : Int)) (fun j hj => ?_) ?_ FU (FU_lt (by omega))
  · rw [show (⟨1, 0⟩ : kH) = ⟨((2 ^ 0 : Nat) : Int), ((0 : Nat) : Int)⟩ from rfl, key, Option.bind_some]
    have h1 := hp c.sights.length hs
    have h2 := Nat.one_le_two_pow (n := c.sights.length)
    rw [subc_eq (by omega), Option.bind_some]
    congr 1
    omega
  · unfold kK
    have h1 := hp j (by omega)
    simp only
    rw [if_pos (by omega), mulc_eq (by generalize 2 ^ j = q at h1 ⊢; omega), Option.bind_some, addc_eq (by omega), Option.bind_some]
    rw [Nat.pow_succ]
    generalize 2 ^ j = q
    congr 3
    omega
  · unfold kK
    simp only
    rw [if_neg (by omega)]
theorem bitN_all {n i : Nat} (h : i < n) : bitN (2 ^ n - 1) i = true := by
  unfold bitN
  rw [decide_eq_true_eq]
  have h1 : 2 ^ n = 2 ^ i * (2 * 2 ^ (n - i - 1)) := by
    rw [← Nat.pow_succ', ← Nat.pow_add]
    congr 1
    omega
  have h2 := Nat.one_le_two_pow (n := i)
  have h3 := Nat.one_le_two_pow (n := n - i - 1)
  have h4 : (2 ^ n - 1) / 2 ^ i = 2 * 2 ^ (n - i - 1) - 1 := by
    rw [h1]
    generalize 2 * 2 ^ (n - i - 1) = m at *
    have hm : 1 ≤ m := by
      rcases Nat.eq_zero_or_pos m with h0 | h0
      · rw [h0, Nat.mul_zero] at h1
        have := Nat.one_le_two_pow (n := n)
        omega
      · exact h0
    obtain ⟨q, rfl⟩ : ∃ q, m = q + 1 := ⟨m - 1, by omega⟩
    rw [Nat.mul_succ, Nat.add_sub_cancel]
    rw [show 2 ^ i * q + 2 ^ i - 1 = (2 ^ i - 1) + 2 ^ i * q by omega, Nat.add_mul_div_left _ _ (by omega), Nat.div_eq_of_lt (by omega)]
    omega
  rw [h4]
  omega
theorem agP_congr {c1 c2 : Nat → Bool} {sg : List Sight} {k : Int} {l : List Int} (h : ∀ i, i < sg.length → c1 i = c2 i) : agP c1 sg k l = agP c2 sg k l := by
  rw [Bool.eq_iff_iff, agP_iff, agP_iff]
  constructor
  · intro h1 i hi hc; exact h1 i hi (by rw [h i hi]; exact hc)
  · intro h1 i hi hc; exact h1 i hi (by rw [← h i hi]; exact hc)
end Go.Proofs.Wb

namespace Go.Proofs.Wb
open Go Go.Fw Go.Gx Go.Sb
set_option linter.unusedVariables false
set_option maxRecDepth 100000
def canB (sa : List Sand) (a b : List Int) : Bool := (List.range a.length).all fun i => inb (b.getD i (-1)) (a.getD i (-1) - rchC sa (a.getD i (-1))) (a.getD i (-1) + rchC sa (a.getD i (-1)))
def rowB (c : Channel) (l : List Int) : Bool := decide (l.length = c.fords.length) && (upB l && l.all fun x => inb x 0 (c.cells - 1))
def okAt (cnt : Nat → Bool) (c : Channel) (course : List (List Int)) (k : Nat) : Bool := rowB c (course.getD k []) && ((decide (k = 0) || canB c.sands (course.getD (k - 1) []) (course.getD k [])) && agP cnt c.sights (k : Int) (course.getD k []))
def fitB (cnt : Nat → Bool) (c : Channel) (course : List (List Int)) : Bool := decide ((course.length : Int) = c.tides + 1) && (decide (course.getD 0 [] = c.fords) && (List.range course.length).all (okAt cnt c course))
theorem rowB_iff {c : Channel} {l : List Int} : rowB c l = true ↔ l.length = c.fords.length ∧ upB l = true ∧ ∀ x ∈ l, 0 ≤ x ∧ x < c.cells := by
  unfold rowB
  simp only [Bool.and_eq_true, decide_eq_true_eq, List.all_eq_true, inb_iff]
  constructor
  · rintro ⟨h1, h2, h3⟩; exact ⟨h1, h2, fun x hx => by have := h3 x hx; omega⟩
  · rintro ⟨h1, h2, h3⟩; exact ⟨h1, h2, fun x hx => by have := h3 x hx; omega⟩
theorem Zy {a b : List Int} (hn : a.length < 1000000) : yW a b = some (decide (a = b)) := by
  unfold yW
  by_cases h : a.length = b.length
  · rw [if_pos (by omega), eq_loop 0 h hn (f := zU a b) (fun s => rfl)]
  · rw [if_neg (by omega)]
    congr 1
    symm
    rw [decide_eq_false_iff_not]
    intro e; exact h (by rw [e])
theorem getD_mem {l : List Int} {i : Nat} {d : Int} (h : i < l.length) : l.getD i d ∈ l := by
  rw [List.getD_eq_getElem?_getD, List.getElem?_eq_getElem h]
  exact List.getElem_mem h
theorem jaj {c : Channel} (hs : c.sands.length ≤ 100) (hr : ∀ s ∈ c.sands, 1 ≤ s.reach ∧ s.reach ≤ 2) {a b : List Int} (hl : a.length ≤ b.length) (hn : a.length ≤ 1000) (ha : ∀ x ∈ a, 0 ≤ x ∧ x < 1000) : zm c a b = some (canB c.sands a b) := by
  unfold zm
  have key := iterM_any0 (f := yq a c b) a.length (fun i => !inb (b.getD i (-1)) (a.getD i (-1) - rchC c.sands (a.getD i (-1))) (a.getD i (-1) + rchC c.sands (a.getD i (-1)))) false (fun k hk => by
    have h1 := ha _ (getD_mem (d := -1) hk)
    have h2 := rchC_bounds (x := a.getD k (-1)) hr
    unfold yq
    rw [if_pos (by omega), ix_nat (-1) hk, Option.bind_some, refReach_eq hs, Option.bind_some, ix_nat (-1) (by omega), Option.bind_some, Option.bind_some, subc_eq (by omega), Option.bind_some, Option.bind_some, addc_eq (by omega), Option.bind_some, JB, Option.bind_some, addc_eq (by omega), Option.bind_some]
    split <;> rfl) (by unfold yq; rw [if_neg (by omega)]) (N := FU) (FU_lt (by omega))
  rw [key, Option.bind_some]
  unfold canB
  rw [← not_any_not]
  cases (List.range a.length).any fun i => !inb (b.getD i (-1)) (a.getD i (-1) - rchC c.sands (a.getD i (-1))) (a.getD i (-1) + rchC c.sands (a.getD i (-1))) <;> rfl
theorem row_any {c : Channel} {l : List Int} : ((List.range l.length).any fun k => !inb (l.getD k (-1)) 0 (c.cells - 1) || (decide (0 < k) && decide (l.getD k (-1) ≤ l.getD (k - 1) (-1)))) = !(upB l && l.all fun x => inb x 0 (c.cells - 1)) := by
  rw [Bool.eq_iff_iff, Bool.not_eq_true', List.any_eq_true]
  constructor
  · rintro ⟨k, hk, h⟩
    rw [Bool.and_eq_false_iff]
    rw [Bool.or_eq_true] at h
    rcases h with h | h
    · right
      rw [List.all_eq_false]
      exact ⟨_, getD_mem (d := -1) (by simpa using hk), by simpa using h⟩
    · left
      rw [Bool.and_eq_true, decide_eq_true_eq, decide_eq_true_eq] at h
      cases hu : upB l with
      | false => rfl
      | true =>
        have := upB_ix.1 hu (k - 1) (by have : k < l.length := by simpa using hk
                                        omega)
        rw [show k - 1 + 1 = k by omega] at this
        omega
  · intro h
    rw [Bool.and_eq_false_iff] at h
    rcases h with h | h
    · have h2 : ¬ upB l = true := by rw [h]; decide
      rw [upB_ix] at h2
      have h3 : ∃ i, i + 1 < l.length ∧ ¬ l.getD i (-1) < l.getD (i + 1) (-1) := by
        by_cases hq : ∃ i, i + 1 < l.length ∧ ¬ l.getD i (-1) < l.getD (i + 1) (-1)
        · exact hq
        · exact absurd (fun i hi => by
            by_cases h4 : l.getD i (-1) < l.getD (i + 1) (-1)
            · exact h4
            · exact absurd ⟨i, hi, h4⟩ hq) h2
      obtain ⟨i, hi, h4⟩ := h3
      refine ⟨i + 1, by simpa using hi, ?_⟩
      rw [Bool.or_eq_true]
      right
      rw [Bool.and_eq_true, decide_eq_true_eq, decide_eq_true_eq, Nat.add_sub_cancel]
      omega
    · rw [List.all_eq_false] at h
      obtain ⟨x, hx, h⟩ := h
      obtain ⟨k, hk, rfl⟩ := List.getElem_of_mem hx
      refine ⟨k, by simpa using hk, ?_⟩
      rw [Bool.or_eq_true]
      left
      simpa [List.getD_eq_getElem?_getD, hk] using h
theorem row_loop {c : Channel} (hc : 2 ≤ c.cells ∧ c.cells ≤ 10) {l : List Int} (hl : l.length ≤ 100) : iterM FU (qm l c) 0 = some (if (upB l && l.all fun x => inb x 0 (c.cells - 1)) = true then .inl () else .inr false) := by
  have key := iterM_any0 (f := qm l c) l.length (fun k => !inb (l.getD k (-1)) 0 (c.cells - 1) || (decide (0 < k) && decide (l.getD k (-1) ≤ l.getD (k - 1) (-1)))) false (fun k hk => by
    unfold qm
    rw [if_pos (by omega), ix_nat (-1) hk, Option.bind_some, subc_eq (by omega), Option.bind_some, JB, Option.bind_some, addc_eq (by omega)]
    cases hb : inb (l.getD k (-1)) 0 (c.cells - 1) with
    | false => rfl
    | true =>
      simp only [Bool.not_true, Bool.false_eq_true, if_false, Bool.false_or]
      by_cases h0 : 0 < k
      · rw [if_pos (by omega), Option.bind_some, subc_eq (by omega), Option.bind_some, show (k : Int) - 1 = ((k - 1 : Nat) : Int) by omega, ix_nat (-1) (by omega), Option.bind_some, Option.bind_some, decide_eq_true h0, Bool.true_and]
        split <;> rfl
      · rw [if_neg (by omega), decide_eq_false h0, Bool.false_and]
        rfl) (by unfold qm; rw [if_neg (by omega)]) (N := FU) (FU_lt (by omega))
  rw [key, row_any]
  cases (upB l && l.all fun x => inb x 0 (c.cells - 1)) <;> rfl
theorem refFits_eq {c : Channel} (r : Right c) {course : List (List Int)} (hn : course.length ≤ 100) (hl : ∀ l ∈ course, l.length ≤ 100) : yd c course = some (fitB (fun _ => true) c course) := by
  have hc := r.cells
  have ht := r.tides
  have hf := r.fords
  have hs := r.sights
  have hsa := r.sands
  unfold yd fitB
  rw [addc_eq (by omega), Option.bind_some]
  by_cases h1 : (course.length : Int) = c.tides + 1
  · have hg : ∀ k, k < course.length → (course.getD k []).length ≤ 100 := fun k hk => hl _ (by rw [List.getD_eq_getElem?_getD, List.getElem?_eq_getElem hk]; exact List.getElem_mem hk)
    rw [if_pos h1, show (0 : Int) = ((0 : Nat) : Int) from rfl, ix_nat [] (by omega), Option.bind_some, Zy (by have := hg 0 (by omega); omega), Option.bind_some, Option.bind_some, not_true_if, decide_eq_true h1, Bool.true_and]
    by_cases h2 : course.getD 0 [] = c.fords
    · rw [if_pos (by simpa using h2), decide_eq_true h2, Bool.true_and]
      have key := iterM_find (f := q9 course c) (fun j => (j : Int)) course.length (fun k => !okAt (fun _ => true) c course k) (fun _ => .inr false) (.inl ()) (fun k hk hb => ?_) ?_ (N := FU) (FU_lt (by omega))
      · rw [key, Option.bind_some]
        rw [← not_any_not]
        cases hq : (List.range course.length).find? (fun k => !okAt (fun _ => true) c course k) with
        | none =>
          have : (List.range course.length).any (fun k => !okAt (fun _ => true) c course k) = false := by
            rw [List.any_eq_false]; intro x hx; exact List.find?_eq_none.1 hq x hx
          rw [this]; rfl
        | some k =>
          have h3 := List.find?_some hq
          have : (List.range course.length).any (fun k => !okAt (fun _ => true) c course k) = true := List.any_eq_true.2 ⟨k, List.mem_of_find?_eq_some hq, h3⟩
          rw [this]; rfl
      · unfold q9 okAt rowB
        rw [if_pos (by omega), ix_nat [] hk, Option.bind_some, row_loop hc (hg k hk), addc_eq (by omega)]
        by_cases h4 : (course.getD k []).length = c.fords.length
        · rw [if_pos (by omega), decide_eq_true h4, Bool.true_and, Option.bind_some]
          cases h5 : (upB (course.getD k []) && (course.getD k []).all fun x => inb x 0 (c.cells - 1)) with
          | false => rfl
          | true =>
            simp only [if_true, oc_inl, Bool.true_and]
            have hag : (jU c).bind (fun t => kw c (k : Int) (course.getD k []) t) = some (agP (fun _ => true) c.sights (k : Int) (course.getD k [])) := by
              have h6 : 2 ^ c.sights.length ≤ 2 ^ 8 := Nat.pow_le_pow_right (by omega) hs
              rw [YR (by omega), Option.bind_some, refAgrees_eq (by omega) (by have := hg k hk; omega) _ _ (by generalize 2 ^ c.sights.length = q at h6 ⊢; omega), agP_congr (fun i hi => bitN_all hi)]
            have hag2 : ((jU c).bind fun t => (kw c (k : Int) (course.getD k []) t).bind fun t88 => some (!t88)) = some (!agP (fun _ => true) c.sights (k : Int) (course.getD k [])) := by
              rw [← Option.bind_assoc, hag]; rfl
            rw [hag2]
            by_cases h0 : 0 < k
            · have hp := hb (k - 1) (by omega)
              rw [Bool.not_eq_false'] at hp
              unfold okAt at hp
              rw [Bool.and_eq_true, rowB_iff] at hp
              obtain ⟨⟨p1, p2, p3⟩, _⟩ := hp
              rw [if_pos (by omega), subc_eq (by omega), Option.bind_some, show (k : Int) - 1 = ((k - 1 : Nat) : Int) by omega, ix_nat [] (by omega), Option.bind_some, jaj (by omega) r.reach (by omega) (by omega) (fun x hx => by have := p3 x hx; omega), Option.bind_some, decide_eq_false (by omega), Bool.false_or, not_true_if]
              cases canB c.sands (course.getD (k - 1) []) (course.getD k []) with
              | false => rfl
              | true =>
                rw [if_pos rfl, Option.bind_some, Bool.true_and]
                cases agP (fun _ => true) c.sights (k : Int) (course.getD k []) <;> rfl
            · rw [if_neg (by omega), Option.bind_some, decide_eq_true (by omega), Bool.true_or, Bool.true_and]
              cases agP (fun _ => true) c.sights (k : Int) (course.getD k []) <;> rfl
        · rw [if_neg (by omega), decide_eq_false h4, Bool.false_and]
          rfl
      · unfold q9
        rw [if_neg (by omega)]
    · rw [if_neg (by simpa using h2), decide_eq_false h2, Bool.false_and]
  · rw [if_neg h1, Option.bind_some, if_pos rfl, decide_eq_false h1, Bool.false_and]
end Go.Proofs.Wb

namespace Go.Proofs.Wb
open Go Go.Fw Go.Gx Go.Sb
set_option linter.unusedVariables false
set_option maxRecDepth 100000
theorem cGet_mk {l : List Int} {i : Nat} (h : i < 3) : cGet (mkCells l) i = l.getD i (-1) := by
  have : i = 0 ∨ i = 1 ∨ i = 2 := by omega
  rcases this with rfl | rfl | rfl <;> rfl
theorem rch_eq {c : Channel} {x : Int} (h : 0 ≤ x ∧ x < c.cells) : rch (rchL c) x = rchC c.sands x := rchL_get h
theorem nextOK_of {c : Channel} (r : Right c) {a : List Int} (ha : rowB c a = true) {k : Int} (hk : -1000 ≤ k ∧ k ≤ 1000) : nextOK c.cells (rchL c) (c.fords.length : Int) ⟨k, mkCells a⟩ := by
  obtain ⟨h1, h2, h3⟩ := rowB_iff.1 ha
  have hc := r.cells
  have hf := r.fords
  refine ⟨by omega, by omega, hk.1, hk.2, fun i hi => ?_⟩
  rw [Int.toNat_natCast] at hi
  simp only
  rw [cGet_mk (by omega)]
  have h4 := h3 _ (getD_mem (l := a) (i := i) (d := -1) (by omega))
  have h5 := rchC_bounds (x := a.getD i (-1)) r.reach
  rw [rchL_get h4, rchL_len]
  omega
theorem can_iff {c : Channel} (r : Right c) {a l : List Int} (ha : rowB c a = true) (hl : rowB c l = true) : canB c.sands a l = true ↔ CanS c.cells (rchL c) c.fords.length (mkCells a) l := by
  obtain ⟨a1, a2, a3⟩ := rowB_iff.1 ha
  obtain ⟨l1, l2, l3⟩ := rowB_iff.1 hl
  have hf := r.fords
  unfold canB
  simp only [List.all_eq_true, List.mem_range, inb_iff]
  constructor
  · intro h
    refine ⟨l1, fun i hi => l3 _ (getD_mem (by omega)), fun i hi => ?_, fun i hi => upB_ix.1 l2 i (by omega)⟩
    rw [cGet_mk (by omega), rch_eq (a3 _ (getD_mem (by omega)))]
    exact h i (by omega)
  · intro h i hi
    have := h.near i (by omega)
    rw [cGet_mk (by omega), rch_eq (a3 _ (getD_mem (by omega)))] at this
    exact this
theorem next_any {c : Channel} (r : Right c) {a l : List Int} (ha : rowB c a = true) (hl : rowB c l = true) (k : Int) : ((nextL c.cells (rchL c) (c.fords.length : Int) ⟨k, mkCells a⟩).any fun x => decide (x.at_ = mkCells l)) = canB c.sands a l := by
  have hc := r.cells
  have hf := r.fords
  obtain ⟨l1, l2, l3⟩ := rowB_iff.1 hl
  rw [Bool.eq_iff_iff, List.any_eq_true, can_iff r ha hl]
  constructor
  · rintro ⟨t, ht, he⟩
    rw [decide_eq_true_eq] at he
    obtain ⟨l', h1, rfl⟩ := (mem_nextL (by omega)).1 ht
    rw [Int.toNat_natCast] at h1
    have := mkCells_inj (l := l') (m := l) (by rw [h1.len, l1]) (by rw [h1.len]; omega) he
    rw [← this]
    exact h1
  · intro h
    refine ⟨⟨k + 1, mkCells l⟩, (mem_nextL (by omega)).2 ⟨l, ?_, rfl⟩, by simp⟩
    rw [Int.toNat_natCast]
    exact h
theorem iterL_or {α : Type} (p : α → Bool) {f : α → Bool → Option Bool} (hf : ∀ x s, f x s = if s = true then some true else some (p x)) : ∀ (l : List α) (b : Bool), iterL f l b = some (b || l.any p)
  | [], b => by simp [iterL]
  | x :: l, b => by
    rw [iterL, hf]
    cases b with
    | true => rw [if_pos rfl, Option.bind_some, iterL_or p hf l]; rfl
    | false =>
      rw [if_neg (by decide), Option.bind_some, iterL_or p hf l, List.any_cons]
      rfl
theorem ZN {c : Channel} (r : Right c) {course : List (List Int)} (hn : course.length ≤ 100) (hl : ∀ l ∈ course, l.length ≤ 100) : yo course c.cells c.tides c.fords c.sands c.sights = some (course.all (rowB c)) := by
  have hc := r.cells
  have := any_loop course default (fun x => qM x c.cells c.tides c.fords c.sands c.sights) (fun x => !rowB c x) (by omega) (fun x hx => by
    have hx' := hl x hx
    unfold qM J2 rowB
    rw [YV (by omega), YS (c := ⟨c.cells, c.tides, c.fords, c.sands, c.sights⟩) (by simp only; omega) (by omega)]
    simp only [Option.bind_some]
    by_cases h : x.length = c.fords.length
    · rw [if_pos (by omega), decide_eq_true h]
      cases upB x <;> rfl
    · rw [if_neg (by omega), decide_eq_false h]
      rfl) (f := yO course c.cells c.tides c.fords c.sands c.sights) (fun s => rfl)
  unfold yo qI yt
  rw [this, Option.bind_some, not_any_not]
def nowS (c : Channel) (course : List (List Int)) (k : Nat) : State := if k = 0 then ⟨0, mkCells c.fords⟩ else ⟨(k : Int) - 1, mkCells (course.getD (k - 1) [])⟩
theorem Z6 {c : Channel} (h0 : Few c) {course : List (List Int)} (hn : course.length ≤ 100) (hl : ∀ l ∈ course, l.length ≤ 100) : Kb c course = some (if chk c = 0 then ⟨fitB (fun _ => true) c course, 0⟩ else ⟨false, chk c⟩) := by
  unfold Kb
  rw [YM h0, Option.bind_some]
  by_cases hk : chk c = 0
  · rw [if_pos hk, if_pos hk, oc_inr]
    have r := chk_zero.1 hk
    have hc := r.cells
    have ht := r.tides
    have hf := r.fords
    have hs := r.sights
    have hsa := r.sands
    rw [addc_eq (by omega), Option.bind_some]
    unfold fitB
    by_cases h1 : (course.length : Int) = c.tides + 1
    · rw [if_pos h1, ZN r hn hl, Option.bind_some, Option.bind_some, decide_eq_true h1, Bool.true_and]
      by_cases h2 : course.all (rowB c) = true
      · have hrow : ∀ k, k < course.length → rowB c (course.getD k []) = true := fun k hk => List.all_eq_true.1 h2 _ (by rw [List.getD_eq_getElem?_getD, List.getElem?_eq_getElem hk]; exact List.getElem_mem hk)
        have hlen : ∀ k, k < course.length → (course.getD k []).length = c.fords.length := fun k hk => (rowB_iff.1 (hrow k hk)).1
        rw [h2, if_neg (by decide), ZZ (by omega), Option.bind_some]
        have hfr : rowB c c.fords = true := rowB_iff.2 ⟨rfl, r.up, r.fcell⟩
        have key := iterM_find (f := zz course ⟨c.cells, c.tides, rchL c⟩ c) (fun j => ⟨(j : Int), (nowS c course j).after, (nowS c course j).at_.c0, (nowS c course j).at_.c1, (nowS c course j).at_.c2⟩) course.length (fun k => !((if k = 0 then decide (course.getD 0 [] = c.fords) else canB c.sands (course.getD (k - 1) []) (course.getD k [])) && agP (fun _ => true) c.sights (k : Int) (course.getD k []))) (fun _ => .inr ⟨false, 0⟩) (.inl ⟨(nowS c course course.length).after, (nowS c course course.length).at_.c0, (nowS c course course.length).at_.c1, (nowS c course course.length).at_.c2⟩) (fun k hk hb => ?_) ?_ (N := FU) (FU_lt (by omega))
        · rw [show (⟨0, 0, (mkCells c.fords).c0, (mkCells c.fords).c1, (mkCells c.fords).c2⟩ : m_branch_Fits_S0) = ⟨((0 : Nat) : Int), (nowS c course 0).after, (nowS c course 0).at_.c0, (nowS c course 0).at_.c1, (nowS c course 0).at_.c2⟩ from rfl, key, Option.bind_some]
          have e : (decide (course.getD 0 [] = c.fords) && (List.range course.length).all (okAt (fun _ => true) c course)) = !((List.range course.length).any fun k => !((if k = 0 then decide (course.getD 0 [] = c.fords) else canB c.sands (course.getD (k - 1) []) (course.getD k [])) && agP (fun _ => true) c.sights (k : Int) (course.getD k []))) := by
            rw [not_any_not, Bool.eq_iff_iff, Bool.and_eq_true, decide_eq_true_eq, List.all_eq_true, List.all_eq_true]
            constructor
            · rintro ⟨q1, q2⟩ k hk
              have hk' : k < course.length := by simpa using hk
              have q3 := q2 k hk
              unfold okAt at q3
              simp only [Bool.and_eq_true, Bool.or_eq_true, decide_eq_true_eq] at q3
              rw [Bool.and_eq_true]
              refine ⟨?_, q3.2.2⟩
              by_cases h0 : k = 0
              · rw [if_pos h0]; simpa using q1
              · rw [if_neg h0]; exact q3.2.1.resolve_left h0
            · intro q
              have q0 := q 0 (by simp; omega)
              rw [if_pos rfl, Bool.and_eq_true, decide_eq_true_eq] at q0
              refine ⟨q0.1, fun k hk => ?_⟩
              have hk' : k < course.length := by simpa using hk
              have q1 := q k hk
              unfold okAt
              rw [hrow k hk', Bool.true_and]
              by_cases h0 : k = 0
              · rw [if_pos h0, Bool.and_eq_true] at q1
                rw [decide_eq_true h0, Bool.true_or, Bool.true_and]
                exact q1.2
              · rw [if_neg h0] at q1
                rw [decide_eq_false h0, Bool.false_or]
                exact q1
          rw [e]
          cases hq : (List.range course.length).find? (fun k => !((if k = 0 then decide (course.getD 0 [] = c.fords) else canB c.sands (course.getD (k - 1) []) (course.getD k [])) && agP (fun _ => true) c.sights (k : Int) (course.getD k []))) with
          | none =>
            have : (List.range course.length).any (fun k => !((if k = 0 then decide (course.getD 0 [] = c.fords) else canB c.sands (course.getD (k - 1) []) (course.getD k [])) && agP (fun _ => true) c.sights (k : Int) (course.getD k []))) = false := by
              rw [List.any_eq_false]; intro x hx; exact List.find?_eq_none.1 hq x hx
            rw [this]; rfl
          | some k =>
            have h3 := List.find?_some hq
            have : (List.range course.length).any (fun k => !((if k = 0 then decide (course.getD 0 [] = c.fords) else canB c.sands (course.getD (k - 1) []) (course.getD k [])) && agP (fun _ => true) c.sights (k : Int) (course.getD k []))) = true := List.any_eq_true.2 ⟨k, List.mem_of_find?_eq_some hq, h3⟩
            rw [this]; rfl
        · unfold zz
          simp only
          rw [if_pos (by omega), ix_nat [] hk, Option.bind_some, YU (by rw [hlen k hk]; omega), Option.bind_some]
          have hag : ((zV).bind fun t73 => (kY c.cells c.tides c.fords c.sands c.sights (rchL c) (⟨(k : Int), mkCells (course.getD k [])⟩ : State)).bind fun t75 => some (!t75)) = some (!agP (fun _ => true) c.sights (k : Int) (course.getD k [])) := by
            unfold zV
            rw [Option.bind_some, ZH (by omega) (by omega), Option.bind_some]
            simp only
            rw [show clS c.fords.length ⟨(k : Int), mkCells (course.getD k [])⟩ = course.getD k [] by rw [← hlen k hk]; exact clS_mk (by rw [hlen k hk]; omega)]
          rw [hag]
          have hnow : (⟨((k + 1 : Nat) : Int), (nowS c course (k + 1)).after, (nowS c course (k + 1)).at_.c0, (nowS c course (k + 1)).at_.c1, (nowS c course (k + 1)).at_.c2⟩ : m_branch_Fits_S0) = ⟨(k : Int) + 1, (k : Int), (mkCells (course.getD k [])).c0, (mkCells (course.getD k [])).c1, (mkCells (course.getD k [])).c2⟩ := by
            unfold nowS
            rw [if_neg (by omega)]
            simp only [Nat.add_sub_cancel, m_branch_Fits_S0.mk.injEq, and_true]
            push_cast
            omega
          by_cases h0 : k = 0
          · subst h0
            rw [if_pos (by omega), Option.bind_some, if_neg (by omega), Option.bind_some, if_pos rfl]
            have e2 : decide ((⟨((0 : Nat) : Int), mkCells (course.getD 0 [])⟩ : State) = ⟨(nowS c course 0).after, (⟨(nowS c course 0).at_.c0, (nowS c course 0).at_.c1, (nowS c course 0).at_.c2⟩ : Cells)⟩) = decide (course.getD 0 [] = c.fords) := by
              rw [Bool.eq_iff_iff, decide_eq_true_eq, decide_eq_true_eq]
              unfold nowS
              rw [if_pos rfl]
              constructor
              · intro hq
                injection hq with _ hq
                exact mkCells_inj (hlen 0 hk) (by rw [hlen 0 hk]; omega) hq
              · intro hq; rw [hq]; rfl
            rw [e2, addc_eq (by omega), Option.bind_some, not_true_if]
            cases decide (course.getD 0 [] = c.fords) with
            | false => rfl
            | true =>
              rw [if_pos rfl, Option.bind_some, Bool.true_and]
              cases agP (fun _ => true) c.sights ((0 : Nat) : Int) (course.getD 0 []) with
              | false => rfl
              | true =>
                simp only [Bool.not_true, Bool.false_eq_true, if_false]
                rw [hnow]
          · have hpr := hrow (k - 1) (by omega)
            have hnx : (⟨(nowS c course k).after, (⟨(nowS c course k).at_.c0, (nowS c course k).at_.c1, (nowS c course k).at_.c2⟩ : Cells)⟩ : State) = ⟨(k : Int) - 1, mkCells (course.getD (k - 1) [])⟩ := by
              unfold nowS
              rw [if_neg h0]
            rw [if_neg (by omega), Option.bind_some, if_pos (by omega), hnx]
            unfold k7
            rw [Option.bind_some, if_pos (nextOK_of r hpr (by omega)), iterL_or (fun x : State => decide (x.at_ = mkCells (course.getD k []))) (f := Kx (mkCells (course.getD k []))) (fun x s => rfl), Option.bind_some, Option.bind_some, Bool.false_or, next_any r hpr (hrow k hk), if_neg h0, addc_eq (by omega), Option.bind_some, not_true_if]
            cases canB c.sands (course.getD (k - 1) []) (course.getD k []) with
            | false => rfl
            | true =>
              rw [if_pos rfl, Option.bind_some, Bool.true_and]
              cases agP (fun _ => true) c.sights (k : Int) (course.getD k []) with
              | false => rfl
              | true =>
                simp only [Bool.not_true, Bool.false_eq_true, if_false]
                rw [hnow]
        · unfold zz
          simp only
          rw [if_neg (by omega)]
      · have h3 : course.all (rowB c) = false := by simpa using h2
        rw [h3, if_pos (by decide)]
        congr 2
        symm
        rw [Bool.and_eq_false_iff]
        right
        rw [List.all_eq_false] at h3
        obtain ⟨l, hl', hb⟩ := h3
        obtain ⟨k, hk', rfl⟩ := List.getElem_of_mem hl'
        rw [List.all_eq_false]
        refine ⟨k, by simpa using hk', ?_⟩
        unfold okAt
        have e : course.getD k [] = course[k] := by simp [List.getD_eq_getElem?_getD, hk']
        rw [e]
        simp [hb]
    · rw [if_neg h1, Option.bind_some, if_pos rfl, decide_eq_false h1, Bool.false_and]
  · rw [if_neg hk, if_neg hk, oc_inl]
end Go.Proofs.Wb

namespace Go.Proofs.Wb
open Go Go.Fw Go.Gx Go.Sb
set_option maxRecDepth 100000
theorem awake_true : qY = some true := by decide +kernel
end Go.Proofs.Wb

namespace Go.Proofs.Wb
open Go Go.Fw Go.Gx Go.Sb
set_option linter.unusedVariables false
set_option maxRecDepth 100000
theorem ZY {c : Channel} (h : Few c) (x : Int) : zD c x = some (if chk c = 0 then (if inb x 0 (c.cells - 1) = true then ⟨rchC c.sands x, 0⟩ else ⟨0, 1⟩) else ⟨0, chk c⟩) := by
  unfold zD
  rw [YM h, Option.bind_some]
  by_cases h0 : chk c = 0
  · have r := chk_zero.1 h0
    have hc := r.cells
    rw [if_pos h0, if_pos h0, oc_inr, Qc (by omega), Option.bind_some, not_true_if]
    by_cases h1 : inb x 0 (c.cells - 1) = true
    · have h2 := inb_iff.1 h1
      rw [if_pos h1, if_pos h1, ix_eq 0 h2.1 (by rw [rchL_len]; omega), Option.bind_some, rchL_get (by omega)]
    · rw [if_neg h1, if_neg h1]
  · rw [if_neg h0, if_neg h0, oc_inl]
theorem ZV {c : Channel} (h : Few c) (s : Sight) : k8 c s = some { c with sights := c.sights ++ [s] } := by
  obtain ⟨h1, h2, h3⟩ := h
  unfold k8 kP
  rw [YB (by omega), Option.bind_some, appc_eq (by simp; omega), Option.bind_some, Option.bind_some, addc_eq (by omega), Option.bind_some, makec_eq (by omega), Option.bind_some, if_pos (by simp), Option.bind_some]
  have e : (List.replicate (c.sights.length : Int).toNat (⟨0, 0, false⟩ : Sight)).drop c.sights.length = [] := List.drop_eq_nil_of_le (by simp)
  rw [e, List.append_nil, appc_eq (by simp; omega), Option.bind_some]
  rfl
def zeroC : Channel := ⟨0, 0, [], [], []⟩
theorem Z9 {c : Channel} (h : Few c) (s : Sight) : Ja c s = some (if chk c = 0 then (if c.sights.length = 8 then ⟨zeroC, 2⟩ else if inb s.after 0 c.tides = true then (if inb s.cell 0 (c.cells - 1) = true then ⟨{ c with sights := c.sights ++ [s] }, 0⟩ else ⟨zeroC, 1⟩) else ⟨zeroC, 3⟩) else ⟨zeroC, chk c⟩) := by
  unfold Ja
  rw [Yx, Option.bind_some]
  by_cases h0 : chk c = 0
  · have r := chk_zero.1 h0
    have hc := r.cells
    rw [if_pos h0, if_pos h0]
    by_cases h1 : c.sights.length = 8
    · rw [if_pos (by omega), if_pos h1]; rfl
    · rw [if_neg (by omega), if_neg h1, Y6, Option.bind_some, not_true_if]
      by_cases h2 : inb s.after 0 c.tides = true
      · rw [if_pos h2, if_pos h2, Qc (by omega), Option.bind_some, not_true_if]
        by_cases h3 : inb s.cell 0 (c.cells - 1) = true
        · rw [if_pos h3, if_pos h3, ZV h, Option.bind_some]
        · rw [if_neg h3, if_neg h3]; rfl
      · rw [if_neg h2, if_neg h2]; rfl
  · rw [if_neg h0, if_neg h0]; rfl
theorem Zv {l : List (List Int)} (hn : l.length ≤ 100) (hl : ∀ x ∈ l, x.length ≤ 100) : zY l = some l := by
  unfold zY
  rw [makec_eq (by omega), Option.bind_some]
  have key := iterM_run (f := y7 l) (fun j => ⟨(j : Int), l.take j⟩) l.length (b := l) (fun j hj => ?_) ?_ FU (FU_lt (by omega))
  · rw [show (⟨0, List.replicate (0 : Int).toNat []⟩ : yZ) = ⟨((0 : Nat) : Int), l.take 0⟩ from rfl, key]; rfl
  · have e : l.take (j + 1) = l.take j ++ [l[j]] := by rw [List.take_append_getElem]
    have hx : l.getD j default = l[j] := by simp [List.getD_eq_getElem?_getD, hj]
    have := hl l[j] (List.getElem_mem hj)
    unfold y7
    simp only
    rw [if_pos (by omega), ix_nat default hj, Option.bind_some, hx, Ze (by omega), Option.bind_some, appc_eq (by simp; omega), Option.bind_some, addc_eq (by omega), Option.bind_some, e]
    rfl
  · unfold y7
    simp only
    rw [if_neg (by omega), List.take_length]
theorem ZE {l : List (List Int)} (hn : l.length ≤ 100) (hl : ∀ x ∈ l, x.length ≤ 100) : Jv l l = some true := by
  unfold Jv qs
  rw [if_pos rfl]
  have key := iterM_any0 (f := kl l l) l.length (fun _ => false) false (fun k hk => by
    have hx : l.getD k default = l[k] := by simp [List.getD_eq_getElem?_getD, hk]
    have := hl l[k] (List.getElem_mem hk)
    have he := Y7 (a := l[k]) (b := l[k]) (by omega)
    unfold z6 at he
    have he2 : qP l[k] l[k] = some true := by
      cases h : qP l[k] l[k] with
      | none => rw [h] at he; exact absurd he (by simp)
      | some b => rw [h, Option.bind_some] at he; simpa using he
    unfold kl
    rw [if_pos (by omega), ix_nat default hk, Option.bind_some, Option.bind_some, hx, he2, Option.bind_some, addc_eq (by omega)]
    rfl) (by unfold kl; rw [if_neg (by omega)]) (N := FU) (FU_lt (by omega))
  have : ((List.range l.length).any fun _ => false) = false := by rw [List.any_eq_false]; intro x _; simp
  rw [key, this]
  rfl
theorem Z0 (c : Channel) : yA c = some (decide (10 < c.fords.length ∨ 10 < c.sands.length ∨ 14 < c.sights.length)) := by
  unfold yA
  by_cases h1 : 10 < c.fords.length
  · rw [if_pos (by omega), Option.bind_some, decide_eq_true (.inl h1)]
  · rw [if_neg (by omega)]
    by_cases h2 : 10 < c.sands.length
    · rw [if_pos (by omega), Option.bind_some, decide_eq_true (.inr (.inl h2))]
    · rw [if_neg (by omega), Option.bind_some]
      congr 1
      rw [Bool.eq_iff_iff, decide_eq_true_eq, decide_eq_true_eq]
      omega
theorem few_of {c : Channel} (h : ¬ (10 < c.fords.length ∨ 10 < c.sands.length ∨ 14 < c.sights.length)) : Few c := ⟨by omega, by omega, by omega⟩
def uE (c : Channel) (x : Int) : Int := if chk c = 0 then (if inb x 0 (c.cells - 1) = true then 0 else 1) else chk c
def rE (c : Channel) (x : Int) : Int := if uE c x = 0 then rchC c.sands x else 0
theorem ZL {c : Channel} (h : Few c) (x : Int) : zD c x = some ⟨rE c x, uE c x⟩ := by
  rw [ZY h]
  unfold rE uE
  by_cases h0 : chk c = 0
  · by_cases h1 : inb x 0 (c.cells - 1) = true
    · simp [h0, h1]
    · simp [h0, h1]
  · simp [h0]
theorem chA (c : Channel) (x : Int) : ((if chk c = 0 then (if x < 0 then (some true) else (some (decide (c.cells ≤ x)))) else (some false)).bind fun o_5 => if o_5 = true then (some 1) else (some (chk c))) = some (uE c x) := by
  unfold uE inb
  by_cases h0 : chk c = 0
  · rw [if_pos h0, if_pos h0]
    by_cases h1 : x < 0
    · rw [if_pos h1, Option.bind_some, if_pos rfl, if_neg (by simp; omega)]
    · rw [if_neg h1, Option.bind_some]
      by_cases h2 : c.cells ≤ x
      · rw [if_pos (by simpa using h2), if_neg (by simp; omega)]
      · rw [if_neg (by simpa using h2), if_pos (by simp; omega), h0]
  · rw [if_neg h0, if_neg h0]; rfl
theorem chB {c : Channel} (h : Few c) (x : Int) : (if uE c x = 0 then ((qh c x).bind fun t91 => some t91) else (some 0)) = some (rE c x) := by
  unfold rE
  obtain ⟨_, h2, _⟩ := h
  rw [refReach_eq (by omega)]
  split <;> rfl
def vE (c : Channel) (s : Sight) : Int := if chk c = 0 then (if c.sights.length = 8 then 2 else if inb s.after 0 c.tides = true then (if inb s.cell 0 (c.cells - 1) = true then 0 else 1) else 3) else chk c
def wE (c : Channel) (s : Sight) : Channel := if vE c s = 0 then { c with sights := c.sights ++ [s] } else zeroC
theorem ZW {c : Channel} (h : Few c) (s : Sight) : Ja c s = some ⟨wE c s, vE c s⟩ := by
  rw [Z9 h]
  unfold wE vE
  by_cases h0 : chk c = 0
  · by_cases h1 : c.sights.length = 8
    · simp [h0, h1]
    · by_cases h2 : inb s.after 0 c.tides = true
      · by_cases h3 : inb s.cell 0 (c.cells - 1) = true
        · simp [h0, h1, h2, h3]
        · simp [h0, h1, h2, h3]
      · simp [h0, h1, h2]
  · simp [h0]
theorem chD (c : Channel) (s : Sight) : (if chk c = 0 then
 (if (c.sights.length : Int) = 8 then
 (some 2) else
 ((if s.after < 0 then
 (some true) else
 (some (decide (c.tides < s.after)))).bind fun o_9 =>
 if o_9 = true then
 (some 3) else
 ((if s.cell < 0 then
 (some true) else
 (some (decide (c.cells ≤ s.cell)))).bind fun o_10 =>
 if o_10 = true then
 (some 1) else
 (some (chk c))))) else
 (some (chk c))) = some (vE c s) := by
  unfold vE inb
  by_cases h0 : chk c = 0
  · rw [if_pos h0, if_pos h0]
    by_cases h8 : c.sights.length = 8
    · rw [if_pos (by omega), if_pos h8]
    · rw [if_neg (by omega), if_neg h8]
      have e2 : ((if s.after < 0 then (some true) else (some (decide (c.tides < s.after)))) : Option Bool) = some (!(decide (0 ≤ s.after) && decide (s.after ≤ c.tides))) := by
        by_cases hq : s.after < 0
        · rw [if_pos hq]
          congr 1
          rw [Bool.eq_iff_iff]; simp; omega
        · rw [if_neg hq]
          congr 1
          rw [Bool.eq_iff_iff]; simp; omega
      have e3 : ((if s.cell < 0 then (some true) else (some (decide (c.cells ≤ s.cell)))) : Option Bool) = some (!(decide (0 ≤ s.cell) && decide (s.cell ≤ c.cells - 1))) := by
        by_cases hq : s.cell < 0
        · rw [if_pos hq]
          congr 1
          rw [Bool.eq_iff_iff]; simp; omega
        · rw [if_neg hq]
          congr 1
          rw [Bool.eq_iff_iff]; simp; omega
      rw [e2, Option.bind_some, e3, Option.bind_some, not_true_if, not_true_if, h0]
      cases (decide (0 ≤ s.after) && decide (s.after ≤ c.tides)) <;> cases (decide (0 ≤ s.cell) && decide (s.cell ≤ c.cells - 1)) <;> rfl
  · rw [if_neg h0, if_neg h0]
theorem chE {c : Channel} (h : Few c) (s : Sight) : (if vE c s = 0 then ((appc 24 c.sights [s]).bind fun t144 => some (⟨c.cells, c.tides, c.fords, c.sands, t144⟩ : j8)) else (some (⟨0, 0, [], [], []⟩ : j8))) = some (⟨(wE c s).cells, (wE c s).tides, (wE c s).fords, (wE c s).sands, (wE c s).sights⟩ : j8) := by
  unfold wE
  by_cases h0 : vE c s = 0
  · rw [if_pos h0, if_pos h0, appc_eq (by obtain ⟨_, _, h3⟩ := h; simp; omega)]; rfl
  · rw [if_neg h0, if_neg h0]; rfl
theorem fewW {c : Channel} (h : Few c) (s : Sight) (h2 : c.sights.length < 100 := by omega) : Few (wE c s) := by
  obtain ⟨q1, q2, q3⟩ := h
  unfold wE
  split
  · exact ⟨q1, q2, by simp; omega⟩
  · exact ⟨by simp [zeroC], by simp [zeroC], by simp [zeroC]⟩
theorem BranchChannels_true (c : Channel) (cell : Int) (course : List (List Int)) (s : Sight) : qp c cell course s = some true := by
  unfold qp
  rw [Z0, Option.bind_some, awake_true]
  by_cases hg : 10 < c.fords.length ∨ 10 < c.sands.length ∨ 14 < c.sights.length
  · rw [decide_eq_true hg, if_pos rfl, Option.bind_some, if_pos rfl, Option.bind_some]
  rw [decide_eq_false hg, if_neg (by decide), Option.bind_some]
  by_cases hl : 8 < course.length
  · rw [if_pos (by rw [decide_eq_true_eq]; omega), Option.bind_some]
  rw [if_neg (by rw [decide_eq_true_eq]; omega)]
  have hF := few_of hg
  rw [iterM_any0 (f := kf course) course.length (fun k => decide (6 < (course.getD k []).length)) true (fun k hk => by
    unfold kf
    rw [if_pos (by omega), ix_nat [] hk, Option.bind_some, awake_true, Option.bind_some, addc_eq (by omega), Option.bind_some]
    by_cases h6 : 6 < (course.getD k []).length
    · rw [if_pos (by omega), if_pos (by simpa using h6)]
    · rw [if_neg (by omega), if_neg (by simpa using h6)]) (by unfold kf; rw [if_neg (by omega)]) (FU_lt (by omega)), Option.bind_some]
  cases h6 : (List.range course.length).any fun k => decide (6 < (course.getD k []).length) with
  | true => rfl
  | false =>
    rw [if_neg (by decide), oc_inl]
    have hrow : ∀ l ∈ course, l.length ≤ 100 := by
      intro l hm
      obtain ⟨k, hk, rfl⟩ := List.getElem_of_mem hm
      have := List.any_eq_false.1 h6 k (by simpa using hk)
      have e : course.getD k [] = course[k] := by simp [List.getD_eq_getElem?_getD, hk]
      rw [e, decide_eq_true_eq] at this
      omega
    rw [Own_eq hF, theirs_eq hF, Zv (by omega) hrow]
    simp only [Option.bind_some]
    rw [refCheck_eq hF, Option.bind_some, Yx, Option.bind_some, if_pos rfl, Z6 hF (by omega) hrow, Option.bind_some]
    have hu := chA c cell
    have hr := chB hF cell
    have hv := chD c s
    have hw := chE hF s
    have hfit : (if ((if chk c = 0 then (⟨fitB (fun _ => true) c course, 0⟩ : qa) else ⟨false, chk c⟩)).r1 = chk c then (if chk c = 0 then ((yd c course).bind fun t70 => some (!(((if chk c = 0 then (⟨fitB (fun _ => true) c course, 0⟩ : qa) else ⟨false, chk c⟩)).r0 == t70))) else (some (!(((if chk c = 0 then (⟨fitB (fun _ => true) c course, 0⟩ : qa) else ⟨false, chk c⟩)).r0 == false)))) else (some true)) = some false := by
      by_cases h0 : chk c = 0
      · rw [if_pos h0, if_pos h0, if_pos h0.symm, refFits_eq (chk_zero.1 h0) (by omega) hrow, Option.bind_some]
        simp
      · rw [if_neg h0, if_neg h0, if_pos rfl]
        rfl
    rw [hfit, Option.bind_some, if_neg (by decide), hu, Option.bind_some, hr, Option.bind_some, ZL hF, Option.bind_some, if_pos rfl, decide_eq_true rfl, Option.bind_some, if_neg (by decide), hv, Option.bind_some, hw, Option.bind_some, ZW hF, Option.bind_some, if_pos rfl, Zx (fewW hF s), Option.bind_some, decide_eq_true rfl, Option.bind_some, if_neg (by decide), Zx hF, Option.bind_some, decide_eq_true rfl, if_pos rfl, ZE (by omega) hrow, Option.bind_some, if_pos rfl, Option.bind_some]
end Go.Proofs.Wb

namespace Go.Gx
open Go Go.Fw Go.RowKit
section
variable {H : Type} {enc : TypeId × Value → H} {P : Program} {w : World} {base : Nat} {sp : Nat → Bool} {held : Bool}
def Opens (enc : TypeId × Value → H) (P : Program) (w : World) (base : Nat) (sp : Nat → Bool) (held : Bool) {α : Type} (R : Row α) (wf : α → Prop) (t : TypeId) : Prop :=
  ∀ fuel cs x, DataW.trod enc P w base sp held fuel t cs = some x → ∃ a, cs = R.cells a ∧ wf a
def i64P (n : Int) : Prop := -9223372036854775808 ≤ n ∧ n ≤ 9223372036854775807
theorem wf_i64P {n : Int} (h : (Lit.int .i64 n).wf = true) : i64P n := by
  simp [Lit.wf, IntKind.min, IntKind.max, IntKind.signed, IntKind.bits] at h
  unfold i64P; omega
theorem opens_i64 {t : TypeId} (ht : P.underlying t = some (.int .i64)) : Opens enc P w base sp held RI i64P t := fun fuel cs x h => by
  obtain ⟨n, rfl, _, hw⟩ := DataW.trod_int ht h
  exact ⟨n, rfl, wf_i64P hw⟩
theorem opens_bool {t : TypeId} (ht : P.underlying t = some .bool) : Opens enc P w base sp held RB (fun _ => True) t := fun fuel cs x h => by
  obtain ⟨b, rfl, _⟩ := DataW.trod_bool ht h
  exact ⟨b, rfl, trivial⟩
theorem fieldAt {fs : Array Field} {t : TypeId} {fuel : Nat} {cs : List Value} {x : DataW H × List MemPlace} (ht : P.underlying t = some (.struct fs)) (h : DataW.trod enc P w base sp held fuel t cs = some x) {α : Type} {R : Row α} {wf : α → Prop} (i : Nat) {T o k : Nat}
    (hf : (fs[i]?).map (fun fd => (fd.type, fd.offset)) = some (T, o)) (hk : P.cellsOf T = k) (hR : Opens enc P w base sp held R wf T) : ∃ a, (cs.drop o).take k = R.cells a ∧ wf a := by
  obtain ⟨xs, n, rfl, _, hlen, hxl, hx⟩ := DataW.trod_struct ht h
  obtain ⟨fd, hfd, he⟩ : ∃ fd, fs[i]? = some fd ∧ (fd.type, fd.offset) = (T, o) := by
    cases hh : fs[i]? with
    | none => simp [hh] at hf
    | some fd => exact ⟨fd, rfl, by simpa [hh] using hf⟩
  simp only [Prod.mk.injEq] at he
  obtain ⟨rfl, rfl⟩ := he
  have h1 := hx i fd hfd
  rw [hk] at h1
  have hi : i < xs.length := by rw [hxl]; exact (Array.getElem?_eq_some_iff.1 hfd).1
  rw [List.getElem?_eq_getElem hi] at h1
  exact hR _ _ _ h1
theorem structLen {fs : Array Field} {t : TypeId} {fuel : Nat} {cs : List Value} {x : DataW H × List MemPlace} (ht : P.underlying t = some (.struct fs)) (h : DataW.trod enc P w base sp held fuel t cs = some x) : cs.length = P.cellsOf t := by
  obtain ⟨xs, n, _, _, hlen, _⟩ := DataW.trod_struct ht h
  exact hlen
structure SlIn {α : Type} (R : Row α) (wf : α → Prop) (w : World) (v : Value) (A : Option Addr) (n c : Nat) (l : List α) : Prop where
  val : v = .slice A n c
  len : l.length = n
  ok : AOK n A
  le : n ≤ c
  max : c ≤ maxLen
  seg : segOK w (aB A, aO A, R.enc l)
  wf : ∀ x, x ∈ l → wf x
theorem choose_list {α : Type} {p : Nat → α → Prop} : ∀ (n : Nat), (∀ i, i < n → ∃ a, p i a) → ∃ l : List α, l.length = n ∧ ∀ i (h : i < l.length), p i l[i]
  | 0, _ => ⟨[], rfl, fun i h => by simp at h⟩
  | n + 1, h => by
    obtain ⟨l, hl, hp⟩ := choose_list n (fun i hi => h i (by omega))
    obtain ⟨a, ha⟩ := h n (by omega)
    refine ⟨l ++ [a], by simp [hl], fun i hi => ?_⟩
    by_cases hil : i < l.length
    · rw [List.getElem_append_left hil]; exact hp i hil
    · have : i = l.length := by simp at hi; omega
      subst this
      rw [List.getElem_append_right (by omega)]
      simp only [Nat.sub_self, List.getElem_cons_zero]
      rw [hl]; exact ha
theorem openSl {α : Type} {R : Row α} {wf : α → Prop} {t e : TypeId} (ht : P.underlying t = some (.slice e)) (hc : P.cellsOf e = R.sz) (hR : Opens enc P w base sp held R wf e) (h0 : Nat.blt 0 R.sz = true)
    {fuel : Nat} {cs : List Value} {x : DataW H × List MemPlace} (h : DataW.trod enc P w base sp held fuel t cs = some x) : ∃ (v : Value) (A : Option Addr) (n c : Nat) (l : List α), cs = [v] ∧ SlIn R wf w v A n c l := by
  have hsz : 0 < R.sz := by simpa using h0
  rcases Go.Deep.open_slice ht h with ⟨rfl, _⟩ | ⟨a, len, cap, m, n, D, Pl, rfl, hb, hl, hm, hmm, _, hi⟩
  · exact ⟨_, none, 0, 0, [], rfl, rfl, rfl, AOK.nil, Nat.le_refl _, Nat.zero_le _, segOK.nil, by simp⟩
  · have hlm : len ≤ m := by rw [hmm]; split <;> omega
    have hcell : ∀ i, i < len → ∃ x : α, (∀ f (hf : f < (R.cells x).length), w.cell? (a.add (i * R.sz + f)) = some (R.cells x)[f]) ∧ wf x := fun i hil => by
      obtain ⟨cs', h1, h2⟩ := hi i (by omega)
      obtain ⟨x, rfl, hw⟩ := hR _ _ _ h2
      obtain ⟨_, _, hat⟩ := World.cells?_some h1
      refine ⟨x, fun f hf => ?_, hw⟩
      have := hat f (by rw [hc, ← R.len x]; exact hf)
      rw [hc] at this
      rw [List.getElem?_eq_getElem hf] at this
      have e : (a.add (i * R.sz)).add f = a.add (i * R.sz + f) := by
        unfold Addr.add
        by_cases h1 : i * R.sz = 0
        · simp [h1]
        · by_cases h2 : f = 0
          · simp [h2]
          · simp [h1, h2, Nat.add_assoc]
      rw [e] at this
      exact this
    obtain ⟨l, hll, hlp⟩ := choose_list len hcell
    have hspot : 0 < len → a.spot = none := fun h0 => by
      obtain ⟨x, hx, _⟩ := hcell 0 h0
      have := World.cell?_spot (hx 0 (by rw [R.len]; exact hsz))
      simpa [Addr.add] using this
    refine ⟨_, some a, len, cap, l, rfl, rfl, hll, fun h0 => ?_, hl, hm, fun j hj => ?_, fun x hx => ?_⟩
    · obtain ⟨b, o, s⟩ := a
      have := hspot h0
      simp only at this
      subst this
      exact ⟨b, o, rfl⟩
    · have hj' : j < l.length * R.sz := by rw [← R.enc_len]; exact hj
      have hpos : 0 < len := by
        rcases Nat.eq_zero_or_pos len with h | h
        · rw [hll, h, Nat.zero_mul] at hj'; omega
        · exact h
      obtain ⟨b, o, s⟩ := a
      have hs := hspot hpos
      simp only at hs
      subst hs
      have hq : j / R.sz < l.length := Nat.div_lt_of_lt_mul (by rw [Nat.mul_comm]; exact hj')
      have hr : j % R.sz < R.sz := Nat.mod_lt _ hsz
      have hd : j / R.sz * R.sz + j % R.sz = j := by rw [Nat.mul_comm]; exact Nat.div_add_mod j R.sz
      have h1 := (hlp (j / R.sz) hq).1 (j % R.sz) (by rw [R.len]; exact hr)
      rw [hd] at h1
      have h2 := R.enc_get l (j / R.sz) (j % R.sz) l[j / R.sz] (List.getElem?_eq_getElem hq) hr
      rw [hd] at h2
      have h3 : (⟨b, o, none⟩ : Addr).add j = ⟨b, o + j, none⟩ := addr_add b o j
      rw [h3] at h1
      simp only [aB, aO, Option.map_some, Option.getD_some]
      rw [h1, ← List.getElem?_eq_getElem, ← h2, List.getElem?_eq_getElem hj]
    · obtain ⟨i, hi', rfl⟩ := List.getElem_of_mem hx
      exact (hlp i hi').2
theorem fieldSl {fs : Array Field} {t : TypeId} {fuel : Nat} {cs : List Value} {x : DataW H × List MemPlace} (ht : P.underlying t = some (.struct fs)) (h : DataW.trod enc P w base sp held fuel t cs = some x) {α : Type} {R : Row α} {wf : α → Prop} (i : Nat) {T o e : Nat}
    (hf : (fs[i]?).map (fun fd => (fd.type, fd.offset)) = some (T, o)) (hk : P.cellsOf T = 1) (hT : P.underlying T = some (.slice e)) (hc : P.cellsOf e = R.sz) (hR : Opens enc P w base sp held R wf e) (h0 : Nat.blt 0 R.sz = true) :
    ∃ (v : Value) (A : Option Addr) (n c : Nat) (l : List α), (cs.drop o).take 1 = [v] ∧ SlIn R wf w v A n c l := by
  obtain ⟨xs, m, rfl, _, hlen, hxl, hx⟩ := DataW.trod_struct ht h
  obtain ⟨fd, hfd, he⟩ : ∃ fd, fs[i]? = some fd ∧ (fd.type, fd.offset) = (T, o) := by
    cases hh : fs[i]? with
    | none => simp [hh] at hf
    | some fd => exact ⟨fd, rfl, by simpa [hh] using hf⟩
  simp only [Prod.mk.injEq] at he
  obtain ⟨rfl, rfl⟩ := he
  have h1 := hx i fd hfd
  rw [hk] at h1
  have hi : i < xs.length := by rw [hxl]; exact (Array.getElem?_eq_some_iff.1 hfd).1
  rw [List.getElem?_eq_getElem hi] at h1
  exact openSl hT hc hR h0 h1
theorem HV.begin {ro : List Sg} (h : ∀ s, s ∈ ro → segOK w s) : HV w (keys [] []) [] [] ro w :=
  ⟨rfl, rfl, rfl, Nat.le_refl _, fun _ _ _ => rfl, by simp [vbl], by simp [vbl], by simp [vbl], h, by simp [vbl]⟩
theorem segCons {s : Sg} {ro : List Sg} (h : segOK w s) (hr : ∀ t, t ∈ ro → segOK w t) : ∀ t, t ∈ s :: ro → segOK w t := fun t ht => by
  rcases List.mem_cons.1 ht with rfl | ht
  · exact h
  · exact hr t ht
theorem segNil : ∀ t, t ∈ ([] : List Sg) → segOK w t := fun t ht => by cases ht
theorem HV.below {w' : World} (h : HV w (keys [] []) [] [] [] w') : Below w.heap.size w w' := by
  have : Ext [] w w' := HS.toExt h
  exact this.below
end
end Go.Gx

namespace Go.Gx
open Go Go.Fw Go.RowKit
section
variable {H : Type} {enc : TypeId × Value → H} {P : Program} {w : World} {base : Nat} {sp : Nat → Bool} {held : Bool}
def RwL (α : Type) : Row (AL × List α) := ⟨1, fun A => [.slice A.1.a A.1.n A.1.cap], fun _ => rfl, fun _ => rfl⟩
theorem RwL_enc {α : Type} : ∀ (l : List (AL × List α)), (RwL α).enc l = RwA.enc (l.map (·.1))
  | [] => rfl
  | x :: l => by
    have := RwL_enc l
    simp only [Row.enc, List.map_cons, List.flatMap_cons] at this ⊢
    rw [this]; rfl
structure SlRow {α : Type} (R : Row α) (w : World) (x : AL × List α) : Prop where
  len : x.2.length = x.1.n
  ok : AOK x.1.n x.1.a
  le : x.1.n ≤ x.1.cap
  max : x.1.cap ≤ maxLen
  seg : segOK w (aB x.1.a, aO x.1.a, R.enc x.2)
theorem opens_sl {α : Type} {R : Row α} {wf : α → Prop} {t e : TypeId} (ht : P.underlying t = some (.slice e)) (hc : P.cellsOf e = R.sz) (hR : Opens enc P w base sp held R wf e) (h0 : Nat.blt 0 R.sz = true) : Opens enc P w base sp held (RwL α) (SlRow R w) t := fun fuel cs x h => by
  obtain ⟨v, A, n, c, l, rfl, hs⟩ := openSl ht hc hR h0 h
  have hv := hs.val
  subst hv
  exact ⟨(⟨A, n, c⟩, l), rfl, hs.len, hs.ok, hs.le, hs.max, hs.seg⟩
structure SlIn2 {α : Type} (R : Row α) (w : World) (v : Value) (A : Option Addr) (n c : Nat) (l : List (List α)) (ar : List AL) : Prop where
  val : v = .slice A n c
  len : l.length = n
  ok : AOK n A
  le : n ≤ c
  max : c ≤ maxLen
  seg : segOK w (aB A, aO A, RwA.enc ar)
  dro : DRO l ar
  rows : ∀ t, t ∈ rsg R l ar → segOK w t ∧ (t.2.2 ≠ [] → t.1 ∉ keys [] [])
  short : ∀ x, x ∈ l → x.length ≤ 9223372036854775807
theorem openSl2 {α : Type} {R : Row α} {wf : α → Prop} {t e e2 : TypeId} (ht : P.underlying t = some (.slice e)) (hc : P.cellsOf e = 1) (he : P.underlying e = some (.slice e2)) (hc2 : P.cellsOf e2 = R.sz) (hR : Opens enc P w base sp held R wf e2) (h0 : Nat.blt 0 R.sz = true)
    {fuel : Nat} {cs : List Value} {x : DataW H × List MemPlace} (h : DataW.trod enc P w base sp held fuel t cs = some x) : ∃ (v : Value) (A : Option Addr) (n c : Nat) (l : List (List α)) (ar : List AL), cs = [v] ∧ SlIn2 R w v A n c l ar := by
  obtain ⟨v, A, n, c, ps, rfl, hs⟩ := openSl (R := RwL α) ht hc (opens_sl he hc2 hR h0) rfl h
  have hget : ∀ (k : Nat) (y : List α) (N : AL), (ps.map (·.2))[k]? = some y → (ps.map (·.1))[k]? = some N → SlRow R w (N, y) := fun k y N hy hN => by
    rw [List.getElem?_map, Option.map_eq_some_iff] at hy hN
    obtain ⟨p, hp, rfl⟩ := hy
    obtain ⟨q, hq, rfl⟩ := hN
    rw [hp] at hq
    cases hq
    exact hs.wf p (List.mem_of_getElem? hp)
  refine ⟨v, A, n, c, ps.map (·.2), ps.map (·.1), rfl, hs.val, by rw [List.length_map]; exact hs.len, hs.ok, hs.le, hs.max, by rw [← RwL_enc]; exact hs.seg, ⟨by simp, fun k y N hy hN => ?_⟩, fun t ht => ?_, fun y hy => ?_⟩
  · have := hget k y N hy hN
    exact ⟨this.len, this.ok, this.le⟩
  · obtain ⟨k, y, N, hy, hN, rfl⟩ := rsg_of _ _ t ht
    exact ⟨(hget k y N hy hN).seg, fun _ hm => by cases hm⟩
  · obtain ⟨p, hp, rfl⟩ := List.mem_map.1 hy
    have h1 := hs.wf p hp
    have h2 := h1.len; have h3 := h1.le; have h4 := h1.max
    unfold maxLen at h4
    omega
end
end Go.Gx

