/- What the functions that the law BranchNumbered reaches come to, and why it holds: part 6. -/
import Derived.Test.YtpjnpibgnkgnaaaGreatBranchNumbered5
namespace Go.Proofs.Wb
set_option maxHeartbeats 4000000
set_option maxRecDepth 100000
open Go Go.Fw Go.Gx Go.Sb
open Tryz
set_option linter.unusedVariables false
structure qQ where
  t13 : Int
  t9 : (List Int)
structure qN where
  x6 : Int
  t9 : (List Int)
def kr (t15 : Sand) (s_1 : qN) : Option (qN ⊕ (List Int)) :=
 if s_1.x6 ≤ t15.span.hi then
 ((ix s_1.t9 s_1.x6).bind fun t31 =>
 (ix s_1.t9 s_1.x6).bind fun t36 =>
 (some (s_1.t9.set (Int.toNat s_1.x6) (max t31 t15.reach))).bind fun t9_1 =>
 (addc s_1.x6 1).bind fun t26 =>
 some (.inl (⟨t26, t9_1⟩ : qN))) else
 (some (.inr s_1.t9))
def qb (c0 : Channel) (s : qQ) : Option (qQ ⊕ (List Int)) :=
 if s.t13 < (c0.sands.length : Int) then
 ((ix c0.sands s.t13).bind fun t15 =>
 (iterM FU (kr t15) (⟨t15.span.lo, s.t9⟩ : qN)).bind fun o_1 =>
 (addc s.t13 1).bind fun t37 =>
 some (.inl (⟨t37, o_1⟩ : qQ))) else
 (some (.inr s.t9))
def k6 (c0 : Channel) : Option (List Int) :=
 (makec 8 0 c0.cells c0.cells).bind fun t9 =>
 (iterM FU (qb c0) (⟨0, t9⟩ : qQ)).bind fun o =>
 some o
theorem JU (c0 : Channel) (qa0 : Option Addr) (na0 ca0 : Nat) (qa1 : Option Addr) (na1 ca1 : Nat) (qa2 : Option Addr) (na2 ca2 : Nat) (w : World) (hw : HV w (keys [] []) [] [] [(aB qa0, aO qa0, RI.enc c0.fords), (aB qa1, aO qa1, RSa.enc c0.sands), (aB qa2, aO qa2, RSi.enc c0.sights)] w) (hna0 : c0.fords.length = na0) (hqa0 : AOK na0 qa0) (hla0 : na0 ≤ ca0) (hna1 : c0.sands.length = na1) (hqa1 : AOK na1 qa1) (hla1 : na1 ≤ ca1) (hna2 : c0.sights.length = na2) (hqa2 : AOK na2 qa2) (hla2 : na2 ≤ ca2) {res : (List Int)} (hm : k6 c0 = some res) :
    Calls Tryz.prog 111 #[.agg #[.int .i64 c0.cells, .int .i64 c0.tides, .slice qa0 na0 ca0, .slice qa1 na1 ca1, .slice qa2 na2 ca2]] w (fun en w' => ∃ l : VL, en = .returned (sL l) ∧ (VOK 1 l.n l.cap (RI.enc res) l.sp l.q) ∧ HV w (keys [] []) [] [vL 3 l (RI.enc res)] [] w') := by
  unfold k6 at hm
  refine yr func111 Y ntmps111 Y (e := [(0, _)]) Y hw (jr ?_)
  refine jI Y Y (fun b h2 => ?_)
  refine jc Y Y Y (fun _ _ => yc Y) (k7 (yD 0 runUnderlying26 Y sizeOf3 Y Y (yf 0 isAgg3 Y Y Y Y ?_)))
  obtain ⟨t9, h3, hm⟩ := bindO hm
  refine Y9 RI 0 h3 underlying22 KZ Y Y Y Y Y (fun L h4 => ?_)
  refine jo Y Y (jq (ji (jr (yD 3 runUnderlying26 Y sizeOf23 Y Y (yf 0 isAgg23 Y Y Y Y (jc Y Y Y (fun w _ => qd hna1 (runUnderlying23 w) Y) (jg Y Y ?_)))))))
  refine jq ?_
  obtain ⟨o, h5, h6⟩ := bindO hm
  refine j3 (ι := Unit) (fun l => VOK 1 L.n L.cap (RI.enc o) L.sp L.q) (fun l => [(3, sL L)]) (fun l => [kc b #[.int .i64 c0.cells, .int .i64 c0.tides, .slice qa0 na0 ca0, .slice qa1 na1 ca1, .slice qa2 na2 ca2] 26]) (fun l => [vL 3 L (RI.enc o)]) ?_ ?_
  ·replace hm := h5
   refine jp ?_
   refine kk (ι := Unit) hm (fun s l_1 => VOK 1 L.n L.cap (RI.enc s.t9) L.sp L.q) (fun s l_1 => [(3, sL L), (11, .slice qa1 na1 ca1), (12, .int .i64 (c0.sands.length : Int)), (13, .int .i64 s.t13)]) (fun s l_1 => [kc b #[.int .i64 c0.cells, .int .i64 c0.tides, .slice qa0 na0 ca0, .slice qa1 na1 ca1, .slice qa2 na2 ca2] 26]) (fun s l_1 => [vL 3 L (RI.enc s.t9)]) () (h4) (sE Y) (fun w hh => hh) (fun s l_1 r hpl hm h9 => ?_)
   have h8 := hpl
   unfold qb at hm
   refine jr (Kv Y Y Y (jq (ji ?_)))
   refine ju Y (fun h10 => ?_) (fun h10 => ?_)
   ·replace hm := ifD h10 hm
    refine jt (ja (ji (jp (jr ?_))))
    obtain ⟨t15, h11, hm⟩ := bindO hm
    refine jc Y Y Y (fun w _ => Jy h11 (runUnderlying23 w) (sizeOf98 w) Y Y hna1 hqa1) ?_
    refine jc Y Y Y (fun w hh => JE RSa 0 [.int .i64 t15.span.lo, .int .i64 t15.span.hi, .int .i64 t15.reach] h11 (isAgg98 w) (sizeOf98 w) Y (hh.seg 1 Y) Y (Nat.add_zero _).symm) ?_
    refine js (fun w => zeroValue98 w) Y (fun b_1 h12 => ?_)
    refine kz (us := #[_, _, _]) (cs' := [_, _, _]) (S' := [_, _]) 0 (fun w => sizeOf98 w) Y Y Y Y Y Y Y (k7 (yD 0 runUnderlying98 Y sizeOf50 Y Y (yD 0 runUnderlying50 Y sizeOf3 Y Y (yf 0 isAgg3 Y Y Y Y (jo Y Y (jq ?_))))))
    obtain ⟨o_1, h13, h14⟩ := bindO hm
    refine j3 (ι := Unit) (fun l_2 => VOK 1 L.n L.cap (RI.enc o_1) L.sp L.q) (fun l_2 => [(3, sL L), (11, .slice qa1 na1 ca1), (12, .int .i64 (c0.sands.length : Int)), (13, .int .i64 s.t13)]) (fun l_2 => [kc b_1 #[.int .i64 t15.span.lo, .int .i64 t15.span.hi, .int .i64 t15.reach] 98, kc b #[.int .i64 c0.cells, .int .i64 c0.tides, .slice qa0 na0 ca0, .slice qa1 na1 ca1, .slice qa2 na2 ca2] 26]) (fun l_2 => [vL 3 L (RI.enc o_1)]) ?_ ?_
    ·replace hm := h13
     refine jp ?_
     refine kk (ι := Unit) hm (fun s_1 l_3 => VOK 1 L.n L.cap (RI.enc s_1.t9) L.sp L.q) (fun s_1 l_3 => [(3, sL L), (5, ptr b_1 0), (6, .int .i64 s_1.x6), (11, .slice qa1 na1 ca1), (12, .int .i64 (c0.sands.length : Int)), (13, .int .i64 s.t13)]) (fun s_1 l_3 => [kc b_1 #[.int .i64 t15.span.lo, .int .i64 t15.span.hi, .int .i64 t15.reach] 98, kc b #[.int .i64 c0.cells, .int .i64 c0.tides, .slice qa0 na0 ca0, .slice qa1 na1 ca1, .slice qa2 na2 ca2] 26]) (fun s_1 l_3 => [vL 3 L (RI.enc s_1.t9)]) () (h8) (sE Y) (fun w hh => hh) (fun s_1 l_3 r_1 hpl hm h17 => ?_)
     have h16 := hpl
     unfold kr at hm
     refine ji (jr (jg Y Y (yD 0 runUnderlying98 Y sizeOf50 Y Y (yD 1 runUnderlying50 Y sizeOf3 Y Y (yf 0 isAgg3 Y Y Y Y (jc Y Y Y (fun _ _ => Z1 Y Y) (jq ?_)))))))
     refine ju Y (fun h18 => ?_) (fun h18 => ?_)
     ·replace hm := ifD h18 hm
      refine jt (ja (ji (jp ?_)))
      refine ky (some 10) (.free 0 (.free 1 (.free 2 (.free 3 (.free 4 (.hoist 5 (.free 6 (.hoist 7 (.free 8 (.free 9 (.last 10 .done))))))))))) _ Y (by decide +kernel) (fun w k hh => hh.draw k) (fun w hh => hh) ?_
      refine zs Y Y Y (zs Y Y Y (zs Y Y Y (zs Y Y Y ?_)))
      obtain ⟨t31, h19, hm⟩ := bindO hm
      refine jn Y Y Y Y (fun w _ => JR h19 (runUnderlying22 w) (sizeOf3 w) Y Y (vlen RI h16 Y) (vne h16)) (jy Y Y Y Y (fun w hh => zR RI 0 h19 (isAgg3 w) Y (hh.vseg 0 Y h16) Y (Nat.add_zero _).symm) (JT 2 runUnderlying98 sizeOf3 Y Y Y Y (Kg 0 isAgg3 Y Y Y Y Y (jn Y Y Y Y (fun _ _ => ZK Y Y) ?_))))
      obtain ⟨t36, h20, hm⟩ := bindO hm
      refine jn Y Y Y Y (fun w _ => JR h20 (runUnderlying22 w) (sizeOf3 w) Y Y (vlen RI h16 Y) (vne h16)) (YG Y ?_)
      obtain ⟨t9_1, ht9_1, hm⟩ := bindO hm
      refine ja0 RI 0 0 (max t31 t15.reach) (fun w => sizeOf3 w) Y Y Y Y h16 Y (Nat.add_zero _).symm Y h20 Y Y (Option.some.inj ht9_1) (fun h21 => ?_)
      refine jV (S' := [_, _]) (vs' := [_]) [0, 1] [0] 0 Y Y Y Y (QH (jM (jw (ja (je (jg Y Y ?_))))))
      obtain ⟨t26, h22, hm⟩ := bindO hm
      refine Kq h22 Y Y Y (jo Y Y (jx ?_))
      obtain rfl := sj hm
      refine ja ?_
      exact jN _ () Y (h21) (sE Y) (fun w hh => hh)
     replace hm := ifE h18 hm
     refine kN (jl (jl (jO ?_)))
     obtain rfl := sj hm
     have hbo := h17 _ Y
     subst hbo
     exact jk () (h16) (sE Y) (fun w hh => hh)
    intro l_2 hj
    have h15 := hj
    replace hm := h14
    refine jw (ja (je ?_))
    obtain ⟨t37, h23, hm⟩ := bindO hm
    refine Kq h23 Y Y Y (jg Y Y (jx ?_))
    obtain rfl := sj hm
    refine ja ?_
    exact jN _ () Y (h15) (sE Y) (hsE [1] [0] 0 Y Y Y Y)
   replace hm := ifE h10 hm
   refine kN (jl (jl (jO ?_)))
   obtain rfl := sj hm
   have hbo := h9 _ Y
   subst hbo
   exact jk () (h8) (sE Y) (fun w hh => hh)
  intro l hj
  have h7 := hj
  replace hm := h6
  refine ja (jr (jg Y Y (jo Y Y (jq (jv ?_)))))
  obtain rfl := sj hm
  refine jm Y (fun w hh => (.tmp Y .nil)) (fun w hh => ⟨L, rfl, h7, hh.se [] [0] 3 Y Y Y rfl⟩)
structure zk where
  t14_0 : Int
  t14_1 : Int
  t14_5 : (List Int)
def yw (c0 : Channel) : Option (Int ⊕ zk) :=
 (zp c0).bind fun t6 =>
 if t6 = 0 then
 ((k6 c0).bind fun t12 =>
 some (.inr (⟨c0.cells, c0.tides, t12⟩ : zk))) else
 (if ¬ (t6 = 0) then (some (.inl t6)) else none)
theorem yv (c0 : Channel) (qa0 : Option Addr) (na0 ca0 : Nat) (qa1 : Option Addr) (na1 ca1 : Nat) (qa2 : Option Addr) (na2 ca2 : Nat) (w : World) (hw : HV w (keys [] []) [] [] [(aB qa0, aO qa0, RI.enc c0.fords), (aB qa1, aO qa1, RSa.enc c0.sands), (aB qa2, aO qa2, RSi.enc c0.sights)] w) (hna0 : c0.fords.length = na0) (hqa0 : AOK na0 qa0) (hla0 : na0 ≤ ca0) (hna1 : c0.sands.length = na1) (hqa1 : AOK na1 qa1) (hla1 : na1 ≤ ca1) (hna2 : c0.sights.length = na2) (hqa2 : AOK na2 qa2) (hla2 : na2 ≤ ca2) {res : (Int ⊕ zk)} (hm : yw c0 = some res) :
    Calls Tryz.prog 93 #[.agg #[.int .i64 c0.cells, .int .i64 c0.tides, .slice qa0 na0 ca0, .slice qa1 na1 ca1, .slice qa2 na2 ca2]] w (fun en w' => match res with | .inl res_ => (∃ l : Unit, en = .returned (.tuple #[.pointer none, .int .i64 res_]) ∧ (¬ (res_ = 0)) ∧ HV w (keys [] []) [] [] [] w') | .inr res_ => (∃ l : Nat × VL, en = .returned (.tuple #[ptr l.1 0, .int .i64 0]) ∧ (VOK 1 l.2.n l.2.cap (RI.enc res_.t14_5) l.2.sp l.2.q) ∧ HV w (keys [] []) [kc l.1 #[.int .i64 res_.t14_0, .int .i64 res_.t14_1, .slice qa0 na0 ca0, .slice qa1 na1 ca1, .slice qa2 na2 ca2, sL l.2] 175] [vL 3 l.2 (RI.enc res_.t14_5)] [] w')) := by
  unfold yw at hm
  refine yr func93 Y ntmps93 Y (e := [(0, _)]) Y hw (jr ?_)
  refine jI Y Y (fun b h2 => ?_)
  refine jo Y Y (jo Y Y (jq (ji (jr (zX [_, _, _, _, _] 0 isAgg26 sizeOf26 Y Y Y Y ?_)))))
  obtain ⟨t6, h3, hm⟩ := bindO hm
  refine jd [] [] Y Y Y Y Y Y Y call55 (fun w hh => Qf c0 qa0 na0 ca0 qa1 na1 ca1 qa2 na2 ca2 w (HV.callee (S0 := []) (vs0 := []) hh (roR hh 0 Y (roR hh 1 Y (roR hh 2 Y roN)))) hna0 hqa0 hla0 hna1 hqa1 hla1 hna2 hqa2 hla2 h3) (fun l h4 => ?_)
  refine jo Y Y (k7 (jg Y Y (jc Y Y Y (fun _ _ => Jc Y Y) (jq ?_))))
  refine ju Y (fun h5 => ?_) (fun h5 => ?_)
  ·replace hm := ifF (of_ndec_true h5) hm
   refine jr (jg Y Y (jo Y Y (jo Y Y (jq (jv (jh ?_))))))
   obtain ⟨h6, hm⟩ := ifO hm
   obtain rfl := sj hm
   refine jm Y (fun w hh => (.tmp Y (.tmp Y .nil))) (fun w hh => ⟨(), rfl, h6, hh.se [] [] 3 Y Y Y rfl⟩)
  replace hm := ifT (of_ndec_false h5) hm
  refine jt (ja (ji (ky none (.hoist 0 (.hoist 1 (.one 2 (.free 3 (.one 4 (.free 5 (.free 6 .done))))))) _ Y (by decide +kernel) (fun w k hh => hh.draw k) (fun w hh => hh) (jy Y Y Y Y (fun w hh => jP (vs := [_, _, _, _, _]) (isAgg26 w) (sizeOf26 w) Y (hh.cells 0 Y Y)) (jy Y Y Y Y (fun w hh => jP (vs := [_, _, _, _, _]) (isAgg26 w) (sizeOf26 w) Y (hh.cells 0 Y Y)) (jA Y ?_))))))
  obtain ⟨t12, h7, hm⟩ := bindO hm
  refine jd [] [] Y Y Y Y Y Y Y call111 (fun w hh => JU c0 qa0 na0 ca0 qa1 na1 ca1 qa2 na2 ca2 w (HV.callee (S0 := []) (vs0 := []) hh (roR hh 0 Y (roR hh 1 Y (roR hh 2 Y roN)))) hna0 hqa0 hla0 hna1 hqa1 hla1 hna2 hqa2 hla2 h7) (fun l_1 h8 => ?_)
  have h9 := h8
  refine jV (S' := [_]) (vs' := [_]) [0] [0] 0 Y Y Y Y (jj (hsE [0] [] 0 Y Y Y Y) (jn Y Y Y Y (fun _ _ => k9 (vs := [(0, _), (1, _)]) (cells := [_, _, _, _, _, _]) Y Y) (jA Y ?_)))
  refine jI Y Y (fun b_1 h10 => ?_)
  refine jj (hsE [1] [] 0 Y Y Y Y) (jn Y Y Y Y (fun _ _ => kM Y) (jn Y Y Y Y (fun _ _ => kM Y) (jM (ja (jv ?_)))))
  obtain rfl := sj hm
  refine jm Y (fun w hh => (.tmp Y (.tmp Y .nil))) (fun w hh => ⟨(b_1, l_1), rfl, h9, hh.se [0] [0] 3 Y Y Y rfl⟩)
def zD  : Option Unit :=
 some ()
theorem Q1   (w : World) (hw : HV w (keys [] []) [] [] [] w)  {res : Unit} (hm : zD  = some res) :
    Calls Tryz.prog 126 #[] w (fun en w' => ∃ l : Unit, en = .returned (.agg #[.func (.func 172) #[] #[]]) ∧ (True) ∧ HV w (keys [] []) [] [] [] w') := by
  unfold zD at hm
  refine yr func126 Y ntmps126 Y (e := []) Y hw (jr ?_)
  refine js (fun w => zeroValue181 w) Y (fun b h1 => ?_)
  refine k7 (jc Y Y Y (fun _ _ => k9 (vs := [(0, _)]) (cells := [_]) Y Y) (kz (us := #[_]) (cs' := [_]) (S' := [_]) 0 (fun w => sizeOf181 w) Y Y Y Y Y Y Y (jq (jv ?_))))
  obtain rfl := sj hm
  refine jm Y (fun w hh => (.cell Y (loadVar_agg (vs := [_]) (isAgg181 _) (sizeOf181 _) (hh.cells 0 Y Y)) .nil)) (fun w hh => ⟨(), rfl, trivial, hh.se [] [] 0 Y Y Y rfl⟩)
structure K5 where
  out3_c0 : Int
  out3_c1 : Int
  out3_c2 : Int
structure zU where
  t5 : Int
  out3_c0 : Int
  out3_c1 : Int
  out3_c2 : Int
structure K8 where
  out3_c0 : Int
  out3_c1 : Int
  out3_c2 : Int
def K6 (l0 : (List Int)) (s : zU) : Option (zU ⊕ K5) :=
 if s.t5 < 3 then
 (((ix [s.out3_c0, s.out3_c1, s.out3_c2] s.t5).bind fun t9 =>
 (some (set3 s.out3_c0 s.out3_c1 s.out3_c2 s.t5 (-1))).bind fun out3 =>
 if s.t5 < (l0.length : Int) then
 ((ix l0 s.t5).bind fun t17 =>
 (ix [out3.1, out3.2.1, out3.2.2] s.t5).bind fun t19 =>
 (some (set3 out3.1 out3.2.1 out3.2.2 s.t5 t17)).bind fun out3_1 =>
 some (⟨out3_1.1, out3_1.2.1, out3_1.2.2⟩ : K8)) else
 (some (⟨out3.1, out3.2.1, out3.2.2⟩ : K8))).bind fun o_1 =>
 (addc s.t5 1).bind fun t20 =>
 some (.inl (⟨t20, o_1.out3_c0, o_1.out3_c1, o_1.out3_c2⟩ : zU))) else
 (some (.inr (⟨s.out3_c0, s.out3_c1, s.out3_c2⟩ : K5)))
def J3 (l0 : (List Int)) : Option Cells :=
 (iterM FU (K6 l0) (⟨0, 0, 0, 0⟩ : zU)).bind fun o =>
 some (⟨o.out3_c0, o.out3_c1, o.out3_c2⟩ : Cells)
theorem Za (l0 : (List Int)) (qa0 : Option Addr) (na0 ca0 : Nat) (w : World) (hw : HV w (keys [] []) [] [] [(aB qa0, aO qa0, RI.enc l0)] w) (hna0 : l0.length = na0) (hqa0 : AOK na0 qa0) (hla0 : na0 ≤ ca0) {res : Cells} (hm : J3 l0 = some res) :
    Calls Tryz.prog 142 #[.slice qa0 na0 ca0] w (fun en w' => ∃ l : Unit, en = .returned (.agg #[.int .i64 res.c0, .int .i64 res.c1, .int .i64 res.c2]) ∧ (True) ∧ HV w (keys [] []) [] [] [] w') := by
  unfold J3 at hm
  refine yr func142 Y ntmps142 Y (e := [(0, _)]) Y hw (jr ?_)
  refine js (fun w => zeroValue157 w) Y (fun b h1 => ?_)
  refine k7 ?_
  refine js (fun w => zeroValue157 w) Y (fun b_1 h2 => ?_)
  refine jq (ji (jr (jg Y Y (jq ?_))))
  obtain ⟨o, h3, h4⟩ := bindO hm
  refine j3 (ι := Unit) (fun l => True) (fun l => [(2, ptr b 0), (3, ptr b_1 0)]) (fun l => [kc b_1 #[.int .i64 o.out3_c0, .int .i64 o.out3_c1, .int .i64 o.out3_c2] 157, kc b #[.int .i64 0, .int .i64 0, .int .i64 0] 157]) (fun l => []) ?_ ?_
  ·replace hm := h3
   refine jp ?_
   refine kk (ι := Unit) hm (fun s l_1 => True) (fun s l_1 => [(0, .slice qa0 na0 ca0), (2, ptr b 0), (3, ptr b_1 0), (5, .int .i64 s.t5)]) (fun s l_1 => [kc b_1 #[.int .i64 s.out3_c0, .int .i64 s.out3_c1, .int .i64 s.out3_c2] 157, kc b #[.int .i64 0, .int .i64 0, .int .i64 0] 157]) (fun s l_1 => []) () (trivial) (sE Y) (fun w hh => hh) (fun s l_1 r hpl hm h5 => ?_)
   unfold K6 at hm
   refine jr (Kv Y Y Y (jq (ji ?_)))
   refine ju Y (fun h6 => ?_) (fun h6 => ?_)
   ·replace hm := ifD h6 hm
    refine jt (ja (ji ?_))
    obtain ⟨o_1, h7, h8⟩ := bindO hm
    refine j3 (ι := Unit) (fun l_2 => True) (fun l_2 => [(0, .slice qa0 na0 ca0), (2, ptr b 0), (3, ptr b_1 0), (5, .int .i64 s.t5)]) (fun l_2 => [kc b_1 #[.int .i64 o_1.out3_c0, .int .i64 o_1.out3_c1, .int .i64 o_1.out3_c2] 157, kc b #[.int .i64 0, .int .i64 0, .int .i64 0] 157]) (fun l_2 => []) ?_ ?_
    ·replace hm := h7
     refine jp (jr (jg Y Y (jo Y Y (k7 (jg Y Y ?_)))))
     obtain ⟨t9, h9, hm⟩ := bindO hm
     refine jc Y Y Y (fun w _ => JS h9 Y (runUnderlying157 w) (sizeOf3 w) Y Y) ?_
     obtain ⟨out3, hout3, hm⟩ := bindO hm
     refine jag 0 [] [] (cs' := #[_, _, _]) (S' := [_, _]) (fun w => sizeOf3 w) Y Y Y h9 Y Y (Option.some.inj hout3) Y Y (k7 (jg Y Y (jg Y Y (jc Y Y Y (fun w _ => qd hna0 (runUnderlying22 w) Y) (Kv Y Y Y (jq ?_))))))
     refine ju Y (fun h10 => ?_) (fun h10 => ?_)
     ·replace hm := ifD h10 hm
      refine je (jg Y Y (jg Y Y (jg Y Y ?_)))
      obtain ⟨t17, h11, hm⟩ := bindO hm
      refine jc Y Y Y (fun w _ => Jy h11 (runUnderlying22 w) (sizeOf3 w) Y Y hna0 hqa0) (jc Y Y Y (fun w hh => zR RI 0 h11 (isAgg3 w) Y (hh.seg 0 Y) Y (Nat.add_zero _).symm) ?_)
      obtain ⟨t19, h12, hm⟩ := bindO hm
      refine jc Y Y Y (fun w _ => JS h12 Y (runUnderlying157 w) (sizeOf3 w) Y Y) ?_
      obtain ⟨out3_1, hout3_1, hm⟩ := bindO hm
      refine jag 0 [] [] (cs' := #[_, _, _]) (S' := [_, _]) (fun w => sizeOf3 w) Y Y Y h12 Y Y (Option.some.inj hout3_1) Y Y (jx (jw ?_))
      obtain rfl := sj hm
      exact jk () (trivial) (sE Y) (fun w hh => hh)
     replace hm := ifE h10 hm
     refine jt (jw ?_)
     obtain rfl := sj hm
     exact jk () (trivial) (sE Y) (fun w hh => hh)
    intro l_2 hj
    replace hm := h8
    refine ja (je ?_)
    obtain ⟨t20, h13, hm⟩ := bindO hm
    refine Kq h13 Y Y Y (jg Y Y (jx ?_))
    obtain rfl := sj hm
    refine ja ?_
    exact jN _ () Y (trivial) (sE Y) (fun w hh => hh)
   replace hm := ifE h6 hm
   refine kN (jl (jl (jO ?_)))
   obtain rfl := sj hm
   have hbo := h5 _ Y
   subst hbo
   exact jk () (trivial) (sE Y) (fun w hh => hh)
  intro l hj
  replace hm := h4
  refine ja (jr (zX [_, _, _] 0 isAgg157 sizeOf157 Y Y Y Y (kz (us := #[_, _, _]) (cs' := [_, _, _]) (S' := [_, _]) 1 (fun w => sizeOf157 w) Y Y Y Y Y Y Y (jq (jv ?_)))))
  obtain rfl := sj hm
  refine jm Y (fun w hh => (.cell Y (loadVar_agg (vs := [_, _, _]) (isAgg157 _) (sizeOf157 _) (hh.cells 1 Y Y)) .nil)) (fun w hh => ⟨(), rfl, trivial, hh.se [] [] 1 Y Y Y rfl⟩)
def jB (d00 : Int) (d01 : Int) (d02 : (List Int)) (d03 : (List Sand)) (d04 : (List Sight)) (d05 : (List Int)) : Option State :=
 (J3 d02).bind fun t8 =>
 some (⟨0, t8⟩ : State)
theorem jW (d00 : Int) (d01 : Int) (d02 : (List Int)) (d03 : (List Sand)) (d04 : (List Sight)) (d05 : (List Int)) (rb : Nat) (qa1 : Option Addr) (na1 ca1 : Nat) (qa2 : Option Addr) (na2 ca2 : Nat) (qa3 : Option Addr) (na3 ca3 : Nat) (qa4 : Option Addr) (na4 ca4 : Nat) (w : World) (hw : HV w (keys [] []) [] [] [(rb, 0, [.int .i64 d00, .int .i64 d01, .slice qa1 na1 ca1, .slice qa2 na2 ca2, .slice qa3 na3 ca3, .slice qa4 na4 ca4]), (aB qa1, aO qa1, RI.enc d02), (aB qa2, aO qa2, RSa.enc d03), (aB qa3, aO qa3, RSi.enc d04), (aB qa4, aO qa4, RI.enc d05)] w)  (hna1 : d02.length = na1) (hqa1 : AOK na1 qa1) (hla1 : na1 ≤ ca1) (hna2 : d03.length = na2) (hqa2 : AOK na2 qa2) (hla2 : na2 ≤ ca2) (hna3 : d04.length = na3) (hqa3 : AOK na3 qa3) (hla3 : na3 ≤ ca3) (hna4 : d05.length = na4) (hqa4 : AOK na4 qa4) (hla4 : na4 ≤ ca4) {res : State} (hm : jB d00 d01 d02 d03 d04 d05 = some res) :
    Calls Tryz.prog 99 #[ptr rb 0] w (fun en w' => ∃ l : Unit, en = .returned (.agg #[.int .i64 res.after, .int .i64 res.at_.c0, .int .i64 res.at_.c1, .int .i64 res.at_.c2]) ∧ (True) ∧ HV w (keys [] []) [] [] [] w') := by
  unfold jB at hm
  refine yr func99 Y ntmps99 Y (e := [(0, _)]) Y hw (jr ?_)
  refine js (fun w => zeroValue159 w) Y (fun b h1 => ?_)
  refine k7 (jg Y Y (jc Y Y Y (fun _ _ => jQ Y) (yD 0 runUnderlying175 Y sizeOf26 Y Y (yD 2 runUnderlying26 Y sizeOf22 Y Y (jc Y Y Y (fun w hh => jz (isAgg22 w) Y (segCell (hh.seg 0 Y) 2 Y)) ?_)))))
  obtain ⟨t8, h2, hm⟩ := bindO hm
  refine jd [] [] Y Y Y Y Y Y Y call142 (fun w hh => Za d02 qa1 na1 ca1 w (HV.callee (S0 := []) (vs0 := []) hh (roR hh 1 Y roN)) hna1 hqa1 hla1 h2) (fun l h3 => ?_)
  refine jc Y Y Y (fun _ _ => k9 (vs := [(0, _), (1, _)]) (cells := [_, _, _, _]) Y Y) (kz (us := #[_, _, _, _]) (cs' := [_, _, _, _]) (S' := [_]) 0 (fun w => sizeOf159 w) Y Y Y Y Y Y Y (jq (jv ?_)))
  obtain rfl := sj hm
  refine jm Y (fun w hh => (.cell Y (loadVar_agg (vs := [_, _, _, _]) (isAgg159 _) (sizeOf159 _) (hh.cells 0 Y Y)) .nil)) (fun w hh => ⟨(), rfl, trivial, hh.se [] [] 5 Y Y Y rfl⟩)
def Kr (a00 : Int) : Option Bool :=
 some true
theorem Zi (a00 : Int)  (w : World) (hw : HV w (keys [] []) [] [] [] w)  {res : Bool} (hm : Kr a00 = some res) :
    Calls Tryz.prog 172 #[.int .i64 a00] w (fun en w' => ∃ l : Unit, en = .returned (.bool res) ∧ (True) ∧ HV w (keys [] []) [] [] [] w') := by
  unfold Kr at hm
  refine yr func172 Y ntmps172 Y (e := [(0, _)]) Y hw (jr (jo Y Y (k7 (jo Y Y (jq (jv ?_))))))
  obtain rfl := sj hm
  refine jm Y (fun w hh => (.tmp Y .nil)) (fun w hh => ⟨(), rfl, trivial, hh⟩)
def kW (d00 : Int) (d01 : Int) (d02 : (List Int)) (d03 : (List Sand)) (d04 : (List Sight)) (d05 : (List Int)) (s1 : State) : Option (List Int) :=
 if 0 ≤ (d02.length : Int) ∧ (d02.length : Int) ≤ (([s1.at_.c0, s1.at_.c1, s1.at_.c2] : List Int).length : Int) then ((kp (([s1.at_.c0, s1.at_.c1, s1.at_.c2] : List Int).take (Int.toNat (d02.length : Int)))).bind fun t13 =>
 some t13) else none
theorem za (d00 : Int) (d01 : Int) (d02 : (List Int)) (d03 : (List Sand)) (d04 : (List Sight)) (d05 : (List Int)) (s1 : State) (rb : Nat) (qa1 : Option Addr) (na1 ca1 : Nat) (qa2 : Option Addr) (na2 ca2 : Nat) (qa3 : Option Addr) (na3 ca3 : Nat) (qa4 : Option Addr) (na4 ca4 : Nat) (w : World) (hw : HV w (keys [] []) [] [] [(rb, 0, [.int .i64 d00, .int .i64 d01, .slice qa1 na1 ca1, .slice qa2 na2 ca2, .slice qa3 na3 ca3, .slice qa4 na4 ca4]), (aB qa1, aO qa1, RI.enc d02), (aB qa2, aO qa2, RSa.enc d03), (aB qa3, aO qa3, RSi.enc d04), (aB qa4, aO qa4, RI.enc d05)] w)  (hna1 : d02.length = na1) (hqa1 : AOK na1 qa1) (hla1 : na1 ≤ ca1) (hna2 : d03.length = na2) (hqa2 : AOK na2 qa2) (hla2 : na2 ≤ ca2) (hna3 : d04.length = na3) (hqa3 : AOK na3 qa3) (hla3 : na3 ≤ ca3) (hna4 : d05.length = na4) (hqa4 : AOK na4 qa4) (hla4 : na4 ≤ ca4) {res : (List Int)} (hm : kW d00 d01 d02 d03 d04 d05 s1 = some res) :
    Calls Tryz.prog 100 #[ptr rb 0, .agg #[.int .i64 s1.after, .int .i64 s1.at_.c0, .int .i64 s1.at_.c1, .int .i64 s1.at_.c2]] w (fun en w' => ∃ l : VL, en = .returned (sL l) ∧ (VOK 1 l.n l.cap (RI.enc res) l.sp l.q) ∧ HV w (keys [] []) [] [vL 3 l (RI.enc res)] [] w') := by
  unfold kW at hm
  refine yr func100 Y ntmps100 Y (e := [(0, _), (1, _)]) Y hw (jr ?_)
  refine jI Y Y (fun b h2 => ?_)
  refine jc Y Y Y (fun _ _ => yc Y) (k7 (yD 1 runUnderlying159 Y sizeOf157 Y Y (jg Y Y (jc Y Y Y (fun _ _ => jQ Y) (yD 0 runUnderlying175 Y sizeOf26 Y Y (yD 2 runUnderlying26 Y sizeOf22 Y Y (jc Y Y Y (fun w hh => jz (isAgg22 w) Y (segCell (hh.seg 0 Y) 2 Y)) ?_)))))))
  refine jc Y Y Y (fun w _ => qd hna1 (runUnderlying22 w) Y) ?_
  obtain ⟨h3, hm⟩ := ifO hm
  refine jc Y Y Y (fun w _ => jaS (runUnderlying157 w) (sizeOf3 w) Y Y h3 Y) ?_
  obtain ⟨t13, h4, hm⟩ := bindO hm
  refine jd [] [] Y Y Y Y Y Y Y call74 (fun w hh => kx (([s1.at_.c0, s1.at_.c1, s1.at_.c2] : List Int).take (Int.toNat (d02.length : Int))) (qA (some (b, 1))) (Int.toNat (d02.length : Int)) 3 w (HV.callee (S0 := []) (vs0 := []) hh (roC (presep RI (Int.toNat (d02.length : Int)) (asub RI 1 ([s1.at_.c0, s1.at_.c1, s1.at_.c2] : List Int) (hh.bsepH 0 Y) Y Y)) roN)) (pre_hn (Y : ([s1.at_.c0, s1.at_.c1, s1.at_.c2] : List Int).length = 3) h3) (AOK.q (pre_hne (q := some (b, 1)) (Y : ([s1.at_.c0, s1.at_.c1, s1.at_.c2] : List Int).length = 3) h3 (fun _ => Option.some_ne_none _))) (pre_hle (Y : ([s1.at_.c0, s1.at_.c1, s1.at_.c2] : List Int).length = 3) h3 (Nat.le_refl 3)) h4) (fun l h5 => ?_)
  have h6 := h5
  refine jV (S' := [_]) (vs' := [_]) [0] [0] 0 Y Y Y Y (jo Y Y (jq (jv ?_)))
  obtain rfl := sj hm
  refine jm Y (fun w hh => (.tmp Y .nil)) (fun w hh => ⟨l, rfl, h6, hh.se [] [0] 5 Y Y Y rfl⟩)
def yL (s0 : (List Int)) (v1 : Int) (s : Int) : Option (Int ⊕ (Unit ⊕ Int)) :=
 if s < (s0.length : Int) then
 ((ix s0 s).bind fun t14 =>
 if v1 = t14 then
 (some (.inr (.inr s))) else
 ((addc s 1).bind fun t18 =>
 some (.inl t18))) else
 (some (.inr (.inl ())))
def Jf (s0 : (List Int)) (v1 : Int) : Option Int :=
 (iterM FU (yL s0 v1) 0).bind fun o =>
 oc o (fun j => some (-1)) (fun r_1 => some r_1)
theorem YH (s0 : (List Int)) (v1 : Int) (qa0 : Option Addr) (na0 ca0 : Nat) (w : World) (hw : HV w (keys [] []) [] [] [(aB qa0, aO qa0, RI.enc s0)] w) (hna0 : s0.length = na0) (hqa0 : AOK na0 qa0) (hla0 : na0 ≤ ca0) {res : Int} (hm : Jf s0 v1 = some res) :
    Calls Tryz.prog 147 #[.slice qa0 na0 ca0, .int .i64 v1] w (fun en w' => ∃ l : Unit, en = .returned (.int .i64 res) ∧ (True) ∧ HV w (keys [] []) [] [] [] w') := by
  unfold Jf at hm
  refine yr func147 Y ntmps147 Y (e := [(0, _), (1, _)]) Y hw (jr (jo Y Y (jq (ji (jr (jg Y Y (jc Y Y Y (fun w _ => qd hna0 (runUnderlying22 w) Y) ?_)))))))
  refine jg Y Y (jq ?_)
  obtain ⟨o, h1, h2⟩ := bindO hm
  refine j3 (ι := Unit) (fun j => o = .inl j) (fun j => []) (fun j => []) (fun j => []) ?_ ?_
  ·replace hm := h1
   refine jp ?_
   refine kk (ι := Unit) hm (fun s l => True) (fun s l => [(0, .slice qa0 na0 ca0), (1, .int .i64 v1), (7, .int .i64 (s0.length : Int)), (8, .int .i64 s)]) (fun s l => []) (fun s l => []) () (trivial) (sE Y) (fun w hh => hh) (fun s l r hpl hm h3 => ?_)
   unfold yL at hm
   refine jr (Kv Y Y Y (jq (ji ?_)))
   refine ju Y (fun h4 => ?_) (fun h4 => ?_)
   ·replace hm := ifD h4 hm
    refine jt (ja (ji (jp (jr (jg Y Y (jo Y Y (k7 ?_)))))))
    refine jg Y Y (jg Y Y (jg Y Y ?_))
    obtain ⟨t14, h5, hm⟩ := bindO hm
    refine jc Y Y Y (fun w _ => Jy h5 (runUnderlying22 w) (sizeOf3 w) Y Y hna0 hqa0) (jc Y Y Y (fun w hh => zR RI 0 h5 (isAgg3 w) Y (hh.seg 0 Y) Y (Nat.add_zero _).symm) (jc Y Y Y (fun _ _ => Ju Y Y) (jq ?_)))
    refine ju Y (fun h6 => ?_) (fun h6 => ?_)
    ·replace hm := ifD h6 hm
     refine jr (jg Y Y (jo Y Y (jq (jv (jJ (jh (jh ?_)))))))
     refine jJ ?_
     obtain rfl := sj hm
     have hbo := h3 _ Y
     subst hbo
     refine jh ?_
     replace hm := ocR h2
     refine jh ?_
     obtain rfl := sj hm
     refine jm Y (fun w hh => (.tmp Y .nil)) (fun w hh => ⟨(), rfl, trivial, hh.se [] [] 1 Y Y Y rfl⟩)
    replace hm := ifE h6 hm
    refine jt (jw (ja (je ?_)))
    obtain ⟨t18, h7, hm⟩ := bindO hm
    refine Kq h7 Y Y Y (jg Y Y (jx ?_))
    obtain rfl := sj hm
    refine ja ?_
    exact jN _ () Y (trivial) (sE Y) (fun w hh => hh)
   replace hm := ifE h4 hm
   refine kN (jl (jl (jO ?_)))
   obtain rfl := sj hm
   have hbo := h3 _ Y
   subst hbo
   exact jk () (Y) (.nil) (fun w hh => hh)
  intro j hj
  have h8 := hj
  subst h8
  replace hm := ocL h2
  refine ja (jr (jo Y Y (jq (jv ?_))))
  obtain rfl := sj hm
  refine jm Y (fun w hh => (.tmp Y .nil)) (fun w hh => ⟨(), rfl, trivial, hh.se [] [] 1 Y Y Y rfl⟩)
def jS (s0 : (List Int)) (v1 : Int) : Option Bool :=
 (Jf s0 v1).bind fun t7 =>
 some (decide (0 ≤ t7))
theorem qY (s0 : (List Int)) (v1 : Int) (qa0 : Option Addr) (na0 ca0 : Nat) (w : World) (hw : HV w (keys [] []) [] [] [(aB qa0, aO qa0, RI.enc s0)] w) (hna0 : s0.length = na0) (hqa0 : AOK na0 qa0) (hla0 : na0 ≤ ca0) {res : Bool} (hm : jS s0 v1 = some res) :
    Calls Tryz.prog 64 #[.slice qa0 na0 ca0, .int .i64 v1] w (fun en w' => ∃ l : Unit, en = .returned (.bool res) ∧ (True) ∧ HV w (keys [] []) [] [] [] w') := by
  unfold jS at hm
  refine yr func64 Y ntmps64 Y (e := [(0, _), (1, _)]) Y hw (jr (jo Y Y (k7 (jg Y Y (jg Y Y ?_)))))
  obtain ⟨t7, h1, hm⟩ := bindO hm
  refine jd [] [] Y Y Y Y Y Y Y call147 (fun w hh => YH s0 v1 qa0 na0 ca0 w (HV.callee (S0 := []) (vs0 := []) hh (roR hh 0 Y roN)) hna0 hqa0 hla0 h1) (fun l h2 => ?_)
  refine jc Y Y Y (fun _ _ => YI Y Y) (jo Y Y (jq (jv ?_)))
  obtain rfl := sj hm
  refine jm Y (fun w hh => (.tmp Y .nil)) (fun w hh => ⟨(), rfl, trivial, hh.se [] [] 1 Y Y Y rfl⟩)
def qO (d04 : (List Sight)) (s2 : State) (d00 : Int) (d01 : Int) (d02 : (List Int)) (d03 : (List Sand)) (d05 : (List Int)) (s : Int) : Option (Int ⊕ (Unit ⊕ Bool)) :=
 if s < (d04.length : Int) then
 ((ix d04 s).bind fun t18 =>
 (if t18.after = s2.after then
 ((Kr s).bind fun t29 =>
 if t29 = true then
 ((kW d00 d01 d02 d03 d04 d05 s2).bind fun t34 =>
 (jS t34 t18.cell).bind fun t37 =>
 some (!(t37 == t18.upright))) else
 (some false)) else
 (some false)).bind fun o_1 =>
 if o_1 = true then
 (some (.inr (.inr false))) else
 ((addc s 1).bind fun t42 =>
 some (.inl t42))) else
 (some (.inr (.inl ())))
def yJ (d00 : Int) (d01 : Int) (d02 : (List Int)) (d03 : (List Sand)) (d04 : (List Sight)) (d05 : (List Int)) (s2 : State) : Option Bool :=
 (iterM FU (qO d04 s2 d00 d01 d02 d03 d05) 0).bind fun o =>
 oc o (fun j => some true) (fun r_1 => some r_1)
theorem Yc (d00 : Int) (d01 : Int) (d02 : (List Int)) (d03 : (List Sand)) (d04 : (List Sight)) (d05 : (List Int)) (s2 : State) (rb : Nat) (qa1 : Option Addr) (na1 ca1 : Nat) (qa2 : Option Addr) (na2 ca2 : Nat) (qa3 : Option Addr) (na3 ca3 : Nat) (qa4 : Option Addr) (na4 ca4 : Nat) (w : World) (hw : HV w (keys [] []) [] [] [(rb, 0, [.int .i64 d00, .int .i64 d01, .slice qa1 na1 ca1, .slice qa2 na2 ca2, .slice qa3 na3 ca3, .slice qa4 na4 ca4]), (aB qa1, aO qa1, RI.enc d02), (aB qa2, aO qa2, RSa.enc d03), (aB qa3, aO qa3, RSi.enc d04), (aB qa4, aO qa4, RI.enc d05)] w)  (hna1 : d02.length = na1) (hqa1 : AOK na1 qa1) (hla1 : na1 ≤ ca1) (hna2 : d03.length = na2) (hqa2 : AOK na2 qa2) (hla2 : na2 ≤ ca2) (hna3 : d04.length = na3) (hqa3 : AOK na3 qa3) (hla3 : na3 ≤ ca3) (hna4 : d05.length = na4) (hqa4 : AOK na4 qa4) (hla4 : na4 ≤ ca4) {res : Bool} (hm : yJ d00 d01 d02 d03 d04 d05 s2 = some res) :
    Calls Tryz.prog 143 #[ptr rb 0, .agg #[.func (.func 172) #[] #[]], .agg #[.int .i64 s2.after, .int .i64 s2.at_.c0, .int .i64 s2.at_.c1, .int .i64 s2.at_.c2]] w (fun en w' => ∃ l : Unit, en = .returned (.bool res) ∧ (True) ∧ HV w (keys [] []) [] [] [] w') := by
  unfold yJ at hm
  refine yr func143 Y ntmps143 Y (e := [(0, _), (1, _), (2, _)]) Y hw (jr ?_)
  refine jI Y Y (fun b h1 => ?_)
  refine jI Y Y (fun b_1 h2 => ?_)
  refine jo Y Y (jq (ji (jr (jg Y Y (jc Y Y Y (fun _ _ => jQ Y) (yD 0 runUnderlying175 Y sizeOf26 Y Y (yD 4 runUnderlying26 Y sizeOf24 Y Y ?_)))))))
  refine jc Y Y Y (fun w hh => jz (isAgg24 w) Y (segCell (hh.seg 0 Y) 4 Y)) (jc Y Y Y (fun w _ => qd hna3 (runUnderlying24 w) Y) (jg Y Y (jq ?_)))
  obtain ⟨o, h3, h4⟩ := bindO hm
  refine j3 (ι := Unit) (fun j => o = .inl j) (fun j => []) (fun j => [kc b_1 #[.int .i64 s2.after, .int .i64 s2.at_.c0, .int .i64 s2.at_.c1, .int .i64 s2.at_.c2] 159, kc b #[.func (.func 172) #[] #[]] 181]) (fun j => []) ?_ ?_
  ·replace hm := h3
   refine jp ?_
   refine kk (ι := Unit) hm (fun s l => True) (fun s l => [(0, ptr rb 0), (4, ptr b 0), (5, ptr b_1 0), (13, .slice qa3 na3 ca3), (14, .int .i64 (d04.length : Int)), (15, .int .i64 s)]) (fun s l => [kc b_1 #[.int .i64 s2.after, .int .i64 s2.at_.c0, .int .i64 s2.at_.c1, .int .i64 s2.at_.c2] 159, kc b #[.func (.func 172) #[] #[]] 181]) (fun s l => []) () (trivial) (sE Y) (fun w hh => hh) (fun s l r hpl hm h5 => ?_)
   unfold qO at hm
   refine jr (Kv Y Y Y (jq (ji ?_)))
   refine ju Y (fun h6 => ?_) (fun h6 => ?_)
   ·replace hm := ifD h6 hm
    refine jt (ja (ji (jp (jr (jg Y Y ?_)))))
    obtain ⟨t18, h7, hm⟩ := bindO hm
    refine jc Y Y Y (fun w _ => Jy h7 (runUnderlying24 w) (sizeOf55 w) Y Y hna3 hqa3) ?_
    refine jc Y Y Y (fun w hh => JE RSi 0 [.int .i64 t18.after, .int .i64 t18.cell, .bool t18.upright] h7 (isAgg55 w) (sizeOf55 w) Y (hh.seg 3 Y) Y (Nat.add_zero _).symm) ?_
    refine js (fun w => zeroValue55 w) Y (fun b_2 h8 => ?_)
    refine jo Y Y (kz (us := #[_, _, _]) (cs' := [_, _, _]) (S' := [_, _, _]) 0 (fun w => sizeOf55 w) Y Y Y Y Y Y Y (jq (ji ?_)))
    obtain ⟨o_1, h9, h10⟩ := bindO hm
    refine j3 (ι := Unit) (fun l_1 => True) (fun l_1 => [(0, ptr rb 0), (4, ptr b 0), (5, ptr b_1 0), (13, .slice qa3 na3 ca3), (14, .int .i64 (d04.length : Int)), (15, .int .i64 s), (41, .bool o_1)]) (fun l_1 => [kc b_2 #[.int .i64 t18.after, .int .i64 t18.cell, .bool t18.upright] 55, kc b_1 #[.int .i64 s2.after, .int .i64 s2.at_.c0, .int .i64 s2.at_.c1, .int .i64 s2.at_.c2] 159, kc b #[.func (.func 172) #[] #[]] 181]) (fun l_1 => []) ?_ ?_
    ·replace hm := h9
     refine ky none (.free 0 (.hoist 1 (.free 2 (.hoist 3 (.free 4 (.free 5 (.free 6 (.hoist 7 (.free 8 (.one 9 (.free 10 (.free 11 (.free 12 (.hoist 13 (.free 15 (.hoist 16 (.free 18 (.hoist 19 (.one 14 (.one 17 (.free 20 (.free 21 .done)))))))))))))))))))))) _ Y (by decide +kernel) (fun w k hh => hh.draw k) (fun w hh => hh) ?_
     refine JT 0 runUnderlying55 sizeOf3 Y Y Y Y (Kg 0 isAgg3 Y Y Y Y Y (JT 0 runUnderlying159 sizeOf3 Y Y Y Y (Kg 1 isAgg3 Y Y Y Y Y (jn Y Y Y Y (fun _ _ => Ju Y Y) (zs Y Y Y ?_)))))
     refine j4 25 Y (fun h11 => ?_) (fun h11 => ?_)
     ·replace hm := ifD h11 hm
      refine qW Y Y Y Y Y Y (fun w _ => jR 0 (runUnderlying181 w) Y (sizeOf102 w) Y) (Jl Y Y Y Y Y Y (fun w hh => jz (isAgg102 w) Y (hh.cell 2 Y Y)) (qW Y Y Y Y Y Y (fun _ _ => k8 Y) (jA Y (jb Y Y ?_))))
      obtain ⟨t29, h12, hm⟩ := bindO hm
      refine jd [] [] Y Y Y Y Y Y Y call172 (fun w hh => Zi s w (HV.callee (S0 := []) (vs0 := []) hh roN)  h12) (fun l_2 h13 => ?_)
      refine jj (fun w hh => hh) (jn Y Y Y Y (fun _ _ => Qi Y Y) (zs Y Y Y ?_))
      refine j4 31 Y (fun h14 => ?_) (fun h14 => ?_)
      ·replace hm := ifT (h14) hm
       refine qW Y Y Y Y Y Y (fun _ _ => k8 Y) (Jl Y Y Y Y Y Y (fun w hh => jP (vs := [_, _, _, _]) (isAgg159 w) (sizeOf159 w) Y (hh.cells 1 Y Y)) (qW Y Y Y Y Y Y (fun w _ => jR 1 (runUnderlying55 w) Y (sizeOf3 w) Y) (Jl Y Y Y Y Y Y (fun w hh => jz (isAgg3 w) Y (hh.cell 0 Y Y)) (qW Y Y Y Y Y Y (fun w _ => jR 2 (runUnderlying55 w) Y (sizeOf4 w) Y) (Jl Y Y Y Y Y Y (fun w hh => jz (isAgg4 w) Y (hh.cell 0 Y Y)) (jA Y (jb Y Y ?_)))))))
       obtain ⟨t34, h15, hm⟩ := bindO hm
       refine jd [] [] Y Y Y Y Y Y Y call100 (fun w hh => za d00 d01 d02 d03 d04 d05 s2 rb qa1 na1 ca1 qa2 na2 ca2 qa3 na3 ca3 qa4 na4 ca4 w (HV.callee (S0 := []) (vs0 := []) hh (roR hh 0 Y (roR hh 1 Y (roR hh 2 Y (roR hh 3 Y (roR hh 4 Y roN)))))) hna1 hqa1 hla1 hna2 hqa2 hla2 hna3 hqa3 hla3 hna4 hqa4 hla4 h15) (fun l_3 h16 => ?_)
       have h17 := h16
       refine jV (S' := [_, _, _]) (vs' := [_]) [0, 1, 2] [0] 0 Y Y Y Y (jj (hsE [0, 1, 2] [] 0 Y Y Y Y) (jA Y (jb Y Y ?_)))
       obtain ⟨t37, h18, hm⟩ := bindO hm
       refine jd [] [] Y Y Y Y Y Y Y call64 (fun w hh => qY t34 t18.cell (qA l_3.q) l_3.n l_3.cap w (HV.callee (S0 := []) (vs0 := []) hh (roC (hh.vsepA 0 Y h17) roN)) (vlen RI h17 Y) (AOK.q (vne h17)) (h17).hle h18) (fun l_4 h19 => ?_)
       refine jj (hsE [0, 1, 2] [] 0 Y Y Y Y) (qW Y Y Y Y Y Y (fun w _ => Y6 (runUnderlying4 w) Y Y) (jn Y Y Y Y (fun _ _ => Qi Y Y) (jM ?_)))
       obtain rfl := sj hm
       exact jk () (trivial) (sE Y) (hsE [0, 1, 2] [] 0 Y Y Y Y)
      replace hm := ifN h14 hm
      refine kA Y Y Y Y Y Y Y (Jq Y Y Y Y Y Y Y (kA Y Y Y Y Y Y Y (Jq Y Y Y Y Y Y Y (kA Y Y Y Y Y Y Y (Jq Y Y Y Y Y Y Y (jA Y (g_k Y Y Y Y ?_)))))))
      refine jj (fun w hh => hh) (jA Y (g_k Y Y Y Y (jj (fun w hh => hh) (kA Y Y Y Y Y Y Y (jn Y Y Y Y (fun _ _ => Kb Y Y) (jM ?_))))))
      obtain rfl := sj hm
      exact jk () (trivial) (sE Y) (fun w hh => hh)
     replace hm := ifE h11 hm
     refine kA Y Y Y Y Y Y Y (Jq Y Y Y Y Y Y Y (kA Y Y Y Y Y Y Y (jA Y (g_k Y Y Y Y (jj (fun w hh => hh) (jn Y Y Y Y (fun _ _ => Kb Y Y) (zs Y Y Y ?_)))))))
     refine kA Y Y Y Y Y Y Y (Jq Y Y Y Y Y Y Y (kA Y Y Y Y Y Y Y (Jq Y Y Y Y Y Y Y (kA Y Y Y Y Y Y Y (Jq Y Y Y Y Y Y Y (jA Y (g_k Y Y Y Y ?_)))))))
     refine jj (fun w hh => hh) (jA Y (g_k Y Y Y Y (jj (fun w hh => hh) (kA Y Y Y Y Y Y Y (jn Y Y Y Y (fun _ _ => Kb Y Y) (jM ?_))))))
     obtain rfl := sj hm
     exact jk () (trivial) (sE Y) (fun w hh => hh)
    intro l_1 hj
    replace hm := h10
    refine ja ?_
    refine ju Y (fun h20 => ?_) (fun h20 => ?_)
    ·replace hm := ifT (h20) hm
     refine jr (jo Y Y (jq (jv (jJ (jh (jh (jJ ?_)))))))
     obtain rfl := sj hm
     have hbo := h5 _ Y
     subst hbo
     refine jh ?_
     replace hm := ocR h4
     refine jh ?_
     obtain rfl := sj hm
     refine jm Y (fun w hh => (.tmp Y .nil)) (fun w hh => ⟨(), rfl, trivial, hh.se [] [] 5 Y Y Y rfl⟩)
    replace hm := ifN h20 hm
    refine jt (jw (ja (je ?_)))
    obtain ⟨t42, h21, hm⟩ := bindO hm
    refine Kq h21 Y Y Y (jg Y Y (jx ?_))
    obtain rfl := sj hm
    refine ja ?_
    exact jN _ () Y (trivial) (sE Y) (hsE [1, 2] [] 0 Y Y Y Y)
   replace hm := ifE h6 hm
   refine kN (jl (jl (jO ?_)))
   obtain rfl := sj hm
   have hbo := h5 _ Y
   subst hbo
   exact jk () (Y) (.nil) (fun w hh => hh)
  intro j hj
  have h22 := hj
  subst h22
  replace hm := ocL h4
  refine ja (jr (jo Y Y (jq (jv ?_))))
  obtain rfl := sj hm
  refine jm Y (fun w hh => (.tmp Y .nil)) (fun w hh => ⟨(), rfl, trivial, hh.se [] [] 5 Y Y Y rfl⟩)
def j7 (d00 : Int) (d01 : Int) (d02 : (List Int)) (d03 : (List Sand)) (d04 : (List Sight)) (d05 : (List Int)) (s1 : State) : Option State :=
 some s1
theorem zn (d00 : Int) (d01 : Int) (d02 : (List Int)) (d03 : (List Sand)) (d04 : (List Sight)) (d05 : (List Int)) (s1 : State) (rb : Nat) (qa1 : Option Addr) (na1 ca1 : Nat) (qa2 : Option Addr) (na2 ca2 : Nat) (qa3 : Option Addr) (na3 ca3 : Nat) (qa4 : Option Addr) (na4 ca4 : Nat) (w : World) (hw : HV w (keys [] []) [] [] [(rb, 0, [.int .i64 d00, .int .i64 d01, .slice qa1 na1 ca1, .slice qa2 na2 ca2, .slice qa3 na3 ca3, .slice qa4 na4 ca4]), (aB qa1, aO qa1, RI.enc d02), (aB qa2, aO qa2, RSa.enc d03), (aB qa3, aO qa3, RSi.enc d04), (aB qa4, aO qa4, RI.enc d05)] w)  (hna1 : d02.length = na1) (hqa1 : AOK na1 qa1) (hla1 : na1 ≤ ca1) (hna2 : d03.length = na2) (hqa2 : AOK na2 qa2) (hla2 : na2 ≤ ca2) (hna3 : d04.length = na3) (hqa3 : AOK na3 qa3) (hla3 : na3 ≤ ca3) (hna4 : d05.length = na4) (hqa4 : AOK na4 qa4) (hla4 : na4 ≤ ca4) {res : State} (hm : j7 d00 d01 d02 d03 d04 d05 s1 = some res) :
    Calls Tryz.prog 96 #[ptr rb 0, .agg #[.int .i64 s1.after, .int .i64 s1.at_.c0, .int .i64 s1.at_.c1, .int .i64 s1.at_.c2]] w (fun en w' => ∃ l : Nat × Nat, en = .returned (.func (.func 161) #[] #[ptr l.1 0, ptr l.2 0]) ∧ (True) ∧ HV w (keys [] []) [kc l.1 #[.int .i64 res.after, .int .i64 res.at_.c0, .int .i64 res.at_.c1, .int .i64 res.at_.c2] 159, kc l.2 #[ptr rb 0] 146] [] [] w') := by
  unfold j7 at hm
  refine yr func96 Y ntmps96 Y (e := [(0, _), (1, _)]) Y hw (jr ?_)
  refine jI Y Y (fun b h1 => ?_)
  refine jI Y Y (fun b_1 h2 => ?_)
  refine jo Y Y (k7 (jc Y Y Y (fun _ _ => ku (u := #[]) (u' := #[_, _]) Y Y) (jo Y Y (jq (jv ?_)))))
  obtain rfl := sj hm
  refine jm Y (fun w hh => (.tmp Y .nil)) (fun w hh => ⟨(b_1, b), rfl, trivial, hh.se [0, 1] [] 5 Y Y Y rfl⟩)
structure kf where
  r0 : Int
  a11 : (List (State × Int))
structure y4 where
  n9 : Int
  a11 : (List (State × Int))
structure kK where
  n9 : Int
  a11 : (List (State × Int))
structure KS where
  n9 : Int
  a11 : (List (State × Int))
def qj (rec_ : State → (List (State × Int)) → Int → Int → (List Int) → (List Sand) → (List Sight) → (List Int) → Option kf) (a220 : Int) (a221 : Int) (a222 : (List Int)) (a223 : (List Sand)) (a224 : (List Sight)) (a225 : (List Int)) (x : State) (s : kK) : Option kK :=
 ((rec_ x s.a11 a220 a221 a222 a223 a224 a225).bind fun t26 =>
 (addc s.n9 t26.r0).bind fun t27 =>
 some (⟨t27, t26.a11⟩ : KS)).bind fun o_2 =>
 some (⟨o_2.n9, o_2.a11⟩ : kK)
def yq (rec_ : State → (List (State × Int)) → Int → Int → (List Int) → (List Sand) → (List Sight) → (List Int) → Option kf) (s0 : State) (a11 : (List (State × Int))) (a220 : Int) (a221 : Int) (a222 : (List Int)) (a223 : (List Sand)) (a224 : (List Sight)) (a225 : (List Int)) : Option kf :=
 if ((aget a11 s0).isSome) = true then
 (some (⟨((aget a11 s0).getD 0), a11⟩ : kf)) else
 (((yJ a220 a221 a222 a223 a224 a225 s0).bind fun t32 =>
 if (!t32) = true then
 (some (⟨0, a11⟩ : y4)) else
 (if s0.after = a221 then
 (some (⟨1, a11⟩ : y4)) else
 ((j7 a220 a221 a222 a223 a224 a225 s0).bind fun t21 =>
 if nextOK a220 a225 (a222.length : Int) t21 then ((iterL (qj rec_ a220 a221 a222 a223 a224 a225) (nextL a220 a225 (a222.length : Int) t21) (⟨0, a11⟩ : kK)).bind fun o_1 =>
 some (⟨o_1.n9, o_1.a11⟩ : y4)) else none))).bind fun o =>
 (some (aset o.a11 s0 o.n9)).bind fun a11_1 =>
 some (⟨o.n9, a11_1⟩ : kf))
def jH : Nat → State → (List (State × Int)) → Int → Int → (List Int) → (List Sand) → (List Sight) → (List Int) → Option kf
  | 0, _, _, _, _, _, _, _, _ => none
  | fu + 1, s0, a11, a220, a221, a222, a223, a224, a225 => yq (jH fu) s0 a11 a220 a221 a222 a223 a224 a225
theorem QF (fu_ : Nat) : ∀ (s0 : State) (a11 : (List (State × Int))) (a220 : Int) (a221 : Int) (a222 : (List Int)) (a223 : (List Sand)) (a224 : (List Sight)) (a225 : (List Int)) (rb : Nat) (pb : Nat) (rb_1 : Nat) (rb_2 : Nat) (qa3 : Option Addr) (na3 ca3 : Nat) (qa4 : Option Addr) (na4 ca4 : Nat) (qa5 : Option Addr) (na5 ca5 : Nat) (qa6 : Option Addr) (na6 ca6 : Nat) (rb_3 : Nat) (rb_4 : Nat) (w : World) (hw : HV w (keys [(pb, gobj (kR RSta) kI a11)] []) [(pb, gobj (kR RSta) kI a11)] [] [(rb, 0, [.map (some pb)]), (rb_1, 0, [ptr rb_2 0]), (rb_2, 0, [.int .i64 a220, .int .i64 a221, .slice qa3 na3 ca3, .slice qa4 na4 ca4, .slice qa5 na5 ca5, .slice qa6 na6 ca6]), (aB qa3, aO qa3, RI.enc a222), (aB qa4, aO qa4, RSa.enc a223), (aB qa5, aO qa5, RSi.enc a224), (aB qa6, aO qa6, RI.enc a225), (rb_3, 0, [.func (.func 172) #[] #[]]), (rb_4, 0, [.func (.func 190) #[] #[ptr rb 0, ptr rb_1 0, ptr rb_3 0, ptr rb_4 0]])] w)    (hna3 : a222.length = na3) (hqa3 : AOK na3 qa3) (hla3 : na3 ≤ ca3) (hna4 : a223.length = na4) (hqa4 : AOK na4 qa4) (hla4 : na4 ≤ ca4) (hna5 : a224.length = na5) (hqa5 : AOK na5 qa5) (hla5 : na5 ≤ ca5) (hna6 : a225.length = na6) (hqa6 : AOK na6 qa6) (hla6 : na6 ≤ ca6)   {res : kf} (hm : jH fu_ s0 a11 a220 a221 a222 a223 a224 a225 = some res),
    Calls Tryz.prog 190 #[.agg #[.int .i64 s0.after, .int .i64 s0.at_.c0, .int .i64 s0.at_.c1, .int .i64 s0.at_.c2], ptr rb 0, ptr rb_1 0, ptr rb_3 0, ptr rb_4 0] w (fun en w' => ∃ l : Unit, en = .returned (.int .i64 res.r0) ∧ (True) ∧ HV w (keys [(pb, gobj (kR RSta) kI a11)] []) [(pb, gobj (kR RSta) kI res.a11)] [] [] w') := by
  induction fu_ with
  | zero =>
    intros
    rename_i hm
    exact absurd hm (by simp [jH])
  | succ fu_ ih =>
  intro s0 a11 a220 a221 a222 a223 a224 a225 rb pb rb_1 rb_2 qa3 na3 ca3 qa4 na4 ca4 qa5 na5 ca5 qa6 na6 ca6 rb_3 rb_4 w hw    hna3 hqa3 hla3 hna4 hqa4 hla4 hna5 hqa5 hla5 hna6 hqa6 hla6   res hm
  replace hm : yq (jH fu_) s0 a11 a220 a221 a222 a223 a224 a225 = some res := hm
  unfold yq at hm
  refine Yy (args := [.agg #[.int .i64 s0.after, .int .i64 s0.at_.c0, .int .i64 s0.at_.c1, .int .i64 s0.at_.c2], ptr rb 0, ptr rb_1 0, ptr rb_3 0, ptr rb_4 0]) func190 Y ntmps190 Y (e := [(0, _), (1, _), (2, _), (3, _), (4, _)]) Y (H := HV w (keys [(pb, gobj (kR RSta) kI a11)] []) [(pb, gobj (kR RSta) kI a11)] [] [(rb, 0, [.map (some pb)]), (rb_1, 0, [ptr rb_2 0]), (rb_2, 0, [.int .i64 a220, .int .i64 a221, .slice qa3 na3 ca3, .slice qa4 na4 ca4, .slice qa5 na5 ca5, .slice qa6 na6 ca6]), (aB qa3, aO qa3, RI.enc a222), (aB qa4, aO qa4, RSa.enc a223), (aB qa5, aO qa5, RSi.enc a224), (aB qa6, aO qa6, RI.enc a225), (rb_3, 0, [.func (.func 172) #[] #[]]), (rb_4, 0, [.func (.func 190) #[] #[ptr rb 0, ptr rb_1 0, ptr rb_3 0, ptr rb_4 0]])]) hw ?_
  refine QZ (jr ?_)
  refine jI Y Y (fun b h1 => ?_)
  refine jo Y Y (jq (ji (jr (jc Y Y Y (fun w hh => jz (isAgg153 w) Y (segCell (hh.seg 0 Y) 0 Y)) (zX [_, _, _, _] 0 isAgg159 sizeOf159 Y Y Y Y (jc Y Y Y (fun w hh => Zv (k := s0) (z := 0) (runUnderlying153 w) yz (zeroValue3 w) Y Y (hh.mget 1 Y)) (jg Y Y ?_)))))))
  refine zo Y Y Y (zo Y Y Y (jo Y Y (jo Y Y (k7 (jg Y Y (jq ?_))))))
  refine ju Y (fun h2 => ?_) (fun h2 => ?_)
  ·replace hm := ifT (h2) hm
   refine jr (jg Y Y (jo Y Y (jq (jv (jh ?_)))))
   obtain rfl := sj hm
   refine Ks Y Y Y (fun w hh => (.tmp Y .nil)) (fun w hh => ⟨(), rfl, trivial, hh.se [1] [] 9 Y Y Y rfl⟩)
  replace hm := ifN h2 hm
  refine jt (ja (jr ?_))
  refine js (fun w => zeroValue3 w) Y (fun b_1 h3 => ?_)
  refine q4 (cs' := #[_]) (S' := [_, _, _]) 0 (fun w => sizeOf3 w) Y Y Y Y Y Y Y (jq (ji ?_))
  obtain ⟨o, h4, h5⟩ := bindO hm
  refine YQ (ι := List Nat) (fun l => mks l) (fun l => True) (fun l => [(1, ptr rb 0), (5, ptr b 0), (9, ptr b_1 0)]) (fun l => [kc b_1 #[.int .i64 o.n9] 3, kc b #[.int .i64 s0.after, .int .i64 s0.at_.c0, .int .i64 s0.at_.c1, .int .i64 s0.at_.c2] 159, (pb, gobj (kR RSta) kI o.a11)]) (fun l => [mkV l]) ?_ ?_
  ·replace hm := h4
   refine jp (jr (jc Y Y Y (fun w hh => jz (isAgg146 w) Y (segCell (hh.seg 1 Y) 0 Y)) (jc Y Y Y (fun w hh => jP (vs := [_]) (isAgg181 w) (sizeOf181 w) Y (segCells (hh.seg 7 Y) 0 Y)) (zX [_, _, _, _] 1 isAgg159 sizeOf159 Y Y Y Y ?_))))
   obtain ⟨t32, h6, hm⟩ := bindO hm
   refine jd [] [] Y Y Y Y Y Y Y call143 (fun w hh => Yc a220 a221 a222 a223 a224 a225 s0 rb_2 qa3 na3 ca3 qa4 na4 ca4 qa5 na5 ca5 qa6 na6 ca6 w (HV.callee (S0 := []) (vs0 := []) hh (roR hh 2 Y (roR hh 3 Y (roR hh 4 Y (roR hh 5 Y (roR hh 6 Y roN)))))) hna3 hqa3 hla3 hna4 hqa4 hla4 hna5 hqa5 hla5 hna6 hqa6 hla6 h6) (fun l_1 h7 => ?_)
   refine jc Y Y Y (fun _ _ => zt Y) (jo Y Y (jq ?_))
   refine ju Y (fun h8 => ?_) (fun h8 => ?_)
   ·replace hm := ifT (h8) hm
    refine jt (jw ?_)
    obtain rfl := sj hm
    exact J8 [] Y (trivial) (sE Y) (fun w hh => hh)
   replace hm := ifN h8 hm
   refine ji ?_
   refine ky none (.free 0 (.hoist 1 (.hoist 2 (.free 3 (.free 4 (.free 5 (.hoist 6 (.free 7 (.free 8 .done))))))))) _ Y (by decide +kernel) (fun w k hh => hh.draw k) (fun w hh => hh) ?_
   refine JT 0 runUnderlying159 sizeOf3 Y Y Y Y (Kg 1 isAgg3 Y Y Y Y Y (jy Y Y Y Y (fun w hh => jz (isAgg146 w) Y (segCell (hh.seg 1 Y) 0 Y)) (jn Y Y Y Y (fun _ _ => jQ Y) (JT 0 runUnderlying175 sizeOf26 Y Y Y Y (JT 1 runUnderlying26 sizeOf3 Y Y Y Y (jy Y Y Y Y (fun w hh => jz (isAgg3 w) Y (segCell (hh.seg 2 Y) 1 Y)) (jn Y Y Y Y (fun _ _ => Ju Y Y) ?_)))))))
   refine jn Y Y Y Y (fun _ _ => kM Y) (jM (ja ?_))
   refine ju Y (fun h9 => ?_) (fun h9 => ?_)
   ·replace hm := ifD h9 hm
    refine je (q4 (cs' := #[_]) (S' := [_, _, _]) 0 (fun w => sizeOf3 w) Y Y Y Y Y Y Y (jx (jw ?_)))
    obtain rfl := sj hm
    exact J8 [] Y (trivial) (sE Y) (fun w hh => hh)
   replace hm := ifE h9 hm
   refine jr (jc Y Y Y (fun w hh => jz (isAgg146 w) Y (segCell (hh.seg 1 Y) 0 Y)) (zX [_, _, _, _] 1 isAgg159 sizeOf159 Y Y Y Y ?_))
   obtain ⟨t21, h10, hm⟩ := bindO hm
   refine jd [] [] Y Y Y Y Y Y Y call96 (fun w hh => zn a220 a221 a222 a223 a224 a225 s0 rb_2 qa3 na3 ca3 qa4 na4 ca4 qa5 na5 ca5 qa6 na6 ca6 w (HV.callee (S0 := []) (vs0 := []) hh (roR hh 2 Y (roR hh 3 Y (roR hh 4 Y (roR hh 5 Y (roR hh 6 Y roN)))))) hna3 hqa3 hla3 hna4 hqa4 hla4 hna5 hqa5 hla5 hna6 hqa6 hla6 h10) (fun l_2 h11 => ?_)
   refine jV (S' := [_, _, _, _, _]) (vs' := [_]) [0, 1, 2, 3, 4] [0] 0 Y Y Y Y (jq (jp ?_))
   obtain ⟨h12, hm⟩ := ifO hm
   refine ZD (e' := [(1, ptr rb 0), (4, ptr rb_4 0), (5, ptr b 0), (9, ptr b_1 0), (21, .func (.func 161) #[] #[ptr l_2.1 0, ptr l_2.2 0])]) (sE Y) ?_
   obtain ⟨o_1, h13, hm⟩ := bindO hm
   refine Qp (ι := Unit) (nextL a220 a225 (a222.length : Int) t21) (fun x => .agg #[.int .i64 x.after, .int .i64 x.at_.c0, .int .i64 x.at_.c1, .int .i64 x.at_.c2]) h13 (fun s l_3 => True) (fun s l_3 => [kc l_2.1 #[.int .i64 t21.after, .int .i64 t21.at_.c0, .int .i64 t21.at_.c1, .int .i64 t21.at_.c2] 159, kc l_2.2 #[ptr rb_2 0] 146, kc b_1 #[.int .i64 s.n9] 3, kc b #[.int .i64 s0.after, .int .i64 s0.at_.c0, .int .i64 s0.at_.c1, .int .i64 s0.at_.c2] 159, (pb, gobj (kR RSta) kI s.a11)]) (fun s l_3 => [mkV []]) () (trivial) (fun w hh => hh) (RdN l_2.2 rb_2 l_2.1 a220 (.int .i64 a221) (.slice qa4 na4 ca4) (.slice qa5 na5 ca5) qa3 qa6 na3 ca3 na6 ca6 a225 t21) (fun s l_3 w h14 hh => ⟨hh.bseg 1 rfl, hh.seg 2 rfl, hh.bseg 0 rfl, hh.seg 6 rfl⟩) (fun x => (.cells #[.int .i64 x.after, .int .i64 x.at_.c0, .int .i64 x.at_.c1, .int .i64 x.at_.c2] 159 (0, 0))) (it_next _ _ _ l_2.2 rb_2 l_2.1 a220 (.int .i64 a221) (.slice qa4 na4 ca4) (.slice qa5 na5 ca5) qa3 qa6 na3 ca3 na6 ca6 a222 a225 t21 hna3 hna6 hqa6 h12) Y call161 Y (e1 := fun x bx => (10, ptr bx 0) :: (22, .agg #[.int .i64 x.after, .int .i64 x.at_.c0, .int .i64 x.at_.c1, .int .i64 x.at_.c2]) :: [(1, ptr rb 0), (4, ptr rb_4 0), (5, ptr b 0), (9, ptr b_1 0), (21, .func (.func 161) #[] #[ptr l_2.1 0, ptr l_2.2 0])]) (fun x lr L X hX => ?_) (fun x s r l_3 lr w1 bx h14 hm => ?_) (fun l_3 D h14 => ?_)
   ·refine je ?_
    refine js (fun w => zeroValue159 w) Y (fun b_2 h17 => ?_)
    refine kz (us := #[_, _, _, _]) (cs' := [_, _, _, _]) (S' := [_]) 0 (fun w => sizeOf159 w) Y Y Y Y Y Y Y (jq ?_)
    exact hX _
   ·unfold qj at hm
    refine jp ?_
    obtain ⟨o_2, h18, h19⟩ := bindO hm
    refine j3 (ι := Unit) (fun l_4 => True) (fun l_4 => []) (fun l_4 => [kc bx #[.int .i64 x.after, .int .i64 x.at_.c0, .int .i64 x.at_.c1, .int .i64 x.at_.c2] 159, kc l_2.1 #[.int .i64 t21.after, .int .i64 t21.at_.c0, .int .i64 t21.at_.c1, .int .i64 t21.at_.c2] 159, kc l_2.2 #[ptr rb_2 0] 146, kc b_1 #[.int .i64 o_2.n9] 3, kc b #[.int .i64 s0.after, .int .i64 s0.at_.c0, .int .i64 s0.at_.c1, .int .i64 s0.at_.c2] 159, (pb, gobj (kR RSta) kI o_2.a11)]) (fun l_4 => [mkV []]) ?_ ?_
    ·replace hm := h18
     refine ky (some 5) (.hoist 0 (.hoist 1 (.hoist 2 (.one 3 (.free 4 (.last 5 .done)))))) (HV _ _ [kc bx #[.int .i64 x.after, .int .i64 x.at_.c0, .int .i64 x.at_.c1, .int .i64 x.at_.c2] 159, kc l_2.1 #[.int .i64 t21.after, .int .i64 t21.at_.c0, .int .i64 t21.at_.c1, .int .i64 t21.at_.c2] 159, kc l_2.2 #[ptr rb_2 0] 146, kc b_1 #[.int .i64 s.n9] 3, kc b #[.int .i64 s0.after, .int .i64 s0.at_.c0, .int .i64 s0.at_.c1, .int .i64 s0.at_.c2] 159] [mkV []] _) Y (by decide +kernel) (fun w k hh => hh.draw k) (hsE [0, 1, 2, 3, 4] [0] 0 Y Y Y Y) ?_
     refine Kg 3 isAgg3 Y Y Y Y Y (jy Y Y Y Y (fun w hh => jz (isAgg171 w) Y (segCell (hh.seg 8 Y) 0 Y)) (jy Y Y Y Y (fun w hh => jP (vs := [_, _, _, _]) (isAgg159 w) (sizeOf159 w) Y (hh.cells 0 Y Y)) (jA Y ?_)))
     obtain ⟨t26, h20, hm⟩ := bindO hm
     refine jV (S' := [_, _, _, _, _, _]) (vs' := [_]) [5, 0, 1, 2, 3, 4] [0] 0 Y Y Y Y ?_
     refine jd [_] [] Y Y Y Y Y Y Y call190 (fun w hh => ih x s.a11 a220 a221 a222 a223 a224 a225 rb pb rb_1 rb_2 qa3 na3 ca3 qa4 na4 ca4 qa5 na5 ca5 qa6 na6 ca6 rb_3 rb_4 w (HV.callee (S0 := [_]) (vs0 := []) hh (roR hh 0 Y (roR hh 1 Y (roR hh 2 Y (roR hh 3 Y (roR hh 4 Y (roR hh 5 Y (roR hh 6 Y (roR hh 7 Y (roR hh 8 Y roN)))))))))) hna3 hqa3 hla3 hna4 hqa4 hla4 hna5 hqa5 hla5 hna6 hqa6 hla6 h20) (fun l_5 h21 => ?_)
     refine jV (S' := [_, _, _, _, _, _]) (vs' := [_]) [0, 1, 2, 3, 4, 5] [0] 0 Y Y Y Y (jj (hsE [1, 2, 3, 4, 5] [0] 0 Y Y Y Y) ?_)
     obtain ⟨t27, h22, hm⟩ := bindO hm
     refine jn Y Y Y Y (fun _ _ => Kh h22 Y Y) (YG Y (q4 (cs' := #[_]) (S' := [_, _, _, _, _, _]) 4 (fun w => sizeOf3 w) Y Y Y Y Y Y Y (QH (jM ?_))))
     obtain rfl := sj hm
     exact jk () (trivial) (.nil) (hsE [1, 2, 3, 4, 5, 0] [0] 0 Y Y Y Y)
    intro l_4 hj
    replace hm := h19
    refine jw ?_
    obtain rfl := sj hm
    exact QU (⟨o_2.n9, o_2.a11⟩ : kK) () Y (trivial) (hsE [1, 2, 3, 4, 5] [0] 9 Y Y Y Y)
   refine YE 0 Y Y (jw (jw ?_))
   obtain rfl := sj hm
   exact J8 (D :: []) Y (trivial) (sE Y) (hsE [2, 3, 4] [0] 0 Y Y Y Y)
  intro l hj
  replace hm := h5
  refine ja (jr (jc Y Y Y (fun w hh => jz (isAgg153 w) Y (segCell (hh.seg 0 Y) 0 Y)) (zX [_, _, _, _] 1 isAgg159 sizeOf159 Y Y Y Y (yf 0 isAgg3 Y Y Y Y ?_))))
  obtain ⟨a11_1, h23, hm⟩ := bindO hm
  refine QB (k := s0) (v := o.n9) 2 (fun w => runUnderlying153 w) yz Y Y Y Y (Option.some.inj h23) Y (k7 (yf 0 isAgg3 Y Y Y Y (jo Y Y (jq (jv ?_)))))
  obtain rfl := sj hm
  refine Ks Y Y Y (fun w hh => (.tmp Y .nil)) (fun w hh => ⟨(), rfl, trivial, hh.se [2] [] 9 Y Y Y rfl⟩)
def qG (d00 : Int) (d01 : Int) (d02 : (List Int)) (d03 : (List Sand)) (d04 : (List Sight)) (d05 : (List Int)) : Option (List (State × Int)) :=
 (jB d00 d01 d02 d03 d04 d05).bind fun t11 =>
 (jH FU t11 [] d00 d01 d02 d03 d04 d05).bind fun t12 =>
 some t12.a11
theorem JP (d00 : Int) (d01 : Int) (d02 : (List Int)) (d03 : (List Sand)) (d04 : (List Sight)) (d05 : (List Int)) (rb : Nat) (qa1 : Option Addr) (na1 ca1 : Nat) (qa2 : Option Addr) (na2 ca2 : Nat) (qa3 : Option Addr) (na3 ca3 : Nat) (qa4 : Option Addr) (na4 ca4 : Nat) (w : World) (hw : HV w (keys [] []) [] [] [(rb, 0, [.int .i64 d00, .int .i64 d01, .slice qa1 na1 ca1, .slice qa2 na2 ca2, .slice qa3 na3 ca3, .slice qa4 na4 ca4]), (aB qa1, aO qa1, RI.enc d02), (aB qa2, aO qa2, RSa.enc d03), (aB qa3, aO qa3, RSi.enc d04), (aB qa4, aO qa4, RI.enc d05)] w)  (hna1 : d02.length = na1) (hqa1 : AOK na1 qa1) (hla1 : na1 ≤ ca1) (hna2 : d03.length = na2) (hqa2 : AOK na2 qa2) (hla2 : na2 ≤ ca2) (hna3 : d04.length = na3) (hqa3 : AOK na3 qa3) (hla3 : na3 ≤ ca3) (hna4 : d05.length = na4) (hqa4 : AOK na4 qa4) (hla4 : na4 ≤ ca4) {res : (List (State × Int))} (hm : qG d00 d01 d02 d03 d04 d05 = some res) :
    Calls Tryz.prog 159 #[ptr rb 0, .agg #[.func (.func 172) #[] #[]]] w (fun en w' => ∃ l : Nat, en = .returned (.map (some l)) ∧ (True) ∧ HV w (keys [] []) [(l, gobj (kR RSta) kI res)] [] [] w') := by
  unfold qG at hm
  refine yr func159 Y ntmps159 Y (e := [(0, _), (1, _)]) Y hw (jr ?_)
  refine jI Y Y (fun b h1 => ?_)
  refine jI Y Y (fun b_1 h2 => ?_)
  refine jo Y Y (k7 ?_)
  refine Q8 (kR RSta) kI Y (fun b_2 h3 => ?_)
  refine js (fun w => zeroValue153 w) Y (fun b_3 h4 => ?_)
  refine q4 (cs' := #[_]) (S' := [_, _, _, _]) 0 (fun w => sizeOf153 w) Y Y Y Y Y Y Y (k7 ?_)
  refine js (fun w => zeroValue171 w) Y (fun b_4 h5 => ?_)
  refine k7 (jc Y Y Y (fun _ _ => ku (u := #[]) (u' := #[_, _, _, _]) Y Y) (q4 (cs' := #[_]) (S' := [_, _, _, _, _]) 0 (fun w => sizeOf171 w) Y Y Y Y Y Y Y (jq (ji ?_))))
  refine ky none (.hoist 0 (.hoist 1 (.one 2 (.one 3 .done)))) (HV _ _ [kc b_4 #[.func (.func 190) #[] #[ptr b_3 0, ptr b 0, ptr b_1 0, ptr b_4 0]] 171, kc b_3 #[.map (some b_2)] 153, kc b_1 #[.func (.func 172) #[] #[]] 181, kc b #[ptr rb 0] 146] [] _) Y (by decide +kernel) (fun w k hh => hh.draw k) (hsE [0, 1, 3, 4] [] 0 Y Y Y Y) ?_
  refine Kg 0 isAgg171 Y Y Y Y Y (Kg 3 isAgg146 Y Y Y Y Y (jA Y ?_))
  obtain ⟨t11, h6, hm⟩ := bindO hm
  refine jd [] [] Y Y Y Y Y Y Y call99 (fun w hh => jW d00 d01 d02 d03 d04 d05 rb qa1 na1 ca1 qa2 na2 ca2 qa3 na3 ca3 qa4 na4 ca4 w (HV.callee (S0 := []) (vs0 := []) hh (roR hh 0 Y (roR hh 1 Y (roR hh 2 Y (roR hh 3 Y (roR hh 4 Y roN)))))) hna1 hqa1 hla1 hna2 hqa2 hla2 hna3 hqa3 hla3 hna4 hqa4 hla4 h6) (fun l h7 => ?_)
  refine jj (hsE [0, 1, 3, 4] [] 0 Y Y Y Y) (jA Y ?_)
  obtain ⟨t12, h8, hm⟩ := bindO hm
  refine jV (S' := [_, _, _, _, _]) (vs' := []) [2, 0, 1, 3, 4] [] 0 Y Y Y Y ?_
  refine jd [_] [] Y Y Y Y Y Y Y call190 (fun w hh => QF FU t11 [] d00 d01 d02 d03 d04 d05 b_3 b_2 b rb qa1 na1 ca1 qa2 na2 ca2 qa3 na3 ca3 qa4 na4 ca4 b_1 b_4 w (HV.callee (S0 := [_]) (vs0 := []) hh (roC (hh.bsepH 1 Y) (roC (hh.bsepH 3 Y) (roR hh 0 Y (roR hh 1 Y (roR hh 2 Y (roR hh 3 Y (roR hh 4 Y (roC (hh.bsepH 2 Y) (roC (hh.bsepH 0 Y) roN)))))))))) hna1 hqa1 hla1 hna2 hqa2 hla2 hna3 hqa3 hla3 hna4 hqa4 hla4 h8) (fun l_1 h9 => ?_)
  refine jV (S' := [_, _, _, _, _]) (vs' := []) [0, 1, 2, 3, 4] [] 0 Y Y Y Y (jj (hsE [1, 2, 3, 4] [] 0 Y Y Y Y) (jM (ja (jr (yf 2 isAgg153 Y Y Y Y (jo Y Y (jq ?_)))))))
  refine jv ?_
  obtain rfl := sj hm
  refine jm Y (fun w hh => (.tmp Y .nil)) (fun w hh => ⟨b_2, rfl, trivial, hh.se [0] [] 5 Y Y Y rfl⟩)
def yh (d00 : Int) (d01 : Int) (d02 : (List Int)) (d03 : (List Sand)) (d04 : (List Sight)) (d05 : (List Int)) : Option Int :=
 (zD).bind fun t4 =>
 (qG d00 d01 d02 d03 d04 d05).bind fun t5 =>
 (jB d00 d01 d02 d03 d04 d05).bind fun t7 =>
 some ((aget t5 t7).getD 0)
theorem KN (d00 : Int) (d01 : Int) (d02 : (List Int)) (d03 : (List Sand)) (d04 : (List Sight)) (d05 : (List Int)) (rb : Nat) (qa1 : Option Addr) (na1 ca1 : Nat) (qa2 : Option Addr) (na2 ca2 : Nat) (qa3 : Option Addr) (na3 ca3 : Nat) (qa4 : Option Addr) (na4 ca4 : Nat) (w : World) (hw : HV w (keys [] []) [] [] [(rb, 0, [.int .i64 d00, .int .i64 d01, .slice qa1 na1 ca1, .slice qa2 na2 ca2, .slice qa3 na3 ca3, .slice qa4 na4 ca4]), (aB qa1, aO qa1, RI.enc d02), (aB qa2, aO qa2, RSa.enc d03), (aB qa3, aO qa3, RSi.enc d04), (aB qa4, aO qa4, RI.enc d05)] w)  (hna1 : d02.length = na1) (hqa1 : AOK na1 qa1) (hla1 : na1 ≤ ca1) (hna2 : d03.length = na2) (hqa2 : AOK na2 qa2) (hla2 : na2 ≤ ca2) (hna3 : d04.length = na3) (hqa3 : AOK na3 qa3) (hla3 : na3 ≤ ca3) (hna4 : d05.length = na4) (hqa4 : AOK na4 qa4) (hla4 : na4 ≤ ca4) {res : Int} (hm : yh d00 d01 d02 d03 d04 d05 = some res) :
    Calls Tryz.prog 94 #[ptr rb 0] w (fun en w' => ∃ l : Unit, en = .returned (.int .i64 res) ∧ (True) ∧ HV w (keys [] []) [] [] [] w') := by
  unfold yh at hm
  refine yr func94 Y ntmps94 Y (e := [(0, _)]) Y hw (jr (jo Y Y (k7 (jg Y Y ?_))))
  obtain ⟨t4, h1, hm⟩ := bindO hm
  refine jd [] [] Y Y Y Y Y Y Y call126 (fun w hh => Q1  w (HV.callee (S0 := []) (vs0 := []) hh roN)  h1) (fun l h2 => ?_)
  obtain ⟨t5, h3, hm⟩ := bindO hm
  refine jd [] [] Y Y Y Y Y Y Y call159 (fun w hh => JP d00 d01 d02 d03 d04 d05 rb qa1 na1 ca1 qa2 na2 ca2 qa3 na3 ca3 qa4 na4 ca4 w (HV.callee (S0 := []) (vs0 := []) hh (roR hh 0 Y (roR hh 1 Y (roR hh 2 Y (roR hh 3 Y (roR hh 4 Y roN)))))) hna1 hqa1 hla1 hna2 hqa2 hla2 hna3 hqa3 hla3 hna4 hqa4 hla4 h3) (fun l_1 h4 => ?_)
  refine jV (S' := [_]) (vs' := []) [0] [] 0 Y Y Y Y (jg Y Y ?_)
  obtain ⟨t7, h5, hm⟩ := bindO hm
  refine jd [] [] Y Y Y Y Y Y Y call99 (fun w hh => jW d00 d01 d02 d03 d04 d05 rb qa1 na1 ca1 qa2 na2 ca2 qa3 na3 ca3 qa4 na4 ca4 w (HV.callee (S0 := []) (vs0 := []) hh (roR hh 0 Y (roR hh 1 Y (roR hh 2 Y (roR hh 3 Y (roR hh 4 Y roN)))))) hna1 hqa1 hla1 hna2 hqa2 hla2 hna3 hqa3 hla3 hna4 hqa4 hla4 h5) (fun l_2 h6 => ?_)
  refine jc Y Y Y (fun w hh => Qj (k := t7) (z := 0) (runUnderlying153 w) yz (zeroValue3 w) Y Y (hh.mget 0 Y)) (jo Y Y (jq (jv ?_)))
  obtain rfl := sj hm
  refine jm Y (fun w hh => (.tmp Y .nil)) (fun w hh => ⟨(), rfl, trivial, hh.se [] [] 5 Y Y Y rfl⟩)
structure zN where
  r0 : Int
  r1 : Int
def qL (c0 : Channel) : Option zN :=
 (yw c0).bind fun t8 =>
 oc t8 (fun t8a => some (⟨0, t8a⟩ : zN)) (fun t8b => (yh t8b.t14_0 t8b.t14_1 c0.fords c0.sands c0.sights t8b.t14_5).bind fun t15 =>
 some (⟨t15, 0⟩ : zN))
theorem Jz (c0 : Channel) (qa0 : Option Addr) (na0 ca0 : Nat) (qa1 : Option Addr) (na1 ca1 : Nat) (qa2 : Option Addr) (na2 ca2 : Nat) (w : World) (hw : HV w (keys [] []) [] [] [(aB qa0, aO qa0, RI.enc c0.fords), (aB qa1, aO qa1, RSa.enc c0.sands), (aB qa2, aO qa2, RSi.enc c0.sights)] w) (hna0 : c0.fords.length = na0) (hqa0 : AOK na0 qa0) (hla0 : na0 ≤ ca0) (hna1 : c0.sands.length = na1) (hqa1 : AOK na1 qa1) (hla1 : na1 ≤ ca1) (hna2 : c0.sights.length = na2) (hqa2 : AOK na2 qa2) (hla2 : na2 ≤ ca2) {res : zN} (hm : qL c0 = some res) :
    Calls Tryz.prog 26 #[.agg #[.int .i64 c0.cells, .int .i64 c0.tides, .slice qa0 na0 ca0, .slice qa1 na1 ca1, .slice qa2 na2 ca2]] w (fun en w' => ∃ l : Unit, en = .returned (.tuple #[.int .i64 res.r0, .int .i64 res.r1]) ∧ (True) ∧ HV w (keys [] []) [] [] [] w') := by
  unfold qL at hm
  refine yr func26 Y ntmps26 Y (e := [(0, _)]) Y hw (jr ?_)
  refine jI Y Y (fun b h1 => ?_)
  refine jo Y Y (jo Y Y (k7 (zX [_, _, _, _, _] 0 isAgg26 sizeOf26 Y Y Y Y ?_)))
  obtain ⟨t8, h2, hm⟩ := bindO hm
  rcases t8 with t8a | t8b
  ·replace hm := ocL hm
   refine jd [] [] Y Y Y Y Y Y Y call93 (fun w hh => yv c0 qa0 na0 ca0 qa1 na1 ca1 qa2 na2 ca2 w (HV.callee (S0 := []) (vs0 := []) hh (roR hh 0 Y (roR hh 1 Y (roR hh 2 Y roN)))) hna0 hqa0 hla0 hna1 hqa1 hla1 hna2 hqa2 hla2 h2) (fun l h3 => ?_)
   have h4 := h3
   refine jg Y Y (zo Y Y Y (zo Y Y Y (jo Y Y (jo Y Y (jq (ji (jr ?_)))))))
   refine jg Y Y (jc Y Y Y (fun _ _ => YR h4 Y Y) (jq (J1 Y Y (jr (jg Y Y (jo Y Y (jo Y Y ?_)))))))
   refine jq (jv (jh ?_))
   obtain rfl := sj hm
   refine jm Y (fun w hh => (.tmp Y (.tmp Y .nil))) (fun w hh => ⟨(), rfl, trivial, hh.se [] [] 3 Y Y Y rfl⟩)
  replace hm := ocR hm
  refine jd [] [] Y Y Y Y Y Y Y call93 (fun w hh => yv c0 qa0 na0 ca0 qa1 na1 ca1 qa2 na2 ca2 w (HV.callee (S0 := []) (vs0 := []) hh (roR hh 0 Y (roR hh 1 Y (roR hh 2 Y roN)))) hna0 hqa0 hla0 hna1 hqa1 hla1 hna2 hqa2 hla2 h2) (fun l_1 h5 => ?_)
  have h6 := h5
  refine jV (S' := [_, _]) (vs' := [_]) [0, 1] [0] 0 Y Y Y Y (jg Y Y (zo Y Y Y (zo Y Y Y (jo Y Y (jo Y Y (jq (ji ?_)))))))
  refine jr (jg Y Y (jc Y Y Y (fun _ _ => Jc Y Y) (jq (Ka Y Y (jt (ja (jr ?_)))))))
  refine jg Y Y ?_
  obtain ⟨t15, h7, hm⟩ := bindO hm
  refine jd [] [] Y Y Y Y Y Y Y call94 (fun w hh => KN t8b.t14_0 t8b.t14_1 c0.fords c0.sands c0.sights t8b.t14_5 l_1.1 qa0 na0 ca0 qa1 na1 ca1 qa2 na2 ca2 (qA l_1.2.q) l_1.2.n l_1.2.cap w (HV.callee (S0 := []) (vs0 := []) hh (roC (bsep (hh.bseg 0 Y)) (roR hh 0 Y (roR hh 1 Y (roR hh 2 Y (roC (hh.vsepA 0 Y h6) roN)))))) hna0 hqa0 hla0 hna1 hqa1 hla1 hna2 hqa2 hla2 (vlen RI h6 Y) (AOK.q (vne h6)) (h6).hle h7) (fun l_2 h8 => ?_)
  refine jo Y Y (jo Y Y (jq (jv ?_)))
  obtain rfl := sj hm
  refine jm Y (fun w hh => (.tmp Y (.tmp Y .nil))) (fun w hh => ⟨(), rfl, trivial, hh.se [] [] 3 Y Y Y rfl⟩)
structure yA where
  t28 : Int
  out4 : (List (List State))
structure JV where
  t31 : (List (State × Bool))
  l7 : (List State)
structure yB where
  t37 : Int
  t31 : (List (State × Bool))
  l7 : (List State)
structure kv where
  t31 : (List (State × Bool))
  l7 : (List State)
structure Qq where
  t31 : (List (State × Bool))
  l7 : (List State)
def qJ (t13 : (List (State × Int))) (x : State) (s_2 : kv) : Option kv :=
 (if 0 < ((aget t13 x).getD 0) then
 (some (!((aget s_2.t31 x).getD false))) else
 (some false)).bind fun o_3 =>
 if o_3 = true then
 (((appc 32 s_2.l7 [x]).bind fun t60 =>
 (some (aset s_2.t31 x true)).bind fun t31 =>
 some (⟨t31, t60⟩ : Qq)).bind fun o_4 =>
 some (⟨o_4.t31, o_4.l7⟩ : kv)) else
 (some (⟨s_2.t31, s_2.l7⟩ : kv))
def k5 (t34 : (List State)) (d00 : Int) (d01 : Int) (d02 : (List Int)) (d03 : (List Sand)) (d04 : (List Sight)) (d05 : (List Int)) (t13 : (List (State × Int))) (s_1 : yB) : Option (yB ⊕ JV) :=
 if s_1.t37 < (t34.length : Int) then
 ((ix t34 s_1.t37).bind fun t39 =>
 (j7 d00 d01 d02 d03 d04 d05 (⟨t39.after, (⟨t39.at_.c0, t39.at_.c1, t39.at_.c2⟩ : Cells)⟩ : State)).bind fun t43 =>
 if nextOK d00 d05 (d02.length : Int) t43 then ((iterL (qJ t13) (nextL d00 d05 (d02.length : Int) t43) (⟨s_1.t31, s_1.l7⟩ : kv)).bind fun o_2 =>
 (addc s_1.t37 1).bind fun t61 =>
 some (.inl (⟨t61, o_2.t31, o_2.l7⟩ : yB))) else none) else
 (some (.inr (⟨s_1.t31, s_1.l7⟩ : JV)))
def k4 (d01 : Int) (d00 : Int) (d02 : (List Int)) (d03 : (List Sand)) (d04 : (List Sight)) (d05 : (List Int)) (t13 : (List (State × Int))) (s : yA) : Option (yA ⊕ (List (List State))) :=
 if s.t28 < d01 then
 ((ix s.out4 s.t28).bind fun t34 =>
 (iterM FU (k5 t34 d00 d01 d02 d03 d04 d05 t13) (⟨0, [], []⟩ : yB)).bind fun o_1 =>
 (appc 24 s.out4 [o_1.l7]).bind fun t65 =>
 (addc s.t28 1).bind fun t66 =>
 some (.inl (⟨t66, t65⟩ : yA))) else
 (some (.inr s.out4))
def yu (d00 : Int) (d01 : Int) (d02 : (List Int)) (d03 : (List Sand)) (d04 : (List Sight)) (d05 : (List Int)) : Option (Unit ⊕ (List (List State))) :=
 (zD).bind fun t12 =>
 (qG d00 d01 d02 d03 d04 d05).bind fun t13 =>
 (jB d00 d01 d02 d03 d04 d05).bind fun t16 =>
 if ((aget t13 t16).getD 0) = 0 then
 (some (.inl ())) else
 ((jB d00 d01 d02 d03 d04 d05).bind fun t20 =>
 (iterM FU (k4 d01 d00 d02 d03 d04 d05 t13) (⟨0, [[t20]]⟩ : yA)).bind fun o =>
 some (.inr o))
theorem Kt (d00 : Int) (d01 : Int) (d02 : (List Int)) (d03 : (List Sand)) (d04 : (List Sight)) (d05 : (List Int)) (rb : Nat) (qa1 : Option Addr) (na1 ca1 : Nat) (qa2 : Option Addr) (na2 ca2 : Nat) (qa3 : Option Addr) (na3 ca3 : Nat) (qa4 : Option Addr) (na4 ca4 : Nat) (w : World) (hw : HV w (keys [] []) [] [] [(rb, 0, [.int .i64 d00, .int .i64 d01, .slice qa1 na1 ca1, .slice qa2 na2 ca2, .slice qa3 na3 ca3, .slice qa4 na4 ca4]), (aB qa1, aO qa1, RI.enc d02), (aB qa2, aO qa2, RSa.enc d03), (aB qa3, aO qa3, RSi.enc d04), (aB qa4, aO qa4, RI.enc d05)] w)  (hna1 : d02.length = na1) (hqa1 : AOK na1 qa1) (hla1 : na1 ≤ ca1) (hna2 : d03.length = na2) (hqa2 : AOK na2 qa2) (hla2 : na2 ≤ ca2) (hna3 : d04.length = na3) (hqa3 : AOK na3 qa3) (hla3 : na3 ≤ ca3) (hna4 : d05.length = na4) (hqa4 : AOK na4 qa4) (hla4 : na4 ≤ ca4) {res : (Unit ⊕ (List (List State)))} (hm : yu d00 d01 d02 d03 d04 d05 = some res) :
    Calls Tryz.prog 160 #[ptr rb 0] w (fun en w' => match res with | .inl res_ => (∃ l : Unit, en = .returned (slv none 0 0) ∧ (True) ∧ HV w (keys [] []) [] [] [] w') | .inr res_ => (∃ l : DL, en = .returned (sL l.v) ∧ (VOK 1 l.v.n l.v.cap (RwH.enc l.rs) l.v.sp l.v.q ∧ DOK RSta res_ l.rs) ∧ HV w (keys [] []) [] [⟨155, RwH.enc l.rs, l.v.sp, l.v.q, dbl 159 RSta res_ l.rs⟩] [] w')) := by
  unfold yu at hm
  refine Yy (args := [ptr rb 0]) func160 Y ntmps160 Y (e := [(0, _)]) Y (H := HV w (keys [] []) [] [] [(rb, 0, [.int .i64 d00, .int .i64 d01, .slice qa1 na1 ca1, .slice qa2 na2 ca2, .slice qa3 na3 ca3, .slice qa4 na4 ca4]), (aB qa1, aO qa1, RI.enc d02), (aB qa2, aO qa2, RSa.enc d03), (aB qa3, aO qa3, RSi.enc d04), (aB qa4, aO qa4, RI.enc d05)]) hw ?_
  refine QZ (jr (jc Y Y Y (fun _ _ => yc Y) (k7 (jg Y Y ?_))))
  obtain ⟨t12, h3, hm⟩ := bindO hm
  refine jd [] [] Y Y Y Y Y Y Y call126 (fun w hh => Q1  w (HV.callee (S0 := []) (vs0 := []) hh roN)  h3) (fun l h4 => ?_)
  obtain ⟨t13, h5, hm⟩ := bindO hm
  refine jd [] [] Y Y Y Y Y Y Y call159 (fun w hh => JP d00 d01 d02 d03 d04 d05 rb qa1 na1 ca1 qa2 na2 ca2 qa3 na3 ca3 qa4 na4 ca4 w (HV.callee (S0 := []) (vs0 := []) hh (roR hh 0 Y (roR hh 1 Y (roR hh 2 Y (roR hh 3 Y (roR hh 4 Y roN)))))) hna1 hqa1 hla1 hna2 hqa2 hla2 hna3 hqa3 hla3 hna4 hqa4 hla4 h5) (fun l_1 h6 => ?_)
  refine jV (S' := [_]) (vs' := [_]) [0] [0] 0 Y Y Y Y ?_
  refine js (fun w => zeroValue153 w) Y (fun b h7 => ?_)
  refine q4 (cs' := #[_]) (S' := [_, _]) 0 (fun w => sizeOf153 w) Y Y Y Y Y Y Y (jq (ji (ji (ky none (.hoist 0 (.free 1 (.one 2 (.hoist 3 (.free 4 .done))))) _ Y (by decide +kernel) (fun w k hh => hh.draw k) (fun w hh => hh) (Kg 0 isAgg153 Y Y Y Y Y (zs Y Y Y (jA Y ?_)))))))
  obtain ⟨t16, h8, hm⟩ := bindO hm
  refine jd [] [] Y Y Y Y Y Y Y call99 (fun w hh => jW d00 d01 d02 d03 d04 d05 rb qa1 na1 ca1 qa2 na2 ca2 qa3 na3 ca3 qa4 na4 ca4 w (HV.callee (S0 := []) (vs0 := []) hh (roR hh 0 Y (roR hh 1 Y (roR hh 2 Y (roR hh 3 Y (roR hh 4 Y roN)))))) hna1 hqa1 hla1 hna2 hqa2 hla2 hna3 hqa3 hla3 hna4 hqa4 hla4 h8) (fun l_2 h9 => ?_)
  refine jj (fun w hh => hh) (jy Y Y Y Y (fun w hh => Qj (k := t16) (z := 0) (runUnderlying153 w) yz (zeroValue3 w) Y Y (hh.mget 1 Y)) (jn Y Y Y Y (fun _ _ => Ju Y Y) (jM (ja ?_))))
  refine ju Y (fun h10 => ?_) (fun h10 => ?_)
  ·replace hm := ifD h10 hm
   refine jr (jc Y Y Y (fun _ _ => yc Y) (jq (jv (jh ?_))))
   obtain rfl := sj hm
   refine Ks Y Y Y (fun w hh => (.tmp Y .nil)) (fun w hh => ⟨(), rfl, trivial, hh.se [] [] 5 Y Y Y rfl⟩)
  replace hm := ifE h10 hm
  refine jt (ja (jr (jg Y Y ?_)))
  obtain ⟨t20, h11, hm⟩ := bindO hm
  refine jd [] [] Y Y Y Y Y Y Y call99 (fun w hh => jW d00 d01 d02 d03 d04 d05 rb qa1 na1 ca1 qa2 na2 ca2 qa3 na3 ca3 qa4 na4 ca4 w (HV.callee (S0 := []) (vs0 := []) hh (roR hh 0 Y (roR hh 1 Y (roR hh 2 Y (roR hh 3 Y (roR hh 4 Y roN)))))) hna1 hqa1 hla1 hna2 hqa2 hla2 hna3 hqa3 hla3 hna4 hqa4 hla4 h11) (fun l_3 h12 => ?_)
  refine qE RSta [t20] (ps := [(0, _)]) (cells := [_, _, _, _]) (fun w => runUnderlying155 w) (fun w => sizeOf159 w) (fun w => zeroValue159 w) Y Y Y Y Y Y Y Y (fun L h13 => ?_)
  refine qE RwH [(⟨L.q, L.n, L.cap, L.sp⟩ : VL)] (ps := [(0, _)]) (cells := [_]) (fun w => runUnderlying150 w) (fun w => sizeOf155 w) (fun w => zeroValue155 w) Y Y Y Y Y Y Y Y (fun L_1 h14 => ?_)
  refine Zs (E2 := 159) RSta 1 (Y : _ = ([[]] : List (List State))) (fun h15 => ?_)
  refine jV (S' := [_, _]) (vs' := [_, _, _]) [0, 1] [0, 1, 2] 0 Y Y Y Y ?_
  refine Zq RSta (l' := [[t20]]) 0 L.n L.cap h15 h13 Y Y (fun h16 => ?_)
  have h17 : DOK RSta ([[t20]]) [(⟨L.q, L.n, L.cap, L.sp⟩ : VL)] := h16
  refine jad (S' := [_, _]) (vs' := [⟨155, RwH.enc [(⟨L.q, L.n, L.cap, L.sp⟩ : VL)], L_1.sp, L_1.q, dbl 159 RSta ([[t20]]) [(⟨L.q, L.n, L.cap, L.sp⟩ : VL)]⟩, mkV []]) [0, 1] [0, 1] 0 (by decide) (by decide) Y Y Y ?_
  refine jo Y Y (jq (ji (jr (jg Y Y (jc Y Y Y (fun _ _ => jQ Y) (yD 0 runUnderlying175 Y sizeOf26 Y Y (yD 1 runUnderlying26 Y sizeOf3 Y Y ?_)))))))
  refine jc Y Y Y (fun w hh => jz (isAgg3 w) Y (segCell (hh.seg 0 Y) 1 Y)) (jg Y Y (jq ?_))
  obtain ⟨o, h18, h19⟩ := bindO hm
  refine YQ (ι := DL × List Nat) (fun l_4 => mks l_4.2) (fun l_4 => VOK 1 l_4.1.v.n l_4.1.v.cap (RwH.enc l_4.1.rs) l_4.1.v.sp l_4.1.v.q ∧ DOK RSta o l_4.1.rs) (fun l_4 => [(4, sL l_4.1.v)]) (fun l_4 => [kc b #[.map (some l_1)] 153, (l_1, gobj (kR RSta) kI t13)]) (fun l_4 => [⟨155, RwH.enc l_4.1.rs, l_4.1.v.sp, l_4.1.v.q, dbl 159 RSta o l_4.1.rs⟩, mkV l_4.2]) ?_ ?_
  ·replace hm := h18
   refine jp ?_
   refine YF (ι := DL × List Nat) hm (fun s l_5 => mks l_5.2) (fun s l_5 => VOK 1 l_5.1.v.n l_5.1.v.cap (RwH.enc l_5.1.rs) l_5.1.v.sp l_5.1.v.q ∧ DOK RSta s.out4 l_5.1.rs) (fun s l_5 => [(0, ptr rb 0), (3, ptr b 0), (4, sL l_5.1.v), (27, .int .i64 d01), (28, .int .i64 s.t28)]) (fun s l_5 => [kc b #[.map (some l_1)] 153, (l_1, gobj (kR RSta) kI t13)]) (fun s l_5 => [⟨155, RwH.enc l_5.1.rs, l_5.1.v.sp, l_5.1.v.q, dbl 159 RSta s.out4 l_5.1.rs⟩, mkV l_5.2]) (⟨⟨L_1.q, L_1.n, L_1.cap, L_1.sp⟩, [(⟨L.q, L.n, L.cap, L.sp⟩ : VL)]⟩, []) Y (⟨h14, h17⟩) (sE Y) (fun w hh => hh) (fun s l_5 r hpl hm h24 => ?_)
   obtain ⟨h22, h23⟩ := hpl
   unfold k4 at hm
   refine jr (Kv Y Y Y (jq (ji ?_)))
   refine ju Y (fun h25 => ?_) (fun h25 => ?_)
   ·replace hm := ifD h25 hm
    refine jt (ja (ji (jp (jr (jg Y Y (jo Y Y (k7 ?_)))))))
    refine Q8 (kR RSta) kB Y (fun b_1 h26 => ?_)
    refine js (fun w => zeroValue236 w) Y (fun b_2 h27 => ?_)
    refine q4 (cs' := #[_]) (S' := [_, _, _, _]) 0 (fun w => sizeOf236 w) Y Y Y Y Y Y Y (k7 ?_)
    refine js (fun w => zeroValue155 w) Y (fun b_3 h28 => ?_)
    refine jq (ji (jr (jg Y Y (jg Y Y ?_))))
    obtain ⟨t34, h29, hm⟩ := bindO hm
    obtain ⟨L_2, h30, h31⟩ := (h23).row h29
    refine jc Y Y Y (fun w _ => JR h30 (runUnderlying150 w) (sizeOf155 w) Y Y (vlen RwH h22 Y) (vne h22)) (jc Y Y Y (fun w hh => zR RwH 0 h30 (isAgg155 w) Y (hh.vseg 0 Y h22) Y (Nat.add_zero _).symm) (jc Y Y Y (fun w _ => zr (vlen RSta h31 Y) (runUnderlying155 w) Y) (jg Y Y (jq (zV 159 ?_)))))
    obtain ⟨o_1, h32, h33⟩ := bindO hm
    refine YQ (ι := VL × List Nat) (fun l_6 => mks l_6.2) (fun l_6 => VOK 4 l_6.1.n l_6.1.cap (RSta.enc o_1.l7) l_6.1.sp l_6.1.q) (fun l_6 => [(0, ptr rb 0), (3, ptr b 0), (4, sL l_5.1.v), (7, ptr b_3 0), (27, .int .i64 d01), (28, .int .i64 s.t28)]) (fun l_6 => [kc b_3 #[sL l_6.1] 155, kc b_2 #[.map (some b_1)] 236, (b_1, gobj (kR RSta) kB o_1.t31), kc b #[.map (some l_1)] 153, (l_1, gobj (kR RSta) kI t13)]) (fun l_6 => [⟨155, RwH.enc l_5.1.rs, l_5.1.v.sp, l_5.1.v.q, dbl 159 RSta s.out4 l_5.1.rs⟩, vL 159 l_6.1 (RSta.enc o_1.l7), mkV l_6.2]) ?_ ?_
    ·replace hm := h32
     refine jp ?_
     refine YF (ι := VL × List Nat) hm (fun s_1 l_7 => mks l_7.2) (fun s_1 l_7 => VOK 4 l_7.1.n l_7.1.cap (RSta.enc s_1.l7) l_7.1.sp l_7.1.q) (fun s_1 l_7 => [(0, ptr rb 0), (3, ptr b 0), (4, sL l_5.1.v), (6, ptr b_2 0), (7, ptr b_3 0), (27, .int .i64 d01), (28, .int .i64 s.t28), (35, sL L_2), (36, .int .i64 (t34.length : Int)), (37, .int .i64 s_1.t37)]) (fun s_1 l_7 => [kc b_3 #[sL l_7.1] 155, kc b_2 #[.map (some b_1)] 236, (b_1, gobj (kR RSta) kB s_1.t31), kc b #[.map (some l_1)] 153, (l_1, gobj (kR RSta) kI t13)]) (fun s_1 l_7 => [⟨155, RwH.enc l_5.1.rs, l_5.1.v.sp, l_5.1.v.q, dbl 159 RSta s.out4 l_5.1.rs⟩, vL 159 l_7.1 (RSta.enc s_1.l7), mkV l_7.2]) (⟨none, 0, 0, []⟩, l_5.2) Y (VOK.nil) (sE Y) (hsE [0, 1, 2, 3, 4] [1, 0, 2] 0 Y Y Y Y) (fun s_1 l_7 r_1 hpl hm h36 => ?_)
     have h35 := hpl
     unfold k5 at hm
     refine jr (Kv Y Y Y (jq (ji ?_)))
     refine ju Y (fun h37 => ?_) (fun h37 => ?_)
     ·replace hm := ifD h37 hm
      refine jt (ja (ji (jp (jr ?_))))
      obtain ⟨t39, h38, hm⟩ := bindO hm
      refine jc Y Y Y (fun w _ => JR h38 (runUnderlying155 w) (sizeOf159 w) Y Y (vlen RSta h31 Y) (vne h31)) ?_
      refine jc Y Y Y (fun w hh => JE RSta 0 [.int .i64 t39.after, .int .i64 t39.at_.c0, .int .i64 t39.at_.c1, .int .i64 t39.at_.c2] h38 (isAgg159 w) (sizeOf159 w) Y (hh.dseg 0 Y h29 h30 h31) Y (Nat.add_zero _).symm) ?_
      refine js (fun w => zeroValue159 w) Y (fun b_4 h39 => ?_)
      refine kz (us := #[_, _, _, _]) (cs' := [_, _, _, _]) (S' := [_, _, _, _, _, _]) 0 (fun w => sizeOf159 w) Y Y Y Y Y Y Y (k7 (jg Y Y (zX [_, _, _, _] 0 isAgg159 sizeOf159 Y Y Y Y ?_)))
      obtain ⟨t43, h40, hm⟩ := bindO hm
      refine jd [] [] Y Y Y Y Y Y Y call96 (fun w hh => zn d00 d01 d02 d03 d04 d05 (⟨t39.after, (⟨t39.at_.c0, t39.at_.c1, t39.at_.c2⟩ : Cells)⟩ : State) rb qa1 na1 ca1 qa2 na2 ca2 qa3 na3 ca3 qa4 na4 ca4 w (HV.callee (S0 := []) (vs0 := []) hh (roR hh 0 Y (roR hh 1 Y (roR hh 2 Y (roR hh 3 Y (roR hh 4 Y roN)))))) hna1 hqa1 hla1 hna2 hqa2 hla2 hna3 hqa3 hla3 hna4 hqa4 hla4 h40) (fun l_8 h41 => ?_)
      refine jV (S' := [_, _, _, _, _, _, _, _]) (vs' := [_, _, _]) [0, 1, 2, 3, 4, 5, 6, 7] [0, 1, 2] 0 Y Y Y Y (jq (jp ?_))
      obtain ⟨h42, hm⟩ := ifO hm
      refine ZD (e' := [(0, ptr rb 0), (3, ptr b 0), (4, sL l_5.1.v), (6, ptr b_2 0), (7, ptr b_3 0), (27, .int .i64 d01), (28, .int .i64 s.t28), (35, sL L_2), (36, .int .i64 (t34.length : Int)), (37, .int .i64 s_1.t37), (43, .func (.func 161) #[] #[ptr l_8.1 0, ptr l_8.2 0])]) (sE Y) ?_
      obtain ⟨o_2, h43, hm⟩ := bindO hm
      refine Qp (ι := VL) (nextL d00 d05 (d02.length : Int) t43) (fun x => .agg #[.int .i64 x.after, .int .i64 x.at_.c0, .int .i64 x.at_.c1, .int .i64 x.at_.c2]) h43 (fun s_2 l_9 => VOK 4 l_9.n l_9.cap (RSta.enc s_2.l7) l_9.sp l_9.q) (fun s_2 l_9 => [kc l_8.1 #[.int .i64 t43.after, .int .i64 t43.at_.c0, .int .i64 t43.at_.c1, .int .i64 t43.at_.c2] 159, kc l_8.2 #[ptr rb 0] 146, kc b_4 #[.int .i64 t39.after, .int .i64 t39.at_.c0, .int .i64 t39.at_.c1, .int .i64 t39.at_.c2] 159, kc b_3 #[sL l_9] 155, kc b_2 #[.map (some b_1)] 236, (b_1, gobj (kR RSta) kB s_2.t31), kc b #[.map (some l_1)] 153, (l_1, gobj (kR RSta) kI t13)]) (fun s_2 l_9 => [vL 159 l_9 (RSta.enc s_2.l7), ⟨155, RwH.enc l_5.1.rs, l_5.1.v.sp, l_5.1.v.q, dbl 159 RSta s.out4 l_5.1.rs⟩, mkV l_7.2]) l_7.1 (h35) (hsE [0, 1, 2, 3, 4, 5, 6, 7] [1, 0, 2] 0 Y Y Y Y) (RdN l_8.2 rb l_8.1 d00 (.int .i64 d01) (.slice qa2 na2 ca2) (.slice qa3 na3 ca3) qa1 qa4 na1 ca1 na4 ca4 d05 t43) (fun s_2 l_9 w h44 hh => ⟨hh.bseg 1 rfl, hh.seg 0 rfl, hh.bseg 0 rfl, hh.seg 4 rfl⟩) (fun x => (.cells #[.int .i64 x.after, .int .i64 x.at_.c0, .int .i64 x.at_.c1, .int .i64 x.at_.c2] 159 (0, 0))) (it_next _ _ _ l_8.2 rb l_8.1 d00 (.int .i64 d01) (.slice qa2 na2 ca2) (.slice qa3 na3 ca3) qa1 qa4 na1 ca1 na4 ca4 d02 d05 t43 hna1 hna4 hqa4 h42) Y call161 Y (e1 := fun x bx => (10, ptr bx 0) :: (44, .agg #[.int .i64 x.after, .int .i64 x.at_.c0, .int .i64 x.at_.c1, .int .i64 x.at_.c2]) :: [(0, ptr rb 0), (3, ptr b 0), (4, sL l_5.1.v), (6, ptr b_2 0), (7, ptr b_3 0), (27, .int .i64 d01), (28, .int .i64 s.t28), (35, sL L_2), (36, .int .i64 (t34.length : Int)), (37, .int .i64 s_1.t37), (43, .func (.func 161) #[] #[ptr l_8.1 0, ptr l_8.2 0])]) (fun x lr L X hX => ?_) (fun x s_2 r_2 l_9 lr w1 bx h44 hm => ?_) (fun l_9 D h44 => ?_)
      ·refine je ?_
       refine js (fun w => zeroValue159 w) Y (fun b_5 h48 => ?_)
       refine kz (us := #[_, _, _, _]) (cs' := [_, _, _, _]) (S' := [_]) 0 (fun w => sizeOf159 w) Y Y Y Y Y Y Y (jq ?_)
       exact hX _
      ·have h45 := h44
       unfold qJ at hm
       refine jp (ji ?_)
       obtain ⟨o_3, h49, h50⟩ := bindO hm
       refine j3 (ι := Unit) (fun l_10 => True) (fun l_10 => [(6, ptr b_2 0), (7, ptr b_3 0), (10, ptr bx 0), (54, .bool o_3)]) (fun l_10 => [kc bx #[.int .i64 x.after, .int .i64 x.at_.c0, .int .i64 x.at_.c1, .int .i64 x.at_.c2] 159, kc l_8.1 #[.int .i64 t43.after, .int .i64 t43.at_.c0, .int .i64 t43.at_.c1, .int .i64 t43.at_.c2] 159, kc l_8.2 #[ptr rb 0] 146, kc b_4 #[.int .i64 t39.after, .int .i64 t39.at_.c0, .int .i64 t39.at_.c1, .int .i64 t39.at_.c2] 159, kc b_3 #[sL l_9] 155, kc b_2 #[.map (some b_1)] 236, (b_1, gobj (kR RSta) kB s_2.t31), kc b #[.map (some l_1)] 153, (l_1, gobj (kR RSta) kI t13)]) (fun l_10 => [vL 159 l_9 (RSta.enc s_2.l7), ⟨155, RwH.enc l_5.1.rs, l_5.1.v.sp, l_5.1.v.q, dbl 159 RSta s.out4 l_5.1.rs⟩, mkV l_7.2]) ?_ ?_
       ·replace hm := h49
        refine je (yf 7 isAgg153 Y Y Y Y (zX [_, _, _, _] 0 isAgg159 sizeOf159 Y Y Y Y (jc Y Y Y (fun w hh => Qj (k := x) (z := 0) (runUnderlying153 w) yz (zeroValue3 w) Y Y (hh.mget 8 Y)) (jc Y Y Y (fun _ _ => Zj Y Y) (jg Y Y ?_)))))
        refine j4 49 Y (fun h51 => ?_) (fun h51 => ?_)
        ·replace hm := ifD h51 hm
         refine jb Y Y (yf 5 isAgg236 Y Y Y Y (jb Y Y (zX [_, _, _, _] 0 isAgg159 sizeOf159 Y Y Y Y (jb Y Y (jc Y Y Y (fun w hh => Qj (k := x) (z := false) (runUnderlying236 w) yz (zeroValue4 w) Y Y (hh.mget 6 Y)) (jb Y Y (jc Y Y Y (fun _ _ => zt Y) ?_)))))))
         refine yy Y Y Y (jx ?_)
         obtain rfl := sj hm
         exact jk () (trivial) (sE Y) (fun w hh => hh)
        replace hm := ifE h51 hm
        refine g_k Y Y Y Y (g_k Y Y Y Y (g_k Y Y Y Y (g_k Y Y Y Y (zu Y Y Y (jx ?_)))))
        obtain rfl := sj hm
        exact jk () (trivial) (sE Y) (fun w hh => hh)
       intro l_10 hj
       replace hm := h50
       refine ja ?_
       refine ju Y (fun h52 => ?_) (fun h52 => ?_)
       ·replace hm := ifT (h52) hm
        obtain ⟨o_4, h53, h54⟩ := bindO hm
        refine j3 (ι := VL) (fun l_11 => VOK 4 l_11.n l_11.cap (RSta.enc o_4.l7) l_11.sp l_11.q) (fun l_11 => []) (fun l_11 => [kc bx #[.int .i64 x.after, .int .i64 x.at_.c0, .int .i64 x.at_.c1, .int .i64 x.at_.c2] 159, kc l_8.1 #[.int .i64 t43.after, .int .i64 t43.at_.c0, .int .i64 t43.at_.c1, .int .i64 t43.at_.c2] 159, kc l_8.2 #[ptr rb 0] 146, kc b_4 #[.int .i64 t39.after, .int .i64 t39.at_.c0, .int .i64 t39.at_.c1, .int .i64 t39.at_.c2] 159, kc b_3 #[sL l_11] 155, kc b_2 #[.map (some b_1)] 236, (b_1, gobj (kR RSta) kB o_4.t31), kc b #[.map (some l_1)] 153, (l_1, gobj (kR RSta) kI t13)]) (fun l_11 => [vL 159 l_11 (RSta.enc o_4.l7), ⟨155, RwH.enc l_5.1.rs, l_5.1.v.sp, l_5.1.v.q, dbl 159 RSta s.out4 l_5.1.rs⟩, mkV l_7.2]) ?_ ?_
        ·replace hm := h53
         obtain ⟨t60, h56, hm⟩ := bindO hm
         obtain ⟨t31, h57, hm⟩ := bindO hm
         refine ky none (.hoist 0 (.hoist 1 (.hoist 3 (.br (.alt 2 (.one 4 (.one 5 (.one 6 (.one 7 .done)))) (.alt 4 (.one 2 (.one 5 (.one 6 (.one 7 .done)))) .nil)))))) (HV _ _ [kc bx #[.int .i64 x.after, .int .i64 x.at_.c0, .int .i64 x.at_.c1, .int .i64 x.at_.c2] 159, kc l_8.1 #[.int .i64 t43.after, .int .i64 t43.at_.c0, .int .i64 t43.at_.c1, .int .i64 t43.at_.c2] 159, kc l_8.2 #[ptr rb 0] 146, kc b_4 #[.int .i64 t39.after, .int .i64 t39.at_.c0, .int .i64 t39.at_.c1, .int .i64 t39.at_.c2] 159, kc b_2 #[.map (some b_1)] 236, kc b #[.map (some l_1)] 153, (l_1, gobj (kR RSta) kI t13)] [⟨155, RwH.enc l_5.1.rs, l_5.1.v.sp, l_5.1.v.q, dbl 159 RSta s.out4 l_5.1.rs⟩, mkV l_7.2] _) Y (by decide +kernel) (fun w k hh => hh.draw k) (hsE [0, 1, 2, 3, 5, 7, 8] [1, 2] 0 Y Y Y Y) ?_
         refine Kg 4 isAgg236 Y Y Y Y Y (jy Y Y Y Y (fun w hh => jP (vs := [_, _, _, _]) (isAgg159 w) (sizeOf159 w) Y (hh.cells 0 Y Y)) (jy Y Y Y Y (fun w hh => jP (vs := [_, _, _, _]) (isAgg159 w) (sizeOf159 w) Y (hh.cells 0 Y Y)) (ZC ?_)))
         refine zC Y ?_ ?_
         ·refine yf 4 isAgg155 Y Y Y Y ?_
          refine jj (hsE [0, 1, 2, 3, 5, 7, 8] [1, 2] 0 Y Y Y Y) (jA Y ?_)
          refine qE RSta [x] (ps := [(0, _)]) (cells := [_, _, _, _]) (fun w => runUnderlying155 w) (fun w => sizeOf159 w) (fun w => zeroValue159 w) Y Y Y Y Y Y Y Y (fun L_3 h58 => ?_)
          refine jj (hsE [0, 1, 2, 3, 5, 7, 8] [2, 3] 0 Y Y Y Y) (jA Y ?_)
          refine zz RSta 1 h56 underlying155 Z6 Y Y Y Y Y h45 Y Y (vlen RSta h58 Y) (AOK.q (vne h58)) (fun w hh => (hh.vsegA 0 Y h58)) Y (fun L_4 h59 h59n => ?_)
          refine jV (S' := [_, _, _, _, _, _, _, _, _]) (vs' := [_, _, _, _]) [0, 1, 2, 3, 4, 5, 6, 7, 8] [0, 1, 2, 3] 0 Y Y Y Y (jj (hsE [0, 1, 2, 3, 5, 7, 8] [2, 3] 0 Y Y Y Y) (jA Y (q4 (cs' := #[_]) (S' := [_, _, _, _, _, _, _, _, _]) 4 (fun w => sizeOf155 w) Y Y Y Y Y Y Y (jj (hsE [0, 1, 2, 3, 5, 7, 8] [2, 3] 0 Y Y Y Y) (jA Y (QB (k := x) (v := true) 6 (fun w => runUnderlying236 w) yz Y Y Y Y (Option.some.inj h57) Y (jj (hsE [0, 1, 2, 3, 5, 7, 8] [2, 3] 0 Y Y Y Y) ?_)))))))
          refine jM ?_
          obtain rfl := sj hm
          exact jk L_4 (h59) (.nil) (hsE [0, 1, 2, 3, 4, 5, 6, 7, 8] [1, 2, 3] 0 Y Y Y Y)
         refine zC Y ?_ ?_
         refine qE RSta [x] (ps := [(0, _)]) (cells := [_, _, _, _]) (fun w => runUnderlying155 w) (fun w => sizeOf159 w) (fun w => zeroValue159 w) Y Y Y Y Y Y Y Y (fun L_5 h60 => ?_)
         refine jj (hsE [0, 1, 2, 3, 5, 7, 8] [2, 3] 0 Y Y Y Y) (jA Y (yf 4 isAgg155 Y Y Y Y (jj (hsE [0, 1, 2, 3, 5, 7, 8] [2, 3] 0 Y Y Y Y) (jA Y ?_))))
         refine zz RSta 1 h56 underlying155 Z6 Y Y Y Y Y h45 Y Y (vlen RSta h60 Y) (AOK.q (vne h60)) (fun w hh => (hh.vsegA 0 Y h60)) Y (fun L_6 h61 h61n => ?_)
         refine jV (S' := [_, _, _, _, _, _, _, _, _]) (vs' := [_, _, _, _]) [0, 1, 2, 3, 4, 5, 6, 7, 8] [0, 1, 2, 3] 0 Y Y Y Y (jj (hsE [0, 1, 2, 3, 5, 7, 8] [2, 3] 0 Y Y Y Y) (jA Y (q4 (cs' := #[_]) (S' := [_, _, _, _, _, _, _, _, _]) 4 (fun w => sizeOf155 w) Y Y Y Y Y Y Y (jj (hsE [0, 1, 2, 3, 5, 7, 8] [2, 3] 0 Y Y Y Y) (jA Y (QB (k := x) (v := true) 6 (fun w => runUnderlying236 w) yz Y Y Y Y (Option.some.inj h57) Y (jj (hsE [0, 1, 2, 3, 5, 7, 8] [2, 3] 0 Y Y Y Y) ?_)))))))
         refine jM ?_
         obtain rfl := sj hm
         exact jk L_6 (h61) (.nil) (hsE [0, 1, 2, 3, 4, 5, 6, 7, 8] [1, 2, 3] 0 Y Y Y Y)
         exact QE
        intro l_11 hj
        have h55 := hj
        replace hm := h54
        refine jw ?_
        obtain rfl := sj hm
        exact QU (⟨o_4.t31, o_4.l7⟩ : kv) l_11 Y (h55) (hsE [1, 2, 3, 4, 5, 6, 7, 8] [0, 1, 2] 5 Y Y Y Y)
       replace hm := ifN h52 hm
       refine jt (jw ?_)
       obtain rfl := sj hm
       exact QU (⟨s_2.t31, s_2.l7⟩ : kv) l_9 Y (h45) (hsE [1, 2, 3, 4, 5, 6, 7, 8] [0, 1, 2] 5 Y Y Y Y)
      have h62 := h44
      refine YE 2 Y Y (jw (jw (ja (je ?_))))
      obtain ⟨t61, h63, hm⟩ := bindO hm
      refine Kq h63 Y Y Y (jg Y Y (jx ?_))
      obtain rfl := sj hm
      refine ja ?_
      exact Q6 _ (l_9, (D :: l_7.2)) Y Y (h62) (sE Y) (hsE [3, 4, 5, 6, 7] [1, 0, 2] 0 Y Y Y Y)
     replace hm := ifE h37 hm
     refine kN (jl (jl (jO ?_)))
     obtain rfl := sj hm
     have hbo := h36 _ Y
     subst hbo
     exact J8 (l_7.1, l_7.2) Y (h35) (sE Y) (fun w hh => hh)
    intro l_6 hj
    have h34 := hj
    replace hm := h33
    refine ja (je (jg Y Y (yf 0 isAgg155 Y Y Y Y ?_)))
    refine qE RwH [(⟨l_6.1.q, l_6.1.n, l_6.1.cap, l_6.1.sp⟩ : VL)] (ps := [(0, _)]) (cells := [_]) (fun w => runUnderlying150 w) (fun w => sizeOf155 w) (fun w => zeroValue155 w) Y Y Y Y Y Y Y Y (fun L_7 h64 => ?_)
    refine Zs (E2 := 159) RSta 1 (Y : _ = ([[]] : List (List State))) (fun h65 => ?_)
    refine jV (S' := [_, _, _, _, _]) (vs' := [_, _, _, _]) [0, 1, 2, 3, 4] [0, 2, 1, 3] 0 Y Y Y Y ?_
    refine Zq RSta (l' := [o_1.l7]) 0 l_6.1.n l_6.1.cap h65 h34 Y Y (fun h66 => ?_)
    have h67 : DOK RSta [o_1.l7] [(⟨l_6.1.q, l_6.1.n, l_6.1.cap, l_6.1.sp⟩ : VL)] := h66
    refine jad (S' := [_, _, _, _, _]) (vs' := [⟨155, RwH.enc [(⟨l_6.1.q, l_6.1.n, l_6.1.cap, l_6.1.sp⟩ : VL)], L_7.sp, L_7.q, dbl 159 RSta [o_1.l7] [(⟨l_6.1.q, l_6.1.n, l_6.1.cap, l_6.1.sp⟩ : VL)]⟩, ⟨155, RwH.enc l_5.1.rs, l_5.1.v.sp, l_5.1.v.q, dbl 159 RSta s.out4 l_5.1.rs⟩, mkV l_6.2]) [0, 1, 2, 3, 4] [0, 1, 2] 0 (by decide) (by decide) Y Y Y ?_
    obtain ⟨t65, h68, hm⟩ := bindO hm
    refine zz RwH 1 (appcL h68 (h23).len (h67).len) underlying150 jaD Y Y Y Y Y h22 Y Y (vlen RwH h64 Y) (AOK.q (vne h64)) (fun w hh => (hh.vsegA 0 Y h64)) Y (fun L_8 h69 _ => ?_)
    refine jV (S' := [_, _, _, _, _]) (vs' := [_, _, _]) [0, 1, 2, 3, 4] [0, 1, 2] 0 Y Y Y Y (jV (S' := [_, _, _, _, _]) (vs' := [_, _, _]) [0, 1, 2, 3, 4] [1, 0, 2] 0 Y Y Y Y ?_)
    refine ZZ RSta h23 h67 (appcO h68).1.symm (fun h70 => ?_)
    refine jo Y Y (jx (jw (ja (je ?_))))
    obtain ⟨t66, h71, hm⟩ := bindO hm
    refine Kq h71 Y Y Y (jg Y Y (jx ?_))
    obtain rfl := sj hm
    refine ja ?_
    exact Q6 _ (⟨⟨L_8.q, L_8.n, L_8.cap, L_8.sp⟩, (l_5.1.rs ++ [(⟨l_6.1.q, l_6.1.n, l_6.1.cap, l_6.1.sp⟩ : VL)])⟩, l_6.2) Y Y (⟨h69, h70⟩) (sE Y) (hsE [3, 4] [0, 1] 0 Y Y Y Y)
   replace hm := ifE h25 hm
   refine kN (jl (jl (jO ?_)))
   obtain rfl := sj hm
   have hbo := h24 _ Y
   subst hbo
   exact J8 (l_5.1, l_5.2) Y (⟨h22, h23⟩) (sE Y) (fun w hh => hh)
  intro l_4 hj
  obtain ⟨h20, h21⟩ := hj
  replace hm := h19
  refine ja (jr (jg Y Y (jo Y Y (jq (jv ?_)))))
  obtain rfl := sj hm
  refine Ks Y Y Y (fun w hh => (.tmp Y .nil)) (fun w hh => ⟨l_4.1, rfl, ⟨h20, h21⟩, hh.se [] [0] 5 Y Y Y rfl⟩)
structure qq where
  t14_0 : Int
  t14_1 : Int
  r1 : (List (List State))
  t14_5 : (List Int)
def yt (c0 : Channel) : Option (Int ⊕ qq) :=
 (yw c0).bind fun t10 =>
 oc t10 (fun t10a => some (.inl t10a)) (fun t10b => (yu t10b.t14_0 t10b.t14_1 c0.fords c0.sands c0.sights t10b.t14_5).bind fun t17 =>
 oc t17 (fun t17a => some (.inl 7)) (fun t17b => if 0 < (t17b.length : Int) then (some (.inr (⟨t10b.t14_0, t10b.t14_1, t17b, t10b.t14_5⟩ : qq))) else none))
theorem yx (c0 : Channel) (qa0 : Option Addr) (na0 ca0 : Nat) (qa1 : Option Addr) (na1 ca1 : Nat) (qa2 : Option Addr) (na2 ca2 : Nat) (w : World) (hw : HV w (keys [] []) [] [] [(aB qa0, aO qa0, RI.enc c0.fords), (aB qa1, aO qa1, RSa.enc c0.sands), (aB qa2, aO qa2, RSi.enc c0.sights)] w) (hna0 : c0.fords.length = na0) (hqa0 : AOK na0 qa0) (hla0 : na0 ≤ ca0) (hna1 : c0.sands.length = na1) (hqa1 : AOK na1 qa1) (hla1 : na1 ≤ ca1) (hna2 : c0.sights.length = na2) (hqa2 : AOK na2 qa2) (hla2 : na2 ≤ ca2) {res : (Int ⊕ qq)} (hm : yt c0 = some res) :
    Calls Tryz.prog 95 #[.agg #[.int .i64 c0.cells, .int .i64 c0.tides, .slice qa0 na0 ca0, .slice qa1 na1 ca1, .slice qa2 na2 ca2]] w (fun en w' => match res with | .inl res_ => (∃ l : Unit, en = .returned (.tuple #[.pointer none, slv none 0 0, .int .i64 res_]) ∧ (¬ (res_ = 0)) ∧ HV w (keys [] []) [] [] [] w') | .inr res_ => (∃ l : Nat × DL × VL, en = .returned (.tuple #[ptr l.1 0, sL l.2.1.v, .int .i64 0]) ∧ (VOK 1 l.2.1.v.n l.2.1.v.cap (RwH.enc l.2.1.rs) l.2.1.v.sp l.2.1.v.q ∧ DOK RSta res_.r1 l.2.1.rs ∧ VOK 1 l.2.2.n l.2.2.cap (RI.enc res_.t14_5) l.2.2.sp l.2.2.q) ∧ HV w (keys [] []) [kc l.1 #[.int .i64 res_.t14_0, .int .i64 res_.t14_1, .slice qa0 na0 ca0, .slice qa1 na1 ca1, .slice qa2 na2 ca2, sL l.2.2] 175] [⟨155, RwH.enc l.2.1.rs, l.2.1.v.sp, l.2.1.v.q, dbl 159 RSta res_.r1 l.2.1.rs⟩, vL 3 l.2.2 (RI.enc res_.t14_5)] [] w')) := by
  unfold yt at hm
  refine yr func95 Y ntmps95 Y (e := [(0, _)]) Y hw (jr ?_)
  refine jI Y Y (fun b h4 => ?_)
  refine jo Y Y (jc Y Y Y (fun _ _ => yc Y) (jo Y Y (k7 (zX [_, _, _, _, _] 0 isAgg26 sizeOf26 Y Y Y Y ?_))))
  obtain ⟨t10, h5, hm⟩ := bindO hm
  rcases t10 with t10a | t10b
  ·replace hm := ocL hm
   refine jd [] [] Y Y Y Y Y Y Y call93 (fun w hh => yv c0 qa0 na0 ca0 qa1 na1 ca1 qa2 na2 ca2 w (HV.callee (S0 := []) (vs0 := []) hh (roR hh 0 Y (roR hh 1 Y (roR hh 2 Y roN)))) hna0 hqa0 hla0 hna1 hqa1 hla1 hna2 hqa2 hla2 h5) (fun l h6 => ?_)
   have h7 := h6
   refine jg Y Y (zo Y Y Y (zo Y Y Y (jo Y Y (jo Y Y (jq (ji (jr ?_)))))))
   refine jg Y Y (jc Y Y Y (fun _ _ => YR h7 Y Y) (jq (J1 Y Y (jr (jg Y Y (jo Y Y (jc Y Y Y (fun _ _ => yc Y) ?_)))))))
   refine jo Y Y (jq (jv (jh ?_)))
   obtain rfl := sj hm
   refine jm Y (fun w hh => (.tmp Y (.tmp Y (.tmp Y .nil)))) (fun w hh => ⟨(), rfl, h7, hh.se [] [] 3 Y Y Y rfl⟩)
  replace hm := ocR hm
  refine jd [] [] Y Y Y Y Y Y Y call93 (fun w hh => yv c0 qa0 na0 ca0 qa1 na1 ca1 qa2 na2 ca2 w (HV.callee (S0 := []) (vs0 := []) hh (roR hh 0 Y (roR hh 1 Y (roR hh 2 Y roN)))) hna0 hqa0 hla0 hna1 hqa1 hla1 hna2 hqa2 hla2 h5) (fun l_1 h8 => ?_)
  have h9 := h8
  refine jV (S' := [_, _]) (vs' := [_]) [0, 1] [0] 0 Y Y Y Y (jg Y Y (zo Y Y Y (zo Y Y Y (jo Y Y (jo Y Y (jq (ji ?_)))))))
  refine jr (jg Y Y (jc Y Y Y (fun _ _ => Jc Y Y) (jq (Ka Y Y (jt (ja (jr ?_)))))))
  refine jg Y Y ?_
  obtain ⟨t17, h10, hm⟩ := bindO hm
  rcases t17 with t17a | t17b
  ·replace hm := ocL hm
   refine jd [] [] Y Y Y Y Y Y Y call160 (fun w hh => Kt t10b.t14_0 t10b.t14_1 c0.fords c0.sands c0.sights t10b.t14_5 l_1.1 qa0 na0 ca0 qa1 na1 ca1 qa2 na2 ca2 (qA l_1.2.q) l_1.2.n l_1.2.cap w (HV.callee (S0 := []) (vs0 := []) hh (roC (bsep (hh.bseg 0 Y)) (roR hh 0 Y (roR hh 1 Y (roR hh 2 Y (roC (hh.vsepA 0 Y h9) roN)))))) hna0 hqa0 hla0 hna1 hqa1 hla1 hna2 hqa2 hla2 (vlen RI h9 Y) (AOK.q (vne h9)) (h9).hle h10) (fun l_2 h11 => ?_)
   refine jo Y Y (jq (ji (jr (jg Y Y (jc Y Y Y (fun w _ => jai (runUnderlying150 w) Y Y) (jq (J1 Y Y ?_)))))))
   refine jr (jo Y Y (jc Y Y Y (fun _ _ => yc Y) (jo Y Y (jq (jv (jh ?_))))))
   obtain rfl := sj hm
   refine jm Y (fun w hh => (.tmp Y (.tmp Y (.tmp Y .nil)))) (fun w hh => ⟨(), rfl, (by decide), hh.se [] [] 3 Y Y Y rfl⟩)
  replace hm := ocR hm
  refine jd [] [] Y Y Y Y Y Y Y call160 (fun w hh => Kt t10b.t14_0 t10b.t14_1 c0.fords c0.sands c0.sights t10b.t14_5 l_1.1 qa0 na0 ca0 qa1 na1 ca1 qa2 na2 ca2 (qA l_1.2.q) l_1.2.n l_1.2.cap w (HV.callee (S0 := []) (vs0 := []) hh (roC (bsep (hh.bseg 0 Y)) (roR hh 0 Y (roR hh 1 Y (roR hh 2 Y (roC (hh.vsepA 0 Y h9) roN)))))) hna0 hqa0 hla0 hna1 hqa1 hla1 hna2 hqa2 hla2 (vlen RI h9 Y) (AOK.q (vne h9)) (h9).hle h10) (fun l_3 h12 => ?_)
  obtain ⟨h13, h14⟩ := h12
  refine jV (S' := [_, _]) (vs' := [_, _]) [0, 1] [0, 1] 0 Y Y Y Y (jo Y Y (jq (ji (jr (jg Y Y ?_)))))
  obtain ⟨h15, hm⟩ := ifO hm
  refine jc Y Y Y (fun w _ => jaZ (AOK.q (vne h13)) (len_posN (Eq.trans (h14).len (vlen RwH h13 Y)) h15) (runUnderlying150 w) Y Y) (jq (Ka Y Y (jt (ja (jr (jg Y Y (jg Y Y ?_)))))))
  refine jo Y Y (jo Y Y (jo Y Y (jq (jv ?_))))
  obtain rfl := sj hm
  refine jm Y (fun w hh => (.tmp Y (.tmp Y (.tmp Y .nil)))) (fun w hh => ⟨(l_1.1, l_3, l_1.2), rfl, ⟨h13, h14, h9⟩, hh.se [0] [0, 1] 3 Y Y Y rfl⟩)
structure yE where
  r1 : Int
  r0 : (List Int)
structure Je where
  t47 : Int
  out11 : (List Int)
def yW (t44 : (List State)) (ford2 : Int) (s : Je) : Option (Je ⊕ (List Int)) :=
 if s.t47 < (t44.length : Int) then
 ((ix t44 s.t47).bind fun t49 =>
 (ix [t49.at_.c0, t49.at_.c1, t49.at_.c2] ford2).bind fun t54 =>
 (appc 8 s.out11 [t54]).bind fun t57 =>
 (addc s.t47 1).bind fun t58 =>
 some (.inl (⟨t58, t57⟩ : Je))) else
 (some (.inr s.out11))
def yR (c0 : Channel) (after1 : Int) (ford2 : Int) : Option yE :=
 (zp c0).bind fun t15 =>
 if t15 = 0 then
 ((qs c0 after1).bind fun t23 =>
 if (!t23) = true then
 (some (⟨3, []⟩ : yE)) else
 ((subc (c0.fords.length : Int) 1).bind fun t30 =>
 (qH ford2 0 t30).bind fun t31 =>
 if (!t31) = true then
 (some (⟨1, []⟩ : yE)) else
 ((yt c0).bind fun t35 =>
 oc t35 (fun t35a => some (⟨t35a, []⟩ : yE)) (fun t35b => (ix t35b.r1 after1).bind fun t44 =>
 (iterM FU (yW t44 ford2) (⟨0, []⟩ : Je)).bind fun o =>
 (KB o).bind fun t60 =>
 (yH t60).bind fun t62 =>
 some (⟨0, t62⟩ : yE))))) else
 (some (⟨t15, []⟩ : yE))
theorem Kp (c0 : Channel) (after1 : Int) (ford2 : Int) (qa0 : Option Addr) (na0 ca0 : Nat) (qa1 : Option Addr) (na1 ca1 : Nat) (qa2 : Option Addr) (na2 ca2 : Nat) (w : World) (hw : HV w (keys [] []) [] [] [(aB qa0, aO qa0, RI.enc c0.fords), (aB qa1, aO qa1, RSa.enc c0.sands), (aB qa2, aO qa2, RSi.enc c0.sights)] w) (hna0 : c0.fords.length = na0) (hqa0 : AOK na0 qa0) (hla0 : na0 ≤ ca0) (hna1 : c0.sands.length = na1) (hqa1 : AOK na1 qa1) (hla1 : na1 ≤ ca1) (hna2 : c0.sights.length = na2) (hqa2 : AOK na2 qa2) (hla2 : na2 ≤ ca2) {res : yE} (hm : yR c0 after1 ford2 = some res) :
    Calls Tryz.prog 42 #[.agg #[.int .i64 c0.cells, .int .i64 c0.tides, .slice qa0 na0 ca0, .slice qa1 na1 ca1, .slice qa2 na2 ca2], .int .i64 after1, .int .i64 ford2] w (fun en w' => ∃ l : VL, en = .returned (.tuple #[sL l, .int .i64 res.r1]) ∧ (VOK 1 l.n l.cap (RI.enc res.r0) l.sp l.q) ∧ HV w (keys [] []) [] [vL 3 l (RI.enc res.r0)] [] w') := by
  unfold yR at hm
  refine yr func42 Y ntmps42 Y (e := [(0, _), (1, _), (2, _)]) Y hw (jr ?_)
  refine jI Y Y (fun b h2 => ?_)
  refine jc Y Y Y (fun _ _ => yc Y) (jo Y Y (k7 (zX [_, _, _, _, _] 0 isAgg26 sizeOf26 Y Y Y Y ?_)))
  obtain ⟨t15, h3, hm⟩ := bindO hm
  refine jd [] [] Y Y Y Y Y Y Y call55 (fun w hh => Qf c0 qa0 na0 ca0 qa1 na1 ca1 qa2 na2 ca2 w (HV.callee (S0 := []) (vs0 := []) hh (roR hh 0 Y (roR hh 1 Y (roR hh 2 Y roN)))) hna0 hqa0 hla0 hna1 hqa1 hla1 hna2 hqa2 hla2 h3) (fun l h4 => ?_)
  refine jo Y Y (jq (ji (jp (jr (jg Y Y (jc Y Y Y (fun _ _ => Jc Y Y) (jo Y Y ?_)))))))
  refine jq ?_
  refine ju Y (fun h5 => ?_) (fun h5 => ?_)
  ·replace hm := ifF (of_ndec_true h5) hm
   refine jr (jg Y Y (jc Y Y Y (fun _ _ => yc Y) (jo Y Y (jq (jv (jJ (jh ?_)))))))
   refine zV 3 ?_
   obtain rfl := sj hm
   refine jm Y (fun w hh => (.tmp Y (.tmp Y .nil))) (fun w hh => ⟨⟨none, 0, 0, []⟩, rfl, VOK.nil, hh.se [] [0] 3 Y Y Y rfl⟩)
  replace hm := ifT (of_ndec_false h5) hm
  refine jr (zX [_, _, _, _, _] 0 isAgg26 sizeOf26 Y Y Y Y (jg Y Y ?_))
  obtain ⟨t23, h6, hm⟩ := bindO hm
  refine jd [] [] Y Y Y Y Y Y Y call112 (fun w hh => Ke c0 after1 qa0 na0 ca0 qa1 na1 ca1 qa2 na2 ca2 w (HV.callee (S0 := []) (vs0 := []) hh (roR hh 0 Y (roR hh 1 Y (roR hh 2 Y roN)))) hna0 hqa0 hla0 hna1 hqa1 hla1 hna2 hqa2 hla2 h6) (fun l_1 h7 => ?_)
  refine jc Y Y Y (fun _ _ => zt Y) (jo Y Y (jq ?_))
  refine ju Y (fun h8 => ?_) (fun h8 => ?_)
  ·replace hm := ifT (h8) hm
   refine jr (jc Y Y Y (fun _ _ => yc Y) (jo Y Y (jq (jv (jJ (jh (zV 3 ?_)))))))
   obtain rfl := sj hm
   refine jm Y (fun w hh => (.tmp Y (.tmp Y .nil))) (fun w hh => ⟨⟨none, 0, 0, []⟩, rfl, VOK.nil, hh.se [] [0] 3 Y Y Y rfl⟩)
  replace hm := ifN h8 hm
  refine jr (jg Y Y (yD 2 runUnderlying26 Y sizeOf22 Y Y (yf 0 isAgg22 Y Y Y Y (jc Y Y Y (fun w _ => qd hna0 (runUnderlying22 w) Y) ?_))))
  obtain ⟨t30, h9, hm⟩ := bindO hm
  refine jc Y Y Y (fun _ _ => zO h9 Y Y) ?_
  obtain ⟨t31, h10, hm⟩ := bindO hm
  refine jd [] [] Y Y Y Y Y Y Y call106 (fun w hh => z1 ford2 0 t30 w (HV.callee (S0 := []) (vs0 := []) hh roN)  h10) (fun l_2 h11 => ?_)
  refine jc Y Y Y (fun _ _ => zt Y) (jo Y Y (jq ?_))
  refine ju Y (fun h12 => ?_) (fun h12 => ?_)
  ·replace hm := ifT (h12) hm
   refine jr (jc Y Y Y (fun _ _ => yc Y) (jo Y Y (jq (jv (jJ (jh (zV 3 ?_)))))))
   obtain rfl := sj hm
   refine jm Y (fun w hh => (.tmp Y (.tmp Y .nil))) (fun w hh => ⟨⟨none, 0, 0, []⟩, rfl, VOK.nil, hh.se [] [0] 3 Y Y Y rfl⟩)
  replace hm := ifN h12 hm
  refine jt (jw (ja (jr (zX [_, _, _, _, _] 0 isAgg26 sizeOf26 Y Y Y Y ?_))))
  obtain ⟨t35, h13, hm⟩ := bindO hm
  rcases t35 with t35a | t35b
  ·replace hm := ocL hm
   refine jd [] [] Y Y Y Y Y Y Y call95 (fun w hh => yx c0 qa0 na0 ca0 qa1 na1 ca1 qa2 na2 ca2 w (HV.callee (S0 := []) (vs0 := []) hh (roR hh 0 Y (roR hh 1 Y (roR hh 2 Y roN)))) hna0 hqa0 hla0 hna1 hqa1 hla1 hna2 hqa2 hla2 h13) (fun l_3 h14 => ?_)
   have h15 := h14
   refine jg Y Y (zo Y Y Y (zo Y Y Y (zo Y Y Y (jo Y Y (jo Y Y (jo Y Y (jq ?_)))))))
   refine ji (jr (jg Y Y (jc Y Y Y (fun _ _ => YR h15 Y Y) (jq (J1 Y Y (jr (jg Y Y ?_)))))))
   refine jc Y Y Y (fun _ _ => yc Y) (jo Y Y (jq (jv (jh (zV 3 ?_)))))
   obtain rfl := sj hm
   refine jm Y (fun w hh => (.tmp Y (.tmp Y .nil))) (fun w hh => ⟨⟨none, 0, 0, []⟩, rfl, VOK.nil, hh.se [] [0] 3 Y Y Y rfl⟩)
  replace hm := ocR hm
  refine jd [] [] Y Y Y Y Y Y Y call95 (fun w hh => yx c0 qa0 na0 ca0 qa1 na1 ca1 qa2 na2 ca2 w (HV.callee (S0 := []) (vs0 := []) hh (roR hh 0 Y (roR hh 1 Y (roR hh 2 Y roN)))) hna0 hqa0 hla0 hna1 hqa1 hla1 hna2 hqa2 hla2 h13) (fun l_4 h16 => ?_)
  obtain ⟨h17, h18, h19⟩ := h16
  refine jV (S' := [_, _]) (vs' := [_, _]) [0, 1] [0, 1] 0 Y Y Y Y (jg Y Y (zo Y Y Y (zo Y Y Y (zo Y Y Y (jo Y Y (jo Y Y (jo Y Y ?_)))))))
  refine jq (ji (jr (jg Y Y (jc Y Y Y (fun _ _ => Jc Y Y) (jq (Ka Y Y (jt ?_)))))))
  refine ja (jr (jc Y Y Y (fun _ _ => yc Y) (jq (ji (jr (jg Y Y (jg Y Y ?_)))))))
  obtain ⟨t44, h20, hm⟩ := bindO hm
  obtain ⟨L, h21, h22⟩ := (h18).row h20
  refine jc Y Y Y (fun w _ => JR h21 (runUnderlying150 w) (sizeOf155 w) Y Y (vlen RwH h17 Y) (vne h17)) (jc Y Y Y (fun w hh => zR RwH 0 h21 (isAgg155 w) Y (hh.vseg 0 Y h17) Y (Nat.add_zero _).symm) (jc Y Y Y (fun w _ => zr (vlen RSta h22 Y) (runUnderlying155 w) Y) (jg Y Y (jq (zV 3 ?_)))))
  obtain ⟨o, h23, h24⟩ := bindO hm
  refine j3 (ι := VL) (fun l_5 => VOK 1 l_5.n l_5.cap (RI.enc o) l_5.sp l_5.q) (fun l_5 => [(11, sL l_5)]) (fun l_5 => [kc l_4.1 #[.int .i64 t35b.t14_0, .int .i64 t35b.t14_1, .slice qa0 na0 ca0, .slice qa1 na1 ca1, .slice qa2 na2 ca2, sL l_4.2.2] 175, kc b #[.int .i64 c0.cells, .int .i64 c0.tides, .slice qa0 na0 ca0, .slice qa1 na1 ca1, .slice qa2 na2 ca2] 26]) (fun l_5 => [vL 3 l_5 (RI.enc o), vL 3 l_4.2.2 (RI.enc t35b.t14_5)]) ?_ ?_
  ·replace hm := h23
   refine jp ?_
   refine kk (ι := VL) hm (fun s l_6 => VOK 1 l_6.n l_6.cap (RI.enc s.out11) l_6.sp l_6.q) (fun s l_6 => [(2, .int .i64 ford2), (11, sL l_6), (45, sL L), (46, .int .i64 (t44.length : Int)), (47, .int .i64 s.t47)]) (fun s l_6 => [kc l_4.1 #[.int .i64 t35b.t14_0, .int .i64 t35b.t14_1, .slice qa0 na0 ca0, .slice qa1 na1 ca1, .slice qa2 na2 ca2, sL l_4.2.2] 175, kc b #[.int .i64 c0.cells, .int .i64 c0.tides, .slice qa0 na0 ca0, .slice qa1 na1 ca1, .slice qa2 na2 ca2] 26]) (fun s l_6 => [vL 3 l_6 (RI.enc s.out11), ⟨155, RwH.enc l_4.2.1.rs, l_4.2.1.v.sp, l_4.2.1.v.q, dbl 159 RSta t35b.r1 l_4.2.1.rs⟩, vL 3 l_4.2.2 (RI.enc t35b.t14_5)]) ⟨none, 0, 0, []⟩ (VOK.nil) (sE Y) (fun w hh => hh) (fun s l_6 r hpl hm h27 => ?_)
   have h26 := hpl
   unfold yW at hm
   refine jr (Kv Y Y Y (jq (ji ?_)))
   refine ju Y (fun h28 => ?_) (fun h28 => ?_)
   ·replace hm := ifD h28 hm
    refine jt (ja (ji (jp (jr ?_))))
    obtain ⟨t49, h29, hm⟩ := bindO hm
    refine jc Y Y Y (fun w _ => JR h29 (runUnderlying155 w) (sizeOf159 w) Y Y (vlen RSta h22 Y) (vne h22)) ?_
    refine jc Y Y Y (fun w hh => JE RSta 0 [.int .i64 t49.after, .int .i64 t49.at_.c0, .int .i64 t49.at_.c1, .int .i64 t49.at_.c2] h29 (isAgg159 w) (sizeOf159 w) Y (hh.dseg 1 Y h20 h21 h22) Y (Nat.add_zero _).symm) ?_
    refine js (fun w => zeroValue159 w) Y (fun b_1 h30 => ?_)
    refine kz (us := #[_, _, _, _]) (cs' := [_, _, _, _]) (S' := [_, _, _]) 0 (fun w => sizeOf159 w) Y Y Y Y Y Y Y (jq (je (jg Y Y (jg Y Y (yD 1 runUnderlying159 Y sizeOf157 Y Y ?_)))))
    obtain ⟨t54, h31, hm⟩ := bindO hm
    refine jc Y Y Y (fun w _ => JS h31 Y (runUnderlying157 w) (sizeOf3 w) Y Y) (jc Y Y Y (fun w hh => jz (isAgg3 w) Y (hh.cell 0 Y (ixCell h31 kI [_] [] Y Y))) ?_)
    refine qE RI [t54] (ps := [(0, _)]) (cells := [_]) (fun w => runUnderlying22 w) (fun w => sizeOf3 w) (fun w => zeroValue3 w) Y Y Y Y Y Y Y Y (fun L_1 h32 => ?_)
    obtain ⟨t57, h33, hm⟩ := bindO hm
    refine zz RI 1 h33 underlying22 KZ Y Y Y Y Y h26 Y Y (vlen RI h32 Y) (AOK.q (vne h32)) (fun w hh => (hh.vsegA 0 Y h32)) Y (fun L_2 h34 h34n => ?_)
    refine jV (S' := [_, _, _]) (vs' := [_, _, _, _]) [0, 1, 2] [0, 1, 2, 3] 0 Y Y Y Y (jo Y Y (jx (jw (ja (je ?_)))))
    obtain ⟨t58, h35, hm⟩ := bindO hm
    refine Kq h35 Y Y Y (jg Y Y (jx ?_))
    obtain rfl := sj hm
    refine ja ?_
    exact jN _ L_2 Y (h34) (sE Y) (hsE [1, 2] [1, 2, 3] 0 Y Y Y Y)
   replace hm := ifE h28 hm
   refine kN (jl (jl (jO ?_)))
   obtain rfl := sj hm
   have hbo := h27 _ Y
   subst hbo
   exact jk l_6 (h26) (sE Y) (hsE [0, 1] [0, 2] 0 Y Y Y Y)
  intro l_5 hj
  have h25 := hj
  replace hm := h24
  refine ja (jr (jg Y Y ?_))
  obtain ⟨t60, h36, hm⟩ := bindO hm
  refine jd [] [_] Y Y Y Y Y Y Y call113 (fun w hh => Zk o ⟨l_5.q, l_5.n, l_5.cap, l_5.sp⟩ w (HV.callee (S0 := []) (vs0 := [_]) hh roN) h25 h36) (fun l_7 h37 => ?_)
  have h38 := h37
  refine jV (S' := [_, _]) (vs' := [_, _]) [0, 1] [0, 1] 0 Y Y Y Y (k7 (jg Y Y ?_))
  obtain ⟨t62, h39, hm⟩ := bindO hm
  refine jd [] [_] Y Y Y Y Y Y Y call114 (fun w hh => Qu t60 ⟨l_5.q, l_5.n, l_5.cap, l_5.sp⟩ w (HV.callee (S0 := []) (vs0 := [_]) hh roN) h38 h39) (fun l_8 h40 => ?_)
  have h41 := h40
  refine jV (S' := [_, _]) (vs' := [_, _]) [0, 1] [0, 1] 0 Y Y Y Y (jo Y Y (jo Y Y (jq (jv ?_))))
  obtain rfl := sj hm
  refine jm Y (fun w hh => (.tmp Y (.tmp Y .nil))) (fun w hh => ⟨l_8, rfl, h41, hh.se [] [0] 3 Y Y Y rfl⟩)
end Go.Proofs.Wb

namespace Go.Proofs.Wb
set_option maxHeartbeats 4000000
set_option maxRecDepth 100000
open Go Go.Fw Go.Gx Go.Sb
open Tryz
set_option linter.unusedVariables false
structure JJ where
  r1 : Int
  r0 : (List Int)
structure zB where
  t25 : Int
  out7 : (List Int)
structure Jo where
  stays10 : Int
  t36 : Int
def Qo (t33 : (List State)) (s : zB) (t28 : Int) (s_1 : Jo) : Option (Jo ⊕ Int) :=
 if s_1.t36 < (t33.length : Int) then
 (((ix t33 s_1.t36).bind fun t38 =>
 (ix [t38.at_.c0, t38.at_.c1, t38.at_.c2] s.t25).bind fun t42 =>
 if t42 = t28 then
 ((addc s_1.stays10 1).bind fun t47 =>
 some t47) else
 (some s_1.stays10)).bind fun o_3 =>
 (addc s_1.t36 1).bind fun t48 =>
 some (.inl (⟨o_3, t48⟩ : Jo))) else
 (some (.inr s_1.stays10))
def Qs (c0 : Channel) (t15b : qq) (s : zB) : Option (zB ⊕ (List Int)) :=
 if s.t25 < (c0.fords.length : Int) then
 (((ix c0.fords s.t25).bind fun t28 =>
 (ix t15b.r1 c0.tides).bind fun t33 =>
 (iterM FU (Qo t33 s t28) (⟨0, 0⟩ : Jo)).bind fun o_2 =>
 if o_2 = 0 then
 ((appc 8 s.out7 [2]).bind fun t57 =>
 some t57) else
 ((ix t15b.r1 c0.tides).bind fun t62 =>
 if o_2 = (t62.length : Int) then
 ((appc 8 s.out7 [1]).bind fun t68 =>
 some t68) else
 ((appc 8 s.out7 [0]).bind fun t52 =>
 some t52))).bind fun o_1 =>
 (addc s.t25 1).bind fun t69 =>
 some (.inl (⟨t69, o_1⟩ : zB))) else
 (some (.inr s.out7))
def Qd (c0 : Channel) : Option JJ :=
 (yt c0).bind fun t15 =>
 oc t15 (fun t15a => some (⟨t15a, []⟩ : JJ)) (fun t15b => (iterM FU (Qs c0 t15b) (⟨0, []⟩ : zB)).bind fun o =>
 some (⟨0, o⟩ : JJ))
theorem Zg (c0 : Channel) (qa0 : Option Addr) (na0 ca0 : Nat) (qa1 : Option Addr) (na1 ca1 : Nat) (qa2 : Option Addr) (na2 ca2 : Nat) (w : World) (hw : HV w (keys [] []) [] [] [(aB qa0, aO qa0, RI.enc c0.fords), (aB qa1, aO qa1, RSa.enc c0.sands), (aB qa2, aO qa2, RSi.enc c0.sights)] w) (hna0 : c0.fords.length = na0) (hqa0 : AOK na0 qa0) (hla0 : na0 ≤ ca0) (hna1 : c0.sands.length = na1) (hqa1 : AOK na1 qa1) (hla1 : na1 ≤ ca1) (hna2 : c0.sights.length = na2) (hqa2 : AOK na2 qa2) (hla2 : na2 ≤ ca2) {res : JJ} (hm : Qd c0 = some res) :
    Calls Tryz.prog 36 #[.agg #[.int .i64 c0.cells, .int .i64 c0.tides, .slice qa0 na0 ca0, .slice qa1 na1 ca1, .slice qa2 na2 ca2]] w (fun en w' => ∃ l : VL, en = .returned (.tuple #[sL l, .int .i64 res.r1]) ∧ (VOK 1 l.n l.cap (RI.enc res.r0) l.sp l.q) ∧ HV w (keys [] []) [] [vL 66 l (RI.enc res.r0)] [] w') := by
  unfold Qd at hm
  refine yr func36 Y ntmps36 Y (e := [(0, _)]) Y hw (jr ?_)
  refine jI Y Y (fun b h2 => ?_)
  refine jc Y Y Y (fun _ _ => yc Y) (jo Y Y (k7 (zX [_, _, _, _, _] 0 isAgg26 sizeOf26 Y Y Y Y ?_)))
  obtain ⟨t15, h3, hm⟩ := bindO hm
  rcases t15 with t15a | t15b
  ·replace hm := ocL hm
   refine jd [] [] Y Y Y Y Y Y Y call95 (fun w hh => yx c0 qa0 na0 ca0 qa1 na1 ca1 qa2 na2 ca2 w (HV.callee (S0 := []) (vs0 := []) hh (roR hh 0 Y (roR hh 1 Y (roR hh 2 Y roN)))) hna0 hqa0 hla0 hna1 hqa1 hla1 hna2 hqa2 hla2 h3) (fun l h4 => ?_)
   have h5 := h4
   refine jg Y Y (zo Y Y Y (zo Y Y Y (zo Y Y Y (jo Y Y (jo Y Y (jo Y Y (jq ?_)))))))
   refine ji (jr (jg Y Y (jc Y Y Y (fun _ _ => YR h5 Y Y) (jq (J1 Y Y (jr (jg Y Y ?_)))))))
   refine jc Y Y Y (fun _ _ => yc Y) (jo Y Y (jq (jv (jh (zV 66 ?_)))))
   obtain rfl := sj hm
   refine jm Y (fun w hh => (.tmp Y (.tmp Y .nil))) (fun w hh => ⟨⟨none, 0, 0, []⟩, rfl, VOK.nil, hh.se [] [0] 3 Y Y Y rfl⟩)
  replace hm := ocR hm
  refine jd [] [] Y Y Y Y Y Y Y call95 (fun w hh => yx c0 qa0 na0 ca0 qa1 na1 ca1 qa2 na2 ca2 w (HV.callee (S0 := []) (vs0 := []) hh (roR hh 0 Y (roR hh 1 Y (roR hh 2 Y roN)))) hna0 hqa0 hla0 hna1 hqa1 hla1 hna2 hqa2 hla2 h3) (fun l_1 h6 => ?_)
  obtain ⟨h7, h8, h9⟩ := h6
  refine jV (S' := [_, _]) (vs' := [_, _]) [0, 1] [0, 1] 0 Y Y Y Y (jg Y Y (zo Y Y Y (zo Y Y Y (zo Y Y Y (jo Y Y (jo Y Y (jo Y Y ?_)))))))
  refine jq (ji (jr (jg Y Y (jc Y Y Y (fun _ _ => Jc Y Y) (jq (Ka Y Y (jt ?_)))))))
  refine ja (jr (jc Y Y Y (fun _ _ => yc Y) (jq (ji (jr (yD 2 runUnderlying26 Y sizeOf22 Y Y (yf 1 isAgg22 Y Y Y Y ?_)))))))
  refine jc Y Y Y (fun w _ => qd hna0 (runUnderlying22 w) Y) (jg Y Y (jq (zV 66 ?_)))
  obtain ⟨o, h10, h11⟩ := bindO hm
  refine j3 (ι := VL) (fun l_2 => VOK 1 l_2.n l_2.cap (RI.enc o) l_2.sp l_2.q) (fun l_2 => [(7, sL l_2)]) (fun l_2 => [kc l_1.1 #[.int .i64 t15b.t14_0, .int .i64 t15b.t14_1, .slice qa0 na0 ca0, .slice qa1 na1 ca1, .slice qa2 na2 ca2, sL l_1.2.2] 175, kc b #[.int .i64 c0.cells, .int .i64 c0.tides, .slice qa0 na0 ca0, .slice qa1 na1 ca1, .slice qa2 na2 ca2] 26]) (fun l_2 => [vL 66 l_2 (RI.enc o), vL 3 l_1.2.2 (RI.enc t15b.t14_5)]) ?_ ?_
  ·replace hm := h10
   refine jp ?_
   refine kk (ι := VL) hm (fun s l_3 => VOK 1 l_3.n l_3.cap (RI.enc s.out7) l_3.sp l_3.q) (fun s l_3 => [(1, ptr b 0), (5, sL l_1.2.1.v), (7, sL l_3), (23, .slice qa0 na0 ca0), (24, .int .i64 (c0.fords.length : Int)), (25, .int .i64 s.t25)]) (fun s l_3 => [kc l_1.1 #[.int .i64 t15b.t14_0, .int .i64 t15b.t14_1, .slice qa0 na0 ca0, .slice qa1 na1 ca1, .slice qa2 na2 ca2, sL l_1.2.2] 175, kc b #[.int .i64 c0.cells, .int .i64 c0.tides, .slice qa0 na0 ca0, .slice qa1 na1 ca1, .slice qa2 na2 ca2] 26]) (fun s l_3 => [⟨155, RwH.enc l_1.2.1.rs, l_1.2.1.v.sp, l_1.2.1.v.q, dbl 159 RSta t15b.r1 l_1.2.1.rs⟩, vL 66 l_3 (RI.enc s.out7), vL 3 l_1.2.2 (RI.enc t15b.t14_5)]) ⟨none, 0, 0, []⟩ (VOK.nil) (sE Y) (hsE [0, 1] [1, 0, 2] 0 Y Y Y Y) (fun s l_3 r hpl hm h14 => ?_)
   have h13 := hpl
   unfold Qs at hm
   refine jr (Kv Y Y Y (jq (ji ?_)))
   refine ju Y (fun h15 => ?_) (fun h15 => ?_)
   ·replace hm := ifD h15 hm
    refine jt (ja (ji ?_))
    obtain ⟨o_1, h16, h17⟩ := bindO hm
    refine j3 (ι := VL) (fun l_4 => VOK 1 l_4.n l_4.cap (RI.enc o_1) l_4.sp l_4.q) (fun l_4 => [(1, ptr b 0), (5, sL l_1.2.1.v), (7, sL l_4), (23, .slice qa0 na0 ca0), (24, .int .i64 (c0.fords.length : Int)), (25, .int .i64 s.t25)]) (fun l_4 => [kc l_1.1 #[.int .i64 t15b.t14_0, .int .i64 t15b.t14_1, .slice qa0 na0 ca0, .slice qa1 na1 ca1, .slice qa2 na2 ca2, sL l_1.2.2] 175, kc b #[.int .i64 c0.cells, .int .i64 c0.tides, .slice qa0 na0 ca0, .slice qa1 na1 ca1, .slice qa2 na2 ca2] 26]) (fun l_4 => [⟨155, RwH.enc l_1.2.1.rs, l_1.2.1.v.sp, l_1.2.1.v.q, dbl 159 RSta t15b.r1 l_1.2.1.rs⟩, vL 66 l_4 (RI.enc o_1), vL 3 l_1.2.2 (RI.enc t15b.t14_5)]) ?_ ?_
    ·replace hm := h16
     refine jp (jr (jg Y Y ?_))
     obtain ⟨t28, h19, hm⟩ := bindO hm
     refine jc Y Y Y (fun w _ => Jy h19 (runUnderlying22 w) (sizeOf3 w) Y Y hna0 hqa0) (jc Y Y Y (fun w hh => zR RI 0 h19 (isAgg3 w) Y (hh.seg 0 Y) Y (Nat.add_zero _).symm) (jo Y Y (jo Y Y (k7 (jo Y Y (jq (ji ?_)))))))
     refine jr (jg Y Y (yD 1 runUnderlying26 Y sizeOf3 Y Y (yf 1 isAgg3 Y Y Y Y ?_)))
     obtain ⟨t33, h20, hm⟩ := bindO hm
     obtain ⟨L, h21, h22⟩ := (h8).row h20
     refine jc Y Y Y (fun w _ => JR h21 (runUnderlying150 w) (sizeOf155 w) Y Y (vlen RwH h7 Y) (vne h7)) (jc Y Y Y (fun w hh => zR RwH 0 h21 (isAgg155 w) Y (hh.vseg 0 Y h7) Y (Nat.add_zero _).symm) (jc Y Y Y (fun w _ => zr (vlen RSta h22 Y) (runUnderlying155 w) Y) (jg Y Y (jq ?_))))
     obtain ⟨o_2, h23, h24⟩ := bindO hm
     refine j3 (ι := Unit) (fun l_5 => True) (fun l_5 => [(1, ptr b 0), (5, sL l_1.2.1.v), (7, sL l_3), (10, .int .i64 o_2), (23, .slice qa0 na0 ca0), (24, .int .i64 (c0.fords.length : Int)), (25, .int .i64 s.t25)]) (fun l_5 => [kc l_1.1 #[.int .i64 t15b.t14_0, .int .i64 t15b.t14_1, .slice qa0 na0 ca0, .slice qa1 na1 ca1, .slice qa2 na2 ca2, sL l_1.2.2] 175, kc b #[.int .i64 c0.cells, .int .i64 c0.tides, .slice qa0 na0 ca0, .slice qa1 na1 ca1, .slice qa2 na2 ca2] 26]) (fun l_5 => [⟨155, RwH.enc l_1.2.1.rs, l_1.2.1.v.sp, l_1.2.1.v.q, dbl 159 RSta t15b.r1 l_1.2.1.rs⟩, vL 66 l_3 (RI.enc s.out7), vL 3 l_1.2.2 (RI.enc t15b.t14_5)]) ?_ ?_
     ·replace hm := h23
      refine jp ?_
      refine kk (ι := Unit) hm (fun s_1 l_6 => True) (fun s_1 l_6 => [(1, ptr b 0), (5, sL l_1.2.1.v), (7, sL l_3), (8, .int .i64 s.t25), (9, .int .i64 t28), (10, .int .i64 s_1.stays10), (23, .slice qa0 na0 ca0), (24, .int .i64 (c0.fords.length : Int)), (25, .int .i64 s.t25), (34, sL L), (35, .int .i64 (t33.length : Int)), (36, .int .i64 s_1.t36)]) (fun s_1 l_6 => [kc l_1.1 #[.int .i64 t15b.t14_0, .int .i64 t15b.t14_1, .slice qa0 na0 ca0, .slice qa1 na1 ca1, .slice qa2 na2 ca2, sL l_1.2.2] 175, kc b #[.int .i64 c0.cells, .int .i64 c0.tides, .slice qa0 na0 ca0, .slice qa1 na1 ca1, .slice qa2 na2 ca2] 26]) (fun s_1 l_6 => [⟨155, RwH.enc l_1.2.1.rs, l_1.2.1.v.sp, l_1.2.1.v.q, dbl 159 RSta t15b.r1 l_1.2.1.rs⟩, vL 66 l_3 (RI.enc s.out7), vL 3 l_1.2.2 (RI.enc t15b.t14_5)]) () (trivial) (sE Y) (fun w hh => hh) (fun s_1 l_6 r_1 hpl hm h25 => ?_)
      unfold Qo at hm
      refine jr (Kv Y Y Y (jq (ji ?_)))
      refine ju Y (fun h26 => ?_) (fun h26 => ?_)
      ·replace hm := ifD h26 hm
       refine jt (ja (ji ?_))
       obtain ⟨o_3, h27, h28⟩ := bindO hm
       refine j3 (ι := Unit) (fun l_7 => True) (fun l_7 => [(1, ptr b 0), (5, sL l_1.2.1.v), (7, sL l_3), (8, .int .i64 s.t25), (9, .int .i64 t28), (10, .int .i64 o_3), (23, .slice qa0 na0 ca0), (24, .int .i64 (c0.fords.length : Int)), (25, .int .i64 s.t25), (34, sL L), (35, .int .i64 (t33.length : Int)), (36, .int .i64 s_1.t36)]) (fun l_7 => [kc l_1.1 #[.int .i64 t15b.t14_0, .int .i64 t15b.t14_1, .slice qa0 na0 ca0, .slice qa1 na1 ca1, .slice qa2 na2 ca2, sL l_1.2.2] 175, kc b #[.int .i64 c0.cells, .int .i64 c0.tides, .slice qa0 na0 ca0, .slice qa1 na1 ca1, .slice qa2 na2 ca2] 26]) (fun l_7 => [⟨155, RwH.enc l_1.2.1.rs, l_1.2.1.v.sp, l_1.2.1.v.q, dbl 159 RSta t15b.r1 l_1.2.1.rs⟩, vL 66 l_3 (RI.enc s.out7), vL 3 l_1.2.2 (RI.enc t15b.t14_5)]) ?_ ?_
       ·replace hm := h27
        refine jp (jr ?_)
        obtain ⟨t38, h29, hm⟩ := bindO hm
        refine jc Y Y Y (fun w _ => JR h29 (runUnderlying155 w) (sizeOf159 w) Y Y (vlen RSta h22 Y) (vne h22)) ?_
        refine jc Y Y Y (fun w hh => JE RSta 0 [.int .i64 t38.after, .int .i64 t38.at_.c0, .int .i64 t38.at_.c1, .int .i64 t38.at_.c2] h29 (isAgg159 w) (sizeOf159 w) Y (hh.dseg 0 Y h20 h21 h22) Y (Nat.add_zero _).symm) ?_
        refine js (fun w => zeroValue159 w) Y (fun b_1 h30 => ?_)
        refine kz (us := #[_, _, _, _]) (cs' := [_, _, _, _]) (S' := [_, _, _]) 0 (fun w => sizeOf159 w) Y Y Y Y Y Y Y (k7 (jg Y Y (yD 1 runUnderlying159 Y sizeOf157 Y Y ?_)))
        obtain ⟨t42, h31, hm⟩ := bindO hm
        refine jc Y Y Y (fun w _ => JS h31 Y (runUnderlying157 w) (sizeOf3 w) Y Y) (jc Y Y Y (fun w hh => jz (isAgg3 w) Y (hh.cell 0 Y (ixCell h31 kI [_] [] Y Y))) (jg Y Y (jc Y Y Y (fun _ _ => Ju Y Y) (jq ?_))))
        refine ju Y (fun h32 => ?_) (fun h32 => ?_)
        ·replace hm := ifD h32 hm
         refine je (jg Y Y ?_)
         obtain ⟨t47, h33, hm⟩ := bindO hm
         refine Kq h33 Y Y Y (jo Y Y (jx (jw ?_)))
         obtain rfl := sj hm
         exact jk () (trivial) (sE Y) (hsE [1, 2] [0, 1, 2] 0 Y Y Y Y)
        replace hm := ifE h32 hm
        refine jt (jw ?_)
        obtain rfl := sj hm
        exact jk () (trivial) (sE Y) (hsE [1, 2] [0, 1, 2] 0 Y Y Y Y)
       intro l_7 hj
       replace hm := h28
       refine ja (je ?_)
       obtain ⟨t48, h34, hm⟩ := bindO hm
       refine Kq h34 Y Y Y (jg Y Y (jx ?_))
       obtain rfl := sj hm
       refine ja ?_
       exact jN _ () Y (trivial) (sE Y) (fun w hh => hh)
      replace hm := ifE h26 hm
      refine kN (jl (jl (jO ?_)))
      obtain rfl := sj hm
      have hbo := h25 _ Y
      subst hbo
      exact jk () (trivial) (sE Y) (fun w hh => hh)
     intro l_5 hj
     replace hm := h24
     refine ja (jr (jg Y Y (jq (jp (jr (jc Y Y Y (fun _ _ => Ju Y Y) (jo Y Y ?_)))))))
     refine jq ?_
     refine ju Y (fun h35 => ?_) (fun h35 => ?_)
     ·replace hm := ifD h35 hm
      refine je (jg Y Y ?_)
      refine qE RI [2] (ps := [(0, _)]) (cells := [_]) (fun w => runUnderlying58 w) (fun w => sizeOf66 w) (fun w => zeroValue66 w) Y Y Y Y Y Y Y Y (fun L_1 h36 => ?_)
      obtain ⟨t57, h37, hm⟩ := bindO hm
      refine zz RI 2 h37 underlying58 ZS Y Y Y Y Y h13 Y Y (vlen RI h36 Y) (AOK.q (vne h36)) (fun w hh => (hh.vsegA 0 Y h36)) Y (fun L_2 h38 h38n => ?_)
      refine jV (S' := [_, _]) (vs' := [_, _, _, _]) [0, 1] [0, 1, 2, 3] 0 Y Y Y Y (jo Y Y (jx (jw (jw ?_))))
      obtain rfl := sj hm
      exact jk L_2 (h38) (sE Y) (hsE [0, 1] [1, 2, 3] 0 Y Y Y Y)
     replace hm := ifE h35 hm
     refine jr (jg Y Y (yD 1 runUnderlying26 Y sizeOf3 Y Y (yf 1 isAgg3 Y Y Y Y ?_)))
     obtain ⟨t62, h39, hm⟩ := bindO hm
     obtain ⟨L_3, h40, h41⟩ := (h8).row h39
     refine jc Y Y Y (fun w _ => JR h40 (runUnderlying150 w) (sizeOf155 w) Y Y (vlen RwH h7 Y) (vne h7)) (jc Y Y Y (fun w hh => zR RwH 0 h40 (isAgg155 w) Y (hh.vseg 0 Y h7) Y (Nat.add_zero _).symm) (jc Y Y Y (fun w _ => zr (vlen RSta h41 Y) (runUnderlying155 w) Y) (jc Y Y Y (fun _ _ => Ju Y Y) (jo Y Y (jq ?_)))))
     refine ju Y (fun h42 => ?_) (fun h42 => ?_)
     ·replace hm := ifD h42 hm
      refine je (jg Y Y ?_)
      refine qE RI [1] (ps := [(0, _)]) (cells := [_]) (fun w => runUnderlying58 w) (fun w => sizeOf66 w) (fun w => zeroValue66 w) Y Y Y Y Y Y Y Y (fun L_4 h43 => ?_)
      obtain ⟨t68, h44, hm⟩ := bindO hm
      refine zz RI 2 h44 underlying58 ZS Y Y Y Y Y h13 Y Y (vlen RI h43 Y) (AOK.q (vne h43)) (fun w hh => (hh.vsegA 0 Y h43)) Y (fun L_5 h45 h45n => ?_)
      refine jV (S' := [_, _]) (vs' := [_, _, _, _]) [0, 1] [0, 1, 2, 3] 0 Y Y Y Y (jo Y Y (jx (jw (jw ?_))))
      obtain rfl := sj hm
      exact jk L_5 (h45) (sE Y) (hsE [0, 1] [1, 2, 3] 0 Y Y Y Y)
     replace hm := ifE h42 hm
     refine je (jg Y Y ?_)
     refine qE RI [0] (ps := [(0, _)]) (cells := [_]) (fun w => runUnderlying58 w) (fun w => sizeOf66 w) (fun w => zeroValue66 w) Y Y Y Y Y Y Y Y (fun L_6 h46 => ?_)
     obtain ⟨t52, h47, hm⟩ := bindO hm
     refine zz RI 2 h47 underlying58 ZS Y Y Y Y Y h13 Y Y (vlen RI h46 Y) (AOK.q (vne h46)) (fun w hh => (hh.vsegA 0 Y h46)) Y (fun L_7 h48 h48n => ?_)
     refine jV (S' := [_, _]) (vs' := [_, _, _, _]) [0, 1] [0, 1, 2, 3] 0 Y Y Y Y (jo Y Y (jx (jw (jw ?_))))
     obtain rfl := sj hm
     exact jk L_7 (h48) (sE Y) (hsE [0, 1] [1, 2, 3] 0 Y Y Y Y)
    intro l_4 hj
    have h18 := hj
    replace hm := h17
    refine ja (je ?_)
    obtain ⟨t69, h49, hm⟩ := bindO hm
    refine Kq h49 Y Y Y (jg Y Y (jx ?_))
    obtain rfl := sj hm
    refine ja ?_
    exact jN _ l_4 Y (h18) (sE Y) (fun w hh => hh)
   replace hm := ifE h15 hm
   refine kN (jl (jl (jO ?_)))
   obtain rfl := sj hm
   have hbo := h14 _ Y
   subst hbo
   exact jk l_3 (h13) (sE Y) (hsE [0, 1] [1, 2] 0 Y Y Y Y)
  intro l_2 hj
  have h12 := hj
  replace hm := h11
  refine ja (jr (jg Y Y (jo Y Y (jo Y Y (jq (jv ?_))))))
  obtain rfl := sj hm
  refine jm Y (fun w hh => (.tmp Y (.tmp Y .nil))) (fun w hh => ⟨l_2, rfl, h12, hh.se [] [0] 3 Y Y Y rfl⟩)
def y8 (s0 : State) (a11 : Int) (a22_cells : Int) (a22_tides : Int) (a22_fords : (List Int)) (a22_sands : (List Sand)) (a22_sights : (List Sight)) : Option Int :=
 (ix [s0.at_.c0, s0.at_.c1, s0.at_.c2] a11).bind fun t7 =>
 (ix a22_fords a11).bind fun t12 =>
 (subc t7 t12).bind fun t14 =>
 some t14
theorem kO (s0 : State) (a11 : Int) (a22_cells : Int) (a22_tides : Int) (a22_fords : (List Int)) (a22_sands : (List Sand)) (a22_sights : (List Sight)) (rb : Nat) (rb_1 : Nat) (qa2 : Option Addr) (na2 ca2 : Nat) (qa3 : Option Addr) (na3 ca3 : Nat) (qa4 : Option Addr) (na4 ca4 : Nat) (w : World) (hw : HV w (keys [] []) [] [] [(rb, 0, [.int .i64 a11]), (rb_1, 0, [.int .i64 a22_cells, .int .i64 a22_tides, .slice qa2 na2 ca2, .slice qa3 na3 ca3, .slice qa4 na4 ca4]), (aB qa2, aO qa2, RI.enc a22_fords), (aB qa3, aO qa3, RSa.enc a22_sands), (aB qa4, aO qa4, RSi.enc a22_sights)] w)   (hna2 : a22_fords.length = na2) (hqa2 : AOK na2 qa2) (hla2 : na2 ≤ ca2) (hna3 : a22_sands.length = na3) (hqa3 : AOK na3 qa3) (hla3 : na3 ≤ ca3) (hna4 : a22_sights.length = na4) (hqa4 : AOK na4 qa4) (hla4 : na4 ≤ ca4) {res : Int} (hm : y8 s0 a11 a22_cells a22_tides a22_fords a22_sands a22_sights = some res) :
    Calls Tryz.prog 108 #[.agg #[.int .i64 s0.after, .int .i64 s0.at_.c0, .int .i64 s0.at_.c1, .int .i64 s0.at_.c2], ptr rb 0, ptr rb_1 0] w (fun en w' => ∃ l : Unit, en = .returned (.int .i64 res) ∧ (True) ∧ HV w (keys [] []) [] [] [] w') := by
  unfold y8 at hm
  refine yr func108 Y ntmps108 Y (e := [(0, _), (1, _), (2, _)]) Y hw (jr ?_)
  refine jI Y Y (fun b h1 => ?_)
  refine jo Y Y (jq (ji ?_))
  refine ky none (.hoist 0 (.free 1 (.free 2 (.hoist 3 (.free 4 (.hoist 5 (.hoist 6 (.free 7 (.hoist 8 (.free 9 (.free 10 .done))))))))))) _ Y (by decide +kernel) (fun w k hh => hh.draw k) (fun w hh => hh) ?_
  refine jy Y Y Y Y (fun w hh => jz (isAgg3 w) Y (segCell (hh.seg 0 Y) 0 Y)) (JT 1 runUnderlying159 sizeOf157 Y Y Y Y ?_)
  obtain ⟨t7, h2, hm⟩ := bindO hm
  refine jn Y Y Y Y (fun w _ => JS h2 Y (runUnderlying157 w) (sizeOf3 w) Y Y) (jy Y Y Y Y (fun w hh => jz (isAgg3 w) Y (hh.cell 0 Y (ixCell h2 kI [_] [] Y Y))) (JT 2 runUnderlying26 sizeOf22 Y Y Y Y (jy Y Y Y Y (fun w hh => jz (isAgg22 w) Y (segCell (hh.seg 1 Y) 2 Y)) (jy Y Y Y Y (fun w hh => jz (isAgg3 w) Y (segCell (hh.seg 0 Y) 0 Y)) ?_))))
  obtain ⟨t12, h3, hm⟩ := bindO hm
  refine jn Y Y Y Y (fun w _ => Jy h3 (runUnderlying22 w) (sizeOf3 w) Y Y hna2 hqa2) (jy Y Y Y Y (fun w hh => zR RI 0 h3 (isAgg3 w) Y (hh.seg 2 Y) Y (Nat.add_zero _).symm) ?_)
  obtain ⟨t14, h4, hm⟩ := bindO hm
  refine jn Y Y Y Y (fun _ _ => zO h4 Y Y) (jn Y Y Y Y (fun _ _ => kM Y) (jM (ja (jv ?_))))
  obtain rfl := sj hm
  refine jm Y (fun w hh => (.tmp Y .nil)) (fun w hh => ⟨(), rfl, trivial, hh.se [] [] 5 Y Y Y rfl⟩)
structure Jk where
  n0 : Int
  t9 : Int
def Qk (l1 : (List Int)) (s : Jk) : Option (Jk ⊕ Int) :=
 if s.t9 < (l1.length : Int) then
 ((ix l1 s.t9).bind fun t11 =>
 (addc s.t9 1).bind fun t16 =>
 some (.inl (⟨(min s.n0 t11), t16⟩ : Jk))) else
 (some (.inr s.n0))
def Qe (n0 : Int) (l1 : (List Int)) : Option Int :=
 (iterM FU (Qk l1) (⟨n0, 0⟩ : Jk)).bind fun o =>
 some o
theorem Yh (n0 : Int) (l1 : (List Int)) (qa0 : Option Addr) (na0 ca0 : Nat) (w : World) (hw : HV w (keys [] []) [] [] [(aB qa0, aO qa0, RI.enc l1)] w) (hna0 : l1.length = na0) (hqa0 : AOK na0 qa0) (hla0 : na0 ≤ ca0) {res : Int} (hm : Qe n0 l1 = some res) :
    Calls Tryz.prog 166 #[.int .i64 n0, .slice qa0 na0 ca0] w (fun en w' => ∃ l : Unit, en = .returned (.int .i64 res) ∧ (True) ∧ HV w (keys [] []) [] [] [] w') := by
  unfold Qe at hm
  refine yr func166 Y ntmps166 Y (e := [(0, _), (1, _)]) Y hw (jr (jo Y Y (jq (ji (jr (jg Y Y (jc Y Y Y (fun w _ => qd hna0 (runUnderlying22 w) Y) ?_)))))))
  refine jg Y Y (jq ?_)
  obtain ⟨o, h1, h2⟩ := bindO hm
  refine j3 (ι := Unit) (fun l => True) (fun l => [(0, .int .i64 o)]) (fun l => []) (fun l => []) ?_ ?_
  ·replace hm := h1
   refine jp ?_
   refine kk (ι := Unit) hm (fun s l_1 => True) (fun s l_1 => [(0, .int .i64 s.n0), (7, .slice qa0 na0 ca0), (8, .int .i64 (l1.length : Int)), (9, .int .i64 s.t9)]) (fun s l_1 => []) (fun s l_1 => []) () (trivial) (sE Y) (fun w hh => hh) (fun s l_1 r hpl hm h3 => ?_)
   unfold Qk at hm
   refine jr (Kv Y Y Y (jq (ji ?_)))
   refine ju Y (fun h4 => ?_) (fun h4 => ?_)
   ·replace hm := ifD h4 hm
    refine jt (ja (ji (jp (jr ?_))))
    obtain ⟨t11, h5, hm⟩ := bindO hm
    refine jc Y Y Y (fun w _ => Jy h5 (runUnderlying22 w) (sizeOf3 w) Y Y hna0 hqa0) (jc Y Y Y (fun w hh => zR RI 0 h5 (isAgg3 w) Y (hh.seg 0 Y) Y (Nat.add_zero _).symm) (jo Y Y (jq (je (jg Y Y (jg Y Y (jc Y Y Y (fun _ _ => ja4 Y Y) ?_)))))))
    refine jo Y Y (jx (jw (ja (je ?_))))
    obtain ⟨t16, h6, hm⟩ := bindO hm
    refine Kq h6 Y Y Y (jg Y Y (jx ?_))
    obtain rfl := sj hm
    refine ja ?_
    exact jN _ () Y (trivial) (sE Y) (fun w hh => hh)
   replace hm := ifE h4 hm
   refine kN (jl (jl (jO ?_)))
   obtain rfl := sj hm
   have hbo := h3 _ Y
   subst hbo
   exact jk () (trivial) (sE Y) (fun w hh => hh)
  intro l hj
  replace hm := h2
  refine ja (jr (jg Y Y (jo Y Y (jq (jv ?_)))))
  obtain rfl := sj hm
  refine jm Y (fun w hh => (.tmp Y .nil)) (fun w hh => ⟨(), rfl, trivial, hh.se [] [] 1 Y Y Y rfl⟩)
structure K4 where
  out5_lo : Int
  out5_hi : Int
structure zS where
  t21 : Int
  out5_lo : Int
  out5_hi : Int
structure Yw where
  out5_lo : Int
  out5_hi : Int
def Kc : Plan := (.one 1 (.one 6 (.free 13 (.one 11 (.free 12 (.one 14 (.free 15 (.one 16 .done))))))))
def J2 : Plan := (.one 5 (.one 6 (.free 13 (.one 11 (.free 12 (.one 14 (.free 15 (.one 16 .done))))))))
def J6 : Plan := (.br (.alt 1 J2 (.alt 5 Kc .nil)))
def JZ : Plan := (.one 4 (.one 5 (.one 6 (.free 13 (.one 11 (.free 12 (.one 14 (.free 15 (.one 16 .done)))))))))
def YB : Plan := (.br (.alt 1 JZ (.alt 4 J6 .nil)))
def K9 : Plan := (.one 6 (.free 13 (.one 11 (.free 12 (.one 14 (.free 15 (.one 16 .done)))))))
def K2 : Plan := (.one 8 (.free 12 (.free 13 (.one 14 (.free 15 (.one 16 .done))))))
def K1 : Plan := (.free 13 (.one 11 (.free 12 (.one 14 (.free 15 (.one 16 .done))))))
def K0 : Plan := (.br (.alt 8 K1 (.alt 11 K2 .nil)))
def J9 : Plan := (.br (.alt 6 K0 (.alt 8 K9 .nil)))
def Ym : Plan := (.br (.alt 1 J9 (.alt 8 Kc .nil)))
def JN : Plan := (.br (.alt 5 J9 (.alt 8 J2 .nil)))
def Yn : Plan := (.br (.alt 1 JN (.alt 5 Ym (.alt 8 J6 .nil))))
def Yk : Plan := (.br (.alt 4 JN (.alt 8 JZ .nil)))
def Yo : Plan := (.free 12 (.one 14 (.free 15 (.one 16 .done))))
def Yl : Plan := (.free 12 (.free 13 (.one 14 (.free 15 (.one 16 .done)))))
def K7 (l0 : (List State)) (of1_c0 : Int) (of1_c1_cells : Int) (of1_c1_tides : Int) (of1_c1_fords : (List Int)) (of1_c1_sands : (List Sand)) (of1_c1_sights : (List Sight)) (s : zS) : Option (zS ⊕ K4) :=
 if s.t21 < (l0.length : Int) then
 ((ix l0 s.t21).bind fun t23 =>
 ((y8 (⟨t23.after, (⟨t23.at_.c0, t23.at_.c1, t23.at_.c2⟩ : Cells)⟩ : State) of1_c0 of1_c1_cells of1_c1_tides of1_c1_fords of1_c1_sands of1_c1_sights).bind fun t29 =>
 (Qe s.out5_lo [t29]).bind fun t31 =>
 (y8 (⟨t23.after, (⟨t23.at_.c0, t23.at_.c1, t23.at_.c2⟩ : Cells)⟩ : State) of1_c0 of1_c1_cells of1_c1_tides of1_c1_fords of1_c1_sands of1_c1_sights).bind fun t36 =>
 some (⟨t31, (max s.out5_hi t36)⟩ : Yw)).bind fun o_2 =>
 (addc s.t21 1).bind fun t40 =>
 some (.inl (⟨t40, o_2.out5_lo, o_2.out5_hi⟩ : zS))) else
 (some (.inr (⟨s.out5_lo, s.out5_hi⟩ : K4)))
def KJ (l0 : (List State)) (of1_c0 : Int) (of1_c1_cells : Int) (of1_c1_tides : Int) (of1_c1_fords : (List Int)) (of1_c1_sands : (List Sand)) (of1_c1_sights : (List Sight)) : Option Span :=
 ((ix l0 0).bind fun t10 =>
 (ix l0 0).bind fun t15 =>
 (y8 (⟨t10.after, (⟨t10.at_.c0, t10.at_.c1, t10.at_.c2⟩ : Cells)⟩ : State) of1_c0 of1_c1_cells of1_c1_tides of1_c1_fords of1_c1_sands of1_c1_sights).bind fun t12 =>
 (y8 (⟨t15.after, (⟨t15.at_.c0, t15.at_.c1, t15.at_.c2⟩ : Cells)⟩ : State) of1_c0 of1_c1_cells of1_c1_tides of1_c1_fords of1_c1_sands of1_c1_sights).bind fun t17 =>
 some (⟨t12, t17⟩ : Span)).bind fun o =>
 (iterM FU (K7 l0 of1_c0 of1_c1_cells of1_c1_tides of1_c1_fords of1_c1_sands of1_c1_sights) (⟨0, o.lo, o.hi⟩ : zS)).bind fun o_1 =>
 some (⟨o_1.out5_lo, o_1.out5_hi⟩ : Span)
theorem Y3 (l0 : (List State)) (of1_c0 : Int) (of1_c1_cells : Int) (of1_c1_tides : Int) (of1_c1_fords : (List Int)) (of1_c1_sands : (List Sand)) (of1_c1_sights : (List Sight)) (qa0 : Option Addr) (na0 ca0 : Nat) (rb : Nat) (rb_1 : Nat) (qa3 : Option Addr) (na3 ca3 : Nat) (qa4 : Option Addr) (na4 ca4 : Nat) (qa5 : Option Addr) (na5 ca5 : Nat) (w : World) (hw : HV w (keys [] []) [] [] [(aB qa0, aO qa0, RSta.enc l0), (rb, 0, [.int .i64 of1_c0]), (rb_1, 0, [.int .i64 of1_c1_cells, .int .i64 of1_c1_tides, .slice qa3 na3 ca3, .slice qa4 na4 ca4, .slice qa5 na5 ca5]), (aB qa3, aO qa3, RI.enc of1_c1_fords), (aB qa4, aO qa4, RSa.enc of1_c1_sands), (aB qa5, aO qa5, RSi.enc of1_c1_sights)] w) (hna0 : l0.length = na0) (hqa0 : AOK na0 qa0) (hla0 : na0 ≤ ca0)   (hna3 : of1_c1_fords.length = na3) (hqa3 : AOK na3 qa3) (hla3 : na3 ≤ ca3) (hna4 : of1_c1_sands.length = na4) (hqa4 : AOK na4 qa4) (hla4 : na4 ≤ ca4) (hna5 : of1_c1_sights.length = na5) (hqa5 : AOK na5 qa5) (hla5 : na5 ≤ ca5) {res : Span} (hm : KJ l0 of1_c0 of1_c1_cells of1_c1_tides of1_c1_fords of1_c1_sands of1_c1_sights = some res) :
    Calls Tryz.prog 107 #[.slice qa0 na0 ca0, .func (.func 108) #[] #[ptr rb 0, ptr rb_1 0]] w (fun en w' => ∃ l : Unit, en = .returned (.agg #[.int .i64 res.lo, .int .i64 res.hi]) ∧ (True) ∧ HV w (keys [] []) [] [] [] w') := by
  unfold KJ at hm
  refine yr func107 Y ntmps107 Y (e := [(0, _), (1, _)]) Y hw (jr ?_)
  refine js (fun w => zeroValue50 w) Y (fun b h1 => ?_)
  refine jq (ji ?_)
  obtain ⟨o, h2, h3⟩ := bindO hm
  refine j3 (ι := Nat) (fun l => True) (fun l => [(0, .slice qa0 na0 ca0), (1, .func (.func 108) #[] #[ptr rb 0, ptr rb_1 0]), (4, ptr b 0), (5, ptr l 0)]) (fun l => [kc b #[.int .i64 0, .int .i64 0] 50, kc l #[.int .i64 o.lo, .int .i64 o.hi] 50]) (fun l => []) ?_ ?_
  ·replace hm := h2
   obtain ⟨t10, h4, hm⟩ := bindO hm
   obtain ⟨t15, h5, hm⟩ := bindO hm
   obtain ⟨t12, h6, hm⟩ := bindO hm
   obtain ⟨t17, h7, hm⟩ := bindO hm
   refine ky none (.free 0 (.free 1 (.free 2 (.hoist 3 (.free 5 (.free 6 (.free 7 (.hoist 8 (.br (.alt 4 (.br (.alt 9 (.free 10 (.one 11 (.one 12 .done))) (.alt 11 (.one 9 (.free 10 (.one 12 .done))) .nil))) (.alt 11 (.one 4 (.one 9 (.free 10 (.one 12 .done)))) .nil))))))))))) _ Y (by decide +kernel) (fun w k hh => hh.draw k) (fun w hh => hh) ?_
   refine zs Y Y Y (zs Y Y Y (jn Y Y Y Y (fun w _ => Jy h4 (runUnderlying155 w) (sizeOf159 w) Y Y hna0 hqa0) ?_))
   refine jy Y Y Y Y (fun w hh => JE RSta 0 [.int .i64 t10.after, .int .i64 t10.at_.c0, .int .i64 t10.at_.c1, .int .i64 t10.at_.c2] h4 (isAgg159 w) (sizeOf159 w) Y (hh.seg 0 Y) Y (Nat.add_zero _).symm) ?_
   refine zs Y Y Y (zs Y Y Y (jn Y Y Y Y (fun w _ => Jy h5 (runUnderlying155 w) (sizeOf159 w) Y Y hna0 hqa0) ?_))
   refine jy Y Y Y Y (fun w hh => JE RSta 0 [.int .i64 t15.after, .int .i64 t15.at_.c0, .int .i64 t15.at_.c1, .int .i64 t15.at_.c2] h5 (isAgg159 w) (sizeOf159 w) Y (hh.seg 0 Y) Y (Nat.add_zero _).symm) ?_
   refine ZC ?_
   refine zC Y ?_ ?_
   ·refine jd [] [] Y Y Y Y Y Y Y call108 (fun w hh => kO (⟨t10.after, (⟨t10.at_.c0, t10.at_.c1, t10.at_.c2⟩ : Cells)⟩ : State) of1_c0 of1_c1_cells of1_c1_tides of1_c1_fords of1_c1_sands of1_c1_sights rb rb_1 qa3 na3 ca3 qa4 na4 ca4 qa5 na5 ca5 w (HV.callee (S0 := []) (vs0 := []) hh (roR hh 1 Y (roR hh 2 Y (roR hh 3 Y (roR hh 4 Y (roR hh 5 Y roN)))))) hna3 hqa3 hla3 hna4 hqa4 hla4 hna5 hqa5 hla5 h6) (fun l_1 h8 => ?_)
    refine jj (fun w hh => hh) (ZC ?_)
    refine zC Y ?_ ?_
    ·refine jd [] [] Y Y Y Y Y Y Y call108 (fun w hh => kO (⟨t15.after, (⟨t15.at_.c0, t15.at_.c1, t15.at_.c2⟩ : Cells)⟩ : State) of1_c0 of1_c1_cells of1_c1_tides of1_c1_fords of1_c1_sands of1_c1_sights rb rb_1 qa3 na3 ca3 qa4 na4 ca4 qa5 na5 ca5 w (HV.callee (S0 := []) (vs0 := []) hh (roR hh 1 Y (roR hh 2 Y (roR hh 3 Y (roR hh 4 Y (roR hh 5 Y roN)))))) hna3 hqa3 hla3 hna4 hqa4 hla4 hna5 hqa5 hla5 h7) (fun l_2 h9 => ?_)
     refine jj (fun w hh => hh) (jn Y Y Y Y (fun _ _ => k9 (vs := [(0, _), (1, _)]) (cells := [_, _]) Y Y) (jA Y ?_))
     refine js (fun w => zeroValue50 w) Y (fun b_1 h10 => ?_)
     refine jj (hsE [1] [] 0 Y Y Y Y) (jA Y (kz (us := #[_, _]) (cs' := [_, _]) (S' := [_, _]) 0 (fun w => sizeOf50 w) Y Y Y Y Y Y Y (jj (hsE [1] [] 0 Y Y Y Y) (jM ?_))))
     obtain rfl := sj hm
     exact jk b_1 (trivial) (sE Y) (hsE [1, 0] [] 0 Y Y Y Y)
    refine zC Y ?_ ?_
    refine js (fun w => zeroValue50 w) Y (fun b_2 h11 => ?_)
    refine jj (hsE [1] [] 0 Y Y Y Y) (jA Y ?_)
    refine jd [] [] Y Y Y Y Y Y Y call108 (fun w hh => kO (⟨t15.after, (⟨t15.at_.c0, t15.at_.c1, t15.at_.c2⟩ : Cells)⟩ : State) of1_c0 of1_c1_cells of1_c1_tides of1_c1_fords of1_c1_sands of1_c1_sights rb rb_1 qa3 na3 ca3 qa4 na4 ca4 qa5 na5 ca5 w (HV.callee (S0 := []) (vs0 := []) hh (roR hh 1 Y (roR hh 2 Y (roR hh 3 Y (roR hh 4 Y (roR hh 5 Y roN)))))) hna3 hqa3 hla3 hna4 hqa4 hla4 hna5 hqa5 hla5 h7) (fun l_3 h12 => ?_)
    refine jj (hsE [1] [] 0 Y Y Y Y) (jn Y Y Y Y (fun _ _ => k9 (vs := [(0, _), (1, _)]) (cells := [_, _]) Y Y) (jA Y (kz (us := #[_, _]) (cs' := [_, _]) (S' := [_, _]) 0 (fun w => sizeOf50 w) Y Y Y Y Y Y Y (jj (hsE [1] [] 0 Y Y Y Y) (jM ?_)))))
    obtain rfl := sj hm
    exact jk b_2 (trivial) (sE Y) (hsE [1, 0] [] 0 Y Y Y Y)
    exact QE
   refine zC Y ?_ ?_
   refine js (fun w => zeroValue50 w) Y (fun b_3 h13 => ?_)
   refine jj (hsE [1] [] 0 Y Y Y Y) (jA Y ?_)
   refine jd [] [] Y Y Y Y Y Y Y call108 (fun w hh => kO (⟨t10.after, (⟨t10.at_.c0, t10.at_.c1, t10.at_.c2⟩ : Cells)⟩ : State) of1_c0 of1_c1_cells of1_c1_tides of1_c1_fords of1_c1_sands of1_c1_sights rb rb_1 qa3 na3 ca3 qa4 na4 ca4 qa5 na5 ca5 w (HV.callee (S0 := []) (vs0 := []) hh (roR hh 1 Y (roR hh 2 Y (roR hh 3 Y (roR hh 4 Y (roR hh 5 Y roN)))))) hna3 hqa3 hla3 hna4 hqa4 hla4 hna5 hqa5 hla5 h6) (fun l_4 h14 => ?_)
   refine jj (hsE [1] [] 0 Y Y Y Y) (jA Y ?_)
   refine jd [] [] Y Y Y Y Y Y Y call108 (fun w hh => kO (⟨t15.after, (⟨t15.at_.c0, t15.at_.c1, t15.at_.c2⟩ : Cells)⟩ : State) of1_c0 of1_c1_cells of1_c1_tides of1_c1_fords of1_c1_sands of1_c1_sights rb rb_1 qa3 na3 ca3 qa4 na4 ca4 qa5 na5 ca5 w (HV.callee (S0 := []) (vs0 := []) hh (roR hh 1 Y (roR hh 2 Y (roR hh 3 Y (roR hh 4 Y (roR hh 5 Y roN)))))) hna3 hqa3 hla3 hna4 hqa4 hla4 hna5 hqa5 hla5 h7) (fun l_5 h15 => ?_)
   refine jj (hsE [1] [] 0 Y Y Y Y) (jn Y Y Y Y (fun _ _ => k9 (vs := [(0, _), (1, _)]) (cells := [_, _]) Y Y) (jA Y (kz (us := #[_, _]) (cs' := [_, _]) (S' := [_, _]) 0 (fun w => sizeOf50 w) Y Y Y Y Y Y Y (jj (hsE [1] [] 0 Y Y Y Y) (jM ?_)))))
   obtain rfl := sj hm
   exact jk b_3 (trivial) (sE Y) (hsE [1, 0] [] 0 Y Y Y Y)
   exact QE
  intro l hj
  replace hm := h3
  refine ja (ji (jr (jg Y Y (jc Y Y Y (fun w _ => qd hna0 (runUnderlying155 w) Y) (jg Y Y (jq ?_))))))
  obtain ⟨o_1, h16, h17⟩ := bindO hm
  refine j3 (ι := Unit) (fun l_6 => True) (fun l_6 => [(4, ptr b 0), (5, ptr l 0)]) (fun l_6 => [kc b #[.int .i64 0, .int .i64 0] 50, kc l #[.int .i64 o_1.out5_lo, .int .i64 o_1.out5_hi] 50]) (fun l_6 => []) ?_ ?_
  ·replace hm := h16
   refine jp ?_
   refine kk (ι := Unit) hm (fun s l_7 => True) (fun s l_7 => [(1, .func (.func 108) #[] #[ptr rb 0, ptr rb_1 0]), (4, ptr b 0), (5, ptr l 0), (19, .slice qa0 na0 ca0), (20, .int .i64 (l0.length : Int)), (21, .int .i64 s.t21)]) (fun s l_7 => [kc b #[.int .i64 0, .int .i64 0] 50, kc l #[.int .i64 s.out5_lo, .int .i64 s.out5_hi] 50]) (fun s l_7 => []) () (trivial) (sE Y) (fun w hh => hh) (fun s l_7 r hpl hm h18 => ?_)
   unfold K7 at hm
   refine jr (Kv Y Y Y (jq (ji ?_)))
   refine ju Y (fun h19 => ?_) (fun h19 => ?_)
   ·replace hm := ifD h19 hm
    refine jt (ja (ji (jp (jr ?_))))
    obtain ⟨t23, h20, hm⟩ := bindO hm
    refine jc Y Y Y (fun w _ => Jy h20 (runUnderlying155 w) (sizeOf159 w) Y Y hna0 hqa0) ?_
    refine jc Y Y Y (fun w hh => JE RSta 0 [.int .i64 t23.after, .int .i64 t23.at_.c0, .int .i64 t23.at_.c1, .int .i64 t23.at_.c2] h20 (isAgg159 w) (sizeOf159 w) Y (hh.seg 0 Y) Y (Nat.add_zero _).symm) ?_
    refine js (fun w => zeroValue159 w) Y (fun b_4 h21 => ?_)
    refine kz (us := #[_, _, _, _]) (cs' := [_, _, _, _]) (S' := [_, _, _]) 0 (fun w => sizeOf159 w) Y Y Y Y Y Y Y (jq ?_)
    obtain ⟨o_2, h22, h23⟩ := bindO hm
    refine j3 (ι := Unit) (fun l_8 => True) (fun l_8 => [(1, .func (.func 108) #[] #[ptr rb 0, ptr rb_1 0]), (4, ptr b 0), (5, ptr l 0), (19, .slice qa0 na0 ca0), (20, .int .i64 (l0.length : Int)), (21, .int .i64 s.t21)]) (fun l_8 => [kc b_4 #[.int .i64 t23.after, .int .i64 t23.at_.c0, .int .i64 t23.at_.c1, .int .i64 t23.at_.c2] 159, kc b #[.int .i64 0, .int .i64 0] 50, kc l #[.int .i64 o_2.out5_lo, .int .i64 o_2.out5_hi] 50]) (fun l_8 => []) ?_ ?_
    ·replace hm := h22
     obtain ⟨t29, h24, hm⟩ := bindO hm
     obtain ⟨t31, h25, hm⟩ := bindO hm
     obtain ⟨t36, h26, hm⟩ := bindO hm
     refine ky none (.free 0 (.free 2 (.hoist 3 (.free 7 (.free 9 (.hoist 10 (.br (.alt 1 Yk (.alt 4 Yn (.alt 8 YB .nil)))))))))) (HV _ _ [kc b_4 #[.int .i64 t23.after, .int .i64 t23.at_.c0, .int .i64 t23.at_.c1, .int .i64 t23.at_.c2] 159, kc b #[.int .i64 0, .int .i64 0] 50] [] _) Y (by decide +kernel) (fun w k hh => hh.draw k) (hsE [0, 1] [] 0 Y Y Y Y) ?_
     refine JT 0 runUnderlying50 sizeOf3 Y Y Y Y (zs Y Y Y (jy Y Y Y Y (fun w hh => jP (vs := [_, _, _, _]) (isAgg159 w) (sizeOf159 w) Y (hh.cells 0 Y Y)) (JT 1 runUnderlying50 sizeOf3 Y Y Y Y (zs Y Y Y (jy Y Y Y Y (fun w hh => jP (vs := [_, _, _, _]) (isAgg159 w) (sizeOf159 w) Y (hh.cells 0 Y Y)) ?_)))))
     refine Kn (.free 15 (.one 16 .done)) (fun g => g [(1, .func (.func 108) #[] #[ptr rb 0, ptr rb_1 0]), (4, ptr b 0), (5, ptr l 0), (19, .slice qa0 na0 ca0), (20, .int .i64 (l0.length : Int)), (21, .int .i64 s.t21), (37, .int .i64 (max s.out5_hi t36))] [kc b_4 #[.int .i64 t23.after, .int .i64 t23.at_.c0, .int .i64 t23.at_.c1, .int .i64 t23.at_.c2] 159, kc b #[.int .i64 0, .int .i64 0] 50, kc l #[.int .i64 t31, .int .i64 s.out5_hi] 50] []) ?_ (fun h27 => ?_)
     ·refine JT 1 runUnderlying50 sizeOf3 Y Y Y Y ?_
      refine jA Y (q4 (cs' := #[_, _]) (S' := [_, _, _]) 2 (fun w => sizeOf3 w) Y Y Y Y Y Y Y (jj (hsE [0, 1] [] 0 Y Y Y Y) (jM ?_)))
      obtain rfl := sj hm
      exact jk () (trivial) (sE Y) (fun w hh => hh)
     refine Kn Yo (fun g => g [(1, .func (.func 108) #[] #[ptr rb 0, ptr rb_1 0]), (4, ptr b 0), (5, ptr l 0), (19, .slice qa0 na0 ca0), (20, .int .i64 (l0.length : Int)), (21, .int .i64 s.t21), (31, .int .i64 t31), (33, .int .i64 s.out5_hi), (36, .int .i64 t36), (38, ptr l 0)] [kc b_4 #[.int .i64 t23.after, .int .i64 t23.at_.c0, .int .i64 t23.at_.c1, .int .i64 t23.at_.c2] 159, kc b #[.int .i64 0, .int .i64 0] 50, kc l #[.int .i64 s.out5_lo, .int .i64 s.out5_hi] 50] []) ?_ (fun h28 => ?_)
     refine jn Y Y Y Y (fun _ _ => ZK Y Y) (jA Y (q4 (cs' := #[_, _]) (S' := [_, _, _]) 2 (fun w => sizeOf3 w) Y Y Y Y Y Y Y (jj (hsE [0, 1] [] 0 Y Y Y Y) ?_)))
     exact KE (h27) (sE Y) (fun w hh => hh)
     refine Kn Yl (fun g => g [(1, .func (.func 108) #[] #[ptr rb 0, ptr rb_1 0]), (4, ptr b 0), (5, ptr l 0), (19, .slice qa0 na0 ca0), (20, .int .i64 (l0.length : Int)), (21, .int .i64 s.t21), (31, .int .i64 t31), (33, .int .i64 s.out5_hi), (36, .int .i64 t36)] [kc b_4 #[.int .i64 t23.after, .int .i64 t23.at_.c0, .int .i64 t23.at_.c1, .int .i64 t23.at_.c2] 159, kc b #[.int .i64 0, .int .i64 0] 50, kc l #[.int .i64 s.out5_lo, .int .i64 s.out5_hi] 50] []) ?_ (fun h29 => ?_)
     ·refine jn Y Y Y Y (fun _ _ => ZK Y Y) ?_
      refine JT 0 runUnderlying50 sizeOf3 Y Y Y Y (jA Y (q4 (cs' := #[_, _]) (S' := [_, _, _]) 2 (fun w => sizeOf3 w) Y Y Y Y Y Y Y (jj (hsE [0, 1] [] 0 Y Y Y Y) ?_)))
      exact KE (h27) (sE Y) (fun w hh => hh)
     refine Kn K2 (fun g => g [(1, .func (.func 108) #[] #[ptr rb 0, ptr rb_1 0]), (4, ptr b 0), (5, ptr l 0), (19, .slice qa0 na0 ca0), (20, .int .i64 (l0.length : Int)), (21, .int .i64 s.t21), (31, .int .i64 t31), (32, ptr l 1), (36, .int .i64 t36)] [kc b_4 #[.int .i64 t23.after, .int .i64 t23.at_.c0, .int .i64 t23.at_.c1, .int .i64 t23.at_.c2] 159, kc b #[.int .i64 0, .int .i64 0] 50, kc l #[.int .i64 s.out5_lo, .int .i64 s.out5_hi] 50] []) ?_ (fun h30 => ?_)
     refine jA Y (yf 2 isAgg3 Y Y Y Y (jj (hsE [0, 1] [] 0 Y Y Y Y) ?_))
     exact KE (h29) (sE Y) (fun w hh => hh)
     refine Kn K1 (fun g => g [(1, .func (.func 108) #[] #[ptr rb 0, ptr rb_1 0]), (4, ptr b 0), (5, ptr l 0), (19, .slice qa0 na0 ca0), (20, .int .i64 (l0.length : Int)), (21, .int .i64 s.t21), (31, .int .i64 t31), (33, .int .i64 s.out5_hi), (34, .func (.func 108) #[] #[ptr rb 0, ptr rb_1 0]), (35, .agg #[.int .i64 t23.after, .int .i64 t23.at_.c0, .int .i64 t23.at_.c1, .int .i64 t23.at_.c2])] [kc b_4 #[.int .i64 t23.after, .int .i64 t23.at_.c0, .int .i64 t23.at_.c1, .int .i64 t23.at_.c2] 159, kc b #[.int .i64 0, .int .i64 0] 50, kc l #[.int .i64 s.out5_lo, .int .i64 s.out5_hi] 50] []) ?_ (fun h31 => ?_)
     ·refine JT 0 runUnderlying50 sizeOf3 Y Y Y Y ?_
      refine jA Y ?_
      refine jd [] [] Y Y Y Y Y Y Y call108 (fun w hh => kO (⟨t23.after, (⟨t23.at_.c0, t23.at_.c1, t23.at_.c2⟩ : Cells)⟩ : State) of1_c0 of1_c1_cells of1_c1_tides of1_c1_fords of1_c1_sands of1_c1_sights rb rb_1 qa3 na3 ca3 qa4 na4 ca4 qa5 na5 ca5 w (HV.callee (S0 := []) (vs0 := []) hh (roR hh 1 Y (roR hh 2 Y (roR hh 3 Y (roR hh 4 Y (roR hh 5 Y roN)))))) hna3 hqa3 hla3 hna4 hqa4 hla4 hna5 hqa5 hla5 h26) (fun l_9 h32 => ?_)
      refine jj (hsE [0, 1] [] 0 Y Y Y Y) ?_
      exact KE (h28) (sE Y) (fun w hh => hh)
     refine Kn K9 (fun g => ∀ (L : VL), vk 1 L (RI.enc [t29]) → g [(1, .func (.func 108) #[] #[ptr rb 0, ptr rb_1 0]), (4, ptr b 0), (5, ptr l 0), (19, .slice qa0 na0 ca0), (20, .int .i64 (l0.length : Int)), (21, .int .i64 s.t21), (26, .int .i64 s.out5_lo), (30, sL L), (33, .int .i64 s.out5_hi), (34, .func (.func 108) #[] #[ptr rb 0, ptr rb_1 0]), (35, .agg #[.int .i64 t23.after, .int .i64 t23.at_.c0, .int .i64 t23.at_.c1, .int .i64 t23.at_.c2])] [kc b_4 #[.int .i64 t23.after, .int .i64 t23.at_.c0, .int .i64 t23.at_.c1, .int .i64 t23.at_.c2] 159, kc b #[.int .i64 0, .int .i64 0] 50, kc l #[.int .i64 s.out5_lo, .int .i64 s.out5_hi] 50] [vL 3 L (RI.enc [t29])]) ?_ (fun h34 => ?_)
     intro L h33
     refine jA Y ?_
     refine jd [] [] Y Y Y Y Y Y Y call166 (fun w hh => Yh s.out5_lo [t29] (qA L.q) L.n L.cap w (HV.callee (S0 := []) (vs0 := []) hh (roC (hh.vsepA 0 Y h33) roN)) (vlen RI h33 Y) (AOK.q (vne h33)) (h33).hle h25) (fun l_10 h35 => ?_)
     refine jj (hsE [0, 1] [] 0 Y Y Y Y) ?_
     exact KE (h31) (sE Y) (hsE [0, 1, 2] [] 0 Y Y Y Y)
     refine Kn K0 (fun g => g [(1, .func (.func 108) #[] #[ptr rb 0, ptr rb_1 0]), (4, ptr b 0), (5, ptr l 0), (19, .slice qa0 na0 ca0), (20, .int .i64 (l0.length : Int)), (21, .int .i64 s.t21), (31, .int .i64 t31), (32, ptr l 1), (34, .func (.func 108) #[] #[ptr rb 0, ptr rb_1 0]), (35, .agg #[.int .i64 t23.after, .int .i64 t23.at_.c0, .int .i64 t23.at_.c1, .int .i64 t23.at_.c2])] [kc b_4 #[.int .i64 t23.after, .int .i64 t23.at_.c0, .int .i64 t23.at_.c1, .int .i64 t23.at_.c2] 159, kc b #[.int .i64 0, .int .i64 0] 50, kc l #[.int .i64 s.out5_lo, .int .i64 s.out5_hi] 50] []) ?_ (fun h36 => ?_)
     ·refine ZC ?_
      refine zC Y ?_ ?_
      ·refine yf 2 isAgg3 Y Y Y Y ?_
       refine jj (hsE [0, 1] [] 0 Y Y Y Y) ?_
       exact KE (h31) (sE Y) (fun w hh => hh)
      refine zC Y ?_ ?_
      refine jd [] [] Y Y Y Y Y Y Y call108 (fun w hh => kO (⟨t23.after, (⟨t23.at_.c0, t23.at_.c1, t23.at_.c2⟩ : Cells)⟩ : State) of1_c0 of1_c1_cells of1_c1_tides of1_c1_fords of1_c1_sands of1_c1_sights rb rb_1 qa3 na3 ca3 qa4 na4 ca4 qa5 na5 ca5 w (HV.callee (S0 := []) (vs0 := []) hh (roR hh 1 Y (roR hh 2 Y (roR hh 3 Y (roR hh 4 Y (roR hh 5 Y roN)))))) hna3 hqa3 hla3 hna4 hqa4 hla4 hna5 hqa5 hla5 h26) (fun l_11 h37 => ?_)
      refine jj (hsE [0, 1] [] 0 Y Y Y Y) ?_
      exact KE (h30) (sE Y) (fun w hh => hh)
      exact QE
     refine Kn Kc (fun g => ∀ (L_1 : VL), vk 1 L_1 (RI.enc [t29]) → g [(1, .func (.func 108) #[] #[ptr rb 0, ptr rb_1 0]), (4, ptr b 0), (5, ptr l 0), (19, .slice qa0 na0 ca0), (20, .int .i64 (l0.length : Int)), (21, .int .i64 s.t21), (25, ptr l 0), (30, sL L_1), (33, .int .i64 s.out5_hi), (34, .func (.func 108) #[] #[ptr rb 0, ptr rb_1 0]), (35, .agg #[.int .i64 t23.after, .int .i64 t23.at_.c0, .int .i64 t23.at_.c1, .int .i64 t23.at_.c2])] [kc b_4 #[.int .i64 t23.after, .int .i64 t23.at_.c0, .int .i64 t23.at_.c1, .int .i64 t23.at_.c2] 159, kc b #[.int .i64 0, .int .i64 0] 50, kc l #[.int .i64 s.out5_lo, .int .i64 s.out5_hi] 50] [vL 3 L_1 (RI.enc [t29])]) ?_ (fun h39 => ?_)
     intro L_1 h38
     refine jA Y (yf 2 isAgg3 Y Y Y Y (jj (hsE [0, 1] [] 0 Y Y Y Y) ?_))
     exact KE (h34 L_1 h38) (sE Y) (fun w hh => hh)
     refine Kn J2 (fun g => g [(1, .func (.func 108) #[] #[ptr rb 0, ptr rb_1 0]), (4, ptr b 0), (5, ptr l 0), (19, .slice qa0 na0 ca0), (20, .int .i64 (l0.length : Int)), (21, .int .i64 s.t21), (26, .int .i64 s.out5_lo), (29, .int .i64 t29), (33, .int .i64 s.out5_hi), (34, .func (.func 108) #[] #[ptr rb 0, ptr rb_1 0]), (35, .agg #[.int .i64 t23.after, .int .i64 t23.at_.c0, .int .i64 t23.at_.c1, .int .i64 t23.at_.c2])] [kc b_4 #[.int .i64 t23.after, .int .i64 t23.at_.c0, .int .i64 t23.at_.c1, .int .i64 t23.at_.c2] 159, kc b #[.int .i64 0, .int .i64 0] 50, kc l #[.int .i64 s.out5_lo, .int .i64 s.out5_hi] 50] []) ?_ (fun h40 => ?_)
     ·refine jA Y ?_
      refine qE RI [t29] (ps := [(0, _)]) (cells := [_]) (fun w => runUnderlying22 w) (fun w => sizeOf3 w) (fun w => zeroValue3 w) Y Y Y Y Y Y Y Y (fun L_2 h41 => ?_)
      refine jj (hsE [0, 1] [] 0 Y Y Y Y) ?_
      exact KE (h34 L_2 h41) (sE Y) (fun w hh => hh)
     refine Kn J9 (fun g => ∀ (L_3 : VL), vk 1 L_3 (RI.enc [t29]) → g [(1, .func (.func 108) #[] #[ptr rb 0, ptr rb_1 0]), (4, ptr b 0), (5, ptr l 0), (19, .slice qa0 na0 ca0), (20, .int .i64 (l0.length : Int)), (21, .int .i64 s.t21), (26, .int .i64 s.out5_lo), (30, sL L_3), (32, ptr l 1), (34, .func (.func 108) #[] #[ptr rb 0, ptr rb_1 0]), (35, .agg #[.int .i64 t23.after, .int .i64 t23.at_.c0, .int .i64 t23.at_.c1, .int .i64 t23.at_.c2])] [kc b_4 #[.int .i64 t23.after, .int .i64 t23.at_.c0, .int .i64 t23.at_.c1, .int .i64 t23.at_.c2] 159, kc b #[.int .i64 0, .int .i64 0] 50, kc l #[.int .i64 s.out5_lo, .int .i64 s.out5_hi] 50] [vL 3 L_3 (RI.enc [t29])]) ?_ (fun h43 => ?_)
     intro L_3 h42
     refine ZC ?_
     refine zC Y ?_ ?_
     ·refine jd [] [] Y Y Y Y Y Y Y call166 (fun w hh => Yh s.out5_lo [t29] (qA L_3.q) L_3.n L_3.cap w (HV.callee (S0 := []) (vs0 := []) hh (roC (hh.vsepA 0 Y h42) roN)) (vlen RI h42 Y) (AOK.q (vne h42)) (h42).hle h25) (fun l_12 h44 => ?_)
      refine jj (hsE [0, 1] [] 0 Y Y Y Y) ?_
      exact KE (h36) (sE Y) (hsE [0, 1, 2] [] 0 Y Y Y Y)
     refine zC Y ?_ ?_
     refine yf 2 isAgg3 Y Y Y Y (jj (hsE [0, 1] [] 0 Y Y Y Y) ?_)
     exact KE (h34 L_3 h42) (sE Y) (fun w hh => hh)
     exact QE
     refine Kn J6 (fun g => g [(1, .func (.func 108) #[] #[ptr rb 0, ptr rb_1 0]), (4, ptr b 0), (5, ptr l 0), (19, .slice qa0 na0 ca0), (20, .int .i64 (l0.length : Int)), (21, .int .i64 s.t21), (25, ptr l 0), (29, .int .i64 t29), (33, .int .i64 s.out5_hi), (34, .func (.func 108) #[] #[ptr rb 0, ptr rb_1 0]), (35, .agg #[.int .i64 t23.after, .int .i64 t23.at_.c0, .int .i64 t23.at_.c1, .int .i64 t23.at_.c2])] [kc b_4 #[.int .i64 t23.after, .int .i64 t23.at_.c0, .int .i64 t23.at_.c1, .int .i64 t23.at_.c2] 159, kc b #[.int .i64 0, .int .i64 0] 50, kc l #[.int .i64 s.out5_lo, .int .i64 s.out5_hi] 50] []) ?_ (fun h45 => ?_)
     ·refine ZC ?_
      refine zC Y ?_ ?_
      ·refine yf 2 isAgg3 Y Y Y Y ?_
       refine jj (hsE [0, 1] [] 0 Y Y Y Y) ?_
       exact KE (h40) (sE Y) (fun w hh => hh)
      refine zC Y ?_ ?_
      refine qE RI [t29] (ps := [(0, _)]) (cells := [_]) (fun w => runUnderlying22 w) (fun w => sizeOf3 w) (fun w => zeroValue3 w) Y Y Y Y Y Y Y Y (fun L_4 h46 => ?_)
      refine jj (hsE [0, 1] [] 0 Y Y Y Y) ?_
      exact KE (h39 L_4 h46) (sE Y) (fun w hh => hh)
      exact QE
     refine Kn JZ (fun g => g [(1, .func (.func 108) #[] #[ptr rb 0, ptr rb_1 0]), (4, ptr b 0), (5, ptr l 0), (19, .slice qa0 na0 ca0), (20, .int .i64 (l0.length : Int)), (21, .int .i64 s.t21), (26, .int .i64 s.out5_lo), (27, .func (.func 108) #[] #[ptr rb 0, ptr rb_1 0]), (28, .agg #[.int .i64 t23.after, .int .i64 t23.at_.c0, .int .i64 t23.at_.c1, .int .i64 t23.at_.c2]), (33, .int .i64 s.out5_hi), (34, .func (.func 108) #[] #[ptr rb 0, ptr rb_1 0]), (35, .agg #[.int .i64 t23.after, .int .i64 t23.at_.c0, .int .i64 t23.at_.c1, .int .i64 t23.at_.c2])] [kc b_4 #[.int .i64 t23.after, .int .i64 t23.at_.c0, .int .i64 t23.at_.c1, .int .i64 t23.at_.c2] 159, kc b #[.int .i64 0, .int .i64 0] 50, kc l #[.int .i64 s.out5_lo, .int .i64 s.out5_hi] 50] []) ?_ (fun h47 => ?_)
     refine jA Y ?_
     refine jd [] [] Y Y Y Y Y Y Y call108 (fun w hh => kO (⟨t23.after, (⟨t23.at_.c0, t23.at_.c1, t23.at_.c2⟩ : Cells)⟩ : State) of1_c0 of1_c1_cells of1_c1_tides of1_c1_fords of1_c1_sands of1_c1_sights rb rb_1 qa3 na3 ca3 qa4 na4 ca4 qa5 na5 ca5 w (HV.callee (S0 := []) (vs0 := []) hh (roR hh 1 Y (roR hh 2 Y (roR hh 3 Y (roR hh 4 Y (roR hh 5 Y roN)))))) hna3 hqa3 hla3 hna4 hqa4 hla4 hna5 hqa5 hla5 h24) (fun l_13 h48 => ?_)
     refine jj (hsE [0, 1] [] 0 Y Y Y Y) ?_
     exact KE (h40) (sE Y) (fun w hh => hh)
     refine Kn JN (fun g => g [(1, .func (.func 108) #[] #[ptr rb 0, ptr rb_1 0]), (4, ptr b 0), (5, ptr l 0), (19, .slice qa0 na0 ca0), (20, .int .i64 (l0.length : Int)), (21, .int .i64 s.t21), (26, .int .i64 s.out5_lo), (29, .int .i64 t29), (32, ptr l 1), (34, .func (.func 108) #[] #[ptr rb 0, ptr rb_1 0]), (35, .agg #[.int .i64 t23.after, .int .i64 t23.at_.c0, .int .i64 t23.at_.c1, .int .i64 t23.at_.c2])] [kc b_4 #[.int .i64 t23.after, .int .i64 t23.at_.c0, .int .i64 t23.at_.c1, .int .i64 t23.at_.c2] 159, kc b #[.int .i64 0, .int .i64 0] 50, kc l #[.int .i64 s.out5_lo, .int .i64 s.out5_hi] 50] []) ?_ (fun h49 => ?_)
     ·refine ZC ?_
      refine zC Y ?_ ?_
      ·refine qE RI [t29] (ps := [(0, _)]) (cells := [_]) (fun w => runUnderlying22 w) (fun w => sizeOf3 w) (fun w => zeroValue3 w) Y Y Y Y Y Y Y Y (fun L_5 h50 => ?_)
       refine jj (hsE [0, 1] [] 0 Y Y Y Y) ?_
       exact KE (h43 L_5 h50) (sE Y) (fun w hh => hh)
      refine zC Y ?_ ?_
      refine yf 2 isAgg3 Y Y Y Y (jj (hsE [0, 1] [] 0 Y Y Y Y) ?_)
      exact KE (h40) (sE Y) (fun w hh => hh)
      exact QE
     refine ZC ?_
     refine zC Y ?_ ?_
     refine yf 2 isAgg3 Y Y Y Y (jj (hsE [0, 1] [] 0 Y Y Y Y) (ZC ?_))
     refine zC Y ?_ ?_
     ·refine jd [] [] Y Y Y Y Y Y Y call108 (fun w hh => kO (⟨t23.after, (⟨t23.at_.c0, t23.at_.c1, t23.at_.c2⟩ : Cells)⟩ : State) of1_c0 of1_c1_cells of1_c1_tides of1_c1_fords of1_c1_sands of1_c1_sights rb rb_1 qa3 na3 ca3 qa4 na4 ca4 qa5 na5 ca5 w (HV.callee (S0 := []) (vs0 := []) hh (roR hh 1 Y (roR hh 2 Y (roR hh 3 Y (roR hh 4 Y (roR hh 5 Y roN)))))) hna3 hqa3 hla3 hna4 hqa4 hla4 hna5 hqa5 hla5 h24) (fun l_14 h51 => ?_)
      refine jj (hsE [0, 1] [] 0 Y Y Y Y) ?_
      exact KE (h49) (sE Y) (fun w hh => hh)
     refine zC Y ?_ ?_
     refine yf 2 isAgg3 Y Y Y Y (jj (hsE [0, 1] [] 0 Y Y Y Y) ?_)
     exact KE (h47) (sE Y) (fun w hh => hh)
     exact QE
     refine zC Y ?_ ?_
     ·refine jd [] [] Y Y Y Y Y Y Y call108 (fun w hh => kO (⟨t23.after, (⟨t23.at_.c0, t23.at_.c1, t23.at_.c2⟩ : Cells)⟩ : State) of1_c0 of1_c1_cells of1_c1_tides of1_c1_fords of1_c1_sands of1_c1_sights rb rb_1 qa3 na3 ca3 qa4 na4 ca4 qa5 na5 ca5 w (HV.callee (S0 := []) (vs0 := []) hh (roR hh 1 Y (roR hh 2 Y (roR hh 3 Y (roR hh 4 Y (roR hh 5 Y roN)))))) hna3 hqa3 hla3 hna4 hqa4 hla4 hna5 hqa5 hla5 h24) (fun l_15 h52 => ?_)
      refine jj (hsE [0, 1] [] 0 Y Y Y Y) (ZC ?_)
      refine zC Y ?_ ?_
      ·refine yf 2 isAgg3 Y Y Y Y ?_
       refine jj (hsE [0, 1] [] 0 Y Y Y Y) ?_
       exact KE (h49) (sE Y) (fun w hh => hh)
      refine zC Y ?_ ?_
      refine qE RI [t29] (ps := [(0, _)]) (cells := [_]) (fun w => runUnderlying22 w) (fun w => sizeOf3 w) (fun w => zeroValue3 w) Y Y Y Y Y Y Y Y (fun L_6 h53 => ?_)
      refine jj (hsE [0, 1] [] 0 Y Y Y Y) (ZC ?_)
      refine zC Y ?_ ?_
      ·refine yf 2 isAgg3 Y Y Y Y ?_
       refine jj (hsE [0, 1] [] 0 Y Y Y Y) ?_
       exact KE (h43 L_6 h53) (sE Y) (fun w hh => hh)
      refine zC Y ?_ ?_
      refine yf 2 isAgg3 Y Y Y Y (jj (hsE [0, 1] [] 0 Y Y Y Y) ?_)
      exact KE (h39 L_6 h53) (sE Y) (fun w hh => hh)
      exact QE
      refine zC Y ?_ ?_
      ·refine yf 2 isAgg3 Y Y Y Y ?_
       refine jj (hsE [0, 1] [] 0 Y Y Y Y) ?_
       exact KE (h45) (sE Y) (fun w hh => hh)
      exact QE
     refine zC Y ?_ ?_
     refine yf 2 isAgg3 Y Y Y Y (jj (hsE [0, 1] [] 0 Y Y Y Y) (ZC ?_))
     refine zC Y ?_ ?_
     ·refine yf 2 isAgg3 Y Y Y Y ?_
      refine jj (hsE [0, 1] [] 0 Y Y Y Y) ?_
      exact KE (h47) (sE Y) (fun w hh => hh)
     refine zC Y ?_ ?_
     refine jd [] [] Y Y Y Y Y Y Y call108 (fun w hh => kO (⟨t23.after, (⟨t23.at_.c0, t23.at_.c1, t23.at_.c2⟩ : Cells)⟩ : State) of1_c0 of1_c1_cells of1_c1_tides of1_c1_fords of1_c1_sands of1_c1_sights rb rb_1 qa3 na3 ca3 qa4 na4 ca4 qa5 na5 ca5 w (HV.callee (S0 := []) (vs0 := []) hh (roR hh 1 Y (roR hh 2 Y (roR hh 3 Y (roR hh 4 Y (roR hh 5 Y roN)))))) hna3 hqa3 hla3 hna4 hqa4 hla4 hna5 hqa5 hla5 h24) (fun l_16 h54 => ?_)
     refine jj (hsE [0, 1] [] 0 Y Y Y Y) ?_
     exact KE (h45) (sE Y) (fun w hh => hh)
     exact QE
     exact QE
    intro l_8 hj
    replace hm := h23
    refine jw (ja (je ?_))
    obtain ⟨t40, h55, hm⟩ := bindO hm
    refine Kq h55 Y Y Y (jg Y Y (jx ?_))
    obtain rfl := sj hm
    refine ja ?_
    exact jN _ () Y (trivial) (sE Y) (hsE [1, 2] [] 0 Y Y Y Y)
   replace hm := ifE h19 hm
   refine kN (jl (jl (jO ?_)))
   obtain rfl := sj hm
   have hbo := h18 _ Y
   subst hbo
   exact jk () (trivial) (sE Y) (fun w hh => hh)
  intro l_6 hj
  replace hm := h17
  refine ja (jr (zX [_, _] 1 isAgg50 sizeOf50 Y Y Y Y (kz (us := #[_, _]) (cs' := [_, _]) (S' := [_, _]) 0 (fun w => sizeOf50 w) Y Y Y Y Y Y Y (jq (jv ?_)))))
  obtain rfl := sj hm
  refine jm Y (fun w hh => (.cell Y (loadVar_agg (vs := [_, _]) (isAgg50 _) (sizeOf50 _) (hh.cells 0 Y Y)) .nil)) (fun w hh => ⟨(), rfl, trivial, hh.se [] [] 6 Y Y Y rfl⟩)
structure y7 where
  r0 : Span
  r1 : Int
def Qg (c0 : Channel) (ford1 : Int) : Option y7 :=
 (zp c0).bind fun t10 =>
 if t10 = 0 then
 ((subc (c0.fords.length : Int) 1).bind fun t21 =>
 (qH ford1 0 t21).bind fun t22 =>
 if (!t22) = true then
 (some (⟨(⟨0, 0⟩ : Span), 1⟩ : y7)) else
 ((yt c0).bind fun t27 =>
 oc t27 (fun t27a => some (⟨(⟨0, 0⟩ : Span), t27a⟩ : y7)) (fun t27b => (ix t27b.r1 c0.tides).bind fun t38 =>
 (KJ t38 ford1 c0.cells c0.tides c0.fords c0.sands c0.sights).bind fun t41 =>
 some (⟨t41, 0⟩ : y7)))) else
 (some (⟨(⟨0, 0⟩ : Span), t10⟩ : y7))
theorem Ze (c0 : Channel) (ford1 : Int) (qa0 : Option Addr) (na0 ca0 : Nat) (qa1 : Option Addr) (na1 ca1 : Nat) (qa2 : Option Addr) (na2 ca2 : Nat) (w : World) (hw : HV w (keys [] []) [] [] [(aB qa0, aO qa0, RI.enc c0.fords), (aB qa1, aO qa1, RSa.enc c0.sands), (aB qa2, aO qa2, RSi.enc c0.sights)] w) (hna0 : c0.fords.length = na0) (hqa0 : AOK na0 qa0) (hla0 : na0 ≤ ca0) (hna1 : c0.sands.length = na1) (hqa1 : AOK na1 qa1) (hla1 : na1 ≤ ca1) (hna2 : c0.sights.length = na2) (hqa2 : AOK na2 qa2) (hla2 : na2 ≤ ca2) {res : y7} (hm : Qg c0 ford1 = some res) :
    Calls Tryz.prog 37 #[.agg #[.int .i64 c0.cells, .int .i64 c0.tides, .slice qa0 na0 ca0, .slice qa1 na1 ca1, .slice qa2 na2 ca2], .int .i64 ford1] w (fun en w' => ∃ l : Unit, en = .returned (.tuple #[.agg #[.int .i64 res.r0.lo, .int .i64 res.r0.hi], .int .i64 res.r1]) ∧ (True) ∧ HV w (keys [] []) [] [] [] w') := by
  unfold Qg at hm
  refine yr func37 Y ntmps37 Y (e := [(0, _), (1, _)]) Y hw (jr ?_)
  refine jI Y Y (fun b h1 => ?_)
  refine jI Y Y (fun b_1 h2 => ?_)
  refine js (fun w => zeroValue50 w) Y (fun b_2 h3 => ?_)
  refine jo Y Y (k7 (zX [_, _, _, _, _] 2 isAgg26 sizeOf26 Y Y Y Y ?_))
  obtain ⟨t10, h4, hm⟩ := bindO hm
  refine jd [] [] Y Y Y Y Y Y Y call55 (fun w hh => Qf c0 qa0 na0 ca0 qa1 na1 ca1 qa2 na2 ca2 w (HV.callee (S0 := []) (vs0 := []) hh (roR hh 0 Y (roR hh 1 Y (roR hh 2 Y roN)))) hna0 hqa0 hla0 hna1 hqa1 hla1 hna2 hqa2 hla2 h4) (fun l h5 => ?_)
  refine jo Y Y (jq (ji (jp (jr (jg Y Y (jc Y Y Y (fun _ _ => Jc Y Y) (jo Y Y ?_)))))))
  refine jq ?_
  refine ju Y (fun h6 => ?_) (fun h6 => ?_)
  ·replace hm := ifF (of_ndec_true h6) hm
   refine jr (jc Y Y Y (fun _ _ => k9 (vs := []) (cells := [_, _]) Y Y) (jg Y Y (kz (us := #[_, _]) (cs' := [_, _]) (S' := [_, _, _]) 0 (fun w => sizeOf50 w) Y Y Y Y Y Y Y (jo Y Y (jq (jv (jJ ?_)))))))
   refine jh ?_
   obtain rfl := sj hm
   refine jm Y (fun w hh => (.cell Y (loadVar_agg (vs := [_, _]) (isAgg50 _) (sizeOf50 _) (hh.cells 0 Y Y)) (.tmp Y .nil))) (fun w hh => ⟨(), rfl, trivial, hh.se [] [] 3 Y Y Y rfl⟩)
  replace hm := ifT (of_ndec_false h6) hm
  refine jr (yf 1 isAgg3 Y Y Y Y (yD 2 runUnderlying26 Y sizeOf22 Y Y (yf 2 isAgg22 Y Y Y Y (jc Y Y Y (fun w _ => qd hna0 (runUnderlying22 w) Y) ?_))))
  obtain ⟨t21, h7, hm⟩ := bindO hm
  refine jc Y Y Y (fun _ _ => zO h7 Y Y) ?_
  obtain ⟨t22, h8, hm⟩ := bindO hm
  refine jd [] [] Y Y Y Y Y Y Y call106 (fun w hh => z1 ford1 0 t21 w (HV.callee (S0 := []) (vs0 := []) hh roN)  h8) (fun l_1 h9 => ?_)
  refine jc Y Y Y (fun _ _ => zt Y) (jo Y Y (jq ?_))
  refine ju Y (fun h10 => ?_) (fun h10 => ?_)
  ·replace hm := ifT (h10) hm
   refine jr (jc Y Y Y (fun _ _ => k9 (vs := []) (cells := [_, _]) Y Y) (kz (us := #[_, _]) (cs' := [_, _]) (S' := [_, _, _]) 0 (fun w => sizeOf50 w) Y Y Y Y Y Y Y (jo Y Y (jq (jv (jJ (jh ?_)))))))
   obtain rfl := sj hm
   refine jm Y (fun w hh => (.cell Y (loadVar_agg (vs := [_, _]) (isAgg50 _) (sizeOf50 _) (hh.cells 0 Y Y)) (.tmp Y .nil))) (fun w hh => ⟨(), rfl, trivial, hh.se [] [] 3 Y Y Y rfl⟩)
  replace hm := ifN h10 hm
  refine jt (jw (ja (jr (zX [_, _, _, _, _] 2 isAgg26 sizeOf26 Y Y Y Y ?_))))
  obtain ⟨t27, h11, hm⟩ := bindO hm
  rcases t27 with t27a | t27b
  ·replace hm := ocL hm
   refine jd [] [] Y Y Y Y Y Y Y call95 (fun w hh => yx c0 qa0 na0 ca0 qa1 na1 ca1 qa2 na2 ca2 w (HV.callee (S0 := []) (vs0 := []) hh (roR hh 0 Y (roR hh 1 Y (roR hh 2 Y roN)))) hna0 hqa0 hla0 hna1 hqa1 hla1 hna2 hqa2 hla2 h11) (fun l_2 h12 => ?_)
   have h13 := h12
   refine jg Y Y (zo Y Y Y (zo Y Y Y (zo Y Y Y (jo Y Y (jo Y Y (jo Y Y (jq ?_)))))))
   refine ji (jr (jg Y Y (jc Y Y Y (fun _ _ => YR h13 Y Y) (jq (J1 Y Y (jr (jc Y Y Y (fun _ _ => k9 (vs := []) (cells := [_, _]) Y Y) ?_)))))))
   refine jg Y Y (kz (us := #[_, _]) (cs' := [_, _]) (S' := [_, _, _]) 0 (fun w => sizeOf50 w) Y Y Y Y Y Y Y (jo Y Y (jq (jv (jh ?_)))))
   obtain rfl := sj hm
   refine jm Y (fun w hh => (.cell Y (loadVar_agg (vs := [_, _]) (isAgg50 _) (sizeOf50 _) (hh.cells 0 Y Y)) (.tmp Y .nil))) (fun w hh => ⟨(), rfl, trivial, hh.se [] [] 3 Y Y Y rfl⟩)
  replace hm := ocR hm
  refine jd [] [] Y Y Y Y Y Y Y call95 (fun w hh => yx c0 qa0 na0 ca0 qa1 na1 ca1 qa2 na2 ca2 w (HV.callee (S0 := []) (vs0 := []) hh (roR hh 0 Y (roR hh 1 Y (roR hh 2 Y roN)))) hna0 hqa0 hla0 hna1 hqa1 hla1 hna2 hqa2 hla2 h11) (fun l_3 h14 => ?_)
  obtain ⟨h15, h16, h17⟩ := h14
  refine jV (S' := [_, _, _, _]) (vs' := [_, _]) [0, 1, 2, 3] [0, 1] 0 Y Y Y Y (jg Y Y (zo Y Y Y (zo Y Y Y (zo Y Y Y (jo Y Y (jo Y Y (jo Y Y ?_)))))))
  refine jq (ji (jr (jg Y Y (jc Y Y Y (fun _ _ => Jc Y Y) (jq (Ka Y Y (jt ?_)))))))
  refine ja (jr (jg Y Y (yD 1 runUnderlying26 Y sizeOf3 Y Y (yf 3 isAgg3 Y Y Y Y ?_))))
  obtain ⟨t38, h18, hm⟩ := bindO hm
  obtain ⟨L, h19, h20⟩ := (h16).row h18
  refine jc Y Y Y (fun w _ => JR h19 (runUnderlying150 w) (sizeOf155 w) Y Y (vlen RwH h15 Y) (vne h15)) (jc Y Y Y (fun w hh => zR RwH 0 h19 (isAgg155 w) Y (hh.vseg 0 Y h15) Y (Nat.add_zero _).symm) (jc Y Y Y (fun _ _ => ku (u := #[]) (u' := #[_, _]) Y Y) ?_))
  obtain ⟨t41, h21, hm⟩ := bindO hm
  refine jd [] [] Y Y Y Y Y Y Y call107 (fun w hh => Y3 t38 ford1 c0.cells c0.tides c0.fords c0.sands c0.sights (qA L.q) L.n L.cap b_1 b qa0 na0 ca0 qa1 na1 ca1 qa2 na2 ca2 w (HV.callee (S0 := []) (vs0 := []) hh (roC (hh.dsepA (S0 := []) (vs0 := []) 0 Y h18 h19 h20) (roC (bsep (hh.bseg 2 Y)) (roC (bsep (hh.bseg 3 Y)) (roR hh 0 Y (roR hh 1 Y (roR hh 2 Y roN))))))) (vlen RSta h20 Y) (AOK.q (vne h20)) (h20).hle hna0 hqa0 hla0 hna1 hqa1 hla1 hna2 hqa2 hla2 h21) (fun l_4 h22 => ?_)
  refine kz (us := #[_, _]) (cs' := [_, _]) (S' := [_, _, _, _]) 1 (fun w => sizeOf50 w) Y Y Y Y Y Y Y (jo Y Y (jq (jv ?_)))
  obtain rfl := sj hm
  refine jm Y (fun w hh => (.cell Y (loadVar_agg (vs := [_, _]) (isAgg50 _) (sizeOf50 _) (hh.cells 1 Y Y)) (.tmp Y .nil))) (fun w hh => ⟨(), rfl, trivial, hh.se [] [] 3 Y Y Y rfl⟩)
def Jx (s10 : (List Int)) (s21 : (List Int)) (s : Int) : Option (Int ⊕ (Unit ⊕ Bool)) :=
 if s < (s10.length : Int) then
 ((ix s10 s).bind fun t18 =>
 (ix s21 s).bind fun t22 =>
 if t18 = t22 then
 ((addc s 1).bind fun t25 =>
 some (.inl t25)) else
 (some (.inr (.inr false)))) else
 (some (.inr (.inl ())))
def Jp (s10 : (List Int)) (s21 : (List Int)) : Option Bool :=
 if (s10.length : Int) = (s21.length : Int) then
 ((iterM FU (Jx s10 s21) 0).bind fun o =>
 oc o (fun j => some true) (fun r_1 => some r_1)) else
 (some false)
theorem YM (s10 : (List Int)) (s21 : (List Int)) (qa0 : Option Addr) (na0 ca0 : Nat) (qa1 : Option Addr) (na1 ca1 : Nat) (w : World) (hw : HV w (keys [] []) [] [] [(aB qa0, aO qa0, RI.enc s10), (aB qa1, aO qa1, RI.enc s21)] w) (hna0 : s10.length = na0) (hqa0 : AOK na0 qa0) (hla0 : na0 ≤ ca0) (hna1 : s21.length = na1) (hqa1 : AOK na1 qa1) (hla1 : na1 ≤ ca1) {res : Bool} (hm : Jp s10 s21 = some res) :
    Calls Tryz.prog 118 #[.slice qa0 na0 ca0, .slice qa1 na1 ca1] w (fun en w' => ∃ l : Unit, en = .returned (.bool res) ∧ (True) ∧ HV w (keys [] []) [] [] [] w') := by
  unfold Jp at hm
  refine yr func118 Y ntmps118 Y (e := [(0, _), (1, _)]) Y hw (jr (jo Y Y (jq (ji (jr (jg Y Y (jc Y Y Y (fun w _ => qd hna0 (runUnderlying22 w) Y) ?_)))))))
  refine jg Y Y (jc Y Y Y (fun w _ => qd hna1 (runUnderlying22 w) Y) (jc Y Y Y (fun _ _ => Jc Y Y) (jq ?_)))
  refine ju Y (fun h1 => ?_) (fun h1 => ?_)
  ·replace hm := ifF (of_ndec_true h1) hm
   refine jr (jo Y Y (jq (jv (jh ?_))))
   obtain rfl := sj hm
   refine jm Y (fun w hh => (.tmp Y .nil)) (fun w hh => ⟨(), rfl, trivial, hh.se [] [] 2 Y Y Y rfl⟩)
  replace hm := ifT (of_ndec_false h1) hm
  refine jt (ja (ji (jr (jg Y Y (jc Y Y Y (fun w _ => qd hna0 (runUnderlying22 w) Y) (jg Y Y (jq ?_)))))))
  obtain ⟨o, h2, h3⟩ := bindO hm
  refine j3 (ι := Unit) (fun j => o = .inl j) (fun j => []) (fun j => []) (fun j => []) ?_ ?_
  ·replace hm := h2
   refine jp ?_
   refine kk (ι := Unit) hm (fun s l => True) (fun s l => [(0, .slice qa0 na0 ca0), (1, .slice qa1 na1 ca1), (12, .int .i64 (s10.length : Int)), (13, .int .i64 s)]) (fun s l => []) (fun s l => []) () (trivial) (sE Y) (fun w hh => hh) (fun s l r hpl hm h4 => ?_)
   unfold Jx at hm
   refine jr (Kv Y Y Y (jq (ji ?_)))
   refine ju Y (fun h5 => ?_) (fun h5 => ?_)
   ·replace hm := ifD h5 hm
    refine jt (ja (ji (jp (jr (jg Y Y (jo Y Y (jq ?_)))))))
    refine ji ?_
    refine ky none (.free 0 (.free 1 (.free 2 (.hoist 3 (.free 4 (.free 5 (.free 6 (.hoist 7 (.free 8 .done))))))))) _ Y (by decide +kernel) (fun w k hh => hh.draw k) (fun w hh => hh) ?_
    refine zs Y Y Y (zs Y Y Y ?_)
    obtain ⟨t18, h6, hm⟩ := bindO hm
    refine jn Y Y Y Y (fun w _ => Jy h6 (runUnderlying22 w) (sizeOf3 w) Y Y hna0 hqa0) (jy Y Y Y Y (fun w hh => zR RI 0 h6 (isAgg3 w) Y (hh.seg 0 Y) Y (Nat.add_zero _).symm) (zs Y Y Y (zs Y Y Y ?_)))
    obtain ⟨t22, h7, hm⟩ := bindO hm
    refine jn Y Y Y Y (fun w _ => Jy h7 (runUnderlying22 w) (sizeOf3 w) Y Y hna1 hqa1) (jy Y Y Y Y (fun w hh => zR RI 0 h7 (isAgg3 w) Y (hh.seg 1 Y) Y (Nat.add_zero _).symm) (jn Y Y Y Y (fun _ _ => Jc Y Y) (jM (ja ?_))))
    refine ju Y (fun h8 => ?_) (fun h8 => ?_)
    ·replace hm := ifF (of_ndec_true h8) hm
     refine jr (jo Y Y (jq (jv (jJ (jh (jh (jJ ?_)))))))
     obtain rfl := sj hm
     have hbo := h4 _ Y
     subst hbo
     refine jh ?_
     replace hm := ocR h3
     refine jh ?_
     obtain rfl := sj hm
     refine jm Y (fun w hh => (.tmp Y .nil)) (fun w hh => ⟨(), rfl, trivial, hh.se [] [] 2 Y Y Y rfl⟩)
    replace hm := ifT (of_ndec_false h8) hm
    refine jt (jw (ja (je ?_)))
    obtain ⟨t25, h9, hm⟩ := bindO hm
    refine Kq h9 Y Y Y (jg Y Y (jx ?_))
    obtain rfl := sj hm
    refine ja ?_
    exact jN _ () Y (trivial) (sE Y) (fun w hh => hh)
   replace hm := ifE h5 hm
   refine kN (jl (jl (jO ?_)))
   obtain rfl := sj hm
   have hbo := h4 _ Y
   subst hbo
   exact jk () (Y) (.nil) (fun w hh => hh)
  intro j hj
  have h10 := hj
  subst h10
  replace hm := ocL h3
  refine ja (jr (jo Y Y (jq (jv ?_))))
  obtain rfl := sj hm
  refine jm Y (fun w hh => (.tmp Y .nil)) (fun w hh => ⟨(), rfl, trivial, hh.se [] [] 2 Y Y Y rfl⟩)
def JW (a0 : (List Int)) (b1 : (List Int)) : Option Bool :=
 (Jp a0 b1).bind fun t7 =>
 some t7
theorem Q9 (a0 : (List Int)) (b1 : (List Int)) (qa0 : Option Addr) (na0 ca0 : Nat) (qa1 : Option Addr) (na1 ca1 : Nat) (w : World) (hw : HV w (keys [] []) [] [] [(aB qa0, aO qa0, RI.enc a0), (aB qa1, aO qa1, RI.enc b1)] w) (hna0 : a0.length = na0) (hqa0 : AOK na0 qa0) (hla0 : na0 ≤ ca0) (hna1 : b1.length = na1) (hqa1 : AOK na1 qa1) (hla1 : na1 ≤ ca1) {res : Bool} (hm : JW a0 b1 = some res) :
    Calls Tryz.prog 45 #[.slice qa0 na0 ca0, .slice qa1 na1 ca1] w (fun en w' => ∃ l : Unit, en = .returned (.bool res) ∧ (True) ∧ HV w (keys [] []) [] [] [] w') := by
  unfold JW at hm
  refine yr func45 Y ntmps45 Y (e := [(0, _), (1, _)]) Y hw (jr (jo Y Y (k7 (jg Y Y (jg Y Y ?_)))))
  obtain ⟨t7, h1, hm⟩ := bindO hm
  refine jd [] [] Y Y Y Y Y Y Y call118 (fun w hh => YM a0 b1 qa0 na0 ca0 qa1 na1 ca1 w (HV.callee (S0 := []) (vs0 := []) hh (roR hh 0 Y (roR hh 1 Y roN))) hna0 hqa0 hla0 hna1 hqa1 hla1 h1) (fun l h2 => ?_)
  refine jo Y Y (jq (jv ?_))
  obtain rfl := sj hm
  refine jm Y (fun w hh => (.tmp Y .nil)) (fun w hh => ⟨(), rfl, trivial, hh.se [] [] 2 Y Y Y rfl⟩)
def yZ (s10 : (List Int)) (s21 : (List Int)) (s : Int) : Option (Int ⊕ (Unit ⊕ Bool)) :=
 if s < (s10.length : Int) then
 ((ix s10 s).bind fun t18 =>
 (ix s21 s).bind fun t22 =>
 if t18 = t22 then
 ((addc s 1).bind fun t25 =>
 some (.inl t25)) else
 (some (.inr (.inr false)))) else
 (some (.inr (.inl ())))
def yk (s10 : (List Int)) (s21 : (List Int)) : Option Bool :=
 if (s10.length : Int) = (s21.length : Int) then
 ((iterM FU (yZ s10 s21) 0).bind fun o =>
 oc o (fun j => some true) (fun r_1 => some r_1)) else
 (some false)
theorem Ki (s10 : (List Int)) (s21 : (List Int)) (qa0 : Option Addr) (na0 ca0 : Nat) (qa1 : Option Addr) (na1 ca1 : Nat) (w : World) (hw : HV w (keys [] []) [] [] [(aB qa0, aO qa0, RI.enc s10), (aB qa1, aO qa1, RI.enc s21)] w) (hna0 : s10.length = na0) (hqa0 : AOK na0 qa0) (hla0 : na0 ≤ ca0) (hna1 : s21.length = na1) (hqa1 : AOK na1 qa1) (hla1 : na1 ≤ ca1) {res : Bool} (hm : yk s10 s21 = some res) :
    Calls Tryz.prog 157 #[.slice qa0 na0 ca0, .slice qa1 na1 ca1] w (fun en w' => ∃ l : Unit, en = .returned (.bool res) ∧ (True) ∧ HV w (keys [] []) [] [] [] w') := by
  unfold yk at hm
  refine yr func157 Y ntmps157 Y (e := [(0, _), (1, _)]) Y hw (jr (jo Y Y (jq (ji (jr (jg Y Y (jc Y Y Y (fun w _ => qd hna0 (runUnderlying58 w) Y) ?_)))))))
  refine jg Y Y (jc Y Y Y (fun w _ => qd hna1 (runUnderlying58 w) Y) (jc Y Y Y (fun _ _ => Jc Y Y) (jq ?_)))
  refine ju Y (fun h1 => ?_) (fun h1 => ?_)
  ·replace hm := ifF (of_ndec_true h1) hm
   refine jr (jo Y Y (jq (jv (jh ?_))))
   obtain rfl := sj hm
   refine jm Y (fun w hh => (.tmp Y .nil)) (fun w hh => ⟨(), rfl, trivial, hh.se [] [] 2 Y Y Y rfl⟩)
  replace hm := ifT (of_ndec_false h1) hm
  refine jt (ja (ji (jr (jg Y Y (jc Y Y Y (fun w _ => qd hna0 (runUnderlying58 w) Y) (jg Y Y (jq ?_)))))))
  obtain ⟨o, h2, h3⟩ := bindO hm
  refine j3 (ι := Unit) (fun j => o = .inl j) (fun j => []) (fun j => []) (fun j => []) ?_ ?_
  ·replace hm := h2
   refine jp ?_
   refine kk (ι := Unit) hm (fun s l => True) (fun s l => [(0, .slice qa0 na0 ca0), (1, .slice qa1 na1 ca1), (12, .int .i64 (s10.length : Int)), (13, .int .i64 s)]) (fun s l => []) (fun s l => []) () (trivial) (sE Y) (fun w hh => hh) (fun s l r hpl hm h4 => ?_)
   unfold yZ at hm
   refine jr (Kv Y Y Y (jq (ji ?_)))
   refine ju Y (fun h5 => ?_) (fun h5 => ?_)
   ·replace hm := ifD h5 hm
    refine jt (ja (ji (jp (jr (jg Y Y (jo Y Y (jq ?_)))))))
    refine ji ?_
    refine ky none (.free 0 (.free 1 (.free 2 (.hoist 3 (.free 4 (.free 5 (.free 6 (.hoist 7 (.free 8 .done))))))))) _ Y (by decide +kernel) (fun w k hh => hh.draw k) (fun w hh => hh) ?_
    refine zs Y Y Y (zs Y Y Y ?_)
    obtain ⟨t18, h6, hm⟩ := bindO hm
    refine jn Y Y Y Y (fun w _ => Jy h6 (runUnderlying58 w) (sizeOf66 w) Y Y hna0 hqa0) (jy Y Y Y Y (fun w hh => zR RI 0 h6 (isAgg66 w) Y (hh.seg 0 Y) Y (Nat.add_zero _).symm) (zs Y Y Y (zs Y Y Y ?_)))
    obtain ⟨t22, h7, hm⟩ := bindO hm
    refine jn Y Y Y Y (fun w _ => Jy h7 (runUnderlying58 w) (sizeOf66 w) Y Y hna1 hqa1) (jy Y Y Y Y (fun w hh => zR RI 0 h7 (isAgg66 w) Y (hh.seg 1 Y) Y (Nat.add_zero _).symm) (jn Y Y Y Y (fun _ _ => Jc Y Y) (jM (ja ?_))))
    refine ju Y (fun h8 => ?_) (fun h8 => ?_)
    ·replace hm := ifF (of_ndec_true h8) hm
     refine jr (jo Y Y (jq (jv (jJ (jh (jh (jJ ?_)))))))
     obtain rfl := sj hm
     have hbo := h4 _ Y
     subst hbo
     refine jh ?_
     replace hm := ocR h3
     refine jh ?_
     obtain rfl := sj hm
     refine jm Y (fun w hh => (.tmp Y .nil)) (fun w hh => ⟨(), rfl, trivial, hh.se [] [] 2 Y Y Y rfl⟩)
    replace hm := ifT (of_ndec_false h8) hm
    refine jt (jw (ja (je ?_)))
    obtain ⟨t25, h9, hm⟩ := bindO hm
    refine Kq h9 Y Y Y (jg Y Y (jx ?_))
    obtain rfl := sj hm
    refine ja ?_
    exact jN _ () Y (trivial) (sE Y) (fun w hh => hh)
   replace hm := ifE h5 hm
   refine kN (jl (jl (jO ?_)))
   obtain rfl := sj hm
   have hbo := h4 _ Y
   subst hbo
   exact jk () (Y) (.nil) (fun w hh => hh)
  intro j hj
  have h10 := hj
  subst h10
  replace hm := ocL h3
  refine ja (jr (jo Y Y (jq (jv ?_))))
  obtain rfl := sj hm
  refine jm Y (fun w hh => (.tmp Y .nil)) (fun w hh => ⟨(), rfl, trivial, hh.se [] [] 2 Y Y Y rfl⟩)
def Kl (a0 : (List Int)) (b1 : (List Int)) : Option Bool :=
 (yk a0 b1).bind fun t7 =>
 some t7
theorem YK (a0 : (List Int)) (b1 : (List Int)) (qa0 : Option Addr) (na0 ca0 : Nat) (qa1 : Option Addr) (na1 ca1 : Nat) (w : World) (hw : HV w (keys [] []) [] [] [(aB qa0, aO qa0, RI.enc a0), (aB qa1, aO qa1, RI.enc b1)] w) (hna0 : a0.length = na0) (hqa0 : AOK na0 qa0) (hla0 : na0 ≤ ca0) (hna1 : b1.length = na1) (hqa1 : AOK na1 qa1) (hla1 : na1 ≤ ca1) {res : Bool} (hm : Kl a0 b1 = some res) :
    Calls Tryz.prog 85 #[.slice qa0 na0 ca0, .slice qa1 na1 ca1] w (fun en w' => ∃ l : Unit, en = .returned (.bool res) ∧ (True) ∧ HV w (keys [] []) [] [] [] w') := by
  unfold Kl at hm
  refine yr func85 Y ntmps85 Y (e := [(0, _), (1, _)]) Y hw (jr (jo Y Y (k7 (jg Y Y (jg Y Y ?_)))))
  obtain ⟨t7, h1, hm⟩ := bindO hm
  refine jd [] [] Y Y Y Y Y Y Y call157 (fun w hh => Ki a0 b1 qa0 na0 ca0 qa1 na1 ca1 w (HV.callee (S0 := []) (vs0 := []) hh (roR hh 0 Y (roR hh 1 Y roN))) hna0 hqa0 hla0 hna1 hqa1 hla1 h1) (fun l h2 => ?_)
  refine jo Y Y (jq (jv ?_))
  obtain rfl := sj hm
  refine jm Y (fun w hh => (.tmp Y .nil)) (fun w hh => ⟨(), rfl, trivial, hh.se [] [] 2 Y Y Y rfl⟩)
def yS (s0 : (List State)) (v1 : State) (s : Int) : Option (Int ⊕ (Unit ⊕ Int)) :=
 if s < (s0.length : Int) then
 ((ix s0 s).bind fun t14 =>
 if v1 = (⟨t14.after, (⟨t14.at_.c0, t14.at_.c1, t14.at_.c2⟩ : Cells)⟩ : State) then
 (some (.inr (.inr s))) else
 ((addc s 1).bind fun t18 =>
 some (.inl t18))) else
 (some (.inr (.inl ())))
def qT (s0 : (List State)) (v1 : State) : Option Int :=
 (iterM FU (yS s0 v1) 0).bind fun o =>
 oc o (fun j => some (-1)) (fun r_1 => some r_1)
theorem J5 (s0 : (List State)) (v1 : State) (qa0 : Option Addr) (na0 ca0 : Nat) (w : World) (hw : HV w (keys [] []) [] [] [(aB qa0, aO qa0, RSta.enc s0)] w) (hna0 : s0.length = na0) (hqa0 : AOK na0 qa0) (hla0 : na0 ≤ ca0) {res : Int} (hm : qT s0 v1 = some res) :
    Calls Tryz.prog 163 #[.slice qa0 na0 ca0, .agg #[.int .i64 v1.after, .int .i64 v1.at_.c0, .int .i64 v1.at_.c1, .int .i64 v1.at_.c2]] w (fun en w' => ∃ l : Unit, en = .returned (.int .i64 res) ∧ (True) ∧ HV w (keys [] []) [] [] [] w') := by
  unfold qT at hm
  refine yr func163 Y ntmps163 Y (e := [(0, _), (1, _)]) Y hw (jr ?_)
  refine jI Y Y (fun b h1 => ?_)
  refine jo Y Y (jq (ji (jr (jg Y Y (jc Y Y Y (fun w _ => qd hna0 (runUnderlying155 w) Y) (jg Y Y (jq ?_)))))))
  obtain ⟨o, h2, h3⟩ := bindO hm
  refine j3 (ι := Unit) (fun j => o = .inl j) (fun j => []) (fun j => [kc b #[.int .i64 v1.after, .int .i64 v1.at_.c0, .int .i64 v1.at_.c1, .int .i64 v1.at_.c2] 159]) (fun j => []) ?_ ?_
  ·replace hm := h2
   refine jp ?_
   refine kk (ι := Unit) hm (fun s l => True) (fun s l => [(0, .slice qa0 na0 ca0), (3, ptr b 0), (7, .int .i64 (s0.length : Int)), (8, .int .i64 s)]) (fun s l => [kc b #[.int .i64 v1.after, .int .i64 v1.at_.c0, .int .i64 v1.at_.c1, .int .i64 v1.at_.c2] 159]) (fun s l => []) () (trivial) (sE Y) (fun w hh => hh) (fun s l r hpl hm h4 => ?_)
   unfold yS at hm
   refine jr (Kv Y Y Y (jq (ji ?_)))
   refine ju Y (fun h5 => ?_) (fun h5 => ?_)
   ·replace hm := ifD h5 hm
    refine jt (ja (ji (jp (jr (jg Y Y (jo Y Y (jq ?_)))))))
    refine ji (ky none (.hoist 0 (.free 1 (.free 2 (.free 3 (.hoist 4 (.free 5 .done)))))) _ Y (by decide +kernel) (fun w k hh => hh.draw k) (fun w hh => hh) (jy Y Y Y Y (fun w hh => jP (vs := [_, _, _, _]) (isAgg159 w) (sizeOf159 w) Y (hh.cells 0 Y Y)) (zs Y Y Y (zs Y Y Y ?_))))
    obtain ⟨t14, h6, hm⟩ := bindO hm
    refine jn Y Y Y Y (fun w _ => Jy h6 (runUnderlying155 w) (sizeOf159 w) Y Y hna0 hqa0) ?_
    refine jy Y Y Y Y (fun w hh => JE RSta 0 [.int .i64 t14.after, .int .i64 t14.at_.c0, .int .i64 t14.at_.c1, .int .i64 t14.at_.c2] h6 (isAgg159 w) (sizeOf159 w) Y (hh.seg 0 Y) Y (Nat.add_zero _).symm) ?_
    refine jn Y Y Y Y (fun w _ => Z7 (jan v1 (⟨t14.after, (⟨t14.at_.c0, t14.at_.c1, t14.at_.c2⟩ : Cells)⟩ : State) w) jaw Y Y) (jM (ja ?_))
    refine ju Y (fun h7 => ?_) (fun h7 => ?_)
    ·replace hm := ifD h7 hm
     refine jr (jg Y Y (jo Y Y (jq (jv (jJ (jh (jh ?_)))))))
     refine jJ ?_
     obtain rfl := sj hm
     have hbo := h4 _ Y
     subst hbo
     refine jh ?_
     replace hm := ocR h3
     refine jh ?_
     obtain rfl := sj hm
     refine jm Y (fun w hh => (.tmp Y .nil)) (fun w hh => ⟨(), rfl, trivial, hh.se [] [] 1 Y Y Y rfl⟩)
    replace hm := ifE h7 hm
    refine jt (jw (ja (je ?_)))
    obtain ⟨t18, h8, hm⟩ := bindO hm
    refine Kq h8 Y Y Y (jg Y Y (jx ?_))
    obtain rfl := sj hm
    refine ja ?_
    exact jN _ () Y (trivial) (sE Y) (fun w hh => hh)
   replace hm := ifE h5 hm
   refine kN (jl (jl (jO ?_)))
   obtain rfl := sj hm
   have hbo := h4 _ Y
   subst hbo
   exact jk () (Y) (.nil) (fun w hh => hh)
  intro j hj
  have h9 := hj
  subst h9
  replace hm := ocL h3
  refine ja (jr (jo Y Y (jq (jv ?_))))
  obtain rfl := sj hm
  refine jm Y (fun w hh => (.tmp Y .nil)) (fun w hh => ⟨(), rfl, trivial, hh.se [] [] 1 Y Y Y rfl⟩)
def qy (s0 : (List State)) (v1 : State) : Option Bool :=
 (qT s0 v1).bind fun t7 =>
 some (decide (0 ≤ t7))
theorem JA (s0 : (List State)) (v1 : State) (qa0 : Option Addr) (na0 ca0 : Nat) (w : World) (hw : HV w (keys [] []) [] [] [(aB qa0, aO qa0, RSta.enc s0)] w) (hna0 : s0.length = na0) (hqa0 : AOK na0 qa0) (hla0 : na0 ≤ ca0) {res : Bool} (hm : qy s0 v1 = some res) :
    Calls Tryz.prog 97 #[.slice qa0 na0 ca0, .agg #[.int .i64 v1.after, .int .i64 v1.at_.c0, .int .i64 v1.at_.c1, .int .i64 v1.at_.c2]] w (fun en w' => ∃ l : Unit, en = .returned (.bool res) ∧ (True) ∧ HV w (keys [] []) [] [] [] w') := by
  unfold qy at hm
  refine yr func97 Y ntmps97 Y (e := [(0, _), (1, _)]) Y hw (jr ?_)
  refine jI Y Y (fun b h1 => ?_)
  refine jo Y Y (k7 (jg Y Y (zX [_, _, _, _] 0 isAgg159 sizeOf159 Y Y Y Y ?_)))
  obtain ⟨t7, h2, hm⟩ := bindO hm
  refine jd [] [] Y Y Y Y Y Y Y call163 (fun w hh => J5 s0 v1 qa0 na0 ca0 w (HV.callee (S0 := []) (vs0 := []) hh (roR hh 0 Y roN)) hna0 hqa0 hla0 h2) (fun l h3 => ?_)
  refine jc Y Y Y (fun _ _ => YI Y Y) (jo Y Y (jq (jv ?_)))
  obtain rfl := sj hm
  refine jm Y (fun w hh => (.tmp Y .nil)) (fun w hh => ⟨(), rfl, trivial, hh.se [] [] 1 Y Y Y rfl⟩)
structure Jh where
  n5 : Int
  t10 : Int
def Qn (s0 : State) (t1 : State) (s : Jh) : Option (Jh ⊕ Int) :=
 if s.t10 < 3 then
 ((ix [s0.at_.c0, s0.at_.c1, s0.at_.c2] s.t10).bind fun t13 =>
 (ix [t1.at_.c0, t1.at_.c1, t1.at_.c2] s.t10).bind fun t18 =>
 (subc t13 t18).bind fun t20 =>
 (ix [t1.at_.c0, t1.at_.c1, t1.at_.c2] s.t10).bind fun t23 =>
 (subc t23 t13).bind fun t26 =>
 (addc s.n5 (max t20 t26)).bind fun t28 =>
 (addc s.t10 1).bind fun t29 =>
 some (.inl (⟨t28, t29⟩ : Jh))) else
 (some (.inr s.n5))
def Qa (s0 : State) (t1 : State) : Option Int :=
 (iterM FU (Qn s0 t1) (⟨0, 0⟩ : Jh)).bind fun o =>
 some o
theorem Zh (s0 : State) (t1 : State)  (w : World) (hw : HV w (keys [] []) [] [] [] w)  {res : Int} (hm : Qa s0 t1 = some res) :
    Calls Tryz.prog 98 #[.agg #[.int .i64 s0.after, .int .i64 s0.at_.c0, .int .i64 s0.at_.c1, .int .i64 s0.at_.c2], .agg #[.int .i64 t1.after, .int .i64 t1.at_.c0, .int .i64 t1.at_.c1, .int .i64 t1.at_.c2]] w (fun en w' => ∃ l : Unit, en = .returned (.int .i64 res) ∧ (True) ∧ HV w (keys [] []) [] [] [] w') := by
  unfold Qa at hm
  refine yr func98 Y ntmps98 Y (e := [(0, _), (1, _)]) Y hw (jr ?_)
  refine jI Y Y (fun b h1 => ?_)
  refine jI Y Y (fun b_1 h2 => ?_)
  refine jo Y Y (k7 (jo Y Y (jq (ji (jr (yD 1 runUnderlying159 Y sizeOf157 Y Y (zX [_, _, _] 1 isAgg157 sizeOf157 Y Y Y Y ?_)))))))
  refine jg Y Y (jq ?_)
  obtain ⟨o, h3, h4⟩ := bindO hm
  refine j3 (ι := Unit) (fun l => True) (fun l => [(5, .int .i64 o)]) (fun l => [kc b_1 #[.int .i64 t1.after, .int .i64 t1.at_.c0, .int .i64 t1.at_.c1, .int .i64 t1.at_.c2] 159, kc b #[.int .i64 s0.after, .int .i64 s0.at_.c0, .int .i64 s0.at_.c1, .int .i64 s0.at_.c2] 159]) (fun l => []) ?_ ?_
  ·replace hm := h3
   refine jp ?_
   refine kk (ι := Unit) hm (fun s l_1 => True) (fun s l_1 => [(3, ptr b_1 0), (5, .int .i64 s.n5), (9, .agg #[.int .i64 s0.at_.c0, .int .i64 s0.at_.c1, .int .i64 s0.at_.c2]), (10, .int .i64 s.t10)]) (fun s l_1 => [kc b_1 #[.int .i64 t1.after, .int .i64 t1.at_.c0, .int .i64 t1.at_.c1, .int .i64 t1.at_.c2] 159, kc b #[.int .i64 s0.after, .int .i64 s0.at_.c0, .int .i64 s0.at_.c1, .int .i64 s0.at_.c2] 159]) (fun s l_1 => []) () (trivial) (sE Y) (fun w hh => hh) (fun s l_1 r hpl hm h5 => ?_)
   unfold Qn at hm
   refine jr (Kv Y Y Y (jq (ji ?_)))
   refine ju Y (fun h6 => ?_) (fun h6 => ?_)
   ·replace hm := ifD h6 hm
    refine jt (ja (ji (jp (jr (jg Y Y ?_)))))
    obtain ⟨t13, h7, hm⟩ := bindO hm
    refine jc Y Y Y (fun w _ => ja1 h7 Y (runUnderlying157 w) (sizeOf3 w) (isAgg3 w) Y Y) (jo Y Y (jo Y Y (jq ?_)))
    refine ky none (.free 0 (.free 1 (.free 2 (.free 3 (.free 4 (.hoist 5 (.free 6 (.free 7 (.free 8 (.free 9 (.hoist 10 (.free 11 (.free 12 (.free 13 (.free 14 (.free 15 .done)))))))))))))))) _ Y (by decide +kernel) (fun w k hh => hh.draw k) (fun w hh => hh) ?_
    refine zs Y Y Y (zs Y Y Y (zs Y Y Y (JT 1 runUnderlying159 sizeOf157 Y Y Y Y ?_)))
    obtain ⟨t18, h8, hm⟩ := bindO hm
    refine jn Y Y Y Y (fun w _ => JS h8 Y (runUnderlying157 w) (sizeOf3 w) Y Y) (jy Y Y Y Y (fun w hh => jz (isAgg3 w) Y (hh.cell 0 Y (ixCell h8 kI [_] [] Y Y))) ?_)
    obtain ⟨t20, h9, hm⟩ := bindO hm
    refine jn Y Y Y Y (fun _ _ => zO h9 Y Y) (zs Y Y Y (JT 1 runUnderlying159 sizeOf157 Y Y Y Y ?_))
    obtain ⟨t23, h10, hm⟩ := bindO hm
    refine jn Y Y Y Y (fun w _ => JS h10 Y (runUnderlying157 w) (sizeOf3 w) Y Y) (jy Y Y Y Y (fun w hh => jz (isAgg3 w) Y (hh.cell 0 Y (ixCell h10 kI [_] [] Y Y))) (zs Y Y Y ?_))
    obtain ⟨t26, h11, hm⟩ := bindO hm
    refine jn Y Y Y Y (fun _ _ => zO h11 Y Y) (jn Y Y Y Y (fun _ _ => ZK Y Y) ?_)
    obtain ⟨t28, h12, hm⟩ := bindO hm
    refine jn Y Y Y Y (fun _ _ => Kh h12 Y Y) (jn Y Y Y Y (fun _ _ => kM Y) (jM (jw (ja (je ?_)))))
    obtain ⟨t29, h13, hm⟩ := bindO hm
    refine Kq h13 Y Y Y (jg Y Y (jx ?_))
    obtain rfl := sj hm
    refine ja ?_
    exact jN _ () Y (trivial) (sE Y) (fun w hh => hh)
   replace hm := ifE h6 hm
   refine kN (jl (jl (jO ?_)))
   obtain rfl := sj hm
   have hbo := h5 _ Y
   subst hbo
   exact jk () (trivial) (sE Y) (fun w hh => hh)
  intro l hj
  replace hm := h4
  refine ja (jr (jg Y Y (jo Y Y (jq (jv ?_)))))
  obtain rfl := sj hm
  refine jm Y (fun w hh => (.tmp Y .nil)) (fun w hh => ⟨(), rfl, trivial, hh.se [] [] 0 Y Y Y rfl⟩)
end Go.Proofs.Wb

