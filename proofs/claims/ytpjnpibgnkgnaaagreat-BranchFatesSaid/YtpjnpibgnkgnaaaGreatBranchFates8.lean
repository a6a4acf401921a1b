/- What the functions that the law BranchFates reaches come to, and why it holds: part 8. -/
import Derived.Test.YtpjnpibgnkgnaaaGreatBranchFates7
namespace Go.Proofs.Wb
set_option maxHeartbeats 4000000
set_option maxRecDepth 100000
open Go Go.Fw Go.Gx Go.Sb
open Tryz
set_option linter.unusedVariables false

structure yg where
  x10 : Int
  out9 : (List Int)
structure zm where
  is11 : Bool
  a12 : Int
def ql (t14 : (List (List Int))) (t16 : (List (List Bool))) (after1 : Int) (ford2 : Int) (s : yg) (s_1 : zm) : Option (zm ⊕ Bool) :=
 if s_1.a12 < (t14.length : Int) then
 ((if s_1.is11 = true then
 (some true) else
 ((ix t16 after1).bind fun t33 =>
 (ix t33 s_1.a12).bind fun t36 =>
 if t36 = true then
 ((ix t14 s_1.a12).bind fun t41 =>
 (ix t41 ford2).bind fun t44 =>
 some (decide (t44 = s.x10))) else
 (some false))).bind fun o_3 =>
 (addc s_1.a12 1).bind fun t28 =>
 some (.inl (⟨o_3, t28⟩ : zm))) else
 (some (.inr s_1.is11))
def qs (c0 : Channel) (t14 : (List (List Int))) (t16 : (List (List Bool))) (after1 : Int) (ford2 : Int) (s : yg) : Option (yg ⊕ (List Int)) :=
 if s.x10 < c0.cells then
 (((iterM FU (ql t14 t16 after1 ford2 s) (⟨false, 0⟩ : zm)).bind fun o_2 =>
 if o_2 = true then
 ((appc 8 s.out9 [s.x10]).bind fun t54 =>
 some t54) else
 (some s.out9)).bind fun o_1 =>
 (addc s.x10 1).bind fun t22 =>
 some (.inl (⟨t22, o_1⟩ : yg))) else
 (some (.inr s.out9))
def yo (c0 : Channel) (after1 : Int) (ford2 : Int) : Option (List Int) :=
 (kr c0).bind fun t14 =>
 (zs c0).bind fun t16 =>
 (iterM FU (qs c0 t14 t16 after1 ford2) (⟨0, []⟩ : yg)).bind fun o =>
 some o
theorem Qx (c0 : Channel) (after1 : Int) (ford2 : Int) (qa0 : Option Addr) (na0 ca0 : Nat) (qa1 : Option Addr) (na1 ca1 : Nat) (qa2 : Option Addr) (na2 ca2 : Nat) (w : World) (hw : HV w (keys [] []) [] [] [(aB qa0, aO qa0, RI.enc c0.fords), (aB qa1, aO qa1, RSa.enc c0.sands), (aB qa2, aO qa2, RSi.enc c0.sights)] w) (hna0 : c0.fords.length = na0) (hqa0 : AOK na0 qa0) (hla0 : na0 ≤ ca0) (hna1 : c0.sands.length = na1) (hqa1 : AOK na1 qa1) (hla1 : na1 ≤ ca1) (hna2 : c0.sights.length = na2) (hqa2 : AOK na2 qa2) (hla2 : na2 ≤ ca2) {res : (List Int)} (hm : yo c0 after1 ford2 = some res) :
    Calls Tryz.prog 40 #[.agg #[.int .i64 c0.cells, .int .i64 c0.tides, .slice qa0 na0 ca0, .slice qa1 na1 ca1, .slice qa2 na2 ca2], .int .i64 after1, .int .i64 ford2] w (fun en w' => ∃ l : VL, en = .returned (sL l) ∧ (VOK 1 l.n l.cap (RI.enc res) l.sp l.q) ∧ HV w (keys [] []) [] [vL 3 l (RI.enc res)] [] w') := by
  unfold yo at hm
  refine yd func40 Y ntmps40 Y (e := [(0, _), (1, _), (2, _)]) Y hw (jr ?_)
  refine jL Y Y (fun b h2 => ?_)
  refine jc Y Y Y (fun _ _ => qW Y) (qb (zO [_, _, _, _, _] 0 isAgg33 sizeOf33 Y Y Y Y ?_))
  obtain ⟨t14, h3, hm⟩ := bindO hm
  refine jd [] [] Y Y Y Y Y Y Y call90 (fun w hh => y8 c0 qa0 na0 ca0 qa1 na1 ca1 qa2 na2 ca2 w (HV.callee (S0 := []) (vs0 := []) hh (roR hh 0 Y (roR hh 1 Y (roR hh 2 Y roN)))) hna0 hqa0 hla0 hna1 hqa1 hla1 hna2 hqa2 hla2 h3) (fun l h4 => ?_)
  obtain ⟨h5, h6⟩ := h4
  refine kO (S' := [_]) (vs' := [_]) [0] [0] 0 Y Y Y Y (jo Y Y (qb (zO [_, _, _, _, _] 0 isAgg33 sizeOf33 Y Y Y Y ?_)))
  obtain ⟨t16, h7, hm⟩ := bindO hm
  refine jd [] [] Y Y Y Y Y Y Y call91 (fun w hh => Yi c0 qa0 na0 ca0 qa1 na1 ca1 qa2 na2 ca2 w (HV.callee (S0 := []) (vs0 := []) hh (roR hh 0 Y (roR hh 1 Y (roR hh 2 Y roN)))) hna0 hqa0 hla0 hna1 hqa1 hla1 hna2 hqa2 hla2 h7) (fun l_1 h8 => ?_)
  obtain ⟨h9, h10⟩ := h8
  refine kO (S' := [_]) (vs' := [_, _]) [0] [0, 1] 0 Y Y Y Y (jo Y Y (qb (jc Y Y Y (fun _ _ => qW Y) (jq (jh (jr (jo Y Y ?_)))))))
  refine jq (Jz 3 ?_)
  obtain ⟨o, h11, h12⟩ := bindO hm
  refine jF (ι := VL) (fun l_2 => VOK 1 l_2.n l_2.cap (RI.enc o) l_2.sp l_2.q) (fun l_2 => [(9, sL l_2)]) (fun l_2 => [kc b #[.int .i64 c0.cells, .int .i64 c0.tides, .slice qa0 na0 ca0, .slice qa1 na1 ca1, .slice qa2 na2 ca2] 33]) (fun l_2 => [vL 3 l_2 (RI.enc o)]) ?_ ?_
  ·replace hm := h11
   refine jm ?_
   refine jH (ι := VL) hm (fun s l_3 => VOK 1 l_3.n l_3.cap (RI.enc s.out9) l_3.sp l_3.q) (fun s l_3 => [(1, .int .i64 after1), (2, .int .i64 ford2), (3, ptr b 0), (7, sL l.v), (8, sL l_1.v), (9, sL l_3), (10, .int .i64 s.x10)]) (fun s l_3 => [kc b #[.int .i64 c0.cells, .int .i64 c0.tides, .slice qa0 na0 ca0, .slice qa1 na1 ca1, .slice qa2 na2 ca2] 33]) (fun s l_3 => [⟨22, RwH.enc l.rs, l.v.sp, l.v.q, dbl 3 RI t14 l.rs⟩, ⟨114, RwH.enc l_1.rs, l_1.v.sp, l_1.v.q, dbl 4 RB t16 l_1.rs⟩, vL 3 l_3 (RI.enc s.out9)]) ⟨none, 0, 0, []⟩ (VOK.nil) (sE Y) (hsE [0] [2, 1, 0] 0 Y Y Y Y) (fun s l_3 r hpl hm h15 => ?_)
   have h14 := hpl
   unfold qs at hm
   refine jh (jr (ji Y Y (qk 0 runUnderlying33 Y sizeOf3 Y Y (kw 0 isAgg3 Y Y Y Y (JK Y Y Y (jq ?_))))))
   refine js Y (fun h16 => ?_) (fun h16 => ?_)
   ·replace hm := ifD h16 hm
    refine jt (ja (jh ?_))
    obtain ⟨o_1, h17, h18⟩ := bindO hm
    refine jF (ι := VL) (fun l_4 => VOK 1 l_4.n l_4.cap (RI.enc o_1) l_4.sp l_4.q) (fun l_4 => [(1, .int .i64 after1), (2, .int .i64 ford2), (3, ptr b 0), (7, sL l.v), (8, sL l_1.v), (9, sL l_4), (10, .int .i64 s.x10)]) (fun l_4 => [kc b #[.int .i64 c0.cells, .int .i64 c0.tides, .slice qa0 na0 ca0, .slice qa1 na1 ca1, .slice qa2 na2 ca2] 33]) (fun l_4 => [⟨22, RwH.enc l.rs, l.v.sp, l.v.q, dbl 3 RI t14 l.rs⟩, ⟨114, RwH.enc l_1.rs, l_1.v.sp, l_1.v.q, dbl 4 RB t16 l_1.rs⟩, vL 3 l_4 (RI.enc o_1)]) ?_ ?_
    ·replace hm := h17
     refine jm (jr (jo Y Y (jq (jh (jr (jo Y Y (jq ?_)))))))
     obtain ⟨o_2, h20, h21⟩ := bindO hm
     refine jF (ι := Unit) (fun l_5 => True) (fun l_5 => [(1, .int .i64 after1), (2, .int .i64 ford2), (3, ptr b 0), (7, sL l.v), (8, sL l_1.v), (9, sL l_3), (10, .int .i64 s.x10), (11, .bool o_2)]) (fun l_5 => [kc b #[.int .i64 c0.cells, .int .i64 c0.tides, .slice qa0 na0 ca0, .slice qa1 na1 ca1, .slice qa2 na2 ca2] 33]) (fun l_5 => [⟨22, RwH.enc l.rs, l.v.sp, l.v.q, dbl 3 RI t14 l.rs⟩, ⟨114, RwH.enc l_1.rs, l_1.v.sp, l_1.v.q, dbl 4 RB t16 l_1.rs⟩, vL 3 l_3 (RI.enc s.out9)]) ?_ ?_
     ·replace hm := h20
      refine jm ?_
      refine jH (ι := Unit) hm (fun s_1 l_6 => True) (fun s_1 l_6 => [(1, .int .i64 after1), (2, .int .i64 ford2), (3, ptr b 0), (7, sL l.v), (8, sL l_1.v), (9, sL l_3), (10, .int .i64 s.x10), (11, .bool s_1.is11), (12, .int .i64 s_1.a12)]) (fun s_1 l_6 => [kc b #[.int .i64 c0.cells, .int .i64 c0.tides, .slice qa0 na0 ca0, .slice qa1 na1 ca1, .slice qa2 na2 ca2] 33]) (fun s_1 l_6 => [⟨22, RwH.enc l.rs, l.v.sp, l.v.q, dbl 3 RI t14 l.rs⟩, ⟨114, RwH.enc l_1.rs, l_1.v.sp, l_1.v.q, dbl 4 RB t16 l_1.rs⟩, vL 3 l_3 (RI.enc s.out9)]) () (trivial) (sE Y) (fun w hh => hh) (fun s_1 l_6 r_1 hpl hm h22 => ?_)
      unfold ql at hm
      refine jh (jr (ji Y Y (ji Y Y (jc Y Y Y (fun w _ => Jj (Eq.trans (h6).len (vlen RwH h5 Y)) (runUnderlying41 w) Y) (JK Y Y Y (jq ?_))))))
      refine js Y (fun h23 => ?_) (fun h23 => ?_)
      ·replace hm := ifD h23 hm
       refine jt (ja (jh ?_))
       obtain ⟨o_3, h24, h25⟩ := bindO hm
       refine jF (ι := Unit) (fun l_7 => True) (fun l_7 => [(1, .int .i64 after1), (2, .int .i64 ford2), (3, ptr b 0), (7, sL l.v), (8, sL l_1.v), (9, sL l_3), (10, .int .i64 s.x10), (11, .bool o_3), (12, .int .i64 s_1.a12)]) (fun l_7 => [kc b #[.int .i64 c0.cells, .int .i64 c0.tides, .slice qa0 na0 ca0, .slice qa1 na1 ca1, .slice qa2 na2 ca2] 33]) (fun l_7 => [⟨22, RwH.enc l.rs, l.v.sp, l.v.q, dbl 3 RI t14 l.rs⟩, ⟨114, RwH.enc l_1.rs, l_1.v.sp, l_1.v.q, dbl 4 RB t16 l_1.rs⟩, vL 3 l_3 (RI.enc s.out9)]) ?_ ?_
       ·replace hm := h24
        refine jm (je (ji Y Y (ji Y Y ?_)))
        refine jP 30 Y (fun h26 => ?_) (fun h26 => ?_)
        ·replace hm := ifT (h26) hm
         refine g_k Y Y Y Y (g_k Y Y Y Y (g_k Y Y Y Y (g_k Y Y Y Y (g_k Y Y Y Y (g_k Y Y Y Y (g_k Y Y Y Y (g_k Y Y Y Y ?_)))))))
         refine yu Y Y Y Y Y ?_
         refine yu Y Y Y Y Y ?_
         refine yu Y Y Y Y Y ?_
         refine yu Y Y Y Y Y ?_
         refine yu Y Y Y Y Y ?_
         refine yu Y Y Y Y Y ?_
         refine yu Y Y Y Y Y ?_
         refine yu Y Y Y Y Y ?_
         refine yu Y Y Y Y Y ?_
         refine g_k Y Y Y Y (qI Y Y Y (jo Y Y (jv (jw ?_))))
         obtain rfl := sj hm
         exact jj () (trivial) (sE Y) (fun w hh => hh)
        replace hm := ifN h26 hm
        refine jb Y Y (ji Y Y (jb Y Y (ji Y Y (jb Y Y ?_))))
        obtain ⟨t33, h27, hm⟩ := bindO hm
        obtain ⟨L, h28, h29⟩ := (h10).row h27
        refine jc Y Y Y (fun w _ => qR h28 (runUnderlying143 w) (sizeOf114 w) Y Y (vlen RwH h9 Y) (vne h9)) (jb Y Y (jc Y Y Y (fun w hh => j5 RwH 0 h28 (isAgg114 w) Y (hh.vseg 1 Y h9) Y (Nat.add_zero _).symm) (jb Y Y (ji Y Y (jb Y Y ?_)))))
        obtain ⟨t36, h30, hm⟩ := bindO hm
        refine jc Y Y Y (fun w _ => qR h30 (runUnderlying114 w) (sizeOf4 w) Y Y (vlen RB h29 Y) (vne h29)) (jb Y Y (jc Y Y Y (fun w hh => j5 RB 0 h30 (isAgg4 w) Y (hh.dseg 1 Y h27 h28 h29) Y (Nat.add_zero _).symm) (jb Y Y (ji Y Y ?_))))
        refine jP 38 Y (fun h31 => ?_) (fun h31 => ?_)
        ·replace hm := ifT (h31) hm
         refine jb Y Y (ji Y Y (jb Y Y (ji Y Y (jb Y Y ?_))))
         obtain ⟨t41, h32, hm⟩ := bindO hm
         obtain ⟨L_1, h33, h34⟩ := (h6).row h32
         refine jc Y Y Y (fun w _ => qR h33 (runUnderlying41 w) (sizeOf22 w) Y Y (vlen RwH h5 Y) (vne h5)) (jb Y Y (jc Y Y Y (fun w hh => j5 RwH 0 h33 (isAgg22 w) Y (hh.vseg 0 Y h5) Y (Nat.add_zero _).symm) (jb Y Y (ji Y Y (jb Y Y ?_)))))
         obtain ⟨t44, h35, hm⟩ := bindO hm
         refine jc Y Y Y (fun w _ => qR h35 (runUnderlying22 w) (sizeOf3 w) Y Y (vlen RI h34 Y) (vne h34)) (jb Y Y (jc Y Y Y (fun w hh => j5 RI 0 h35 (isAgg3 w) Y (hh.dseg 0 Y h32 h33 h34) Y (Nat.add_zero _).symm) (jb Y Y (ji Y Y (jb Y Y (jc Y Y Y (fun _ _ => zN Y Y) (jb Y Y ?_)))))))
         refine qI Y Y Y (yU Y Y Y (jo Y Y (jv (jw ?_))))
         obtain rfl := sj hm
         exact jj () (trivial) (sE Y) (fun w hh => hh)
        replace hm := ifN h31 hm
        refine g_k Y Y Y Y (g_k Y Y Y Y (g_k Y Y Y Y (g_k Y Y Y Y (g_k Y Y Y Y (g_k Y Y Y Y (g_k Y Y Y Y (g_k Y Y Y Y ?_)))))))
        refine g_k Y Y Y Y (jb Y Y (yU Y Y Y (yU Y Y Y (jo Y Y (jv (jw ?_))))))
        obtain rfl := sj hm
        exact jj () (trivial) (sE Y) (fun w hh => hh)
       intro l_7 hj
       replace hm := h25
       refine ja (je (ji Y Y ?_))
       obtain ⟨t28, h36, hm⟩ := bindO hm
       refine Jv h36 Y Y Y (jo Y Y (jv ?_))
       obtain rfl := sj hm
       refine ja ?_
       exact jz _ () Y (trivial) (sE Y) (fun w hh => hh)
      replace hm := ifE h23 hm
      refine jO (jk (jk (jB ?_)))
      obtain rfl := sj hm
      have hbo := h22 _ Y
      subst hbo
      exact jj () (trivial) (sE Y) (fun w hh => hh)
     intro l_5 hj
     replace hm := h21
     refine ja (jr (ji Y Y (jq ?_)))
     refine js Y (fun h37 => ?_) (fun h37 => ?_)
     ·replace hm := ifT (h37) hm
      refine je (ji Y Y (ji Y Y ?_))
      refine qg RI [s.x10] (ps := [(0, _)]) (cells := [_]) (fun w => runUnderlying22 w) (fun w => sizeOf3 w) (fun w => zeroValue3 w) Y Y Y Y Y Y Y Y (fun L_2 h38 => ?_)
      obtain ⟨t54, h39, hm⟩ := bindO hm
      refine Jh RI 3 h39 underlying22 Q1 Y Y Y Y Y h14 Y Y (vlen RI h38 Y) (AOK.q (vne h38)) (fun w hh => (hh.vsegA 0 Y h38)) Y (fun L_3 h40 h40n => ?_)
      refine kO (S' := [_]) (vs' := [_, _, _, _]) [0] [0, 1, 2, 3] 0 Y Y Y Y (jo Y Y (jv (jw ?_)))
      obtain rfl := sj hm
      exact jj L_3 (h40) (sE Y) (hsE [0] [1, 2, 3] 0 Y Y Y Y)
     replace hm := ifN h37 hm
     refine jt (jw ?_)
     obtain rfl := sj hm
     exact jj l_3 (h14) (sE Y) (fun w hh => hh)
    intro l_4 hj
    have h19 := hj
    replace hm := h18
    refine ja (je (ji Y Y ?_))
    obtain ⟨t22, h41, hm⟩ := bindO hm
    refine Jv h41 Y Y Y (jo Y Y (jv ?_))
    obtain rfl := sj hm
    refine ja ?_
    exact jz _ l_4 Y (h19) (sE Y) (fun w hh => hh)
   replace hm := ifE h16 hm
   refine jO (jk (jk (jB ?_)))
   obtain rfl := sj hm
   have hbo := h15 _ Y
   subst hbo
   exact jj l_3 (h14) (sE Y) (hsE [0] [2] 0 Y Y Y Y)
  intro l_2 hj
  have h13 := hj
  replace hm := h12
  refine ja (jr (ji Y Y (jo Y Y (jq (jy ?_)))))
  obtain rfl := sj hm
  refine jp Y (fun w hh => (.tmp Y .nil)) (fun w hh => ⟨l_2, rfl, h13, hh.se [] [0] 3 Y Y Y rfl⟩)
structure zj where
  i4 : Int
  out3 : (List Int)
def qq (c0 : Channel) (s : zj) : Option (zj ⊕ (List Int)) :=
 if s.i4 < (c0.fords.length : Int) then
 ((yo c0 c0.tides s.i4).bind fun t18 =>
 ((ix c0.fords s.i4).bind fun t23 =>
 (ym t18 t23).bind fun t25 =>
 if (!t25) = true then
 (some 2) else
 (if (t18.length : Int) = 1 then
 (some 1) else
 (some 0))).bind fun o_1 =>
 (appc 8 s.out3 [o_1]).bind fun t33 =>
 (addc s.i4 1).bind fun t13 =>
 some (.inl (⟨t13, t33⟩ : zj))) else
 (some (.inr s.out3))
def za (c0 : Channel) : Option (List Int) :=
 (iterM FU (qq c0) (⟨0, []⟩ : zj)).bind fun o =>
 some o
theorem YT (c0 : Channel) (qa0 : Option Addr) (na0 ca0 : Nat) (qa1 : Option Addr) (na1 ca1 : Nat) (qa2 : Option Addr) (na2 ca2 : Nat) (w : World) (hw : HV w (keys [] []) [] [] [(aB qa0, aO qa0, RI.enc c0.fords), (aB qa1, aO qa1, RSa.enc c0.sands), (aB qa2, aO qa2, RSi.enc c0.sights)] w) (hna0 : c0.fords.length = na0) (hqa0 : AOK na0 qa0) (hla0 : na0 ≤ ca0) (hna1 : c0.sands.length = na1) (hqa1 : AOK na1 qa1) (hla1 : na1 ≤ ca1) (hna2 : c0.sights.length = na2) (hqa2 : AOK na2 qa2) (hla2 : na2 ≤ ca2) {res : (List Int)} (hm : za c0 = some res) :
    Calls Tryz.prog 32 #[.agg #[.int .i64 c0.cells, .int .i64 c0.tides, .slice qa0 na0 ca0, .slice qa1 na1 ca1, .slice qa2 na2 ca2]] w (fun en w' => ∃ l : VL, en = .returned (sL l) ∧ (VOK 1 l.n l.cap (RI.enc res) l.sp l.q) ∧ HV w (keys [] []) [] [vL 3 l (RI.enc res)] [] w') := by
  unfold za at hm
  refine yd func32 Y ntmps32 Y (e := [(0, _)]) Y hw (jr ?_)
  refine jL Y Y (fun b h2 => ?_)
  refine jc Y Y Y (fun _ _ => qW Y) (qb (jc Y Y Y (fun _ _ => qW Y) (jq (jh (jr (jo Y Y (jq ?_)))))))
  refine Jz 3 ?_
  obtain ⟨o, h3, h4⟩ := bindO hm
  refine jF (ι := VL) (fun l => VOK 1 l.n l.cap (RI.enc o) l.sp l.q) (fun l => [(3, sL l)]) (fun l => [kc b #[.int .i64 c0.cells, .int .i64 c0.tides, .slice qa0 na0 ca0, .slice qa1 na1 ca1, .slice qa2 na2 ca2] 33]) (fun l => [vL 3 l (RI.enc o)]) ?_ ?_
  ·replace hm := h3
   refine jm ?_
   refine jH (ι := VL) hm (fun s l_1 => VOK 1 l_1.n l_1.cap (RI.enc s.out3) l_1.sp l_1.q) (fun s l_1 => [(1, ptr b 0), (3, sL l_1), (4, .int .i64 s.i4)]) (fun s l_1 => [kc b #[.int .i64 c0.cells, .int .i64 c0.tides, .slice qa0 na0 ca0, .slice qa1 na1 ca1, .slice qa2 na2 ca2] 33]) (fun s l_1 => [vL 3 l_1 (RI.enc s.out3)]) ⟨none, 0, 0, []⟩ (VOK.nil) (sE Y) (fun w hh => hh) (fun s l_1 r hpl hm h7 => ?_)
   have h6 := hpl
   unfold qq at hm
   refine jh (jr (ji Y Y (qk 2 runUnderlying33 Y sizeOf22 Y Y (kw 0 isAgg22 Y Y Y Y (jc Y Y Y (fun w _ => jQ hna0 (runUnderlying22 w) Y) (JK Y Y Y (jq ?_)))))))
   refine js Y (fun h8 => ?_) (fun h8 => ?_)
   ·replace hm := ifD h8 hm
    refine jt (ja (jh (jm (jr (zO [_, _, _, _, _] 0 isAgg33 sizeOf33 Y Y Y Y (qk 1 runUnderlying33 Y sizeOf3 Y Y (kw 0 isAgg3 Y Y Y Y ?_)))))))
    refine ji Y Y ?_
    obtain ⟨t18, h9, hm⟩ := bindO hm
    refine jd [] [] Y Y Y Y Y Y Y call40 (fun w hh => Qx c0 c0.tides s.i4 qa0 na0 ca0 qa1 na1 ca1 qa2 na2 ca2 w (HV.callee (S0 := []) (vs0 := []) hh (roR hh 0 Y (roR hh 1 Y (roR hh 2 Y roN)))) hna0 hqa0 hla0 hna1 hqa1 hla1 hna2 hqa2 hla2 h9) (fun l_2 h10 => ?_)
    have h11 := h10
    refine kO (S' := [_]) (vs' := [_, _]) [0] [0, 1] 0 Y Y Y Y (jo Y Y (qb (jo Y Y (jq (jh ?_)))))
    obtain ⟨o_1, h12, h13⟩ := bindO hm
    refine jF (ι := Unit) (fun l_3 => True) (fun l_3 => [(1, ptr b 0), (3, sL l_1), (4, .int .i64 s.i4), (6, .int .i64 o_1)]) (fun l_3 => [kc b #[.int .i64 c0.cells, .int .i64 c0.tides, .slice qa0 na0 ca0, .slice qa1 na1 ca1, .slice qa2 na2 ca2] 33]) (fun l_3 => [vL 3 l_1 (RI.enc s.out3)]) ?_ ?_
    ·replace hm := h12
     refine jr (ji Y Y (qk 2 runUnderlying33 Y sizeOf22 Y Y (kw 0 isAgg22 Y Y Y Y (ji Y Y ?_))))
     obtain ⟨t23, h14, hm⟩ := bindO hm
     refine jc Y Y Y (fun w _ => qP h14 (runUnderlying22 w) (sizeOf3 w) Y Y hna0 hqa0) (jc Y Y Y (fun w hh => j5 RI 0 h14 (isAgg3 w) Y (hh.seg 0 Y) Y (Nat.add_zero _).symm) ?_)
     obtain ⟨t25, h15, hm⟩ := bindO hm
     refine jd [] [] Y Y Y Y Y Y Y call105 (fun w hh => K1 t18 t23 (qA l_2.q) l_2.n l_2.cap w (HV.callee (S0 := []) (vs0 := []) hh (roC (hh.vsepA 0 Y h11) roN)) (vlen RI h11 Y) (AOK.q (vne h11)) (h11).hle h15) (fun l_4 h16 => ?_)
     refine jc Y Y Y (fun _ _ => Jf Y) (jq ?_)
     refine js Y (fun h17 => ?_) (fun h17 => ?_)
     ·replace hm := ifT (h17) hm
      refine je (jo Y Y (jv ?_))
      obtain rfl := sj hm
      exact jj () (trivial) (sE Y) (hsE [0] [1] 0 Y Y Y Y)
     replace hm := ifN h17 hm
     refine jr (ji Y Y (jc Y Y Y (fun w _ => Jj (vlen RI h11 Y) (runUnderlying22 w) Y) (jc Y Y Y (fun _ _ => zN Y Y) (jq ?_))))
     refine js Y (fun h18 => ?_) (fun h18 => ?_)
     ·replace hm := ifD h18 hm
      refine je (jo Y Y (jv ?_))
      obtain rfl := sj hm
      exact jj () (trivial) (sE Y) (hsE [0] [1] 0 Y Y Y Y)
     replace hm := ifE h18 hm
     refine jt ?_
     obtain rfl := sj hm
     exact jj () (trivial) (sE Y) (hsE [0] [1] 0 Y Y Y Y)
    intro l_3 hj
    replace hm := h13
    refine ja (je (ji Y Y (ji Y Y ?_)))
    refine qg RI [o_1] (ps := [(0, _)]) (cells := [_]) (fun w => runUnderlying22 w) (fun w => sizeOf3 w) (fun w => zeroValue3 w) Y Y Y Y Y Y Y Y (fun L h19 => ?_)
    obtain ⟨t33, h20, hm⟩ := bindO hm
    refine Jh RI 1 h20 underlying22 Q1 Y Y Y Y Y h6 Y Y (vlen RI h19 Y) (AOK.q (vne h19)) (fun w hh => (hh.vsegA 0 Y h19)) Y (fun L_1 h21 h21n => ?_)
    refine kO (S' := [_]) (vs' := [_, _]) [0] [0, 1] 0 Y Y Y Y (jo Y Y (jv (jw (ja (je (ji Y Y ?_))))))
    obtain ⟨t13, h22, hm⟩ := bindO hm
    refine Jv h22 Y Y Y (jo Y Y (jv ?_))
    obtain rfl := sj hm
    refine ja ?_
    exact jz _ L_1 Y (h21) (sE Y) (hsE [0] [1] 0 Y Y Y Y)
   replace hm := ifE h8 hm
   refine jO (jk (jk (jB ?_)))
   obtain rfl := sj hm
   have hbo := h7 _ Y
   subst hbo
   exact jj l_1 (h6) (sE Y) (fun w hh => hh)
  intro l hj
  have h5 := hj
  replace hm := h4
  refine ja (jr (ji Y Y (jo Y Y (jq (jy ?_)))))
  obtain rfl := sj hm
  refine jp Y (fun w hh => (.tmp Y .nil)) (fun w hh => ⟨l, rfl, h5, hh.se [] [0] 3 Y Y Y rfl⟩)
structure Qa where
  out5_lo : Int
  out5_hi : Int
structure yx where
  a6 : Int
  out5_lo : Int
  out5_hi : Int
structure K9 where
  out5_lo : Int
  out5_hi : Int
structure zx where
  n7 : Int
  i8 : Int
def qM (t10 : (List (List Int))) (s : yx) (c0 : Channel) (s_1 : zx) : Option (zx ⊕ Int) :=
 (ix t10 s.a6).bind fun t23 =>
 if s_1.i8 < (t23.length : Int) then
 (((ix t10 s.a6).bind fun t31 =>
 (ix t31 s_1.i8).bind fun t34 =>
 (ix c0.fords s_1.i8).bind fun t39 =>
 if t34 = t39 then
 (some s_1.n7) else
 ((addc s_1.n7 1).bind fun t43 =>
 some t43)).bind fun o_3 =>
 (addc s_1.i8 1).bind fun t28 =>
 some (.inl (⟨o_3, t28⟩ : zx))) else
 (some (.inr s_1.n7))
def qK (t10 : (List (List Int))) (c0 : Channel) (t12 : (List (List Bool))) (s : yx) : Option (yx ⊕ Qa) :=
 if s.a6 < (t10.length : Int) then
 (((iterM FU (qM t10 s c0) (⟨0, 0⟩ : zx)).bind fun o_2 =>
 (ix t12 c0.tides).bind fun t47 =>
 (ix t47 s.a6).bind fun t50 =>
 if t50 = true then
 (some (⟨(min s.out5_lo o_2), (max s.out5_hi o_2)⟩ : K9)) else
 (some (⟨s.out5_lo, s.out5_hi⟩ : K9))).bind fun o_1 =>
 (addc s.a6 1).bind fun t19 =>
 some (.inl (⟨t19, o_1.out5_lo, o_1.out5_hi⟩ : yx))) else
 (some (.inr (⟨s.out5_lo, s.out5_hi⟩ : Qa)))
def zE (c0 : Channel) : Option Span :=
 (kr c0).bind fun t10 =>
 (zs c0).bind fun t12 =>
 (iterM FU (qK t10 c0 t12) (⟨0, 9, -1⟩ : yx)).bind fun o =>
 some (⟨o.out5_lo, o.out5_hi⟩ : Span)
theorem Zh (c0 : Channel) (qa0 : Option Addr) (na0 ca0 : Nat) (qa1 : Option Addr) (na1 ca1 : Nat) (qa2 : Option Addr) (na2 ca2 : Nat) (w : World) (hw : HV w (keys [] []) [] [] [(aB qa0, aO qa0, RI.enc c0.fords), (aB qa1, aO qa1, RSa.enc c0.sands), (aB qa2, aO qa2, RSi.enc c0.sights)] w) (hna0 : c0.fords.length = na0) (hqa0 : AOK na0 qa0) (hla0 : na0 ≤ ca0) (hna1 : c0.sands.length = na1) (hqa1 : AOK na1 qa1) (hla1 : na1 ≤ ca1) (hna2 : c0.sights.length = na2) (hqa2 : AOK na2 qa2) (hla2 : na2 ≤ ca2) {res : Span} (hm : zE c0 = some res) :
    Calls Tryz.prog 33 #[.agg #[.int .i64 c0.cells, .int .i64 c0.tides, .slice qa0 na0 ca0, .slice qa1 na1 ca1, .slice qa2 na2 ca2]] w (fun en w' => ∃ l : Unit, en = .returned (.agg #[.int .i64 res.lo, .int .i64 res.hi]) ∧ (True) ∧ HV w (keys [] []) [] [] [] w') := by
  unfold zE at hm
  refine yd func33 Y ntmps33 Y (e := [(0, _)]) Y hw (jr ?_)
  refine jL Y Y (fun b h1 => ?_)
  refine ju (fun w => zeroValue50 w) Y (fun b_1 h2 => ?_)
  refine qb (zO [_, _, _, _, _] 1 isAgg33 sizeOf33 Y Y Y Y ?_)
  obtain ⟨t10, h3, hm⟩ := bindO hm
  refine jd [] [] Y Y Y Y Y Y Y call90 (fun w hh => y8 c0 qa0 na0 ca0 qa1 na1 ca1 qa2 na2 ca2 w (HV.callee (S0 := []) (vs0 := []) hh (roR hh 0 Y (roR hh 1 Y (roR hh 2 Y roN)))) hna0 hqa0 hla0 hna1 hqa1 hla1 hna2 hqa2 hla2 h3) (fun l h4 => ?_)
  obtain ⟨h5, h6⟩ := h4
  refine kO (S' := [_, _]) (vs' := [_]) [0, 1] [0] 0 Y Y Y Y (jo Y Y (qb (zO [_, _, _, _, _] 1 isAgg33 sizeOf33 Y Y Y Y ?_)))
  obtain ⟨t12, h7, hm⟩ := bindO hm
  refine jd [] [] Y Y Y Y Y Y Y call91 (fun w hh => Yi c0 qa0 na0 ca0 qa1 na1 ca1 qa2 na2 ca2 w (HV.callee (S0 := []) (vs0 := []) hh (roR hh 0 Y (roR hh 1 Y (roR hh 2 Y roN)))) hna0 hqa0 hla0 hna1 hqa1 hla1 hna2 hqa2 hla2 h7) (fun l_1 h8 => ?_)
  obtain ⟨h9, h10⟩ := h8
  refine kO (S' := [_, _]) (vs' := [_, _]) [0, 1] [0, 1] 0 Y Y Y Y (jo Y Y (qb (jc Y Y Y (fun _ _ => ks (vs := [(0, _), (1, _)]) (cells := [_, _]) Y Y) ?_)))
  refine ju (fun w => zeroValue50 w) Y (fun b_2 h11 => ?_)
  refine jT (us := #[_, _]) (cs' := [_, _]) (S' := [_, _, _]) 0 (fun w => sizeOf50 w) Y Y Y Y Y Y Y (jq (jh (jr (jo Y Y (jq ?_)))))
  obtain ⟨o, h12, h13⟩ := bindO hm
  refine jF (ι := Unit) (fun l_2 => True) (fun l_2 => [(2, ptr b_1 0), (5, ptr b_2 0)]) (fun l_2 => [kc b_2 #[.int .i64 o.out5_lo, .int .i64 o.out5_hi] 50, kc b_1 #[.int .i64 0, .int .i64 0] 50, kc b #[.int .i64 c0.cells, .int .i64 c0.tides, .slice qa0 na0 ca0, .slice qa1 na1 ca1, .slice qa2 na2 ca2] 33]) (fun l_2 => []) ?_ ?_
  ·replace hm := h12
   refine jm ?_
   refine jH (ι := Unit) hm (fun s l_3 => True) (fun s l_3 => [(1, ptr b 0), (2, ptr b_1 0), (3, sL l.v), (4, sL l_1.v), (5, ptr b_2 0), (6, .int .i64 s.a6)]) (fun s l_3 => [kc b_2 #[.int .i64 s.out5_lo, .int .i64 s.out5_hi] 50, kc b_1 #[.int .i64 0, .int .i64 0] 50, kc b #[.int .i64 c0.cells, .int .i64 c0.tides, .slice qa0 na0 ca0, .slice qa1 na1 ca1, .slice qa2 na2 ca2] 33]) (fun s l_3 => [⟨22, RwH.enc l.rs, l.v.sp, l.v.q, dbl 3 RI t10 l.rs⟩, ⟨114, RwH.enc l_1.rs, l_1.v.sp, l_1.v.q, dbl 4 RB t12 l_1.rs⟩]) () (trivial) (sE Y) (hsE [0, 1, 2] [1, 0] 0 Y Y Y Y) (fun s l_3 r hpl hm h14 => ?_)
   unfold qK at hm
   refine jh (jr (ji Y Y (ji Y Y (jc Y Y Y (fun w _ => Jj (Eq.trans (h6).len (vlen RwH h5 Y)) (runUnderlying41 w) Y) (JK Y Y Y (jq ?_))))))
   refine js Y (fun h15 => ?_) (fun h15 => ?_)
   ·replace hm := ifD h15 hm
    refine jt (ja (jh ?_))
    obtain ⟨o_1, h16, h17⟩ := bindO hm
    refine jF (ι := Unit) (fun l_4 => True) (fun l_4 => [(1, ptr b 0), (2, ptr b_1 0), (3, sL l.v), (4, sL l_1.v), (5, ptr b_2 0), (6, .int .i64 s.a6)]) (fun l_4 => [kc b_2 #[.int .i64 o_1.out5_lo, .int .i64 o_1.out5_hi] 50, kc b_1 #[.int .i64 0, .int .i64 0] 50, kc b #[.int .i64 c0.cells, .int .i64 c0.tides, .slice qa0 na0 ca0, .slice qa1 na1 ca1, .slice qa2 na2 ca2] 33]) (fun l_4 => [⟨22, RwH.enc l.rs, l.v.sp, l.v.q, dbl 3 RI t10 l.rs⟩, ⟨114, RwH.enc l_1.rs, l_1.v.sp, l_1.v.q, dbl 4 RB t12 l_1.rs⟩]) ?_ ?_
    ·replace hm := h16
     refine jm (jr (jo Y Y (jq (jh (jr (jo Y Y (jq ?_)))))))
     obtain ⟨o_2, h18, h19⟩ := bindO hm
     refine jF (ι := Unit) (fun l_5 => True) (fun l_5 => [(1, ptr b 0), (2, ptr b_1 0), (3, sL l.v), (4, sL l_1.v), (5, ptr b_2 0), (6, .int .i64 s.a6), (7, .int .i64 o_2)]) (fun l_5 => [kc b_2 #[.int .i64 s.out5_lo, .int .i64 s.out5_hi] 50, kc b_1 #[.int .i64 0, .int .i64 0] 50, kc b #[.int .i64 c0.cells, .int .i64 c0.tides, .slice qa0 na0 ca0, .slice qa1 na1 ca1, .slice qa2 na2 ca2] 33]) (fun l_5 => [⟨22, RwH.enc l.rs, l.v.sp, l.v.q, dbl 3 RI t10 l.rs⟩, ⟨114, RwH.enc l_1.rs, l_1.v.sp, l_1.v.q, dbl 4 RB t12 l_1.rs⟩]) ?_ ?_
     ·replace hm := h18
      refine jm ?_
      refine jH (ι := Unit) hm (fun s_1 l_6 => True) (fun s_1 l_6 => [(1, ptr b 0), (2, ptr b_1 0), (3, sL l.v), (4, sL l_1.v), (5, ptr b_2 0), (6, .int .i64 s.a6), (7, .int .i64 s_1.n7), (8, .int .i64 s_1.i8)]) (fun s_1 l_6 => [kc b_2 #[.int .i64 s.out5_lo, .int .i64 s.out5_hi] 50, kc b_1 #[.int .i64 0, .int .i64 0] 50, kc b #[.int .i64 c0.cells, .int .i64 c0.tides, .slice qa0 na0 ca0, .slice qa1 na1 ca1, .slice qa2 na2 ca2] 33]) (fun s_1 l_6 => [⟨22, RwH.enc l.rs, l.v.sp, l.v.q, dbl 3 RI t10 l.rs⟩, ⟨114, RwH.enc l_1.rs, l_1.v.sp, l_1.v.q, dbl 4 RB t12 l_1.rs⟩]) () (trivial) (sE Y) (fun w hh => hh) (fun s_1 l_6 r_1 hpl hm h20 => ?_)
      unfold qM at hm
      refine jh (jr (ji Y Y (ji Y Y (ji Y Y ?_))))
      obtain ⟨t23, h21, hm⟩ := bindO hm
      obtain ⟨L, h22, h23⟩ := (h6).row h21
      refine jc Y Y Y (fun w _ => qR h22 (runUnderlying41 w) (sizeOf22 w) Y Y (vlen RwH h5 Y) (vne h5)) (jc Y Y Y (fun w hh => j5 RwH 0 h22 (isAgg22 w) Y (hh.vseg 0 Y h5) Y (Nat.add_zero _).symm) (jc Y Y Y (fun w _ => Jj (vlen RI h23 Y) (runUnderlying22 w) Y) (JK Y Y Y (jq ?_))))
      refine js Y (fun h24 => ?_) (fun h24 => ?_)
      ·replace hm := ifD h24 hm
       refine jt (ja (jh ?_))
       obtain ⟨o_3, h25, h26⟩ := bindO hm
       refine jF (ι := Unit) (fun l_7 => True) (fun l_7 => [(1, ptr b 0), (2, ptr b_1 0), (3, sL l.v), (4, sL l_1.v), (5, ptr b_2 0), (6, .int .i64 s.a6), (7, .int .i64 o_3), (8, .int .i64 s_1.i8)]) (fun l_7 => [kc b_2 #[.int .i64 s.out5_lo, .int .i64 s.out5_hi] 50, kc b_1 #[.int .i64 0, .int .i64 0] 50, kc b #[.int .i64 c0.cells, .int .i64 c0.tides, .slice qa0 na0 ca0, .slice qa1 na1 ca1, .slice qa2 na2 ca2] 33]) (fun l_7 => [⟨22, RwH.enc l.rs, l.v.sp, l.v.q, dbl 3 RI t10 l.rs⟩, ⟨114, RwH.enc l_1.rs, l_1.v.sp, l_1.v.q, dbl 4 RB t12 l_1.rs⟩]) ?_ ?_
       ·replace hm := h25
        refine jm (jh ?_)
        refine jX none (.free 0 (.free 1 (.free 2 (.hoist 3 (.free 4 (.free 5 (.hoist 6 (.free 7 (.hoist 8 (.free 9 (.free 10 (.hoist 11 (.free 12 .done))))))))))))) _ Y (by decide +kernel) (fun w k hh => hh.draw k) (fun w hh => hh) ?_
        refine qQ Y Y Y (qQ Y Y Y ?_)
        obtain ⟨t31, h27, hm⟩ := bindO hm
        obtain ⟨L_1, h28, h29⟩ := (h6).row h27
        refine jn Y Y Y Y (fun w _ => qR h28 (runUnderlying41 w) (sizeOf22 w) Y Y (vlen RwH h5 Y) (vne h5)) (jx Y Y Y Y (fun w hh => j5 RwH 0 h28 (isAgg22 w) Y (hh.vseg 0 Y h5) Y (Nat.add_zero _).symm) (qQ Y Y Y ?_))
        obtain ⟨t34, h30, hm⟩ := bindO hm
        refine jn Y Y Y Y (fun w _ => qR h30 (runUnderlying22 w) (sizeOf3 w) Y Y (vlen RI h29 Y) (vne h29)) (jx Y Y Y Y (fun w hh => j5 RI 0 h30 (isAgg3 w) Y (hh.dseg 0 Y h27 h28 h29) Y (Nat.add_zero _).symm) (Kl 2 runUnderlying33 sizeOf22 Y Y Y Y (QA 2 isAgg22 Y Y Y Y Y (qQ Y Y Y ?_))))
        obtain ⟨t39, h31, hm⟩ := bindO hm
        refine jn Y Y Y Y (fun w _ => qP h31 (runUnderlying22 w) (sizeOf3 w) Y Y hna0 hqa0) (jx Y Y Y Y (fun w hh => j5 RI 0 h31 (isAgg3 w) Y (hh.seg 0 Y) Y (Nat.add_zero _).symm) (jn Y Y Y Y (fun _ _ => JG Y Y) (jJ (ja ?_))))
        refine js Y (fun h32 => ?_) (fun h32 => ?_)
        ·replace hm := ifF (of_ndec_true h32) hm
         refine je (ji Y Y ?_)
         obtain ⟨t43, h33, hm⟩ := bindO hm
         refine Jv h33 Y Y Y (jo Y Y (jv (jw ?_)))
         obtain rfl := sj hm
         exact jj () (trivial) (sE Y) (fun w hh => hh)
        replace hm := ifT (of_ndec_false h32) hm
        refine jt (jw ?_)
        obtain rfl := sj hm
        exact jj () (trivial) (sE Y) (fun w hh => hh)
       intro l_7 hj
       replace hm := h26
       refine ja (je (ji Y Y ?_))
       obtain ⟨t28, h34, hm⟩ := bindO hm
       refine Jv h34 Y Y Y (jo Y Y (jv ?_))
       obtain rfl := sj hm
       refine ja ?_
       exact jz _ () Y (trivial) (sE Y) (fun w hh => hh)
      replace hm := ifE h24 hm
      refine jO (jk (jk (jB ?_)))
      obtain rfl := sj hm
      have hbo := h20 _ Y
      subst hbo
      exact jj () (trivial) (sE Y) (fun w hh => hh)
     intro l_5 hj
     replace hm := h19
     refine ja (jr (ji Y Y (qk 1 runUnderlying33 Y sizeOf3 Y Y (kw 2 isAgg3 Y Y Y Y ?_))))
     obtain ⟨t47, h35, hm⟩ := bindO hm
     obtain ⟨L_2, h36, h37⟩ := (h10).row h35
     refine jc Y Y Y (fun w _ => qR h36 (runUnderlying143 w) (sizeOf114 w) Y Y (vlen RwH h9 Y) (vne h9)) (jc Y Y Y (fun w hh => j5 RwH 0 h36 (isAgg114 w) Y (hh.vseg 1 Y h9) Y (Nat.add_zero _).symm) (ji Y Y ?_))
     obtain ⟨t50, h38, hm⟩ := bindO hm
     refine jc Y Y Y (fun w _ => qR h38 (runUnderlying114 w) (sizeOf4 w) Y Y (vlen RB h37 Y) (vne h37)) (jc Y Y Y (fun w hh => j5 RB 0 h38 (isAgg4 w) Y (hh.dseg 1 Y h35 h36 h37) Y (Nat.add_zero _).symm) (jq ?_))
     refine js Y (fun h39 => ?_) (fun h39 => ?_)
     ·replace hm := ifT (h39) hm
      refine je (qk 0 runUnderlying50 Y sizeOf3 Y Y (kw 0 isAgg3 Y Y Y Y (ji Y Y (jc Y Y Y (fun _ _ => jb5 Y Y) (qk 1 runUnderlying50 Y sizeOf3 Y Y (kw 0 isAgg3 Y Y Y Y (ji Y Y ?_)))))))
      refine jc Y Y Y (fun _ _ => Z2 Y Y) (qk 0 runUnderlying50 Y sizeOf3 Y Y (zp (cs' := #[_, _]) (S' := [_, _, _]) 0 (fun w => sizeOf3 w) Y Y Y Y Y Y Y (qk 1 runUnderlying50 Y sizeOf3 Y Y (zp (cs' := #[_, _]) (S' := [_, _, _]) 0 (fun w => sizeOf3 w) Y Y Y Y Y Y Y (jv (jw ?_))))))
      obtain rfl := sj hm
      exact jj () (trivial) (sE Y) (fun w hh => hh)
     replace hm := ifN h39 hm
     refine jt (jw ?_)
     obtain rfl := sj hm
     exact jj () (trivial) (sE Y) (fun w hh => hh)
    intro l_4 hj
    replace hm := h17
    refine ja (je (ji Y Y ?_))
    obtain ⟨t19, h40, hm⟩ := bindO hm
    refine Jv h40 Y Y Y (jo Y Y (jv ?_))
    obtain rfl := sj hm
    refine ja ?_
    exact jz _ () Y (trivial) (sE Y) (fun w hh => hh)
   replace hm := ifE h15 hm
   refine jO (jk (jk (jB ?_)))
   obtain rfl := sj hm
   have hbo := h14 _ Y
   subst hbo
   exact jj () (trivial) (sE Y) (hsE [0, 1, 2] [] 0 Y Y Y Y)
  intro l_2 hj
  replace hm := h13
  refine ja (jr (zO [_, _] 0 isAgg50 sizeOf50 Y Y Y Y (jT (us := #[_, _]) (cs' := [_, _]) (S' := [_, _, _]) 1 (fun w => sizeOf50 w) Y Y Y Y Y Y Y (jq (jy ?_)))))
  obtain rfl := sj hm
  refine jp Y (fun w hh => (.cell Y (loadVar_agg (vs := [_, _]) (isAgg50 _) (sizeOf50 _) (hh.cells 1 Y Y)) .nil)) (fun w hh => ⟨(), rfl, trivial, hh.se [] [] 3 Y Y Y rfl⟩)
def y4 (c0 : Channel) (ford1 : Int) : Option Span :=
 (yo c0 c0.tides ford1).bind fun t10 =>
 (ix t10 0).bind fun t12 =>
 (ix c0.fords ford1).bind fun t17 =>
 (subc t12 t17).bind fun t19 =>
 (subc (t10.length : Int) 1).bind fun t23 =>
 (ix t10 t23).bind fun t24 =>
 (ix c0.fords ford1).bind fun t29 =>
 (subc t24 t29).bind fun t31 =>
 some (⟨t19, t31⟩ : Span)
theorem YU (c0 : Channel) (ford1 : Int) (qa0 : Option Addr) (na0 ca0 : Nat) (qa1 : Option Addr) (na1 ca1 : Nat) (qa2 : Option Addr) (na2 ca2 : Nat) (w : World) (hw : HV w (keys [] []) [] [] [(aB qa0, aO qa0, RI.enc c0.fords), (aB qa1, aO qa1, RSa.enc c0.sands), (aB qa2, aO qa2, RSi.enc c0.sights)] w) (hna0 : c0.fords.length = na0) (hqa0 : AOK na0 qa0) (hla0 : na0 ≤ ca0) (hna1 : c0.sands.length = na1) (hqa1 : AOK na1 qa1) (hla1 : na1 ≤ ca1) (hna2 : c0.sights.length = na2) (hqa2 : AOK na2 qa2) (hla2 : na2 ≤ ca2) {res : Span} (hm : y4 c0 ford1 = some res) :
    Calls Tryz.prog 34 #[.agg #[.int .i64 c0.cells, .int .i64 c0.tides, .slice qa0 na0 ca0, .slice qa1 na1 ca1, .slice qa2 na2 ca2], .int .i64 ford1] w (fun en w' => ∃ l : Unit, en = .returned (.agg #[.int .i64 res.lo, .int .i64 res.hi]) ∧ (True) ∧ HV w (keys [] []) [] [] [] w') := by
  unfold y4 at hm
  refine yd func34 Y ntmps34 Y (e := [(0, _), (1, _)]) Y hw (jr ?_)
  refine jL Y Y (fun b h1 => ?_)
  refine ju (fun w => zeroValue50 w) Y (fun b_1 h2 => ?_)
  refine qb (zO [_, _, _, _, _] 1 isAgg33 sizeOf33 Y Y Y Y (qk 1 runUnderlying33 Y sizeOf3 Y Y (kw 1 isAgg3 Y Y Y Y (ji Y Y ?_))))
  obtain ⟨t10, h3, hm⟩ := bindO hm
  refine jd [] [] Y Y Y Y Y Y Y call40 (fun w hh => Qx c0 c0.tides ford1 qa0 na0 ca0 qa1 na1 ca1 qa2 na2 ca2 w (HV.callee (S0 := []) (vs0 := []) hh (roR hh 0 Y (roR hh 1 Y (roR hh 2 Y roN)))) hna0 hqa0 hla0 hna1 hqa1 hla1 hna2 hqa2 hla2 h3) (fun l h4 => ?_)
  have h5 := h4
  refine kO (S' := [_, _]) (vs' := [_]) [0, 1] [0] 0 Y Y Y Y (jo Y Y (jq (jh ?_)))
  refine jX none (.free 0 (.free 1 (.hoist 2 (.free 3 (.hoist 4 (.free 5 (.free 6 (.hoist 7 (.free 8 (.free 9 (.free 10 (.free 11 (.free 12 (.free 13 (.hoist 14 (.free 15 (.hoist 16 (.free 17 (.free 18 (.hoist 19 (.free 20 (.free 21 (.one 22 .done))))))))))))))))))))))) (HV _ _ [kc b #[.int .i64 c0.cells, .int .i64 c0.tides, .slice qa0 na0 ca0, .slice qa1 na1 ca1, .slice qa2 na2 ca2] 33] [vL 3 l (RI.enc t10)] _) Y (by decide +kernel) (fun w k hh => hh.draw k) (hsE [1] [0] 0 Y Y Y Y) ?_
  refine qQ Y Y Y ?_
  obtain ⟨t12, h6, hm⟩ := bindO hm
  refine jn Y Y Y Y (fun w _ => qR h6 (runUnderlying22 w) (sizeOf3 w) Y Y (vlen RI h5 Y) (vne h5)) (jx Y Y Y Y (fun w hh => j5 RI 0 h6 (isAgg3 w) Y (hh.vseg 0 Y h5) Y (Nat.add_zero _).symm) (Kl 2 runUnderlying33 sizeOf22 Y Y Y Y (QA 0 isAgg22 Y Y Y Y Y (qQ Y Y Y ?_))))
  obtain ⟨t17, h7, hm⟩ := bindO hm
  refine jn Y Y Y Y (fun w _ => qP h7 (runUnderlying22 w) (sizeOf3 w) Y Y hna0 hqa0) (jx Y Y Y Y (fun w hh => j5 RI 0 h7 (isAgg3 w) Y (hh.seg 0 Y) Y (Nat.add_zero _).symm) ?_)
  obtain ⟨t19, h8, hm⟩ := bindO hm
  refine jn Y Y Y Y (fun _ _ => zC h8 Y Y) (qQ Y Y Y (qQ Y Y Y (jn Y Y Y Y (fun w _ => Jj (vlen RI h5 Y) (runUnderlying22 w) Y) ?_)))
  obtain ⟨t23, h9, hm⟩ := bindO hm
  refine jn Y Y Y Y (fun _ _ => zC h9 Y Y) ?_
  obtain ⟨t24, h10, hm⟩ := bindO hm
  refine jn Y Y Y Y (fun w _ => qR h10 (runUnderlying22 w) (sizeOf3 w) Y Y (vlen RI h5 Y) (vne h5)) (jx Y Y Y Y (fun w hh => j5 RI 0 h10 (isAgg3 w) Y (hh.vseg 0 Y h5) Y (Nat.add_zero _).symm) (Kl 2 runUnderlying33 sizeOf22 Y Y Y Y (QA 0 isAgg22 Y Y Y Y Y (qQ Y Y Y ?_))))
  obtain ⟨t29, h11, hm⟩ := bindO hm
  refine jn Y Y Y Y (fun w _ => qP h11 (runUnderlying22 w) (sizeOf3 w) Y Y hna0 hqa0) (jx Y Y Y Y (fun w hh => j5 RI 0 h11 (isAgg3 w) Y (hh.seg 0 Y) Y (Nat.add_zero _).symm) ?_)
  obtain ⟨t31, h12, hm⟩ := bindO hm
  refine jn Y Y Y Y (fun _ _ => zC h12 Y Y) (jn Y Y Y Y (fun _ _ => ks (vs := [(0, _), (1, _)]) (cells := [_, _]) Y Y) (jD Y (jT (us := #[_, _]) (cs' := [_, _]) (S' := [_, _]) 0 (fun w => sizeOf50 w) Y Y Y Y Y Y Y (jl (hsE [1] [0] 0 Y Y Y Y) (jJ (ja (jy ?_)))))))
  obtain rfl := sj hm
  refine jp Y (fun w hh => (.cell Y (loadVar_agg (vs := [_, _]) (isAgg50 _) (sizeOf50 _) (hh.cells 0 Y Y)) .nil)) (fun w hh => ⟨(), rfl, trivial, hh.se [] [] 3 Y Y Y rfl⟩)
structure Kz where
  r0 : Int
  r1 : Int
structure Qg where
  best7 : Int
  few8 : Int
structure ya where
  best7 : Int
  few8 : Int
  x9 : Int
structure Kj where
  best7 : Int
  few8 : Int
structure zR where
  yes10 : Int
  a11 : Int
def yb (t14 : (List (List Int))) (s : ya) (t18 : (List (List Int))) (c0 : Channel) (s_1 : zR) : Option (zR ⊕ Int) :=
 if s_1.a11 < (t14.length : Int) then
 (((ix t14 s_1.a11).bind fun t39 =>
 (ym t39 s.x9).bind fun t42 =>
 if t42 = true then
 ((ix t18 c0.tides).bind fun t47 =>
 (ix t47 s_1.a11).bind fun t50 =>
 (addc s_1.yes10 t50).bind fun t52 =>
 some t52) else
 (some s_1.yes10)).bind fun o_3 =>
 (addc s_1.a11 1).bind fun t36 =>
 some (.inl (⟨o_3, t36⟩ : zR))) else
 (some (.inr s_1.yes10))
def q9 (c0 : Channel) (t14 : (List (List Int))) (t18 : (List (List Int))) (t22 : Int) (s : ya) : Option (ya ⊕ Qg) :=
 if s.x9 < c0.cells then
 (((iterM FU (yb t14 s t18 c0) (⟨0, 0⟩ : zR)).bind fun o_2 =>
 (subc t22 o_2).bind fun t56 =>
 if (max o_2 t56) < s.few8 then
 (some (⟨s.x9, (max o_2 t56)⟩ : Kj)) else
 (some (⟨s.best7, s.few8⟩ : Kj))).bind fun o_1 =>
 (addc s.x9 1).bind fun t30 =>
 some (.inl (⟨o_1.best7, o_1.few8, t30⟩ : ya))) else
 (some (.inr (⟨s.best7, s.few8⟩ : Qg)))
def zZ (c0 : Channel) : Option Kz :=
 (kr c0).bind fun t14 =>
 (jS c0).bind fun t17 =>
 (qY c0 t17).bind fun t18 =>
 (jS c0).bind fun t21 =>
 (qD c0 t21).bind fun t22 =>
 (addc t22 1).bind fun t24 =>
 (iterM FU (q9 c0 t14 t18 t22) (⟨0, t24, 0⟩ : ya)).bind fun o =>
 some (⟨o.best7, o.few8⟩ : Kz)
theorem Zy (c0 : Channel) (qa0 : Option Addr) (na0 ca0 : Nat) (qa1 : Option Addr) (na1 ca1 : Nat) (qa2 : Option Addr) (na2 ca2 : Nat) (w : World) (hw : HV w (keys [] []) [] [] [(aB qa0, aO qa0, RI.enc c0.fords), (aB qa1, aO qa1, RSa.enc c0.sands), (aB qa2, aO qa2, RSi.enc c0.sights)] w) (hna0 : c0.fords.length = na0) (hqa0 : AOK na0 qa0) (hla0 : na0 ≤ ca0) (hna1 : c0.sands.length = na1) (hqa1 : AOK na1 qa1) (hla1 : na1 ≤ ca1) (hna2 : c0.sights.length = na2) (hqa2 : AOK na2 qa2) (hla2 : na2 ≤ ca2) {res : Kz} (hm : zZ c0 = some res) :
    Calls Tryz.prog 35 #[.agg #[.int .i64 c0.cells, .int .i64 c0.tides, .slice qa0 na0 ca0, .slice qa1 na1 ca1, .slice qa2 na2 ca2]] w (fun en w' => ∃ l : Unit, en = .returned (.tuple #[.int .i64 res.r0, .int .i64 res.r1]) ∧ (True) ∧ HV w (keys [] []) [] [] [] w') := by
  unfold zZ at hm
  refine yd func35 Y ntmps35 Y (e := [(0, _)]) Y hw (jr ?_)
  refine jL Y Y (fun b h1 => ?_)
  refine jo Y Y (jo Y Y (qb (zO [_, _, _, _, _] 0 isAgg33 sizeOf33 Y Y Y Y ?_)))
  obtain ⟨t14, h2, hm⟩ := bindO hm
  refine jd [] [] Y Y Y Y Y Y Y call90 (fun w hh => y8 c0 qa0 na0 ca0 qa1 na1 ca1 qa2 na2 ca2 w (HV.callee (S0 := []) (vs0 := []) hh (roR hh 0 Y (roR hh 1 Y (roR hh 2 Y roN)))) hna0 hqa0 hla0 hna1 hqa1 hla1 hna2 hqa2 hla2 h2) (fun l h3 => ?_)
  obtain ⟨h4, h5⟩ := h3
  refine kO (S' := [_]) (vs' := [_]) [0] [0] 0 Y Y Y Y (jo Y Y (jq (jh (jX none (.hoist 0 (.hoist 1 (.one 2 (.one 3 (.free 4 .done))))) _ Y (by decide +kernel) (fun w k hh => hh.draw k) (fun w hh => hh) (jx Y Y Y Y (fun w hh => jE (vs := [_, _, _, _, _]) (isAgg33 w) (sizeOf33 w) Y (hh.cells 0 Y Y)) (jx Y Y Y Y (fun w hh => jE (vs := [_, _, _, _, _]) (isAgg33 w) (sizeOf33 w) Y (hh.cells 0 Y Y)) (jD Y ?_)))))))
  obtain ⟨t17, h6, hm⟩ := bindO hm
  refine jd [] [] Y Y Y Y Y Y Y call24 (fun w hh => yE c0 qa0 na0 ca0 qa1 na1 ca1 qa2 na2 ca2 w (HV.callee (S0 := []) (vs0 := []) hh (roR hh 0 Y (roR hh 1 Y (roR hh 2 Y roN)))) hna0 hqa0 hla0 hna1 hqa1 hla1 hna2 hqa2 hla2 h6) (fun l_1 h7 => ?_)
  refine jl (fun w hh => hh) (jD Y ?_)
  obtain ⟨t18, h8, hm⟩ := bindO hm
  refine jd [] [] Y Y Y Y Y Y Y call89 (fun w hh => KF c0 t17 qa0 na0 ca0 qa1 na1 ca1 qa2 na2 ca2 w (HV.callee (S0 := []) (vs0 := []) hh (roR hh 0 Y (roR hh 1 Y (roR hh 2 Y roN)))) hna0 hqa0 hla0 hna1 hqa1 hla1 hna2 hqa2 hla2 h8) (fun l_2 h9 => ?_)
  obtain ⟨h10, h11⟩ := h9
  refine kO (S' := [_]) (vs' := [_, _]) [0] [0, 1] 0 Y Y Y Y (jl (hsE [0] [1] 0 Y Y Y Y) (jn Y Y Y Y (fun _ _ => ku Y) (jJ (ja (jh (jX none (.hoist 0 (.hoist 1 (.one 2 (.one 3 (.free 4 .done))))) _ Y (by decide +kernel) (fun w k hh => hh.draw k) (fun w hh => hh) (jx Y Y Y Y (fun w hh => jE (vs := [_, _, _, _, _]) (isAgg33 w) (sizeOf33 w) Y (hh.cells 0 Y Y)) ?_)))))))
  refine jx Y Y Y Y (fun w hh => jE (vs := [_, _, _, _, _]) (isAgg33 w) (sizeOf33 w) Y (hh.cells 0 Y Y)) (jD Y ?_)
  obtain ⟨t21, h12, hm⟩ := bindO hm
  refine jd [] [] Y Y Y Y Y Y Y call24 (fun w hh => yE c0 qa0 na0 ca0 qa1 na1 ca1 qa2 na2 ca2 w (HV.callee (S0 := []) (vs0 := []) hh (roR hh 0 Y (roR hh 1 Y (roR hh 2 Y roN)))) hna0 hqa0 hla0 hna1 hqa1 hla1 hna2 hqa2 hla2 h12) (fun l_3 h13 => ?_)
  refine jl (fun w hh => hh) (jD Y ?_)
  obtain ⟨t22, h14, hm⟩ := bindO hm
  refine jd [] [] Y Y Y Y Y Y Y call23 (fun w hh => Qv c0 t21 qa0 na0 ca0 qa1 na1 ca1 qa2 na2 ca2 w (HV.callee (S0 := []) (vs0 := []) hh (roR hh 0 Y (roR hh 1 Y (roR hh 2 Y roN)))) hna0 hqa0 hla0 hna1 hqa1 hla1 hna2 hqa2 hla2 h14) (fun l_4 h15 => ?_)
  refine jl (fun w hh => hh) (jn Y Y Y Y (fun _ _ => ku Y) (jJ (ja (jr (ji Y Y ?_)))))
  obtain ⟨t24, h16, hm⟩ := bindO hm
  refine Jv h16 Y Y Y (jo Y Y (jo Y Y (jq (jh (jr (jo Y Y (jq ?_)))))))
  obtain ⟨o, h17, h18⟩ := bindO hm
  refine jF (ι := Unit) (fun l_5 => True) (fun l_5 => [(7, .int .i64 o.best7), (8, .int .i64 o.few8)]) (fun l_5 => [kc b #[.int .i64 c0.cells, .int .i64 c0.tides, .slice qa0 na0 ca0, .slice qa1 na1 ca1, .slice qa2 na2 ca2] 33]) (fun l_5 => []) ?_ ?_
  ·replace hm := h17
   refine jm ?_
   refine jH (ι := Unit) hm (fun s l_6 => True) (fun s l_6 => [(1, ptr b 0), (4, sL l.v), (5, sL l_2.v), (6, .int .i64 t22), (7, .int .i64 s.best7), (8, .int .i64 s.few8), (9, .int .i64 s.x9)]) (fun s l_6 => [kc b #[.int .i64 c0.cells, .int .i64 c0.tides, .slice qa0 na0 ca0, .slice qa1 na1 ca1, .slice qa2 na2 ca2] 33]) (fun s l_6 => [⟨22, RwH.enc l.rs, l.v.sp, l.v.q, dbl 3 RI t14 l.rs⟩, ⟨22, RwH.enc l_2.rs, l_2.v.sp, l_2.v.q, dbl 3 RI t18 l_2.rs⟩]) () (trivial) (sE Y) (hsE [0] [1, 0] 0 Y Y Y Y) (fun s l_6 r hpl hm h19 => ?_)
   unfold q9 at hm
   refine jh (jr (ji Y Y (qk 0 runUnderlying33 Y sizeOf3 Y Y (kw 0 isAgg3 Y Y Y Y (JK Y Y Y (jq ?_))))))
   refine js Y (fun h20 => ?_) (fun h20 => ?_)
   ·replace hm := ifD h20 hm
    refine jt (ja (jh ?_))
    obtain ⟨o_1, h21, h22⟩ := bindO hm
    refine jF (ι := Unit) (fun l_7 => True) (fun l_7 => [(1, ptr b 0), (4, sL l.v), (5, sL l_2.v), (6, .int .i64 t22), (7, .int .i64 o_1.best7), (8, .int .i64 o_1.few8), (9, .int .i64 s.x9)]) (fun l_7 => [kc b #[.int .i64 c0.cells, .int .i64 c0.tides, .slice qa0 na0 ca0, .slice qa1 na1 ca1, .slice qa2 na2 ca2] 33]) (fun l_7 => [⟨22, RwH.enc l.rs, l.v.sp, l.v.q, dbl 3 RI t14 l.rs⟩, ⟨22, RwH.enc l_2.rs, l_2.v.sp, l_2.v.q, dbl 3 RI t18 l_2.rs⟩]) ?_ ?_
    ·replace hm := h21
     refine jm (jr (jo Y Y (jq (jh (jr (jo Y Y (jq ?_)))))))
     obtain ⟨o_2, h23, h24⟩ := bindO hm
     refine jF (ι := Unit) (fun l_8 => True) (fun l_8 => [(1, ptr b 0), (4, sL l.v), (5, sL l_2.v), (6, .int .i64 t22), (7, .int .i64 s.best7), (8, .int .i64 s.few8), (9, .int .i64 s.x9), (10, .int .i64 o_2)]) (fun l_8 => [kc b #[.int .i64 c0.cells, .int .i64 c0.tides, .slice qa0 na0 ca0, .slice qa1 na1 ca1, .slice qa2 na2 ca2] 33]) (fun l_8 => [⟨22, RwH.enc l.rs, l.v.sp, l.v.q, dbl 3 RI t14 l.rs⟩, ⟨22, RwH.enc l_2.rs, l_2.v.sp, l_2.v.q, dbl 3 RI t18 l_2.rs⟩]) ?_ ?_
     ·replace hm := h23
      refine jm ?_
      refine jH (ι := Unit) hm (fun s_1 l_9 => True) (fun s_1 l_9 => [(1, ptr b 0), (4, sL l.v), (5, sL l_2.v), (6, .int .i64 t22), (7, .int .i64 s.best7), (8, .int .i64 s.few8), (9, .int .i64 s.x9), (10, .int .i64 s_1.yes10), (11, .int .i64 s_1.a11)]) (fun s_1 l_9 => [kc b #[.int .i64 c0.cells, .int .i64 c0.tides, .slice qa0 na0 ca0, .slice qa1 na1 ca1, .slice qa2 na2 ca2] 33]) (fun s_1 l_9 => [⟨22, RwH.enc l.rs, l.v.sp, l.v.q, dbl 3 RI t14 l.rs⟩, ⟨22, RwH.enc l_2.rs, l_2.v.sp, l_2.v.q, dbl 3 RI t18 l_2.rs⟩]) () (trivial) (sE Y) (fun w hh => hh) (fun s_1 l_9 r_1 hpl hm h25 => ?_)
      unfold yb at hm
      refine jh (jr (ji Y Y (ji Y Y (jc Y Y Y (fun w _ => Jj (Eq.trans (h5).len (vlen RwH h4 Y)) (runUnderlying41 w) Y) (JK Y Y Y (jq ?_))))))
      refine js Y (fun h26 => ?_) (fun h26 => ?_)
      ·replace hm := ifD h26 hm
       refine jt (ja (jh ?_))
       obtain ⟨o_3, h27, h28⟩ := bindO hm
       refine jF (ι := Unit) (fun l_10 => True) (fun l_10 => [(1, ptr b 0), (4, sL l.v), (5, sL l_2.v), (6, .int .i64 t22), (7, .int .i64 s.best7), (8, .int .i64 s.few8), (9, .int .i64 s.x9), (10, .int .i64 o_3), (11, .int .i64 s_1.a11)]) (fun l_10 => [kc b #[.int .i64 c0.cells, .int .i64 c0.tides, .slice qa0 na0 ca0, .slice qa1 na1 ca1, .slice qa2 na2 ca2] 33]) (fun l_10 => [⟨22, RwH.enc l.rs, l.v.sp, l.v.q, dbl 3 RI t14 l.rs⟩, ⟨22, RwH.enc l_2.rs, l_2.v.sp, l_2.v.q, dbl 3 RI t18 l_2.rs⟩]) ?_ ?_
       ·replace hm := h27
        refine jm (jr (ji Y Y (ji Y Y ?_)))
        obtain ⟨t39, h29, hm⟩ := bindO hm
        obtain ⟨L, h30, h31⟩ := (h5).row h29
        refine jc Y Y Y (fun w _ => qR h30 (runUnderlying41 w) (sizeOf22 w) Y Y (vlen RwH h4 Y) (vne h4)) (jc Y Y Y (fun w hh => j5 RwH 0 h30 (isAgg22 w) Y (hh.vseg 0 Y h4) Y (Nat.add_zero _).symm) (ji Y Y ?_))
        obtain ⟨t42, h32, hm⟩ := bindO hm
        refine jd [] [] Y Y Y Y Y Y Y call105 (fun w hh => K1 t39 s.x9 (qA L.q) L.n L.cap w (HV.callee (S0 := []) (vs0 := []) hh (roC (hh.dsepA (S0 := []) (vs0 := []) 0 Y h29 h30 h31) roN)) (vlen RI h31 Y) (AOK.q (vne h31)) (h31).hle h32) (fun l_11 h33 => ?_)
        refine jq ?_
        refine js Y (fun h34 => ?_) (fun h34 => ?_)
        ·replace hm := ifT (h34) hm
         refine je (ji Y Y (ji Y Y (qk 1 runUnderlying33 Y sizeOf3 Y Y (kw 0 isAgg3 Y Y Y Y ?_))))
         obtain ⟨t47, h35, hm⟩ := bindO hm
         obtain ⟨L_1, h36, h37⟩ := (h11).row h35
         refine jc Y Y Y (fun w _ => qR h36 (runUnderlying41 w) (sizeOf22 w) Y Y (vlen RwH h10 Y) (vne h10)) (jc Y Y Y (fun w hh => j5 RwH 0 h36 (isAgg22 w) Y (hh.vseg 1 Y h10) Y (Nat.add_zero _).symm) (ji Y Y ?_))
         obtain ⟨t50, h38, hm⟩ := bindO hm
         refine jc Y Y Y (fun w _ => qR h38 (runUnderlying22 w) (sizeOf3 w) Y Y (vlen RI h37 Y) (vne h37)) (jc Y Y Y (fun w hh => j5 RI 0 h38 (isAgg3 w) Y (hh.dseg 1 Y h35 h36 h37) Y (Nat.add_zero _).symm) ?_)
         obtain ⟨t52, h39, hm⟩ := bindO hm
         refine Jv h39 Y Y Y (jo Y Y (jv (jw ?_)))
         obtain rfl := sj hm
         exact jj () (trivial) (sE Y) (fun w hh => hh)
        replace hm := ifN h34 hm
        refine jt (jw ?_)
        obtain rfl := sj hm
        exact jj () (trivial) (sE Y) (fun w hh => hh)
       intro l_10 hj
       replace hm := h28
       refine ja (je (ji Y Y ?_))
       obtain ⟨t36, h40, hm⟩ := bindO hm
       refine Jv h40 Y Y Y (jo Y Y (jv ?_))
       obtain rfl := sj hm
       refine ja ?_
       exact jz _ () Y (trivial) (sE Y) (fun w hh => hh)
      replace hm := ifE h26 hm
      refine jO (jk (jk (jB ?_)))
      obtain rfl := sj hm
      have hbo := h25 _ Y
      subst hbo
      exact jj () (trivial) (sE Y) (fun w hh => hh)
     intro l_8 hj
     replace hm := h24
     refine ja (jr (ji Y Y (ji Y Y (ji Y Y ?_))))
     obtain ⟨t56, h41, hm⟩ := bindO hm
     refine jc Y Y Y (fun _ _ => zC h41 Y Y) (jc Y Y Y (fun _ _ => Z2 Y Y) (jo Y Y (qb (ji Y Y (ji Y Y (JK Y Y Y (jq ?_)))))))
     refine js Y (fun h42 => ?_) (fun h42 => ?_)
     ·replace hm := ifD h42 hm
      refine je (ji Y Y (ji Y Y (jo Y Y (jo Y Y (jv (jw ?_))))))
      obtain rfl := sj hm
      exact jj () (trivial) (sE Y) (fun w hh => hh)
     replace hm := ifE h42 hm
     refine jt (jw ?_)
     obtain rfl := sj hm
     exact jj () (trivial) (sE Y) (fun w hh => hh)
    intro l_7 hj
    replace hm := h22
    refine ja (je (ji Y Y ?_))
    obtain ⟨t30, h43, hm⟩ := bindO hm
    refine Jv h43 Y Y Y (jo Y Y (jv ?_))
    obtain rfl := sj hm
    refine ja ?_
    exact jz _ () Y (trivial) (sE Y) (fun w hh => hh)
   replace hm := ifE h20 hm
   refine jO (jk (jk (jB ?_)))
   obtain rfl := sj hm
   have hbo := h19 _ Y
   subst hbo
   exact jj () (trivial) (sE Y) (hsE [0] [] 0 Y Y Y Y)
  intro l_5 hj
  replace hm := h18
  refine ja (jr (ji Y Y (ji Y Y (jo Y Y (jo Y Y (jq (jy ?_)))))))
  obtain rfl := sj hm
  refine jp Y (fun w hh => (.tmp Y (.tmp Y .nil))) (fun w hh => ⟨(), rfl, trivial, hh.se [] [] 3 Y Y Y rfl⟩)
structure JE where
  n4 : Int
  t10 : Int
def yD (a11_fords : (List Int)) (s0 : State) (s : JE) : Option (JE ⊕ Int) :=
 if s.t10 < (a11_fords.length : Int) then
 (((ix a11_fords s.t10).bind fun t13 =>
 (ix [s0.at_.c0, s0.at_.c1, s0.at_.c2] s.t10).bind fun t17 =>
 if t17 = t13 then
 (some s.n4) else
 ((addc s.n4 1).bind fun t22 =>
 some t22)).bind fun o_1 =>
 (addc s.t10 1).bind fun t23 =>
 some (.inl (⟨o_1, t23⟩ : JE))) else
 (some (.inr s.n4))
def qv (s0 : State) (a11_cells : Int) (a11_tides : Int) (a11_fords : (List Int)) (a11_sands : (List Sand)) (a11_sights : (List Sight)) : Option Int :=
 (iterM FU (yD a11_fords s0) (⟨0, 0⟩ : JE)).bind fun o =>
 some o
theorem kZ (s0 : State) (a11_cells : Int) (a11_tides : Int) (a11_fords : (List Int)) (a11_sands : (List Sand)) (a11_sights : (List Sight)) (rb : Nat) (qa1 : Option Addr) (na1 ca1 : Nat) (qa2 : Option Addr) (na2 ca2 : Nat) (qa3 : Option Addr) (na3 ca3 : Nat) (w : World) (hw : HV w (keys [] []) [] [] [(rb, 0, [.int .i64 a11_cells, .int .i64 a11_tides, .slice qa1 na1 ca1, .slice qa2 na2 ca2, .slice qa3 na3 ca3]), (aB qa1, aO qa1, RI.enc a11_fords), (aB qa2, aO qa2, RSa.enc a11_sands), (aB qa3, aO qa3, RSi.enc a11_sights)] w)  (hna1 : a11_fords.length = na1) (hqa1 : AOK na1 qa1) (hla1 : na1 ≤ ca1) (hna2 : a11_sands.length = na2) (hqa2 : AOK na2 qa2) (hla2 : na2 ≤ ca2) (hna3 : a11_sights.length = na3) (hqa3 : AOK na3 qa3) (hla3 : na3 ≤ ca3) {res : Int} (hm : qv s0 a11_cells a11_tides a11_fords a11_sands a11_sights = some res) :
    Calls Tryz.prog 109 #[.agg #[.int .i64 s0.after, .int .i64 s0.at_.c0, .int .i64 s0.at_.c1, .int .i64 s0.at_.c2], ptr rb 0] w (fun en w' => ∃ l : Unit, en = .returned (.int .i64 res) ∧ (True) ∧ HV w (keys [] []) [] [] [] w') := by
  unfold qv at hm
  refine yd func109 Y ntmps109 Y (e := [(0, _), (1, _)]) Y hw (jr ?_)
  refine jL Y Y (fun b h1 => ?_)
  refine jo Y Y (qb (jo Y Y (jq (jh (jr (qk 2 runUnderlying26 Y sizeOf22 Y Y (jc Y Y Y (fun w hh => jI (isAgg22 w) Y (segCell (hh.seg 0 Y) 2 Y)) ?_)))))))
  refine jc Y Y Y (fun w _ => jQ hna1 (runUnderlying22 w) Y) (ji Y Y (jq ?_))
  obtain ⟨o, h2, h3⟩ := bindO hm
  refine jF (ι := Unit) (fun l => True) (fun l => [(4, .int .i64 o)]) (fun l => [kc b #[.int .i64 s0.after, .int .i64 s0.at_.c0, .int .i64 s0.at_.c1, .int .i64 s0.at_.c2] 159]) (fun l => []) ?_ ?_
  ·replace hm := h2
   refine jm ?_
   refine jH (ι := Unit) hm (fun s l_1 => True) (fun s l_1 => [(2, ptr b 0), (4, .int .i64 s.n4), (8, .slice qa1 na1 ca1), (9, .int .i64 (a11_fords.length : Int)), (10, .int .i64 s.t10)]) (fun s l_1 => [kc b #[.int .i64 s0.after, .int .i64 s0.at_.c0, .int .i64 s0.at_.c1, .int .i64 s0.at_.c2] 159]) (fun s l_1 => []) () (trivial) (sE Y) (fun w hh => hh) (fun s l_1 r hpl hm h4 => ?_)
   unfold yD at hm
   refine jr (JK Y Y Y (jq (jh ?_)))
   refine js Y (fun h5 => ?_) (fun h5 => ?_)
   ·replace hm := ifD h5 hm
    refine jt (ja (jh ?_))
    obtain ⟨o_1, h6, h7⟩ := bindO hm
    refine jF (ι := Unit) (fun l_2 => True) (fun l_2 => [(2, ptr b 0), (4, .int .i64 o_1), (8, .slice qa1 na1 ca1), (9, .int .i64 (a11_fords.length : Int)), (10, .int .i64 s.t10)]) (fun l_2 => [kc b #[.int .i64 s0.after, .int .i64 s0.at_.c0, .int .i64 s0.at_.c1, .int .i64 s0.at_.c2] 159]) (fun l_2 => []) ?_ ?_
    ·replace hm := h6
     refine jm (jr (ji Y Y ?_))
     obtain ⟨t13, h8, hm⟩ := bindO hm
     refine jc Y Y Y (fun w _ => qP h8 (runUnderlying22 w) (sizeOf3 w) Y Y hna1 hqa1) (jc Y Y Y (fun w hh => j5 RI 0 h8 (isAgg3 w) Y (hh.seg 1 Y) Y (Nat.add_zero _).symm) (jo Y Y (jo Y Y (qb (ji Y Y (qk 1 runUnderlying159 Y sizeOf157 Y Y ?_))))))
     obtain ⟨t17, h9, hm⟩ := bindO hm
     refine jc Y Y Y (fun w _ => Kg h9 Y (runUnderlying157 w) (sizeOf3 w) Y Y) (jc Y Y Y (fun w hh => jI (isAgg3 w) Y (hh.cell 0 Y (ixCell h9 kI [_] [] Y Y))) (ji Y Y (jc Y Y Y (fun _ _ => JG Y Y) (jq ?_))))
     refine js Y (fun h10 => ?_) (fun h10 => ?_)
     ·replace hm := ifF (of_ndec_true h10) hm
      refine je (ji Y Y ?_)
      obtain ⟨t22, h11, hm⟩ := bindO hm
      refine Jv h11 Y Y Y (jo Y Y (jv (jw ?_)))
      obtain rfl := sj hm
      exact jj () (trivial) (sE Y) (fun w hh => hh)
     replace hm := ifT (of_ndec_false h10) hm
     refine jt (jw ?_)
     obtain rfl := sj hm
     exact jj () (trivial) (sE Y) (fun w hh => hh)
    intro l_2 hj
    replace hm := h7
    refine ja (je ?_)
    obtain ⟨t23, h12, hm⟩ := bindO hm
    refine Jv h12 Y Y Y (ji Y Y (jv ?_))
    obtain rfl := sj hm
    refine ja ?_
    exact jz _ () Y (trivial) (sE Y) (fun w hh => hh)
   replace hm := ifE h5 hm
   refine jO (jk (jk (jB ?_)))
   obtain rfl := sj hm
   have hbo := h4 _ Y
   subst hbo
   exact jj () (trivial) (sE Y) (fun w hh => hh)
  intro l hj
  replace hm := h3
  refine ja (jr (ji Y Y (jo Y Y (jq (jy ?_)))))
  obtain rfl := sj hm
  refine jp Y (fun w hh => (.tmp Y .nil)) (fun w hh => ⟨(), rfl, trivial, hh.se [] [] 4 Y Y Y rfl⟩)
structure Qi where
  out5_lo : Int
  out5_hi : Int
structure zQ where
  t21 : Int
  out5_lo : Int
  out5_hi : Int
structure YL where
  out5_lo : Int
  out5_hi : Int
def Kk : Plan := (.one 1 (.one 6 (.free 13 (.one 11 (.free 12 (.one 14 (.free 15 (.one 16 .done))))))))
def J9 : Plan := (.one 5 (.one 6 (.free 13 (.one 11 (.free 12 (.one 14 (.free 15 (.one 16 .done))))))))
def Kf : Plan := (.br (.alt 1 J9 (.alt 5 Kk .nil)))
def Ki : Plan := (.one 4 (.one 5 (.one 6 (.free 13 (.one 11 (.free 12 (.one 14 (.free 15 (.one 16 .done)))))))))
def YI : Plan := (.br (.alt 1 Ki (.alt 4 Kf .nil)))
def Qk : Plan := (.one 6 (.free 13 (.one 11 (.free 12 (.one 14 (.free 15 (.one 16 .done)))))))
def Qh : Plan := (.one 8 (.free 12 (.free 13 (.one 14 (.free 15 (.one 16 .done))))))
def Qm : Plan := (.free 13 (.one 11 (.free 12 (.one 14 (.free 15 (.one 16 .done))))))
def Qn : Plan := (.br (.alt 8 Qm (.alt 11 Qh .nil)))
def J8 : Plan := (.br (.alt 6 Qn (.alt 8 Qk .nil)))
def Yr : Plan := (.br (.alt 1 J8 (.alt 8 Kk .nil)))
def JN : Plan := (.br (.alt 5 J8 (.alt 8 J9 .nil)))
def Yw : Plan := (.br (.alt 1 JN (.alt 5 Yr (.alt 8 Kf .nil))))
def Ys : Plan := (.br (.alt 4 JN (.alt 8 Ki .nil)))
def Yt : Plan := (.free 12 (.one 14 (.free 15 (.one 16 .done))))
def Yy : Plan := (.free 12 (.free 13 (.one 14 (.free 15 (.one 16 .done)))))
def yc (l0 : (List State)) (of1_c0_cells : Int) (of1_c0_tides : Int) (of1_c0_fords : (List Int)) (of1_c0_sands : (List Sand)) (of1_c0_sights : (List Sight)) (s : zQ) : Option (zQ ⊕ Qi) :=
 if s.t21 < (l0.length : Int) then
 ((ix l0 s.t21).bind fun t23 =>
 ((qv (⟨t23.after, (⟨t23.at_.c0, t23.at_.c1, t23.at_.c2⟩ : Cells)⟩ : State) of1_c0_cells of1_c0_tides of1_c0_fords of1_c0_sands of1_c0_sights).bind fun t29 =>
 (Jr s.out5_lo [t29]).bind fun t31 =>
 (qv (⟨t23.after, (⟨t23.at_.c0, t23.at_.c1, t23.at_.c2⟩ : Cells)⟩ : State) of1_c0_cells of1_c0_tides of1_c0_fords of1_c0_sands of1_c0_sights).bind fun t36 =>
 some (⟨t31, (max s.out5_hi t36)⟩ : YL)).bind fun o_2 =>
 (addc s.t21 1).bind fun t40 =>
 some (.inl (⟨t40, o_2.out5_lo, o_2.out5_hi⟩ : zQ))) else
 (some (.inr (⟨s.out5_lo, s.out5_hi⟩ : Qi)))
def zY (l0 : (List State)) (of1_c0_cells : Int) (of1_c0_tides : Int) (of1_c0_fords : (List Int)) (of1_c0_sands : (List Sand)) (of1_c0_sights : (List Sight)) : Option Span :=
 ((ix l0 0).bind fun t10 =>
 (ix l0 0).bind fun t15 =>
 (qv (⟨t10.after, (⟨t10.at_.c0, t10.at_.c1, t10.at_.c2⟩ : Cells)⟩ : State) of1_c0_cells of1_c0_tides of1_c0_fords of1_c0_sands of1_c0_sights).bind fun t12 =>
 (qv (⟨t15.after, (⟨t15.at_.c0, t15.at_.c1, t15.at_.c2⟩ : Cells)⟩ : State) of1_c0_cells of1_c0_tides of1_c0_fords of1_c0_sands of1_c0_sights).bind fun t17 =>
 some (⟨t12, t17⟩ : Span)).bind fun o =>
 (iterM FU (yc l0 of1_c0_cells of1_c0_tides of1_c0_fords of1_c0_sands of1_c0_sights) (⟨0, o.lo, o.hi⟩ : zQ)).bind fun o_1 =>
 some (⟨o_1.out5_lo, o_1.out5_hi⟩ : Span)
theorem Zr (l0 : (List State)) (of1_c0_cells : Int) (of1_c0_tides : Int) (of1_c0_fords : (List Int)) (of1_c0_sands : (List Sand)) (of1_c0_sights : (List Sight)) (qa0 : Option Addr) (na0 ca0 : Nat) (rb : Nat) (qa2 : Option Addr) (na2 ca2 : Nat) (qa3 : Option Addr) (na3 ca3 : Nat) (qa4 : Option Addr) (na4 ca4 : Nat) (w : World) (hw : HV w (keys [] []) [] [] [(aB qa0, aO qa0, RSta.enc l0), (rb, 0, [.int .i64 of1_c0_cells, .int .i64 of1_c0_tides, .slice qa2 na2 ca2, .slice qa3 na3 ca3, .slice qa4 na4 ca4]), (aB qa2, aO qa2, RI.enc of1_c0_fords), (aB qa3, aO qa3, RSa.enc of1_c0_sands), (aB qa4, aO qa4, RSi.enc of1_c0_sights)] w) (hna0 : l0.length = na0) (hqa0 : AOK na0 qa0) (hla0 : na0 ≤ ca0)  (hna2 : of1_c0_fords.length = na2) (hqa2 : AOK na2 qa2) (hla2 : na2 ≤ ca2) (hna3 : of1_c0_sands.length = na3) (hqa3 : AOK na3 qa3) (hla3 : na3 ≤ ca3) (hna4 : of1_c0_sights.length = na4) (hqa4 : AOK na4 qa4) (hla4 : na4 ≤ ca4) {res : Span} (hm : zY l0 of1_c0_cells of1_c0_tides of1_c0_fords of1_c0_sands of1_c0_sights = some res) :
    Calls Tryz.prog 107 #[.slice qa0 na0 ca0, .func (.func 109) #[] #[ptr rb 0]] w (fun en w' => ∃ l : Unit, en = .returned (.agg #[.int .i64 res.lo, .int .i64 res.hi]) ∧ (True) ∧ HV w (keys [] []) [] [] [] w') := by
  unfold zY at hm
  refine yd func107 Y ntmps107 Y (e := [(0, _), (1, _)]) Y hw (jr ?_)
  refine ju (fun w => zeroValue50 w) Y (fun b h1 => ?_)
  refine jq (jh ?_)
  obtain ⟨o, h2, h3⟩ := bindO hm
  refine jF (ι := Nat) (fun l => True) (fun l => [(0, .slice qa0 na0 ca0), (1, .func (.func 109) #[] #[ptr rb 0]), (4, ptr b 0), (5, ptr l 0)]) (fun l => [kc b #[.int .i64 0, .int .i64 0] 50, kc l #[.int .i64 o.lo, .int .i64 o.hi] 50]) (fun l => []) ?_ ?_
  ·replace hm := h2
   obtain ⟨t10, h4, hm⟩ := bindO hm
   obtain ⟨t15, h5, hm⟩ := bindO hm
   obtain ⟨t12, h6, hm⟩ := bindO hm
   obtain ⟨t17, h7, hm⟩ := bindO hm
   refine jX none (.free 0 (.free 1 (.free 2 (.hoist 3 (.free 5 (.free 6 (.free 7 (.hoist 8 (.br (.alt 4 (.br (.alt 9 (.free 10 (.one 11 (.one 12 .done))) (.alt 11 (.one 9 (.free 10 (.one 12 .done))) .nil))) (.alt 11 (.one 4 (.one 9 (.free 10 (.one 12 .done)))) .nil))))))))))) _ Y (by decide +kernel) (fun w k hh => hh.draw k) (fun w hh => hh) ?_
   refine qQ Y Y Y (qQ Y Y Y (jn Y Y Y Y (fun w _ => qP h4 (runUnderlying155 w) (sizeOf159 w) Y Y hna0 hqa0) ?_))
   refine jx Y Y Y Y (fun w hh => z7 RSta 0 [.int .i64 t10.after, .int .i64 t10.at_.c0, .int .i64 t10.at_.c1, .int .i64 t10.at_.c2] h4 (isAgg159 w) (sizeOf159 w) Y (hh.seg 0 Y) Y (Nat.add_zero _).symm) ?_
   refine qQ Y Y Y (qQ Y Y Y (jn Y Y Y Y (fun w _ => qP h5 (runUnderlying155 w) (sizeOf159 w) Y Y hna0 hqa0) ?_))
   refine jx Y Y Y Y (fun w hh => z7 RSta 0 [.int .i64 t15.after, .int .i64 t15.at_.c0, .int .i64 t15.at_.c1, .int .i64 t15.at_.c2] h5 (isAgg159 w) (sizeOf159 w) Y (hh.seg 0 Y) Y (Nat.add_zero _).symm) ?_
   refine YE ?_
   refine kE Y ?_ ?_
   ·refine jd [] [] Y Y Y Y Y Y Y call109 (fun w hh => kZ (⟨t10.after, (⟨t10.at_.c0, t10.at_.c1, t10.at_.c2⟩ : Cells)⟩ : State) of1_c0_cells of1_c0_tides of1_c0_fords of1_c0_sands of1_c0_sights rb qa2 na2 ca2 qa3 na3 ca3 qa4 na4 ca4 w (HV.callee (S0 := []) (vs0 := []) hh (roR hh 1 Y (roR hh 2 Y (roR hh 3 Y (roR hh 4 Y roN))))) hna2 hqa2 hla2 hna3 hqa3 hla3 hna4 hqa4 hla4 h6) (fun l_1 h8 => ?_)
    refine jl (fun w hh => hh) (YE ?_)
    refine kE Y ?_ ?_
    ·refine jd [] [] Y Y Y Y Y Y Y call109 (fun w hh => kZ (⟨t15.after, (⟨t15.at_.c0, t15.at_.c1, t15.at_.c2⟩ : Cells)⟩ : State) of1_c0_cells of1_c0_tides of1_c0_fords of1_c0_sands of1_c0_sights rb qa2 na2 ca2 qa3 na3 ca3 qa4 na4 ca4 w (HV.callee (S0 := []) (vs0 := []) hh (roR hh 1 Y (roR hh 2 Y (roR hh 3 Y (roR hh 4 Y roN))))) hna2 hqa2 hla2 hna3 hqa3 hla3 hna4 hqa4 hla4 h7) (fun l_2 h9 => ?_)
     refine jl (fun w hh => hh) (jn Y Y Y Y (fun _ _ => ks (vs := [(0, _), (1, _)]) (cells := [_, _]) Y Y) (jD Y ?_))
     refine ju (fun w => zeroValue50 w) Y (fun b_1 h10 => ?_)
     refine jl (hsE [1] [] 0 Y Y Y Y) (jD Y (jT (us := #[_, _]) (cs' := [_, _]) (S' := [_, _]) 0 (fun w => sizeOf50 w) Y Y Y Y Y Y Y (jl (hsE [1] [] 0 Y Y Y Y) (jJ ?_))))
     obtain rfl := sj hm
     exact jj b_1 (trivial) (sE Y) (hsE [1, 0] [] 0 Y Y Y Y)
    refine kE Y ?_ ?_
    refine ju (fun w => zeroValue50 w) Y (fun b_2 h11 => ?_)
    refine jl (hsE [1] [] 0 Y Y Y Y) (jD Y ?_)
    refine jd [] [] Y Y Y Y Y Y Y call109 (fun w hh => kZ (⟨t15.after, (⟨t15.at_.c0, t15.at_.c1, t15.at_.c2⟩ : Cells)⟩ : State) of1_c0_cells of1_c0_tides of1_c0_fords of1_c0_sands of1_c0_sights rb qa2 na2 ca2 qa3 na3 ca3 qa4 na4 ca4 w (HV.callee (S0 := []) (vs0 := []) hh (roR hh 1 Y (roR hh 2 Y (roR hh 3 Y (roR hh 4 Y roN))))) hna2 hqa2 hla2 hna3 hqa3 hla3 hna4 hqa4 hla4 h7) (fun l_3 h12 => ?_)
    refine jl (hsE [1] [] 0 Y Y Y Y) (jn Y Y Y Y (fun _ _ => ks (vs := [(0, _), (1, _)]) (cells := [_, _]) Y Y) (jD Y (jT (us := #[_, _]) (cs' := [_, _]) (S' := [_, _]) 0 (fun w => sizeOf50 w) Y Y Y Y Y Y Y (jl (hsE [1] [] 0 Y Y Y Y) (jJ ?_)))))
    obtain rfl := sj hm
    exact jj b_2 (trivial) (sE Y) (hsE [1, 0] [] 0 Y Y Y Y)
    exact J3
   refine kE Y ?_ ?_
   refine ju (fun w => zeroValue50 w) Y (fun b_3 h13 => ?_)
   refine jl (hsE [1] [] 0 Y Y Y Y) (jD Y ?_)
   refine jd [] [] Y Y Y Y Y Y Y call109 (fun w hh => kZ (⟨t10.after, (⟨t10.at_.c0, t10.at_.c1, t10.at_.c2⟩ : Cells)⟩ : State) of1_c0_cells of1_c0_tides of1_c0_fords of1_c0_sands of1_c0_sights rb qa2 na2 ca2 qa3 na3 ca3 qa4 na4 ca4 w (HV.callee (S0 := []) (vs0 := []) hh (roR hh 1 Y (roR hh 2 Y (roR hh 3 Y (roR hh 4 Y roN))))) hna2 hqa2 hla2 hna3 hqa3 hla3 hna4 hqa4 hla4 h6) (fun l_4 h14 => ?_)
   refine jl (hsE [1] [] 0 Y Y Y Y) (jD Y ?_)
   refine jd [] [] Y Y Y Y Y Y Y call109 (fun w hh => kZ (⟨t15.after, (⟨t15.at_.c0, t15.at_.c1, t15.at_.c2⟩ : Cells)⟩ : State) of1_c0_cells of1_c0_tides of1_c0_fords of1_c0_sands of1_c0_sights rb qa2 na2 ca2 qa3 na3 ca3 qa4 na4 ca4 w (HV.callee (S0 := []) (vs0 := []) hh (roR hh 1 Y (roR hh 2 Y (roR hh 3 Y (roR hh 4 Y roN))))) hna2 hqa2 hla2 hna3 hqa3 hla3 hna4 hqa4 hla4 h7) (fun l_5 h15 => ?_)
   refine jl (hsE [1] [] 0 Y Y Y Y) (jn Y Y Y Y (fun _ _ => ks (vs := [(0, _), (1, _)]) (cells := [_, _]) Y Y) (jD Y (jT (us := #[_, _]) (cs' := [_, _]) (S' := [_, _]) 0 (fun w => sizeOf50 w) Y Y Y Y Y Y Y (jl (hsE [1] [] 0 Y Y Y Y) (jJ ?_)))))
   obtain rfl := sj hm
   exact jj b_3 (trivial) (sE Y) (hsE [1, 0] [] 0 Y Y Y Y)
   exact J3
  intro l hj
  replace hm := h3
  refine ja (jh (jr (ji Y Y (jc Y Y Y (fun w _ => jQ hna0 (runUnderlying155 w) Y) (ji Y Y (jq ?_))))))
  obtain ⟨o_1, h16, h17⟩ := bindO hm
  refine jF (ι := Unit) (fun l_6 => True) (fun l_6 => [(4, ptr b 0), (5, ptr l 0)]) (fun l_6 => [kc b #[.int .i64 0, .int .i64 0] 50, kc l #[.int .i64 o_1.out5_lo, .int .i64 o_1.out5_hi] 50]) (fun l_6 => []) ?_ ?_
  ·replace hm := h16
   refine jm ?_
   refine jH (ι := Unit) hm (fun s l_7 => True) (fun s l_7 => [(1, .func (.func 109) #[] #[ptr rb 0]), (4, ptr b 0), (5, ptr l 0), (19, .slice qa0 na0 ca0), (20, .int .i64 (l0.length : Int)), (21, .int .i64 s.t21)]) (fun s l_7 => [kc b #[.int .i64 0, .int .i64 0] 50, kc l #[.int .i64 s.out5_lo, .int .i64 s.out5_hi] 50]) (fun s l_7 => []) () (trivial) (sE Y) (fun w hh => hh) (fun s l_7 r hpl hm h18 => ?_)
   unfold yc at hm
   refine jr (JK Y Y Y (jq (jh ?_)))
   refine js Y (fun h19 => ?_) (fun h19 => ?_)
   ·replace hm := ifD h19 hm
    refine jt (ja (jh (jm (jr ?_))))
    obtain ⟨t23, h20, hm⟩ := bindO hm
    refine jc Y Y Y (fun w _ => qP h20 (runUnderlying155 w) (sizeOf159 w) Y Y hna0 hqa0) ?_
    refine jc Y Y Y (fun w hh => z7 RSta 0 [.int .i64 t23.after, .int .i64 t23.at_.c0, .int .i64 t23.at_.c1, .int .i64 t23.at_.c2] h20 (isAgg159 w) (sizeOf159 w) Y (hh.seg 0 Y) Y (Nat.add_zero _).symm) ?_
    refine ju (fun w => zeroValue159 w) Y (fun b_4 h21 => ?_)
    refine jT (us := #[_, _, _, _]) (cs' := [_, _, _, _]) (S' := [_, _, _]) 0 (fun w => sizeOf159 w) Y Y Y Y Y Y Y (jq ?_)
    obtain ⟨o_2, h22, h23⟩ := bindO hm
    refine jF (ι := Unit) (fun l_8 => True) (fun l_8 => [(1, .func (.func 109) #[] #[ptr rb 0]), (4, ptr b 0), (5, ptr l 0), (19, .slice qa0 na0 ca0), (20, .int .i64 (l0.length : Int)), (21, .int .i64 s.t21)]) (fun l_8 => [kc b_4 #[.int .i64 t23.after, .int .i64 t23.at_.c0, .int .i64 t23.at_.c1, .int .i64 t23.at_.c2] 159, kc b #[.int .i64 0, .int .i64 0] 50, kc l #[.int .i64 o_2.out5_lo, .int .i64 o_2.out5_hi] 50]) (fun l_8 => []) ?_ ?_
    ·replace hm := h22
     obtain ⟨t29, h24, hm⟩ := bindO hm
     obtain ⟨t31, h25, hm⟩ := bindO hm
     obtain ⟨t36, h26, hm⟩ := bindO hm
     refine jX none (.free 0 (.free 2 (.hoist 3 (.free 7 (.free 9 (.hoist 10 (.br (.alt 1 Ys (.alt 4 Yw (.alt 8 YI .nil)))))))))) (HV _ _ [kc b_4 #[.int .i64 t23.after, .int .i64 t23.at_.c0, .int .i64 t23.at_.c1, .int .i64 t23.at_.c2] 159, kc b #[.int .i64 0, .int .i64 0] 50] [] _) Y (by decide +kernel) (fun w k hh => hh.draw k) (hsE [0, 1] [] 0 Y Y Y Y) ?_
     refine Kl 0 runUnderlying50 sizeOf3 Y Y Y Y (qQ Y Y Y (jx Y Y Y Y (fun w hh => jE (vs := [_, _, _, _]) (isAgg159 w) (sizeOf159 w) Y (hh.cells 0 Y Y)) (Kl 1 runUnderlying50 sizeOf3 Y Y Y Y (qQ Y Y Y (jx Y Y Y Y (fun w hh => jE (vs := [_, _, _, _]) (isAgg159 w) (sizeOf159 w) Y (hh.cells 0 Y Y)) ?_)))))
     refine qa (.free 15 (.one 16 .done)) (fun g => g [(1, .func (.func 109) #[] #[ptr rb 0]), (4, ptr b 0), (5, ptr l 0), (19, .slice qa0 na0 ca0), (20, .int .i64 (l0.length : Int)), (21, .int .i64 s.t21), (37, .int .i64 (max s.out5_hi t36))] [kc b_4 #[.int .i64 t23.after, .int .i64 t23.at_.c0, .int .i64 t23.at_.c1, .int .i64 t23.at_.c2] 159, kc b #[.int .i64 0, .int .i64 0] 50, kc l #[.int .i64 t31, .int .i64 s.out5_hi] 50] []) ?_ (fun h27 => ?_)
     ·refine Kl 1 runUnderlying50 sizeOf3 Y Y Y Y ?_
      refine jD Y (zp (cs' := #[_, _]) (S' := [_, _, _]) 2 (fun w => sizeOf3 w) Y Y Y Y Y Y Y (jl (hsE [0, 1] [] 0 Y Y Y Y) (jJ ?_)))
      obtain rfl := sj hm
      exact jj () (trivial) (sE Y) (fun w hh => hh)
     refine qa Yt (fun g => g [(1, .func (.func 109) #[] #[ptr rb 0]), (4, ptr b 0), (5, ptr l 0), (19, .slice qa0 na0 ca0), (20, .int .i64 (l0.length : Int)), (21, .int .i64 s.t21), (31, .int .i64 t31), (33, .int .i64 s.out5_hi), (36, .int .i64 t36), (38, ptr l 0)] [kc b_4 #[.int .i64 t23.after, .int .i64 t23.at_.c0, .int .i64 t23.at_.c1, .int .i64 t23.at_.c2] 159, kc b #[.int .i64 0, .int .i64 0] 50, kc l #[.int .i64 s.out5_lo, .int .i64 s.out5_hi] 50] []) ?_ (fun h28 => ?_)
     refine jn Y Y Y Y (fun _ _ => Z2 Y Y) (jD Y (zp (cs' := #[_, _]) (S' := [_, _, _]) 2 (fun w => sizeOf3 w) Y Y Y Y Y Y Y (jl (hsE [0, 1] [] 0 Y Y Y Y) ?_)))
     exact qu (h27) (sE Y) (fun w hh => hh)
     refine qa Yy (fun g => g [(1, .func (.func 109) #[] #[ptr rb 0]), (4, ptr b 0), (5, ptr l 0), (19, .slice qa0 na0 ca0), (20, .int .i64 (l0.length : Int)), (21, .int .i64 s.t21), (31, .int .i64 t31), (33, .int .i64 s.out5_hi), (36, .int .i64 t36)] [kc b_4 #[.int .i64 t23.after, .int .i64 t23.at_.c0, .int .i64 t23.at_.c1, .int .i64 t23.at_.c2] 159, kc b #[.int .i64 0, .int .i64 0] 50, kc l #[.int .i64 s.out5_lo, .int .i64 s.out5_hi] 50] []) ?_ (fun h29 => ?_)
     ·refine jn Y Y Y Y (fun _ _ => Z2 Y Y) ?_
      refine Kl 0 runUnderlying50 sizeOf3 Y Y Y Y (jD Y (zp (cs' := #[_, _]) (S' := [_, _, _]) 2 (fun w => sizeOf3 w) Y Y Y Y Y Y Y (jl (hsE [0, 1] [] 0 Y Y Y Y) ?_)))
      exact qu (h27) (sE Y) (fun w hh => hh)
     refine qa Qh (fun g => g [(1, .func (.func 109) #[] #[ptr rb 0]), (4, ptr b 0), (5, ptr l 0), (19, .slice qa0 na0 ca0), (20, .int .i64 (l0.length : Int)), (21, .int .i64 s.t21), (31, .int .i64 t31), (32, ptr l 1), (36, .int .i64 t36)] [kc b_4 #[.int .i64 t23.after, .int .i64 t23.at_.c0, .int .i64 t23.at_.c1, .int .i64 t23.at_.c2] 159, kc b #[.int .i64 0, .int .i64 0] 50, kc l #[.int .i64 s.out5_lo, .int .i64 s.out5_hi] 50] []) ?_ (fun h30 => ?_)
     refine jD Y (kw 2 isAgg3 Y Y Y Y (jl (hsE [0, 1] [] 0 Y Y Y Y) ?_))
     exact qu (h29) (sE Y) (fun w hh => hh)
     refine qa Qm (fun g => g [(1, .func (.func 109) #[] #[ptr rb 0]), (4, ptr b 0), (5, ptr l 0), (19, .slice qa0 na0 ca0), (20, .int .i64 (l0.length : Int)), (21, .int .i64 s.t21), (31, .int .i64 t31), (33, .int .i64 s.out5_hi), (34, .func (.func 109) #[] #[ptr rb 0]), (35, .agg #[.int .i64 t23.after, .int .i64 t23.at_.c0, .int .i64 t23.at_.c1, .int .i64 t23.at_.c2])] [kc b_4 #[.int .i64 t23.after, .int .i64 t23.at_.c0, .int .i64 t23.at_.c1, .int .i64 t23.at_.c2] 159, kc b #[.int .i64 0, .int .i64 0] 50, kc l #[.int .i64 s.out5_lo, .int .i64 s.out5_hi] 50] []) ?_ (fun h31 => ?_)
     ·refine Kl 0 runUnderlying50 sizeOf3 Y Y Y Y ?_
      refine jD Y ?_
      refine jd [] [] Y Y Y Y Y Y Y call109 (fun w hh => kZ (⟨t23.after, (⟨t23.at_.c0, t23.at_.c1, t23.at_.c2⟩ : Cells)⟩ : State) of1_c0_cells of1_c0_tides of1_c0_fords of1_c0_sands of1_c0_sights rb qa2 na2 ca2 qa3 na3 ca3 qa4 na4 ca4 w (HV.callee (S0 := []) (vs0 := []) hh (roR hh 1 Y (roR hh 2 Y (roR hh 3 Y (roR hh 4 Y roN))))) hna2 hqa2 hla2 hna3 hqa3 hla3 hna4 hqa4 hla4 h26) (fun l_9 h32 => ?_)
      refine jl (hsE [0, 1] [] 0 Y Y Y Y) ?_
      exact qu (h28) (sE Y) (fun w hh => hh)
     refine qa Qk (fun g => ∀ (L : VL), vk 1 L (RI.enc [t29]) → g [(1, .func (.func 109) #[] #[ptr rb 0]), (4, ptr b 0), (5, ptr l 0), (19, .slice qa0 na0 ca0), (20, .int .i64 (l0.length : Int)), (21, .int .i64 s.t21), (26, .int .i64 s.out5_lo), (30, sL L), (33, .int .i64 s.out5_hi), (34, .func (.func 109) #[] #[ptr rb 0]), (35, .agg #[.int .i64 t23.after, .int .i64 t23.at_.c0, .int .i64 t23.at_.c1, .int .i64 t23.at_.c2])] [kc b_4 #[.int .i64 t23.after, .int .i64 t23.at_.c0, .int .i64 t23.at_.c1, .int .i64 t23.at_.c2] 159, kc b #[.int .i64 0, .int .i64 0] 50, kc l #[.int .i64 s.out5_lo, .int .i64 s.out5_hi] 50] [vL 3 L (RI.enc [t29])]) ?_ (fun h34 => ?_)
     intro L h33
     refine jD Y ?_
     refine jd [] [] Y Y Y Y Y Y Y call166 (fun w hh => K8 s.out5_lo [t29] (qA L.q) L.n L.cap w (HV.callee (S0 := []) (vs0 := []) hh (roC (hh.vsepA 0 Y h33) roN)) (vlen RI h33 Y) (AOK.q (vne h33)) (h33).hle h25) (fun l_10 h35 => ?_)
     refine jl (hsE [0, 1] [] 0 Y Y Y Y) ?_
     exact qu (h31) (sE Y) (hsE [0, 1, 2] [] 0 Y Y Y Y)
     refine qa Qn (fun g => g [(1, .func (.func 109) #[] #[ptr rb 0]), (4, ptr b 0), (5, ptr l 0), (19, .slice qa0 na0 ca0), (20, .int .i64 (l0.length : Int)), (21, .int .i64 s.t21), (31, .int .i64 t31), (32, ptr l 1), (34, .func (.func 109) #[] #[ptr rb 0]), (35, .agg #[.int .i64 t23.after, .int .i64 t23.at_.c0, .int .i64 t23.at_.c1, .int .i64 t23.at_.c2])] [kc b_4 #[.int .i64 t23.after, .int .i64 t23.at_.c0, .int .i64 t23.at_.c1, .int .i64 t23.at_.c2] 159, kc b #[.int .i64 0, .int .i64 0] 50, kc l #[.int .i64 s.out5_lo, .int .i64 s.out5_hi] 50] []) ?_ (fun h36 => ?_)
     ·refine YE ?_
      refine kE Y ?_ ?_
      ·refine kw 2 isAgg3 Y Y Y Y ?_
       refine jl (hsE [0, 1] [] 0 Y Y Y Y) ?_
       exact qu (h31) (sE Y) (fun w hh => hh)
      refine kE Y ?_ ?_
      refine jd [] [] Y Y Y Y Y Y Y call109 (fun w hh => kZ (⟨t23.after, (⟨t23.at_.c0, t23.at_.c1, t23.at_.c2⟩ : Cells)⟩ : State) of1_c0_cells of1_c0_tides of1_c0_fords of1_c0_sands of1_c0_sights rb qa2 na2 ca2 qa3 na3 ca3 qa4 na4 ca4 w (HV.callee (S0 := []) (vs0 := []) hh (roR hh 1 Y (roR hh 2 Y (roR hh 3 Y (roR hh 4 Y roN))))) hna2 hqa2 hla2 hna3 hqa3 hla3 hna4 hqa4 hla4 h26) (fun l_11 h37 => ?_)
      refine jl (hsE [0, 1] [] 0 Y Y Y Y) ?_
      exact qu (h30) (sE Y) (fun w hh => hh)
      exact J3
     refine qa Kk (fun g => ∀ (L_1 : VL), vk 1 L_1 (RI.enc [t29]) → g [(1, .func (.func 109) #[] #[ptr rb 0]), (4, ptr b 0), (5, ptr l 0), (19, .slice qa0 na0 ca0), (20, .int .i64 (l0.length : Int)), (21, .int .i64 s.t21), (25, ptr l 0), (30, sL L_1), (33, .int .i64 s.out5_hi), (34, .func (.func 109) #[] #[ptr rb 0]), (35, .agg #[.int .i64 t23.after, .int .i64 t23.at_.c0, .int .i64 t23.at_.c1, .int .i64 t23.at_.c2])] [kc b_4 #[.int .i64 t23.after, .int .i64 t23.at_.c0, .int .i64 t23.at_.c1, .int .i64 t23.at_.c2] 159, kc b #[.int .i64 0, .int .i64 0] 50, kc l #[.int .i64 s.out5_lo, .int .i64 s.out5_hi] 50] [vL 3 L_1 (RI.enc [t29])]) ?_ (fun h39 => ?_)
     intro L_1 h38
     refine jD Y (kw 2 isAgg3 Y Y Y Y (jl (hsE [0, 1] [] 0 Y Y Y Y) ?_))
     exact qu (h34 L_1 h38) (sE Y) (fun w hh => hh)
     refine qa J9 (fun g => g [(1, .func (.func 109) #[] #[ptr rb 0]), (4, ptr b 0), (5, ptr l 0), (19, .slice qa0 na0 ca0), (20, .int .i64 (l0.length : Int)), (21, .int .i64 s.t21), (26, .int .i64 s.out5_lo), (29, .int .i64 t29), (33, .int .i64 s.out5_hi), (34, .func (.func 109) #[] #[ptr rb 0]), (35, .agg #[.int .i64 t23.after, .int .i64 t23.at_.c0, .int .i64 t23.at_.c1, .int .i64 t23.at_.c2])] [kc b_4 #[.int .i64 t23.after, .int .i64 t23.at_.c0, .int .i64 t23.at_.c1, .int .i64 t23.at_.c2] 159, kc b #[.int .i64 0, .int .i64 0] 50, kc l #[.int .i64 s.out5_lo, .int .i64 s.out5_hi] 50] []) ?_ (fun h40 => ?_)
     ·refine jD Y ?_
      refine qg RI [t29] (ps := [(0, _)]) (cells := [_]) (fun w => runUnderlying22 w) (fun w => sizeOf3 w) (fun w => zeroValue3 w) Y Y Y Y Y Y Y Y (fun L_2 h41 => ?_)
      refine jl (hsE [0, 1] [] 0 Y Y Y Y) ?_
      exact qu (h34 L_2 h41) (sE Y) (fun w hh => hh)
     refine qa J8 (fun g => ∀ (L_3 : VL), vk 1 L_3 (RI.enc [t29]) → g [(1, .func (.func 109) #[] #[ptr rb 0]), (4, ptr b 0), (5, ptr l 0), (19, .slice qa0 na0 ca0), (20, .int .i64 (l0.length : Int)), (21, .int .i64 s.t21), (26, .int .i64 s.out5_lo), (30, sL L_3), (32, ptr l 1), (34, .func (.func 109) #[] #[ptr rb 0]), (35, .agg #[.int .i64 t23.after, .int .i64 t23.at_.c0, .int .i64 t23.at_.c1, .int .i64 t23.at_.c2])] [kc b_4 #[.int .i64 t23.after, .int .i64 t23.at_.c0, .int .i64 t23.at_.c1, .int .i64 t23.at_.c2] 159, kc b #[.int .i64 0, .int .i64 0] 50, kc l #[.int .i64 s.out5_lo, .int .i64 s.out5_hi] 50] [vL 3 L_3 (RI.enc [t29])]) ?_ (fun h43 => ?_)
     intro L_3 h42
     refine YE ?_
     refine kE Y ?_ ?_
     ·refine jd [] [] Y Y Y Y Y Y Y call166 (fun w hh => K8 s.out5_lo [t29] (qA L_3.q) L_3.n L_3.cap w (HV.callee (S0 := []) (vs0 := []) hh (roC (hh.vsepA 0 Y h42) roN)) (vlen RI h42 Y) (AOK.q (vne h42)) (h42).hle h25) (fun l_12 h44 => ?_)
      refine jl (hsE [0, 1] [] 0 Y Y Y Y) ?_
      exact qu (h36) (sE Y) (hsE [0, 1, 2] [] 0 Y Y Y Y)
     refine kE Y ?_ ?_
     refine kw 2 isAgg3 Y Y Y Y (jl (hsE [0, 1] [] 0 Y Y Y Y) ?_)
     exact qu (h34 L_3 h42) (sE Y) (fun w hh => hh)
     exact J3
     refine qa Kf (fun g => g [(1, .func (.func 109) #[] #[ptr rb 0]), (4, ptr b 0), (5, ptr l 0), (19, .slice qa0 na0 ca0), (20, .int .i64 (l0.length : Int)), (21, .int .i64 s.t21), (25, ptr l 0), (29, .int .i64 t29), (33, .int .i64 s.out5_hi), (34, .func (.func 109) #[] #[ptr rb 0]), (35, .agg #[.int .i64 t23.after, .int .i64 t23.at_.c0, .int .i64 t23.at_.c1, .int .i64 t23.at_.c2])] [kc b_4 #[.int .i64 t23.after, .int .i64 t23.at_.c0, .int .i64 t23.at_.c1, .int .i64 t23.at_.c2] 159, kc b #[.int .i64 0, .int .i64 0] 50, kc l #[.int .i64 s.out5_lo, .int .i64 s.out5_hi] 50] []) ?_ (fun h45 => ?_)
     ·refine YE ?_
      refine kE Y ?_ ?_
      ·refine kw 2 isAgg3 Y Y Y Y ?_
       refine jl (hsE [0, 1] [] 0 Y Y Y Y) ?_
       exact qu (h40) (sE Y) (fun w hh => hh)
      refine kE Y ?_ ?_
      refine qg RI [t29] (ps := [(0, _)]) (cells := [_]) (fun w => runUnderlying22 w) (fun w => sizeOf3 w) (fun w => zeroValue3 w) Y Y Y Y Y Y Y Y (fun L_4 h46 => ?_)
      refine jl (hsE [0, 1] [] 0 Y Y Y Y) ?_
      exact qu (h39 L_4 h46) (sE Y) (fun w hh => hh)
      exact J3
     refine qa Ki (fun g => g [(1, .func (.func 109) #[] #[ptr rb 0]), (4, ptr b 0), (5, ptr l 0), (19, .slice qa0 na0 ca0), (20, .int .i64 (l0.length : Int)), (21, .int .i64 s.t21), (26, .int .i64 s.out5_lo), (27, .func (.func 109) #[] #[ptr rb 0]), (28, .agg #[.int .i64 t23.after, .int .i64 t23.at_.c0, .int .i64 t23.at_.c1, .int .i64 t23.at_.c2]), (33, .int .i64 s.out5_hi), (34, .func (.func 109) #[] #[ptr rb 0]), (35, .agg #[.int .i64 t23.after, .int .i64 t23.at_.c0, .int .i64 t23.at_.c1, .int .i64 t23.at_.c2])] [kc b_4 #[.int .i64 t23.after, .int .i64 t23.at_.c0, .int .i64 t23.at_.c1, .int .i64 t23.at_.c2] 159, kc b #[.int .i64 0, .int .i64 0] 50, kc l #[.int .i64 s.out5_lo, .int .i64 s.out5_hi] 50] []) ?_ (fun h47 => ?_)
     refine jD Y ?_
     refine jd [] [] Y Y Y Y Y Y Y call109 (fun w hh => kZ (⟨t23.after, (⟨t23.at_.c0, t23.at_.c1, t23.at_.c2⟩ : Cells)⟩ : State) of1_c0_cells of1_c0_tides of1_c0_fords of1_c0_sands of1_c0_sights rb qa2 na2 ca2 qa3 na3 ca3 qa4 na4 ca4 w (HV.callee (S0 := []) (vs0 := []) hh (roR hh 1 Y (roR hh 2 Y (roR hh 3 Y (roR hh 4 Y roN))))) hna2 hqa2 hla2 hna3 hqa3 hla3 hna4 hqa4 hla4 h24) (fun l_13 h48 => ?_)
     refine jl (hsE [0, 1] [] 0 Y Y Y Y) ?_
     exact qu (h40) (sE Y) (fun w hh => hh)
     refine qa JN (fun g => g [(1, .func (.func 109) #[] #[ptr rb 0]), (4, ptr b 0), (5, ptr l 0), (19, .slice qa0 na0 ca0), (20, .int .i64 (l0.length : Int)), (21, .int .i64 s.t21), (26, .int .i64 s.out5_lo), (29, .int .i64 t29), (32, ptr l 1), (34, .func (.func 109) #[] #[ptr rb 0]), (35, .agg #[.int .i64 t23.after, .int .i64 t23.at_.c0, .int .i64 t23.at_.c1, .int .i64 t23.at_.c2])] [kc b_4 #[.int .i64 t23.after, .int .i64 t23.at_.c0, .int .i64 t23.at_.c1, .int .i64 t23.at_.c2] 159, kc b #[.int .i64 0, .int .i64 0] 50, kc l #[.int .i64 s.out5_lo, .int .i64 s.out5_hi] 50] []) ?_ (fun h49 => ?_)
     ·refine YE ?_
      refine kE Y ?_ ?_
      ·refine qg RI [t29] (ps := [(0, _)]) (cells := [_]) (fun w => runUnderlying22 w) (fun w => sizeOf3 w) (fun w => zeroValue3 w) Y Y Y Y Y Y Y Y (fun L_5 h50 => ?_)
       refine jl (hsE [0, 1] [] 0 Y Y Y Y) ?_
       exact qu (h43 L_5 h50) (sE Y) (fun w hh => hh)
      refine kE Y ?_ ?_
      refine kw 2 isAgg3 Y Y Y Y (jl (hsE [0, 1] [] 0 Y Y Y Y) ?_)
      exact qu (h40) (sE Y) (fun w hh => hh)
      exact J3
     refine YE ?_
     refine kE Y ?_ ?_
     refine kw 2 isAgg3 Y Y Y Y (jl (hsE [0, 1] [] 0 Y Y Y Y) (YE ?_))
     refine kE Y ?_ ?_
     ·refine jd [] [] Y Y Y Y Y Y Y call109 (fun w hh => kZ (⟨t23.after, (⟨t23.at_.c0, t23.at_.c1, t23.at_.c2⟩ : Cells)⟩ : State) of1_c0_cells of1_c0_tides of1_c0_fords of1_c0_sands of1_c0_sights rb qa2 na2 ca2 qa3 na3 ca3 qa4 na4 ca4 w (HV.callee (S0 := []) (vs0 := []) hh (roR hh 1 Y (roR hh 2 Y (roR hh 3 Y (roR hh 4 Y roN))))) hna2 hqa2 hla2 hna3 hqa3 hla3 hna4 hqa4 hla4 h24) (fun l_14 h51 => ?_)
      refine jl (hsE [0, 1] [] 0 Y Y Y Y) ?_
      exact qu (h49) (sE Y) (fun w hh => hh)
     refine kE Y ?_ ?_
     refine kw 2 isAgg3 Y Y Y Y (jl (hsE [0, 1] [] 0 Y Y Y Y) ?_)
     exact qu (h47) (sE Y) (fun w hh => hh)
     exact J3
     refine kE Y ?_ ?_
     ·refine jd [] [] Y Y Y Y Y Y Y call109 (fun w hh => kZ (⟨t23.after, (⟨t23.at_.c0, t23.at_.c1, t23.at_.c2⟩ : Cells)⟩ : State) of1_c0_cells of1_c0_tides of1_c0_fords of1_c0_sands of1_c0_sights rb qa2 na2 ca2 qa3 na3 ca3 qa4 na4 ca4 w (HV.callee (S0 := []) (vs0 := []) hh (roR hh 1 Y (roR hh 2 Y (roR hh 3 Y (roR hh 4 Y roN))))) hna2 hqa2 hla2 hna3 hqa3 hla3 hna4 hqa4 hla4 h24) (fun l_15 h52 => ?_)
      refine jl (hsE [0, 1] [] 0 Y Y Y Y) (YE ?_)
      refine kE Y ?_ ?_
      ·refine kw 2 isAgg3 Y Y Y Y ?_
       refine jl (hsE [0, 1] [] 0 Y Y Y Y) ?_
       exact qu (h49) (sE Y) (fun w hh => hh)
      refine kE Y ?_ ?_
      refine qg RI [t29] (ps := [(0, _)]) (cells := [_]) (fun w => runUnderlying22 w) (fun w => sizeOf3 w) (fun w => zeroValue3 w) Y Y Y Y Y Y Y Y (fun L_6 h53 => ?_)
      refine jl (hsE [0, 1] [] 0 Y Y Y Y) (YE ?_)
      refine kE Y ?_ ?_
      ·refine kw 2 isAgg3 Y Y Y Y ?_
       refine jl (hsE [0, 1] [] 0 Y Y Y Y) ?_
       exact qu (h43 L_6 h53) (sE Y) (fun w hh => hh)
      refine kE Y ?_ ?_
      refine kw 2 isAgg3 Y Y Y Y (jl (hsE [0, 1] [] 0 Y Y Y Y) ?_)
      exact qu (h39 L_6 h53) (sE Y) (fun w hh => hh)
      exact J3
      refine kE Y ?_ ?_
      ·refine kw 2 isAgg3 Y Y Y Y ?_
       refine jl (hsE [0, 1] [] 0 Y Y Y Y) ?_
       exact qu (h45) (sE Y) (fun w hh => hh)
      exact J3
     refine kE Y ?_ ?_
     refine kw 2 isAgg3 Y Y Y Y (jl (hsE [0, 1] [] 0 Y Y Y Y) (YE ?_))
     refine kE Y ?_ ?_
     ·refine kw 2 isAgg3 Y Y Y Y ?_
      refine jl (hsE [0, 1] [] 0 Y Y Y Y) ?_
      exact qu (h47) (sE Y) (fun w hh => hh)
     refine kE Y ?_ ?_
     refine jd [] [] Y Y Y Y Y Y Y call109 (fun w hh => kZ (⟨t23.after, (⟨t23.at_.c0, t23.at_.c1, t23.at_.c2⟩ : Cells)⟩ : State) of1_c0_cells of1_c0_tides of1_c0_fords of1_c0_sands of1_c0_sights rb qa2 na2 ca2 qa3 na3 ca3 qa4 na4 ca4 w (HV.callee (S0 := []) (vs0 := []) hh (roR hh 1 Y (roR hh 2 Y (roR hh 3 Y (roR hh 4 Y roN))))) hna2 hqa2 hla2 hna3 hqa3 hla3 hna4 hqa4 hla4 h24) (fun l_16 h54 => ?_)
     refine jl (hsE [0, 1] [] 0 Y Y Y Y) ?_
     exact qu (h45) (sE Y) (fun w hh => hh)
     exact J3
     exact J3
    intro l_8 hj
    replace hm := h23
    refine jw (ja (je ?_))
    obtain ⟨t40, h55, hm⟩ := bindO hm
    refine Jv h55 Y Y Y (ji Y Y (jv ?_))
    obtain rfl := sj hm
    refine ja ?_
    exact jz _ () Y (trivial) (sE Y) (hsE [1, 2] [] 0 Y Y Y Y)
   replace hm := ifE h19 hm
   refine jO (jk (jk (jB ?_)))
   obtain rfl := sj hm
   have hbo := h18 _ Y
   subst hbo
   exact jj () (trivial) (sE Y) (fun w hh => hh)
  intro l_6 hj
  replace hm := h17
  refine ja (jr (zO [_, _] 1 isAgg50 sizeOf50 Y Y Y Y (jT (us := #[_, _]) (cs' := [_, _]) (S' := [_, _]) 0 (fun w => sizeOf50 w) Y Y Y Y Y Y Y (jq (jy ?_)))))
  obtain rfl := sj hm
  refine jp Y (fun w hh => (.cell Y (loadVar_agg (vs := [_, _]) (isAgg50 _) (sizeOf50 _) (hh.cells 0 Y Y)) .nil)) (fun w hh => ⟨(), rfl, trivial, hh.se [] [] 5 Y Y Y rfl⟩)
structure KK where
  r0 : Span
  r1 : Int
def KW (c0 : Channel) : Option KK :=
 (qZ c0).bind fun t9 =>
 oc t9 (fun t9a => some (⟨(⟨0, 0⟩ : Span), t9a⟩ : KK)) (fun t9b => (ix t9b.r1 c0.tides).bind fun t20 =>
 (zY t20 c0.cells c0.tides c0.fords c0.sands c0.sights).bind fun t23 =>
 some (⟨t23, 0⟩ : KK))
theorem jah (c0 : Channel) (qa0 : Option Addr) (na0 ca0 : Nat) (qa1 : Option Addr) (na1 ca1 : Nat) (qa2 : Option Addr) (na2 ca2 : Nat) (w : World) (hw : HV w (keys [] []) [] [] [(aB qa0, aO qa0, RI.enc c0.fords), (aB qa1, aO qa1, RSa.enc c0.sands), (aB qa2, aO qa2, RSi.enc c0.sights)] w) (hna0 : c0.fords.length = na0) (hqa0 : AOK na0 qa0) (hla0 : na0 ≤ ca0) (hna1 : c0.sands.length = na1) (hqa1 : AOK na1 qa1) (hla1 : na1 ≤ ca1) (hna2 : c0.sights.length = na2) (hqa2 : AOK na2 qa2) (hla2 : na2 ≤ ca2) {res : KK} (hm : KW c0 = some res) :
    Calls Tryz.prog 38 #[.agg #[.int .i64 c0.cells, .int .i64 c0.tides, .slice qa0 na0 ca0, .slice qa1 na1 ca1, .slice qa2 na2 ca2]] w (fun en w' => ∃ l : Unit, en = .returned (.tuple #[.agg #[.int .i64 res.r0.lo, .int .i64 res.r0.hi], .int .i64 res.r1]) ∧ (True) ∧ HV w (keys [] []) [] [] [] w') := by
  unfold KW at hm
  refine yd func38 Y ntmps38 Y (e := [(0, _)]) Y hw (jr ?_)
  refine jL Y Y (fun b h1 => ?_)
  refine ju (fun w => zeroValue50 w) Y (fun b_1 h2 => ?_)
  refine jo Y Y (qb (zO [_, _, _, _, _] 1 isAgg26 sizeOf26 Y Y Y Y ?_))
  obtain ⟨t9, h3, hm⟩ := bindO hm
  rcases t9 with t9a | t9b
  ·replace hm := ocL hm
   refine jd [] [] Y Y Y Y Y Y Y call95 (fun w hh => qt c0 qa0 na0 ca0 qa1 na1 ca1 qa2 na2 ca2 w (HV.callee (S0 := []) (vs0 := []) hh (roR hh 0 Y (roR hh 1 Y (roR hh 2 Y roN)))) hna0 hqa0 hla0 hna1 hqa1 hla1 hna2 hqa2 hla2 h3) (fun l h4 => ?_)
   have h5 := h4
   refine ji Y Y (Jl Y Y Y (Jl Y Y Y (Jl Y Y Y (jo Y Y (jo Y Y (jo Y Y (jq ?_)))))))
   refine jh (jr (ji Y Y (jc Y Y Y (fun _ _ => ZB h5 Y Y) (jq (KM Y Y (jr (jc Y Y Y (fun _ _ => ks (vs := []) (cells := [_, _]) Y Y) ?_)))))))
   refine ji Y Y (jT (us := #[_, _]) (cs' := [_, _]) (S' := [_, _]) 0 (fun w => sizeOf50 w) Y Y Y Y Y Y Y (jo Y Y (jq (jy (jg ?_)))))
   obtain rfl := sj hm
   refine jp Y (fun w hh => (.cell Y (loadVar_agg (vs := [_, _]) (isAgg50 _) (sizeOf50 _) (hh.cells 0 Y Y)) (.tmp Y .nil))) (fun w hh => ⟨(), rfl, trivial, hh.se [] [] 3 Y Y Y rfl⟩)
  replace hm := ocR hm
  refine jd [] [] Y Y Y Y Y Y Y call95 (fun w hh => qt c0 qa0 na0 ca0 qa1 na1 ca1 qa2 na2 ca2 w (HV.callee (S0 := []) (vs0 := []) hh (roR hh 0 Y (roR hh 1 Y (roR hh 2 Y roN)))) hna0 hqa0 hla0 hna1 hqa1 hla1 hna2 hqa2 hla2 h3) (fun l_1 h6 => ?_)
  obtain ⟨h7, h8, h9⟩ := h6
  refine kO (S' := [_, _, _]) (vs' := [_, _]) [0, 1, 2] [0, 1] 0 Y Y Y Y (ji Y Y (Jl Y Y Y (Jl Y Y Y (Jl Y Y Y (jo Y Y (jo Y Y (jo Y Y ?_)))))))
  refine jq (jh (jr (ji Y Y (jc Y Y Y (fun _ _ => JG Y Y) (jq (KV Y Y (jt ?_)))))))
  refine ja (jr (ji Y Y (qk 1 runUnderlying26 Y sizeOf3 Y Y (kw 2 isAgg3 Y Y Y Y ?_))))
  obtain ⟨t20, h10, hm⟩ := bindO hm
  obtain ⟨L, h11, h12⟩ := (h8).row h10
  refine jc Y Y Y (fun w _ => qR h11 (runUnderlying150 w) (sizeOf155 w) Y Y (vlen RwH h7 Y) (vne h7)) (jc Y Y Y (fun w hh => j5 RwH 0 h11 (isAgg155 w) Y (hh.vseg 0 Y h7) Y (Nat.add_zero _).symm) (jc Y Y Y (fun _ _ => kM (u := #[]) (u' := #[_]) Y Y) ?_))
  obtain ⟨t23, h13, hm⟩ := bindO hm
  refine jd [] [] Y Y Y Y Y Y Y call107 (fun w hh => Zr t20 c0.cells c0.tides c0.fords c0.sands c0.sights (qA L.q) L.n L.cap b qa0 na0 ca0 qa1 na1 ca1 qa2 na2 ca2 w (HV.callee (S0 := []) (vs0 := []) hh (roC (hh.dsepA (S0 := []) (vs0 := []) 0 Y h10 h11 h12) (roC (bsep (hh.bseg 2 Y)) (roR hh 0 Y (roR hh 1 Y (roR hh 2 Y roN)))))) (vlen RSta h12 Y) (AOK.q (vne h12)) (h12).hle hna0 hqa0 hla0 hna1 hqa1 hla1 hna2 hqa2 hla2 h13) (fun l_2 h14 => ?_)
  refine jT (us := #[_, _]) (cs' := [_, _]) (S' := [_, _, _]) 1 (fun w => sizeOf50 w) Y Y Y Y Y Y Y (jo Y Y (jq (jy ?_)))
  obtain rfl := sj hm
  refine jp Y (fun w hh => (.cell Y (loadVar_agg (vs := [_, _]) (isAgg50 _) (sizeOf50 _) (hh.cells 1 Y Y)) (.tmp Y .nil))) (fun w hh => ⟨(), rfl, trivial, hh.se [] [] 3 Y Y Y rfl⟩)
end Go.Proofs.Wb

namespace Go.Proofs.Wb
set_option maxHeartbeats 4000000
set_option maxRecDepth 100000
open Go Go.Fw Go.Gx Go.Sb
open Tryz
set_option linter.unusedVariables false
structure Qt where
  own5 : Channel
  x6 : Channel
def yR : Plan := (.one 1 (.one 3 (.one 6 (.one 7 .done))))
def yQ : Plan := (.br (.alt 3 (.one 4 (.one 6 (.one 7 .done))) (.alt 4 (.one 3 (.one 6 (.one 7 .done))) .nil)))
def Qq : Plan := (.br (.alt 1 yQ (.alt 4 yR .nil)))
def yP : Plan := (.br (.alt 3 (.one 5 (.one 6 (.one 7 .done))) (.alt 5 (.one 3 (.one 6 (.one 7 .done))) .nil)))
def Qr : Plan := (.br (.alt 1 yP (.alt 5 yR .nil)))
def Qs : Plan := (.br (.alt 4 (.one 5 (.one 6 (.one 7 .done))) (.alt 5 (.one 4 (.one 6 (.one 7 .done))) .nil)))
def Qo : Plan := (.br (.alt 3 Qs (.alt 4 yP (.alt 5 yQ .nil))))
structure yS where
  w7 : Int
  u8 : Int
  v9 : Int
structure JD where
  w7 : Int
  v9 : Int
  many10 : Int
structure qN where
  anew13_lo : Int
  anew13_hi : Int
  fates11 : (List Int)
structure Ju where
  shift12_lo : Int
  shift12_hi : Int
structure JB where
  few15 : Int
  want16_after : Int
  want16_cell : Int
  want16_upright : Bool
def ka (t95 : Ji) (o_7 : qN) (s : Int) : Option (Int ⊕ (Unit ⊕ Bool)) :=
 if s < (t95.r0.length : Int) then
 ((ix t95.r0 s).bind fun t165 =>
 (ix o_7.fates11 s).bind fun t170 =>
 if t165 = t170 then
 ((addc s 1).bind fun t173 =>
 some (.inl t173)) else
 (some (.inr (.inr false)))) else
 (some (.inr (.inl ())))
def yv (c0 : Channel) (ford1 : Int) : Option Bool :=
 (zB c0).bind fun t29 =>
 if t29 = true then
 ((y9).bind fun t30 =>
 some t30) else
 (((z2 c0).bind fun t32 =>
 (yH c0).bind fun t34 =>
 some (⟨t32, t34⟩ : Qt)).bind fun o =>
 (yZ o.x6).bind fun t36 =>
 ((if t36 = 0 then
 (if ford1 < 0 then
 (some true) else
 (some (decide ((c0.fords.length : Int) ≤ ford1)))) else
 (some false)).bind fun o_2 =>
 if o_2 = true then
 (some 1) else
 (some t36)).bind fun o_1 =>
 (if t36 = 0 then
 (((jS o.x6).bind fun t56 =>
 (qD o.x6 t56).bind fun t57 =>
 if t57 = 0 then
 (some (⟨7, 7, t57⟩ : JD)) else
 (some (⟨t36, t36, t57⟩ : JD))).bind fun o_4 =>
 ((if o_1 = 0 then
 (some (decide (o_4.many10 = 0))) else
 (some false)).bind fun o_6 =>
 if o_6 = true then
 (some 7) else
 (some o_1)).bind fun o_5 =>
 if o_4.many10 = 1 then
 (some (⟨o_4.w7, o_5, 6⟩ : yS)) else
 (some (⟨o_4.w7, o_5, o_4.v9⟩ : yS))) else
 (some (⟨t36, o_1, t36⟩ : yS))).bind fun o_3 =>
 (if o_3.w7 = 0 then
 ((za o.x6).bind fun t73 =>
 (zE o.x6).bind fun t75 =>
 some (⟨t75.lo, t75.hi, t73⟩ : qN)) else
 (some (⟨0, 0, []⟩ : qN))).bind fun o_7 =>
 (if o_3.u8 = 0 then
 ((y4 o.x6 ford1).bind fun t80 =>
 some (⟨t80.lo, t80.hi⟩ : Ju)) else
 (some (⟨0, 0⟩ : Ju))).bind fun o_8 =>
 (if o_3.v9 = 0 then
 ((zZ o.x6).bind fun t86 =>
 some (⟨t86.r1, c0.tides, t86.r0, true⟩ : JB)) else
 (some (⟨0, 0, 0, false⟩ : JB))).bind fun o_9 =>
 (Jq o.own5).bind fun t95 =>
 (Js o.own5 ford1).bind fun t101 =>
 (KW o.own5).bind fun t106 =>
 (KE o.own5).bind fun t111 =>
 (if t95.r1 = o_3.w7 then
 (if t101.r1 = o_3.u8 then
 (if t106.r1 = o_3.w7 then
 (if t111.r2 = o_3.v9 then
 (if (t95.r0.length : Int) = (o_7.fates11.length : Int) then
 (if t101.r0 = (⟨o_8.shift12_lo, o_8.shift12_hi⟩ : Span) then
 (if t106.r0 = (⟨o_7.anew13_lo, o_7.anew13_hi⟩ : Span) then
 (if t111.r0 = (⟨o_9.want16_after, o_9.want16_cell, o_9.want16_upright⟩ : Sight) then
 (some (!decide (t111.r1 = o_9.few15))) else
 (some true)) else
 (some true)) else
 (some true)) else
 (some true)) else
 (some true)) else
 (some true)) else
 (some true)) else
 (some true)).bind fun o_10 =>
 if o_10 = true then
 (some false) else
 ((iterM FU (ka t95 o_7) 0).bind fun o_11 =>
 oc o_11 (fun j => ((zA o.own5 c0).bind fun t176 =>
 if t176 = true then
 ((y9).bind fun t178 =>
 some t178) else
 (some false)).bind fun o_12 =>
 some o_12) (fun r_1 => some r_1)))
theorem QX (c0 : Channel) (ford1 : Int) (qa0 : Option Addr) (na0 ca0 : Nat) (qa1 : Option Addr) (na1 ca1 : Nat) (qa2 : Option Addr) (na2 ca2 : Nat) (w : World) (hw : HV w (keys [] []) [] [] [(aB qa0, aO qa0, RI.enc c0.fords), (aB qa1, aO qa1, RSa.enc c0.sands), (aB qa2, aO qa2, RSi.enc c0.sights)] w) (hna0 : c0.fords.length = na0) (hqa0 : AOK na0 qa0) (hla0 : na0 ≤ ca0) (hna1 : c0.sands.length = na1) (hqa1 : AOK na1 qa1) (hla1 : na1 ≤ ca1) (hna2 : c0.sights.length = na2) (hqa2 : AOK na2 qa2) (hla2 : na2 ≤ ca2) {res : Bool} (hm : yv c0 ford1 = some res) :
    Calls Tryz.prog 4 #[.agg #[.int .i64 c0.cells, .int .i64 c0.tides, .slice qa0 na0 ca0, .slice qa1 na1 ca1, .slice qa2 na2 ca2], .int .i64 ford1] w (fun en w' => ∃ l : Unit, en = .returned (.bool res) ∧ (True) ∧ HV w (keys [] []) [] [] [] w') := by
  unfold yv at hm
  refine yd func4 Y ntmps4 Y (e := [(0, _), (1, _)]) Y hw (jr ?_)
  refine jL Y Y (fun b h1 => ?_)
  refine jo Y Y (jq (jh (jr (zO [_, _, _, _, _] 0 isAgg26 sizeOf26 Y Y Y Y ?_))))
  obtain ⟨t29, h2, hm⟩ := bindO hm
  refine jd [] [] Y Y Y Y Y Y Y call18 (fun w hh => Zc c0 qa0 na0 ca0 qa1 na1 ca1 qa2 na2 ca2 w (HV.callee (S0 := []) (vs0 := []) hh (roR hh 0 Y (roR hh 1 Y (roR hh 2 Y roN)))) hna0 hqa0 hla0 hna1 hqa1 hla1 hna2 hqa2 hla2 h2) (fun l h3 => ?_)
  refine jq ?_
  refine js Y (fun h4 => ?_) (fun h4 => ?_)
  ·replace hm := ifT (h4) hm
   refine jr ?_
   obtain ⟨t30, h5, hm⟩ := bindO hm
   refine jd [] [] Y Y Y Y Y Y Y call19 (fun w hh => QC  w (HV.callee (S0 := []) (vs0 := []) hh roN)  h5) (fun l_1 h6 => ?_)
   refine jo Y Y (jq (jy (jg ?_)))
   obtain rfl := sj hm
   refine jp Y (fun w hh => (.tmp Y .nil)) (fun w hh => ⟨(), rfl, trivial, hh.se [] [] 3 Y Y Y rfl⟩)
  replace hm := ifN h4 hm
  refine jt (ja (jh ?_))
  obtain ⟨o, h7, h8⟩ := bindO hm
  refine jF (ι := Nat × Nat × VL × VL × VL × VL × VL × VL) (fun l_2 => VOK 1 l_2.2.2.1.n l_2.2.2.1.cap (RI.enc o.own5.fords) l_2.2.2.1.sp l_2.2.2.1.q ∧ VOK 3 l_2.2.2.2.1.n l_2.2.2.2.1.cap (RSa.enc o.own5.sands) l_2.2.2.2.1.sp l_2.2.2.2.1.q ∧ VOK 3 l_2.2.2.2.2.1.n l_2.2.2.2.2.1.cap (RSi.enc o.own5.sights) l_2.2.2.2.2.1.sp l_2.2.2.2.2.1.q ∧ VOK 1 l_2.2.2.2.2.2.1.n l_2.2.2.2.2.2.1.cap (RI.enc o.x6.fords) l_2.2.2.2.2.2.1.sp l_2.2.2.2.2.2.1.q ∧ VOK 3 l_2.2.2.2.2.2.2.1.n l_2.2.2.2.2.2.2.1.cap (RSa.enc o.x6.sands) l_2.2.2.2.2.2.2.1.sp l_2.2.2.2.2.2.2.1.q ∧ VOK 3 l_2.2.2.2.2.2.2.2.n l_2.2.2.2.2.2.2.2.cap (RSi.enc o.x6.sights) l_2.2.2.2.2.2.2.2.sp l_2.2.2.2.2.2.2.2.q) (fun l_2 => [(1, .int .i64 ford1), (2, ptr b 0), (5, ptr l_2.1 0), (6, ptr l_2.2.1 0)]) (fun l_2 => [kc b #[.int .i64 c0.cells, .int .i64 c0.tides, .slice qa0 na0 ca0, .slice qa1 na1 ca1, .slice qa2 na2 ca2] 26, kc l_2.1 #[.int .i64 o.own5.cells, .int .i64 o.own5.tides, sL l_2.2.2.1, sL l_2.2.2.2.1, sL l_2.2.2.2.2.1] 26, kc l_2.2.1 #[.int .i64 o.x6.cells, .int .i64 o.x6.tides, sL l_2.2.2.2.2.2.1, sL l_2.2.2.2.2.2.2.1, sL l_2.2.2.2.2.2.2.2] 33]) (fun l_2 => [vL 3 l_2.2.2.1 (RI.enc o.own5.fords), vL 98 l_2.2.2.2.1 (RSa.enc o.own5.sands), vL 55 l_2.2.2.2.2.1 (RSi.enc o.own5.sights), vL 3 l_2.2.2.2.2.2.1 (RI.enc o.x6.fords), vL 138 l_2.2.2.2.2.2.2.1 (RSa.enc o.x6.sands), vL 139 l_2.2.2.2.2.2.2.2 (RSi.enc o.x6.sights)]) ?_ ?_
  ·replace hm := h7
   obtain ⟨t32, h15, hm⟩ := bindO hm
   obtain ⟨t34, h16, hm⟩ := bindO hm
   refine jX none (.hoist 0 (.hoist 2 (.br (.alt 1 Qo (.alt 4 Qr (.alt 5 Qq .nil)))))) _ Y (by decide +kernel) (fun w k hh => hh.draw k) (fun w hh => hh) ?_
   refine jx Y Y Y Y (fun w hh => jE (vs := [_, _, _, _, _]) (isAgg26 w) (sizeOf26 w) Y (hh.cells 0 Y Y)) (jx Y Y Y Y (fun w hh => jE (vs := [_, _, _, _, _]) (isAgg26 w) (sizeOf26 w) Y (hh.cells 0 Y Y)) ?_)
   refine qa (.one 7 .done) (fun g => ∀ (b_1 : Nat) (b_2 : Nat) (L : VL) (L_1 : VL) (L_2 : VL) (L_3 : VL) (L_4 : VL) (L_5 : VL), vk 1 L (RI.enc t34.fords) → vk 3 L_1 (RSa.enc t34.sands) → vk 3 L_2 (RSi.enc t34.sights) → vk 1 L_3 (RI.enc t32.fords) → vk 3 L_4 (RSa.enc t32.sands) → vk 3 L_5 (RSi.enc t32.sights) → g [(1, .int .i64 ford1), (2, ptr b 0), (5, ptr b_1 0), (6, ptr b_2 0), (34, .agg #[.int .i64 t34.cells, .int .i64 t34.tides, sL L, sL L_1, sL L_2])] [kc b #[.int .i64 c0.cells, .int .i64 c0.tides, .slice qa0 na0 ca0, .slice qa1 na1 ca1, .slice qa2 na2 ca2] 26, kc b_1 #[.int .i64 t32.cells, .int .i64 t32.tides, sL L_3, sL L_4, sL L_5] 26, kc b_2 #[.int .i64 0, .int .i64 0, slv none 0 0, slv none 0 0, slv none 0 0] 33] [vL 3 L (RI.enc t34.fords), vL 138 L_1 (RSa.enc t34.sands), vL 139 L_2 (RSi.enc t34.sights), vL 3 L_3 (RI.enc t32.fords), vL 98 L_4 (RSa.enc t32.sands), vL 55 L_5 (RSi.enc t32.sights)]) ?_ (fun h23 => ?_)
   ·intro b_1 b_2 L L_1 L_2 L_3 L_4 L_5 h17 h18 h19 h20 h21 h22
    refine jD Y (jT (us := #[_, _, _, _, _]) (cs' := [_, _, _, _, _]) (S' := [_, _, _]) 2 (fun w => sizeOf33 w) Y Y Y Y Y Y Y (jl (hsE [0] [] 0 Y Y Y Y) (jJ ?_)))
    obtain rfl := sj hm
    exact jj (b_1, b_2, L_3, L_4, L_5, L, L_1, L_2) (⟨h20, h21, h22, h17, h18, h19⟩) (sE Y) (hsE [0, 1, 2] [3, 4, 5, 0, 1, 2] 0 Y Y Y Y)
   refine qa (.one 6 (.one 7 .done)) (fun g => ∀ (b_3 : Nat) (b_4 : Nat) (L_6 : VL) (L_7 : VL) (L_8 : VL) (L_9 : VL) (L_10 : VL) (L_11 : VL), vk 1 L_6 (RI.enc t32.fords) → vk 3 L_7 (RSa.enc t32.sands) → vk 3 L_8 (RSi.enc t32.sights) → vk 1 L_9 (RI.enc t34.fords) → vk 3 L_10 (RSa.enc t34.sands) → vk 3 L_11 (RSi.enc t34.sights) → g [(1, .int .i64 ford1), (2, ptr b 0), (5, ptr b_3 0), (6, ptr b_4 0), (32, .agg #[.int .i64 t32.cells, .int .i64 t32.tides, sL L_6, sL L_7, sL L_8]), (34, .agg #[.int .i64 t34.cells, .int .i64 t34.tides, sL L_9, sL L_10, sL L_11])] [kc b #[.int .i64 c0.cells, .int .i64 c0.tides, .slice qa0 na0 ca0, .slice qa1 na1 ca1, .slice qa2 na2 ca2] 26, kc b_3 #[.int .i64 0, .int .i64 0, slv none 0 0, slv none 0 0, slv none 0 0] 26, kc b_4 #[.int .i64 0, .int .i64 0, slv none 0 0, slv none 0 0, slv none 0 0] 33] [vL 3 L_6 (RI.enc t32.fords), vL 98 L_7 (RSa.enc t32.sands), vL 55 L_8 (RSi.enc t32.sights), vL 3 L_9 (RI.enc t34.fords), vL 138 L_10 (RSa.enc t34.sands), vL 139 L_11 (RSi.enc t34.sights)]) ?_ (fun h30 => ?_)
   intro b_3 b_4 L_6 L_7 L_8 L_9 L_10 L_11 h24 h25 h26 h27 h28 h29
   refine jD Y (jT (us := #[_, _, _, _, _]) (cs' := [_, _, _, _, _]) (S' := [_, _, _]) 1 (fun w => sizeOf26 w) Y Y Y Y Y Y Y (jl (hsE [0] [] 0 Y Y Y Y) ?_))
   exact qu (h23 b_3 b_4 L_9 L_10 L_11 L_6 L_7 L_8 h27 h28 h29 h24 h25 h26) (sE Y) (hsE [0, 1, 2] [3, 4, 5, 0, 1, 2] 0 Y Y Y Y)
   refine qa (.one 3 (.one 6 (.one 7 .done))) (fun g => ∀ (b_5 : Nat) (b_6 : Nat) (L_12 : VL) (L_13 : VL) (L_14 : VL), vk 1 L_12 (RI.enc t32.fords) → vk 3 L_13 (RSa.enc t32.sands) → vk 3 L_14 (RSi.enc t32.sights) → g [(1, .int .i64 ford1), (2, ptr b 0), (5, ptr b_5 0), (6, ptr b_6 0), (32, .agg #[.int .i64 t32.cells, .int .i64 t32.tides, sL L_12, sL L_13, sL L_14]), (33, .agg #[.int .i64 c0.cells, .int .i64 c0.tides, .slice qa0 na0 ca0, .slice qa1 na1 ca1, .slice qa2 na2 ca2])] [kc b #[.int .i64 c0.cells, .int .i64 c0.tides, .slice qa0 na0 ca0, .slice qa1 na1 ca1, .slice qa2 na2 ca2] 26, kc b_5 #[.int .i64 0, .int .i64 0, slv none 0 0, slv none 0 0, slv none 0 0] 26, kc b_6 #[.int .i64 0, .int .i64 0, slv none 0 0, slv none 0 0, slv none 0 0] 33] [vL 3 L_12 (RI.enc t32.fords), vL 98 L_13 (RSa.enc t32.sands), vL 55 L_14 (RSi.enc t32.sights)]) ?_ (fun h34 => ?_)
   ·intro b_5 b_6 L_12 L_13 L_14 h31 h32 h33
    refine jD Y ?_
    refine jd [] [] Y Y Y Y Y Y Y call21 (fun w hh => zP c0 qa0 na0 ca0 qa1 na1 ca1 qa2 na2 ca2 w (HV.callee (S0 := []) (vs0 := []) hh (roR hh 0 Y (roR hh 1 Y (roR hh 2 Y roN)))) hna0 hqa0 hla0 hna1 hqa1 hla1 hna2 hqa2 hla2 h16) (fun l_3 h35 => ?_)
    obtain ⟨h36, h37, h38⟩ := h35
    refine kO (S' := [_, _, _]) (vs' := [_, _, _, _, _, _]) [0, 1, 2] [0, 1, 2, 3, 4, 5] 0 Y Y Y Y (jl (hsE [0] [] 0 Y Y Y Y) ?_)
    exact qu (h30 b_5 b_6 L_12 L_13 L_14 l_3.1 l_3.2.1 l_3.2.2 h31 h32 h33 h36 h37 h38) (sE Y) (hsE [0, 1, 2] [3, 4, 5, 0, 1, 2] 0 Y Y Y Y)
   refine qa (.one 4 (.one 6 (.one 7 .done))) (fun g => ∀ (b_7 : Nat) (L_15 : VL) (L_16 : VL) (L_17 : VL) (L_18 : VL) (L_19 : VL) (L_20 : VL), vk 1 L_15 (RI.enc t32.fords) → vk 3 L_16 (RSa.enc t32.sands) → vk 3 L_17 (RSi.enc t32.sights) → vk 1 L_18 (RI.enc t34.fords) → vk 3 L_19 (RSa.enc t34.sands) → vk 3 L_20 (RSi.enc t34.sights) → g [(1, .int .i64 ford1), (2, ptr b 0), (6, ptr b_7 0), (32, .agg #[.int .i64 t32.cells, .int .i64 t32.tides, sL L_15, sL L_16, sL L_17]), (34, .agg #[.int .i64 t34.cells, .int .i64 t34.tides, sL L_18, sL L_19, sL L_20])] [kc b #[.int .i64 c0.cells, .int .i64 c0.tides, .slice qa0 na0 ca0, .slice qa1 na1 ca1, .slice qa2 na2 ca2] 26, kc b_7 #[.int .i64 0, .int .i64 0, slv none 0 0, slv none 0 0, slv none 0 0] 33] [vL 3 L_15 (RI.enc t32.fords), vL 98 L_16 (RSa.enc t32.sands), vL 55 L_17 (RSi.enc t32.sights), vL 3 L_18 (RI.enc t34.fords), vL 138 L_19 (RSa.enc t34.sands), vL 139 L_20 (RSi.enc t34.sights)]) ?_ (fun h45 => ?_)
   intro b_7 L_15 L_16 L_17 L_18 L_19 L_20 h39 h40 h41 h42 h43 h44
   refine jD Y ?_
   refine ju (fun w => zeroValue26 w) Y (fun b_8 h46 => ?_)
   refine jl (hsE [1] [] 0 Y Y Y Y) ?_
   exact qu (h30 b_8 b_7 L_15 L_16 L_17 L_18 L_19 L_20 h39 h40 h41 h42 h43 h44) (sE Y) (hsE [1, 0, 2] [0, 1, 2, 3, 4, 5] 0 Y Y Y Y)
   refine qa (.one 5 (.one 6 (.one 7 .done))) (fun g => ∀ (b_9 : Nat) (L_21 : VL) (L_22 : VL) (L_23 : VL) (L_24 : VL) (L_25 : VL) (L_26 : VL), vk 1 L_21 (RI.enc t32.fords) → vk 3 L_22 (RSa.enc t32.sands) → vk 3 L_23 (RSi.enc t32.sights) → vk 1 L_24 (RI.enc t34.fords) → vk 3 L_25 (RSa.enc t34.sands) → vk 3 L_26 (RSi.enc t34.sights) → g [(1, .int .i64 ford1), (2, ptr b 0), (5, ptr b_9 0), (32, .agg #[.int .i64 t32.cells, .int .i64 t32.tides, sL L_21, sL L_22, sL L_23]), (34, .agg #[.int .i64 t34.cells, .int .i64 t34.tides, sL L_24, sL L_25, sL L_26])] [kc b #[.int .i64 c0.cells, .int .i64 c0.tides, .slice qa0 na0 ca0, .slice qa1 na1 ca1, .slice qa2 na2 ca2] 26, kc b_9 #[.int .i64 0, .int .i64 0, slv none 0 0, slv none 0 0, slv none 0 0] 26] [vL 3 L_21 (RI.enc t32.fords), vL 98 L_22 (RSa.enc t32.sands), vL 55 L_23 (RSi.enc t32.sights), vL 3 L_24 (RI.enc t34.fords), vL 138 L_25 (RSa.enc t34.sands), vL 139 L_26 (RSi.enc t34.sights)]) ?_ (fun h53 => ?_)
   ·intro b_9 L_21 L_22 L_23 L_24 L_25 L_26 h47 h48 h49 h50 h51 h52
    refine jD Y ?_
    refine ju (fun w => zeroValue33 w) Y (fun b_10 h54 => ?_)
    refine jl (hsE [1] [] 0 Y Y Y Y) ?_
    exact qu (h30 b_9 b_10 L_21 L_22 L_23 L_24 L_25 L_26 h47 h48 h49 h50 h51 h52) (sE Y) (hsE [1, 2, 0] [0, 1, 2, 3, 4, 5] 0 Y Y Y Y)
   refine qa yR (fun g => ∀ (b_11 : Nat) (b_12 : Nat), g [(1, .int .i64 ford1), (2, ptr b 0), (5, ptr b_11 0), (6, ptr b_12 0), (31, .agg #[.int .i64 c0.cells, .int .i64 c0.tides, .slice qa0 na0 ca0, .slice qa1 na1 ca1, .slice qa2 na2 ca2]), (33, .agg #[.int .i64 c0.cells, .int .i64 c0.tides, .slice qa0 na0 ca0, .slice qa1 na1 ca1, .slice qa2 na2 ca2])] [kc b #[.int .i64 c0.cells, .int .i64 c0.tides, .slice qa0 na0 ca0, .slice qa1 na1 ca1, .slice qa2 na2 ca2] 26, kc b_11 #[.int .i64 0, .int .i64 0, slv none 0 0, slv none 0 0, slv none 0 0] 26, kc b_12 #[.int .i64 0, .int .i64 0, slv none 0 0, slv none 0 0, slv none 0 0] 33] []) ?_ (fun h55 => ?_)
   intro b_11 b_12
   refine jD Y ?_
   refine jd [] [] Y Y Y Y Y Y Y call20 (fun w hh => JU c0 qa0 na0 ca0 qa1 na1 ca1 qa2 na2 ca2 w (HV.callee (S0 := []) (vs0 := []) hh (roR hh 0 Y (roR hh 1 Y (roR hh 2 Y roN)))) hna0 hqa0 hla0 hna1 hqa1 hla1 hna2 hqa2 hla2 h15) (fun l_4 h56 => ?_)
   obtain ⟨h57, h58, h59⟩ := h56
   refine kO (S' := [_, _, _]) (vs' := [_, _, _]) [0, 1, 2] [0, 1, 2] 0 Y Y Y Y (jl (hsE [0] [] 0 Y Y Y Y) ?_)
   exact qu (h34 b_11 b_12 l_4.1 l_4.2.1 l_4.2.2 h57 h58 h59) (sE Y) (fun w hh => hh)
   refine qa yQ (fun g => ∀ (b_13 : Nat) (L_27 : VL) (L_28 : VL) (L_29 : VL), vk 1 L_27 (RI.enc t32.fords) → vk 3 L_28 (RSa.enc t32.sands) → vk 3 L_29 (RSi.enc t32.sights) → g [(1, .int .i64 ford1), (2, ptr b 0), (6, ptr b_13 0), (32, .agg #[.int .i64 t32.cells, .int .i64 t32.tides, sL L_27, sL L_28, sL L_29]), (33, .agg #[.int .i64 c0.cells, .int .i64 c0.tides, .slice qa0 na0 ca0, .slice qa1 na1 ca1, .slice qa2 na2 ca2])] [kc b #[.int .i64 c0.cells, .int .i64 c0.tides, .slice qa0 na0 ca0, .slice qa1 na1 ca1, .slice qa2 na2 ca2] 26, kc b_13 #[.int .i64 0, .int .i64 0, slv none 0 0, slv none 0 0, slv none 0 0] 33] [vL 3 L_27 (RI.enc t32.fords), vL 98 L_28 (RSa.enc t32.sands), vL 55 L_29 (RSi.enc t32.sights)]) ?_ (fun h63 => ?_)
   ·intro b_13 L_27 L_28 L_29 h60 h61 h62
    refine YE ?_
    refine kE Y ?_ ?_
    ·refine jd [] [] Y Y Y Y Y Y Y call21 (fun w hh => zP c0 qa0 na0 ca0 qa1 na1 ca1 qa2 na2 ca2 w (HV.callee (S0 := []) (vs0 := []) hh (roR hh 0 Y (roR hh 1 Y (roR hh 2 Y roN)))) hna0 hqa0 hla0 hna1 hqa1 hla1 hna2 hqa2 hla2 h16) (fun l_5 h64 => ?_)
     obtain ⟨h65, h66, h67⟩ := h64
     refine kO (S' := [_, _]) (vs' := [_, _, _, _, _, _]) [0, 1] [0, 1, 2, 3, 4, 5] 0 Y Y Y Y (jl (hsE [0] [] 0 Y Y Y Y) ?_)
     exact qu (h45 b_13 L_27 L_28 L_29 l_5.1 l_5.2.1 l_5.2.2 h60 h61 h62 h65 h66 h67) (sE Y) (hsE [0, 1] [3, 4, 5, 0, 1, 2] 0 Y Y Y Y)
    refine kE Y ?_ ?_
    refine ju (fun w => zeroValue26 w) Y (fun b_14 h68 => ?_)
    refine jl (hsE [1] [] 0 Y Y Y Y) ?_
    exact qu (h34 b_14 b_13 L_27 L_28 L_29 h60 h61 h62) (sE Y) (hsE [1, 0, 2] [0, 1, 2] 0 Y Y Y Y)
    exact J3
   refine qa yP (fun g => ∀ (b_15 : Nat) (L_30 : VL) (L_31 : VL) (L_32 : VL), vk 1 L_30 (RI.enc t32.fords) → vk 3 L_31 (RSa.enc t32.sands) → vk 3 L_32 (RSi.enc t32.sights) → g [(1, .int .i64 ford1), (2, ptr b 0), (5, ptr b_15 0), (32, .agg #[.int .i64 t32.cells, .int .i64 t32.tides, sL L_30, sL L_31, sL L_32]), (33, .agg #[.int .i64 c0.cells, .int .i64 c0.tides, .slice qa0 na0 ca0, .slice qa1 na1 ca1, .slice qa2 na2 ca2])] [kc b #[.int .i64 c0.cells, .int .i64 c0.tides, .slice qa0 na0 ca0, .slice qa1 na1 ca1, .slice qa2 na2 ca2] 26, kc b_15 #[.int .i64 0, .int .i64 0, slv none 0 0, slv none 0 0, slv none 0 0] 26] [vL 3 L_30 (RI.enc t32.fords), vL 98 L_31 (RSa.enc t32.sands), vL 55 L_32 (RSi.enc t32.sights)]) ?_ (fun h72 => ?_)
   intro b_15 L_30 L_31 L_32 h69 h70 h71
   refine YE ?_
   refine kE Y ?_ ?_
   ·refine jd [] [] Y Y Y Y Y Y Y call21 (fun w hh => zP c0 qa0 na0 ca0 qa1 na1 ca1 qa2 na2 ca2 w (HV.callee (S0 := []) (vs0 := []) hh (roR hh 0 Y (roR hh 1 Y (roR hh 2 Y roN)))) hna0 hqa0 hla0 hna1 hqa1 hla1 hna2 hqa2 hla2 h16) (fun l_6 h73 => ?_)
    obtain ⟨h74, h75, h76⟩ := h73
    refine kO (S' := [_, _]) (vs' := [_, _, _, _, _, _]) [0, 1] [0, 1, 2, 3, 4, 5] 0 Y Y Y Y (jl (hsE [0] [] 0 Y Y Y Y) ?_)
    exact qu (h53 b_15 L_30 L_31 L_32 l_6.1 l_6.2.1 l_6.2.2 h69 h70 h71 h74 h75 h76) (sE Y) (hsE [0, 1] [3, 4, 5, 0, 1, 2] 0 Y Y Y Y)
   refine kE Y ?_ ?_
   refine ju (fun w => zeroValue33 w) Y (fun b_16 h77 => ?_)
   refine jl (hsE [1] [] 0 Y Y Y Y) ?_
   exact qu (h34 b_15 b_16 L_30 L_31 L_32 h69 h70 h71) (sE Y) (hsE [1, 2, 0] [0, 1, 2] 0 Y Y Y Y)
   exact J3
   refine YE ?_
   refine kE Y ?_ ?_
   ·refine jd [] [] Y Y Y Y Y Y Y call20 (fun w hh => JU c0 qa0 na0 ca0 qa1 na1 ca1 qa2 na2 ca2 w (HV.callee (S0 := []) (vs0 := []) hh (roR hh 0 Y (roR hh 1 Y (roR hh 2 Y roN)))) hna0 hqa0 hla0 hna1 hqa1 hla1 hna2 hqa2 hla2 h15) (fun l_7 h78 => ?_)
    obtain ⟨h79, h80, h81⟩ := h78
    refine kO (S' := [_]) (vs' := [_, _, _]) [0] [0, 1, 2] 0 Y Y Y Y (jl (hsE [0] [] 0 Y Y Y Y) (YE ?_))
    refine kE Y ?_ ?_
    ·refine jd [] [] Y Y Y Y Y Y Y call21 (fun w hh => zP c0 qa0 na0 ca0 qa1 na1 ca1 qa2 na2 ca2 w (HV.callee (S0 := []) (vs0 := []) hh (roR hh 0 Y (roR hh 1 Y (roR hh 2 Y roN)))) hna0 hqa0 hla0 hna1 hqa1 hla1 hna2 hqa2 hla2 h16) (fun l_8 h82 => ?_)
     obtain ⟨h83, h84, h85⟩ := h82
     refine kO (S' := [_]) (vs' := [_, _, _, _, _, _]) [0] [0, 1, 2, 3, 4, 5] 0 Y Y Y Y (jl (hsE [0] [] 0 Y Y Y Y) (YE ?_))
     refine kE Y ?_ ?_
     ·refine ju (fun w => zeroValue26 w) Y (fun b_17 h86 => ?_)
      refine jl (hsE [1] [] 0 Y Y Y Y) ?_
      exact qu (h53 b_17 l_7.1 l_7.2.1 l_7.2.2 l_8.1 l_8.2.1 l_8.2.2 h79 h80 h81 h83 h84 h85) (sE Y) (hsE [1, 0] [3, 4, 5, 0, 1, 2] 0 Y Y Y Y)
     refine kE Y ?_ ?_
     refine ju (fun w => zeroValue33 w) Y (fun b_18 h87 => ?_)
     refine jl (hsE [1] [] 0 Y Y Y Y) ?_
     exact qu (h45 b_18 l_7.1 l_7.2.1 l_7.2.2 l_8.1 l_8.2.1 l_8.2.2 h79 h80 h81 h83 h84 h85) (sE Y) (hsE [1, 0] [3, 4, 5, 0, 1, 2] 0 Y Y Y Y)
     exact J3
    refine kE Y ?_ ?_
    refine ju (fun w => zeroValue26 w) Y (fun b_19 h88 => ?_)
    refine jl (hsE [1] [] 0 Y Y Y Y) ?_
    exact qu (h72 b_19 l_7.1 l_7.2.1 l_7.2.2 h79 h80 h81) (sE Y) (hsE [1, 0] [0, 1, 2] 0 Y Y Y Y)
    refine kE Y ?_ ?_
    ·refine ju (fun w => zeroValue33 w) Y (fun b_20 h89 => ?_)
     refine jl (hsE [1] [] 0 Y Y Y Y) ?_
     exact qu (h63 b_20 l_7.1 l_7.2.1 l_7.2.2 h79 h80 h81) (sE Y) (hsE [1, 0] [0, 1, 2] 0 Y Y Y Y)
    exact J3
   refine kE Y ?_ ?_
   refine ju (fun w => zeroValue26 w) Y (fun b_21 h90 => ?_)
   refine jl (hsE [1] [] 0 Y Y Y Y) (YE ?_)
   refine kE Y ?_ ?_
   ·refine jd [] [] Y Y Y Y Y Y Y call20 (fun w hh => JU c0 qa0 na0 ca0 qa1 na1 ca1 qa2 na2 ca2 w (HV.callee (S0 := []) (vs0 := []) hh (roR hh 0 Y (roR hh 1 Y (roR hh 2 Y roN)))) hna0 hqa0 hla0 hna1 hqa1 hla1 hna2 hqa2 hla2 h15) (fun l_9 h91 => ?_)
    obtain ⟨h92, h93, h94⟩ := h91
    refine kO (S' := [_, _]) (vs' := [_, _, _]) [0, 1] [0, 1, 2] 0 Y Y Y Y (jl (hsE [1] [] 0 Y Y Y Y) ?_)
    exact qu (h72 b_21 l_9.1 l_9.2.1 l_9.2.2 h92 h93 h94) (sE Y) (hsE [1, 0] [0, 1, 2] 0 Y Y Y Y)
   refine kE Y ?_ ?_
   refine ju (fun w => zeroValue33 w) Y (fun b_22 h95 => ?_)
   refine jl (hsE [2] [] 0 Y Y Y Y) ?_
   exact qu (h55 b_21 b_22) (sE Y) (hsE [2, 1, 0] [] 0 Y Y Y Y)
   exact J3
   refine kE Y ?_ ?_
   ·refine ju (fun w => zeroValue33 w) Y (fun b_23 h96 => ?_)
    refine jl (hsE [1] [] 0 Y Y Y Y) (YE ?_)
    refine kE Y ?_ ?_
    ·refine jd [] [] Y Y Y Y Y Y Y call20 (fun w hh => JU c0 qa0 na0 ca0 qa1 na1 ca1 qa2 na2 ca2 w (HV.callee (S0 := []) (vs0 := []) hh (roR hh 0 Y (roR hh 1 Y (roR hh 2 Y roN)))) hna0 hqa0 hla0 hna1 hqa1 hla1 hna2 hqa2 hla2 h15) (fun l_10 h97 => ?_)
     obtain ⟨h98, h99, h100⟩ := h97
     refine kO (S' := [_, _]) (vs' := [_, _, _]) [0, 1] [0, 1, 2] 0 Y Y Y Y (jl (hsE [1] [] 0 Y Y Y Y) ?_)
     exact qu (h63 b_23 l_10.1 l_10.2.1 l_10.2.2 h98 h99 h100) (sE Y) (hsE [1, 0] [0, 1, 2] 0 Y Y Y Y)
    refine kE Y ?_ ?_
    refine ju (fun w => zeroValue26 w) Y (fun b_24 h101 => ?_)
    refine jl (hsE [2] [] 0 Y Y Y Y) ?_
    exact qu (h55 b_24 b_23) (sE Y) (hsE [2, 0, 1] [] 0 Y Y Y Y)
    exact J3
   exact J3
  intro l_2 hj
  obtain ⟨h9, h10, h11, h12, h13, h14⟩ := hj
  replace hm := h8
  refine ja (jr (zO [_, _, _, _, _] 2 isAgg33 sizeOf33 Y Y Y Y ?_))
  obtain ⟨t36, h102, hm⟩ := bindO hm
  refine jd [] [] Y Y Y Y Y Y Y call22 (fun w hh => Y6 o.x6 (qA l_2.2.2.2.2.2.1.q) l_2.2.2.2.2.2.1.n l_2.2.2.2.2.2.1.cap (qA l_2.2.2.2.2.2.2.1.q) l_2.2.2.2.2.2.2.1.n l_2.2.2.2.2.2.2.1.cap (qA l_2.2.2.2.2.2.2.2.q) l_2.2.2.2.2.2.2.2.n l_2.2.2.2.2.2.2.2.cap w (HV.callee (S0 := []) (vs0 := []) hh (roC (hh.vsepA 3 Y h12) (roC (hh.vsepA 4 Y h13) (roC (hh.vsepA 5 Y h14) roN)))) (vlen RI h12 Y) (AOK.q (vne h12)) (h12).hle (vlen RSa h13 Y) (AOK.q (vne h13)) (h13).hle (vlen RSi h14 Y) (AOK.q (vne h14)) (h14).hle h102) (fun l_11 h103 => ?_)
  refine jo Y Y (qb (ji Y Y (ji Y Y (jo Y Y (jo Y Y (jq (jh ?_)))))))
  obtain ⟨o_1, h104, h105⟩ := bindO hm
  refine jF (ι := Unit) (fun l_12 => True) (fun l_12 => [(1, .int .i64 ford1), (2, ptr b 0), (5, ptr l_2.1 0), (6, ptr l_2.2.1 0), (7, .int .i64 t36), (8, .int .i64 o_1), (9, .int .i64 t36)]) (fun l_12 => [kc b #[.int .i64 c0.cells, .int .i64 c0.tides, .slice qa0 na0 ca0, .slice qa1 na1 ca1, .slice qa2 na2 ca2] 26, kc l_2.1 #[.int .i64 o.own5.cells, .int .i64 o.own5.tides, sL l_2.2.2.1, sL l_2.2.2.2.1, sL l_2.2.2.2.2.1] 26, kc l_2.2.1 #[.int .i64 o.x6.cells, .int .i64 o.x6.tides, sL l_2.2.2.2.2.2.1, sL l_2.2.2.2.2.2.2.1, sL l_2.2.2.2.2.2.2.2] 33]) (fun l_12 => [vL 3 l_2.2.2.1 (RI.enc o.own5.fords), vL 98 l_2.2.2.2.1 (RSa.enc o.own5.sands), vL 55 l_2.2.2.2.2.1 (RSi.enc o.own5.sights), vL 3 l_2.2.2.2.2.2.1 (RI.enc o.x6.fords), vL 138 l_2.2.2.2.2.2.2.1 (RSa.enc o.x6.sands), vL 139 l_2.2.2.2.2.2.2.2 (RSi.enc o.x6.sights)]) ?_ ?_
  ·replace hm := h104
   refine jh ?_
   obtain ⟨o_2, h106, h107⟩ := bindO hm
   refine jF (ι := Unit) (fun l_13 => True) (fun l_13 => [(1, .int .i64 ford1), (2, ptr b 0), (5, ptr l_2.1 0), (6, ptr l_2.2.1 0), (7, .int .i64 t36), (8, .int .i64 t36), (9, .int .i64 t36), (51, .bool o_2)]) (fun l_13 => [kc b #[.int .i64 c0.cells, .int .i64 c0.tides, .slice qa0 na0 ca0, .slice qa1 na1 ca1, .slice qa2 na2 ca2] 26, kc l_2.1 #[.int .i64 o.own5.cells, .int .i64 o.own5.tides, sL l_2.2.2.1, sL l_2.2.2.2.1, sL l_2.2.2.2.2.1] 26, kc l_2.2.1 #[.int .i64 o.x6.cells, .int .i64 o.x6.tides, sL l_2.2.2.2.2.2.1, sL l_2.2.2.2.2.2.2.1, sL l_2.2.2.2.2.2.2.2] 33]) (fun l_13 => [vL 3 l_2.2.2.1 (RI.enc o.own5.fords), vL 98 l_2.2.2.2.1 (RSa.enc o.own5.sands), vL 55 l_2.2.2.2.2.1 (RSi.enc o.own5.sights), vL 3 l_2.2.2.2.2.2.1 (RI.enc o.x6.fords), vL 138 l_2.2.2.2.2.2.2.1 (RSa.enc o.x6.sands), vL 139 l_2.2.2.2.2.2.2.2 (RSi.enc o.x6.sights)]) ?_ ?_
   ·replace hm := h106
    refine je (ji Y Y (jc Y Y Y (fun _ _ => zN Y Y) (ji Y Y ?_)))
    refine jP 41 Y (fun h108 => ?_) (fun h108 => ?_)
    ·replace hm := ifD h108 hm
     refine jb Y Y (ji Y Y (jb Y Y (JK Y Y Y (jb Y Y (ji Y Y ?_)))))
     refine jP 44 Y (fun h109 => ?_) (fun h109 => ?_)
     ·replace hm := ifD h109 hm
      refine g_k Y Y Y Y (g_k Y Y Y Y (g_k Y Y Y Y (g_k Y Y Y Y (g_k Y Y Y Y (jb Y Y (qI Y Y Y (qI Y Y Y ?_)))))))
      refine jv ?_
      obtain rfl := sj hm
      exact jj () (trivial) (sE Y) (fun w hh => hh)
     replace hm := ifE h109 hm
     refine jb Y Y (ji Y Y (jb Y Y (qk 2 runUnderlying26 Y sizeOf22 Y Y (jb Y Y (kw 0 isAgg22 Y Y Y Y (jb Y Y (jc Y Y Y (fun w _ => jQ hna0 (runUnderlying22 w) Y) ?_)))))))
     refine jb Y Y (jc Y Y Y (fun _ _ => Zt Y Y) (jb Y Y (yU Y Y Y (qI Y Y Y (jv ?_)))))
     obtain rfl := sj hm
     exact jj () (trivial) (sE Y) (fun w hh => hh)
    replace hm := ifE h108 hm
    refine g_k Y Y Y Y (g_k Y Y Y Y (g_k Y Y Y Y ?_))
    refine yu Y Y Y Y Y ?_
    refine yu Y Y Y Y Y ?_
    refine yu Y Y Y Y Y ?_
    refine yu Y Y Y Y Y ?_
    refine yu Y Y Y Y Y ?_
    refine g_k Y Y Y Y (yU Y Y Y (jv ?_))
    obtain rfl := sj hm
    exact jj () (trivial) (sE Y) (fun w hh => hh)
   intro l_13 hj
   replace hm := h107
   refine ja ?_
   refine js Y (fun h110 => ?_) (fun h110 => ?_)
   ·replace hm := ifT (h110) hm
    refine je (jo Y Y (jv ?_))
    obtain rfl := sj hm
    exact jj () (trivial) (sE Y) (fun w hh => hh)
   replace hm := ifN h110 hm
   refine jt ?_
   obtain rfl := sj hm
   exact jj () (trivial) (sE Y) (fun w hh => hh)
  intro l_12 hj
  replace hm := h105
  refine ja (jr (jo Y Y (jq (jh ?_))))
  obtain ⟨o_3, h111, h112⟩ := bindO hm
  refine jF (ι := Unit) (fun l_14 => True) (fun l_14 => [(1, .int .i64 ford1), (2, ptr b 0), (5, ptr l_2.1 0), (6, ptr l_2.2.1 0), (7, .int .i64 o_3.w7), (8, .int .i64 o_3.u8), (9, .int .i64 o_3.v9)]) (fun l_14 => [kc b #[.int .i64 c0.cells, .int .i64 c0.tides, .slice qa0 na0 ca0, .slice qa1 na1 ca1, .slice qa2 na2 ca2] 26, kc l_2.1 #[.int .i64 o.own5.cells, .int .i64 o.own5.tides, sL l_2.2.2.1, sL l_2.2.2.2.1, sL l_2.2.2.2.2.1] 26, kc l_2.2.1 #[.int .i64 o.x6.cells, .int .i64 o.x6.tides, sL l_2.2.2.2.2.2.1, sL l_2.2.2.2.2.2.2.1, sL l_2.2.2.2.2.2.2.2] 33]) (fun l_14 => [vL 3 l_2.2.2.1 (RI.enc o.own5.fords), vL 98 l_2.2.2.2.1 (RSa.enc o.own5.sands), vL 55 l_2.2.2.2.2.1 (RSi.enc o.own5.sights), vL 3 l_2.2.2.2.2.2.1 (RI.enc o.x6.fords), vL 138 l_2.2.2.2.2.2.2.1 (RSa.enc o.x6.sands), vL 139 l_2.2.2.2.2.2.2.2 (RSi.enc o.x6.sights)]) ?_ ?_
  ·replace hm := h111
   refine jr (ji Y Y (jc Y Y Y (fun _ _ => zN Y Y) (jq ?_)))
   refine js Y (fun h113 => ?_) (fun h113 => ?_)
   ·replace hm := ifD h113 hm
    refine jh ?_
    obtain ⟨o_4, h114, h115⟩ := bindO hm
    refine jF (ι := Unit) (fun l_15 => True) (fun l_15 => [(1, .int .i64 ford1), (2, ptr b 0), (5, ptr l_2.1 0), (6, ptr l_2.2.1 0), (7, .int .i64 o_4.w7), (8, .int .i64 o_1), (9, .int .i64 o_4.v9), (10, .int .i64 o_4.many10)]) (fun l_15 => [kc b #[.int .i64 c0.cells, .int .i64 c0.tides, .slice qa0 na0 ca0, .slice qa1 na1 ca1, .slice qa2 na2 ca2] 26, kc l_2.1 #[.int .i64 o.own5.cells, .int .i64 o.own5.tides, sL l_2.2.2.1, sL l_2.2.2.2.1, sL l_2.2.2.2.2.1] 26, kc l_2.2.1 #[.int .i64 o.x6.cells, .int .i64 o.x6.tides, sL l_2.2.2.2.2.2.1, sL l_2.2.2.2.2.2.2.1, sL l_2.2.2.2.2.2.2.2] 33]) (fun l_15 => [vL 3 l_2.2.2.1 (RI.enc o.own5.fords), vL 98 l_2.2.2.2.1 (RSa.enc o.own5.sands), vL 55 l_2.2.2.2.2.1 (RSi.enc o.own5.sights), vL 3 l_2.2.2.2.2.2.1 (RI.enc o.x6.fords), vL 138 l_2.2.2.2.2.2.2.1 (RSa.enc o.x6.sands), vL 139 l_2.2.2.2.2.2.2.2 (RSi.enc o.x6.sights)]) ?_ ?_
    ·replace hm := h114
     refine jh (jX none (.hoist 0 (.hoist 1 (.one 2 (.one 3 (.free 4 .done))))) _ Y (by decide +kernel) (fun w k hh => hh.draw k) (fun w hh => hh) (jx Y Y Y Y (fun w hh => jE (vs := [_, _, _, _, _]) (isAgg33 w) (sizeOf33 w) Y (hh.cells 2 Y Y)) (jx Y Y Y Y (fun w hh => jE (vs := [_, _, _, _, _]) (isAgg33 w) (sizeOf33 w) Y (hh.cells 2 Y Y)) (jD Y ?_))))
     obtain ⟨t56, h116, hm⟩ := bindO hm
     refine jd [] [] Y Y Y Y Y Y Y call24 (fun w hh => yE o.x6 (qA l_2.2.2.2.2.2.1.q) l_2.2.2.2.2.2.1.n l_2.2.2.2.2.2.1.cap (qA l_2.2.2.2.2.2.2.1.q) l_2.2.2.2.2.2.2.1.n l_2.2.2.2.2.2.2.1.cap (qA l_2.2.2.2.2.2.2.2.q) l_2.2.2.2.2.2.2.2.n l_2.2.2.2.2.2.2.2.cap w (HV.callee (S0 := []) (vs0 := []) hh (roC (hh.vsepA 3 Y h12) (roC (hh.vsepA 4 Y h13) (roC (hh.vsepA 5 Y h14) roN)))) (vlen RI h12 Y) (AOK.q (vne h12)) (h12).hle (vlen RSa h13 Y) (AOK.q (vne h13)) (h13).hle (vlen RSi h14 Y) (AOK.q (vne h14)) (h14).hle h116) (fun l_16 h117 => ?_)
     refine jl (fun w hh => hh) (jD Y ?_)
     obtain ⟨t57, h118, hm⟩ := bindO hm
     refine jd [] [] Y Y Y Y Y Y Y call23 (fun w hh => Qv o.x6 t56 (qA l_2.2.2.2.2.2.1.q) l_2.2.2.2.2.2.1.n l_2.2.2.2.2.2.1.cap (qA l_2.2.2.2.2.2.2.1.q) l_2.2.2.2.2.2.2.1.n l_2.2.2.2.2.2.2.1.cap (qA l_2.2.2.2.2.2.2.2.q) l_2.2.2.2.2.2.2.2.n l_2.2.2.2.2.2.2.2.cap w (HV.callee (S0 := []) (vs0 := []) hh (roC (hh.vsepA 3 Y h12) (roC (hh.vsepA 4 Y h13) (roC (hh.vsepA 5 Y h14) roN)))) (vlen RI h12 Y) (AOK.q (vne h12)) (h12).hle (vlen RSa h13 Y) (AOK.q (vne h13)) (h13).hle (vlen RSi h14 Y) (AOK.q (vne h14)) (h14).hle h118) (fun l_17 h119 => ?_)
     refine jl (fun w hh => hh) (jn Y Y Y Y (fun _ _ => ku Y) (jJ (ja (jr (ji Y Y (jc Y Y Y (fun _ _ => zN Y Y) (jq ?_)))))))
     refine js Y (fun h120 => ?_) (fun h120 => ?_)
     ·replace hm := ifD h120 hm
      refine je (jo Y Y (jo Y Y (jv ?_)))
      obtain rfl := sj hm
      exact jj () (trivial) (sE Y) (fun w hh => hh)
     replace hm := ifE h120 hm
     refine jt ?_
     obtain rfl := sj hm
     exact jj () (trivial) (sE Y) (fun w hh => hh)
    intro l_15 hj
    replace hm := h115
    refine ja (jh ?_)
    obtain ⟨o_5, h121, h122⟩ := bindO hm
    refine jF (ι := Unit) (fun l_18 => True) (fun l_18 => [(1, .int .i64 ford1), (2, ptr b 0), (5, ptr l_2.1 0), (6, ptr l_2.2.1 0), (7, .int .i64 o_4.w7), (8, .int .i64 o_5), (9, .int .i64 o_4.v9), (10, .int .i64 o_4.many10)]) (fun l_18 => [kc b #[.int .i64 c0.cells, .int .i64 c0.tides, .slice qa0 na0 ca0, .slice qa1 na1 ca1, .slice qa2 na2 ca2] 26, kc l_2.1 #[.int .i64 o.own5.cells, .int .i64 o.own5.tides, sL l_2.2.2.1, sL l_2.2.2.2.1, sL l_2.2.2.2.2.1] 26, kc l_2.2.1 #[.int .i64 o.x6.cells, .int .i64 o.x6.tides, sL l_2.2.2.2.2.2.1, sL l_2.2.2.2.2.2.2.1, sL l_2.2.2.2.2.2.2.2] 33]) (fun l_18 => [vL 3 l_2.2.2.1 (RI.enc o.own5.fords), vL 98 l_2.2.2.2.1 (RSa.enc o.own5.sands), vL 55 l_2.2.2.2.2.1 (RSi.enc o.own5.sights), vL 3 l_2.2.2.2.2.2.1 (RI.enc o.x6.fords), vL 138 l_2.2.2.2.2.2.2.1 (RSa.enc o.x6.sands), vL 139 l_2.2.2.2.2.2.2.2 (RSi.enc o.x6.sights)]) ?_ ?_
    ·replace hm := h121
     refine jh ?_
     obtain ⟨o_6, h123, h124⟩ := bindO hm
     refine jF (ι := Unit) (fun l_19 => True) (fun l_19 => [(1, .int .i64 ford1), (2, ptr b 0), (5, ptr l_2.1 0), (6, ptr l_2.2.1 0), (7, .int .i64 o_4.w7), (8, .int .i64 o_1), (9, .int .i64 o_4.v9), (10, .int .i64 o_4.many10), (65, .bool o_6)]) (fun l_19 => [kc b #[.int .i64 c0.cells, .int .i64 c0.tides, .slice qa0 na0 ca0, .slice qa1 na1 ca1, .slice qa2 na2 ca2] 26, kc l_2.1 #[.int .i64 o.own5.cells, .int .i64 o.own5.tides, sL l_2.2.2.1, sL l_2.2.2.2.1, sL l_2.2.2.2.2.1] 26, kc l_2.2.1 #[.int .i64 o.x6.cells, .int .i64 o.x6.tides, sL l_2.2.2.2.2.2.1, sL l_2.2.2.2.2.2.2.1, sL l_2.2.2.2.2.2.2.2] 33]) (fun l_19 => [vL 3 l_2.2.2.1 (RI.enc o.own5.fords), vL 98 l_2.2.2.2.1 (RSa.enc o.own5.sands), vL 55 l_2.2.2.2.2.1 (RSi.enc o.own5.sights), vL 3 l_2.2.2.2.2.2.1 (RI.enc o.x6.fords), vL 138 l_2.2.2.2.2.2.2.1 (RSa.enc o.x6.sands), vL 139 l_2.2.2.2.2.2.2.2 (RSi.enc o.x6.sights)]) ?_ ?_
     ·replace hm := h123
      refine je (ji Y Y (jc Y Y Y (fun _ _ => zN Y Y) (ji Y Y ?_)))
      refine jP 62 Y (fun h125 => ?_) (fun h125 => ?_)
      ·replace hm := ifD h125 hm
       refine jb Y Y (ji Y Y (jb Y Y (jc Y Y Y (fun _ _ => zN Y Y) (qI Y Y Y (jv ?_)))))
       obtain rfl := sj hm
       exact jj () (trivial) (sE Y) (fun w hh => hh)
      replace hm := ifE h125 hm
      refine g_k Y Y Y Y (g_k Y Y Y Y (yU Y Y Y (jv ?_)))
      obtain rfl := sj hm
      exact jj () (trivial) (sE Y) (fun w hh => hh)
     intro l_19 hj
     replace hm := h124
     refine ja ?_
     refine js Y (fun h126 => ?_) (fun h126 => ?_)
     ·replace hm := ifT (h126) hm
      refine je (jo Y Y (jv ?_))
      obtain rfl := sj hm
      exact jj () (trivial) (sE Y) (fun w hh => hh)
     replace hm := ifN h126 hm
     refine jt ?_
     obtain rfl := sj hm
     exact jj () (trivial) (sE Y) (fun w hh => hh)
    intro l_18 hj
    replace hm := h122
    refine ja (jr (ji Y Y (jc Y Y Y (fun _ _ => zN Y Y) (jq ?_))))
    refine js Y (fun h127 => ?_) (fun h127 => ?_)
    ·replace hm := ifD h127 hm
     refine je (jo Y Y (jv ?_))
     obtain rfl := sj hm
     exact jj () (trivial) (sE Y) (fun w hh => hh)
    replace hm := ifE h127 hm
    refine jt ?_
    obtain rfl := sj hm
    exact jj () (trivial) (sE Y) (fun w hh => hh)
   replace hm := ifE h113 hm
   refine jt ?_
   obtain rfl := sj hm
   exact jj () (trivial) (sE Y) (fun w hh => hh)
  intro l_14 hj
  replace hm := h112
  refine ja (jr (jc Y Y Y (fun _ _ => qW Y) (qb (jc Y Y Y (fun _ _ => ks (vs := []) (cells := [_, _]) Y Y) (jc Y Y Y (fun _ _ => ks (vs := []) (cells := [_, _]) Y Y) ?_)))))
  refine ju (fun w => zeroValue50 w) Y (fun b_25 h128 => ?_)
  refine ju (fun w => zeroValue50 w) Y (fun b_26 h129 => ?_)
  refine jT (us := #[_, _]) (cs' := [_, _]) (S' := [_, _, _, _, _]) 1 (fun w => sizeOf50 w) Y Y Y Y Y Y Y (jT (us := #[_, _]) (cs' := [_, _]) (S' := [_, _, _, _, _]) 0 (fun w => sizeOf50 w) Y Y Y Y Y Y Y (jo Y Y (jo Y Y (jq (jh (Jz 3 ?_))))))
  obtain ⟨o_7, h130, h131⟩ := bindO hm
  refine jF (ι := VL) (fun l_20 => VOK 1 l_20.n l_20.cap (RI.enc o_7.fates11) l_20.sp l_20.q) (fun l_20 => [(1, .int .i64 ford1), (2, ptr b 0), (5, ptr l_2.1 0), (6, ptr l_2.2.1 0), (7, .int .i64 o_3.w7), (8, .int .i64 o_3.u8), (9, .int .i64 o_3.v9), (11, sL l_20), (12, ptr b_25 0), (13, ptr b_26 0), (15, .int .i64 0)]) (fun l_20 => [kc b_26 #[.int .i64 o_7.anew13_lo, .int .i64 o_7.anew13_hi] 50, kc b_25 #[.int .i64 0, .int .i64 0] 50, kc b #[.int .i64 c0.cells, .int .i64 c0.tides, .slice qa0 na0 ca0, .slice qa1 na1 ca1, .slice qa2 na2 ca2] 26, kc l_2.1 #[.int .i64 o.own5.cells, .int .i64 o.own5.tides, sL l_2.2.2.1, sL l_2.2.2.2.1, sL l_2.2.2.2.2.1] 26, kc l_2.2.1 #[.int .i64 o.x6.cells, .int .i64 o.x6.tides, sL l_2.2.2.2.2.2.1, sL l_2.2.2.2.2.2.2.1, sL l_2.2.2.2.2.2.2.2] 33]) (fun l_20 => [vL 3 l_20 (RI.enc o_7.fates11), vL 3 l_2.2.2.1 (RI.enc o.own5.fords), vL 98 l_2.2.2.2.1 (RSa.enc o.own5.sands), vL 55 l_2.2.2.2.2.1 (RSi.enc o.own5.sights), vL 3 l_2.2.2.2.2.2.1 (RI.enc o.x6.fords), vL 138 l_2.2.2.2.2.2.2.1 (RSa.enc o.x6.sands), vL 139 l_2.2.2.2.2.2.2.2 (RSi.enc o.x6.sights)]) ?_ ?_
  ·replace hm := h130
   refine jr (ji Y Y (jc Y Y Y (fun _ _ => zN Y Y) (jq ?_)))
   refine js Y (fun h133 => ?_) (fun h133 => ?_)
   ·replace hm := ifD h133 hm
    refine jX none (.hoist 0 (.hoist 2 (.one 1 (.one 3 (.free 4 (.one 5 .done)))))) (HV _ _ [kc b_25 #[.int .i64 0, .int .i64 0] 50, kc b #[.int .i64 c0.cells, .int .i64 c0.tides, .slice qa0 na0 ca0, .slice qa1 na1 ca1, .slice qa2 na2 ca2] 26, kc l_2.1 #[.int .i64 o.own5.cells, .int .i64 o.own5.tides, sL l_2.2.2.1, sL l_2.2.2.2.1, sL l_2.2.2.2.2.1] 26, kc l_2.2.1 #[.int .i64 o.x6.cells, .int .i64 o.x6.tides, sL l_2.2.2.2.2.2.1, sL l_2.2.2.2.2.2.2.1, sL l_2.2.2.2.2.2.2.2] 33] [⟨3, RI.enc [], [], none, []⟩, vL 3 l_2.2.2.1 (RI.enc o.own5.fords), vL 98 l_2.2.2.2.1 (RSa.enc o.own5.sands), vL 55 l_2.2.2.2.2.1 (RSi.enc o.own5.sights), vL 3 l_2.2.2.2.2.2.1 (RI.enc o.x6.fords), vL 138 l_2.2.2.2.2.2.2.1 (RSa.enc o.x6.sands), vL 139 l_2.2.2.2.2.2.2.2 (RSi.enc o.x6.sights)] _) Y (by decide +kernel) (fun w k hh => hh.draw k) (hsE [1, 2, 3, 4] [0, 1, 2, 3, 4, 5, 6] 0 Y Y Y Y) ?_
    refine jx Y Y Y Y (fun w hh => jE (vs := [_, _, _, _, _]) (isAgg33 w) (sizeOf33 w) Y (hh.cells 3 Y Y)) (jx Y Y Y Y (fun w hh => jE (vs := [_, _, _, _, _]) (isAgg33 w) (sizeOf33 w) Y (hh.cells 3 Y Y)) (jD Y ?_))
    obtain ⟨t73, h134, hm⟩ := bindO hm
    refine jd [] [] Y Y Y Y Y Y Y call32 (fun w hh => YT o.x6 (qA l_2.2.2.2.2.2.1.q) l_2.2.2.2.2.2.1.n l_2.2.2.2.2.2.1.cap (qA l_2.2.2.2.2.2.2.1.q) l_2.2.2.2.2.2.2.1.n l_2.2.2.2.2.2.2.1.cap (qA l_2.2.2.2.2.2.2.2.q) l_2.2.2.2.2.2.2.2.n l_2.2.2.2.2.2.2.2.cap w (HV.callee (S0 := []) (vs0 := []) hh (roC (hh.vsepA 4 Y h12) (roC (hh.vsepA 5 Y h13) (roC (hh.vsepA 6 Y h14) roN)))) (vlen RI h12 Y) (AOK.q (vne h12)) (h12).hle (vlen RSa h13 Y) (AOK.q (vne h13)) (h13).hle (vlen RSi h14 Y) (AOK.q (vne h14)) (h14).hle h134) (fun l_21 h135 => ?_)
    have h136 := h135
    refine kO (S' := [_, _, _, _, _]) (vs' := [_, _, _, _, _, _, _, _]) [0, 1, 2, 3, 4] [0, 1, 2, 3, 4, 5, 6, 7] 0 Y Y Y Y (jl (hsE [1, 2, 3, 4] [1, 2, 3, 4, 5, 6, 7] 0 Y Y Y Y) (jD Y ?_))
    obtain ⟨t75, h137, hm⟩ := bindO hm
    refine jd [] [] Y Y Y Y Y Y Y call33 (fun w hh => Zh o.x6 (qA l_2.2.2.2.2.2.1.q) l_2.2.2.2.2.2.1.n l_2.2.2.2.2.2.1.cap (qA l_2.2.2.2.2.2.2.1.q) l_2.2.2.2.2.2.2.1.n l_2.2.2.2.2.2.2.1.cap (qA l_2.2.2.2.2.2.2.2.q) l_2.2.2.2.2.2.2.2.n l_2.2.2.2.2.2.2.2.cap w (HV.callee (S0 := []) (vs0 := []) hh (roC (hh.vsepA 5 Y h12) (roC (hh.vsepA 6 Y h13) (roC (hh.vsepA 7 Y h14) roN)))) (vlen RI h12 Y) (AOK.q (vne h12)) (h12).hle (vlen RSa h13 Y) (AOK.q (vne h13)) (h13).hle (vlen RSi h14 Y) (AOK.q (vne h14)) (h14).hle h137) (fun l_22 h138 => ?_)
    refine jl (hsE [1, 2, 3, 4] [1, 2, 3, 4, 5, 6, 7] 0 Y Y Y Y) (jn Y Y Y Y (fun _ _ => ku Y) (jD Y (jT (us := #[_, _]) (cs' := [_, _]) (S' := [_, _, _, _, _]) 0 (fun w => sizeOf50 w) Y Y Y Y Y Y Y (jl (hsE [1, 2, 3, 4] [1, 2, 3, 4, 5, 6, 7] 0 Y Y Y Y) (jJ ?_)))))
    obtain rfl := sj hm
    exact jj l_21 (h136) (sE Y) (hsE [0, 1, 2, 3, 4] [0, 2, 3, 4, 5, 6, 7] 0 Y Y Y Y)
   replace hm := ifE h133 hm
   refine jt ?_
   obtain rfl := sj hm
   exact jj ⟨none, 0, 0, []⟩ (VOK.nil) (sE Y) (fun w hh => hh)
  intro l_20 hj
  have h132 := hj
  replace hm := h131
  refine ja (jh ?_)
  obtain ⟨o_8, h139, h140⟩ := bindO hm
  refine jF (ι := Unit) (fun l_23 => True) (fun l_23 => [(1, .int .i64 ford1), (2, ptr b 0), (5, ptr l_2.1 0), (6, ptr l_2.2.1 0), (7, .int .i64 o_3.w7), (8, .int .i64 o_3.u8), (9, .int .i64 o_3.v9), (11, sL l_20), (12, ptr b_25 0), (13, ptr b_26 0), (15, .int .i64 0)]) (fun l_23 => [kc b_26 #[.int .i64 o_7.anew13_lo, .int .i64 o_7.anew13_hi] 50, kc b_25 #[.int .i64 o_8.shift12_lo, .int .i64 o_8.shift12_hi] 50, kc b #[.int .i64 c0.cells, .int .i64 c0.tides, .slice qa0 na0 ca0, .slice qa1 na1 ca1, .slice qa2 na2 ca2] 26, kc l_2.1 #[.int .i64 o.own5.cells, .int .i64 o.own5.tides, sL l_2.2.2.1, sL l_2.2.2.2.1, sL l_2.2.2.2.2.1] 26, kc l_2.2.1 #[.int .i64 o.x6.cells, .int .i64 o.x6.tides, sL l_2.2.2.2.2.2.1, sL l_2.2.2.2.2.2.2.1, sL l_2.2.2.2.2.2.2.2] 33]) (fun l_23 => [vL 3 l_20 (RI.enc o_7.fates11), vL 3 l_2.2.2.1 (RI.enc o.own5.fords), vL 98 l_2.2.2.2.1 (RSa.enc o.own5.sands), vL 55 l_2.2.2.2.2.1 (RSi.enc o.own5.sights), vL 3 l_2.2.2.2.2.2.1 (RI.enc o.x6.fords), vL 138 l_2.2.2.2.2.2.2.1 (RSa.enc o.x6.sands), vL 139 l_2.2.2.2.2.2.2.2 (RSi.enc o.x6.sights)]) ?_ ?_
  ·replace hm := h139
   refine jr (ji Y Y (jc Y Y Y (fun _ _ => zN Y Y) (jq ?_)))
   refine js Y (fun h141 => ?_) (fun h141 => ?_)
   ·replace hm := ifD h141 hm
    refine je (zO [_, _, _, _, _] 4 isAgg33 sizeOf33 Y Y Y Y (ji Y Y ?_))
    obtain ⟨t80, h142, hm⟩ := bindO hm
    refine jd [] [] Y Y Y Y Y Y Y call34 (fun w hh => YU o.x6 ford1 (qA l_2.2.2.2.2.2.1.q) l_2.2.2.2.2.2.1.n l_2.2.2.2.2.2.1.cap (qA l_2.2.2.2.2.2.2.1.q) l_2.2.2.2.2.2.2.1.n l_2.2.2.2.2.2.2.1.cap (qA l_2.2.2.2.2.2.2.2.q) l_2.2.2.2.2.2.2.2.n l_2.2.2.2.2.2.2.2.cap w (HV.callee (S0 := []) (vs0 := []) hh (roC (hh.vsepA 4 Y h12) (roC (hh.vsepA 5 Y h13) (roC (hh.vsepA 6 Y h14) roN)))) (vlen RI h12 Y) (AOK.q (vne h12)) (h12).hle (vlen RSa h13 Y) (AOK.q (vne h13)) (h13).hle (vlen RSi h14 Y) (AOK.q (vne h14)) (h14).hle h142) (fun l_24 h143 => ?_)
    refine jT (us := #[_, _]) (cs' := [_, _]) (S' := [_, _, _, _, _]) 1 (fun w => sizeOf50 w) Y Y Y Y Y Y Y (jv ?_)
    obtain rfl := sj hm
    exact jj () (trivial) (sE Y) (fun w hh => hh)
   replace hm := ifE h141 hm
   refine jt ?_
   obtain rfl := sj hm
   exact jj () (trivial) (sE Y) (fun w hh => hh)
  intro l_23 hj
  replace hm := h140
  refine ja (jr (jc Y Y Y (fun _ _ => ks (vs := []) (cells := [_, _, _]) Y Y) ?_))
  refine ju (fun w => zeroValue55 w) Y (fun b_27 h144 => ?_)
  refine jT (us := #[_, _, _]) (cs' := [_, _, _]) (S' := [_, _, _, _, _, _]) 0 (fun w => sizeOf55 w) Y Y Y Y Y Y Y (jq (jh ?_))
  obtain ⟨o_9, h145, h146⟩ := bindO hm
  refine jF (ι := Unit) (fun l_25 => True) (fun l_25 => [(1, .int .i64 ford1), (2, ptr b 0), (5, ptr l_2.1 0), (7, .int .i64 o_3.w7), (8, .int .i64 o_3.u8), (9, .int .i64 o_3.v9), (11, sL l_20), (12, ptr b_25 0), (13, ptr b_26 0), (15, .int .i64 o_9.few15), (16, ptr b_27 0)]) (fun l_25 => [kc b_27 #[.int .i64 o_9.want16_after, .int .i64 o_9.want16_cell, .bool o_9.want16_upright] 55, kc b_26 #[.int .i64 o_7.anew13_lo, .int .i64 o_7.anew13_hi] 50, kc b_25 #[.int .i64 o_8.shift12_lo, .int .i64 o_8.shift12_hi] 50, kc b #[.int .i64 c0.cells, .int .i64 c0.tides, .slice qa0 na0 ca0, .slice qa1 na1 ca1, .slice qa2 na2 ca2] 26, kc l_2.1 #[.int .i64 o.own5.cells, .int .i64 o.own5.tides, sL l_2.2.2.1, sL l_2.2.2.2.1, sL l_2.2.2.2.2.1] 26, kc l_2.2.1 #[.int .i64 o.x6.cells, .int .i64 o.x6.tides, sL l_2.2.2.2.2.2.1, sL l_2.2.2.2.2.2.2.1, sL l_2.2.2.2.2.2.2.2] 33]) (fun l_25 => [vL 3 l_20 (RI.enc o_7.fates11), vL 3 l_2.2.2.1 (RI.enc o.own5.fords), vL 98 l_2.2.2.2.1 (RSa.enc o.own5.sands), vL 55 l_2.2.2.2.2.1 (RSi.enc o.own5.sights), vL 3 l_2.2.2.2.2.2.1 (RI.enc o.x6.fords), vL 138 l_2.2.2.2.2.2.2.1 (RSa.enc o.x6.sands), vL 139 l_2.2.2.2.2.2.2.2 (RSi.enc o.x6.sights)]) ?_ ?_
  ·replace hm := h145
   refine jr (ji Y Y (jc Y Y Y (fun _ _ => zN Y Y) (jq ?_)))
   refine js Y (fun h147 => ?_) (fun h147 => ?_)
   ·replace hm := ifD h147 hm
    refine jr (zO [_, _, _, _, _] 5 isAgg33 sizeOf33 Y Y Y Y ?_)
    obtain ⟨t86, h148, hm⟩ := bindO hm
    refine jd [] [] Y Y Y Y Y Y Y call35 (fun w hh => Zy o.x6 (qA l_2.2.2.2.2.2.1.q) l_2.2.2.2.2.2.1.n l_2.2.2.2.2.2.1.cap (qA l_2.2.2.2.2.2.2.1.q) l_2.2.2.2.2.2.2.1.n l_2.2.2.2.2.2.2.1.cap (qA l_2.2.2.2.2.2.2.2.q) l_2.2.2.2.2.2.2.2.n l_2.2.2.2.2.2.2.2.cap w (HV.callee (S0 := []) (vs0 := []) hh (roC (hh.vsepA 4 Y h12) (roC (hh.vsepA 5 Y h13) (roC (hh.vsepA 6 Y h14) roN)))) (vlen RI h12 Y) (AOK.q (vne h12)) (h12).hle (vlen RSa h13 Y) (AOK.q (vne h13)) (h13).hle (vlen RSi h14 Y) (AOK.q (vne h14)) (h14).hle h148) (fun l_26 h149 => ?_)
    refine ji Y Y (Jl Y Y Y (Jl Y Y Y (jo Y Y (jo Y Y (jq (je (qk 1 runUnderlying26 Y sizeOf3 Y Y ?_)))))))
    refine kw 3 isAgg3 Y Y Y Y (ji Y Y (jc Y Y Y (fun _ _ => ks (vs := [(0, _), (1, _), (2, _)]) (cells := [_, _, _]) Y Y) (jT (us := #[_, _, _]) (cs' := [_, _, _]) (S' := [_, _, _, _, _, _]) 0 (fun w => sizeOf55 w) Y Y Y Y Y Y Y (jv ?_))))
    obtain rfl := sj hm
    exact jj () (trivial) (sE Y) (fun w hh => hh)
   replace hm := ifE h147 hm
   refine jt ?_
   obtain rfl := sj hm
   exact jj () (trivial) (sE Y) (fun w hh => hh)
  intro l_25 hj
  replace hm := h146
  refine ja (jr (zO [_, _, _, _, _] 4 isAgg26 sizeOf26 Y Y Y Y ?_))
  obtain ⟨t95, h150, hm⟩ := bindO hm
  refine jd [] [] Y Y Y Y Y Y Y call36 (fun w hh => YP o.own5 (qA l_2.2.2.1.q) l_2.2.2.1.n l_2.2.2.1.cap (qA l_2.2.2.2.1.q) l_2.2.2.2.1.n l_2.2.2.2.1.cap (qA l_2.2.2.2.2.1.q) l_2.2.2.2.2.1.n l_2.2.2.2.2.1.cap w (HV.callee (S0 := []) (vs0 := []) hh (roC (hh.vsepA 1 Y h9) (roC (hh.vsepA 2 Y h10) (roC (hh.vsepA 3 Y h11) roN)))) (vlen RI h9 Y) (AOK.q (vne h9)) (h9).hle (vlen RSa h10 Y) (AOK.q (vne h10)) (h10).hle (vlen RSi h11 Y) (AOK.q (vne h11)) (h11).hle h150) (fun l_27 h151 => ?_)
  have h152 := h151
  refine kO (S' := [_, _, _, _, _, _]) (vs' := [_, _, _, _, _, _, _, _]) [0, 1, 2, 3, 4, 5] [0, 1, 2, 3, 4, 5, 6, 7] 0 Y Y Y Y (ji Y Y (Jl Y Y Y (Jl Y Y Y (jo Y Y (jo Y Y (qb (zO [_, _, _, _, _] 4 isAgg26 sizeOf26 Y Y Y Y ?_)))))))
  refine ji Y Y ?_
  obtain ⟨t101, h153, hm⟩ := bindO hm
  refine jd [] [] Y Y Y Y Y Y Y call37 (fun w hh => YS o.own5 ford1 (qA l_2.2.2.1.q) l_2.2.2.1.n l_2.2.2.1.cap (qA l_2.2.2.2.1.q) l_2.2.2.2.1.n l_2.2.2.2.1.cap (qA l_2.2.2.2.2.1.q) l_2.2.2.2.2.1.n l_2.2.2.2.2.1.cap w (HV.callee (S0 := []) (vs0 := []) hh (roC (hh.vsepA 2 Y h9) (roC (hh.vsepA 3 Y h10) (roC (hh.vsepA 4 Y h11) roN)))) (vlen RI h9 Y) (AOK.q (vne h9)) (h9).hle (vlen RSa h10 Y) (AOK.q (vne h10)) (h10).hle (vlen RSi h11 Y) (AOK.q (vne h11)) (h11).hle h153) (fun l_28 h154 => ?_)
  refine ji Y Y (Jl Y Y Y (Jl Y Y Y ?_))
  refine ju (fun w => zeroValue50 w) Y (fun b_28 h155 => ?_)
  refine jT (us := #[_, _]) (cs' := [_, _]) (S' := [_, _, _, _, _, _, _]) 0 (fun w => sizeOf50 w) Y Y Y Y Y Y Y (jo Y Y (qb (zO [_, _, _, _, _] 5 isAgg26 sizeOf26 Y Y Y Y ?_)))
  obtain ⟨t106, h156, hm⟩ := bindO hm
  refine jd [] [] Y Y Y Y Y Y Y call38 (fun w hh => jah o.own5 (qA l_2.2.2.1.q) l_2.2.2.1.n l_2.2.2.1.cap (qA l_2.2.2.2.1.q) l_2.2.2.2.1.n l_2.2.2.2.1.cap (qA l_2.2.2.2.2.1.q) l_2.2.2.2.2.1.n l_2.2.2.2.2.1.cap w (HV.callee (S0 := []) (vs0 := []) hh (roC (hh.vsepA 2 Y h9) (roC (hh.vsepA 3 Y h10) (roC (hh.vsepA 4 Y h11) roN)))) (vlen RI h9 Y) (AOK.q (vne h9)) (h9).hle (vlen RSa h10 Y) (AOK.q (vne h10)) (h10).hle (vlen RSi h11 Y) (AOK.q (vne h11)) (h11).hle h156) (fun l_29 h157 => ?_)
  refine ji Y Y (Jl Y Y Y (Jl Y Y Y ?_))
  refine ju (fun w => zeroValue50 w) Y (fun b_29 h158 => ?_)
  refine jT (us := #[_, _]) (cs' := [_, _]) (S' := [_, _, _, _, _, _, _, _]) 0 (fun w => sizeOf50 w) Y Y Y Y Y Y Y (jo Y Y (qb (zO [_, _, _, _, _] 6 isAgg26 sizeOf26 Y Y Y Y ?_)))
  obtain ⟨t111, h159, hm⟩ := bindO hm
  refine jd [] [] Y Y Y Y Y Y Y call39 (fun w hh => ZC o.own5 (qA l_2.2.2.1.q) l_2.2.2.1.n l_2.2.2.1.cap (qA l_2.2.2.2.1.q) l_2.2.2.2.1.n l_2.2.2.2.1.cap (qA l_2.2.2.2.2.1.q) l_2.2.2.2.2.1.n l_2.2.2.2.2.1.cap w (HV.callee (S0 := []) (vs0 := []) hh (roC (hh.vsepA 2 Y h9) (roC (hh.vsepA 3 Y h10) (roC (hh.vsepA 4 Y h11) roN)))) (vlen RI h9 Y) (AOK.q (vne h9)) (h9).hle (vlen RSa h10 Y) (AOK.q (vne h10)) (h10).hle (vlen RSi h11 Y) (AOK.q (vne h11)) (h11).hle h159) (fun l_30 h160 => ?_)
  refine ji Y Y (Jl Y Y Y (Jl Y Y Y (Jl Y Y Y ?_)))
  refine ju (fun w => zeroValue55 w) Y (fun b_30 h161 => ?_)
  refine jT (us := #[_, _, _]) (cs' := [_, _, _]) (S' := [_, _, _, _, _, _, _, _, _]) 0 (fun w => sizeOf55 w) Y Y Y Y Y Y Y (jo Y Y (jo Y Y (jq (jh (jh ?_)))))
  obtain ⟨o_10, h162, h163⟩ := bindO hm
  refine jF (ι := Unit) (fun l_31 => True) (fun l_31 => [(2, ptr b 0), (5, ptr l_2.1 0), (11, sL l_20), (17, sL l_27), (159, .bool o_10)]) (fun l_31 => [kc b_30 #[.int .i64 t111.r0.after, .int .i64 t111.r0.cell, .bool t111.r0.upright] 55, kc b_29 #[.int .i64 t106.r0.lo, .int .i64 t106.r0.hi] 50, kc b_28 #[.int .i64 t101.r0.lo, .int .i64 t101.r0.hi] 50, kc b_27 #[.int .i64 o_9.want16_after, .int .i64 o_9.want16_cell, .bool o_9.want16_upright] 55, kc b_26 #[.int .i64 o_7.anew13_lo, .int .i64 o_7.anew13_hi] 50, kc b_25 #[.int .i64 o_8.shift12_lo, .int .i64 o_8.shift12_hi] 50, kc b #[.int .i64 c0.cells, .int .i64 c0.tides, .slice qa0 na0 ca0, .slice qa1 na1 ca1, .slice qa2 na2 ca2] 26, kc l_2.1 #[.int .i64 o.own5.cells, .int .i64 o.own5.tides, sL l_2.2.2.1, sL l_2.2.2.2.1, sL l_2.2.2.2.2.1] 26, kc l_2.2.1 #[.int .i64 o.x6.cells, .int .i64 o.x6.tides, sL l_2.2.2.2.2.2.1, sL l_2.2.2.2.2.2.2.1, sL l_2.2.2.2.2.2.2.2] 33]) (fun l_31 => [vL 3 l_20 (RI.enc o_7.fates11), vL 66 l_27 (RI.enc t95.r0), vL 3 l_2.2.2.1 (RI.enc o.own5.fords), vL 98 l_2.2.2.2.1 (RSa.enc o.own5.sands), vL 55 l_2.2.2.2.2.1 (RSi.enc o.own5.sights), vL 3 l_2.2.2.2.2.2.1 (RI.enc o.x6.fords), vL 138 l_2.2.2.2.2.2.2.1 (RSa.enc o.x6.sands), vL 139 l_2.2.2.2.2.2.2.2 (RSi.enc o.x6.sights)]) ?_ ?_
  ·replace hm := h162
   refine je (ji Y Y (ji Y Y (jc Y Y Y (fun _ _ => JG Y Y) (ji Y Y ?_))))
   refine jP 118 Y (fun h164 => ?_) (fun h164 => ?_)
   ·replace hm := ifF (of_ndec_true h164) hm
    refine g_k Y Y Y Y (g_k Y Y Y Y (g_k Y Y Y Y (qI Y Y Y (ji Y Y (g_k Y Y Y Y (g_k Y Y Y Y (g_k Y Y Y Y ?_)))))))
    refine qI Y Y Y (ji Y Y (g_k Y Y Y Y (g_k Y Y Y Y (g_k Y Y Y Y (qI Y Y Y (ji Y Y (g_k Y Y Y Y ?_)))))))
    refine g_k Y Y Y Y (g_k Y Y Y Y (g_k Y Y Y Y (g_k Y Y Y Y (qI Y Y Y (ji Y Y (g_k Y Y Y Y (g_k Y Y Y Y ?_)))))))
    refine g_k Y Y Y Y (qI Y Y Y (ji Y Y (g_k Y Y Y Y (g_k Y Y Y Y (g_k Y Y Y Y (qI Y Y Y (ji Y Y ?_)))))))
    refine g_k Y Y Y Y (g_k Y Y Y Y (g_k Y Y Y Y (qI Y Y Y (ji Y Y (g_k Y Y Y Y (g_k Y Y Y Y (g_k Y Y Y Y ?_)))))))
    refine qI Y Y Y (jv ?_)
    obtain rfl := sj hm
    exact jj () (trivial) (sE Y) (hsE [0, 1, 2, 3, 4, 5, 6, 7, 8] [1, 0, 2, 3, 4, 5, 6, 7] 0 Y Y Y Y)
   replace hm := ifT (of_ndec_false h164) hm
   refine jb Y Y (ji Y Y (jb Y Y (ji Y Y (jb Y Y (jc Y Y Y (fun _ _ => JG Y Y) (yU Y Y Y (ji Y Y ?_)))))))
   refine jP 123 Y (fun h165 => ?_) (fun h165 => ?_)
   ·replace hm := ifF (of_ndec_true h165) hm
    refine g_k Y Y Y Y (g_k Y Y Y Y (g_k Y Y Y Y (qI Y Y Y (ji Y Y (g_k Y Y Y Y (g_k Y Y Y Y (g_k Y Y Y Y ?_)))))))
    refine qI Y Y Y (ji Y Y (g_k Y Y Y Y (g_k Y Y Y Y (g_k Y Y Y Y (g_k Y Y Y Y (g_k Y Y Y Y (qI Y Y Y ?_)))))))
    refine ji Y Y (g_k Y Y Y Y (g_k Y Y Y Y (g_k Y Y Y Y (qI Y Y Y (ji Y Y (g_k Y Y Y Y (g_k Y Y Y Y ?_)))))))
    refine g_k Y Y Y Y (qI Y Y Y (ji Y Y (g_k Y Y Y Y (g_k Y Y Y Y (g_k Y Y Y Y (qI Y Y Y (ji Y Y ?_)))))))
    refine g_k Y Y Y Y (g_k Y Y Y Y (g_k Y Y Y Y (qI Y Y Y (jv ?_))))
    obtain rfl := sj hm
    exact jj () (trivial) (sE Y) (hsE [0, 1, 2, 3, 4, 5, 6, 7, 8] [1, 0, 2, 3, 4, 5, 6, 7] 0 Y Y Y Y)
   replace hm := ifT (of_ndec_false h165) hm
   refine jb Y Y (ji Y Y (jb Y Y (ji Y Y (jb Y Y (jc Y Y Y (fun _ _ => JG Y Y) (yU Y Y Y (ji Y Y ?_)))))))
   refine jP 128 Y (fun h166 => ?_) (fun h166 => ?_)
   ·replace hm := ifF (of_ndec_true h166) hm
    refine g_k Y Y Y Y (g_k Y Y Y Y (g_k Y Y Y Y (qI Y Y Y (ji Y Y (g_k Y Y Y Y (g_k Y Y Y Y (g_k Y Y Y Y ?_)))))))
    refine g_k Y Y Y Y (g_k Y Y Y Y (qI Y Y Y (ji Y Y (g_k Y Y Y Y (g_k Y Y Y Y (g_k Y Y Y Y (qI Y Y Y ?_)))))))
    refine ji Y Y (g_k Y Y Y Y (g_k Y Y Y Y (g_k Y Y Y Y (qI Y Y Y (ji Y Y (g_k Y Y Y Y (g_k Y Y Y Y ?_)))))))
    refine g_k Y Y Y Y (qI Y Y Y (ji Y Y (g_k Y Y Y Y (g_k Y Y Y Y (g_k Y Y Y Y (qI Y Y Y (jv ?_)))))))
    obtain rfl := sj hm
    exact jj () (trivial) (sE Y) (hsE [0, 1, 2, 3, 4, 5, 6, 7, 8] [1, 0, 2, 3, 4, 5, 6, 7] 0 Y Y Y Y)
   replace hm := ifT (of_ndec_false h166) hm
   refine jb Y Y (ji Y Y (jb Y Y (ji Y Y (jb Y Y (jc Y Y Y (fun _ _ => JG Y Y) (yU Y Y Y (ji Y Y ?_)))))))
   refine jP 133 Y (fun h167 => ?_) (fun h167 => ?_)
   ·replace hm := ifF (of_ndec_true h167) hm
    refine g_k Y Y Y Y (g_k Y Y Y Y (g_k Y Y Y Y (g_k Y Y Y Y (g_k Y Y Y Y (qI Y Y Y (ji Y Y (g_k Y Y Y Y ?_)))))))
    refine g_k Y Y Y Y (g_k Y Y Y Y (qI Y Y Y (ji Y Y (g_k Y Y Y Y (g_k Y Y Y Y (g_k Y Y Y Y (qI Y Y Y ?_)))))))
    refine ji Y Y (g_k Y Y Y Y (g_k Y Y Y Y (g_k Y Y Y Y (qI Y Y Y (ji Y Y (g_k Y Y Y Y (g_k Y Y Y Y ?_)))))))
    refine g_k Y Y Y Y (qI Y Y Y (jv ?_))
    obtain rfl := sj hm
    exact jj () (trivial) (sE Y) (hsE [0, 1, 2, 3, 4, 5, 6, 7, 8] [1, 0, 2, 3, 4, 5, 6, 7] 0 Y Y Y Y)
   replace hm := ifT (of_ndec_false h167) hm
   refine jb Y Y (ji Y Y (jb Y Y (jc Y Y Y (fun w _ => Jj (vlen RI h152 Y) (runUnderlying58 w) Y) (jb Y Y (ji Y Y (jb Y Y (jc Y Y Y (fun w _ => Jj (vlen RI h132 Y) (runUnderlying22 w) Y) ?_)))))))
   refine jb Y Y (jc Y Y Y (fun _ _ => JG Y Y) (yU Y Y Y (ji Y Y ?_)))
   refine jP 140 Y (fun h168 => ?_) (fun h168 => ?_)
   ·replace hm := ifF (of_ndec_true h168) hm
    refine g_k Y Y Y Y (g_k Y Y Y Y (g_k Y Y Y Y (qI Y Y Y (ji Y Y (g_k Y Y Y Y (g_k Y Y Y Y (g_k Y Y Y Y ?_)))))))
    refine qI Y Y Y (ji Y Y (g_k Y Y Y Y (g_k Y Y Y Y (g_k Y Y Y Y (qI Y Y Y (ji Y Y (g_k Y Y Y Y ?_)))))))
    refine g_k Y Y Y Y (g_k Y Y Y Y (qI Y Y Y (jv ?_)))
    obtain rfl := sj hm
    exact jj () (trivial) (sE Y) (hsE [0, 1, 2, 3, 4, 5, 6, 7, 8] [1, 0, 2, 3, 4, 5, 6, 7] 0 Y Y Y Y)
   replace hm := ifT (of_ndec_false h168) hm
   refine jb Y Y (zO [_, _] 2 isAgg50 sizeOf50 Y Y Y Y (jb Y Y (zO [_, _] 5 isAgg50 sizeOf50 Y Y Y Y (jb Y Y (jc Y Y Y (fun w _ => YD (jbu t101.r0 (⟨o_8.shift12_lo, o_8.shift12_hi⟩ : Span) w) jaH Y Y) (yU Y Y Y (ji Y Y ?_)))))))
   refine jP 145 Y (fun h169 => ?_) (fun h169 => ?_)
   ·replace hm := ifF (of_ndec_true h169) hm
    refine g_k Y Y Y Y (g_k Y Y Y Y (g_k Y Y Y Y (qI Y Y Y (ji Y Y (g_k Y Y Y Y (g_k Y Y Y Y (g_k Y Y Y Y ?_)))))))
    refine qI Y Y Y (ji Y Y (g_k Y Y Y Y (g_k Y Y Y Y (g_k Y Y Y Y (qI Y Y Y (jv ?_))))))
    obtain rfl := sj hm
    exact jj () (trivial) (sE Y) (hsE [0, 1, 2, 3, 4, 5, 6, 7, 8] [1, 0, 2, 3, 4, 5, 6, 7] 0 Y Y Y Y)
   replace hm := ifT (of_ndec_false h169) hm
   refine jb Y Y (zO [_, _] 1 isAgg50 sizeOf50 Y Y Y Y (jb Y Y (zO [_, _] 4 isAgg50 sizeOf50 Y Y Y Y (jb Y Y (jc Y Y Y (fun w _ => YD (jbu t106.r0 (⟨o_7.anew13_lo, o_7.anew13_hi⟩ : Span) w) jaH Y Y) (yU Y Y Y (ji Y Y ?_)))))))
   refine jP 150 Y (fun h170 => ?_) (fun h170 => ?_)
   ·replace hm := ifF (of_ndec_true h170) hm
    refine g_k Y Y Y Y (g_k Y Y Y Y (g_k Y Y Y Y (qI Y Y Y (ji Y Y (g_k Y Y Y Y (g_k Y Y Y Y (g_k Y Y Y Y ?_)))))))
    refine qI Y Y Y (jv ?_)
    obtain rfl := sj hm
    exact jj () (trivial) (sE Y) (hsE [0, 1, 2, 3, 4, 5, 6, 7, 8] [1, 0, 2, 3, 4, 5, 6, 7] 0 Y Y Y Y)
   replace hm := ifT (of_ndec_false h170) hm
   refine jb Y Y (zO [_, _, _] 0 isAgg55 sizeOf55 Y Y Y Y (jb Y Y (zO [_, _, _] 3 isAgg55 sizeOf55 Y Y Y Y (jb Y Y (jc Y Y Y (fun w _ => YD (jbm t111.r0 (⟨o_9.want16_after, o_9.want16_cell, o_9.want16_upright⟩ : Sight) w) jaN Y Y) (yU Y Y Y (ji Y Y ?_)))))))
   refine jP 155 Y (fun h171 => ?_) (fun h171 => ?_)
   ·replace hm := ifF (of_ndec_true h171) hm
    refine g_k Y Y Y Y (g_k Y Y Y Y (g_k Y Y Y Y (qI Y Y Y (jv ?_))))
    obtain rfl := sj hm
    exact jj () (trivial) (sE Y) (hsE [0, 1, 2, 3, 4, 5, 6, 7, 8] [1, 0, 2, 3, 4, 5, 6, 7] 0 Y Y Y Y)
   replace hm := ifT (of_ndec_false h171) hm
   refine jb Y Y (ji Y Y (jb Y Y (ji Y Y (jb Y Y (jc Y Y Y (fun _ _ => JG Y Y) (yU Y Y Y (jv ?_)))))))
   obtain rfl := sj hm
   exact jj () (trivial) (sE Y) (hsE [0, 1, 2, 3, 4, 5, 6, 7, 8] [1, 0, 2, 3, 4, 5, 6, 7] 0 Y Y Y Y)
  intro l_31 hj
  replace hm := h163
  refine ja ?_
  refine js Y (fun h172 => ?_) (fun h172 => ?_)
  ·replace hm := ifT (h172) hm
   refine jr (jo Y Y (jq (jy (jg ?_))))
   obtain rfl := sj hm
   refine jp Y (fun w hh => (.tmp Y .nil)) (fun w hh => ⟨(), rfl, trivial, hh.se [] [] 3 Y Y Y rfl⟩)
  replace hm := ifN h172 hm
  refine jt (ja (jh (jr (ji Y Y (jc Y Y Y (fun w _ => Jj (vlen RI h152 Y) (runUnderlying58 w) Y) (ji Y Y (jq ?_)))))))
  obtain ⟨o_11, h173, h174⟩ := bindO hm
  refine jF (ι := Unit) (fun j => o_11 = .inl j) (fun j => [(2, ptr b 0), (5, ptr l_2.1 0)]) (fun j => [kc b_30 #[.int .i64 t111.r0.after, .int .i64 t111.r0.cell, .bool t111.r0.upright] 55, kc b_29 #[.int .i64 t106.r0.lo, .int .i64 t106.r0.hi] 50, kc b_28 #[.int .i64 t101.r0.lo, .int .i64 t101.r0.hi] 50, kc b_27 #[.int .i64 o_9.want16_after, .int .i64 o_9.want16_cell, .bool o_9.want16_upright] 55, kc b_26 #[.int .i64 o_7.anew13_lo, .int .i64 o_7.anew13_hi] 50, kc b_25 #[.int .i64 o_8.shift12_lo, .int .i64 o_8.shift12_hi] 50, kc b #[.int .i64 c0.cells, .int .i64 c0.tides, .slice qa0 na0 ca0, .slice qa1 na1 ca1, .slice qa2 na2 ca2] 26, kc l_2.1 #[.int .i64 o.own5.cells, .int .i64 o.own5.tides, sL l_2.2.2.1, sL l_2.2.2.2.1, sL l_2.2.2.2.2.1] 26, kc l_2.2.1 #[.int .i64 o.x6.cells, .int .i64 o.x6.tides, sL l_2.2.2.2.2.2.1, sL l_2.2.2.2.2.2.2.1, sL l_2.2.2.2.2.2.2.2] 33]) (fun j => [vL 3 l_2.2.2.1 (RI.enc o.own5.fords), vL 98 l_2.2.2.2.1 (RSa.enc o.own5.sands), vL 55 l_2.2.2.2.2.1 (RSi.enc o.own5.sights), vL 3 l_2.2.2.2.2.2.1 (RI.enc o.x6.fords), vL 138 l_2.2.2.2.2.2.2.1 (RSa.enc o.x6.sands), vL 139 l_2.2.2.2.2.2.2.2 (RSi.enc o.x6.sights)]) ?_ ?_
  ·replace hm := h173
   refine jm ?_
   refine jH (ι := Unit) hm (fun s l_32 => True) (fun s l_32 => [(2, ptr b 0), (5, ptr l_2.1 0), (11, sL l_20), (160, sL l_27), (161, .int .i64 (t95.r0.length : Int)), (162, .int .i64 s)]) (fun s l_32 => [kc b_30 #[.int .i64 t111.r0.after, .int .i64 t111.r0.cell, .bool t111.r0.upright] 55, kc b_29 #[.int .i64 t106.r0.lo, .int .i64 t106.r0.hi] 50, kc b_28 #[.int .i64 t101.r0.lo, .int .i64 t101.r0.hi] 50, kc b_27 #[.int .i64 o_9.want16_after, .int .i64 o_9.want16_cell, .bool o_9.want16_upright] 55, kc b_26 #[.int .i64 o_7.anew13_lo, .int .i64 o_7.anew13_hi] 50, kc b_25 #[.int .i64 o_8.shift12_lo, .int .i64 o_8.shift12_hi] 50, kc b #[.int .i64 c0.cells, .int .i64 c0.tides, .slice qa0 na0 ca0, .slice qa1 na1 ca1, .slice qa2 na2 ca2] 26, kc l_2.1 #[.int .i64 o.own5.cells, .int .i64 o.own5.tides, sL l_2.2.2.1, sL l_2.2.2.2.1, sL l_2.2.2.2.2.1] 26, kc l_2.2.1 #[.int .i64 o.x6.cells, .int .i64 o.x6.tides, sL l_2.2.2.2.2.2.1, sL l_2.2.2.2.2.2.2.1, sL l_2.2.2.2.2.2.2.2] 33]) (fun s l_32 => [vL 3 l_20 (RI.enc o_7.fates11), vL 66 l_27 (RI.enc t95.r0), vL 3 l_2.2.2.1 (RI.enc o.own5.fords), vL 98 l_2.2.2.2.1 (RSa.enc o.own5.sands), vL 55 l_2.2.2.2.2.1 (RSi.enc o.own5.sights), vL 3 l_2.2.2.2.2.2.1 (RI.enc o.x6.fords), vL 138 l_2.2.2.2.2.2.2.1 (RSa.enc o.x6.sands), vL 139 l_2.2.2.2.2.2.2.2 (RSi.enc o.x6.sights)]) () (trivial) (sE Y) (fun w hh => hh) (fun s l_32 r hpl hm h175 => ?_)
   unfold ka at hm
   refine jr (JK Y Y Y (jq (jh ?_)))
   refine js Y (fun h176 => ?_) (fun h176 => ?_)
   ·replace hm := ifD h176 hm
    refine jt (ja (jh (jm (jr (ji Y Y ?_)))))
    obtain ⟨t165, h177, hm⟩ := bindO hm
    refine jc Y Y Y (fun w _ => qR h177 (runUnderlying58 w) (sizeOf66 w) Y Y (vlen RI h152 Y) (vne h152)) (jc Y Y Y (fun w hh => j5 RI 0 h177 (isAgg66 w) Y (hh.vseg 1 Y h152) Y (Nat.add_zero _).symm) (jo Y Y (jo Y Y (qb (ji Y Y (ji Y Y (ji Y Y ?_)))))))
    obtain ⟨t170, h178, hm⟩ := bindO hm
    refine jc Y Y Y (fun w _ => qR h178 (runUnderlying22 w) (sizeOf3 w) Y Y (vlen RI h132 Y) (vne h132)) (jc Y Y Y (fun w hh => j5 RI 0 h178 (isAgg3 w) Y (hh.vseg 0 Y h132) Y (Nat.add_zero _).symm) (jc Y Y Y (fun _ _ => JG Y Y) (jq ?_)))
    refine js Y (fun h179 => ?_) (fun h179 => ?_)
    ·replace hm := ifF (of_ndec_true h179) hm
     refine jr (jo Y Y (jq (jy (jA (jg (jg (jA ?_)))))))
     obtain rfl := sj hm
     have hbo := h175 _ Y
     subst hbo
     refine jg ?_
     replace hm := ocR h174
     refine jg ?_
     obtain rfl := sj hm
     refine jp Y (fun w hh => (.tmp Y .nil)) (fun w hh => ⟨(), rfl, trivial, hh.se [] [] 3 Y Y Y rfl⟩)
    replace hm := ifT (of_ndec_false h179) hm
    refine jt (jw (ja (je ?_)))
    obtain ⟨t173, h180, hm⟩ := bindO hm
    refine Jv h180 Y Y Y (ji Y Y (jv ?_))
    obtain rfl := sj hm
    refine ja ?_
    exact jz _ () Y (trivial) (sE Y) (fun w hh => hh)
   replace hm := ifE h176 hm
   refine jO (jk (jk (jB ?_)))
   obtain rfl := sj hm
   have hbo := h175 _ Y
   subst hbo
   exact jj () (Y) (sE Y) (hsE [0, 1, 2, 3, 4, 5, 6, 7, 8] [2, 3, 4, 5, 6, 7] 0 Y Y Y Y)
  intro j hj
  have h181 := hj
  subst h181
  replace hm := ocL h174
  refine ja (jh ?_)
  obtain ⟨o_12, h182, h183⟩ := bindO hm
  refine jF (ι := Unit) (fun l_33 => True) (fun l_33 => [(4, .bool o_12)]) (fun l_33 => [kc b_30 #[.int .i64 t111.r0.after, .int .i64 t111.r0.cell, .bool t111.r0.upright] 55, kc b_29 #[.int .i64 t106.r0.lo, .int .i64 t106.r0.hi] 50, kc b_28 #[.int .i64 t101.r0.lo, .int .i64 t101.r0.hi] 50, kc b_27 #[.int .i64 o_9.want16_after, .int .i64 o_9.want16_cell, .bool o_9.want16_upright] 55, kc b_26 #[.int .i64 o_7.anew13_lo, .int .i64 o_7.anew13_hi] 50, kc b_25 #[.int .i64 o_8.shift12_lo, .int .i64 o_8.shift12_hi] 50, kc b #[.int .i64 c0.cells, .int .i64 c0.tides, .slice qa0 na0 ca0, .slice qa1 na1 ca1, .slice qa2 na2 ca2] 26, kc l_2.1 #[.int .i64 o.own5.cells, .int .i64 o.own5.tides, sL l_2.2.2.1, sL l_2.2.2.2.1, sL l_2.2.2.2.2.1] 26, kc l_2.2.1 #[.int .i64 o.x6.cells, .int .i64 o.x6.tides, sL l_2.2.2.2.2.2.1, sL l_2.2.2.2.2.2.2.1, sL l_2.2.2.2.2.2.2.2] 33]) (fun l_33 => [vL 3 l_2.2.2.1 (RI.enc o.own5.fords), vL 98 l_2.2.2.2.1 (RSa.enc o.own5.sands), vL 55 l_2.2.2.2.2.1 (RSi.enc o.own5.sights), vL 3 l_2.2.2.2.2.2.1 (RI.enc o.x6.fords), vL 138 l_2.2.2.2.2.2.2.1 (RSa.enc o.x6.sands), vL 139 l_2.2.2.2.2.2.2.2 (RSi.enc o.x6.sights)]) ?_ ?_
  ·replace hm := h182
   refine je (zO [_, _, _, _, _] 7 isAgg26 sizeOf26 Y Y Y Y (zO [_, _, _, _, _] 6 isAgg26 sizeOf26 Y Y Y Y ?_))
   obtain ⟨t176, h184, hm⟩ := bindO hm
   refine jd [] [] Y Y Y Y Y Y Y call31 (fun w hh => Zf o.own5 c0 (qA l_2.2.2.1.q) l_2.2.2.1.n l_2.2.2.1.cap (qA l_2.2.2.2.1.q) l_2.2.2.2.1.n l_2.2.2.2.1.cap (qA l_2.2.2.2.2.1.q) l_2.2.2.2.2.1.n l_2.2.2.2.2.1.cap qa0 na0 ca0 qa1 na1 ca1 qa2 na2 ca2 w (HV.callee (S0 := []) (vs0 := []) hh (roC (hh.vsepA 0 Y h9) (roC (hh.vsepA 1 Y h10) (roC (hh.vsepA 2 Y h11) (roR hh 0 Y (roR hh 1 Y (roR hh 2 Y roN))))))) (vlen RI h9 Y) (AOK.q (vne h9)) (h9).hle (vlen RSa h10 Y) (AOK.q (vne h10)) (h10).hle (vlen RSi h11 Y) (AOK.q (vne h11)) (h11).hle hna0 hqa0 hla0 hna1 hqa1 hla1 hna2 hqa2 hla2 h184) (fun l_34 h185 => ?_)
   refine ji Y Y ?_
   refine jP 177 Y (fun h186 => ?_) (fun h186 => ?_)
   ·replace hm := ifT (h186) hm
    refine jb Y Y ?_
    obtain ⟨t178, h187, hm⟩ := bindO hm
    refine jd [] [] Y Y Y Y Y Y Y call19 (fun w hh => QC  w (HV.callee (S0 := []) (vs0 := []) hh roN)  h187) (fun l_35 h188 => ?_)
    refine qI Y Y Y (jo Y Y (jv ?_))
    obtain rfl := sj hm
    exact jj () (trivial) (sE Y) (fun w hh => hh)
   replace hm := ifN h186 hm
   refine g_k Y Y Y Y (yU Y Y Y (jo Y Y (jv ?_)))
   obtain rfl := sj hm
   exact jj () (trivial) (sE Y) (fun w hh => hh)
  intro l_33 hj
  replace hm := h183
  refine ja (jy ?_)
  obtain rfl := sj hm
  refine jp Y (fun w hh => (.tmp Y .nil)) (fun w hh => ⟨(), rfl, trivial, hh.se [] [] 3 Y Y Y rfl⟩)
end Go.Proofs.Wb

namespace Go.Gx
open Go
theorem eq_loop {α : Type} [DecidableEq α] {a b : List α} (d : α) (hl : a.length = b.length) (hn : a.length < 1000000) {f : Int → Option (Int ⊕ (Unit ⊕ Bool))}
    (hf : ∀ s, f s = if s < (a.length : Int) then ((ix a s).bind fun x => (ix b s).bind fun y => if x = y then ((addc s 1).bind fun k => some (.inl k)) else some (.inr (.inr false))) else some (.inr (.inl ()))) :
    ((iterM FU f 0).bind fun o => oc o (fun _ => (some true : Option Bool)) (fun r => some r)) = some (decide (a = b)) := by
  have key := iterM_any0 (f := f) a.length (fun k => decide (¬ a.getD k d = b.getD k d)) false (fun k hk => by
    rw [hf, if_pos (by omega), ix_nat d hk, Option.bind_some, ix_nat d (by omega), Option.bind_some]
    by_cases h : a.getD k d = b.getD k d
    · rw [if_pos h, addc_eq (by omega), Option.bind_some, if_neg (by simpa using h)]
    · rw [if_neg h, if_pos (by simpa using h)]) (by rw [hf, if_neg (by omega)]) (N := FU) (FU_lt (by omega))
  rw [key, Option.bind_some]
  by_cases h : a = b
  · subst h
    have : ((List.range a.length).any fun k => decide (¬ a.getD k d = a.getD k d)) = false := by
      rw [List.any_eq_false]; intro x _; simp
    rw [this]; simp
  · have : ((List.range a.length).any fun k => decide (¬ a.getD k d = b.getD k d)) = true := by
      cases h2 : ((List.range a.length).any fun k => decide (¬ a.getD k d = b.getD k d)) with
      | true => rfl
      | false =>
        exfalso
        apply h
        apply List.ext_getElem hl
        intro i hi hi'
        have h3 := List.any_eq_false.1 h2 i (by simpa using hi)
        simpa [List.getD_eq_getElem?_getD, hi, hi'] using h3
    rw [this]; simp [h]
end Go.Gx
namespace Go.Proofs.Wb
open Go Go.Fw Go.Gx Go.Sb
set_option linter.unusedVariables false
theorem ja4 {a b : List Int} (hn : a.length < 1000000) : KD a b = some (decide (a = b)) := by
  unfold KD JV
  by_cases h : a.length = b.length
  · rw [if_pos (by omega), eq_loop 0 h hn (f := Kh a b) (fun s => rfl)]; rfl
  · rw [if_neg (by omega), Option.bind_some]
    congr 1
    symm
    rw [decide_eq_false_iff_not]
    intro e; exact h (by rw [e])
theorem jaE {a b : List Sand} (hn : a.length < 1000000) : zV a b = some (decide (a = b)) := by
  unfold zV k4
  by_cases h : a.length = b.length
  · rw [if_pos (by omega), eq_loop default h hn (f := qO a b) (fun s => rfl)]; rfl
  · rw [if_neg (by omega), Option.bind_some]
    congr 1
    symm
    rw [decide_eq_false_iff_not]
    intro e; exact h (by rw [e])
theorem jau {a b : List Sight} (hn : a.length < 1000000) : zI a b = some (decide (a = b)) := by
  unfold zI kF
  by_cases h : a.length = b.length
  · rw [if_pos (by omega), eq_loop default h hn (f := qy a b) (fun s => rfl)]; rfl
  · rw [if_neg (by omega), Option.bind_some]
    congr 1
    symm
    rw [decide_eq_false_iff_not]
    intro e; exact h (by rw [e])
def Few (c : Channel) : Prop := c.fords.length ≤ 100 ∧ c.sands.length ≤ 100 ∧ c.sights.length ≤ 100
theorem jbl {a b : Channel} (h : Few a) : zA a b = some (decide (a = b)) := by
  unfold zA
  obtain ⟨h1, h2, h3⟩ := h
  rw [ja4 (by omega), jaE (by omega), jau (by omega)]
  simp only [Option.bind_some, decide_eq_true_eq]
  obtain ⟨a1, a2, a3, a4, a5⟩ := a
  obtain ⟨b1, b2, b3, b4, b5⟩ := b
  simp only [Channel.mk.injEq]
  by_cases e1 : a1 = b1
  · by_cases e2 : a2 = b2
    · by_cases e3 : a3 = b3
      · by_cases e4 : a4 = b4
        · simp [e1, e2, e3, e4]
        · simp [e1, e2, e3, e4]
      · simp [e1, e2, e3]
    · simp [e1, e2]
  · simp [e1]
theorem jaX {l : List Int} (h : l.length ≤ 100000) : K4 l = some l := by
  unfold K4
  rw [makec_eq (by omega), Option.bind_some, appc_eq (by simp; omega)]
  simp
theorem Own_eq {c : Channel} (h : Few c) : z2 c = some c := by
  obtain ⟨h1, h2, h3⟩ := h
  unfold z2 Jw Ja
  rw [jaX (by omega), makec_eq (by omega), makec_eq (by omega)]
  simp only [Option.bind_some]
  rw [appc_eq (by simp; omega), appc_eq (by simp; omega)]
  simp
theorem copy_loop {α σ : Type} {l : List α} (d : α) (by_ : Nat) (hb : l.length * by_ ≤ 100000000) (hn : l.length < 1000000) (mk : Int → List α → σ) {f : σ → Option (σ ⊕ List α)}
    (hf : ∀ i o, f (mk i o) = if i < (l.length : Int) then ((ix l i).bind fun x => (appc by_ o [x]).bind fun t => (addc i 1).bind fun k => some (.inl (mk k t))) else some (.inr o)) :
    iterM FU f (mk 0 []) = some l := by
  have key := iterM_run (f := f) (fun j => mk (j : Int) (l.take j)) l.length (b := l) (fun j hj => ?_) ?_ FU (FU_lt (by omega))
  · simpa using key
  · have e : l.take (j + 1) = l.take j ++ [l[j]] := by rw [List.take_append_getElem]
    have hx : l.getD j d = l[j] := by simp [List.getD_eq_getElem?_getD, hj]
    rw [hf, if_pos (by omega), ix_nat d hj, Option.bind_some, hx, appc_eq (by
      simp only [List.length_take, List.length_cons, List.length_nil]
      have : min j l.length + (0 + 1) ≤ l.length := by omega
      have := Nat.mul_le_mul_right by_ this
      omega), Option.bind_some, addc_eq (by omega), Option.bind_some, e]
    rfl
  · rw [hf, if_neg (by omega), List.take_length]
theorem theirs_eq {c : Channel} (h : Few c) : yH c = some c := by
  obtain ⟨h1, h2, h3⟩ := h
  unfold yH
  rw [jaX (by omega)]
  simp only [Option.bind_some]
  rw [copy_loop (l := c.sands) default 24 (by omega) (by omega) (fun i o => (⟨i, o⟩ : qS)) (f := Je c) (fun i o => rfl)]
  simp only [Option.bind_some]
  rw [copy_loop (l := c.sights) default 24 (by omega) (by omega) (fun i o => (⟨i, o⟩ : q4)) (f := Jc c) (fun i o => rfl)]
  rfl
end Go.Proofs.Wb

namespace Go.Proofs.Wb
open Go Go.Fw Go.Gx Go.Sb
set_option linter.unusedVariables false
theorem KN (n lo hi : Int) : jG n lo hi = some (!inb n lo hi) := by
  unfold jG inb
  by_cases h : n < lo
  · rw [if_pos h, Option.bind_some]
    simp
    omega
  · rw [if_neg h, Option.bind_some]
    congr 1
    rw [Bool.eq_iff_iff]
    simp
    omega
theorem any_not_all {α : Type} {l : List α} {d : α} {p : α → Bool} : ((List.range l.length).any fun k => !p (l.getD k d)) = !l.all p := by
  rw [any_range (p := fun x => !p x), List.not_all_eq_any_not]
theorem ref_loop {α ρ : Type} (l : List α) (d : α) (p : α → Bool) {e : ρ} (hl : l.length < 1000000000000) {f : Int → Option (Int ⊕ (Unit ⊕ ρ))}
    (hf : ∀ k : Nat, k < l.length → f (k : Int) = some (if (!p (l.getD k d)) = true then .inr (.inr e) else .inl ((k : Int) + 1))) (he : f (l.length : Int) = some (.inr (.inl ()))) :
    iterM FU f 0 = some (if l.all p = true then .inl () else .inr e) := by
  rw [iterM_any0 (f := f) l.length (fun k => !p (l.getD k d)) e hf he (FU_lt hl), any_not_all]
  cases l.all p <;> rfl
theorem ref_up {c : Channel} (h : c.fords.length ≤ 100) : iterM FU (kD c) 1 = some (if upB c.fords = true then .inl () else .inr 4) := by
  by_cases h0 : c.fords.length = 0
  · have e : c.fords = [] := List.length_eq_zero_iff.1 h0
    obtain ⟨N, hN⟩ : ∃ N, FU = N + 1 := ⟨FU - 1, by unfold FU; rfl⟩
    rw [hN, iterM_done (b := .inl ()) (by unfold kD; rw [if_neg (by rw [e]; decide)]), e]
    rfl
  · have key := iterM_any (f := kD c) 1 (c.fords.length - 1) (fun k => decide (c.fords.getD (k + 1) (-1) ≤ c.fords.getD k (-1))) (fun _ => 4) (fun k hk => ?_) ?_ (N := FU) (FU_lt (by omega))
    · rw [key]
      cases hf : (List.range (c.fords.length - 1)).find? (fun k => decide (c.fords.getD (k + 1) (-1) ≤ c.fords.getD k (-1))) with
      | none =>
        have : upB c.fords = true := by
          rw [upB_ix]
          intro i hi
          have h2 := List.find?_eq_none.1 hf i (by simp; omega)
          simp only [decide_eq_true_eq] at h2
          omega
        rw [if_pos this]
      | some k =>
        have h2 := List.find?_some hf
        have h3 : k < c.fords.length - 1 := by simpa using List.mem_of_find?_eq_some hf
        have : ¬ upB c.fords = true := by
          rw [upB_ix]
          intro hu
          have := hu k (by omega)
          simp only [decide_eq_true_eq] at h2
          omega
        rw [if_neg this]
    · unfold kD
      rw [if_pos (by omega), show (1 : Int) + (k : Int) = ((k + 1 : Nat) : Int) by push_cast; omega, ix_nat (-1) (by omega), Option.bind_some, subc_eq (by omega), Option.bind_some, show ((k + 1 : Nat) : Int) - 1 = (k : Int) by push_cast; omega, ix_nat (-1) (by omega), Option.bind_some, addc_eq (by omega), Option.bind_some]
      by_cases h : c.fords.getD (k + 1) (-1) ≤ c.fords.getD k (-1)
      · rw [if_pos h, if_pos (by simpa using h)]
      · rw [if_neg h, if_neg (by simpa using h)]
    · unfold kD
      rw [if_neg (by omega)]
theorem many_eq' {c : Channel} {f : Bool → Option Int} : (((jG c.cells 2 10).bind fun t9 => if t9 = true then (some true) else ((jG c.tides 0 4).bind fun t14 => if t14 = true then (some true) else ((jG (c.fords.length : Int) 1 3).bind fun t21 => if t21 = true then (some true) else (if 4 < (c.sands.length : Int) then (some true) else (some (decide (8 < (c.sights.length : Int)))))))).bind f) = f (!okMany c) := by
  rw [KN, KN, KN]
  have := many_eq (c := c) (f := f)
  rw [QU, QU, QU] at this
  simp only [Option.bind_some] at this ⊢
  exact this
theorem refCheck_eq {c : Channel} (h : Few c) : yZ c = some (chk c) := by
  unfold yZ chk
  rw [many_eq']
  by_cases h1 : okMany c = true
  · rw [if_pos h1]
    rw [if_neg (by simp [h1])]
    obtain ⟨hc, ht, hf, hs, hg⟩ := okMany_iff.1 h1
    rw [ref_loop c.sands default (fun s => inb s.reach 1 2) (e := 3) (by omega) (fun k hk => by
        unfold zd
        rw [if_pos (by omega), ix_nat default hk, Option.bind_some, KN, Option.bind_some, addc_eq (by omega), Option.bind_some]
        split <;> rfl) (by unfold zd; rw [if_neg (by omega)]),
      ref_loop c.sights default (fun s => inb s.after 0 c.tides) (e := 3) (by omega) (fun k hk => by
        unfold zl
        rw [if_pos (by omega), ix_nat default hk, Option.bind_some, KN, Option.bind_some, addc_eq (by omega), Option.bind_some]
        split <;> rfl) (by unfold zl; rw [if_neg (by omega)]),
      ref_loop c.fords default (fun x => inb x 0 (c.cells - 1)) (e := 1) (by omega) (fun k hk => by
        unfold zg
        rw [if_pos (by omega), ix_nat default hk, Option.bind_some, subc_eq (by omega), Option.bind_some, KN, Option.bind_some, addc_eq (by omega), Option.bind_some]
        split <;> rfl) (by unfold zg; rw [if_neg (by omega)]),
      ref_loop c.sands default (fun s => inb s.span.lo 0 (c.cells - 1) && inb s.span.hi 0 (c.cells - 1)) (e := 1) (by omega) (fun k hk => by
        unfold zk
        rw [if_pos (by omega), ix_nat default hk, Option.bind_some, subc_eq (by omega), Option.bind_some, KN, Option.bind_some, Option.bind_some, Option.bind_some, KN, Option.bind_some, addc_eq (by omega)]
        cases inb (c.sands.getD k default).span.lo 0 (c.cells - 1) <;> cases inb (c.sands.getD k default).span.hi 0 (c.cells - 1) <;> rfl) (by unfold zk; rw [if_neg (by omega)]),
      ref_loop c.sights default (fun s => inb s.cell 0 (c.cells - 1)) (e := 1) (by omega) (fun k hk => by
        unfold zi
        rw [if_pos (by omega), ix_nat default hk, Option.bind_some, subc_eq (by omega), Option.bind_some, KN, Option.bind_some, addc_eq (by omega), Option.bind_some]
        split <;> rfl) (by unfold zi; rw [if_neg (by omega)]),
      ref_up (by omega),
      ref_loop c.sands default (fun s => decide (s.span.lo ≤ s.span.hi)) (e := 4) (by omega) (fun k hk => by
        unfold ze
        rw [if_pos (by omega), ix_nat default hk, Option.bind_some, Option.bind_some, addc_eq (by omega), Option.bind_some]
        by_cases h : (c.sands.getD k default).span.hi < (c.sands.getD k default).span.lo
        · rw [if_pos h, if_pos (by simp at h ⊢; omega)]
        · rw [if_neg h, if_neg (by simp at h ⊢; omega)]) (by unfold ze; rw [if_neg (by omega)])]
    unfold okLimit okMiss okOrder
    simp only [Option.bind_some]
    cases (c.sands.all fun s => inb s.reach 1 2)
    · rfl
    cases (c.sights.all fun s => inb s.after 0 c.tides)
    · rfl
    cases (c.fords.all fun x => inb x 0 (c.cells - 1))
    · rfl
    cases (c.sands.all fun s => inb s.span.lo 0 (c.cells - 1) && inb s.span.hi 0 (c.cells - 1))
    · rfl
    cases (c.sights.all fun s => inb s.cell 0 (c.cells - 1))
    · rfl
    cases upB c.fords
    · rfl
    cases (c.sands.all fun s => decide (s.span.lo ≤ s.span.hi))
    · rfl
    rfl
  · rw [if_neg h1, if_pos (by simp [h1])]
end Go.Proofs.Wb

namespace Go.Proofs.Wb
open Go Go.Fw Go.Gx Go.Sb
set_option linter.unusedVariables false
def stepR (x : Int) (r : Int) (s : Sand) : Int := if s.span.lo ≤ x ∧ x ≤ s.span.hi then max r s.reach else r
def rchC (l : List Sand) (x : Int) : Int := l.foldl (stepR x) 0
def rchL (c : Channel) : List Int := (List.range c.cells.toNat).map fun t : Nat => rchC c.sands (t : Int)
theorem rchC_snoc {l : List Sand} {s : Sand} {x : Int} : rchC (l ++ [s]) x = stepR x (rchC l x) s := by unfold rchC; rw [List.foldl_append]; rfl
theorem rchC_bounds {l : List Sand} {x : Int} (h : ∀ s ∈ l, 1 ≤ s.reach ∧ s.reach ≤ 2) : 0 ≤ rchC l x ∧ rchC l x ≤ 2 := by
  unfold rchC
  have key : ∀ (l : List Sand) (r : Int), (∀ s ∈ l, 1 ≤ s.reach ∧ s.reach ≤ 2) → 0 ≤ r ∧ r ≤ 2 → 0 ≤ l.foldl (stepR x) r ∧ l.foldl (stepR x) r ≤ 2 := by
    intro l
    induction l with
    | nil => intro r _ h; exact h
    | cons s l ih =>
      intro r h hr
      rw [List.foldl_cons]
      refine ih _ (fun t ht => h t (List.mem_cons_of_mem _ ht)) ?_
      have := h s List.mem_cons_self
      unfold stepR
      split <;> omega
  exact key l 0 h (by omega)
theorem refReach_eq {c : Channel} (h : c.sands.length ≤ 100) (x : Int) : y5 c x = some (rchC c.sands x) := by
  unfold y5
  have key := iterM_run (f := yi c x) (fun j => ⟨rchC (c.sands.take j) x, (j : Int)⟩) c.sands.length (b := rchC c.sands x) (fun j hj => ?_) ?_ FU (FU_lt (by omega))
  · simp only [List.take_zero] at key
    rw [show (⟨0, 0⟩ : yh) = ⟨rchC [] x, ((0 : Nat) : Int)⟩ from rfl, key]
    rfl
  · have e : c.sands.take (j + 1) = c.sands.take j ++ [c.sands[j]] := by rw [List.take_append_getElem]
    have hx : c.sands.getD j default = c.sands[j] := by simp [List.getD_eq_getElem?_getD, hj]
    unfold yi
    simp only
    rw [if_pos (by omega), ix_nat default hj, Option.bind_some, Option.bind_some, KN, Option.bind_some, Option.bind_some, hx, e, rchC_snoc, addc_eq (by omega)]
    unfold stepR inb
    by_cases h1 : c.sands[j].span.lo ≤ x ∧ x ≤ c.sands[j].span.hi
    · rw [if_pos h1]
      simp [h1]
    · rw [if_neg h1]
      have : (decide (c.sands[j].span.lo ≤ x) && decide (x ≤ c.sands[j].span.hi)) = false := by
        rw [Bool.and_eq_false_iff]
        simp only [decide_eq_false_iff_not]
        omega
      rw [this]
      rfl
  · unfold yi
    simp only
    rw [if_neg (by omega), List.take_length]
theorem reaches_in {n : Nat} {f : Nat → Int} {s : Sand} (h0 : 0 ≤ s.span.lo) (h1 : s.span.hi < n) (h2 : s.span.lo ≤ s.span.hi) (hn : n ≤ 1000) :
    iterM FU (kg s) ⟨s.span.lo, (List.range n).map f⟩ = some ((List.range n).map fun t : Nat => stepR (t : Int) (f t) s) := by
  have key := iterM_run (f := kg s) (fun j => ⟨s.span.lo + (j : Int), (List.range n).map fun t : Nat => if (s.span.lo ≤ (t : Int) ∧ (t : Int) < s.span.lo + (j : Int)) then max (f t) s.reach else f t⟩) (s.span.hi - s.span.lo + 1).toNat (b := (List.range n).map fun t : Nat => stepR (t : Int) (f t) s) (fun j hj => ?_) ?_ FU (FU_lt (by omega))
  · have e : ((List.range n).map fun t : Nat => if (s.span.lo ≤ (t : Int) ∧ (t : Int) < s.span.lo + ((0 : Nat) : Int)) then max (f t) s.reach else f t) = (List.range n).map f := by
      apply List.map_congr_left
      intro t _
      rw [if_neg (by omega)]
    simp only [e] at key
    simpa using key
  · unfold kg
    simp only
    have ej : s.span.lo + (j : Int) = ((s.span.lo.toNat + j : Nat) : Int) := by omega
    rw [if_pos (by omega), ej, range_ix (by omega), Option.bind_some, Option.bind_some, Int.toNat_natCast, range_set, Option.bind_some, addc_eq (by omega), Option.bind_some]
    congr 3
    · omega
    · apply List.map_congr_left
      intro t ht
      by_cases h : t = s.span.lo.toNat + j
      · rw [if_pos h, if_neg (by omega), if_pos (by omega)]; rw [h]
      · rw [if_neg h]
        by_cases h3 : s.span.lo ≤ (t : Int) ∧ (t : Int) < ((s.span.lo.toNat + j : Nat) : Int)
        · rw [if_pos h3, if_pos (by omega)]
        · rw [if_neg h3, if_neg (by omega)]
  · unfold kg
    simp only
    rw [if_neg (by omega)]
    congr 2
    apply List.map_congr_left
    intro t ht
    unfold stepR
    by_cases h3 : s.span.lo ≤ (t : Int) ∧ (t : Int) ≤ s.span.hi
    · rw [if_pos h3, if_pos (by omega)]
    · rw [if_neg h3, if_neg (by omega)]
theorem Zz {c : Channel} (r : Right c) : kQ c = some (rchL c) := by
  have hc := r.cells
  have hs := r.sands
  unfold kQ
  rw [makec_eq (by omega), Option.bind_some]
  have key := iterM_run (f := kX c) (fun j => ⟨(j : Int), (List.range c.cells.toNat).map fun t : Nat => rchC (c.sands.take j) (t : Int)⟩) c.sands.length (b := rchL c) (fun j hj => ?_) ?_ FU (FU_lt (by omega))
  · have e : List.replicate c.cells.toNat (0 : Int) = (List.range c.cells.toNat).map fun t : Nat => rchC (c.sands.take 0) (t : Int) := by
      apply List.ext_getElem (by simp)
      intro i h1 h2
      simp [rchC]
    rw [e, show (0 : Int) = ((0 : Nat) : Int) from rfl, key]
    rfl
  · have e : c.sands.take (j + 1) = c.sands.take j ++ [c.sands[j]] := by rw [List.take_append_getElem]
    have hx : c.sands.getD j default = c.sands[j] := by simp [List.getD_eq_getElem?_getD, hj]
    have hsp := r.span c.sands[j] (List.getElem_mem hj)
    unfold kX
    simp only
    rw [if_pos (by omega), ix_nat default hj, Option.bind_some, hx, reaches_in hsp.1 (by omega) hsp.2.2 (by omega), Option.bind_some, addc_eq (by omega), Option.bind_some]
    congr 3
    apply List.map_congr_left
    intro t _
    rw [e, rchC_snoc]
  · unfold kX
    simp only
    rw [if_neg (by omega), List.take_length]
    rfl
theorem rchL_len {c : Channel} : (rchL c).length = c.cells.toNat := by simp [rchL]
theorem rchL_get {c : Channel} {x : Int} (h : 0 ≤ x ∧ x < c.cells) : (rchL c).getD x.toNat 0 = rchC c.sands x := by
  unfold rchL
  rw [List.getD_eq_getElem?_getD, List.getElem?_map, List.getElem?_range (by omega)]
  simp
  congr 1
  omega
theorem ZY {c : Channel} (h : Few c) : zc c = some (if chk c = 0 then .inr ⟨c.cells, c.tides, rchL c⟩ else .inl (chk c)) := by
  unfold zc
  rw [jac, Option.bind_some]
  by_cases h0 : chk c = 0
  · rw [if_pos h0, if_pos h0, Zz (rightOf h0)]; rfl
  · rw [if_neg h0, if_neg h0, if_pos h0]
end Go.Proofs.Wb

namespace Go.Proofs.Wb
open Go Go.Fw Go.Gx Go.Sb
set_option linter.unusedVariables false
set_option maxRecDepth 100000
theorem jaM : ∀ {l : List Int}, l.length ≤ 3 → KO l = some (mkCells l)
  | [], _ => by decide +kernel
  | [a], _ => rfl
  | [a, b], _ => rfl
  | [a, b, c], _ => rfl
  | a :: b :: c :: d :: l, h => absurd h (by simp)
def clS (nf : Nat) (s : State) : List Int := [s.at_.c0, s.at_.c1, s.at_.c2].take nf
theorem clS_mk {l : List Int} {k : Int} (h : l.length ≤ 3) : clS l.length ⟨k, mkCells l⟩ = l := by
  unfold clS mkCells
  match l, h with
  | [], _ => rfl
  | [a], _ => rfl
  | [a, b], _ => rfl
  | [a, b, c], _ => rfl
  | a :: b :: c :: d :: l, h => exact absurd h (by simp)
theorem jbn {d0 d1 : Int} {f : List Int} {a : List Sand} {b : List Sight} {r : List Int} (h : f.length ≤ 3) (s : State) : qj d0 d1 f a b r s = some (clS f.length s) := by
  unfold qj
  rw [if_pos (by simp; omega), Int.toNat_natCast, Zv (by simp; omega)]
  rfl
theorem jaj {l : List Int} (hl : l.length < 1000000) (v : Int) : qf l v = some (decide (v ∈ l)) := by
  unfold qf JZ
  rw [contains_loop (f := yN l v) l 0 (fun x => decide (v = x)) (by omega) (fun k hk => ?_) ?_]
  · congr 1
    rw [Bool.eq_iff_iff, List.any_eq_true, decide_eq_true_eq]
    constructor
    · rintro ⟨x, hx, he⟩
      rw [decide_eq_true_eq] at he
      subst he; exact hx
    · intro h; exact ⟨v, h, by simp⟩
  · unfold yN
    rw [if_neg (by omega)]
  · unfold yN
    rw [if_pos (by omega), ix_nat 0 hk, Option.bind_some, addc_eq (by omega), Option.bind_some]
    by_cases h : v = l.getD k 0
    · rw [if_pos h, if_pos (by simpa using h)]
    · rw [if_neg h, if_neg (by simpa using h)]
def offS (k : Int) (l : List Int) (x : Sight) : Bool := decide (x.after = k) && !(decide (x.cell ∈ l) == x.upright)
def agP (cnt : Nat → Bool) (sg : List Sight) (k : Int) (l : List Int) : Bool := !(List.range sg.length).any fun i => cnt i && offS k l (sg.getD i default)
theorem agP_iff {cnt : Nat → Bool} {sg : List Sight} {k : Int} {l : List Int} : agP cnt sg k l = true ↔ ∀ i, i < sg.length → cnt i = true → (sg.getD i default).after = k → (decide ((sg.getD i default).cell ∈ l) = (sg.getD i default).upright) := by
  unfold agP
  rw [Bool.not_eq_true', List.any_eq_false]
  simp only [List.mem_range, offS, Bool.and_eq_true, decide_eq_true_eq, Bool.not_eq_true', not_and, Bool.not_eq_false, beq_iff_eq]
theorem jaP {d0 d1 : Int} {f : List Int} {a : List Sand} {sg : List Sight} {r : List Int} (h : f.length ≤ 3) (hs : sg.length ≤ 100) (s : State) : yM d0 d1 f a sg r s = some (agP (fun _ => true) sg s.after (clS f.length s)) := by
  unfold yM
  rw [iterM_any0 (f := qU sg s d0 d1 f a r) sg.length (fun k => offS s.after (clS f.length s) (sg.getD k default)) false (fun k hk => ?_) ?_ (FU_lt (by omega)), Option.bind_some]
  · unfold agP
    simp only [Bool.true_and]
    cases (List.range sg.length).any fun k => offS s.after (clS f.length s) (sg.getD k default) <;> rfl
  · unfold qU
    rw [if_neg (by omega)]
  · unfold qU K7
    rw [if_pos (by omega), ix_nat default hk, Option.bind_some, jbn h, Option.bind_some, if_pos rfl, Option.bind_some, jaj (by unfold clS; simp; omega), Option.bind_some, addc_eq (by omega)]
    unfold offS
    by_cases h1 : (sg.getD k default).after = s.after
    · rw [if_pos h1, Option.bind_some, decide_eq_true h1, Bool.true_and]
      split <;> rfl
    · rw [if_neg h1, Option.bind_some, decide_eq_false h1, Bool.false_and]
      rfl
theorem Zq {d0 d1 : Int} {f : List Int} {a : List Sand} {b : List Sight} {r : List Int} (h : f.length ≤ 3) : jU d0 d1 f a b r = some ⟨0, mkCells f⟩ := by
  unfold jU
  rw [jaM h]; rfl
theorem jag {l : List Int} (hl : l.length < 1000000) (n : Int) : ym l n = some (decide (n ∈ l)) := by
  unfold ym
  rw [iterM_any0 (f := yG l n) l.length (fun k => decide (l.getD k 0 = n)) true (fun k hk => ?_) ?_ (FU_lt (by omega)), Option.bind_some]
  · rw [any_range (p := fun x => decide (x = n))]
    cases h : l.any fun x => decide (x = n) with
    | true =>
      obtain ⟨x, hx, he⟩ := List.any_eq_true.1 h
      rw [decide_eq_true_eq] at he
      subst he
      simp [hx]
    | false =>
      have : n ∉ l := fun hm => by
        have := List.any_eq_false.1 h n hm
        simp at this
      simp [this]
  · unfold yG
    rw [if_neg (by omega)]
  · unfold yG
    rw [if_pos (by omega), ix_nat 0 hk, Option.bind_some, addc_eq (by omega), Option.bind_some]
    by_cases h : l.getD k 0 = n
    · rw [if_pos h, if_pos (by simpa using h)]
    · rw [if_neg h, if_neg (by simpa using h)]
def bitN (n i : Nat) : Bool := decide (n / 2 ^ i % 2 = 1)
theorem refAgrees_eq {c : Channel} (hs : c.sights.length ≤ 100) {l : List Int} (hl : l.length < 1000) (k : Int) (n : Nat) (hn : n ≤ 1000000000000) : yL c k l (n : Int) = some (agP (bitN n) c.sights k l) := by
  unfold yL
  have key := iterM_find (f := qV c k l) (fun j => ⟨((n / 2 ^ j : Nat) : Int), (j : Int)⟩) c.sights.length (fun i => bitN n i && offS k l (c.sights.getD i default)) (fun _ => .inr false) (.inl ()) (fun j hj _ => ?_) ?_ (N := FU) (FU_lt (by omega))
  · simp only [Nat.pow_zero, Nat.div_one] at key
    rw [show (⟨(n : Int), 0⟩ : q3) = ⟨(n : Int), ((0 : Nat) : Int)⟩ from rfl, key, Option.bind_some]
    unfold agP
    cases hf : (List.range c.sights.length).find? (fun i => bitN n i && offS k l (c.sights.getD i default)) with
    | none =>
      have : (List.range c.sights.length).any (fun i => bitN n i && offS k l (c.sights.getD i default)) = false := by
        rw [List.any_eq_false]; intro x hx; simpa using List.find?_eq_none.1 hf x hx
      rw [this]; rfl
    | some i =>
      have h2 := List.find?_some hf
      have : (List.range c.sights.length).any (fun i => bitN n i && offS k l (c.sights.getD i default)) = true := List.any_eq_true.2 ⟨i, List.mem_of_find?_eq_some hf, h2⟩
      rw [this]; rfl
  · unfold qV
    have hdv : n / 2 ^ j ≤ n := Nat.div_le_self _ _
    have e1 : ((n / 2 ^ j : Nat) : Int).tmod 2 = ((n / 2 ^ j % 2 : Nat) : Int) := by rfl
    have e2 : ((n / 2 ^ j : Nat) : Int).tdiv 2 = ((n / 2 ^ (j + 1) : Nat) : Int) := by
      rw [Nat.pow_succ, ← Nat.div_div_eq_div_mul]; rfl
    simp only
    rw [if_pos (by omega), ix_nat default hj, Option.bind_some, remc_eq (by omega), Option.bind_some, e1, jag (by omega), Option.bind_some, quoc_eq (by omega) (by rw [e2]; have h5 : n / 2 ^ (j + 1) ≤ n := Nat.div_le_self _ _; generalize n / 2 ^ (j + 1) = q at h5 ⊢; omega), Option.bind_some, addc_eq (by omega), Option.bind_some, e2]
    unfold bitN offS
    by_cases hb : n / 2 ^ j % 2 = 1
    · rw [if_pos (by omega), decide_eq_true hb, Bool.true_and]
      by_cases ha : (c.sights.getD j default).after = k
      · rw [if_pos ha, Option.bind_some, decide_eq_true ha, Bool.true_and]
        split <;> rfl
      · rw [if_neg ha, Option.bind_some, decide_eq_false ha, Bool.false_and]
        rfl
    · rw [if_neg (by omega), Option.bind_some, decide_eq_false hb, Bool.false_and]
      rfl
  · unfold qV
    simp only
    rw [if_neg (by omega)]
theorem QB {c : Channel} (hs : c.sights.length ≤ 30) : jS c = some ((2 ^ c.sights.length - 1 : Nat) : Int) := by
  unfold jS
  have hp : ∀ j, j ≤ 30 → 2 ^ j ≤ 2 ^ 30 := fun j hj => Nat.pow_le_pow_right (by omega) hj
  have key := iterM_run (f := kW c) (fun j => ⟨((2 ^ j : Nat) : Int), (j : Int)⟩) c.sights.length (b := ((2 ^ c.sights.length : Nat) : Int)) (fun j hj => ?_) ?_ FU (FU_lt (by omega))
  · rw [show (⟨1, 0⟩ : kT) = ⟨((2 ^ 0 : Nat) : Int), ((0 : Nat) : Int)⟩ from rfl, key, Option.bind_some]
    have h1 := hp c.sights.length hs
    have h2 := Nat.one_le_two_pow (n := c.sights.length)
    rw [subc_eq (by omega), Option.bind_some]
    congr 1
    omega
  · unfold kW
    have h1 := hp j (by omega)
    simp only
    rw [if_pos (by omega), mulc_eq (by generalize 2 ^ j = q at h1 ⊢; omega), Option.bind_some, addc_eq (by omega), Option.bind_some]
    rw [Nat.pow_succ]
    generalize 2 ^ j = q
    congr 3
    omega
  · unfold kW
    simp only
    rw [if_neg (by omega)]
theorem bitN_all {n i : Nat} (h : i < n) : bitN (2 ^ n - 1) i = true := by
  unfold bitN
  rw [decide_eq_true_eq]
  have h1 : 2 ^ n = 2 ^ i * (2 * 2 ^ (n - i - 1)) := by
    rw [← Nat.pow_succ', ← Nat.pow_add]
    congr 1
    omega
  have h2 := Nat.one_le_two_pow (n := i)
  have h3 := Nat.one_le_two_pow (n := n - i - 1)
  have h4 : (2 ^ n - 1) / 2 ^ i = 2 * 2 ^ (n - i - 1) - 1 := by
    rw [h1]
    generalize 2 * 2 ^ (n - i - 1) = m at *
    have hm : 1 ≤ m := by
      rcases Nat.eq_zero_or_pos m with h0 | h0
      · rw [h0, Nat.mul_zero] at h1
        have := Nat.one_le_two_pow (n := n)
        omega
      · exact h0
    obtain ⟨q, rfl⟩ : ∃ q, m = q + 1 := ⟨m - 1, by omega⟩
    rw [Nat.mul_succ, Nat.add_sub_cancel]
    rw [show 2 ^ i * q + 2 ^ i - 1 = (2 ^ i - 1) + 2 ^ i * q by omega, Nat.add_mul_div_left _ _ (by omega), Nat.div_eq_of_lt (by omega)]
    omega
  rw [h4]
  omega
theorem agP_congr {c1 c2 : Nat → Bool} {sg : List Sight} {k : Int} {l : List Int} (h : ∀ i, i < sg.length → c1 i = c2 i) : agP c1 sg k l = agP c2 sg k l := by
  rw [Bool.eq_iff_iff, agP_iff, agP_iff]
  constructor
  · intro h1 i hi hc; exact h1 i hi (by rw [h i hi]; exact hc)
  · intro h1 i hi hc; exact h1 i hi (by rw [← h i hi]; exact hc)
end Go.Proofs.Wb

namespace Go.Proofs.Wb
open Go Go.Fw Go.Gx Go.Sb
set_option linter.unusedVariables false
set_option maxRecDepth 100000
def canB (sa : List Sand) (a b : List Int) : Bool := (List.range a.length).all fun i => inb (b.getD i (-1)) (a.getD i (-1) - rchC sa (a.getD i (-1))) (a.getD i (-1) + rchC sa (a.getD i (-1)))
def rowB (c : Channel) (l : List Int) : Bool := decide (l.length = c.fords.length) && (upB l && l.all fun x => inb x 0 (c.cells - 1))
theorem rowB_iff {c : Channel} {l : List Int} : rowB c l = true ↔ l.length = c.fords.length ∧ upB l = true ∧ ∀ x ∈ l, 0 ≤ x ∧ x < c.cells := by
  unfold rowB
  simp only [Bool.and_eq_true, decide_eq_true_eq, List.all_eq_true, inb_iff]
  constructor
  · rintro ⟨h1, h2, h3⟩; exact ⟨h1, h2, fun x hx => by have := h3 x hx; omega⟩
  · rintro ⟨h1, h2, h3⟩; exact ⟨h1, h2, fun x hx => by have := h3 x hx; omega⟩
theorem jaC {a b : List Int} (hn : a.length < 1000000) : zH a b = some (decide (a = b)) := by
  unfold zH
  by_cases h : a.length = b.length
  · rw [if_pos (by omega), eq_loop 0 h hn (f := JL a b) (fun s => rfl)]
  · rw [if_neg (by omega)]
    congr 1
    symm
    rw [decide_eq_false_iff_not]
    intro e; exact h (by rw [e])
theorem getD_mem {l : List Int} {i : Nat} {d : Int} (h : i < l.length) : l.getD i d ∈ l := by
  rw [List.getD_eq_getElem?_getD, List.getElem?_eq_getElem h]
  exact List.getElem_mem h
theorem ja1 {c : Channel} (hs : c.sands.length ≤ 100) (hr : ∀ s ∈ c.sands, 1 ≤ s.reach ∧ s.reach ≤ 2) {a b : List Int} (hl : a.length ≤ b.length) (hn : a.length ≤ 1000) (ha : ∀ x ∈ a, 0 ≤ x ∧ x < 1000) : yW c a b = some (canB c.sands a b) := by
  unfold yW
  have key := iterM_any0 (f := yO a c b) a.length (fun i => !inb (b.getD i (-1)) (a.getD i (-1) - rchC c.sands (a.getD i (-1))) (a.getD i (-1) + rchC c.sands (a.getD i (-1)))) false (fun k hk => by
    have h1 := ha _ (getD_mem (d := -1) hk)
    have h2 := rchC_bounds (x := a.getD k (-1)) hr
    unfold yO
    rw [if_pos (by omega), ix_nat (-1) hk, Option.bind_some, refReach_eq hs, Option.bind_some, ix_nat (-1) (by omega), Option.bind_some, Option.bind_some, subc_eq (by omega), Option.bind_some, Option.bind_some, addc_eq (by omega), Option.bind_some, KN, Option.bind_some, addc_eq (by omega), Option.bind_some]
    split <;> rfl) (by unfold yO; rw [if_neg (by omega)]) (N := FU) (FU_lt (by omega))
  rw [key, Option.bind_some]
  unfold canB
  rw [← not_any_not]
  cases (List.range a.length).any fun i => !inb (b.getD i (-1)) (a.getD i (-1) - rchC c.sands (a.getD i (-1))) (a.getD i (-1) + rchC c.sands (a.getD i (-1))) <;> rfl
end Go.Proofs.Wb

namespace Go.Proofs.Wb
open Go Go.Fw Go.Gx Go.Sb
set_option linter.unusedVariables false
set_option maxRecDepth 100000
theorem cGet_mk {l : List Int} {i : Nat} (h : i < 3) : cGet (mkCells l) i = l.getD i (-1) := by
  have : i = 0 ∨ i = 1 ∨ i = 2 := by omega
  rcases this with rfl | rfl | rfl <;> rfl
theorem rch_eq {c : Channel} {x : Int} (h : 0 ≤ x ∧ x < c.cells) : rch (rchL c) x = rchC c.sands x := rchL_get h
theorem nextOK_of {c : Channel} (r : Right c) {a : List Int} (ha : rowB c a = true) {k : Int} (hk : -1000 ≤ k ∧ k ≤ 1000) : nextOK c.cells (rchL c) (c.fords.length : Int) ⟨k, mkCells a⟩ := by
  obtain ⟨h1, h2, h3⟩ := rowB_iff.1 ha
  have hc := r.cells
  have hf := r.fords
  refine ⟨by omega, by omega, hk.1, hk.2, fun i hi => ?_⟩
  rw [Int.toNat_natCast] at hi
  simp only
  rw [cGet_mk (by omega)]
  have h4 := h3 _ (getD_mem (l := a) (i := i) (d := -1) (by omega))
  have h5 := rchC_bounds (x := a.getD i (-1)) r.reach
  rw [rchL_get h4, rchL_len]
  omega
theorem can_iff {c : Channel} (r : Right c) {a l : List Int} (ha : rowB c a = true) (hl : rowB c l = true) : canB c.sands a l = true ↔ CanS c.cells (rchL c) c.fords.length (mkCells a) l := by
  obtain ⟨a1, a2, a3⟩ := rowB_iff.1 ha
  obtain ⟨l1, l2, l3⟩ := rowB_iff.1 hl
  have hf := r.fords
  unfold canB
  simp only [List.all_eq_true, List.mem_range, inb_iff]
  constructor
  · intro h
    refine ⟨l1, fun i hi => l3 _ (getD_mem (by omega)), fun i hi => ?_, fun i hi => upB_ix.1 l2 i (by omega)⟩
    rw [cGet_mk (by omega), rch_eq (a3 _ (getD_mem (by omega)))]
    exact h i (by omega)
  · intro h i hi
    have := h.near i (by omega)
    rw [cGet_mk (by omega), rch_eq (a3 _ (getD_mem (by omega)))] at this
    exact this
end Go.Proofs.Wb

namespace Go.Gx
open Go
theorem afind_none {α β : Type} [DecidableEq α] : ∀ {l : List (α × β)} {k : α} {i : Nat}, afind l k i = none ↔ ∀ p, p ∈ l → p.1 ≠ k
  | [], k, i => by simp [afind]
  | (k', v') :: r, k, i => by
    unfold afind
    by_cases h : k = k'
    · rw [if_pos h]
      constructor
      · intro h2; cases h2
      · intro h2; exact absurd h.symm (h2 (k', v') (by simp))
    · rw [if_neg h, afind_none]
      constructor
      · intro h2 p hp
        rcases List.mem_cons.1 hp with rfl | hp
        · exact fun e => h e.symm
        · exact h2 p hp
      · intro h2 p hp; exact h2 p (List.mem_cons_of_mem _ hp)
theorem aget_val {α β : Type} [DecidableEq α] : ∀ {l : List (α × β)} {k : α} {i : Nat}, (afind l k i).map (·.2) = (l.find? fun p => decide (p.1 = k)).map (·.2)
  | [], k, i => rfl
  | (k', v') :: r, k, i => by
    unfold afind
    by_cases h : k = k'
    · rw [if_pos h, List.find?_cons, decide_eq_true h.symm]; rfl
    · rw [if_neg h, aget_val (i := i + 1), List.find?_cons, decide_eq_false (fun e => h e.symm)]
theorem find_modify {α β : Type} [DecidableEq α] (v : β) (k x : α) : ∀ {l : List (α × β)} {i j : Nat} {v0 : β}, afind l k j = some (i, v0) → ((l.modify (i - j) (fun p => (p.1, v))).find? fun p => decide (p.1 = x)).map (·.2) = if x = k then some v else (l.find? fun p => decide (p.1 = x)).map (·.2)
  | [], i, j, v0, h => by cases h
  | (k', v') :: r, i, j, v0, h => by
    unfold afind at h
    by_cases hk : k = k'
    · rw [if_pos hk] at h
      cases h
      rw [Nat.sub_self, List.modify_zero_cons, List.find?_cons, List.find?_cons]
      subst hk
      by_cases hx : k = x
      · rw [decide_eq_true hx, if_pos hx.symm]; rfl
      · rw [decide_eq_false hx, if_neg (fun e => hx e.symm)]
    · rw [if_neg hk] at h
      have hle := (afind_some h).1
      have e : i - j = (i - (j + 1)) + 1 := by omega
      rw [e, List.modify_succ_cons, List.find?_cons, List.find?_cons]
      have ih := find_modify v k x h
      by_cases hx : k' = x
      · rw [decide_eq_true hx, if_neg (fun e => hk (by rw [← e, hx]))]
      · rw [decide_eq_false hx]; exact ih
theorem aget_aset {α β : Type} [DecidableEq α] (l : List (α × β)) (k x : α) (v : β) : aget (aset l k v) x = if x = k then some v else aget l x := by
  unfold aget aset
  rw [aget_val, aget_val]
  cases h : afind l k 0 with
  | none =>
    simp only
    rw [List.find?_append]
    by_cases hx : x = k
    · subst hx
      have : (l.find? fun p => decide (p.1 = x)) = none := by
        rw [List.find?_eq_none]
        intro p hp
        simpa using afind_none.1 h p hp
      rw [this, if_pos rfl]
      simp
    · rw [if_neg hx]
      have : (List.find? (fun p : α × β => decide (p.1 = x)) [(k, v)]) = none := by
        rw [List.find?_cons, decide_eq_false (fun e => hx e.symm)]; rfl
      rw [this, Option.or_none]
  | some p =>
    obtain ⟨i, v0⟩ := p
    exact find_modify v k x h
end Go.Gx
namespace Go.Proofs.Wb
open Go Go.Fw Go.Gx Go.Sb
set_option linter.unusedVariables false
abbrev ML := List (State × Int)
def fR (M : State → ML → Option (Int × ML)) (x : State) (p : Int × ML) : Option (Int × ML) := (M x p.2).bind fun q => (addc p.1 q.1).bind fun t => some (t, q.2)
structure RestEq (M : Nat → State → ML → Option (Int × ML)) (V : State → Prop) (ag : State → Bool) (nx : State → List State) (T : Int) : Prop where
  eq : ∀ fu s ml, V s → M (fu + 1) s ml = if (aget ml s).isSome = true then some ((aget ml s).getD 0, ml) else if ag s = true then (if s.after = T then some (1, aset ml s 1) else (iterL (fR (M fu)) (nx s) (0, ml)).bind fun p => some (p.1, aset p.2 s p.1)) else some (0, aset ml s 0)
  nxV : ∀ s t, V s → s.after < T → t ∈ nx s → V t ∧ t.after = s.after + 1
  le : ∀ s, V s → s.after ≤ T
  len : ∀ s, (nx s).length ≤ 1000
theorem sum_le {α : Type} (f : α → Nat) (B : Nat) : ∀ (l : List α), (∀ x ∈ l, f x ≤ B) → (l.map f).sum ≤ l.length * B
  | [], _ => by simp
  | x :: l, h => by
    rw [List.map_cons, List.sum_cons, List.length_cons, Nat.succ_mul]
    have h1 := h x List.mem_cons_self
    have h2 := sum_le f B l (fun y hy => h y (List.mem_cons_of_mem _ hy))
    omega
theorem R_le {nx : State → List State} {ag : State → Bool} (h : ∀ s, (nx s).length ≤ 1000) : ∀ k s, R nx ag k s ≤ 1000 ^ k
  | 0, s => by rw [R]; split <;> simp
  | k + 1, s => by
    rw [R]
    split
    · have h1 := sum_le (R nx ag k) (1000 ^ k) (nx s) (fun x _ => R_le h k x)
      have h2 := Nat.mul_le_mul_right (1000 ^ k) (h s)
      rw [Nat.pow_succ, Nat.mul_comm]
      omega
    · exact Nat.zero_le _
section
variable {nx : State → List State} {ag : State → Bool} {T : Int}
def valR (nx : State → List State) (ag : State → Bool) (T : Int) (s : State) : Int := (R nx ag (T - s.after).toNat s : Nat)
def Sound (nx : State → List State) (ag : State → Bool) (T : Int) (ml : ML) : Prop := ∀ x v, aget ml x = some v → v = valR nx ag T x
def Closed (nx : State → List State) (ag : State → Bool) (T : Int) (ml : ML) : Prop := ∀ x, (aget ml x).isSome = true → ag x = true → x.after < T → ∀ t ∈ nx x, (aget ml t).isSome = true
def Grows (ml ml' : ML) : Prop := ∀ x, (aget ml x).isSome = true → (aget ml' x).isSome = true
theorem Grows.trans {a b c : ML} (h : Grows a b) (h' : Grows b c) : Grows a c := fun x hx => h' x (h x hx)
theorem Sound.set {ml : ML} (h : Sound nx ag T ml) {s : State} {v : Int} (hv : v = valR nx ag T s) : Sound nx ag T (aset ml s v) := by
  intro x w hx
  rw [aget_aset] at hx
  split at hx
  · rename_i e; subst e; rw [← Option.some.inj hx]; exact hv
  · exact h x w hx
theorem Grows.set (ml : ML) (s : State) (v : Int) : Grows ml (aset ml s v) := by
  intro x hx
  rw [aget_aset]
  split
  · rfl
  · exact hx
theorem Closed.set {ml : ML} (h : Closed nx ag T ml) {s : State} {v : Int} (hs : ag s = true → s.after < T → ∀ t ∈ nx s, (aget ml t).isSome = true) : Closed nx ag T (aset ml s v) := by
  intro x hx ha hl t ht
  by_cases e : x = s
  · subst e; exact Grows.set ml x v t (hs ha hl t ht)
  · rw [aget_aset, if_neg e] at hx
    exact Grows.set ml s v t (h x hx ha hl t ht)
def Good (nx : State → List State) (ag : State → Bool) (T : Int) (ml : ML) (s : State) (r : Option (Int × ML)) : Prop := ∃ ml', r = some (valR nx ag T s, ml') ∧ Sound nx ag T ml' ∧ Closed nx ag T ml' ∧ Grows ml ml' ∧ (aget ml' s).isSome = true
theorem rest_loop {M : State → ML → Option (Int × ML)} : ∀ (l : List State) (n : Int) (ml : ML), (∀ x ∈ l, ∀ ml, Sound nx ag T ml → Closed nx ag T ml → Good nx ag T ml x (M x ml)) → 0 ≤ n → n + ((l.length : Nat) : Int) * 1000000000000 ≤ 1000000000000000 → (∀ x ∈ l, valR nx ag T x ≤ 1000000000000) → Sound nx ag T ml → Closed nx ag T ml →
    ∃ ml', iterL (fR M) l (n, ml) = some (n + ((l.map fun x => R nx ag (T - x.after).toNat x).sum : Nat), ml') ∧ Sound nx ag T ml' ∧ Closed nx ag T ml' ∧ Grows ml ml' ∧ ∀ x ∈ l, (aget ml' x).isSome = true
  | [], n, ml, _, _, _, _, hS, hC => ⟨ml, by simp [iterL], hS, hC, fun _ h => h, fun x hx => by cases hx⟩
  | x :: l, n, ml, hM, h0, hb, hv, hS, hC => by
    obtain ⟨m1, e1, s1, c1, g1, i1⟩ := hM x List.mem_cons_self ml hS hC
    have hx := hv x List.mem_cons_self
    have hx0 : 0 ≤ valR nx ag T x := Int.natCast_nonneg _
    rw [List.length_cons] at hb
    obtain ⟨m2, e2, s2, c2, g2, i2⟩ := rest_loop l (n + valR nx ag T x) m1 (fun y hy => hM y (List.mem_cons_of_mem _ hy)) (by omega) (by push_cast at hb ⊢; omega) (fun y hy => hv y (List.mem_cons_of_mem _ hy)) s1 c1
    refine ⟨m2, ?_, s2, c2, g1.trans g2, fun y hy => ?_⟩
    · rw [iterL]
      unfold fR
      simp only
      rw [e1, Option.bind_some, addc_eq (by push_cast at hb; omega), Option.bind_some, Option.bind_some]
      have := e2
      unfold fR at this
      rw [this, List.map_cons, List.sum_cons]
      unfold valR
      push_cast
      rw [Int.add_assoc]
    · rcases List.mem_cons.1 hy with rfl | hy
      · exact g2 _ i1
      · exact i2 y hy
theorem rest_spec {M : Nat → State → ML → Option (Int × ML)} {V : State → Prop} (h : RestEq M V ag nx T) (hT : 0 ≤ T ∧ T ≤ 4) : ∀ (k : Nat) (fu : Nat) (s : State) (ml : ML), V s → 0 ≤ s.after → (T - s.after).toNat = k → k < fu → Sound nx ag T ml → Closed nx ag T ml → Good nx ag T ml s (M fu s ml) := by
  intro k
  induction k with
  | zero =>
    intro fu s ml hV h0 hk hf hS hC
    obtain ⟨fu, rfl⟩ : ∃ f, fu = f + 1 := ⟨fu - 1, by omega⟩
    have hle := h.le s hV
    have hl : s.after = T := by omega
    rw [h.eq fu s ml hV]
    by_cases h1 : (aget ml s).isSome = true
    · rw [if_pos h1]
      obtain ⟨v, hv⟩ := Option.isSome_iff_exists.1 h1
      refine ⟨ml, ?_, hS, hC, fun _ h => h, h1⟩
      rw [hv, Option.getD_some, hS s v hv]
    · rw [if_neg h1]
      by_cases h2 : ag s = true
      · rw [if_pos h2, if_pos hl]
        have e : (1 : Int) = valR nx ag T s := by unfold valR; rw [hk, R, if_pos h2]; rfl
        refine ⟨_, ?_, hS.set e, hC.set (fun _ hlt => absurd hlt (by omega)), Grows.set _ _ _, by rw [aget_aset, if_pos rfl]; rfl⟩
        rw [← e]
      · rw [if_neg h2]
        have e : (0 : Int) = valR nx ag T s := by unfold valR; rw [hk, R, if_neg h2]; rfl
        refine ⟨_, ?_, hS.set e, hC.set (fun ha => absurd ha h2), Grows.set _ _ _, by rw [aget_aset, if_pos rfl]; rfl⟩
        rw [← e]
  | succ k ih =>
    intro fu s ml hV h0 hk hf hS hC
    obtain ⟨fu, rfl⟩ : ∃ f, fu = f + 1 := ⟨fu - 1, by omega⟩
    have hl : s.after < T := by omega
    rw [h.eq fu s ml hV]
    by_cases h1 : (aget ml s).isSome = true
    · rw [if_pos h1]
      obtain ⟨v, hv⟩ := Option.isSome_iff_exists.1 h1
      refine ⟨ml, ?_, hS, hC, fun _ h => h, h1⟩
      rw [hv, Option.getD_some, hS s v hv]
    · rw [if_neg h1]
      by_cases h2 : ag s = true
      · rw [if_pos h2, if_neg (by omega)]
        have hlen := h.len s
        have hmx : (1000 : Nat) ^ k ≤ 1000 ^ 4 := Nat.pow_le_pow_right (by omega) (by omega)
        obtain ⟨m2, e2, s2, c2, g2, i2⟩ := rest_loop (M := M fu) (nx s) 0 ml (fun x hx ml hS hC => by
            obtain ⟨v1, v2⟩ := h.nxV s x hV hl hx
            exact ih fu x ml v1 (by omega) (by omega) (by omega) hS hC) (by omega) (by omega) (fun x hx => by
            obtain ⟨v1, v2⟩ := h.nxV s x hV hl hx
            have e3 : (T - x.after).toNat = k := by omega
            unfold valR
            rw [e3]
            have := R_le (nx := nx) (ag := ag) h.len k x
            have : R nx ag k x ≤ 1000000000000 := by
              have e4 : (1000 : Nat) ^ 4 = 1000000000000 := by decide
              omega
            omega) hS hC
        have e : ((0 : Int) + (((nx s).map fun x => R nx ag (T - x.after).toNat x).sum : Nat)) = valR nx ag T s := by
          unfold valR
          rw [hk, R, if_pos h2, Int.zero_add]
          congr 2
          apply List.map_congr_left
          intro x hx
          obtain ⟨v1, v2⟩ := h.nxV s x hV hl hx
          rw [show (T - x.after).toNat = k by omega]
        rw [e2, Option.bind_some, e]
        exact ⟨_, rfl, s2.set rfl, c2.set (fun _ _ => i2), g2.trans (Grows.set _ _ _), by rw [aget_aset, if_pos rfl]; rfl⟩
      · rw [if_neg h2]
        have e : (0 : Int) = valR nx ag T s := by unfold valR; rw [hk, R, if_neg h2]; rfl
        refine ⟨_, ?_, hS.set e, hC.set (fun ha => absurd ha h2), Grows.set _ _ _, by rw [aget_aset, if_pos rfl]; rfl⟩
        rw [← e]
end
end Go.Proofs.Wb

namespace Go.Proofs.Wb
open Go Go.Fw Go.Gx Go.Sb
set_option linter.unusedVariables false
set_option maxRecDepth 100000
theorem iterL_pair {α σ τ : Type} (g : σ → τ) {f : α → σ → Option σ} {f' : α → τ → Option τ} (h : ∀ x s, (f x s).map g = f' x (g s)) : ∀ (l : List α) (s : σ), (iterL f l s).map g = iterL f' l (g s)
  | [], s => rfl
  | x :: l, s => by
    rw [iterL, iterL, ← h]
    cases f x s with
    | none => rfl
    | some s' => exact iterL_pair g h l s'
def VS (c : Channel) (s : State) : Prop := (∃ l, rowB c l = true ∧ s.at_ = mkCells l) ∧ 0 ≤ s.after ∧ s.after ≤ c.tides
def agS (cnt : Nat → Bool) (c : Channel) (s : State) : Bool := agP cnt c.sights s.after (clS c.fords.length s)
def nxS (c : Channel) (s : State) : List State := nextL c.cells (rchL c) (c.fords.length : Int) s
theorem putL_len {n : Nat} {reach : List Int} {a : Cells} : ∀ (m : Nat) (pre : List Int), (putL n reach a m pre).length ≤ n ^ m
  | 0, pre => by simp [putL]
  | m + 1, pre => by
    rw [putL, List.length_flatMap]
    have h := sum_le (fun x : Nat => (if okN reach a pre (x : Int) = true then putL n reach a m (pre ++ [(x : Int)]) else []).length) (n ^ m) (List.range n) (fun x _ => by
      split
      · exact putL_len m _
      · exact Nat.zero_le _)
    rw [List.length_range] at h
    rw [Nat.pow_succ, Nat.mul_comm]
    exact h
theorem nxS_len {c : Channel} (r : Right c) (s : State) : (nxS c s).length ≤ 1000 := by
  have hc := r.cells
  have hf := r.fords
  unfold nxS nextL
  rw [List.length_map]
  refine Nat.le_trans (putL_len _ _) ?_
  have h1 : c.cells.toNat ^ (c.fords.length : Int).toNat ≤ 10 ^ (c.fords.length : Int).toNat := Nat.pow_le_pow_left (by omega) _
  have h2 : 10 ^ (c.fords.length : Int).toNat ≤ 10 ^ 3 := Nat.pow_le_pow_right (by omega) (by omega)
  omega
theorem nxS_mem {c : Channel} (r : Right c) {s t : State} : t ∈ nxS c s ↔ ∃ l, CanS c.cells (rchL c) c.fords.length s.at_ l ∧ t = ⟨s.after + 1, mkCells l⟩ := by
  have hc := r.cells
  unfold nxS
  rw [mem_nextL (by omega), Int.toNat_natCast]
theorem row_of_can {c : Channel} {a : Cells} {l : List Int} (h : CanS c.cells (rchL c) c.fords.length a l) : rowB c l = true := by
  rw [rowB_iff]
  refine ⟨h.len, upB_ix.2 fun i hi => h.up i (by rw [← h.len]; exact hi), fun x hx => ?_⟩
  obtain ⟨i, hi, rfl⟩ := List.getElem_of_mem hx
  have := h.inC i (by rw [← h.len]; exact hi)
  simpa [List.getD_eq_getElem?_getD, hi] using this
theorem nxS_V {c : Channel} (r : Right c) {s t : State} (hs : VS c s) (hl : s.after < c.tides) (ht : t ∈ nxS c s) : VS c t ∧ t.after = s.after + 1 := by
  obtain ⟨l, h1, rfl⟩ := (nxS_mem r).1 ht
  obtain ⟨_, h2, h3⟩ := hs
  exact ⟨⟨⟨l, row_of_can h1, rfl⟩, by simp only; omega, by simp only; omega⟩, rfl⟩
theorem nxS_nodup {c : Channel} (r : Right c) (s : State) : (nxS c s).Nodup := nextL_nodup (by have := r.fords; omega)
theorem VS_next {c : Channel} (r : Right c) {s : State} (h : VS c s) : nextOK c.cells (rchL c) (c.fords.length : Int) s := by
  obtain ⟨⟨l, h1, h2⟩, h3, h4⟩ := h
  have ht := r.tides
  obtain ⟨k, a⟩ := s
  simp only at h2 h3 h4
  subst h2
  exact nextOK_of r h1 (by omega)
def MR (c : Channel) (fu : Nat) (s : State) (ml : ML) : Option (Int × ML) := (jN fu s ml c.cells c.tides c.fords c.sands c.sights (rchL c)).map fun q => (q.r0, q.a11)
theorem restEq_all {c : Channel} (r : Right c) : RestEq (MR c) (VS c) (agS (fun _ => true) c) (nxS c) c.tides where
  eq fu s ml hV := by
    have hf := r.fords
    have hs := r.sights
    unfold MR
    rw [jN]
    unfold yt
    by_cases h1 : (aget ml s).isSome = true
    · rw [if_pos h1, if_pos h1]; rfl
    · rw [if_neg h1, if_neg h1, jaP (by omega) (by omega), Option.bind_some, not_true_if]
      show _ = if agS (fun _ => true) c s = true then _ else _
      unfold agS
      by_cases h2 : agP (fun _ => true) c.sights s.after (clS c.fords.length s) = true
      · rw [if_pos h2, if_pos h2]
        by_cases h3 : s.after = c.tides
        · rw [if_pos h3, if_pos h3]; rfl
        · rw [if_neg h3, if_neg h3]
          unfold qh
          rw [Option.bind_some, if_pos (VS_next r hV)]
          have hp := iterL_pair (fun q : kq => (q.n9, q.a11)) (f := qe (jN fu) c.cells c.tides c.fords c.sands c.sights (rchL c)) (f' := fR (MR c fu)) (fun x q => by
            unfold qe fR MR
            cases jN fu x q.a11 c.cells c.tides c.fords c.sands c.sights (rchL c) with
            | none => rfl
            | some q' =>
              simp only [Option.bind_some, Option.map_some]
              cases addc q.n9 q'.r0 <;> rfl) (nxS c s) ⟨0, ml⟩
          simp only at hp
          show _ = (iterL (fR (MR c fu)) (nxS c s) (0, ml)).bind _
          rw [← hp]
          unfold nxS
          cases iterL (qe (jN fu) c.cells c.tides c.fords c.sands c.sights (rchL c)) (nextL c.cells (rchL c) (c.fords.length : Int) s) ⟨0, ml⟩ <;> rfl
      · rw [if_neg h2, if_neg h2]; rfl
  nxV s t hs hl ht := nxS_V r hs hl ht
  le s hs := hs.2.2
  len s := nxS_len r s
def first (c : Channel) : State := ⟨0, mkCells c.fords⟩
theorem first_V {c : Channel} (r : Right c) : VS c (first c) := ⟨⟨c.fords, rowB_iff.2 ⟨rfl, r.up, r.fcell⟩, rfl⟩, Int.le_refl _, r.tides.1⟩
theorem Z8 {c : Channel} (r : Right c) : ∃ ml, yp c.cells c.tides c.fords c.sands c.sights (rchL c) = some ml ∧ Sound (nxS c) (agS (fun _ => true) c) c.tides ml ∧ Closed (nxS c) (agS (fun _ => true) c) c.tides ml ∧ (aget ml (first c)).isSome = true := by
  have hf := r.fords
  have ht := r.tides
  unfold yp
  rw [Zq (by omega), Option.bind_some]
  obtain ⟨ml, e, s1, c1, _, i1⟩ := rest_spec (restEq_all r) ht (c.tides - (first c).after).toNat FU (first c) [] (first_V r) (Int.le_refl _) rfl (by unfold first FU; simp only; omega) (fun x v hx => by simp [aget, afind] at hx) (fun x hx => by simp [aget, afind] at hx)
  unfold MR at e
  rw [Option.map_eq_some_iff] at e
  obtain ⟨q, e1, e2⟩ := e
  simp only [Prod.mk.injEq] at e2
  refine ⟨ml, ?_, s1, c1, i1⟩
  show (jN FU (first c) [] c.cells c.tides c.fords c.sands c.sights (rchL c)).bind _ = _
  rw [e1, Option.bind_some, e2.2]
def cntS (cnt : Nat → Bool) (c : Channel) : Nat := R (nxS c) (agS cnt c) c.tides.toNat (first c)
theorem Z9 {c : Channel} (r : Right c) : kU c.cells c.tides c.fords c.sands c.sights (rchL c) = some (cntS (fun _ => true) c : Int) := by
  have hf := r.fords
  unfold kU KB
  obtain ⟨ml, e, s1, c1, i1⟩ := Z8 r
  rw [Option.bind_some, e, Option.bind_some, Zq (by omega), Option.bind_some]
  obtain ⟨v, hv⟩ := Option.isSome_iff_exists.1 i1
  have := s1 _ _ hv
  show some ((aget ml (first c)).getD 0) = _
  rw [hv, Option.getD_some, this]
  unfold valR cntS first
  simp
theorem ja7 {c : Channel} (h : Few c) : zJ c = some (if chk c = 0 then ⟨(cntS (fun _ => true) c : Int), 0⟩ else ⟨0, chk c⟩) := by
  unfold zJ
  rw [ZY h, Option.bind_some]
  by_cases h0 : chk c = 0
  · rw [if_pos h0, if_pos h0, oc_inr, Z9 (rightOf h0)]; rfl
  · rw [if_neg h0, if_neg h0, oc_inl]
end Go.Proofs.Wb

namespace Go.Proofs.Wb
open Go Go.Fw Go.Gx Go.Sb
set_option linter.unusedVariables false
set_option maxRecDepth 100000
def stepP (ml : ML) (p : List (State × Bool) × List State) (x : State) : List (State × Bool) × List State := if 0 < (aget ml x).getD 0 ∧ (aget p.1 x).getD false = false then (aset p.1 x true, p.2 ++ [x]) else p
theorem stepP_len (ml : ML) : ∀ (L : List State) (p : List (State × Bool) × List State), (L.foldl (stepP ml) p).2.length ≤ p.2.length + L.length
  | [], p => by simp
  | x :: L, p => by
    rw [List.foldl_cons, List.length_cons]
    have h := stepP_len ml L (stepP ml p x)
    have h2 : (stepP ml p x).2.length ≤ p.2.length + 1 := by
      unfold stepP
      split
      · simp
      · omega
    omega
theorem fit_F2 (ml : ML) : ∀ (L : List State) (p : List (State × Bool) × List State), p.2.length + L.length ≤ 3000000000000 → iterL (qL ml) L ⟨p.1, p.2⟩ = some ⟨(L.foldl (stepP ml) p).1, (L.foldl (stepP ml) p).2⟩
  | [], p, _ => rfl
  | x :: L, p, h => by
    rw [List.length_cons] at h
    rw [iterL, List.foldl_cons]
    have hs : qL ml x ⟨p.1, p.2⟩ = some ⟨(stepP ml p x).1, (stepP ml p x).2⟩ := by
      unfold qL stepP
      simp only
      by_cases h1 : 0 < (aget ml x).getD 0
      · rw [if_pos h1, Option.bind_some]
        by_cases h2 : (aget p.1 x).getD false = false
        · rw [if_pos (by simp [h2]), if_pos ⟨h1, h2⟩, appc_eq (by simp; omega)]
          rfl
        · rw [if_neg (by simpa using h2), if_neg (fun q => h2 q.2)]
      · rw [if_neg h1, Option.bind_some, if_neg (by decide), if_neg (fun q => h1 q.1)]
    have h2 : (stepP ml p x).2.length ≤ p.2.length + 1 := stepP_len ml [x] p
    rw [hs, Option.bind_some]
    exact fit_F2 ml L (stepP ml p x) (by omega)
def Met (p : List (State × Bool) × List State) : Prop := ∀ x, (aget p.1 x).getD false = decide (x ∈ p.2)
theorem stepP_met {ml : ML} {p : List (State × Bool) × List State} {x : State} (h : Met p) : Met (stepP ml p x) ∧ ∀ y, y ∈ (stepP ml p x).2 ↔ y ∈ p.2 ∨ (y = x ∧ 0 < (aget ml y).getD 0) := by
  unfold stepP
  by_cases h1 : 0 < (aget ml x).getD 0 ∧ (aget p.1 x).getD false = false
  · rw [if_pos h1]
    constructor
    · intro y
      simp only
      rw [aget_aset]
      by_cases e : y = x
      · rw [if_pos e]; simp [e]
      · rw [if_neg e, h y]; simp [e]
    · intro y
      simp only [List.mem_append, List.mem_singleton]
      constructor
      · rintro (h2 | rfl)
        · exact .inl h2
        · exact .inr ⟨rfl, h1.1⟩
      · rintro (h2 | ⟨rfl, _⟩)
        · exact .inl h2
        · exact .inr rfl
  · rw [if_neg h1]
    refine ⟨h, fun y => ⟨.inl, ?_⟩⟩
    rintro (h2 | ⟨rfl, h2⟩)
    · exact h2
    · have h3 : ¬ (aget p.1 y).getD false = false := fun q => h1 ⟨h2, q⟩
      rw [h y] at h3
      simpa using h3
theorem foldP_met {ml : ML} : ∀ (L : List State) (p : List (State × Bool) × List State), Met p → Met (L.foldl (stepP ml) p) ∧ ∀ y, y ∈ (L.foldl (stepP ml) p).2 ↔ y ∈ p.2 ∨ (y ∈ L ∧ 0 < (aget ml y).getD 0)
  | [], p, h => ⟨h, fun y => by simp⟩
  | x :: L, p, h => by
    obtain ⟨h1, h2⟩ := stepP_met (ml := ml) (x := x) h
    obtain ⟨h3, h4⟩ := foldP_met L _ h1
    refine ⟨h3, fun y => ?_⟩
    rw [List.foldl_cons, h4 y, h2 y, List.mem_cons]
    constructor
    · rintro ((h | ⟨h, q⟩) | ⟨h, q⟩)
      · exact .inl h
      · exact .inr ⟨.inl h, q⟩
      · exact .inr ⟨.inr h, q⟩
    · rintro (h | ⟨h | h, q⟩)
      · exact .inl (.inl h)
      · exact .inl (.inr ⟨h, q⟩)
      · exact .inr ⟨h, q⟩
def rowP (ml : ML) (nx : State → List State) (l : List State) : List State := ((l.flatMap nx).foldl (stepP ml) ([], [])).2
theorem mem_rowP {ml : ML} {nx : State → List State} {l : List State} {y : State} : y ∈ rowP ml nx l ↔ (∃ s ∈ l, y ∈ nx s) ∧ 0 < (aget ml y).getD 0 := by
  unfold rowP
  rw [(foldP_met (ml := ml) (l.flatMap nx) ([], []) (fun x => by simp [aget, afind])).2 y, List.mem_flatMap]
  simp
theorem flatMap_len {nx : State → List State} (h : ∀ s, (nx s).length ≤ 1000) (l : List State) : (l.flatMap nx).length ≤ l.length * 1000 := by
  rw [List.length_flatMap]
  exact sum_le (fun s => (nx s).length) 1000 l (fun x _ => h x)
theorem rowP_len {ml : ML} {nx : State → List State} (h : ∀ s, (nx s).length ≤ 1000) (l : List State) : (rowP ml nx l).length ≤ l.length * 1000 := by
  have := stepP_len ml (l.flatMap nx) ([], [])
  have := flatMap_len h l
  unfold rowP
  simp only [List.length_nil, Nat.zero_add] at *
  omega
theorem fit_L1 {c : Channel} (r : Right c) (ml : ML) {l : List State} (hl : l.length ≤ 1000000000) (hV : ∀ s ∈ l, VS c s) :
    ∃ met, iterM FU (kP l c.cells c.tides c.fords c.sands c.sights (rchL c) ml) ⟨0, [], []⟩ = some ⟨met, rowP ml (nxS c) l⟩ := by
  refine ⟨((l.flatMap (nxS c)).foldl (stepP ml) ([], [])).1, ?_⟩
  have key := iterM_run (f := kP l c.cells c.tides c.fords c.sands c.sights (rchL c) ml) (fun j => ⟨(j : Int), (((l.take j).flatMap (nxS c)).foldl (stepP ml) ([], [])).1, (((l.take j).flatMap (nxS c)).foldl (stepP ml) ([], [])).2⟩) l.length (b := ⟨((l.flatMap (nxS c)).foldl (stepP ml) ([], [])).1, ((l.flatMap (nxS c)).foldl (stepP ml) ([], [])).2⟩) (fun j hj => ?_) ?_ FU (FU_lt (by omega))
  · exact key
  · have e : l.take (j + 1) = l.take j ++ [l[j]] := by rw [List.take_append_getElem]
    have hx : l.getD j default = l[j] := by simp [List.getD_eq_getElem?_getD, hj]
    unfold kP qh
    simp only
    rw [if_pos (by omega), ix_nat default hj, Option.bind_some, hx, Option.bind_some, if_pos (VS_next r (hV _ (List.getElem_mem hj)))]
    have h1 := stepP_len ml ((l.take j).flatMap (nxS c)) ([], [])
    have h2 := flatMap_len (nxS_len r) (l.take j)
    have h3 := nxS_len r l[j]
    have h4 : (l.take j).length ≤ l.length := by rw [List.length_take]; omega
    have h5 := Nat.mul_le_mul_right 1000 h4
    have hf := fit_F2 ml (nxS c l[j]) (((l.take j).flatMap (nxS c)).foldl (stepP ml) ([], [])) (by simp only [List.length_nil, Nat.zero_add] at h1; omega)
    unfold nxS at hf
    unfold nxS
    rw [hf, Option.bind_some, addc_eq (by omega), Option.bind_some, e, List.flatMap_append, List.foldl_append]
    simp
  · unfold kP
    simp only
    rw [if_neg (by omega), List.take_length]
def lev (c : Channel) (ml : ML) : Nat → List State
  | 0 => [first c]
  | k + 1 => rowP ml (nxS c) (lev c ml k)
theorem lev_len {c : Channel} (r : Right c) (ml : ML) : ∀ k, (lev c ml k).length ≤ 1000 ^ k
  | 0 => by simp [lev]
  | k + 1 => by
    have h := rowP_len (ml := ml) (nxS_len r) (lev c ml k)
    have h2 := Nat.mul_le_mul_right 1000 (lev_len r ml k)
    rw [lev, Nat.pow_succ]
    omega
theorem lev_V {c : Channel} (r : Right c) (ml : ML) : ∀ k : Nat, (k : Int) ≤ c.tides → ∀ s ∈ lev c ml k, VS c s ∧ s.after = (k : Int)
  | 0, _, s, hs => by
    simp only [lev, List.mem_singleton] at hs
    subst hs
    exact ⟨first_V r, rfl⟩
  | k + 1, hk, s, hs => by
    obtain ⟨⟨u, hu, hn⟩, _⟩ := mem_rowP.1 hs
    obtain ⟨h1, h2⟩ := lev_V r ml k (by omega) u hu
    obtain ⟨h3, h4⟩ := nxS_V r h1 (by omega) hn
    exact ⟨h3, by omega⟩
theorem lev_on {c : Channel} (r : Right c) {ml : ML} (hS : Sound (nxS c) (agS (fun _ => true) c) c.tides ml) (hC : Closed (nxS c) (agS (fun _ => true) c) c.tides ml) (hi : (aget ml (first c)).isSome = true) (hp : 0 < cntS (fun _ => true) c) :
    ∀ k : Nat, (k : Int) ≤ c.tides → ∀ t, (t ∈ lev c ml k ↔ On (nxS c) (agS (fun _ => true) c) k c.tides.toNat (first c) t) ∧ (t ∈ lev c ml k → (aget ml t).isSome = true)
  | 0, _, t => by
    constructor
    · rw [lev, List.mem_singleton, on_zero]
      constructor
      · intro h; exact ⟨h, hp⟩
      · exact fun h => h.1
    · intro h
      rw [lev, List.mem_singleton] at h
      rw [h]; exact hi
  | k + 1, hk, t => by
    have ih := lev_on r hS hC hi hp k (by omega)
    have hsome : t ∈ lev c ml (k + 1) → (aget ml t).isSome = true := by
      intro h
      have h2 := (mem_rowP.1 h).2
      cases hq : aget ml t with
      | none => rw [hq] at h2; simp at h2
      | some v => rfl
    refine ⟨?_, hsome⟩
    rw [on_succ (by omega)]
    constructor
    · intro h
      obtain ⟨⟨u, hu, hn⟩, h2⟩ := mem_rowP.1 h
      obtain ⟨v1, v2⟩ := lev_V r ml k (by omega) u hu
      obtain ⟨v3, v4⟩ := nxS_V r v1 (by omega) hn
      refine ⟨u, (ih u).1.1 hu, hn, ?_⟩
      obtain ⟨v, hv⟩ := Option.isSome_iff_exists.1 (hsome h)
      have h3 := hS t v hv
      rw [hv, Option.getD_some, h3] at h2
      unfold valR at h2
      rw [show (c.tides - t.after).toNat = c.tides.toNat - k - 1 by omega] at h2
      omega
    · rintro ⟨u, hu, hn, h2⟩
      have hu' := (ih u).1.2 hu
      obtain ⟨v1, v2⟩ := lev_V r ml k (by omega) u hu'
      obtain ⟨v3, v4⟩ := nxS_V r v1 (by omega) hn
      have hag := R_ag (on_R (by omega) hu)
      have hst := hC u ((ih u).2 hu') hag (by omega) t hn
      obtain ⟨v, hv⟩ := Option.isSome_iff_exists.1 hst
      have h3 := hS t v hv
      refine mem_rowP.2 ⟨⟨u, hu', hn⟩, ?_⟩
      rw [hv, Option.getD_some, h3]
      unfold valR
      rw [show (c.tides - t.after).toNat = c.tides.toNat - k - 1 by omega]
      omega
structure Levs (c : Channel) (L : List (List State)) : Prop where
  len : (L.length : Int) = c.tides + 1
  mem : ∀ k : Nat, (k : Int) ≤ c.tides → ∀ t, t ∈ L.getD k [] ↔ On (nxS c) (agS (fun _ => true) c) k c.tides.toNat (first c) t
  val : ∀ k : Nat, (k : Int) ≤ c.tides → ∀ s ∈ L.getD k [], VS c s ∧ s.after = (k : Int)
  bnd : ∀ k : Nat, (k : Int) ≤ c.tides → (L.getD k []).length ≤ 1000000000000
theorem jat {c : Channel} (r : Right c) : ∃ L, yw c.cells c.tides c.fords c.sands c.sights (rchL c) = some (if cntS (fun _ => true) c = 0 then .inl () else .inr L) ∧ (cntS (fun _ => true) c ≠ 0 → Levs c L) := by
  have hf := r.fords
  have ht := r.tides
  obtain ⟨ml, e, s1, c1, i1⟩ := Z8 r
  obtain ⟨v, hv⟩ := Option.isSome_iff_exists.1 i1
  have hv2 := s1 _ _ hv
  have hv3 : v = (cntS (fun _ => true) c : Int) := by
    rw [hv2]
    unfold valR cntS first
    simp
  refine ⟨(List.range (c.tides.toNat + 1)).map (lev c ml), ?_, ?_⟩
  · unfold yw KB
    rw [Option.bind_some, e, Option.bind_some, Zq (by omega), Option.bind_some]
    show (if (aget ml (first c)).getD 0 = 0 then _ else _) = _
    rw [hv, Option.getD_some, hv3]
    by_cases h0 : cntS (fun _ => true) c = 0
    · rw [if_pos (by omega), if_pos h0]
    · rw [if_neg (by omega), if_neg h0, Option.bind_some]
      have key := iterM_run (f := kN c.tides c.cells c.fords c.sands c.sights (rchL c) ml) (fun j => ⟨(j : Int), (List.range (j + 1)).map (lev c ml)⟩) c.tides.toNat (b := (List.range (c.tides.toNat + 1)).map (lev c ml)) (fun j hj => ?_) ?_ FU (FU_lt (by omega))
      · show (iterM FU (kN c.tides c.cells c.fords c.sands c.sights (rchL c) ml) ⟨((0 : Nat) : Int), (List.range (0 + 1)).map (lev c ml)⟩).bind _ = _
        rw [key]; rfl
      · unfold kN
        simp only
        have hlen := lev_len r ml j
        have hpw : (1000 : Nat) ^ j ≤ 1000 ^ 3 := Nat.pow_le_pow_right (by omega) (by omega)
        have e3 : (1000 : Nat) ^ 3 = 1000000000 := by decide
        obtain ⟨met, hm⟩ := fit_L1 r ml (l := lev c ml j) (by omega) (fun s hs => (lev_V r ml j (by omega) s hs).1)
        rw [if_pos (by omega), range_ix (by omega), Option.bind_some, hm, Option.bind_some, appc_eq (by simp; omega), Option.bind_some, addc_eq (by omega), Option.bind_some, List.range_succ (n := j + 1), List.map_append]
        rfl
      · unfold kN
        simp only
        rw [if_neg (by omega)]
  · intro h0
    have hg : ∀ k : Nat, (k : Int) ≤ c.tides → ((List.range (c.tides.toNat + 1)).map (lev c ml)).getD k [] = lev c ml k := by
      intro k hk
      rw [List.getD_eq_getElem?_getD, List.getElem?_map, List.getElem?_range (by omega)]
      rfl
    refine ⟨by simp; omega, fun k hk t => ?_, fun k hk s hs => ?_, fun k hk => ?_⟩
    · rw [hg k hk]; exact (lev_on r s1 c1 i1 (by omega) k hk t).1
    · rw [hg k hk] at hs; exact lev_V r ml k hk s hs
    · rw [hg k hk]
      have := lev_len r ml k
      have hpw : (1000 : Nat) ^ k ≤ 1000 ^ 4 := Nat.pow_le_pow_right (by omega) (by omega)
      have e4 : (1000 : Nat) ^ 4 = 1000000000000 := by decide
      omega
theorem Ye {c : Channel} (h : Few c) : ∃ L, qZ c = some (if chk c = 0 then (if cntS (fun _ => true) c = 0 then .inl 7 else .inr ⟨c.cells, c.tides, L, rchL c⟩) else .inl (chk c)) ∧ (chk c = 0 → cntS (fun _ => true) c ≠ 0 → Levs c L) := by
  unfold qZ
  rw [ZY h, Option.bind_some]
  by_cases h0 : chk c = 0
  · have r := rightOf h0
    obtain ⟨L, e, hL⟩ := jat r
    refine ⟨L, ?_, fun _ h1 => hL h1⟩
    rw [if_pos h0, if_pos h0, oc_inr, e, Option.bind_some]
    by_cases h1 : cntS (fun _ => true) c = 0
    · rw [if_pos h1, if_pos h1, oc_inl]
    · rw [if_neg h1, if_neg h1, oc_inr, if_pos (by have := (hL h1).len; have := r.tides; omega)]
  · exact ⟨[], by rw [if_neg h0, if_neg h0, oc_inl], fun h => absurd h h0⟩
end Go.Proofs.Wb

namespace Go.Proofs.Wb
open Go Go.Fw Go.Gx Go.Sb
set_option linter.unusedVariables false
set_option maxRecDepth 100000
def sumN {α : Type} (l : List α) (f : α → Nat) : Nat := (l.map f).sum
theorem sumN_nil {α : Type} (f : α → Nat) : sumN [] f = 0 := rfl
theorem sumN_cons {α : Type} (x : α) (l : List α) (f : α → Nat) : sumN (x :: l) f = f x + sumN l f := by unfold sumN; rw [List.map_cons, List.sum_cons]
theorem sumN_append {α : Type} (l m : List α) (f : α → Nat) : sumN (l ++ m) f = sumN l f + sumN m f := by unfold sumN; rw [List.map_append, List.sum_append]
theorem sumN_congr {α : Type} {l : List α} {f g : α → Nat} (h : ∀ x ∈ l, f x = g x) : sumN l f = sumN l g := by unfold sumN; rw [List.map_congr_left h]
theorem sumN_zero {α : Type} {l : List α} {f : α → Nat} (h : ∀ x ∈ l, f x = 0) : sumN l f = 0 := by
  induction l with
  | nil => rfl
  | cons x l ih => rw [sumN_cons, h x List.mem_cons_self, ih (fun y hy => h y (List.mem_cons_of_mem _ hy))]
theorem sumN_add {α : Type} (l : List α) (f g : α → Nat) : sumN l (fun x => f x + g x) = sumN l f + sumN l g := by
  induction l with
  | nil => rfl
  | cons x l ih => rw [sumN_cons, sumN_cons, sumN_cons, ih]; omega
theorem sumN_mul {α : Type} (l : List α) (f : α → Nat) (k : Nat) : sumN l (fun x => f x * k) = sumN l f * k := by
  induction l with
  | nil => simp [sumN]
  | cons x l ih => rw [sumN_cons, sumN_cons, ih, Nat.add_mul]
theorem sumN_mul' {α : Type} (l : List α) (f : α → Nat) (k : Nat) : sumN l (fun x => k * f x) = k * sumN l f := by
  induction l with
  | nil => simp [sumN]
  | cons x l ih => rw [sumN_cons, sumN_cons, ih, Nat.mul_add]
theorem sumN_comm {α β : Type} (l : List α) (m : List β) (f : α → β → Nat) : sumN l (fun x => sumN m fun y => f x y) = sumN m fun y => sumN l fun x => f x y := by
  induction l with
  | nil => rw [sumN_nil, sumN_zero (fun y _ => sumN_nil _)]
  | cons x l ih =>
    rw [sumN_cons, ih, ← sumN_add]
    refine sumN_congr fun y _ => ?_
    rw [sumN_cons]
theorem sumN_pos {α : Type} {l : List α} {f : α → Nat} : 0 < sumN l f ↔ ∃ x ∈ l, 0 < f x := by
  induction l with
  | nil => simp [sumN]
  | cons x l ih =>
    rw [sumN_cons]
    constructor
    · intro h
      by_cases hx : 0 < f x
      · exact ⟨x, List.mem_cons_self, hx⟩
      · obtain ⟨y, hy, h2⟩ := ih.1 (by omega)
        exact ⟨y, List.mem_cons_of_mem _ hy, h2⟩
    · rintro ⟨y, hy, h⟩
      rcases List.mem_cons.1 hy with rfl | hy
      · omega
      · have := ih.2 ⟨y, hy, h⟩; omega
theorem sumN_perm {α : Type} {l m : List α} (h : l.Perm m) (f : α → Nat) : sumN l f = sumN m f := by
  unfold sumN
  exact (h.map f).sum_nat
theorem sumN_map {α β : Type} (l : List α) (g : α → β) (f : β → Nat) : sumN (l.map g) f = sumN l fun x => f (g x) := by unfold sumN; rw [List.map_map]; rfl
theorem sumN_filter {α : Type} (l : List α) (p : α → Bool) (f : α → Nat) : sumN (l.filter p) f = sumN l fun x => if p x = true then f x else 0 := by
  induction l with
  | nil => rfl
  | cons x l ih =>
    rw [List.filter_cons, sumN_cons, ← ih]
    split
    · rw [sumN_cons]
    · rw [Nat.zero_add]
theorem sumN_one {α : Type} [DecidableEq α] {l : List α} (hn : l.Nodup) {a : α} (ha : a ∈ l) (k : Nat) : sumN l (fun x => if x = a then k else 0) = k := by
  induction l with
  | nil => cases ha
  | cons x l ih =>
    obtain ⟨h1, h2⟩ := List.nodup_cons.1 hn
    rw [sumN_cons]
    by_cases hx : x = a
    · subst hx
      rw [if_pos rfl, sumN_zero (fun y hy => if_neg (fun e : y = x => h1 (e ▸ hy)))]
      rfl
    · rw [if_neg hx, ih h2 ((List.mem_cons.1 ha).resolve_left (fun e => hx e.symm)), Nat.zero_add]
def incL (below : Nat) : Nat → Nat → List (List Int)
  | 0, _ => [[]]
  | m + 1, fr => (List.range (below - fr)).flatMap fun d => (incL below m (fr + d + 1)).map (((fr + d : Nat) : Int) :: ·)
theorem mem_incL {below : Nat} : ∀ (m fr : Nat) (l : List Int), l ∈ incL below m fr ↔ l.length = m ∧ upB l = true ∧ ∀ x ∈ l, (fr : Int) ≤ x ∧ x < (below : Int)
  | 0, fr, l => by
    rw [incL, List.mem_singleton]
    constructor
    · rintro rfl; exact ⟨rfl, rfl, fun x hx => by cases hx⟩
    · rintro ⟨h, _⟩; exact List.length_eq_zero_iff.1 h
  | m + 1, fr, l => by
    rw [incL]
    simp only [List.mem_flatMap, List.mem_range, List.mem_map]
    constructor
    · rintro ⟨d, hd, v, hv, rfl⟩
      obtain ⟨h1, h2, h3⟩ := (mem_incL m _ v).1 hv
      refine ⟨by simp [h1], ?_, fun x hx => ?_⟩
      · rw [upB_iff, List.pairwise_cons]
        exact ⟨fun y hy => by have := h3 y hy; push_cast at this ⊢; omega, upB_iff.1 h2⟩
      · rcases List.mem_cons.1 hx with rfl | hx
        · push_cast; omega
        · have := h3 x hx; push_cast at this; omega
    · rintro ⟨h1, h2, h3⟩
      cases l with
      | nil => simp at h1
      | cons y v =>
        have hy := h3 y List.mem_cons_self
        obtain ⟨q1, q2⟩ := List.pairwise_cons.1 (upB_iff.1 h2)
        refine ⟨y.toNat - fr, by omega, v, (mem_incL m _ v).2 ⟨by simpa using h1, upB_iff.2 q2, fun x hx => ?_⟩, ?_⟩
        · have a := q1 x hx
          have b := h3 x (List.mem_cons_of_mem _ hx)
          push_cast
          omega
        · congr 1
          omega
theorem incL_nodup {below : Nat} : ∀ (m fr : Nat), (incL below m fr).Nodup
  | 0, fr => by simp [incL]
  | m + 1, fr => by
    rw [incL]
    refine nodup_flatMap' List.nodup_range (fun d _ => nodup_map' (incL_nodup m _) (fun a _ b _ h => by simpa using h)) ?_
    intro d _ e _ w h1 h2
    obtain ⟨v, _, rfl⟩ := List.mem_map.1 h1
    obtain ⟨v', _, he⟩ := List.mem_map.1 h2
    injection he with he _
    omega
theorem incL_len {below : Nat} : ∀ (m fr : Nat), (incL below m fr).length ≤ below ^ m
  | 0, fr => by simp [incL]
  | m + 1, fr => by
    rw [incL, List.length_flatMap]
    have h := sum_le (fun d => ((incL below m (fr + d + 1)).map (((fr + d : Nat) : Int) :: ·)).length) (below ^ m) (List.range (below - fr)) (fun d _ => by rw [List.length_map]; exact incL_len m _)
    rw [List.length_range] at h
    have h2 := Nat.mul_le_mul_right (below ^ m) (show below - fr ≤ below by omega)
    rw [Nat.pow_succ, Nat.mul_comm]
    omega
def LL (c : Channel) : List (List Int) := incL c.cells.toNat c.fords.length 0
theorem mem_LL {c : Channel} (hc : 0 ≤ c.cells) {l : List Int} : l ∈ LL c ↔ rowB c l = true := by
  unfold LL
  rw [mem_incL, rowB_iff]
  constructor
  · rintro ⟨h1, h2, h3⟩; exact ⟨h1, h2, fun x hx => by have := h3 x hx; push_cast at this; omega⟩
  · rintro ⟨h1, h2, h3⟩; exact ⟨h1, h2, fun x hx => by have := h3 x hx; push_cast; omega⟩
theorem LL_nodup (c : Channel) : (LL c).Nodup := incL_nodup _ _
theorem LL_len {c : Channel} (r : Right c) : (LL c).length ≤ 1000 := by
  have hc := r.cells
  have hf := r.fords
  refine Nat.le_trans (incL_len _ _) ?_
  have h1 : c.cells.toNat ^ c.fords.length ≤ 10 ^ c.fords.length := Nat.pow_le_pow_left (by omega) _
  have h2 : 10 ^ c.fords.length ≤ 10 ^ 3 := Nat.pow_le_pow_right (by omega) (by omega)
  omega
def stL (k : Nat) (l : List Int) : State := ⟨(k : Int), mkCells l⟩
theorem nxS_perm {c : Channel} (r : Right c) {k : Nat} {a : List Int} (ha : rowB c a = true) : (nxS c (stL k a)).Perm (((LL c).filter fun l => canB c.sands a l).map (stL (k + 1))) := by
  have hc := r.cells
  have hf := r.fords
  refine (List.perm_ext_iff_of_nodup (nxS_nodup r _) (nodup_map' ((LL_nodup c).filter _) (fun x hx y hy h => ?_))).2 (fun t => ?_)
  · have hx' := (rowB_iff.1 ((mem_LL (by omega)).1 (List.mem_filter.1 hx).1)).1
    have hy' := (rowB_iff.1 ((mem_LL (by omega)).1 (List.mem_filter.1 hy).1)).1
    simp only [stL, State.mk.injEq, true_and] at h
    exact mkCells_inj (by omega) (by omega) h
  · rw [nxS_mem r, List.mem_map]
    constructor
    · rintro ⟨l, h, rfl⟩
      have hr := row_of_can h
      exact ⟨l, List.mem_filter.2 ⟨(mem_LL (by omega)).2 hr, (can_iff r ha hr).2 h⟩, by simp [stL]⟩
    · rintro ⟨l, h, rfl⟩
      obtain ⟨h1, h2⟩ := List.mem_filter.1 h
      exact ⟨l, (can_iff r ha ((mem_LL (by omega)).1 h1)).1 h2, by simp [stL]⟩
def FcL (cnt : Nat → Bool) (c : Channel) : Nat → List Int → Nat
  | 0, l => if agP cnt c.sights 0 l = true ∧ l = c.fords then 1 else 0
  | k + 1, l => if agP cnt c.sights ((k + 1 : Nat) : Int) l = true then sumN (LL c) fun a => if canB c.sands a l = true then FcL cnt c k a else 0 else 0
theorem agS_stL {cnt : Nat → Bool} {c : Channel} (r : Right c) {k : Nat} {l : List Int} (h : rowB c l = true) : agS cnt c (stL k l) = agP cnt c.sights (k : Int) l := by
  have hf := r.fords
  have h1 := (rowB_iff.1 h).1
  unfold agS stL
  simp only
  rw [← h1, clS_mk (by omega)]
theorem R_stL {cnt : Nat → Bool} {c : Channel} (r : Right c) {j k : Nat} {a : List Int} (ha : rowB c a = true) : R (nxS c) (agS cnt c) (j + 1) (stL k a) = if agP cnt c.sights (k : Int) a = true then sumN (LL c) fun l => if canB c.sands a l = true then R (nxS c) (agS cnt c) j (stL (k + 1) l) else 0 else 0 := by
  rw [R, agS_stL r ha]
  by_cases h : agP cnt c.sights (k : Int) a = true
  · rw [if_pos h, if_pos h]
    show sumN (nxS c (stL k a)) _ = _
    rw [sumN_perm (nxS_perm r ha), sumN_map, sumN_filter]
  · rw [if_neg h, if_neg h]
theorem FcL_ag {cnt : Nat → Bool} {c : Channel} {k : Nat} {l : List Int} (h : ¬ agP cnt c.sights (k : Int) l = true) : FcL cnt c k l = 0 := by
  cases k with
  | zero => rw [FcL, if_neg (fun q => h q.1)]
  | succ k => rw [FcL, if_neg h]
theorem FcL_sum {cnt : Nat → Bool} {c : Channel} (r : Right c) : ∀ (k j : Nat), sumN (LL c) (fun l => FcL cnt c k l * R (nxS c) (agS cnt c) j (stL k l)) = R (nxS c) (agS cnt c) (k + j) (first c)
  | 0, j => by
    have hc := r.cells
    have hfr : rowB c c.fords = true := rowB_iff.2 ⟨rfl, r.up, r.fcell⟩
    have e : sumN (LL c) (fun l => FcL cnt c 0 l * R (nxS c) (agS cnt c) j (stL 0 l)) = sumN (LL c) (fun l => if l = c.fords then R (nxS c) (agS cnt c) j (first c) else 0) := by
      refine sumN_congr fun l hl => ?_
      by_cases h : l = c.fords
      · subst h
        rw [if_pos rfl, FcL]
        by_cases h2 : agP cnt c.sights 0 c.fords = true
        · rw [if_pos ⟨h2, rfl⟩, Nat.one_mul]; rfl
        · rw [if_neg (fun q => h2 q.1), Nat.zero_mul]
          have h3 : ¬ 0 < R (nxS c) (agS cnt c) j (first c) := fun q => by
            have := R_ag q
            rw [show first c = stL 0 c.fords from rfl, agS_stL r hfr] at this
            exact h2 this
          omega
      · rw [if_neg h, FcL, if_neg (fun q => h q.2), Nat.zero_mul]
    rw [e, sumN_one (LL_nodup c) ((mem_LL (by omega)).2 hfr), Nat.zero_add]
  | k + 1, j => by
    have hc := r.cells
    have ih := FcL_sum (cnt := cnt) r k (j + 1)
    rw [show k + 1 + j = k + (j + 1) by omega, ← ih]
    have e1 : sumN (LL c) (fun l => FcL cnt c (k + 1) l * R (nxS c) (agS cnt c) j (stL (k + 1) l)) = sumN (LL c) (fun l => sumN (LL c) fun a => (if canB c.sands a l = true then FcL cnt c k a else 0) * R (nxS c) (agS cnt c) j (stL (k + 1) l)) := by
      refine sumN_congr fun l hl => ?_
      rw [sumN_mul, FcL]
      by_cases h : agP cnt c.sights ((k + 1 : Nat) : Int) l = true
      · rw [if_pos h]
      · rw [if_neg h, Nat.zero_mul]
        have h3 : ¬ 0 < R (nxS c) (agS cnt c) j (stL (k + 1) l) := fun q => by
          have := R_ag q
          rw [agS_stL r ((mem_LL (by omega)).1 hl)] at this
          exact h this
        rw [Nat.eq_zero_of_not_pos h3, Nat.mul_zero]
    rw [e1, sumN_comm]
    refine sumN_congr fun a ha => ?_
    rw [R_stL r ((mem_LL (by omega)).1 ha)]
    by_cases h : agP cnt c.sights (k : Int) a = true
    · rw [if_pos h, ← sumN_mul']
      refine sumN_congr fun l _ => ?_
      split
      · rfl
      · rw [Nat.zero_mul, Nat.mul_zero]
    · rw [if_neg h, Nat.mul_zero]
      refine sumN_zero fun l _ => ?_
      rw [FcL_ag h]
      split <;> rw [Nat.zero_mul]
end Go.Proofs.Wb

namespace Go.Proofs.Wb
open Go Go.Fw Go.Gx Go.Sb
set_option linter.unusedVariables false
set_option maxRecDepth 100000
def outL (b m fr j : Nat) : List (List Int) := (List.range j).flatMap fun d => (incL b m (fr + d + 1)).map (((fr + d : Nat) : Int) :: ·)
theorem outL_succ {b m fr j : Nat} : outL b m fr (j + 1) = outL b m fr j ++ (incL b m (fr + j + 1)).map (((fr + j : Nat) : Int) :: ·) := by
  unfold outL
  rw [List.range_succ, List.flatMap_append]
  simp
theorem outL_len {b m fr j : Nat} : (outL b m fr j).length ≤ j * b ^ m := by
  unfold outL
  rw [List.length_flatMap]
  have h := sum_le (fun d => ((incL b m (fr + d + 1)).map (((fr + d : Nat) : Int) :: ·)).length) (b ^ m) (List.range j) (fun d _ => by rw [List.length_map]; exact incL_len m _)
  rw [List.length_range] at h
  exact h
theorem lists_L1 {l : List (List Int)} (out : List (List Int)) (n : Int) (h : out.length + l.length ≤ 1000000) (hl : ∀ x ∈ l, x.length ≤ 100) : iterM FU (qr l ⟨n, out⟩) ⟨0, out⟩ = some (out ++ l.map (n :: ·)) := by
  have key := iterM_run (f := qr l ⟨n, out⟩) (fun j => ⟨(j : Int), out ++ (l.take j).map (n :: ·)⟩) l.length (b := out ++ l.map (n :: ·)) (fun j hj => ?_) ?_ FU (FU_lt (by omega))
  · simpa using key
  · have e : l.take (j + 1) = l.take j ++ [l[j]] := by rw [List.take_append_getElem]
    have hx : l.getD j default = l[j] := by simp [List.getD_eq_getElem?_getD, hj]
    have := hl l[j] (List.getElem_mem hj)
    unfold qr
    simp only
    rw [if_pos (by omega), ix_nat default hj, Option.bind_some, hx, appc_eq (by simp; omega), Option.bind_some, appc_eq (by simp; omega), Option.bind_some, addc_eq (by omega), Option.bind_some, e, List.map_append, ← List.append_assoc]
    rfl
  · unfold qr
    simp only
    rw [if_neg (by omega), List.take_length]
theorem jaa {b : Nat} (hb : b ≤ 10) : ∀ (m fu fr : Nat), m ≤ 3 → m < fu → fr ≤ 100 → kv fu (m : Int) (fr : Int) (b : Int) = some (incL b m fr)
  | m, 0, fr, _, h, _ => absurd h (by omega)
  | 0, fu + 1, fr, _, _, _ => rfl
  | m + 1, fu + 1, fr, hm, hf, hr => by
    rw [kv]
    unfold zD
    rw [if_neg (by omega)]
    have hpw : b ^ m ≤ 10 ^ m := Nat.pow_le_pow_left hb m
    have hpw2 : 10 ^ m ≤ 10 ^ 2 := Nat.pow_le_pow_right (by omega) (by omega)
    have key := iterM_run (f := qp (b : Int) ((m + 1 : Nat) : Int) (kv fu)) (fun j => ⟨((fr + j : Nat) : Int), outL b m fr j⟩) (b - fr) (b := incL b (m + 1) fr) (fun j hj => ?_) ?_ FU (FU_lt (by omega))
    · show (iterM FU (qp (b : Int) ((m + 1 : Nat) : Int) (kv fu)) ⟨((fr + 0 : Nat) : Int), outL b m fr 0⟩).bind _ = _
      rw [key]; rfl
    · have h1 := outL_len (b := b) (m := m) (fr := fr) (j := j)
      have h2 := Nat.mul_le_mul_left j (Nat.le_trans hpw hpw2)
      have h3 := incL_len (below := b) m (fr + j + 1)
      unfold qp
      simp only
      rw [if_pos (by omega), subc_eq (by omega), Option.bind_some, addc_eq (by omega), Option.bind_some, show ((m + 1 : Nat) : Int) - 1 = (m : Int) by omega, show ((fr + j : Nat) : Int) + 1 = ((fr + j + 1 : Nat) : Int) by omega, jaa hb m fu (fr + j + 1) (by omega) (by omega) (by omega), Option.bind_some, lists_L1 (outL b m fr j) _ (by omega) (fun x hx => by have := ((mem_incL _ _ _).1 hx).1; omega), Option.bind_some, Option.bind_some, outL_succ]
      congr 3
    · unfold qp
      simp only
      rw [if_neg (by omega)]
      rfl
theorem Q8 {c : Channel} (r : Right c) : kr c = some (LL c) := by
  have hc := r.cells
  have hf := r.fords
  unfold kr
  have h := jaa (b := c.cells.toNat) (by omega) c.fords.length FU 0 (by omega) (by unfold FU; omega) (by omega)
  rw [show ((c.cells.toNat : Nat) : Int) = c.cells by omega] at h
  rw [show (0 : Int) = ((0 : Nat) : Int) from rfl, h]
  rfl
theorem FcL_le {cnt : Nat → Bool} {c : Channel} (r : Right c) : ∀ k l, FcL cnt c k l ≤ 1000 ^ k
  | 0, l => by rw [FcL]; split <;> simp
  | k + 1, l => by
    rw [FcL]
    split
    · have h1 := sum_le (fun a => if canB c.sands a l = true then FcL cnt c k a else 0) (1000 ^ k) (LL c) (fun a _ => by
        split
        · exact FcL_le r k a
        · exact Nat.zero_le _)
      have h2 := Nat.mul_le_mul_right (1000 ^ k) (LL_len r)
      unfold sumN
      rw [Nat.pow_succ, Nat.mul_comm]
      omega
    · exact Nat.zero_le _
theorem FcL_bnd {cnt : Nat → Bool} {c : Channel} (r : Right c) {k : Nat} (hk : k ≤ 4) (l : List Int) : FcL cnt c k l ≤ 1000000000000 := by
  have h := FcL_le (cnt := cnt) r k l
  have h2 : (1000 : Nat) ^ k ≤ 1000 ^ 4 := Nat.pow_le_pow_right (by omega) hk
  have e4 : (1000 : Nat) ^ 4 = 1000000000000 := by decide
  omega
def li (c : Channel) (i : Nat) : List Int := (LL c).getD i []
theorem li_row {c : Channel} (r : Right c) {i : Nat} (h : i < (LL c).length) : rowB c (li c i) = true := by
  have hc := r.cells
  refine (mem_LL (by omega)).1 ?_
  unfold li
  rw [List.getD_eq_getElem?_getD, List.getElem?_eq_getElem h]
  exact List.getElem_mem h
theorem sumN_li {c : Channel} (f : List Int → Nat) : sumN (LL c) f = sumN (List.range (LL c).length) fun i => f (li c i) := by
  rw [show (fun i => f (li c i)) = fun i => f ((LL c).getD i []) from rfl, ← sumN_map (List.range (LL c).length) (fun i => (LL c).getD i []) f, range_getD]
theorem sumN_range_succ (f : Nat → Nat) (n : Nat) : sumN (List.range (n + 1)) f = sumN (List.range n) f + f n := by
  rw [List.range_succ, sumN_append]; simp [sumN]
theorem sumN_range_le (f : Nat → Nat) (B n : Nat) (h : ∀ i, f i ≤ B) : sumN (List.range n) f ≤ n * B := by
  have := sum_le f B (List.range n) (fun x _ => h x)
  rw [List.length_range] at this
  exact this
def rowZ (cnt : Nat → Bool) (c : Channel) (k : Nat) : List Int := (List.range (LL c).length).map fun i : Nat => (FcL cnt c k (li c i) : Int)
def rowT (n b : Nat) (g : Nat → Int) (v : Int) : List Int := (List.range n).map fun i : Nat => if i < b then g i else if i = b then v else 0
theorem rowT_set {n b : Nat} {g : Nat → Int} {v u : Int} : (rowT n b g v).set b u = rowT n b g u := by
  unfold rowT
  rw [range_set]
  apply List.map_congr_left
  intro i _
  by_cases h : i = b
  · subst h; simp
  · rw [if_neg h]
    by_cases h2 : i < b
    · rw [if_pos h2, if_pos h2]
    · rw [if_neg h2, if_neg h2, if_neg h, if_neg h]
theorem rowT_ix {n b : Nat} {g : Nat → Int} {v : Int} (h : b < n) : ix (rowT n b g v) (b : Int) = some v := by
  unfold rowT
  rw [range_ix h, if_neg (by omega), if_pos rfl]
theorem rowT_next {n b : Nat} {g : Nat → Int} : rowT n b g (g b) = rowT n (b + 1) g 0 := by
  unfold rowT
  apply List.map_congr_left
  intro i _
  by_cases h : i < b
  · rw [if_pos h, if_pos (by omega)]
  · by_cases h2 : i = b
    · subst h2; rw [if_neg h, if_pos rfl, if_pos (by omega)]
    · rw [if_neg h, if_neg h2, if_neg (by omega)]
      split <;> rfl
theorem come_L2 {cnt : Nat → Bool} {c : Channel} (r : Right c) {k b : Nat} (hk : k + 1 ≤ 4) (hb : b < (LL c).length) (g : Nat → Int) (out : List (List Int)) (ho : ix out (k : Int) = some (rowZ cnt c k)) (t0 : List Int) :
    iterM FU (km (LL c) ⟨((k + 1 : Nat) : Int), out⟩ ⟨(b : Int), t0⟩ c) ⟨0, rowT (LL c).length b g 0⟩ = some (rowT (LL c).length b g (sumN (LL c) fun a => if canB c.sands a (li c b) = true then FcL cnt c k a else 0 : Nat)) := by
  have hc := r.cells
  have hf := r.fords
  have hs := r.sands
  have hLL := LL_len r
  have hbb := fun i => FcL_bnd (cnt := cnt) r (show k ≤ 4 by omega) (li c i)
  have key := iterM_run (f := km (LL c) ⟨((k + 1 : Nat) : Int), out⟩ ⟨(b : Int), t0⟩ c) (fun a => ⟨(a : Int), rowT (LL c).length b g ((sumN (List.range a) fun i => if canB c.sands (li c i) (li c b) = true then FcL cnt c k (li c i) else 0 : Nat) : Int)⟩) (LL c).length (b := rowT (LL c).length b g (sumN (LL c) fun a => if canB c.sands a (li c b) = true then FcL cnt c k a else 0 : Nat)) (fun a ha => ?_) ?_ FU (FU_lt (by omega))
  · exact key
  · have hra := rowB_iff.1 (li_row r ha)
    have hrb := rowB_iff.1 (li_row r hb)
    have hsum := sumN_range_le (fun i => if canB c.sands (li c i) (li c b) = true then FcL cnt c k (li c i) else 0) 1000000000000 a (fun i => by
      split
      · exact hbb i
      · omega)
    have hm := Nat.mul_le_mul_right 1000000000000 (show a ≤ 1000 by omega)
    have hcan := ja1 (c := c) (by omega) r.reach (a := li c a) (b := li c b) (by omega) (by omega) (fun x hx => by have := hra.2.2 x hx; omega)
    have hzi : ix (rowZ cnt c k) (a : Int) = some (FcL cnt c k (li c a) : Int) := by unfold rowZ; rw [range_ix ha]
    have hba := hbb a
    unfold km
    simp only
    rw [if_pos (by omega), Option.bind_some, if_pos (by rw [decide_eq_true_eq]; omega), subc_eq (by omega), Option.bind_some, show ((k + 1 : Nat) : Int) - 1 = (k : Int) by omega, ho, Option.bind_some, hzi, Option.bind_some]
    rw [sumN_range_succ]
    have hxa : (LL c).getD a [] = li c a := rfl
    have hxb : (LL c).getD b [] = li c b := rfl
    by_cases h0 : 0 < FcL cnt c k (li c a)
    · rw [if_pos (by omega), ix_nat [] ha, Option.bind_some, ix_nat [] hb, Option.bind_some, hxa, hxb, hcan, Option.bind_some, Option.bind_some]
      by_cases h1 : canB c.sands (li c a) (li c b) = true
      · rw [if_pos h1, if_pos h1, rowT_ix hb, Option.bind_some, Option.bind_some, ho, Option.bind_some, hzi, Option.bind_some, addc_eq (by omega), Option.bind_some, Option.bind_some, Option.bind_some, Option.bind_some, Int.toNat_natCast, rowT_set, addc_eq (by omega), Option.bind_some]
        congr 3
      · rw [if_neg h1, if_neg h1, Option.bind_some, addc_eq (by omega), Option.bind_some, Nat.add_zero]
        congr 3
    · rw [if_neg (by omega), Option.bind_some, if_neg (by decide), Option.bind_some, addc_eq (by omega), Option.bind_some]
      have e0 : FcL cnt c k (li c a) = 0 := by omega
      rw [e0]
      split <;> rfl
  · unfold km
    simp only
    rw [if_neg (by omega), Option.bind_some, if_neg (by decide), sumN_li]
theorem come_L1 {c : Channel} (r : Right c) {n : Nat} (hn : n ≤ 1000000000000) {k : Nat} (hk : k ≤ 4) (out : List (List Int)) (ho : ∀ j, j + 1 = k → ix out (j : Int) = some (rowZ (bitN n) c j)) :
    iterM FU (qF (LL c) c ⟨(k : Int), out⟩ (n : Int)) ⟨0, rowT (LL c).length 0 (fun i => (FcL (bitN n) c k (li c i) : Int)) 0⟩ = some (rowZ (bitN n) c k) := by
  have hc := r.cells
  have hf := r.fords
  have hs := r.sights
  have hLL := LL_len r
  have key := iterM_run (f := qF (LL c) c ⟨(k : Int), out⟩ (n : Int)) (fun b => ⟨(b : Int), rowT (LL c).length b (fun i => (FcL (bitN n) c k (li c i) : Int)) 0⟩) (LL c).length (b := rowZ (bitN n) c k) (fun b hb => ?_) ?_ FU (FU_lt (by omega))
  · exact key
  · have hrb := rowB_iff.1 (li_row r hb)
    have hxb : (LL c).getD b [] = li c b := rfl
    unfold qF
    simp only
    rw [if_pos (by omega), ix_nat [] hb, Option.bind_some, hxb, refAgrees_eq (by omega) (by omega) _ _ hn, Option.bind_some, addc_eq (by omega), ← rowT_next]
    by_cases hag : agP (bitN n) c.sights (k : Int) (li c b) = true
    · rw [if_neg (by simp [hag])]
      cases k with
      | zero =>
        have hend : ∀ T : List Int, iterM FU (km (LL c) ⟨((0 : Nat) : Int), out⟩ ⟨(b : Int), rowT (LL c).length b (fun i => (FcL (bitN n) c 0 (li c i) : Int)) 0⟩ c) ⟨0, T⟩ = some T := by
          intro T
          obtain ⟨N, hN⟩ : ∃ N, FU = N + 1 := ⟨FU - 1, by unfold FU; rfl⟩
          rw [hN, iterM_done]
          unfold km
          simp only
          split
          · rw [Option.bind_some, if_neg (by simp)]
          · rw [Option.bind_some, if_neg (by simp)]
        rw [if_pos (show ((0 : Nat) : Int) = 0 from rfl), Option.bind_some, jaC (by omega), Option.bind_some, Option.bind_some]
        by_cases he : li c b = c.fords
        · rw [if_pos (by simpa using he), rowT_ix hb, Option.bind_some, Option.bind_some, Option.bind_some, Int.toNat_natCast, rowT_set, hend, Option.bind_some, Option.bind_some, Option.bind_some]
          congr 3
          rw [FcL, if_pos ⟨hag, he⟩]
          rfl
        · rw [if_neg (by simpa using he), Option.bind_some, hend, Option.bind_some, Option.bind_some, Option.bind_some]
          congr 3
          rw [FcL, if_neg (fun q => he q.2)]
          rfl
      | succ k =>
        rw [if_neg (by omega), Option.bind_some, if_neg (by decide), Option.bind_some, come_L2 (cnt := bitN n) r hk hb _ out (ho k rfl), Option.bind_some, Option.bind_some, Option.bind_some]
        congr 3
        rw [FcL, if_pos hag]
    · rw [if_pos (by simpa using hag), Option.bind_some, Option.bind_some]
      congr 3
      rw [FcL_ag hag]
      rfl
  · unfold qF
    simp only
    rw [if_neg (by omega)]
    congr 2
    unfold rowT rowZ
    apply List.map_congr_left
    intro i hi
    rw [if_pos (by simpa using hi)]
theorem ZR {c : Channel} (r : Right c) {n : Nat} (hn : n ≤ 1000000000000) : qY c (n : Int) = some ((List.range (c.tides.toNat + 1)).map (rowZ (bitN n) c)) := by
  have ht := r.tides
  have hLL := LL_len r
  unfold qY
  rw [Q8 r, Option.bind_some]
  have key := iterM_run (f := qJ c (LL c) (n : Int)) (fun k => ⟨(k : Int), (List.range k).map (rowZ (bitN n) c)⟩) (c.tides.toNat + 1) (b := (List.range (c.tides.toNat + 1)).map (rowZ (bitN n) c)) (fun k hk => ?_) ?_ FU (FU_lt (by omega))
  · show (iterM FU (qJ c (LL c) (n : Int)) ⟨((0 : Nat) : Int), (List.range 0).map (rowZ (bitN n) c)⟩).bind _ = _
    rw [key]; rfl
  · unfold qJ
    simp only
    have e0 : List.replicate ((LL c).length : Int).toNat (0 : Int) = rowT (LL c).length 0 (fun i => (FcL (bitN n) c k (li c i) : Int)) 0 := by
      unfold rowT
      apply List.ext_getElem (by simp)
      intro i h1 h2
      simp
    rw [if_pos (by omega), makec_eq (by omega), Option.bind_some, e0, come_L1 r hn (by omega) _ (fun j hj => by rw [range_ix (by omega)]), Option.bind_some, appc_eq (by simp; omega), Option.bind_some, addc_eq (by omega), Option.bind_some, List.range_succ, List.map_append]
    rfl
  · unfold qJ
    simp only
    rw [if_neg (by omega)]
theorem Zj {c : Channel} (r : Right c) {n : Nat} (hn : n ≤ 1000000000000) : qD c (n : Int) = some (cntS (bitN n) c : Int) := by
  have ht := r.tides
  have hc := r.cells
  have hLL := LL_len r
  have hbb := fun i => FcL_bnd (cnt := bitN n) r (show c.tides.toNat ≤ 4 by omega) (li c i)
  unfold qD
  rw [ZR r hn, Option.bind_some]
  have hrow : ix ((List.range (c.tides.toNat + 1)).map (rowZ (bitN n) c)) c.tides = some (rowZ (bitN n) c c.tides.toNat) := by
    have h := range_ix (f := rowZ (bitN n) c) (n := c.tides.toNat + 1) (i := c.tides.toNat) (by omega)
    rw [show ((c.tides.toNat : Nat) : Int) = c.tides by omega] at h
    exact h
  have hlen : ((rowZ (bitN n) c c.tides.toNat).length : Int) = ((LL c).length : Int) := by unfold rowZ; simp
  have key := iterM_run (f := qo ((List.range (c.tides.toNat + 1)).map (rowZ (bitN n) c)) c) (fun a => ⟨((sumN (List.range a) fun i => FcL (bitN n) c c.tides.toNat (li c i) : Nat) : Int), (a : Int)⟩) (LL c).length (b := (cntS (bitN n) c : Int)) (fun a ha => ?_) ?_ FU (FU_lt (by omega))
  · show (iterM FU (qo ((List.range (c.tides.toNat + 1)).map (rowZ (bitN n) c)) c) ⟨((sumN (List.range 0) fun i => FcL (bitN n) c c.tides.toNat (li c i) : Nat) : Int), ((0 : Nat) : Int)⟩).bind _ = _
    rw [key]; rfl
  · have hsum := sumN_range_le (fun i => FcL (bitN n) c c.tides.toNat (li c i)) 1000000000000 a hbb
    have hm := Nat.mul_le_mul_right 1000000000000 (show a ≤ 1000 by omega)
    have hba := hbb a
    have hzi : ix (rowZ (bitN n) c c.tides.toNat) (a : Int) = some (FcL (bitN n) c c.tides.toNat (li c a) : Int) := by unfold rowZ; rw [range_ix ha]
    unfold qo
    simp only
    rw [hrow, Option.bind_some, hlen, if_pos (by omega), Option.bind_some, hzi, Option.bind_some, addc_eq (by omega), Option.bind_some, addc_eq (by omega), Option.bind_some, sumN_range_succ]
    congr 3
  · unfold qo
    simp only
    rw [hrow, Option.bind_some, hlen, if_neg (by omega)]
    congr 2
    rw [← sumN_li (fun l => FcL (bitN n) c c.tides.toNat l)]
    have h := FcL_sum (cnt := bitN n) r c.tides.toNat 0
    unfold cntS
    rw [Nat.add_zero] at h
    rw [← h]
    congr 1
    refine sumN_congr fun l hl => ?_
    rw [R, agS_stL r ((mem_LL (by omega)).1 hl)]
    by_cases hag : agP (bitN n) c.sights ((c.tides.toNat : Nat) : Int) l = true
    · rw [if_pos hag, Nat.mul_one]
    · rw [if_neg hag, Nat.mul_zero, FcL_ag hag]
end Go.Proofs.Wb

