/- What the functions that the law BranchNumbered reaches come to, and why it holds: part 7. -/
import Derived.Test.YtpjnpibgnkgnaaaGreatBranchNumbered6
namespace Go.Proofs.Wb
set_option maxHeartbeats 4000000
set_option maxRecDepth 100000
open Go Go.Fw Go.Gx Go.Sb
open Tryz
set_option linter.unusedVariables false
structure JY where
  r1 : Int
  r2 : Int
  r0 : (List (List Int))
structure Kz where
  t28 : (List (State × State))
  t27 : (List (State × Int))
structure y9 where
  k10 : Int
  t28 : (List (State × State))
  t27 : (List (State × Int))
structure QK where
  t28 : (List (State × State))
  t27 : (List (State × Int))
structure zK where
  t41 : Int
  t28 : (List (State × State))
  t27 : (List (State × Int))
structure qF where
  best13 : Int
  t28 : (List (State × State))
structure YZ where
  best13 : Int
  t28 : (List (State × State))
def QM (s : y9) (t20b : qq) (t43 : State) (s_1 : zK) (x : State) (s_2 : qF) : Option qF :=
 (addc s.k10 1).bind fun t51 =>
 (ix t20b.r1 t51).bind fun t52 =>
 (qy t52 x).bind fun t55 =>
 if (!t55) = true then
 (some (⟨s_2.best13, s_2.t28⟩ : qF)) else
 ((Qa t43 x).bind fun t59 =>
 (addc t59 ((aget s_1.t27 x).getD 0)).bind fun t63 =>
 (if s_2.best13 < 0 then
 (some true) else
 (some (decide (t63 < s_2.best13)))).bind fun o_3 =>
 if o_3 = true then
 (((some (aset s_2.t28 t43 x)).bind fun t28 =>
 some (⟨t63, t28⟩ : YZ)).bind fun o_4 =>
 some (⟨o_4.best13, o_4.t28⟩ : qF)) else
 (some (⟨s_2.best13, s_2.t28⟩ : qF)))
def QI (t38 : (List State)) (t20b : qq) (c0 : Channel) (s : y9) (s_1 : zK) : Option (zK ⊕ QK) :=
 if s_1.t41 < (t38.length : Int) then
 ((ix t38 s_1.t41).bind fun t43 =>
 (j7 t20b.t14_0 t20b.t14_1 c0.fords c0.sands c0.sights t20b.t14_5 t43).bind fun t47 =>
 if nextOK t20b.t14_0 t20b.t14_5 (c0.fords.length : Int) t47 then ((iterL (QM s t20b t43 s_1) (nextL t20b.t14_0 t20b.t14_5 (c0.fords.length : Int) t47) (⟨-1, s_1.t28⟩ : qF)).bind fun o_2 =>
 (some (aset s_1.t27 t43 o_2.best13)).bind fun t27 =>
 (addc s_1.t41 1).bind fun t78 =>
 some (.inl (⟨t78, o_2.t28, t27⟩ : zK))) else none) else
 (some (.inr (⟨s_1.t28, s_1.t27⟩ : QK)))
def QN (t20b : qq) (c0 : Channel) (s : y9) : Option (y9 ⊕ Kz) :=
 if 0 ≤ s.k10 then
 ((ix t20b.r1 s.k10).bind fun t38 =>
 (iterM FU (QI t38 t20b c0 s) (⟨0, s.t28, s.t27⟩ : zK)).bind fun o_1 =>
 (subc s.k10 1).bind fun t35 =>
 some (.inl (⟨t35, o_1.t28, o_1.t27⟩ : y9))) else
 (some (.inr (⟨s.t28, s.t27⟩ : Kz)))
structure QL where
  s16_after : Int
  s16_at__c0 : Int
  s16_at__c1 : Int
  s16_at__c2 : Int
  out17 : (List (List Int))
structure JM where
  t88 : Int
  s16_after : Int
  s16_at__c0 : Int
  s16_at__c1 : Int
  s16_at__c2 : Int
  out17 : (List (List Int))
def QJ (c0 : Channel) (t20b : qq) (o : Kz) (s_3 : JM) : Option (JM ⊕ QL) :=
 if s_3.t88 < c0.tides then
 ((kW t20b.t14_0 t20b.t14_1 c0.fords c0.sands c0.sights t20b.t14_5 (⟨((aget o.t28 (⟨s_3.s16_after, (⟨s_3.s16_at__c0, s_3.s16_at__c1, s_3.s16_at__c2⟩ : Cells)⟩ : State)).getD (⟨0, (⟨0, 0, 0⟩ : Cells)⟩ : State)).after, (⟨((aget o.t28 (⟨s_3.s16_after, (⟨s_3.s16_at__c0, s_3.s16_at__c1, s_3.s16_at__c2⟩ : Cells)⟩ : State)).getD (⟨0, (⟨0, 0, 0⟩ : Cells)⟩ : State)).at_.c0, ((aget o.t28 (⟨s_3.s16_after, (⟨s_3.s16_at__c0, s_3.s16_at__c1, s_3.s16_at__c2⟩ : Cells)⟩ : State)).getD (⟨0, (⟨0, 0, 0⟩ : Cells)⟩ : State)).at_.c1, ((aget o.t28 (⟨s_3.s16_after, (⟨s_3.s16_at__c0, s_3.s16_at__c1, s_3.s16_at__c2⟩ : Cells)⟩ : State)).getD (⟨0, (⟨0, 0, 0⟩ : Cells)⟩ : State)).at_.c2⟩ : Cells)⟩ : State)).bind fun t96 =>
 (appc 24 s_3.out17 [t96]).bind fun t98 =>
 (addc s_3.t88 1).bind fun t99 =>
 some (.inl (⟨t99, ((aget o.t28 (⟨s_3.s16_after, (⟨s_3.s16_at__c0, s_3.s16_at__c1, s_3.s16_at__c2⟩ : Cells)⟩ : State)).getD (⟨0, (⟨0, 0, 0⟩ : Cells)⟩ : State)).after, ((aget o.t28 (⟨s_3.s16_after, (⟨s_3.s16_at__c0, s_3.s16_at__c1, s_3.s16_at__c2⟩ : Cells)⟩ : State)).getD (⟨0, (⟨0, 0, 0⟩ : Cells)⟩ : State)).at_.c0, ((aget o.t28 (⟨s_3.s16_after, (⟨s_3.s16_at__c0, s_3.s16_at__c1, s_3.s16_at__c2⟩ : Cells)⟩ : State)).getD (⟨0, (⟨0, 0, 0⟩ : Cells)⟩ : State)).at_.c1, ((aget o.t28 (⟨s_3.s16_after, (⟨s_3.s16_at__c0, s_3.s16_at__c1, s_3.s16_at__c2⟩ : Cells)⟩ : State)).getD (⟨0, (⟨0, 0, 0⟩ : Cells)⟩ : State)).at_.c2, t98⟩ : JM))) else
 (some (.inr (⟨s_3.s16_after, s_3.s16_at__c0, s_3.s16_at__c1, s_3.s16_at__c2, s_3.out17⟩ : QL)))
def Qz (c0 : Channel) : Option JY :=
 (yt c0).bind fun t20 =>
 oc t20 (fun t20a => some (⟨0, t20a, ([] : List (List Int))⟩ : JY)) (fun t20b => (subc c0.tides 1).bind fun t31 =>
 (iterM FU (QN t20b c0) (⟨t31, [], []⟩ : y9)).bind fun o =>
 (jB t20b.t14_0 t20b.t14_1 c0.fords c0.sands c0.sights t20b.t14_5).bind fun t81 =>
 (kW t20b.t14_0 t20b.t14_1 c0.fords c0.sands c0.sights t20b.t14_5 t81).bind fun t84 =>
 (iterM FU (QJ c0 t20b o) (⟨0, t81.after, t81.at_.c0, t81.at_.c1, t81.at_.c2, [t84]⟩ : JM)).bind fun o_5 =>
 (jB t20b.t14_0 t20b.t14_1 c0.fords c0.sands c0.sights t20b.t14_5).bind fun t103 =>
 some (⟨((aget o.t27 t103).getD 0), 0, o_5.out17⟩ : JY))
theorem ZA (c0 : Channel) (qa0 : Option Addr) (na0 ca0 : Nat) (qa1 : Option Addr) (na1 ca1 : Nat) (qa2 : Option Addr) (na2 ca2 : Nat) (w : World) (hw : HV w (keys [] []) [] [] [(aB qa0, aO qa0, RI.enc c0.fords), (aB qa1, aO qa1, RSa.enc c0.sands), (aB qa2, aO qa2, RSi.enc c0.sights)] w) (hna0 : c0.fords.length = na0) (hqa0 : AOK na0 qa0) (hla0 : na0 ≤ ca0) (hna1 : c0.sands.length = na1) (hqa1 : AOK na1 qa1) (hla1 : na1 ≤ ca1) (hna2 : c0.sights.length = na2) (hqa2 : AOK na2 qa2) (hla2 : na2 ≤ ca2) {res : JY} (hm : Qz c0 = some res) :
    Calls Tryz.prog 28 #[.agg #[.int .i64 c0.cells, .int .i64 c0.tides, .slice qa0 na0 ca0, .slice qa1 na1 ca1, .slice qa2 na2 ca2]] w (fun en w' => ∃ l : DL, en = .returned (.tuple #[sL l.v, .int .i64 res.r1, .int .i64 res.r2]) ∧ (VOK 1 l.v.n l.v.cap (RwH.enc l.rs) l.v.sp l.v.q ∧ DOK RI res.r0 l.rs) ∧ HV w (keys [] []) [] [⟨22, RwH.enc l.rs, l.v.sp, l.v.q, dbl 3 RI res.r0 l.rs⟩] [] w') := by
  unfold Qz at hm
  refine Yy (args := [.agg #[.int .i64 c0.cells, .int .i64 c0.tides, .slice qa0 na0 ca0, .slice qa1 na1 ca1, .slice qa2 na2 ca2]]) func28 Y ntmps28 Y (e := [(0, _)]) Y (H := HV w (keys [] []) [] [] [(aB qa0, aO qa0, RI.enc c0.fords), (aB qa1, aO qa1, RSa.enc c0.sands), (aB qa2, aO qa2, RSi.enc c0.sights)]) hw ?_
  refine QZ (jr ?_)
  refine jI Y Y (fun b h3 => ?_)
  refine jc Y Y Y (fun _ _ => yc Y) (jo Y Y (jo Y Y (k7 (zX [_, _, _, _, _] 0 isAgg26 sizeOf26 Y Y Y Y ?_))))
  obtain ⟨t20, h4, hm⟩ := bindO hm
  rcases t20 with t20a | t20b
  ·replace hm := ocL hm
   refine jd [] [] Y Y Y Y Y Y Y call95 (fun w hh => yx c0 qa0 na0 ca0 qa1 na1 ca1 qa2 na2 ca2 w (HV.callee (S0 := []) (vs0 := []) hh (roR hh 0 Y (roR hh 1 Y (roR hh 2 Y roN)))) hna0 hqa0 hla0 hna1 hqa1 hla1 hna2 hqa2 hla2 h4) (fun l h5 => ?_)
   have h6 := h5
   refine jg Y Y (zo Y Y Y (zo Y Y Y (zo Y Y Y ?_)))
   refine js (fun w => zeroValue150 w) Y (fun b_1 h7 => ?_)
   refine jo Y Y (q4 (cs' := #[_]) (S' := [_, _]) 0 (fun w => sizeOf150 w) Y Y Y Y Y Y Y (jo Y Y (jq (ji (jr (jg Y Y (jc Y Y Y (fun _ _ => YR h6 Y Y) ?_)))))))
   refine jq (J1 Y Y (jr (jg Y Y (jc Y Y Y (fun _ _ => yc Y) (jo Y Y (jo Y Y (jq ?_)))))))
   refine jv (jh (zV 22 ?_))
   obtain rfl := sj hm
   refine Ks Y Y Y (fun w hh => (.tmp Y (.tmp Y (.tmp Y .nil)))) (fun w hh => ⟨⟨⟨none, 0, 0, []⟩, []⟩, rfl, ⟨VOK.nil, DOK.nil⟩, hh.se [] [0] 3 Y Y Y rfl⟩)
  replace hm := ocR hm
  refine jd [] [] Y Y Y Y Y Y Y call95 (fun w hh => yx c0 qa0 na0 ca0 qa1 na1 ca1 qa2 na2 ca2 w (HV.callee (S0 := []) (vs0 := []) hh (roR hh 0 Y (roR hh 1 Y (roR hh 2 Y roN)))) hna0 hqa0 hla0 hna1 hqa1 hla1 hna2 hqa2 hla2 h4) (fun l_1 h8 => ?_)
  obtain ⟨h9, h10, h11⟩ := h8
  refine jV (S' := [_, _]) (vs' := [_, _, _]) [0, 1] [0, 1, 2] 0 Y Y Y Y (jg Y Y (zo Y Y Y (zo Y Y Y (zo Y Y Y ?_))))
  refine js (fun w => zeroValue150 w) Y (fun b_2 h12 => ?_)
  refine jo Y Y (q4 (cs' := #[_]) (S' := [_, _, _]) 0 (fun w => sizeOf150 w) Y Y Y Y Y Y Y (jo Y Y (jq (ji (jr (jg Y Y (jc Y Y Y (fun _ _ => Jc Y Y) ?_)))))))
  refine jq (Ka Y Y (jt (ja (jr ?_))))
  refine Q8 (kR RSta) kI Y (fun b_3 h13 => ?_)
  refine Q8 (kR RSta) (kR RSta) Y (fun b_4 h14 => ?_)
  refine js (fun w => zeroValue153 w) Y (fun b_5 h15 => ?_)
  refine js (fun w => zeroValue154 w) Y (fun b_6 h16 => ?_)
  refine q4 (cs' := #[_]) (S' := [_, _, _, _, _, _, _]) 1 (fun w => sizeOf153 w) Y Y Y Y Y Y Y (q4 (cs' := #[_]) (S' := [_, _, _, _, _, _, _]) 0 (fun w => sizeOf154 w) Y Y Y Y Y Y Y (jq (ji (jr (yD 1 runUnderlying26 Y sizeOf3 Y Y (yf 6 isAgg3 Y Y Y Y ?_))))))
  obtain ⟨t31, h17, hm⟩ := bindO hm
  refine jc Y Y Y (fun _ _ => zO h17 Y Y) ?_
  refine js (fun w => zeroValue3 w) Y (fun b_7 h18 => ?_)
  refine q4 (cs' := #[_]) (S' := [_, _, _, _, _, _, _, _]) 0 (fun w => sizeOf3 w) Y Y Y Y Y Y Y (jq ?_)
  obtain ⟨o, h19, h20⟩ := bindO hm
  refine YQ (ι := List Nat) (fun l_2 => mks l_2) (fun l_2 => True) (fun l_2 => [(1, ptr b 0), (5, ptr l_1.1 0), (8, ptr b_5 0), (9, ptr b_6 0)]) (fun l_2 => [kc b_6 #[.map (some b_4)] 154, kc b_5 #[.map (some b_3)] 153, (b_4, gobj (kR RSta) (kR RSta) o.t28), (b_3, gobj (kR RSta) kI o.t27), kc b_2 #[sL l_1.2.1.v] 150, kc l_1.1 #[.int .i64 t20b.t14_0, .int .i64 t20b.t14_1, .slice qa0 na0 ca0, .slice qa1 na1 ca1, .slice qa2 na2 ca2, sL l_1.2.2] 175, kc b #[.int .i64 c0.cells, .int .i64 c0.tides, .slice qa0 na0 ca0, .slice qa1 na1 ca1, .slice qa2 na2 ca2] 26]) (fun l_2 => [⟨155, RwH.enc l_1.2.1.rs, l_1.2.1.v.sp, l_1.2.1.v.q, dbl 159 RSta t20b.r1 l_1.2.1.rs⟩, vL 3 l_1.2.2 (RI.enc t20b.t14_5), mkV l_2]) ?_ ?_
  ·replace hm := h19
   refine jp ?_
   refine YF (ι := Nat × List Nat) hm (fun s l_3 => mks l_3.2) (fun s l_3 => True) (fun s l_3 => [(1, ptr b 0), (5, ptr l_1.1 0), (6, ptr b_2 0), (8, ptr b_5 0), (9, ptr b_6 0), (10, ptr l_3.1 0)]) (fun s l_3 => [kc b_6 #[.map (some b_4)] 154, kc b_5 #[.map (some b_3)] 153, (b_4, gobj (kR RSta) (kR RSta) s.t28), (b_3, gobj (kR RSta) kI s.t27), kc b_2 #[sL l_1.2.1.v] 150, kc l_1.1 #[.int .i64 t20b.t14_0, .int .i64 t20b.t14_1, .slice qa0 na0 ca0, .slice qa1 na1 ca1, .slice qa2 na2 ca2, sL l_1.2.2] 175, kc b #[.int .i64 c0.cells, .int .i64 c0.tides, .slice qa0 na0 ca0, .slice qa1 na1 ca1, .slice qa2 na2 ca2] 26, kc l_3.1 #[.int .i64 s.k10] 3]) (fun s l_3 => [⟨155, RwH.enc l_1.2.1.rs, l_1.2.1.v.sp, l_1.2.1.v.q, dbl 159 RSta t20b.r1 l_1.2.1.rs⟩, vL 3 l_1.2.2 (RI.enc t20b.t14_5), mkV l_3.2]) (b_7, []) Y (trivial) (sE Y) (hsE [1, 2, 3, 4, 5, 6, 7, 0] [0, 1, 2] 0 Y Y Y Y) (fun s l_3 r hpl hm h21 => ?_)
   unfold QN at hm
   refine ji (jr (yf 7 isAgg3 Y Y Y Y (jc Y Y Y (fun _ _ => YI Y Y) (jq ?_))))
   refine ju Y (fun h22 => ?_) (fun h22 => ?_)
   ·replace hm := ifD h22 hm
    refine jt (ja (ji (jp (jr (yf 4 isAgg150 Y Y Y Y (yf 7 isAgg3 Y Y Y Y ?_))))))
    obtain ⟨t38, h23, hm⟩ := bindO hm
    obtain ⟨L, h24, h25⟩ := (h10).row h23
    refine jc Y Y Y (fun w _ => JR h24 (runUnderlying150 w) (sizeOf155 w) Y Y (vlen RwH h9 Y) (vne h9)) (jc Y Y Y (fun w hh => zR RwH 0 h24 (isAgg155 w) Y (hh.vseg 0 Y h9) Y (Nat.add_zero _).symm) (jc Y Y Y (fun w _ => zr (vlen RSta h25 Y) (runUnderlying155 w) Y) (jg Y Y (jq ?_))))
    obtain ⟨o_1, h26, h27⟩ := bindO hm
    refine YQ (ι := List Nat) (fun l_4 => mks l_4) (fun l_4 => True) (fun l_4 => [(1, ptr b 0), (5, ptr l_1.1 0), (6, ptr b_2 0), (8, ptr b_5 0), (9, ptr b_6 0), (10, ptr l_3.1 0)]) (fun l_4 => [kc b_6 #[.map (some b_4)] 154, kc b_5 #[.map (some b_3)] 153, (b_4, gobj (kR RSta) (kR RSta) o_1.t28), (b_3, gobj (kR RSta) kI o_1.t27), kc b_2 #[sL l_1.2.1.v] 150, kc l_1.1 #[.int .i64 t20b.t14_0, .int .i64 t20b.t14_1, .slice qa0 na0 ca0, .slice qa1 na1 ca1, .slice qa2 na2 ca2, sL l_1.2.2] 175, kc b #[.int .i64 c0.cells, .int .i64 c0.tides, .slice qa0 na0 ca0, .slice qa1 na1 ca1, .slice qa2 na2 ca2] 26, kc l_3.1 #[.int .i64 s.k10] 3]) (fun l_4 => [⟨155, RwH.enc l_1.2.1.rs, l_1.2.1.v.sp, l_1.2.1.v.q, dbl 159 RSta t20b.r1 l_1.2.1.rs⟩, vL 3 l_1.2.2 (RI.enc t20b.t14_5), mkV l_4]) ?_ ?_
    ·replace hm := h26
     refine jp ?_
     refine YF (ι := List Nat) hm (fun s_1 l_5 => mks l_5) (fun s_1 l_5 => True) (fun s_1 l_5 => [(1, ptr b 0), (5, ptr l_1.1 0), (6, ptr b_2 0), (8, ptr b_5 0), (9, ptr b_6 0), (10, ptr l_3.1 0), (39, sL L), (40, .int .i64 (t38.length : Int)), (41, .int .i64 s_1.t41)]) (fun s_1 l_5 => [kc b_6 #[.map (some b_4)] 154, kc b_5 #[.map (some b_3)] 153, (b_4, gobj (kR RSta) (kR RSta) s_1.t28), (b_3, gobj (kR RSta) kI s_1.t27), kc b_2 #[sL l_1.2.1.v] 150, kc l_1.1 #[.int .i64 t20b.t14_0, .int .i64 t20b.t14_1, .slice qa0 na0 ca0, .slice qa1 na1 ca1, .slice qa2 na2 ca2, sL l_1.2.2] 175, kc b #[.int .i64 c0.cells, .int .i64 c0.tides, .slice qa0 na0 ca0, .slice qa1 na1 ca1, .slice qa2 na2 ca2] 26, kc l_3.1 #[.int .i64 s.k10] 3]) (fun s_1 l_5 => [⟨155, RwH.enc l_1.2.1.rs, l_1.2.1.v.sp, l_1.2.1.v.q, dbl 159 RSta t20b.r1 l_1.2.1.rs⟩, vL 3 l_1.2.2 (RI.enc t20b.t14_5), mkV l_5]) l_3.2 Y (trivial) (sE Y) (fun w hh => hh) (fun s_1 l_5 r_1 hpl hm h28 => ?_)
     unfold QI at hm
     refine jr (Kv Y Y Y (jq (ji ?_)))
     refine ju Y (fun h29 => ?_) (fun h29 => ?_)
     ·replace hm := ifD h29 hm
      refine jt (ja (ji (jp (jr ?_))))
      obtain ⟨t43, h30, hm⟩ := bindO hm
      refine jc Y Y Y (fun w _ => JR h30 (runUnderlying155 w) (sizeOf159 w) Y Y (vlen RSta h25 Y) (vne h25)) ?_
      refine jc Y Y Y (fun w hh => JE RSta 0 [.int .i64 t43.after, .int .i64 t43.at_.c0, .int .i64 t43.at_.c1, .int .i64 t43.at_.c2] h30 (isAgg159 w) (sizeOf159 w) Y (hh.dseg 0 Y h23 h24 h25) Y (Nat.add_zero _).symm) ?_
      refine js (fun w => zeroValue159 w) Y (fun b_8 h31 => ?_)
      refine kz (us := #[_, _, _, _]) (cs' := [_, _, _, _]) (S' := [_, _, _, _, _, _, _, _, _]) 0 (fun w => sizeOf159 w) Y Y Y Y Y Y Y (k7 ?_)
      refine js (fun w => zeroValue3 w) Y (fun b_9 h32 => ?_)
      refine q4 (cs' := #[_]) (S' := [_, _, _, _, _, _, _, _, _, _]) 0 (fun w => sizeOf3 w) Y Y Y Y Y Y Y (jq (ji (jr (jg Y Y (zX [_, _, _, _] 1 isAgg159 sizeOf159 Y Y Y Y ?_)))))
      obtain ⟨t47, h33, hm⟩ := bindO hm
      refine jd [] [] Y Y Y Y Y Y Y call96 (fun w hh => zn t20b.t14_0 t20b.t14_1 c0.fords c0.sands c0.sights t20b.t14_5 t43 l_1.1 qa0 na0 ca0 qa1 na1 ca1 qa2 na2 ca2 (qA l_1.2.2.q) l_1.2.2.n l_1.2.2.cap w (HV.callee (S0 := []) (vs0 := []) hh (roC (bsep (hh.bseg 7 Y)) (roR hh 0 Y (roR hh 1 Y (roR hh 2 Y (roC (hh.vsepA 1 Y h11) roN)))))) hna0 hqa0 hla0 hna1 hqa1 hla1 hna2 hqa2 hla2 (vlen RI h11 Y) (AOK.q (vne h11)) (h11).hle h33) (fun l_6 h34 => ?_)
      refine jV (S' := [_, _, _, _, _, _, _, _, _, _, _, _]) (vs' := [_, _, _]) [0, 1, 2, 3, 4, 5, 6, 7, 8, 9, 10, 11] [0, 1, 2] 0 Y Y Y Y (jq (jp ?_))
      obtain ⟨h35, hm⟩ := ifO hm
      refine ZD (e' := [(1, ptr b 0), (5, ptr l_1.1 0), (6, ptr b_2 0), (8, ptr b_5 0), (9, ptr b_6 0), (10, ptr l_3.1 0), (12, ptr b_8 0), (13, ptr b_9 0), (39, sL L), (40, .int .i64 (t38.length : Int)), (41, .int .i64 s_1.t41), (47, .func (.func 161) #[] #[ptr l_6.1 0, ptr l_6.2 0])]) (sE Y) ?_
      obtain ⟨o_2, h36, hm⟩ := bindO hm
      refine Qp (ι := Unit) (nextL t20b.t14_0 t20b.t14_5 (c0.fords.length : Int) t47) (fun x => .agg #[.int .i64 x.after, .int .i64 x.at_.c0, .int .i64 x.at_.c1, .int .i64 x.at_.c2]) h36 (fun s_2 l_7 => True) (fun s_2 l_7 => [kc l_6.1 #[.int .i64 t47.after, .int .i64 t47.at_.c0, .int .i64 t47.at_.c1, .int .i64 t47.at_.c2] 159, kc l_6.2 #[ptr l_1.1 0] 146, kc b_9 #[.int .i64 s_2.best13] 3, kc b_8 #[.int .i64 t43.after, .int .i64 t43.at_.c0, .int .i64 t43.at_.c1, .int .i64 t43.at_.c2] 159, kc b_6 #[.map (some b_4)] 154, kc b_5 #[.map (some b_3)] 153, (b_4, gobj (kR RSta) (kR RSta) s_2.t28), (b_3, gobj (kR RSta) kI s_1.t27), kc b_2 #[sL l_1.2.1.v] 150, kc l_1.1 #[.int .i64 t20b.t14_0, .int .i64 t20b.t14_1, .slice qa0 na0 ca0, .slice qa1 na1 ca1, .slice qa2 na2 ca2, sL l_1.2.2] 175, kc b #[.int .i64 c0.cells, .int .i64 c0.tides, .slice qa0 na0 ca0, .slice qa1 na1 ca1, .slice qa2 na2 ca2] 26, kc l_3.1 #[.int .i64 s.k10] 3]) (fun s_2 l_7 => [⟨155, RwH.enc l_1.2.1.rs, l_1.2.1.v.sp, l_1.2.1.v.q, dbl 159 RSta t20b.r1 l_1.2.1.rs⟩, vL 3 l_1.2.2 (RI.enc t20b.t14_5), mkV l_5]) () (trivial) (fun w hh => hh) (RdN l_6.2 l_1.1 l_6.1 t20b.t14_0 (.int .i64 t20b.t14_1) (.slice qa1 na1 ca1) (.slice qa2 na2 ca2) qa0 (qA l_1.2.2.q) na0 ca0 l_1.2.2.n l_1.2.2.cap t20b.t14_5 t47) (fun s_2 l_7 w h37 hh => ⟨hh.bseg 1 rfl, hh.bseg 9 rfl, hh.bseg 0 rfl, hh.vsegA 1 Y h11⟩) (fun x => (.cells #[.int .i64 x.after, .int .i64 x.at_.c0, .int .i64 x.at_.c1, .int .i64 x.at_.c2] 159 (0, 0))) (it_next _ _ _ l_6.2 l_1.1 l_6.1 t20b.t14_0 (.int .i64 t20b.t14_1) (.slice qa1 na1 ca1) (.slice qa2 na2 ca2) qa0 (qA l_1.2.2.q) na0 ca0 l_1.2.2.n l_1.2.2.cap c0.fords t20b.t14_5 t47 hna0 (vlen RI h11 Y) (AOK.q (vne h11)) h35) Y call161 Y (e1 := fun x bx => (14, ptr bx 0) :: (48, .agg #[.int .i64 x.after, .int .i64 x.at_.c0, .int .i64 x.at_.c1, .int .i64 x.at_.c2]) :: [(1, ptr b 0), (5, ptr l_1.1 0), (6, ptr b_2 0), (8, ptr b_5 0), (9, ptr b_6 0), (10, ptr l_3.1 0), (12, ptr b_8 0), (13, ptr b_9 0), (39, sL L), (40, .int .i64 (t38.length : Int)), (41, .int .i64 s_1.t41), (47, .func (.func 161) #[] #[ptr l_6.1 0, ptr l_6.2 0])]) (fun x lr L X hX => ?_) (fun x s_2 r_2 l_7 lr w1 bx h37 hm => ?_) (fun l_7 D h37 => ?_)
      ·refine je ?_
       refine js (fun w => zeroValue159 w) Y (fun b_10 h40 => ?_)
       refine kz (us := #[_, _, _, _]) (cs' := [_, _, _, _]) (S' := [_]) 0 (fun w => sizeOf159 w) Y Y Y Y Y Y Y (jq ?_)
       exact hX _
      ·unfold QM at hm
       refine jp (ji (ji ?_))
       refine ky none (.hoist 0 (.hoist 1 (.free 2 (.free 3 (.hoist 4 (.hoist 5 (.one 6 (.free 7 .done)))))))) _ Y (by decide +kernel) (fun w k hh => hh.draw k) (fun w hh => hh) ?_
       refine Kg 9 isAgg150 Y Y Y Y Y (Kg 12 isAgg3 Y Y Y Y Y ?_)
       obtain ⟨t51, h41, hm⟩ := bindO hm
       refine jn Y Y Y Y (fun _ _ => Kh h41 Y Y) ?_
       obtain ⟨t52, h42, hm⟩ := bindO hm
       obtain ⟨L_1, h43, h44⟩ := (h10).row h42
       refine jn Y Y Y Y (fun w _ => JR h43 (runUnderlying150 w) (sizeOf155 w) Y Y (vlen RwH h9 Y) (vne h9)) (jy Y Y Y Y (fun w hh => zR RwH 0 h43 (isAgg155 w) Y (hh.vseg 0 Y h9) Y (Nat.add_zero _).symm) (jy Y Y Y Y (fun w hh => jP (vs := [_, _, _, _]) (isAgg159 w) (sizeOf159 w) Y (hh.cells 0 Y Y)) (jA Y ?_)))
       obtain ⟨t55, h45, hm⟩ := bindO hm
       refine jd [] [] Y Y Y Y Y Y Y call97 (fun w hh => JA t52 x (qA L_1.q) L_1.n L_1.cap w (HV.callee (S0 := []) (vs0 := []) hh (roC (hh.dsepA (S0 := []) (vs0 := []) 0 Y h42 h43 h44) roN)) (vlen RSta h44 Y) (AOK.q (vne h44)) (h44).hle h45) (fun l_8 h46 => ?_)
       refine jj (fun w hh => hh) (jn Y Y Y Y (fun _ _ => zt Y) (jM (ja ?_)))
       refine ju Y (fun h47 => ?_) (fun h47 => ?_)
       ·replace hm := ifT (h47) hm
        refine kN (jl (jO ?_))
        obtain rfl := sj hm
        exact QU (⟨s_2.best13, s_2.t28⟩ : qF) () Y (trivial) (hsE [1, 2, 3, 4, 5, 6, 7, 8, 9, 10, 11, 12] [0, 1, 2] 3 Y Y Y Y)
       replace hm := ifN h47 hm
       refine jt (ja (ji ?_))
       refine ky none (.hoist 0 (.hoist 1 (.hoist 3 (.hoist 4 (.hoist 5 (.one 2 (.free 6 (.free 7 .done)))))))) _ Y (by decide +kernel) (fun w k hh => hh.draw k) (fun w hh => hh) ?_
       refine jy Y Y Y Y (fun w hh => jP (vs := [_, _, _, _]) (isAgg159 w) (sizeOf159 w) Y (hh.cells 4 Y Y)) (jy Y Y Y Y (fun w hh => jP (vs := [_, _, _, _]) (isAgg159 w) (sizeOf159 w) Y (hh.cells 0 Y Y)) (Kg 6 isAgg153 Y Y Y Y Y (jy Y Y Y Y (fun w hh => jP (vs := [_, _, _, _]) (isAgg159 w) (sizeOf159 w) Y (hh.cells 0 Y Y)) (jy Y Y Y Y (fun w hh => Qj (k := x) (z := 0) (runUnderlying153 w) yz (zeroValue3 w) Y Y (hh.mget 8 Y)) (jA Y ?_)))))
       obtain ⟨t59, h48, hm⟩ := bindO hm
       refine jd [] [] Y Y Y Y Y Y Y call98 (fun w hh => Zh t43 x w (HV.callee (S0 := []) (vs0 := []) hh roN)  h48) (fun l_9 h49 => ?_)
       refine jj (fun w hh => hh) ?_
       obtain ⟨t63, h50, hm⟩ := bindO hm
       refine jn Y Y Y Y (fun _ _ => Kh h50 Y Y) (jn Y Y Y Y (fun _ _ => kM Y) (jM (ja (ji ?_))))
       obtain ⟨o_3, h51, h52⟩ := bindO hm
       refine j3 (ι := Unit) (fun l_10 => True) (fun l_10 => [(9, ptr b_6 0), (12, ptr b_8 0), (13, ptr b_9 0), (14, ptr bx 0), (15, .int .i64 t63), (70, .bool o_3)]) (fun l_10 => [kc bx #[.int .i64 x.after, .int .i64 x.at_.c0, .int .i64 x.at_.c1, .int .i64 x.at_.c2] 159, kc l_6.1 #[.int .i64 t47.after, .int .i64 t47.at_.c0, .int .i64 t47.at_.c1, .int .i64 t47.at_.c2] 159, kc l_6.2 #[ptr l_1.1 0] 146, kc b_9 #[.int .i64 s_2.best13] 3, kc b_8 #[.int .i64 t43.after, .int .i64 t43.at_.c0, .int .i64 t43.at_.c1, .int .i64 t43.at_.c2] 159, kc b_6 #[.map (some b_4)] 154, kc b_5 #[.map (some b_3)] 153, (b_4, gobj (kR RSta) (kR RSta) s_2.t28), (b_3, gobj (kR RSta) kI s_1.t27), kc b_2 #[sL l_1.2.1.v] 150, kc l_1.1 #[.int .i64 t20b.t14_0, .int .i64 t20b.t14_1, .slice qa0 na0 ca0, .slice qa1 na1 ca1, .slice qa2 na2 ca2, sL l_1.2.2] 175, kc b #[.int .i64 c0.cells, .int .i64 c0.tides, .slice qa0 na0 ca0, .slice qa1 na1 ca1, .slice qa2 na2 ca2] 26, kc l_3.1 #[.int .i64 s.k10] 3]) (fun l_10 => [⟨155, RwH.enc l_1.2.1.rs, l_1.2.1.v.sp, l_1.2.1.v.q, dbl 159 RSta t20b.r1 l_1.2.1.rs⟩, vL 3 l_1.2.2 (RI.enc t20b.t14_5), mkV l_5]) ?_ ?_
       ·replace hm := h51
        refine je (yf 3 isAgg3 Y Y Y Y (Kv Y Y Y (jg Y Y ?_)))
        refine j4 66 Y (fun h53 => ?_) (fun h53 => ?_)
        ·replace hm := ifD h53 hm
         refine g_k Y Y Y Y (g_k Y Y Y Y (g_k Y Y Y Y (yy Y Y Y (jx ?_))))
         obtain rfl := sj hm
         exact jk () (trivial) (sE Y) (fun w hh => hh)
        replace hm := ifE h53 hm
        refine jb Y Y (jg Y Y (jb Y Y (yf 3 isAgg3 Y Y Y Y (jb Y Y (Kv Y Y Y (zu Y Y Y (jx ?_)))))))
        obtain rfl := sj hm
        exact jk () (trivial) (sE Y) (fun w hh => hh)
       intro l_10 hj
       replace hm := h52
       refine ja ?_
       refine ju Y (fun h54 => ?_) (fun h54 => ?_)
       ·replace hm := ifT (h54) hm
        obtain ⟨o_4, h55, h56⟩ := bindO hm
        refine j3 (ι := Unit) (fun l_11 => True) (fun l_11 => []) (fun l_11 => [kc bx #[.int .i64 x.after, .int .i64 x.at_.c0, .int .i64 x.at_.c1, .int .i64 x.at_.c2] 159, kc l_6.1 #[.int .i64 t47.after, .int .i64 t47.at_.c0, .int .i64 t47.at_.c1, .int .i64 t47.at_.c2] 159, kc l_6.2 #[ptr l_1.1 0] 146, kc b_9 #[.int .i64 o_4.best13] 3, kc b_8 #[.int .i64 t43.after, .int .i64 t43.at_.c0, .int .i64 t43.at_.c1, .int .i64 t43.at_.c2] 159, kc b_6 #[.map (some b_4)] 154, kc b_5 #[.map (some b_3)] 153, (b_4, gobj (kR RSta) (kR RSta) o_4.t28), (b_3, gobj (kR RSta) kI s_1.t27), kc b_2 #[sL l_1.2.1.v] 150, kc l_1.1 #[.int .i64 t20b.t14_0, .int .i64 t20b.t14_1, .slice qa0 na0 ca0, .slice qa1 na1 ca1, .slice qa2 na2 ca2, sL l_1.2.2] 175, kc b #[.int .i64 c0.cells, .int .i64 c0.tides, .slice qa0 na0 ca0, .slice qa1 na1 ca1, .slice qa2 na2 ca2] 26, kc l_3.1 #[.int .i64 s.k10] 3]) (fun l_11 => [⟨155, RwH.enc l_1.2.1.rs, l_1.2.1.v.sp, l_1.2.1.v.q, dbl 159 RSta t20b.r1 l_1.2.1.rs⟩, vL 3 l_1.2.2 (RI.enc t20b.t14_5), mkV l_5]) ?_ ?_
        ·replace hm := h55
         refine ky none (.hoist 0 (.hoist 1 (.free 2 (.hoist 3 (.one 4 (.one 5 .done)))))) (HV _ _ [kc bx #[.int .i64 x.after, .int .i64 x.at_.c0, .int .i64 x.at_.c1, .int .i64 x.at_.c2] 159, kc l_6.1 #[.int .i64 t47.after, .int .i64 t47.at_.c0, .int .i64 t47.at_.c1, .int .i64 t47.at_.c2] 159, kc l_6.2 #[ptr l_1.1 0] 146, kc b_8 #[.int .i64 t43.after, .int .i64 t43.at_.c0, .int .i64 t43.at_.c1, .int .i64 t43.at_.c2] 159, kc b_6 #[.map (some b_4)] 154, kc b_5 #[.map (some b_3)] 153, (b_3, gobj (kR RSta) kI s_1.t27), kc b_2 #[sL l_1.2.1.v] 150, kc l_1.1 #[.int .i64 t20b.t14_0, .int .i64 t20b.t14_1, .slice qa0 na0 ca0, .slice qa1 na1 ca1, .slice qa2 na2 ca2, sL l_1.2.2] 175, kc b #[.int .i64 c0.cells, .int .i64 c0.tides, .slice qa0 na0 ca0, .slice qa1 na1 ca1, .slice qa2 na2 ca2] 26, kc l_3.1 #[.int .i64 s.k10] 3] [⟨155, RwH.enc l_1.2.1.rs, l_1.2.1.v.sp, l_1.2.1.v.q, dbl 159 RSta t20b.r1 l_1.2.1.rs⟩, vL 3 l_1.2.2 (RI.enc t20b.t14_5), mkV l_5] _) Y (by decide +kernel) (fun w k hh => hh.draw k) (hsE [0, 1, 2, 4, 5, 6, 8, 9, 10, 11, 12] [0, 1, 2] 0 Y Y Y Y) ?_
         refine Kg 4 isAgg154 Y Y Y Y Y (jy Y Y Y Y (fun w hh => jP (vs := [_, _, _, _]) (isAgg159 w) (sizeOf159 w) Y (hh.cells 3 Y Y)) (zs Y Y Y (jy Y Y Y Y (fun w hh => jP (vs := [_, _, _, _]) (isAgg159 w) (sizeOf159 w) Y (hh.cells 0 Y Y)) (jA Y (q4 (cs' := #[_]) (S' := [_, _, _, _, _, _, _, _, _, _, _, _, _]) 3 (fun w => sizeOf3 w) Y Y Y Y Y Y Y (jj (hsE [0, 1, 2, 4, 5, 6, 8, 9, 10, 11, 12] [0, 1, 2] 0 Y Y Y Y) (jA Y ?_)))))))
         obtain ⟨t28, h57, hm⟩ := bindO hm
         refine QB (k := t43) (v := x) 7 (fun w => runUnderlying154 w) yz Y Y Y Y (Option.some.inj h57) Y (jj (hsE [0, 1, 2, 4, 5, 6, 8, 9, 10, 11, 12] [0, 1, 2] 0 Y Y Y Y) (jM ?_))
         obtain rfl := sj hm
         exact jk () (trivial) (.nil) (fun w hh => hh)
        intro l_11 hj
        replace hm := h56
        refine jw ?_
        obtain rfl := sj hm
        exact QU (⟨o_4.best13, o_4.t28⟩ : qF) () Y (trivial) (hsE [1, 2, 3, 4, 5, 6, 7, 8, 9, 10, 11, 12] [0, 1, 2] 3 Y Y Y Y)
       replace hm := ifN h54 hm
       refine jt (jw ?_)
       obtain rfl := sj hm
       exact QU (⟨s_2.best13, s_2.t28⟩ : qF) () Y (trivial) (hsE [1, 2, 3, 4, 5, 6, 7, 8, 9, 10, 11, 12] [0, 1, 2] 3 Y Y Y Y)
      refine YE 2 Y Y (jw (ja (je (yf 5 isAgg153 Y Y Y Y (zX [_, _, _, _] 3 isAgg159 sizeOf159 Y Y Y Y (yf 2 isAgg3 Y Y Y Y ?_))))))
      obtain ⟨t27, h58, hm⟩ := bindO hm
      refine QB (k := t43) (v := o_2.best13) 7 (fun w => runUnderlying153 w) yz Y Y Y Y (Option.some.inj h58) Y (jx (jw (ja (je ?_))))
      obtain ⟨t78, h59, hm⟩ := bindO hm
      refine Kq h59 Y Y Y (jg Y Y (jx ?_))
      obtain rfl := sj hm
      refine ja ?_
      exact Q6 _ (D :: l_5) Y Y (trivial) (sE Y) (hsE [4, 5, 6, 7, 8, 9, 10, 11] [0, 1, 2] 0 Y Y Y Y)
     replace hm := ifE h29 hm
     refine kN (jl (jl (jO ?_)))
     obtain rfl := sj hm
     have hbo := h28 _ Y
     subst hbo
     exact J8 l_5 Y (trivial) (sE Y) (fun w hh => hh)
    intro l_4 hj
    replace hm := h27
    refine jw (ja (ji (jr (yf 7 isAgg3 Y Y Y Y (jq (je ?_))))))
    refine js (fun w => zeroValue3 w) Y (fun b_11 h60 => ?_)
    refine q4 (cs' := #[_]) (S' := [_, _, _, _, _, _, _, _, _]) 0 (fun w => sizeOf3 w) Y Y Y Y Y Y Y (jq (je (yf 0 isAgg3 Y Y Y Y ?_)))
    obtain ⟨t35, h61, hm⟩ := bindO hm
    refine jc Y Y Y (fun _ _ => zO h61 Y Y) (q4 (cs' := #[_]) (S' := [_, _, _, _, _, _, _, _, _]) 0 (fun w => sizeOf3 w) Y Y Y Y Y Y Y (jx ?_))
    obtain rfl := sj hm
    refine ja ?_
    exact Q6 _ (b_11, l_4) Y Y (trivial) (sE Y) (hsE [1, 2, 3, 4, 5, 6, 7, 0] [0, 1, 2] 0 Y Y Y Y)
   replace hm := ifE h22 hm
   refine kN (jl (jl (jO ?_)))
   obtain rfl := sj hm
   have hbo := h21 _ Y
   subst hbo
   exact J8 l_3.2 Y (trivial) (sE Y) (hsE [0, 1, 2, 3, 4, 5, 6] [0, 1, 2] 0 Y Y Y Y)
  intro l_2 hj
  replace hm := h20
  refine ja (jr (jg Y Y ?_))
  obtain ⟨t81, h62, hm⟩ := bindO hm
  refine jd [] [] Y Y Y Y Y Y Y call99 (fun w hh => jW t20b.t14_0 t20b.t14_1 c0.fords c0.sands c0.sights t20b.t14_5 l_1.1 qa0 na0 ca0 qa1 na1 ca1 qa2 na2 ca2 (qA l_1.2.2.q) l_1.2.2.n l_1.2.2.cap w (HV.callee (S0 := []) (vs0 := []) hh (roC (bsep (hh.bseg 5 Y)) (roR hh 0 Y (roR hh 1 Y (roR hh 2 Y (roC (hh.vsepA 1 Y h11) roN)))))) hna0 hqa0 hla0 hna1 hqa1 hla1 hna2 hqa2 hla2 (vlen RI h11 Y) (AOK.q (vne h11)) (h11).hle h62) (fun l_12 h63 => ?_)
  refine js (fun w => zeroValue159 w) Y (fun b_12 h64 => ?_)
  refine kz (us := #[_, _, _, _]) (cs' := [_, _, _, _]) (S' := [_, _, _, _, _, _, _, _]) 0 (fun w => sizeOf159 w) Y Y Y Y Y Y Y (k7 (jg Y Y (zX [_, _, _, _] 0 isAgg159 sizeOf159 Y Y Y Y ?_)))
  obtain ⟨t84, h65, hm⟩ := bindO hm
  refine jd [] [] Y Y Y Y Y Y Y call100 (fun w hh => za t20b.t14_0 t20b.t14_1 c0.fords c0.sands c0.sights t20b.t14_5 t81 l_1.1 qa0 na0 ca0 qa1 na1 ca1 qa2 na2 ca2 (qA l_1.2.2.q) l_1.2.2.n l_1.2.2.cap w (HV.callee (S0 := []) (vs0 := []) hh (roC (bsep (hh.bseg 6 Y)) (roR hh 0 Y (roR hh 1 Y (roR hh 2 Y (roC (hh.vsepA 1 Y h11) roN)))))) hna0 hqa0 hla0 hna1 hqa1 hla1 hna2 hqa2 hla2 (vlen RI h11 Y) (AOK.q (vne h11)) (h11).hle h65) (fun l_13 h66 => ?_)
  have h67 := h66
  refine jV (S' := [_, _, _, _, _, _, _, _]) (vs' := [_, _, _, _]) [0, 1, 2, 3, 4, 5, 6, 7] [0, 1, 2, 3] 0 Y Y Y Y ?_
  refine qE RwH [(⟨l_13.q, l_13.n, l_13.cap, l_13.sp⟩ : VL)] (ps := [(0, _)]) (cells := [_]) (fun w => runUnderlying41 w) (fun w => sizeOf22 w) (fun w => zeroValue22 w) Y Y Y Y Y Y Y Y (fun L_2 h68 => ?_)
  refine Zs (E2 := 3) RI 1 (Y : _ = ([[]] : List (List Int))) (fun h69 => ?_)
  refine jV (S' := [_, _, _, _, _, _, _, _]) (vs' := [_, _, _, _, _]) [0, 1, 2, 3, 4, 5, 6, 7] [0, 1, 2, 3, 4] 0 Y Y Y Y ?_
  refine Zq RI (l' := [t84]) 0 l_13.n l_13.cap h69 h67 Y Y (fun h70 => ?_)
  have h71 : DOK RI [t84] [(⟨l_13.q, l_13.n, l_13.cap, l_13.sp⟩ : VL)] := h70
  refine jad (S' := [_, _, _, _, _, _, _, _]) (vs' := [⟨22, RwH.enc [(⟨l_13.q, l_13.n, l_13.cap, l_13.sp⟩ : VL)], L_2.sp, L_2.q, dbl 3 RI [t84] [(⟨l_13.q, l_13.n, l_13.cap, l_13.sp⟩ : VL)]⟩, ⟨155, RwH.enc l_1.2.1.rs, l_1.2.1.v.sp, l_1.2.1.v.q, dbl 159 RSta t20b.r1 l_1.2.1.rs⟩, vL 3 l_1.2.2 (RI.enc t20b.t14_5), mkV l_2]) [0, 1, 2, 3, 4, 5, 6, 7] [0, 1, 2, 3] 0 (by decide) (by decide) Y Y Y ?_
  refine jo Y Y (jq (ji (jr (yD 1 runUnderlying26 Y sizeOf3 Y Y (yf 7 isAgg3 Y Y Y Y (jg Y Y (jq ?_)))))))
  obtain ⟨o_5, h72, h73⟩ := bindO hm
  refine YQ (ι := DL) (fun l_14 => mks l_2) (fun l_14 => VOK 1 l_14.v.n l_14.v.cap (RwH.enc l_14.rs) l_14.v.sp l_14.v.q ∧ DOK RI o_5.out17 l_14.rs) (fun l_14 => [(5, ptr l_1.1 0), (8, ptr b_5 0), (17, sL l_14.v)]) (fun l_14 => [kc b_12 #[.int .i64 o_5.s16_after, .int .i64 o_5.s16_at__c0, .int .i64 o_5.s16_at__c1, .int .i64 o_5.s16_at__c2] 159, kc b_6 #[.map (some b_4)] 154, kc b_5 #[.map (some b_3)] 153, (b_4, gobj (kR RSta) (kR RSta) o.t28), (b_3, gobj (kR RSta) kI o.t27), kc b_2 #[sL l_1.2.1.v] 150, kc l_1.1 #[.int .i64 t20b.t14_0, .int .i64 t20b.t14_1, .slice qa0 na0 ca0, .slice qa1 na1 ca1, .slice qa2 na2 ca2, sL l_1.2.2] 175, kc b #[.int .i64 c0.cells, .int .i64 c0.tides, .slice qa0 na0 ca0, .slice qa1 na1 ca1, .slice qa2 na2 ca2] 26]) (fun l_14 => [⟨22, RwH.enc l_14.rs, l_14.v.sp, l_14.v.q, dbl 3 RI o_5.out17 l_14.rs⟩, ⟨155, RwH.enc l_1.2.1.rs, l_1.2.1.v.sp, l_1.2.1.v.q, dbl 159 RSta t20b.r1 l_1.2.1.rs⟩, vL 3 l_1.2.2 (RI.enc t20b.t14_5), mkV l_2]) ?_ ?_
  ·replace hm := h72
   refine jp ?_
   refine YF (ι := DL) hm (fun s_3 l_15 => mks l_2) (fun s_3 l_15 => VOK 1 l_15.v.n l_15.v.cap (RwH.enc l_15.rs) l_15.v.sp l_15.v.q ∧ DOK RI s_3.out17 l_15.rs) (fun s_3 l_15 => [(5, ptr l_1.1 0), (8, ptr b_5 0), (9, ptr b_6 0), (16, ptr b_12 0), (17, sL l_15.v), (87, .int .i64 c0.tides), (88, .int .i64 s_3.t88)]) (fun s_3 l_15 => [kc b_12 #[.int .i64 s_3.s16_after, .int .i64 s_3.s16_at__c0, .int .i64 s_3.s16_at__c1, .int .i64 s_3.s16_at__c2] 159, kc b_6 #[.map (some b_4)] 154, kc b_5 #[.map (some b_3)] 153, (b_4, gobj (kR RSta) (kR RSta) o.t28), (b_3, gobj (kR RSta) kI o.t27), kc b_2 #[sL l_1.2.1.v] 150, kc l_1.1 #[.int .i64 t20b.t14_0, .int .i64 t20b.t14_1, .slice qa0 na0 ca0, .slice qa1 na1 ca1, .slice qa2 na2 ca2, sL l_1.2.2] 175, kc b #[.int .i64 c0.cells, .int .i64 c0.tides, .slice qa0 na0 ca0, .slice qa1 na1 ca1, .slice qa2 na2 ca2] 26]) (fun s_3 l_15 => [⟨22, RwH.enc l_15.rs, l_15.v.sp, l_15.v.q, dbl 3 RI s_3.out17 l_15.rs⟩, ⟨155, RwH.enc l_1.2.1.rs, l_1.2.1.v.sp, l_1.2.1.v.q, dbl 159 RSta t20b.r1 l_1.2.1.rs⟩, vL 3 l_1.2.2 (RI.enc t20b.t14_5), mkV l_2]) (⟨⟨L_2.q, L_2.n, L_2.cap, L_2.sp⟩, [(⟨l_13.q, l_13.n, l_13.cap, l_13.sp⟩ : VL)]⟩) Y (⟨h68, h71⟩) (sE Y) (fun w hh => hh) (fun s_3 l_15 r_3 hpl hm h78 => ?_)
   obtain ⟨h76, h77⟩ := hpl
   unfold QJ at hm
   refine jr (Kv Y Y Y (jq (ji ?_)))
   refine ju Y (fun h79 => ?_) (fun h79 => ?_)
   ·replace hm := ifD h79 hm
    refine jt (ja (ji (jp (jr (yf 1 isAgg154 Y Y Y Y (zX [_, _, _, _] 0 isAgg159 sizeOf159 Y Y Y Y ?_))))))
    refine jc Y Y Y (fun w hh => Qj (k := (⟨s_3.s16_after, (⟨s_3.s16_at__c0, s_3.s16_at__c1, s_3.s16_at__c2⟩ : Cells)⟩ : State)) (z := (⟨0, (⟨0, 0, 0⟩ : Cells)⟩ : State)) (runUnderlying154 w) yz (zeroValue159 w) Y Y (hh.mget 3 Y)) ?_
    refine kz (us := #[_, _, _, _]) (cs' := [_, _, _, _]) (S' := [_, _, _, _, _, _, _, _]) 0 (fun w => sizeOf159 w) Y Y Y Y Y Y Y (jq (je (jg Y Y (jg Y Y (zX [_, _, _, _] 0 isAgg159 sizeOf159 Y Y Y Y ?_)))))
    obtain ⟨t96, h80, hm⟩ := bindO hm
    refine jd [] [] Y Y Y Y Y Y Y call100 (fun w hh => za t20b.t14_0 t20b.t14_1 c0.fords c0.sands c0.sights t20b.t14_5 (⟨((aget o.t28 (⟨s_3.s16_after, (⟨s_3.s16_at__c0, s_3.s16_at__c1, s_3.s16_at__c2⟩ : Cells)⟩ : State)).getD (⟨0, (⟨0, 0, 0⟩ : Cells)⟩ : State)).after, (⟨((aget o.t28 (⟨s_3.s16_after, (⟨s_3.s16_at__c0, s_3.s16_at__c1, s_3.s16_at__c2⟩ : Cells)⟩ : State)).getD (⟨0, (⟨0, 0, 0⟩ : Cells)⟩ : State)).at_.c0, ((aget o.t28 (⟨s_3.s16_after, (⟨s_3.s16_at__c0, s_3.s16_at__c1, s_3.s16_at__c2⟩ : Cells)⟩ : State)).getD (⟨0, (⟨0, 0, 0⟩ : Cells)⟩ : State)).at_.c1, ((aget o.t28 (⟨s_3.s16_after, (⟨s_3.s16_at__c0, s_3.s16_at__c1, s_3.s16_at__c2⟩ : Cells)⟩ : State)).getD (⟨0, (⟨0, 0, 0⟩ : Cells)⟩ : State)).at_.c2⟩ : Cells)⟩ : State) l_1.1 qa0 na0 ca0 qa1 na1 ca1 qa2 na2 ca2 (qA l_1.2.2.q) l_1.2.2.n l_1.2.2.cap w (HV.callee (S0 := []) (vs0 := []) hh (roC (bsep (hh.bseg 6 Y)) (roR hh 0 Y (roR hh 1 Y (roR hh 2 Y (roC (hh.vsepA 2 Y h11) roN)))))) hna0 hqa0 hla0 hna1 hqa1 hla1 hna2 hqa2 hla2 (vlen RI h11 Y) (AOK.q (vne h11)) (h11).hle h80) (fun l_16 h81 => ?_)
    have h82 := h81
    refine jV (S' := [_, _, _, _, _, _, _, _]) (vs' := [_, _, _, _, _]) [0, 1, 2, 3, 4, 5, 6, 7] [0, 1, 2, 3, 4] 0 Y Y Y Y ?_
    refine qE RwH [(⟨l_16.q, l_16.n, l_16.cap, l_16.sp⟩ : VL)] (ps := [(0, _)]) (cells := [_]) (fun w => runUnderlying41 w) (fun w => sizeOf22 w) (fun w => zeroValue22 w) Y Y Y Y Y Y Y Y (fun L_3 h83 => ?_)
    refine Zs (E2 := 3) RI 1 (Y : _ = ([[]] : List (List Int))) (fun h84 => ?_)
    refine jV (S' := [_, _, _, _, _, _, _, _]) (vs' := [_, _, _, _, _, _]) [0, 1, 2, 3, 4, 5, 6, 7] [0, 1, 2, 3, 4, 5] 0 Y Y Y Y ?_
    refine Zq RI (l' := [t96]) 0 l_16.n l_16.cap h84 h82 Y Y (fun h85 => ?_)
    have h86 : DOK RI [t96] [(⟨l_16.q, l_16.n, l_16.cap, l_16.sp⟩ : VL)] := h85
    refine jad (S' := [_, _, _, _, _, _, _, _]) (vs' := [⟨22, RwH.enc [(⟨l_16.q, l_16.n, l_16.cap, l_16.sp⟩ : VL)], L_3.sp, L_3.q, dbl 3 RI [t96] [(⟨l_16.q, l_16.n, l_16.cap, l_16.sp⟩ : VL)]⟩, ⟨22, RwH.enc l_15.rs, l_15.v.sp, l_15.v.q, dbl 3 RI s_3.out17 l_15.rs⟩, ⟨155, RwH.enc l_1.2.1.rs, l_1.2.1.v.sp, l_1.2.1.v.q, dbl 159 RSta t20b.r1 l_1.2.1.rs⟩, vL 3 l_1.2.2 (RI.enc t20b.t14_5), mkV l_2]) [0, 1, 2, 3, 4, 5, 6, 7] [0, 1, 2, 3, 4] 0 (by decide) (by decide) Y Y Y ?_
    obtain ⟨t98, h87, hm⟩ := bindO hm
    refine zz RwH 1 (appcL h87 (h77).len (h86).len) underlying41 jal Y Y Y Y Y h76 Y Y (vlen RwH h83 Y) (AOK.q (vne h83)) (fun w hh => (hh.vsegA 0 Y h83)) Y (fun L_4 h88 _ => ?_)
    refine jV (S' := [_, _, _, _, _, _, _, _]) (vs' := [_, _, _, _, _]) [0, 1, 2, 3, 4, 5, 6, 7] [0, 1, 2, 3, 4] 0 Y Y Y Y (jV (S' := [_, _, _, _, _, _, _, _]) (vs' := [_, _, _, _, _]) [0, 1, 2, 3, 4, 5, 6, 7] [1, 0, 2, 3, 4] 0 Y Y Y Y ?_)
    refine ZZ RI h77 h86 (appcO h87).1.symm (fun h89 => ?_)
    refine jo Y Y (jx (jw (ja (je ?_))))
    obtain ⟨t99, h90, hm⟩ := bindO hm
    refine Kq h90 Y Y Y (jg Y Y (jx ?_))
    obtain rfl := sj hm
    refine ja ?_
    exact Q6 _ (⟨⟨L_4.q, L_4.n, L_4.cap, L_4.sp⟩, (l_15.rs ++ [(⟨l_16.q, l_16.n, l_16.cap, l_16.sp⟩ : VL)])⟩) Y Y (⟨h88, h89⟩) (sE Y) (fun w hh => hh)
   replace hm := ifE h79 hm
   refine kN (jl (jl (jO ?_)))
   obtain rfl := sj hm
   have hbo := h78 _ Y
   subst hbo
   exact J8 l_15 Y (⟨h76, h77⟩) (sE Y) (fun w hh => hh)
  intro l_14 hj
  obtain ⟨h74, h75⟩ := hj
  replace hm := h73
  refine ja (ji ?_)
  refine ky none (.free 0 (.hoist 1 (.free 2 (.one 3 (.hoist 4 (.free 5 (.free 6 (.free 7 .done)))))))) _ Y (by decide +kernel) (fun w k hh => hh.draw k) (fun w hh => hh) ?_
  refine zs Y Y Y (Kg 2 isAgg153 Y Y Y Y Y (zs Y Y Y (jA Y ?_)))
  obtain ⟨t103, h91, hm⟩ := bindO hm
  refine jd [] [] Y Y Y Y Y Y Y call99 (fun w hh => jW t20b.t14_0 t20b.t14_1 c0.fords c0.sands c0.sights t20b.t14_5 l_1.1 qa0 na0 ca0 qa1 na1 ca1 qa2 na2 ca2 (qA l_1.2.2.q) l_1.2.2.n l_1.2.2.cap w (HV.callee (S0 := []) (vs0 := []) hh (roC (bsep (hh.bseg 6 Y)) (roR hh 0 Y (roR hh 1 Y (roR hh 2 Y (roC (hh.vsepA 2 Y h11) roN)))))) hna0 hqa0 hla0 hna1 hqa1 hla1 hna2 hqa2 hla2 (vlen RI h11 Y) (AOK.q (vne h11)) (h11).hle h91) (fun l_17 h92 => ?_)
  refine jj (fun w hh => hh) (jy Y Y Y Y (fun w hh => Qj (k := t103) (z := 0) (runUnderlying153 w) yz (zeroValue3 w) Y Y (hh.mget 4 Y)) (jn Y Y Y Y (fun _ _ => kM Y) (jn Y Y Y Y (fun _ _ => kM Y) (jn Y Y Y Y (fun _ _ => kM Y) (jM (ja (jv ?_)))))))
  obtain rfl := sj hm
  refine Ks Y Y Y (fun w hh => (.tmp Y (.tmp Y (.tmp Y .nil)))) (fun w hh => ⟨l_14, rfl, ⟨h74, h75⟩, hh.se [] [0] 3 Y Y Y rfl⟩)
def yI (i0 : Int) (a11 : (List Int)) : Option Bool :=
 (jS a11 i0).bind fun t6 =>
 some (!t6)
theorem Ye (i0 : Int) (a11 : (List Int)) (rb : Nat) (qa1 : Option Addr) (na1 ca1 : Nat) (w : World) (hw : HV w (keys [] []) [] [] [(rb, 0, [.slice qa1 na1 ca1]), (aB qa1, aO qa1, RI.enc a11)] w)  (hna1 : a11.length = na1) (hqa1 : AOK na1 qa1) (hla1 : na1 ≤ ca1) {res : Bool} (hm : yI i0 a11 = some res) :
    Calls Tryz.prog 130 #[.int .i64 i0, ptr rb 0] w (fun en w' => ∃ l : Unit, en = .returned (.bool res) ∧ (True) ∧ HV w (keys [] []) [] [] [] w') := by
  unfold yI at hm
  refine yr func130 Y ntmps130 Y (e := [(0, _), (1, _)]) Y hw (jr (jo Y Y (k7 (jc Y Y Y (fun w hh => jz (isAgg22 w) Y (segCell (hh.seg 0 Y) 0 Y)) (jg Y Y ?_)))))
  obtain ⟨t6, h1, hm⟩ := bindO hm
  refine jd [] [] Y Y Y Y Y Y Y call64 (fun w hh => qY a11 i0 qa1 na1 ca1 w (HV.callee (S0 := []) (vs0 := []) hh (roR hh 1 Y roN)) hna1 hqa1 hla1 h1) (fun l h2 => ?_)
  refine jc Y Y Y (fun _ _ => zt Y) (jo Y Y (jq (jv ?_)))
  obtain rfl := sj hm
  refine jm Y (fun w hh => (.tmp Y .nil)) (fun w hh => ⟨(), rfl, trivial, hh.se [] [] 2 Y Y Y rfl⟩)
def qD (d04 : (List Sight)) (s2 : State) (f1_0_c0 : (List Int)) (d00 : Int) (d01 : Int) (d02 : (List Int)) (d03 : (List Sand)) (d05 : (List Int)) (s : Int) : Option (Int ⊕ (Unit ⊕ Bool)) :=
 if s < (d04.length : Int) then
 ((ix d04 s).bind fun t18 =>
 (if t18.after = s2.after then
 ((yI s f1_0_c0).bind fun t29 =>
 if t29 = true then
 ((kW d00 d01 d02 d03 d04 d05 s2).bind fun t34 =>
 (jS t34 t18.cell).bind fun t37 =>
 some (!(t37 == t18.upright))) else
 (some false)) else
 (some false)).bind fun o_1 =>
 if o_1 = true then
 (some (.inr (.inr false))) else
 ((addc s 1).bind fun t42 =>
 some (.inl t42))) else
 (some (.inr (.inl ())))
def ye (d00 : Int) (d01 : Int) (d02 : (List Int)) (d03 : (List Sand)) (d04 : (List Sight)) (d05 : (List Int)) (f1_0_c0 : (List Int)) (s2 : State) : Option Bool :=
 (iterM FU (qD d04 s2 f1_0_c0 d00 d01 d02 d03 d05) 0).bind fun o =>
 oc o (fun j => some true) (fun r_1 => some r_1)
theorem QR (d00 : Int) (d01 : Int) (d02 : (List Int)) (d03 : (List Sand)) (d04 : (List Sight)) (d05 : (List Int)) (f1_0_c0 : (List Int)) (s2 : State) (rb : Nat) (qa1 : Option Addr) (na1 ca1 : Nat) (qa2 : Option Addr) (na2 ca2 : Nat) (qa3 : Option Addr) (na3 ca3 : Nat) (qa4 : Option Addr) (na4 ca4 : Nat) (rb_1 : Nat) (qa6 : Option Addr) (na6 ca6 : Nat) (w : World) (hw : HV w (keys [] []) [] [] [(rb, 0, [.int .i64 d00, .int .i64 d01, .slice qa1 na1 ca1, .slice qa2 na2 ca2, .slice qa3 na3 ca3, .slice qa4 na4 ca4]), (aB qa1, aO qa1, RI.enc d02), (aB qa2, aO qa2, RSa.enc d03), (aB qa3, aO qa3, RSi.enc d04), (aB qa4, aO qa4, RI.enc d05), (rb_1, 0, [.slice qa6 na6 ca6]), (aB qa6, aO qa6, RI.enc f1_0_c0)] w)  (hna1 : d02.length = na1) (hqa1 : AOK na1 qa1) (hla1 : na1 ≤ ca1) (hna2 : d03.length = na2) (hqa2 : AOK na2 qa2) (hla2 : na2 ≤ ca2) (hna3 : d04.length = na3) (hqa3 : AOK na3 qa3) (hla3 : na3 ≤ ca3) (hna4 : d05.length = na4) (hqa4 : AOK na4 qa4) (hla4 : na4 ≤ ca4)  (hna6 : f1_0_c0.length = na6) (hqa6 : AOK na6 qa6) (hla6 : na6 ≤ ca6) {res : Bool} (hm : ye d00 d01 d02 d03 d04 d05 f1_0_c0 s2 = some res) :
    Calls Tryz.prog 143 #[ptr rb 0, .agg #[.func (.func 130) #[] #[ptr rb_1 0]], .agg #[.int .i64 s2.after, .int .i64 s2.at_.c0, .int .i64 s2.at_.c1, .int .i64 s2.at_.c2]] w (fun en w' => ∃ l : Unit, en = .returned (.bool res) ∧ (True) ∧ HV w (keys [] []) [] [] [] w') := by
  unfold ye at hm
  refine yr func143 Y ntmps143 Y (e := [(0, _), (1, _), (2, _)]) Y hw (jr ?_)
  refine jI Y Y (fun b h1 => ?_)
  refine jI Y Y (fun b_1 h2 => ?_)
  refine jo Y Y (jq (ji (jr (jg Y Y (jc Y Y Y (fun _ _ => jQ Y) (yD 0 runUnderlying175 Y sizeOf26 Y Y (yD 4 runUnderlying26 Y sizeOf24 Y Y ?_)))))))
  refine jc Y Y Y (fun w hh => jz (isAgg24 w) Y (segCell (hh.seg 0 Y) 4 Y)) (jc Y Y Y (fun w _ => qd hna3 (runUnderlying24 w) Y) (jg Y Y (jq ?_)))
  obtain ⟨o, h3, h4⟩ := bindO hm
  refine j3 (ι := Unit) (fun j => o = .inl j) (fun j => []) (fun j => [kc b_1 #[.int .i64 s2.after, .int .i64 s2.at_.c0, .int .i64 s2.at_.c1, .int .i64 s2.at_.c2] 159, kc b #[.func (.func 130) #[] #[ptr rb_1 0]] 181]) (fun j => []) ?_ ?_
  ·replace hm := h3
   refine jp ?_
   refine kk (ι := Unit) hm (fun s l => True) (fun s l => [(0, ptr rb 0), (4, ptr b 0), (5, ptr b_1 0), (13, .slice qa3 na3 ca3), (14, .int .i64 (d04.length : Int)), (15, .int .i64 s)]) (fun s l => [kc b_1 #[.int .i64 s2.after, .int .i64 s2.at_.c0, .int .i64 s2.at_.c1, .int .i64 s2.at_.c2] 159, kc b #[.func (.func 130) #[] #[ptr rb_1 0]] 181]) (fun s l => []) () (trivial) (sE Y) (fun w hh => hh) (fun s l r hpl hm h5 => ?_)
   unfold qD at hm
   refine jr (Kv Y Y Y (jq (ji ?_)))
   refine ju Y (fun h6 => ?_) (fun h6 => ?_)
   ·replace hm := ifD h6 hm
    refine jt (ja (ji (jp (jr (jg Y Y ?_)))))
    obtain ⟨t18, h7, hm⟩ := bindO hm
    refine jc Y Y Y (fun w _ => Jy h7 (runUnderlying24 w) (sizeOf55 w) Y Y hna3 hqa3) ?_
    refine jc Y Y Y (fun w hh => JE RSi 0 [.int .i64 t18.after, .int .i64 t18.cell, .bool t18.upright] h7 (isAgg55 w) (sizeOf55 w) Y (hh.seg 3 Y) Y (Nat.add_zero _).symm) ?_
    refine js (fun w => zeroValue55 w) Y (fun b_2 h8 => ?_)
    refine jo Y Y (kz (us := #[_, _, _]) (cs' := [_, _, _]) (S' := [_, _, _]) 0 (fun w => sizeOf55 w) Y Y Y Y Y Y Y (jq (ji ?_)))
    obtain ⟨o_1, h9, h10⟩ := bindO hm
    refine j3 (ι := Unit) (fun l_1 => True) (fun l_1 => [(0, ptr rb 0), (4, ptr b 0), (5, ptr b_1 0), (13, .slice qa3 na3 ca3), (14, .int .i64 (d04.length : Int)), (15, .int .i64 s), (41, .bool o_1)]) (fun l_1 => [kc b_2 #[.int .i64 t18.after, .int .i64 t18.cell, .bool t18.upright] 55, kc b_1 #[.int .i64 s2.after, .int .i64 s2.at_.c0, .int .i64 s2.at_.c1, .int .i64 s2.at_.c2] 159, kc b #[.func (.func 130) #[] #[ptr rb_1 0]] 181]) (fun l_1 => []) ?_ ?_
    ·replace hm := h9
     refine ky none (.free 0 (.hoist 1 (.free 2 (.hoist 3 (.free 4 (.free 5 (.free 6 (.hoist 7 (.free 8 (.one 9 (.free 10 (.free 11 (.free 12 (.hoist 13 (.free 15 (.hoist 16 (.free 18 (.hoist 19 (.one 14 (.one 17 (.free 20 (.free 21 .done)))))))))))))))))))))) _ Y (by decide +kernel) (fun w k hh => hh.draw k) (fun w hh => hh) ?_
     refine JT 0 runUnderlying55 sizeOf3 Y Y Y Y (Kg 0 isAgg3 Y Y Y Y Y (JT 0 runUnderlying159 sizeOf3 Y Y Y Y (Kg 1 isAgg3 Y Y Y Y Y (jn Y Y Y Y (fun _ _ => Ju Y Y) (zs Y Y Y ?_)))))
     refine j4 25 Y (fun h11 => ?_) (fun h11 => ?_)
     ·replace hm := ifD h11 hm
      refine qW Y Y Y Y Y Y (fun w _ => jR 0 (runUnderlying181 w) Y (sizeOf102 w) Y) (Jl Y Y Y Y Y Y (fun w hh => jz (isAgg102 w) Y (hh.cell 2 Y Y)) (qW Y Y Y Y Y Y (fun _ _ => k8 Y) (jA Y (jb Y Y ?_))))
      obtain ⟨t29, h12, hm⟩ := bindO hm
      refine jd [] [] Y Y Y Y Y Y Y call130 (fun w hh => Ye s f1_0_c0 rb_1 qa6 na6 ca6 w (HV.callee (S0 := []) (vs0 := []) hh (roR hh 5 Y (roR hh 6 Y roN))) hna6 hqa6 hla6 h12) (fun l_2 h13 => ?_)
      refine jj (fun w hh => hh) (jn Y Y Y Y (fun _ _ => Qi Y Y) (zs Y Y Y ?_))
      refine j4 31 Y (fun h14 => ?_) (fun h14 => ?_)
      ·replace hm := ifT (h14) hm
       refine qW Y Y Y Y Y Y (fun _ _ => k8 Y) (Jl Y Y Y Y Y Y (fun w hh => jP (vs := [_, _, _, _]) (isAgg159 w) (sizeOf159 w) Y (hh.cells 1 Y Y)) (qW Y Y Y Y Y Y (fun w _ => jR 1 (runUnderlying55 w) Y (sizeOf3 w) Y) (Jl Y Y Y Y Y Y (fun w hh => jz (isAgg3 w) Y (hh.cell 0 Y Y)) (qW Y Y Y Y Y Y (fun w _ => jR 2 (runUnderlying55 w) Y (sizeOf4 w) Y) (Jl Y Y Y Y Y Y (fun w hh => jz (isAgg4 w) Y (hh.cell 0 Y Y)) (jA Y (jb Y Y ?_)))))))
       obtain ⟨t34, h15, hm⟩ := bindO hm
       refine jd [] [] Y Y Y Y Y Y Y call100 (fun w hh => za d00 d01 d02 d03 d04 d05 s2 rb qa1 na1 ca1 qa2 na2 ca2 qa3 na3 ca3 qa4 na4 ca4 w (HV.callee (S0 := []) (vs0 := []) hh (roR hh 0 Y (roR hh 1 Y (roR hh 2 Y (roR hh 3 Y (roR hh 4 Y roN)))))) hna1 hqa1 hla1 hna2 hqa2 hla2 hna3 hqa3 hla3 hna4 hqa4 hla4 h15) (fun l_3 h16 => ?_)
       have h17 := h16
       refine jV (S' := [_, _, _]) (vs' := [_]) [0, 1, 2] [0] 0 Y Y Y Y (jj (hsE [0, 1, 2] [] 0 Y Y Y Y) (jA Y (jb Y Y ?_)))
       obtain ⟨t37, h18, hm⟩ := bindO hm
       refine jd [] [] Y Y Y Y Y Y Y call64 (fun w hh => qY t34 t18.cell (qA l_3.q) l_3.n l_3.cap w (HV.callee (S0 := []) (vs0 := []) hh (roC (hh.vsepA 0 Y h17) roN)) (vlen RI h17 Y) (AOK.q (vne h17)) (h17).hle h18) (fun l_4 h19 => ?_)
       refine jj (hsE [0, 1, 2] [] 0 Y Y Y Y) (qW Y Y Y Y Y Y (fun w _ => Y6 (runUnderlying4 w) Y Y) (jn Y Y Y Y (fun _ _ => Qi Y Y) (jM ?_)))
       obtain rfl := sj hm
       exact jk () (trivial) (sE Y) (hsE [0, 1, 2] [] 0 Y Y Y Y)
      replace hm := ifN h14 hm
      refine kA Y Y Y Y Y Y Y (Jq Y Y Y Y Y Y Y (kA Y Y Y Y Y Y Y (Jq Y Y Y Y Y Y Y (kA Y Y Y Y Y Y Y (Jq Y Y Y Y Y Y Y (jA Y (g_k Y Y Y Y ?_)))))))
      refine jj (fun w hh => hh) (jA Y (g_k Y Y Y Y (jj (fun w hh => hh) (kA Y Y Y Y Y Y Y (jn Y Y Y Y (fun _ _ => Kb Y Y) (jM ?_))))))
      obtain rfl := sj hm
      exact jk () (trivial) (sE Y) (fun w hh => hh)
     replace hm := ifE h11 hm
     refine kA Y Y Y Y Y Y Y (Jq Y Y Y Y Y Y Y (kA Y Y Y Y Y Y Y (jA Y (g_k Y Y Y Y (jj (fun w hh => hh) (jn Y Y Y Y (fun _ _ => Kb Y Y) (zs Y Y Y ?_)))))))
     refine kA Y Y Y Y Y Y Y (Jq Y Y Y Y Y Y Y (kA Y Y Y Y Y Y Y (Jq Y Y Y Y Y Y Y (kA Y Y Y Y Y Y Y (Jq Y Y Y Y Y Y Y (jA Y (g_k Y Y Y Y ?_)))))))
     refine jj (fun w hh => hh) (jA Y (g_k Y Y Y Y (jj (fun w hh => hh) (kA Y Y Y Y Y Y Y (jn Y Y Y Y (fun _ _ => Kb Y Y) (jM ?_))))))
     obtain rfl := sj hm
     exact jk () (trivial) (sE Y) (fun w hh => hh)
    intro l_1 hj
    replace hm := h10
    refine ja ?_
    refine ju Y (fun h20 => ?_) (fun h20 => ?_)
    ·replace hm := ifT (h20) hm
     refine jr (jo Y Y (jq (jv (jJ (jh (jh (jJ ?_)))))))
     obtain rfl := sj hm
     have hbo := h5 _ Y
     subst hbo
     refine jh ?_
     replace hm := ocR h4
     refine jh ?_
     obtain rfl := sj hm
     refine jm Y (fun w hh => (.tmp Y .nil)) (fun w hh => ⟨(), rfl, trivial, hh.se [] [] 7 Y Y Y rfl⟩)
    replace hm := ifN h20 hm
    refine jt (jw (ja (je ?_)))
    obtain ⟨t42, h21, hm⟩ := bindO hm
    refine Kq h21 Y Y Y (jg Y Y (jx ?_))
    obtain rfl := sj hm
    refine ja ?_
    exact jN _ () Y (trivial) (sE Y) (hsE [1, 2] [] 0 Y Y Y Y)
   replace hm := ifE h6 hm
   refine kN (jl (jl (jO ?_)))
   obtain rfl := sj hm
   have hbo := h5 _ Y
   subst hbo
   exact jk () (Y) (.nil) (fun w hh => hh)
  intro j hj
  have h22 := hj
  subst h22
  replace hm := ocL h4
  refine ja (jr (jo Y Y (jq (jv ?_))))
  obtain rfl := sj hm
  refine jm Y (fun w hh => (.tmp Y .nil)) (fun w hh => ⟨(), rfl, trivial, hh.se [] [] 7 Y Y Y rfl⟩)
structure kd where
  r0 : Int
  a11 : (List (State × Int))
structure y5 where
  n9 : Int
  a11 : (List (State × Int))
structure kF where
  n9 : Int
  a11 : (List (State × Int))
structure KV where
  n9 : Int
  a11 : (List (State × Int))
def qm (rec_ : State → (List (State × Int)) → Int → Int → (List Int) → (List Sand) → (List Sight) → (List Int) → (List Int) → Option kd) (a220 : Int) (a221 : Int) (a222 : (List Int)) (a223 : (List Sand)) (a224 : (List Sight)) (a225 : (List Int)) (a330_c0 : (List Int)) (x : State) (s : kF) : Option kF :=
 ((rec_ x s.a11 a220 a221 a222 a223 a224 a225 a330_c0).bind fun t26 =>
 (addc s.n9 t26.r0).bind fun t27 =>
 some (⟨t27, t26.a11⟩ : KV)).bind fun o_2 =>
 some (⟨o_2.n9, o_2.a11⟩ : kF)
def ym (rec_ : State → (List (State × Int)) → Int → Int → (List Int) → (List Sand) → (List Sight) → (List Int) → (List Int) → Option kd) (s0 : State) (a11 : (List (State × Int))) (a220 : Int) (a221 : Int) (a222 : (List Int)) (a223 : (List Sand)) (a224 : (List Sight)) (a225 : (List Int)) (a330_c0 : (List Int)) : Option kd :=
 if ((aget a11 s0).isSome) = true then
 (some (⟨((aget a11 s0).getD 0), a11⟩ : kd)) else
 (((ye a220 a221 a222 a223 a224 a225 a330_c0 s0).bind fun t32 =>
 if (!t32) = true then
 (some (⟨0, a11⟩ : y5)) else
 (if s0.after = a221 then
 (some (⟨1, a11⟩ : y5)) else
 ((j7 a220 a221 a222 a223 a224 a225 s0).bind fun t21 =>
 if nextOK a220 a225 (a222.length : Int) t21 then ((iterL (qm rec_ a220 a221 a222 a223 a224 a225 a330_c0) (nextL a220 a225 (a222.length : Int) t21) (⟨0, a11⟩ : kF)).bind fun o_1 =>
 some (⟨o_1.n9, o_1.a11⟩ : y5)) else none))).bind fun o =>
 (some (aset o.a11 s0 o.n9)).bind fun a11_1 =>
 some (⟨o.n9, a11_1⟩ : kd))
def jF : Nat → State → (List (State × Int)) → Int → Int → (List Int) → (List Sand) → (List Sight) → (List Int) → (List Int) → Option kd
  | 0, _, _, _, _, _, _, _, _, _ => none
  | fu + 1, s0, a11, a220, a221, a222, a223, a224, a225, a330_c0 => ym (jF fu) s0 a11 a220 a221 a222 a223 a224 a225 a330_c0
theorem Qw (fu_ : Nat) : ∀ (s0 : State) (a11 : (List (State × Int))) (a220 : Int) (a221 : Int) (a222 : (List Int)) (a223 : (List Sand)) (a224 : (List Sight)) (a225 : (List Int)) (a330_c0 : (List Int)) (rb : Nat) (pb : Nat) (rb_1 : Nat) (rb_2 : Nat) (qa3 : Option Addr) (na3 ca3 : Nat) (qa4 : Option Addr) (na4 ca4 : Nat) (qa5 : Option Addr) (na5 ca5 : Nat) (qa6 : Option Addr) (na6 ca6 : Nat) (rb_3 : Nat) (rb_4 : Nat) (qa9 : Option Addr) (na9 ca9 : Nat) (rb_5 : Nat) (w : World) (hw : HV w (keys [(pb, gobj (kR RSta) kI a11)] []) [(pb, gobj (kR RSta) kI a11)] [] [(rb, 0, [.map (some pb)]), (rb_1, 0, [ptr rb_2 0]), (rb_2, 0, [.int .i64 a220, .int .i64 a221, .slice qa3 na3 ca3, .slice qa4 na4 ca4, .slice qa5 na5 ca5, .slice qa6 na6 ca6]), (aB qa3, aO qa3, RI.enc a222), (aB qa4, aO qa4, RSa.enc a223), (aB qa5, aO qa5, RSi.enc a224), (aB qa6, aO qa6, RI.enc a225), (rb_3, 0, [.func (.func 130) #[] #[ptr rb_4 0]]), (rb_4, 0, [.slice qa9 na9 ca9]), (aB qa9, aO qa9, RI.enc a330_c0), (rb_5, 0, [.func (.func 190) #[] #[ptr rb 0, ptr rb_1 0, ptr rb_3 0, ptr rb_5 0]])] w)    (hna3 : a222.length = na3) (hqa3 : AOK na3 qa3) (hla3 : na3 ≤ ca3) (hna4 : a223.length = na4) (hqa4 : AOK na4 qa4) (hla4 : na4 ≤ ca4) (hna5 : a224.length = na5) (hqa5 : AOK na5 qa5) (hla5 : na5 ≤ ca5) (hna6 : a225.length = na6) (hqa6 : AOK na6 qa6) (hla6 : na6 ≤ ca6)   (hna9 : a330_c0.length = na9) (hqa9 : AOK na9 qa9) (hla9 : na9 ≤ ca9)  {res : kd} (hm : jF fu_ s0 a11 a220 a221 a222 a223 a224 a225 a330_c0 = some res),
    Calls Tryz.prog 190 #[.agg #[.int .i64 s0.after, .int .i64 s0.at_.c0, .int .i64 s0.at_.c1, .int .i64 s0.at_.c2], ptr rb 0, ptr rb_1 0, ptr rb_3 0, ptr rb_5 0] w (fun en w' => ∃ l : Unit, en = .returned (.int .i64 res.r0) ∧ (True) ∧ HV w (keys [(pb, gobj (kR RSta) kI a11)] []) [(pb, gobj (kR RSta) kI res.a11)] [] [] w') := by
  induction fu_ with
  | zero =>
    intros
    rename_i hm
    exact absurd hm (by simp [jF])
  | succ fu_ ih =>
  intro s0 a11 a220 a221 a222 a223 a224 a225 a330_c0 rb pb rb_1 rb_2 qa3 na3 ca3 qa4 na4 ca4 qa5 na5 ca5 qa6 na6 ca6 rb_3 rb_4 qa9 na9 ca9 rb_5 w hw    hna3 hqa3 hla3 hna4 hqa4 hla4 hna5 hqa5 hla5 hna6 hqa6 hla6   hna9 hqa9 hla9  res hm
  replace hm : ym (jF fu_) s0 a11 a220 a221 a222 a223 a224 a225 a330_c0 = some res := hm
  unfold ym at hm
  refine Yy (args := [.agg #[.int .i64 s0.after, .int .i64 s0.at_.c0, .int .i64 s0.at_.c1, .int .i64 s0.at_.c2], ptr rb 0, ptr rb_1 0, ptr rb_3 0, ptr rb_5 0]) func190 Y ntmps190 Y (e := [(0, _), (1, _), (2, _), (3, _), (4, _)]) Y (H := HV w (keys [(pb, gobj (kR RSta) kI a11)] []) [(pb, gobj (kR RSta) kI a11)] [] [(rb, 0, [.map (some pb)]), (rb_1, 0, [ptr rb_2 0]), (rb_2, 0, [.int .i64 a220, .int .i64 a221, .slice qa3 na3 ca3, .slice qa4 na4 ca4, .slice qa5 na5 ca5, .slice qa6 na6 ca6]), (aB qa3, aO qa3, RI.enc a222), (aB qa4, aO qa4, RSa.enc a223), (aB qa5, aO qa5, RSi.enc a224), (aB qa6, aO qa6, RI.enc a225), (rb_3, 0, [.func (.func 130) #[] #[ptr rb_4 0]]), (rb_4, 0, [.slice qa9 na9 ca9]), (aB qa9, aO qa9, RI.enc a330_c0), (rb_5, 0, [.func (.func 190) #[] #[ptr rb 0, ptr rb_1 0, ptr rb_3 0, ptr rb_5 0]])]) hw ?_
  refine QZ (jr ?_)
  refine jI Y Y (fun b h1 => ?_)
  refine jo Y Y (jq (ji (jr (jc Y Y Y (fun w hh => jz (isAgg153 w) Y (segCell (hh.seg 0 Y) 0 Y)) (zX [_, _, _, _] 0 isAgg159 sizeOf159 Y Y Y Y (jc Y Y Y (fun w hh => Zv (k := s0) (z := 0) (runUnderlying153 w) yz (zeroValue3 w) Y Y (hh.mget 1 Y)) (jg Y Y ?_)))))))
  refine zo Y Y Y (zo Y Y Y (jo Y Y (jo Y Y (k7 (jg Y Y (jq ?_))))))
  refine ju Y (fun h2 => ?_) (fun h2 => ?_)
  ·replace hm := ifT (h2) hm
   refine jr (jg Y Y (jo Y Y (jq (jv (jh ?_)))))
   obtain rfl := sj hm
   refine Ks Y Y Y (fun w hh => (.tmp Y .nil)) (fun w hh => ⟨(), rfl, trivial, hh.se [1] [] 11 Y Y Y rfl⟩)
  replace hm := ifN h2 hm
  refine jt (ja (jr ?_))
  refine js (fun w => zeroValue3 w) Y (fun b_1 h3 => ?_)
  refine q4 (cs' := #[_]) (S' := [_, _, _]) 0 (fun w => sizeOf3 w) Y Y Y Y Y Y Y (jq (ji ?_))
  obtain ⟨o, h4, h5⟩ := bindO hm
  refine YQ (ι := List Nat) (fun l => mks l) (fun l => True) (fun l => [(1, ptr rb 0), (5, ptr b 0), (9, ptr b_1 0)]) (fun l => [kc b_1 #[.int .i64 o.n9] 3, kc b #[.int .i64 s0.after, .int .i64 s0.at_.c0, .int .i64 s0.at_.c1, .int .i64 s0.at_.c2] 159, (pb, gobj (kR RSta) kI o.a11)]) (fun l => [mkV l]) ?_ ?_
  ·replace hm := h4
   refine jp (jr (jc Y Y Y (fun w hh => jz (isAgg146 w) Y (segCell (hh.seg 1 Y) 0 Y)) (jc Y Y Y (fun w hh => jP (vs := [_]) (isAgg181 w) (sizeOf181 w) Y (segCells (hh.seg 7 Y) 0 Y)) (zX [_, _, _, _] 1 isAgg159 sizeOf159 Y Y Y Y ?_))))
   obtain ⟨t32, h6, hm⟩ := bindO hm
   refine jd [] [] Y Y Y Y Y Y Y call143 (fun w hh => QR a220 a221 a222 a223 a224 a225 a330_c0 s0 rb_2 qa3 na3 ca3 qa4 na4 ca4 qa5 na5 ca5 qa6 na6 ca6 rb_4 qa9 na9 ca9 w (HV.callee (S0 := []) (vs0 := []) hh (roR hh 2 Y (roR hh 3 Y (roR hh 4 Y (roR hh 5 Y (roR hh 6 Y (roR hh 8 Y (roR hh 9 Y roN)))))))) hna3 hqa3 hla3 hna4 hqa4 hla4 hna5 hqa5 hla5 hna6 hqa6 hla6 hna9 hqa9 hla9 h6) (fun l_1 h7 => ?_)
   refine jc Y Y Y (fun _ _ => zt Y) (jo Y Y (jq ?_))
   refine ju Y (fun h8 => ?_) (fun h8 => ?_)
   ·replace hm := ifT (h8) hm
    refine jt (jw ?_)
    obtain rfl := sj hm
    exact J8 [] Y (trivial) (sE Y) (fun w hh => hh)
   replace hm := ifN h8 hm
   refine ji ?_
   refine ky none (.free 0 (.hoist 1 (.hoist 2 (.free 3 (.free 4 (.free 5 (.hoist 6 (.free 7 (.free 8 .done))))))))) _ Y (by decide +kernel) (fun w k hh => hh.draw k) (fun w hh => hh) ?_
   refine JT 0 runUnderlying159 sizeOf3 Y Y Y Y (Kg 1 isAgg3 Y Y Y Y Y (jy Y Y Y Y (fun w hh => jz (isAgg146 w) Y (segCell (hh.seg 1 Y) 0 Y)) (jn Y Y Y Y (fun _ _ => jQ Y) (JT 0 runUnderlying175 sizeOf26 Y Y Y Y (JT 1 runUnderlying26 sizeOf3 Y Y Y Y (jy Y Y Y Y (fun w hh => jz (isAgg3 w) Y (segCell (hh.seg 2 Y) 1 Y)) (jn Y Y Y Y (fun _ _ => Ju Y Y) ?_)))))))
   refine jn Y Y Y Y (fun _ _ => kM Y) (jM (ja ?_))
   refine ju Y (fun h9 => ?_) (fun h9 => ?_)
   ·replace hm := ifD h9 hm
    refine je (q4 (cs' := #[_]) (S' := [_, _, _]) 0 (fun w => sizeOf3 w) Y Y Y Y Y Y Y (jx (jw ?_)))
    obtain rfl := sj hm
    exact J8 [] Y (trivial) (sE Y) (fun w hh => hh)
   replace hm := ifE h9 hm
   refine jr (jc Y Y Y (fun w hh => jz (isAgg146 w) Y (segCell (hh.seg 1 Y) 0 Y)) (zX [_, _, _, _] 1 isAgg159 sizeOf159 Y Y Y Y ?_))
   obtain ⟨t21, h10, hm⟩ := bindO hm
   refine jd [] [] Y Y Y Y Y Y Y call96 (fun w hh => zn a220 a221 a222 a223 a224 a225 s0 rb_2 qa3 na3 ca3 qa4 na4 ca4 qa5 na5 ca5 qa6 na6 ca6 w (HV.callee (S0 := []) (vs0 := []) hh (roR hh 2 Y (roR hh 3 Y (roR hh 4 Y (roR hh 5 Y (roR hh 6 Y roN)))))) hna3 hqa3 hla3 hna4 hqa4 hla4 hna5 hqa5 hla5 hna6 hqa6 hla6 h10) (fun l_2 h11 => ?_)
   refine jV (S' := [_, _, _, _, _]) (vs' := [_]) [0, 1, 2, 3, 4] [0] 0 Y Y Y Y (jq (jp ?_))
   obtain ⟨h12, hm⟩ := ifO hm
   refine ZD (e' := [(1, ptr rb 0), (4, ptr rb_5 0), (5, ptr b 0), (9, ptr b_1 0), (21, .func (.func 161) #[] #[ptr l_2.1 0, ptr l_2.2 0])]) (sE Y) ?_
   obtain ⟨o_1, h13, hm⟩ := bindO hm
   refine Qp (ι := Unit) (nextL a220 a225 (a222.length : Int) t21) (fun x => .agg #[.int .i64 x.after, .int .i64 x.at_.c0, .int .i64 x.at_.c1, .int .i64 x.at_.c2]) h13 (fun s l_3 => True) (fun s l_3 => [kc l_2.1 #[.int .i64 t21.after, .int .i64 t21.at_.c0, .int .i64 t21.at_.c1, .int .i64 t21.at_.c2] 159, kc l_2.2 #[ptr rb_2 0] 146, kc b_1 #[.int .i64 s.n9] 3, kc b #[.int .i64 s0.after, .int .i64 s0.at_.c0, .int .i64 s0.at_.c1, .int .i64 s0.at_.c2] 159, (pb, gobj (kR RSta) kI s.a11)]) (fun s l_3 => [mkV []]) () (trivial) (fun w hh => hh) (RdN l_2.2 rb_2 l_2.1 a220 (.int .i64 a221) (.slice qa4 na4 ca4) (.slice qa5 na5 ca5) qa3 qa6 na3 ca3 na6 ca6 a225 t21) (fun s l_3 w h14 hh => ⟨hh.bseg 1 rfl, hh.seg 2 rfl, hh.bseg 0 rfl, hh.seg 6 rfl⟩) (fun x => (.cells #[.int .i64 x.after, .int .i64 x.at_.c0, .int .i64 x.at_.c1, .int .i64 x.at_.c2] 159 (0, 0))) (it_next _ _ _ l_2.2 rb_2 l_2.1 a220 (.int .i64 a221) (.slice qa4 na4 ca4) (.slice qa5 na5 ca5) qa3 qa6 na3 ca3 na6 ca6 a222 a225 t21 hna3 hna6 hqa6 h12) Y call161 Y (e1 := fun x bx => (10, ptr bx 0) :: (22, .agg #[.int .i64 x.after, .int .i64 x.at_.c0, .int .i64 x.at_.c1, .int .i64 x.at_.c2]) :: [(1, ptr rb 0), (4, ptr rb_5 0), (5, ptr b 0), (9, ptr b_1 0), (21, .func (.func 161) #[] #[ptr l_2.1 0, ptr l_2.2 0])]) (fun x lr L X hX => ?_) (fun x s r l_3 lr w1 bx h14 hm => ?_) (fun l_3 D h14 => ?_)
   ·refine je ?_
    refine js (fun w => zeroValue159 w) Y (fun b_2 h17 => ?_)
    refine kz (us := #[_, _, _, _]) (cs' := [_, _, _, _]) (S' := [_]) 0 (fun w => sizeOf159 w) Y Y Y Y Y Y Y (jq ?_)
    exact hX _
   ·unfold qm at hm
    refine jp ?_
    obtain ⟨o_2, h18, h19⟩ := bindO hm
    refine j3 (ι := Unit) (fun l_4 => True) (fun l_4 => []) (fun l_4 => [kc bx #[.int .i64 x.after, .int .i64 x.at_.c0, .int .i64 x.at_.c1, .int .i64 x.at_.c2] 159, kc l_2.1 #[.int .i64 t21.after, .int .i64 t21.at_.c0, .int .i64 t21.at_.c1, .int .i64 t21.at_.c2] 159, kc l_2.2 #[ptr rb_2 0] 146, kc b_1 #[.int .i64 o_2.n9] 3, kc b #[.int .i64 s0.after, .int .i64 s0.at_.c0, .int .i64 s0.at_.c1, .int .i64 s0.at_.c2] 159, (pb, gobj (kR RSta) kI o_2.a11)]) (fun l_4 => [mkV []]) ?_ ?_
    ·replace hm := h18
     refine ky (some 5) (.hoist 0 (.hoist 1 (.hoist 2 (.one 3 (.free 4 (.last 5 .done)))))) (HV _ _ [kc bx #[.int .i64 x.after, .int .i64 x.at_.c0, .int .i64 x.at_.c1, .int .i64 x.at_.c2] 159, kc l_2.1 #[.int .i64 t21.after, .int .i64 t21.at_.c0, .int .i64 t21.at_.c1, .int .i64 t21.at_.c2] 159, kc l_2.2 #[ptr rb_2 0] 146, kc b_1 #[.int .i64 s.n9] 3, kc b #[.int .i64 s0.after, .int .i64 s0.at_.c0, .int .i64 s0.at_.c1, .int .i64 s0.at_.c2] 159] [mkV []] _) Y (by decide +kernel) (fun w k hh => hh.draw k) (hsE [0, 1, 2, 3, 4] [0] 0 Y Y Y Y) ?_
     refine Kg 3 isAgg3 Y Y Y Y Y (jy Y Y Y Y (fun w hh => jz (isAgg171 w) Y (segCell (hh.seg 10 Y) 0 Y)) (jy Y Y Y Y (fun w hh => jP (vs := [_, _, _, _]) (isAgg159 w) (sizeOf159 w) Y (hh.cells 0 Y Y)) (jA Y ?_)))
     obtain ⟨t26, h20, hm⟩ := bindO hm
     refine jV (S' := [_, _, _, _, _, _]) (vs' := [_]) [5, 0, 1, 2, 3, 4] [0] 0 Y Y Y Y ?_
     refine jd [_] [] Y Y Y Y Y Y Y call190 (fun w hh => ih x s.a11 a220 a221 a222 a223 a224 a225 a330_c0 rb pb rb_1 rb_2 qa3 na3 ca3 qa4 na4 ca4 qa5 na5 ca5 qa6 na6 ca6 rb_3 rb_4 qa9 na9 ca9 rb_5 w (HV.callee (S0 := [_]) (vs0 := []) hh (roR hh 0 Y (roR hh 1 Y (roR hh 2 Y (roR hh 3 Y (roR hh 4 Y (roR hh 5 Y (roR hh 6 Y (roR hh 7 Y (roR hh 8 Y (roR hh 9 Y (roR hh 10 Y roN)))))))))))) hna3 hqa3 hla3 hna4 hqa4 hla4 hna5 hqa5 hla5 hna6 hqa6 hla6 hna9 hqa9 hla9 h20) (fun l_5 h21 => ?_)
     refine jV (S' := [_, _, _, _, _, _]) (vs' := [_]) [0, 1, 2, 3, 4, 5] [0] 0 Y Y Y Y (jj (hsE [1, 2, 3, 4, 5] [0] 0 Y Y Y Y) ?_)
     obtain ⟨t27, h22, hm⟩ := bindO hm
     refine jn Y Y Y Y (fun _ _ => Kh h22 Y Y) (YG Y (q4 (cs' := #[_]) (S' := [_, _, _, _, _, _]) 4 (fun w => sizeOf3 w) Y Y Y Y Y Y Y (QH (jM ?_))))
     obtain rfl := sj hm
     exact jk () (trivial) (.nil) (hsE [1, 2, 3, 4, 5, 0] [0] 0 Y Y Y Y)
    intro l_4 hj
    replace hm := h19
    refine jw ?_
    obtain rfl := sj hm
    exact QU (⟨o_2.n9, o_2.a11⟩ : kF) () Y (trivial) (hsE [1, 2, 3, 4, 5] [0] 11 Y Y Y Y)
   refine YE 0 Y Y (jw (jw ?_))
   obtain rfl := sj hm
   exact J8 (D :: []) Y (trivial) (sE Y) (hsE [2, 3, 4] [0] 0 Y Y Y Y)
  intro l hj
  replace hm := h5
  refine ja (jr (jc Y Y Y (fun w hh => jz (isAgg153 w) Y (segCell (hh.seg 0 Y) 0 Y)) (zX [_, _, _, _] 1 isAgg159 sizeOf159 Y Y Y Y (yf 0 isAgg3 Y Y Y Y ?_))))
  obtain ⟨a11_1, h23, hm⟩ := bindO hm
  refine QB (k := s0) (v := o.n9) 2 (fun w => runUnderlying153 w) yz Y Y Y Y (Option.some.inj h23) Y (k7 (yf 0 isAgg3 Y Y Y Y (jo Y Y (jq (jv ?_)))))
  obtain rfl := sj hm
  refine Ks Y Y Y (fun w hh => (.tmp Y .nil)) (fun w hh => ⟨(), rfl, trivial, hh.se [2] [] 11 Y Y Y rfl⟩)
def zb (d00 : Int) (d01 : Int) (d02 : (List Int)) (d03 : (List Sand)) (d04 : (List Sight)) (d05 : (List Int)) (f1_0_c0 : (List Int)) : Option (List (State × Int)) :=
 (jB d00 d01 d02 d03 d04 d05).bind fun t11 =>
 (jF FU t11 [] d00 d01 d02 d03 d04 d05 f1_0_c0).bind fun t12 =>
 some t12.a11
theorem QV (d00 : Int) (d01 : Int) (d02 : (List Int)) (d03 : (List Sand)) (d04 : (List Sight)) (d05 : (List Int)) (f1_0_c0 : (List Int)) (rb : Nat) (qa1 : Option Addr) (na1 ca1 : Nat) (qa2 : Option Addr) (na2 ca2 : Nat) (qa3 : Option Addr) (na3 ca3 : Nat) (qa4 : Option Addr) (na4 ca4 : Nat) (rb_1 : Nat) (qa6 : Option Addr) (na6 ca6 : Nat) (w : World) (hw : HV w (keys [] []) [] [] [(rb, 0, [.int .i64 d00, .int .i64 d01, .slice qa1 na1 ca1, .slice qa2 na2 ca2, .slice qa3 na3 ca3, .slice qa4 na4 ca4]), (aB qa1, aO qa1, RI.enc d02), (aB qa2, aO qa2, RSa.enc d03), (aB qa3, aO qa3, RSi.enc d04), (aB qa4, aO qa4, RI.enc d05), (rb_1, 0, [.slice qa6 na6 ca6]), (aB qa6, aO qa6, RI.enc f1_0_c0)] w)  (hna1 : d02.length = na1) (hqa1 : AOK na1 qa1) (hla1 : na1 ≤ ca1) (hna2 : d03.length = na2) (hqa2 : AOK na2 qa2) (hla2 : na2 ≤ ca2) (hna3 : d04.length = na3) (hqa3 : AOK na3 qa3) (hla3 : na3 ≤ ca3) (hna4 : d05.length = na4) (hqa4 : AOK na4 qa4) (hla4 : na4 ≤ ca4)  (hna6 : f1_0_c0.length = na6) (hqa6 : AOK na6 qa6) (hla6 : na6 ≤ ca6) {res : (List (State × Int))} (hm : zb d00 d01 d02 d03 d04 d05 f1_0_c0 = some res) :
    Calls Tryz.prog 159 #[ptr rb 0, .agg #[.func (.func 130) #[] #[ptr rb_1 0]]] w (fun en w' => ∃ l : Nat, en = .returned (.map (some l)) ∧ (True) ∧ HV w (keys [] []) [(l, gobj (kR RSta) kI res)] [] [] w') := by
  unfold zb at hm
  refine yr func159 Y ntmps159 Y (e := [(0, _), (1, _)]) Y hw (jr ?_)
  refine jI Y Y (fun b h1 => ?_)
  refine jI Y Y (fun b_1 h2 => ?_)
  refine jo Y Y (k7 ?_)
  refine Q8 (kR RSta) kI Y (fun b_2 h3 => ?_)
  refine js (fun w => zeroValue153 w) Y (fun b_3 h4 => ?_)
  refine q4 (cs' := #[_]) (S' := [_, _, _, _]) 0 (fun w => sizeOf153 w) Y Y Y Y Y Y Y (k7 ?_)
  refine js (fun w => zeroValue171 w) Y (fun b_4 h5 => ?_)
  refine k7 (jc Y Y Y (fun _ _ => ku (u := #[]) (u' := #[_, _, _, _]) Y Y) (q4 (cs' := #[_]) (S' := [_, _, _, _, _]) 0 (fun w => sizeOf171 w) Y Y Y Y Y Y Y (jq (ji ?_))))
  refine ky none (.hoist 0 (.hoist 1 (.one 2 (.one 3 .done)))) (HV _ _ [kc b_4 #[.func (.func 190) #[] #[ptr b_3 0, ptr b 0, ptr b_1 0, ptr b_4 0]] 171, kc b_3 #[.map (some b_2)] 153, kc b_1 #[.func (.func 130) #[] #[ptr rb_1 0]] 181, kc b #[ptr rb 0] 146] [] _) Y (by decide +kernel) (fun w k hh => hh.draw k) (hsE [0, 1, 3, 4] [] 0 Y Y Y Y) ?_
  refine Kg 0 isAgg171 Y Y Y Y Y (Kg 3 isAgg146 Y Y Y Y Y (jA Y ?_))
  obtain ⟨t11, h6, hm⟩ := bindO hm
  refine jd [] [] Y Y Y Y Y Y Y call99 (fun w hh => jW d00 d01 d02 d03 d04 d05 rb qa1 na1 ca1 qa2 na2 ca2 qa3 na3 ca3 qa4 na4 ca4 w (HV.callee (S0 := []) (vs0 := []) hh (roR hh 0 Y (roR hh 1 Y (roR hh 2 Y (roR hh 3 Y (roR hh 4 Y roN)))))) hna1 hqa1 hla1 hna2 hqa2 hla2 hna3 hqa3 hla3 hna4 hqa4 hla4 h6) (fun l h7 => ?_)
  refine jj (hsE [0, 1, 3, 4] [] 0 Y Y Y Y) (jA Y ?_)
  obtain ⟨t12, h8, hm⟩ := bindO hm
  refine jV (S' := [_, _, _, _, _]) (vs' := []) [2, 0, 1, 3, 4] [] 0 Y Y Y Y ?_
  refine jd [_] [] Y Y Y Y Y Y Y call190 (fun w hh => Qw FU t11 [] d00 d01 d02 d03 d04 d05 f1_0_c0 b_3 b_2 b rb qa1 na1 ca1 qa2 na2 ca2 qa3 na3 ca3 qa4 na4 ca4 b_1 rb_1 qa6 na6 ca6 b_4 w (HV.callee (S0 := [_]) (vs0 := []) hh (roC (hh.bsepH 1 Y) (roC (hh.bsepH 3 Y) (roR hh 0 Y (roR hh 1 Y (roR hh 2 Y (roR hh 3 Y (roR hh 4 Y (roC (hh.bsepH 2 Y) (roR hh 5 Y (roR hh 6 Y (roC (hh.bsepH 0 Y) roN)))))))))))) hna1 hqa1 hla1 hna2 hqa2 hla2 hna3 hqa3 hla3 hna4 hqa4 hla4 hna6 hqa6 hla6 h8) (fun l_1 h9 => ?_)
  refine jV (S' := [_, _, _, _, _]) (vs' := []) [0, 1, 2, 3, 4] [] 0 Y Y Y Y (jj (hsE [1, 2, 3, 4] [] 0 Y Y Y Y) (jM (ja (jr (yf 2 isAgg153 Y Y Y Y (jo Y Y (jq ?_)))))))
  refine jv ?_
  obtain rfl := sj hm
  refine jm Y (fun w hh => (.tmp Y .nil)) (fun w hh => ⟨b_2, rfl, trivial, hh.se [0] [] 7 Y Y Y rfl⟩)
def qZ (d00 : Int) (d01 : Int) (d02 : (List Int)) (d03 : (List Sand)) (d04 : (List Sight)) (d05 : (List Int)) (f1_0_c0 : (List Int)) : Option Bool :=
 (zb d00 d01 d02 d03 d04 d05 f1_0_c0).bind fun t7 =>
 (jB d00 d01 d02 d03 d04 d05).bind fun t9 =>
 some (decide (0 < ((aget t7 t9).getD 0)))
theorem KA (d00 : Int) (d01 : Int) (d02 : (List Int)) (d03 : (List Sand)) (d04 : (List Sight)) (d05 : (List Int)) (f1_0_c0 : (List Int)) (rb : Nat) (qa1 : Option Addr) (na1 ca1 : Nat) (qa2 : Option Addr) (na2 ca2 : Nat) (qa3 : Option Addr) (na3 ca3 : Nat) (qa4 : Option Addr) (na4 ca4 : Nat) (rb_1 : Nat) (qa6 : Option Addr) (na6 ca6 : Nat) (w : World) (hw : HV w (keys [] []) [] [] [(rb, 0, [.int .i64 d00, .int .i64 d01, .slice qa1 na1 ca1, .slice qa2 na2 ca2, .slice qa3 na3 ca3, .slice qa4 na4 ca4]), (aB qa1, aO qa1, RI.enc d02), (aB qa2, aO qa2, RSa.enc d03), (aB qa3, aO qa3, RSi.enc d04), (aB qa4, aO qa4, RI.enc d05), (rb_1, 0, [.slice qa6 na6 ca6]), (aB qa6, aO qa6, RI.enc f1_0_c0)] w)  (hna1 : d02.length = na1) (hqa1 : AOK na1 qa1) (hla1 : na1 ≤ ca1) (hna2 : d03.length = na2) (hqa2 : AOK na2 qa2) (hla2 : na2 ≤ ca2) (hna3 : d04.length = na3) (hqa3 : AOK na3 qa3) (hla3 : na3 ≤ ca3) (hna4 : d05.length = na4) (hqa4 : AOK na4 qa4) (hla4 : na4 ≤ ca4)  (hna6 : f1_0_c0.length = na6) (hqa6 : AOK na6 qa6) (hla6 : na6 ≤ ca6) {res : Bool} (hm : qZ d00 d01 d02 d03 d04 d05 f1_0_c0 = some res) :
    Calls Tryz.prog 121 #[ptr rb 0, .agg #[.func (.func 130) #[] #[ptr rb_1 0]]] w (fun en w' => ∃ l : Unit, en = .returned (.bool res) ∧ (True) ∧ HV w (keys [] []) [] [] [] w') := by
  unfold qZ at hm
  refine yr func121 Y ntmps121 Y (e := [(0, _), (1, _)]) Y hw (jr ?_)
  refine jI Y Y (fun b h1 => ?_)
  refine jo Y Y (k7 (jg Y Y (zX [_] 0 isAgg181 sizeOf181 Y Y Y Y ?_)))
  obtain ⟨t7, h2, hm⟩ := bindO hm
  refine jd [] [] Y Y Y Y Y Y Y call159 (fun w hh => QV d00 d01 d02 d03 d04 d05 f1_0_c0 rb qa1 na1 ca1 qa2 na2 ca2 qa3 na3 ca3 qa4 na4 ca4 rb_1 qa6 na6 ca6 w (HV.callee (S0 := []) (vs0 := []) hh (roR hh 0 Y (roR hh 1 Y (roR hh 2 Y (roR hh 3 Y (roR hh 4 Y (roR hh 5 Y (roR hh 6 Y roN)))))))) hna1 hqa1 hla1 hna2 hqa2 hla2 hna3 hqa3 hla3 hna4 hqa4 hla4 hna6 hqa6 hla6 h2) (fun l h3 => ?_)
  refine jV (S' := [_, _]) (vs' := []) [0, 1] [] 0 Y Y Y Y (jg Y Y ?_)
  obtain ⟨t9, h4, hm⟩ := bindO hm
  refine jd [] [] Y Y Y Y Y Y Y call99 (fun w hh => jW d00 d01 d02 d03 d04 d05 rb qa1 na1 ca1 qa2 na2 ca2 qa3 na3 ca3 qa4 na4 ca4 w (HV.callee (S0 := []) (vs0 := []) hh (roR hh 0 Y (roR hh 1 Y (roR hh 2 Y (roR hh 3 Y (roR hh 4 Y roN)))))) hna1 hqa1 hla1 hna2 hqa2 hla2 hna3 hqa3 hla3 hna4 hqa4 hla4 h4) (fun l_1 h5 => ?_)
  refine jc Y Y Y (fun w hh => Qj (k := t9) (z := 0) (runUnderlying153 w) yz (zeroValue3 w) Y Y (hh.mget 0 Y)) (jc Y Y Y (fun _ _ => Zj Y Y) (jo Y Y (jq (jv ?_))))
  obtain rfl := sj hm
  refine jm Y (fun w hh => (.tmp Y .nil)) (fun w hh => ⟨(), rfl, trivial, hh.se [] [] 7 Y Y Y rfl⟩)
def zd (a11 : (List Int)) (a220 : Int) (a221 : Int) (a222 : (List Int)) (a223 : (List Sand)) (a224 : (List Sight)) (a225 : (List Int)) : Option Bool :=
 (qZ a220 a221 a222 a223 a224 a225 []).bind fun t9 =>
 some t9
theorem Ys (a11 : (List Int)) (a220 : Int) (a221 : Int) (a222 : (List Int)) (a223 : (List Sand)) (a224 : (List Sight)) (a225 : (List Int)) (pb : Nat) (qa0 : Option Addr) (na0 ca0 : Nat) (rb : Nat) (rb_1 : Nat) (qa3 : Option Addr) (na3 ca3 : Nat) (qa4 : Option Addr) (na4 ca4 : Nat) (qa5 : Option Addr) (na5 ca5 : Nat) (qa6 : Option Addr) (na6 ca6 : Nat) (w : World) (hw : HV w (keys [kc pb #[.slice qa0 na0 ca0] 22] []) [kc pb #[.slice qa0 na0 ca0] 22] [] [(aB qa0, aO qa0, RI.enc a11), (rb, 0, [ptr rb_1 0]), (rb_1, 0, [.int .i64 a220, .int .i64 a221, .slice qa3 na3 ca3, .slice qa4 na4 ca4, .slice qa5 na5 ca5, .slice qa6 na6 ca6]), (aB qa3, aO qa3, RI.enc a222), (aB qa4, aO qa4, RSa.enc a223), (aB qa5, aO qa5, RSi.enc a224), (aB qa6, aO qa6, RI.enc a225)] w) (hna0 : a11.length = na0) (hqa0 : AOK na0 qa0) (hla0 : na0 ≤ ca0)   (hna3 : a222.length = na3) (hqa3 : AOK na3 qa3) (hla3 : na3 ≤ ca3) (hna4 : a223.length = na4) (hqa4 : AOK na4 qa4) (hla4 : na4 ≤ ca4) (hna5 : a224.length = na5) (hqa5 : AOK na5 qa5) (hla5 : na5 ≤ ca5) (hna6 : a225.length = na6) (hqa6 : AOK na6 qa6) (hla6 : na6 ≤ ca6) {res : Bool} (hm : zd a11 a220 a221 a222 a223 a224 a225 = some res) :
    Calls Tryz.prog 129 #[slv none 0 0, ptr pb 0, ptr rb 0] w (fun en w' => ∃ l : Unit, en = .returned (.bool res) ∧ (True) ∧ HV w (keys [kc pb #[.slice qa0 na0 ca0] 22] []) [kc pb #[slv none 0 0] 22] [] [] w') := by
  unfold zd at hm
  refine yr func129 Y ntmps129 Y (e := [(0, _), (1, _), (2, _)]) Y hw (jr ?_)
  refine jI Y Y (fun b h1 => ?_)
  refine jo Y Y (k7 (yf 0 isAgg22 Y Y Y Y (q4 (cs' := #[_]) (S' := [_, _]) 1 (fun w => sizeOf22 w) Y Y Y Y Y Y Y (k7 (jc Y Y Y (fun w hh => jz (isAgg146 w) Y (segCell (hh.seg 1 Y) 0 Y)) (jc Y Y Y (fun _ _ => ku (u := #[]) (u' := #[_]) Y Y) (jc Y Y Y (fun _ _ => k9 (vs := [(0, _)]) (cells := [_]) Y Y) ?_)))))))
  obtain ⟨t9, h2, hm⟩ := bindO hm
  refine jd [] [] Y Y Y Y Y Y Y call121 (fun w hh => KA a220 a221 a222 a223 a224 a225 [] rb_1 qa3 na3 ca3 qa4 na4 ca4 qa5 na5 ca5 qa6 na6 ca6 b none 0 0 w (HV.callee (S0 := []) (vs0 := []) hh (roR hh 2 Y (roR hh 3 Y (roR hh 4 Y (roR hh 5 Y (roR hh 6 Y (roC (bsep (hh.bseg 0 Y)) (roC ⟨segOK.nil, fun hx => absurd Y hx⟩ roN)))))))) hna3 hqa3 hla3 hna4 hqa4 hla4 hna5 hqa5 hla5 hna6 hqa6 hla6 Y AOK.nil (Nat.le_refl 0) h2) (fun l h3 => ?_)
  refine jo Y Y (jq (jv ?_))
  obtain rfl := sj hm
  refine jm Y (fun w hh => (.tmp Y .nil)) (fun w hh => ⟨(), rfl, trivial, hh.se [1] [] 7 Y Y Y rfl⟩)
structure Jv where
  r0 : Bool
  a11 : (List Int)
def ze (l0 : (List Int)) (a11 : (List Int)) (a220 : Int) (a221 : Int) (a222 : (List Int)) (a223 : (List Sand)) (a224 : (List Sight)) (a225 : (List Int)) : Option Jv :=
 (qZ a220 a221 a222 a223 a224 a225 l0).bind fun t9 =>
 some (⟨t9, l0⟩ : Jv)
theorem YD (l0 : (List Int)) (a11 : (List Int)) (a220 : Int) (a221 : Int) (a222 : (List Int)) (a223 : (List Sand)) (a224 : (List Sight)) (a225 : (List Int)) (V_l0 : VL) (pb : Nat) (qa0 : Option Addr) (na0 ca0 : Nat) (rb : Nat) (rb_1 : Nat) (qa3 : Option Addr) (na3 ca3 : Nat) (qa4 : Option Addr) (na4 ca4 : Nat) (qa5 : Option Addr) (na5 ca5 : Nat) (qa6 : Option Addr) (na6 ca6 : Nat) (w : World) (hw : HV w (keys [kc pb #[.slice qa0 na0 ca0] 22] [vL 3 V_l0 (RI.enc l0)]) [kc pb #[.slice qa0 na0 ca0] 22] [vL 3 V_l0 (RI.enc l0)] [(aB qa0, aO qa0, RI.enc a11), (rb, 0, [ptr rb_1 0]), (rb_1, 0, [.int .i64 a220, .int .i64 a221, .slice qa3 na3 ca3, .slice qa4 na4 ca4, .slice qa5 na5 ca5, .slice qa6 na6 ca6]), (aB qa3, aO qa3, RI.enc a222), (aB qa4, aO qa4, RSa.enc a223), (aB qa5, aO qa5, RSi.enc a224), (aB qa6, aO qa6, RI.enc a225)] w) (hv_l0 : VOK 1 V_l0.n V_l0.cap (RI.enc l0) V_l0.sp V_l0.q) (hna0 : a11.length = na0) (hqa0 : AOK na0 qa0) (hla0 : na0 ≤ ca0)   (hna3 : a222.length = na3) (hqa3 : AOK na3 qa3) (hla3 : na3 ≤ ca3) (hna4 : a223.length = na4) (hqa4 : AOK na4 qa4) (hla4 : na4 ≤ ca4) (hna5 : a224.length = na5) (hqa5 : AOK na5 qa5) (hla5 : na5 ≤ ca5) (hna6 : a225.length = na6) (hqa6 : AOK na6 qa6) (hla6 : na6 ≤ ca6) {res : Jv} (hm : ze l0 a11 a220 a221 a222 a223 a224 a225 = some res) :
    Calls Tryz.prog 129 #[sL V_l0, ptr pb 0, ptr rb 0] w (fun en w' => ∃ l : VL, en = .returned (.bool res.r0) ∧ (VOK 1 l.n l.cap (RI.enc res.a11) l.sp l.q) ∧ HV w (keys [kc pb #[.slice qa0 na0 ca0] 22] [vL 3 V_l0 (RI.enc l0)]) [kc pb #[sL l] 22] [vL 3 l (RI.enc res.a11)] [] w') := by
  unfold ze at hm
  refine yr func129 Y ntmps129 Y (e := [(0, _), (1, _), (2, _)]) Y hw (jr ?_)
  refine jI Y Y (fun b h2 => ?_)
  refine jo Y Y (k7 (yf 0 isAgg22 Y Y Y Y (q4 (cs' := #[_]) (S' := [_, _]) 1 (fun w => sizeOf22 w) Y Y Y Y Y Y Y (k7 (jc Y Y Y (fun w hh => jz (isAgg146 w) Y (segCell (hh.seg 1 Y) 0 Y)) (jc Y Y Y (fun _ _ => ku (u := #[]) (u' := #[_]) Y Y) (jc Y Y Y (fun _ _ => k9 (vs := [(0, _)]) (cells := [_]) Y Y) ?_)))))))
  obtain ⟨t9, h3, hm⟩ := bindO hm
  refine jd [] [] Y Y Y Y Y Y Y call121 (fun w hh => KA a220 a221 a222 a223 a224 a225 l0 rb_1 qa3 na3 ca3 qa4 na4 ca4 qa5 na5 ca5 qa6 na6 ca6 b (qA V_l0.q) V_l0.n V_l0.cap w (HV.callee (S0 := []) (vs0 := []) hh (roR hh 2 Y (roR hh 3 Y (roR hh 4 Y (roR hh 5 Y (roR hh 6 Y (roC (bsep (hh.bseg 0 Y)) (roC (hh.vsepA 0 Y hv_l0) roN)))))))) hna3 hqa3 hla3 hna4 hqa4 hla4 hna5 hqa5 hla5 hna6 hqa6 hla6 (vlen RI hv_l0 Y) (AOK.q (vne hv_l0)) (hv_l0).hle h3) (fun l h4 => ?_)
  refine jo Y Y (jq (jv ?_))
  obtain rfl := sj hm
  refine jm Y (fun w hh => (.tmp Y .nil)) (fun w hh => ⟨V_l0, rfl, hv_l0, hh.se [1] [0] 7 Y Y Y rfl⟩)
structure jE where
  r0 : Bool
  a33_c0 : (List Int)
structure q6 where
  i9 : Int
  a33_c0 : (List Int)
structure KY where
  t36 : Bool
  a33_c0 : (List Int)
def qp (a33_c14 : (List Sight)) (l0 : (List Int)) (rec_ : (List Int) → Int → Int → (List Int) → Int → Int → (List Int) → (List Sand) → (List Sight) → (List Int) → Option jE) (a22 : Int) (a33_c10 : Int) (a33_c11 : Int) (a33_c12 : (List Int)) (a33_c13 : (List Sand)) (a33_c15 : (List Int)) (s : q6) : Option (q6 ⊕ ((List Int) ⊕ jE)) :=
 if s.i9 < (a33_c14.length : Int) then
 (((addc s.i9 1).bind fun t35 =>
 (kp l0).bind fun t30 =>
 (appc 8 t30 [s.i9]).bind fun t33 =>
 (rec_ t33 t35 a22 s.a33_c0 a33_c10 a33_c11 a33_c12 a33_c13 a33_c14 a33_c15).bind fun t36 =>
 some (⟨t36.r0, t36.a33_c0⟩ : KY)).bind fun o_1 =>
 if o_1.t36 = true then
 (some (.inr (.inr (⟨true, o_1.a33_c0⟩ : jE)))) else
 ((addc s.i9 1).bind fun t27 =>
 some (.inl (⟨t27, o_1.a33_c0⟩ : q6)))) else
 (some (.inr (.inl s.a33_c0)))
def qv (rec_ : (List Int) → Int → Int → (List Int) → Int → Int → (List Int) → (List Sand) → (List Sight) → (List Int) → Option jE) (l0 : (List Int)) (from1 : Int) (a22 : Int) (a33_c0 : (List Int)) (a33_c10 : Int) (a33_c11 : Int) (a33_c12 : (List Int)) (a33_c13 : (List Sand)) (a33_c14 : (List Sight)) (a33_c15 : (List Int)) : Option jE :=
 if (l0.length : Int) = a22 then
 ((ze l0 a33_c0 a33_c10 a33_c11 a33_c12 a33_c13 a33_c14 a33_c15).bind fun t16 =>
 some (⟨t16.r0, t16.a11⟩ : jE)) else
 ((iterM FU (qp a33_c14 l0 rec_ a22 a33_c10 a33_c11 a33_c12 a33_c13 a33_c15) (⟨from1, a33_c0⟩ : q6)).bind fun o =>
 oc o (fun j_1 => some (⟨false, j_1⟩ : jE)) (fun r_1 => some r_1))
def jK : Nat → (List Int) → Int → Int → (List Int) → Int → Int → (List Int) → (List Sand) → (List Sight) → (List Int) → Option jE
  | 0, _, _, _, _, _, _, _, _, _, _ => none
  | fu + 1, l0, from1, a22, a33_c0, a33_c10, a33_c11, a33_c12, a33_c13, a33_c14, a33_c15 => qv (jK fu) l0 from1 a22 a33_c0 a33_c10 a33_c11 a33_c12 a33_c13 a33_c14 a33_c15
theorem J4 (fu_ : Nat) : ∀ (l0 : (List Int)) (from1 : Int) (a22 : Int) (a33_c0 : (List Int)) (a33_c10 : Int) (a33_c11 : Int) (a33_c12 : (List Int)) (a33_c13 : (List Sand)) (a33_c14 : (List Sight)) (a33_c15 : (List Int)) (V_l0 : VL) (rb : Nat) (rb_1 : Nat) (pb : Nat) (V_a33_c0 : VL) (rb_2 : Nat) (rb_3 : Nat) (qa4 : Option Addr) (na4 ca4 : Nat) (qa5 : Option Addr) (na5 ca5 : Nat) (qa6 : Option Addr) (na6 ca6 : Nat) (qa7 : Option Addr) (na7 ca7 : Nat) (rb_4 : Nat) (rb_5 : Nat) (w : World) (hw : HV w (keys [kc pb #[sL V_a33_c0] 22] [vL 3 V_l0 (RI.enc l0), vL 3 V_a33_c0 (RI.enc a33_c0)]) [kc pb #[sL V_a33_c0] 22] [vL 3 V_l0 (RI.enc l0), vL 3 V_a33_c0 (RI.enc a33_c0)] [(rb, 0, [.int .i64 a22]), (rb_1, 0, [.func (.func 129) #[] #[ptr pb 0, ptr rb_2 0]]), (rb_2, 0, [ptr rb_3 0]), (rb_3, 0, [.int .i64 a33_c10, .int .i64 a33_c11, .slice qa4 na4 ca4, .slice qa5 na5 ca5, .slice qa6 na6 ca6, .slice qa7 na7 ca7]), (aB qa4, aO qa4, RI.enc a33_c12), (aB qa5, aO qa5, RSa.enc a33_c13), (aB qa6, aO qa6, RSi.enc a33_c14), (aB qa7, aO qa7, RI.enc a33_c15), (rb_4, 0, [ptr rb_3 0]), (rb_5, 0, [.func (.func 173) #[] #[ptr rb 0, ptr rb_1 0, ptr rb_4 0, ptr rb_5 0]])] w) (hv_l0 : VOK 1 V_l0.n V_l0.cap (RI.enc l0) V_l0.sp V_l0.q)   (hv_a33_c0 : VOK 1 V_a33_c0.n V_a33_c0.cap (RI.enc a33_c0) V_a33_c0.sp V_a33_c0.q)   (hna4 : a33_c12.length = na4) (hqa4 : AOK na4 qa4) (hla4 : na4 ≤ ca4) (hna5 : a33_c13.length = na5) (hqa5 : AOK na5 qa5) (hla5 : na5 ≤ ca5) (hna6 : a33_c14.length = na6) (hqa6 : AOK na6 qa6) (hla6 : na6 ≤ ca6) (hna7 : a33_c15.length = na7) (hqa7 : AOK na7 qa7) (hla7 : na7 ≤ ca7)   {res : jE} (hm : jK fu_ l0 from1 a22 a33_c0 a33_c10 a33_c11 a33_c12 a33_c13 a33_c14 a33_c15 = some res),
    Calls Tryz.prog 173 #[sL V_l0, .int .i64 from1, ptr rb 0, ptr rb_1 0, ptr rb_4 0, ptr rb_5 0] w (fun en w' => ∃ l : VL, en = .returned (.bool res.r0) ∧ (VOK 1 l.n l.cap (RI.enc res.a33_c0) l.sp l.q) ∧ HV w (keys [kc pb #[sL V_a33_c0] 22] [vL 3 V_l0 (RI.enc l0), vL 3 V_a33_c0 (RI.enc a33_c0)]) [kc pb #[sL l] 22] [vL 3 l (RI.enc res.a33_c0)] [] w') := by
  induction fu_ with
  | zero =>
    intros
    rename_i hm
    exact absurd hm (by simp [jK])
  | succ fu_ ih =>
  intro l0 from1 a22 a33_c0 a33_c10 a33_c11 a33_c12 a33_c13 a33_c14 a33_c15 V_l0 rb rb_1 pb V_a33_c0 rb_2 rb_3 qa4 na4 ca4 qa5 na5 ca5 qa6 na6 ca6 qa7 na7 ca7 rb_4 rb_5 w hw hv_l0   hv_a33_c0   hna4 hqa4 hla4 hna5 hqa5 hla5 hna6 hqa6 hla6 hna7 hqa7 hla7   res hm
  replace hm : qv (jK fu_) l0 from1 a22 a33_c0 a33_c10 a33_c11 a33_c12 a33_c13 a33_c14 a33_c15 = some res := hm
  unfold qv at hm
  refine yr func173 Y ntmps173 Y (e := [(0, _), (1, _), (2, _), (3, _), (4, _), (5, _)]) Y hw (jr (jo Y Y (jq (ji (jr (jg Y Y (jc Y Y Y (fun w _ => zr (vlen RI hv_l0 Y) (runUnderlying22 w) Y) ?_)))))))
  refine jc Y Y Y (fun w hh => jz (isAgg3 w) Y (segCell (hh.seg 0 Y) 0 Y)) (jc Y Y Y (fun _ _ => Ju Y Y) (jq ?_))
  refine ju Y (fun h2 => ?_) (fun h2 => ?_)
  ·replace hm := ifD h2 hm
   refine jr (jc Y Y Y (fun w hh => jz (isAgg186 w) Y (segCell (hh.seg 1 Y) 0 Y)) (jg Y Y ?_))
   obtain ⟨t16, h3, hm⟩ := bindO hm
   refine jd [_] [_] Y Y Y Y Y Y Y call129 (fun w hh => YD l0 a33_c0 a33_c10 a33_c11 a33_c12 a33_c13 a33_c14 a33_c15 ⟨V_l0.q, V_l0.n, V_l0.cap, V_l0.sp⟩ pb (qA V_a33_c0.q) V_a33_c0.n V_a33_c0.cap rb_2 rb_3 qa4 na4 ca4 qa5 na5 ca5 qa6 na6 ca6 qa7 na7 ca7 w (HV.callee (S0 := [_]) (vs0 := [_]) hh (roC (hh.vsepA 0 Y hv_a33_c0) (roR hh 2 Y (roR hh 3 Y (roR hh 4 Y (roR hh 5 Y (roR hh 6 Y (roR hh 7 Y roN)))))))) hv_l0 (vlen RI hv_a33_c0 Y) (AOK.q (vne hv_a33_c0)) (hv_a33_c0).hle hna4 hqa4 hla4 hna5 hqa5 hla5 hna6 hqa6 hla6 hna7 hqa7 hla7 h3) (fun l h4 => ?_)
   have h5 := h4
   refine jV (S' := [_]) (vs' := [_, _]) [0] [0, 1] 0 Y Y Y Y (jo Y Y (jq (jv (jh ?_))))
   obtain rfl := sj hm
   refine jm Y (fun w hh => (.tmp Y .nil)) (fun w hh => ⟨l, rfl, h5, hh.se [0] [0] 10 Y Y Y rfl⟩)
  replace hm := ifE h2 hm
  refine jt (ja (ji (jr (jg Y Y (jo Y Y (jq ?_))))))
  obtain ⟨o, h6, h7⟩ := bindO hm
  refine j3 (ι := (List Int) × VL) (fun j => o = .inl j.1 ∧ VOK 1 j.2.n j.2.cap (RI.enc j.1) j.2.sp j.2.q) (fun j => []) (fun j => [kc pb #[sL j.2] 22]) (fun j => [vL 3 j.2 (RI.enc j.1)]) ?_ ?_
  ·replace hm := h6
   refine jp ?_
   refine kk (ι := VL) hm (fun s l_1 => VOK 1 l_1.n l_1.cap (RI.enc s.a33_c0) l_1.sp l_1.q) (fun s l_1 => [(0, sL V_l0), (4, ptr rb_4 0), (5, ptr rb_5 0), (9, .int .i64 s.i9)]) (fun s l_1 => [kc pb #[sL l_1] 22]) (fun s l_1 => [vL 3 V_l0 (RI.enc l0), vL 3 l_1 (RI.enc s.a33_c0)]) V_a33_c0 (hv_a33_c0) (sE Y) (fun w hh => hh) (fun s l_1 r hpl hm h10 => ?_)
   have h9 := hpl
   unfold qp at hm
   refine ji (jr (jg Y Y (jc Y Y Y (fun w hh => jz (isAgg146 w) Y (segCell (hh.seg 8 Y) 0 Y)) (jc Y Y Y (fun _ _ => jQ Y) (yD 0 runUnderlying175 Y sizeOf26 Y Y (yD 4 runUnderlying26 Y sizeOf24 Y Y (jc Y Y Y (fun w hh => jz (isAgg24 w) Y (segCell (hh.seg 3 Y) 4 Y)) ?_)))))))
   refine jc Y Y Y (fun w _ => qd hna6 (runUnderlying24 w) Y) (Kv Y Y Y (jq ?_))
   refine ju Y (fun h11 => ?_) (fun h11 => ?_)
   ·replace hm := ifD h11 hm
    refine jt (ja (ji (jp (ji ?_))))
    obtain ⟨o_1, h12, h13⟩ := bindO hm
    refine j3 (ι := VL) (fun l_2 => VOK 1 l_2.n l_2.cap (RI.enc o_1.a33_c0) l_2.sp l_2.q) (fun l_2 => [(0, sL V_l0), (4, ptr rb_4 0), (5, ptr rb_5 0), (9, .int .i64 s.i9), (36, .bool o_1.t36)]) (fun l_2 => [kc pb #[sL l_2] 22]) (fun l_2 => [vL 3 V_l0 (RI.enc l0), vL 3 l_2 (RI.enc o_1.a33_c0)]) ?_ ?_
    ·replace hm := h12
     obtain ⟨t35, h15, hm⟩ := bindO hm
     obtain ⟨t30, h16, hm⟩ := bindO hm
     obtain ⟨t33, h17, hm⟩ := bindO hm
     obtain ⟨t36, h18, hm⟩ := bindO hm
     refine ky none (.hoist 0 (.free 1 (.free 3 (.free 6 (.free 7 (.br (.alt 2 (.one 4 (.one 5 (.one 8 .done))) (.alt 4 (.one 2 (.one 5 (.one 8 .done))) .nil)))))))) (HV _ _ [] [vL 3 V_l0 (RI.enc l0)] _) Y (by decide +kernel) (fun w k hh => hh.draw k) (hsE [] [0] 0 Y Y Y Y) ?_
     refine jy Y Y Y Y (fun w hh => jz (isAgg100 w) Y (segCell (hh.seg 9 Y) 0 Y)) (zs Y Y Y (zs Y Y Y (zs Y Y Y (jn Y Y Y Y (fun _ _ => Kh h15 Y Y) (ZC ?_)))))
     refine zC Y ?_ ?_
     ·refine jd [] [] Y Y Y Y Y Y Y call74 (fun w hh => kx l0 (qA V_l0.q) V_l0.n V_l0.cap w (HV.callee (S0 := []) (vs0 := []) hh (roC (hh.vsepA 0 Y hv_l0) roN)) (vlen RI hv_l0 Y) (AOK.q (vne hv_l0)) (hv_l0).hle h16) (fun l_3 h19 => ?_)
      have h20 := h19
      refine jV (S' := [_]) (vs' := [_, _, _]) [0] [0, 1, 2] 0 Y Y Y Y (jj (hsE [] [1] 0 Y Y Y Y) (jA Y ?_))
      refine qE RI [s.i9] (ps := [(0, _)]) (cells := [_]) (fun w => runUnderlying22 w) (fun w => sizeOf3 w) (fun w => zeroValue3 w) Y Y Y Y Y Y Y Y (fun L h21 => ?_)
      refine jj (hsE [] [2] 0 Y Y Y Y) (jA Y ?_)
      refine zz RI 1 h17 underlying22 KZ Y Y Y Y Y h20 Y Y (vlen RI h21 Y) (AOK.q (vne h21)) (fun w hh => (hh.vsegA 0 Y h21)) Y (fun L_1 h22 h22n => ?_)
      refine jV (S' := [_]) (vs' := [_, _, _, _]) [0] [0, 1, 2, 3] 0 Y Y Y Y (jj (hsE [] [2] 0 Y Y Y Y) (jA Y (jV (S' := [_]) (vs' := [_, _, _, _]) [0] [1, 3, 0, 2] 0 Y Y Y Y ?_)))
      refine jd [_] [_, _] Y Y Y Y Y Y Y call173 (fun w hh => ih t33 t35 a22 s.a33_c0 a33_c10 a33_c11 a33_c12 a33_c13 a33_c14 a33_c15 ⟨L_1.q, L_1.n, L_1.cap, L_1.sp⟩ rb rb_1 pb ⟨l_1.q, l_1.n, l_1.cap, l_1.sp⟩ rb_2 rb_3 qa4 na4 ca4 qa5 na5 ca5 qa6 na6 ca6 qa7 na7 ca7 rb_4 rb_5 w (HV.callee (S0 := [_]) (vs0 := [_, _]) hh (roR hh 0 Y (roR hh 1 Y (roR hh 2 Y (roR hh 3 Y (roR hh 4 Y (roR hh 5 Y (roR hh 6 Y (roR hh 7 Y (roR hh 8 Y (roR hh 9 Y roN))))))))))) h22 h9 hna4 hqa4 hla4 hna5 hqa5 hla5 hna6 hqa6 hla6 hna7 hqa7 hla7 h18) (fun l_4 h23 => ?_)
      have h24 := h23
      refine jV (S' := [_]) (vs' := [_, _, _]) [0] [0, 1, 2] 0 Y Y Y Y (jj (hsE [] [2] 0 Y Y Y Y) (jM ?_))
      obtain rfl := sj hm
      exact jk l_4 (h24) (sE Y) (hsE [0] [2, 0] 0 Y Y Y Y)
     refine zC Y ?_ ?_
     refine qE RI [s.i9] (ps := [(0, _)]) (cells := [_]) (fun w => runUnderlying22 w) (fun w => sizeOf3 w) (fun w => zeroValue3 w) Y Y Y Y Y Y Y Y (fun L_2 h25 => ?_)
     refine jj (hsE [] [1] 0 Y Y Y Y) (jA Y ?_)
     refine jd [] [] Y Y Y Y Y Y Y call74 (fun w hh => kx l0 (qA V_l0.q) V_l0.n V_l0.cap w (HV.callee (S0 := []) (vs0 := []) hh (roC (hh.vsepA 1 Y hv_l0) roN)) (vlen RI hv_l0 Y) (AOK.q (vne hv_l0)) (hv_l0).hle h16) (fun l_5 h26 => ?_)
     have h27 := h26
     refine jV (S' := [_]) (vs' := [_, _, _, _]) [0] [0, 1, 2, 3] 0 Y Y Y Y (jj (hsE [] [2] 0 Y Y Y Y) (jA Y ?_))
     refine zz RI 0 h17 underlying22 KZ Y Y Y Y Y h27 Y Y (vlen RI h25 Y) (AOK.q (vne h25)) (fun w hh => (hh.vsegA 1 Y h25)) Y (fun L_3 h28 h28n => ?_)
     refine jV (S' := [_]) (vs' := [_, _, _, _]) [0] [0, 1, 2, 3] 0 Y Y Y Y (jj (hsE [] [2] 0 Y Y Y Y) (jA Y (jV (S' := [_]) (vs' := [_, _, _, _]) [0] [0, 3, 1, 2] 0 Y Y Y Y ?_)))
     refine jd [_] [_, _] Y Y Y Y Y Y Y call173 (fun w hh => ih t33 t35 a22 s.a33_c0 a33_c10 a33_c11 a33_c12 a33_c13 a33_c14 a33_c15 ⟨L_3.q, L_3.n, L_3.cap, L_3.sp⟩ rb rb_1 pb ⟨l_1.q, l_1.n, l_1.cap, l_1.sp⟩ rb_2 rb_3 qa4 na4 ca4 qa5 na5 ca5 qa6 na6 ca6 qa7 na7 ca7 rb_4 rb_5 w (HV.callee (S0 := [_]) (vs0 := [_, _]) hh (roR hh 0 Y (roR hh 1 Y (roR hh 2 Y (roR hh 3 Y (roR hh 4 Y (roR hh 5 Y (roR hh 6 Y (roR hh 7 Y (roR hh 8 Y (roR hh 9 Y roN))))))))))) h28 h9 hna4 hqa4 hla4 hna5 hqa5 hla5 hna6 hqa6 hla6 hna7 hqa7 hla7 h18) (fun l_6 h29 => ?_)
     have h30 := h29
     refine jV (S' := [_]) (vs' := [_, _, _]) [0] [0, 1, 2] 0 Y Y Y Y (jj (hsE [] [2] 0 Y Y Y Y) (jM ?_))
     obtain rfl := sj hm
     exact jk l_6 (h30) (sE Y) (hsE [0] [2, 0] 0 Y Y Y Y)
     exact QE
    intro l_2 hj
    have h14 := hj
    replace hm := h13
    refine ja ?_
    refine ju Y (fun h31 => ?_) (fun h31 => ?_)
    ·replace hm := ifT (h31) hm
     refine jr (jo Y Y (jq (jv (jJ (jh (jh (jJ ?_)))))))
     obtain rfl := sj hm
     have hbo := h10 _ Y
     subst hbo
     refine jh ?_
     replace hm := ocR h7
     refine jh ?_
     obtain rfl := sj hm
     refine jm Y (fun w hh => (.tmp Y .nil)) (fun w hh => ⟨l_2, rfl, h14, hh.se [0] [1] 10 Y Y Y rfl⟩)
    replace hm := ifN h31 hm
    refine jt (jw (ja (je (jg Y Y ?_))))
    obtain ⟨t27, h32, hm⟩ := bindO hm
    refine Kq h32 Y Y Y (jo Y Y (jx ?_))
    obtain rfl := sj hm
    refine ja ?_
    exact jN _ l_2 Y (h14) (sE Y) (fun w hh => hh)
   replace hm := ifE h11 hm
   refine kN (jl (jl (jO ?_)))
   obtain rfl := sj hm
   have hbo := h10 _ Y
   subst hbo
   exact jk (s.a33_c0, l_1) (⟨rfl, h9⟩) (.nil) (hsE [0] [1] 0 Y Y Y Y)
  rintro ⟨j_1, l_7⟩ hj
  obtain ⟨h34, h33⟩ := hj
  subst h34
  replace hm := ocL h7
  refine ja (jr (jo Y Y (jq (jv ?_))))
  obtain rfl := sj hm
  refine jm Y (fun w hh => (.tmp Y .nil)) (fun w hh => ⟨l_7, rfl, h33, hh.se [0] [0] 10 Y Y Y rfl⟩)
structure ka where
  r0 : Bool
  a33_c0 : (List Int)
structure q8 where
  i9 : Int
  a33_c0 : (List Int)
structure KT where
  t36 : Bool
  a33_c0 : (List Int)
def kG (a33_c14 : (List Sight)) (a22 : Int) (a33_c10 : Int) (a33_c11 : Int) (a33_c12 : (List Int)) (a33_c13 : (List Sand)) (a33_c15 : (List Int)) (s : q8) : Option (q8 ⊕ ((List Int) ⊕ ka)) :=
 if s.i9 < (a33_c14.length : Int) then
 (((addc s.i9 1).bind fun t35 =>
 (kp []).bind fun t30 =>
 (appc 8 t30 [s.i9]).bind fun t33 =>
 (jK FU t33 t35 a22 s.a33_c0 a33_c10 a33_c11 a33_c12 a33_c13 a33_c14 a33_c15).bind fun t36 =>
 some (⟨t36.r0, t36.a33_c0⟩ : KT)).bind fun o_1 =>
 if o_1.t36 = true then
 (some (.inr (.inr (⟨true, o_1.a33_c0⟩ : ka)))) else
 ((addc s.i9 1).bind fun t27 =>
 some (.inl (⟨t27, o_1.a33_c0⟩ : q8)))) else
 (some (.inr (.inl s.a33_c0)))
def qV (from1 : Int) (a22 : Int) (a33_c10 : Int) (a33_c11 : Int) (a33_c12 : (List Int)) (a33_c13 : (List Sand)) (a33_c14 : (List Sight)) (a33_c15 : (List Int)) : Option ka :=
 if 0 = a22 then
 ((zd [] a33_c10 a33_c11 a33_c12 a33_c13 a33_c14 a33_c15).bind fun t16 =>
 some (⟨t16, []⟩ : ka)) else
 ((iterM FU (kG a33_c14 a22 a33_c10 a33_c11 a33_c12 a33_c13 a33_c15) (⟨from1, []⟩ : q8)).bind fun o =>
 oc o (fun j_1 => some (⟨false, j_1⟩ : ka)) (fun r_1 => some r_1))
theorem Qv (from1 : Int) (a22 : Int) (a33_c10 : Int) (a33_c11 : Int) (a33_c12 : (List Int)) (a33_c13 : (List Sand)) (a33_c14 : (List Sight)) (a33_c15 : (List Int)) (rb : Nat) (rb_1 : Nat) (pb : Nat) (rb_2 : Nat) (rb_3 : Nat) (qa4 : Option Addr) (na4 ca4 : Nat) (qa5 : Option Addr) (na5 ca5 : Nat) (qa6 : Option Addr) (na6 ca6 : Nat) (qa7 : Option Addr) (na7 ca7 : Nat) (rb_4 : Nat) (rb_5 : Nat) (w : World) (hw : HV w (keys [kc pb #[slv none 0 0] 22] []) [kc pb #[slv none 0 0] 22] [] [(rb, 0, [.int .i64 a22]), (rb_1, 0, [.func (.func 129) #[] #[ptr pb 0, ptr rb_2 0]]), (rb_2, 0, [ptr rb_3 0]), (rb_3, 0, [.int .i64 a33_c10, .int .i64 a33_c11, .slice qa4 na4 ca4, .slice qa5 na5 ca5, .slice qa6 na6 ca6, .slice qa7 na7 ca7]), (aB qa4, aO qa4, RI.enc a33_c12), (aB qa5, aO qa5, RSa.enc a33_c13), (aB qa6, aO qa6, RSi.enc a33_c14), (aB qa7, aO qa7, RI.enc a33_c15), (rb_4, 0, [ptr rb_3 0]), (rb_5, 0, [.func (.func 173) #[] #[ptr rb 0, ptr rb_1 0, ptr rb_4 0, ptr rb_5 0]])] w)     (hna4 : a33_c12.length = na4) (hqa4 : AOK na4 qa4) (hla4 : na4 ≤ ca4) (hna5 : a33_c13.length = na5) (hqa5 : AOK na5 qa5) (hla5 : na5 ≤ ca5) (hna6 : a33_c14.length = na6) (hqa6 : AOK na6 qa6) (hla6 : na6 ≤ ca6) (hna7 : a33_c15.length = na7) (hqa7 : AOK na7 qa7) (hla7 : na7 ≤ ca7)   {res : ka} (hm : qV from1 a22 a33_c10 a33_c11 a33_c12 a33_c13 a33_c14 a33_c15 = some res) :
    Calls Tryz.prog 173 #[slv none 0 0, .int .i64 from1, ptr rb 0, ptr rb_1 0, ptr rb_4 0, ptr rb_5 0] w (fun en w' => ∃ l : VL, en = .returned (.bool res.r0) ∧ (VOK 1 l.n l.cap (RI.enc res.a33_c0) l.sp l.q) ∧ HV w (keys [kc pb #[slv none 0 0] 22] []) [kc pb #[sL l] 22] [vL 3 l (RI.enc res.a33_c0)] [] w') := by
  unfold qV at hm
  refine yr func173 Y ntmps173 Y (e := [(0, _), (1, _), (2, _), (3, _), (4, _), (5, _)]) Y hw (jr (jo Y Y (jq (ji (jr (jg Y Y (jc Y Y Y (fun w _ => jaa (runUnderlying22 w) Y) ?_)))))))
  refine jc Y Y Y (fun w hh => jz (isAgg3 w) Y (segCell (hh.seg 0 Y) 0 Y)) (jc Y Y Y (fun _ _ => Ju Y Y) (jq ?_))
  refine ju Y (fun h2 => ?_) (fun h2 => ?_)
  ·replace hm := ifD h2 hm
   refine jr (jc Y Y Y (fun w hh => jz (isAgg186 w) Y (segCell (hh.seg 1 Y) 0 Y)) (jg Y Y ?_))
   obtain ⟨t16, h3, hm⟩ := bindO hm
   refine jd [_] [] Y Y Y Y Y Y Y call129 (fun w hh => Ys [] a33_c10 a33_c11 a33_c12 a33_c13 a33_c14 a33_c15 pb none 0 0 rb_2 rb_3 qa4 na4 ca4 qa5 na5 ca5 qa6 na6 ca6 qa7 na7 ca7 w (HV.callee (S0 := [_]) (vs0 := []) hh (roC ⟨segOK.nil, fun hx => absurd Y hx⟩ (roR hh 2 Y (roR hh 3 Y (roR hh 4 Y (roR hh 5 Y (roR hh 6 Y (roR hh 7 Y roN)))))))) Y AOK.nil (Nat.le_refl 0) hna4 hqa4 hla4 hna5 hqa5 hla5 hna6 hqa6 hla6 hna7 hqa7 hla7 h3) (fun l h4 => ?_)
   refine jV (S' := [_]) (vs' := []) [0] [] 0 Y Y Y Y (jo Y Y (jq (jv (jh (zV 3 ?_)))))
   obtain rfl := sj hm
   refine jm Y (fun w hh => (.tmp Y .nil)) (fun w hh => ⟨⟨none, 0, 0, []⟩, rfl, VOK.nil, hh.se [0] [0] 10 Y Y Y rfl⟩)
  replace hm := ifE h2 hm
  refine jt (ja (ji (jr (jg Y Y (jo Y Y (jq (zV 3 ?_)))))))
  obtain ⟨o, h5, h6⟩ := bindO hm
  refine j3 (ι := (List Int) × VL) (fun j => o = .inl j.1 ∧ VOK 1 j.2.n j.2.cap (RI.enc j.1) j.2.sp j.2.q) (fun j => []) (fun j => [kc pb #[sL j.2] 22]) (fun j => [vL 3 j.2 (RI.enc j.1)]) ?_ ?_
  ·replace hm := h5
   refine jp ?_
   refine kk (ι := VL) hm (fun s l_1 => VOK 1 l_1.n l_1.cap (RI.enc s.a33_c0) l_1.sp l_1.q) (fun s l_1 => [(0, slv none 0 0), (4, ptr rb_4 0), (5, ptr rb_5 0), (9, .int .i64 s.i9)]) (fun s l_1 => [kc pb #[sL l_1] 22]) (fun s l_1 => [vL 3 l_1 (RI.enc s.a33_c0)]) ⟨none, 0, 0, []⟩ (VOK.nil) (sE Y) (fun w hh => hh) (fun s l_1 r hpl hm h9 => ?_)
   have h8 := hpl
   unfold kG at hm
   refine ji (jr (jg Y Y (jc Y Y Y (fun w hh => jz (isAgg146 w) Y (segCell (hh.seg 8 Y) 0 Y)) (jc Y Y Y (fun _ _ => jQ Y) (yD 0 runUnderlying175 Y sizeOf26 Y Y (yD 4 runUnderlying26 Y sizeOf24 Y Y (jc Y Y Y (fun w hh => jz (isAgg24 w) Y (segCell (hh.seg 3 Y) 4 Y)) ?_)))))))
   refine jc Y Y Y (fun w _ => qd hna6 (runUnderlying24 w) Y) (Kv Y Y Y (jq ?_))
   refine ju Y (fun h10 => ?_) (fun h10 => ?_)
   ·replace hm := ifD h10 hm
    refine jt (ja (ji (jp (ji ?_))))
    obtain ⟨o_1, h11, h12⟩ := bindO hm
    refine j3 (ι := VL) (fun l_2 => VOK 1 l_2.n l_2.cap (RI.enc o_1.a33_c0) l_2.sp l_2.q) (fun l_2 => [(0, slv none 0 0), (4, ptr rb_4 0), (5, ptr rb_5 0), (9, .int .i64 s.i9), (36, .bool o_1.t36)]) (fun l_2 => [kc pb #[sL l_2] 22]) (fun l_2 => [vL 3 l_2 (RI.enc o_1.a33_c0)]) ?_ ?_
    ·replace hm := h11
     obtain ⟨t35, h14, hm⟩ := bindO hm
     obtain ⟨t30, h15, hm⟩ := bindO hm
     obtain ⟨t33, h16, hm⟩ := bindO hm
     obtain ⟨t36, h17, hm⟩ := bindO hm
     refine ky none (.hoist 0 (.free 1 (.free 3 (.free 6 (.free 7 (.br (.alt 2 (.one 4 (.one 5 (.one 8 .done))) (.alt 4 (.one 2 (.one 5 (.one 8 .done))) .nil)))))))) (HV _ _ [] [] _) Y (by decide +kernel) (fun w k hh => hh.draw k) (hsE [] [] 0 Y Y Y Y) ?_
     refine jy Y Y Y Y (fun w hh => jz (isAgg100 w) Y (segCell (hh.seg 9 Y) 0 Y)) (zs Y Y Y (zs Y Y Y (zs Y Y Y (jn Y Y Y Y (fun _ _ => Kh h14 Y Y) (ZC ?_)))))
     refine zC Y ?_ ?_
     ·refine jd [] [] Y Y Y Y Y Y Y call74 (fun w hh => kx [] none 0 0 w (HV.callee (S0 := []) (vs0 := []) hh (roC ⟨segOK.nil, fun hx => absurd Y hx⟩ roN)) Y AOK.nil (Nat.le_refl 0) h15) (fun l_3 h18 => ?_)
      have h19 := h18
      refine jV (S' := [_]) (vs' := [_, _]) [0] [0, 1] 0 Y Y Y Y (jj (hsE [] [] 0 Y Y Y Y) (jA Y ?_))
      refine qE RI [s.i9] (ps := [(0, _)]) (cells := [_]) (fun w => runUnderlying22 w) (fun w => sizeOf3 w) (fun w => zeroValue3 w) Y Y Y Y Y Y Y Y (fun L h20 => ?_)
      refine jj (hsE [] [] 0 Y Y Y Y) (jA Y ?_)
      refine zz RI 1 h16 underlying22 KZ Y Y Y Y Y h19 Y Y (vlen RI h20 Y) (AOK.q (vne h20)) (fun w hh => (hh.vsegA 0 Y h20)) Y (fun L_1 h21 h21n => ?_)
      refine jV (S' := [_]) (vs' := [_, _, _]) [0] [0, 1, 2] 0 Y Y Y Y (jj (hsE [] [] 0 Y Y Y Y) (jA Y (jV (S' := [_]) (vs' := [_, _, _]) [0] [1, 2, 0] 0 Y Y Y Y ?_)))
      refine jd [_] [_, _] Y Y Y Y Y Y Y call173 (fun w hh => J4 FU t33 t35 a22 s.a33_c0 a33_c10 a33_c11 a33_c12 a33_c13 a33_c14 a33_c15 ⟨L_1.q, L_1.n, L_1.cap, L_1.sp⟩ rb rb_1 pb ⟨l_1.q, l_1.n, l_1.cap, l_1.sp⟩ rb_2 rb_3 qa4 na4 ca4 qa5 na5 ca5 qa6 na6 ca6 qa7 na7 ca7 rb_4 rb_5 w (HV.callee (S0 := [_]) (vs0 := [_, _]) hh (roR hh 0 Y (roR hh 1 Y (roR hh 2 Y (roR hh 3 Y (roR hh 4 Y (roR hh 5 Y (roR hh 6 Y (roR hh 7 Y (roR hh 8 Y (roR hh 9 Y roN))))))))))) h21 h8 hna4 hqa4 hla4 hna5 hqa5 hla5 hna6 hqa6 hla6 hna7 hqa7 hla7 h17) (fun l_4 h22 => ?_)
      have h23 := h22
      refine jV (S' := [_]) (vs' := [_, _]) [0] [0, 1] 0 Y Y Y Y (jj (hsE [] [] 0 Y Y Y Y) (jM ?_))
      obtain rfl := sj hm
      exact jk l_4 (h23) (sE Y) (hsE [0] [0] 0 Y Y Y Y)
     refine zC Y ?_ ?_
     refine qE RI [s.i9] (ps := [(0, _)]) (cells := [_]) (fun w => runUnderlying22 w) (fun w => sizeOf3 w) (fun w => zeroValue3 w) Y Y Y Y Y Y Y Y (fun L_2 h24 => ?_)
     refine jj (hsE [] [] 0 Y Y Y Y) (jA Y ?_)
     refine jd [] [] Y Y Y Y Y Y Y call74 (fun w hh => kx [] none 0 0 w (HV.callee (S0 := []) (vs0 := []) hh (roC ⟨segOK.nil, fun hx => absurd Y hx⟩ roN)) Y AOK.nil (Nat.le_refl 0) h15) (fun l_5 h25 => ?_)
     have h26 := h25
     refine jV (S' := [_]) (vs' := [_, _, _]) [0] [0, 1, 2] 0 Y Y Y Y (jj (hsE [] [] 0 Y Y Y Y) (jA Y ?_))
     refine zz RI 0 h16 underlying22 KZ Y Y Y Y Y h26 Y Y (vlen RI h24 Y) (AOK.q (vne h24)) (fun w hh => (hh.vsegA 1 Y h24)) Y (fun L_3 h27 h27n => ?_)
     refine jV (S' := [_]) (vs' := [_, _, _]) [0] [0, 1, 2] 0 Y Y Y Y (jj (hsE [] [] 0 Y Y Y Y) (jA Y (jV (S' := [_]) (vs' := [_, _, _]) [0] [0, 2, 1] 0 Y Y Y Y ?_)))
     refine jd [_] [_, _] Y Y Y Y Y Y Y call173 (fun w hh => J4 FU t33 t35 a22 s.a33_c0 a33_c10 a33_c11 a33_c12 a33_c13 a33_c14 a33_c15 ⟨L_3.q, L_3.n, L_3.cap, L_3.sp⟩ rb rb_1 pb ⟨l_1.q, l_1.n, l_1.cap, l_1.sp⟩ rb_2 rb_3 qa4 na4 ca4 qa5 na5 ca5 qa6 na6 ca6 qa7 na7 ca7 rb_4 rb_5 w (HV.callee (S0 := [_]) (vs0 := [_, _]) hh (roR hh 0 Y (roR hh 1 Y (roR hh 2 Y (roR hh 3 Y (roR hh 4 Y (roR hh 5 Y (roR hh 6 Y (roR hh 7 Y (roR hh 8 Y (roR hh 9 Y roN))))))))))) h27 h8 hna4 hqa4 hla4 hna5 hqa5 hla5 hna6 hqa6 hla6 hna7 hqa7 hla7 h17) (fun l_6 h28 => ?_)
     have h29 := h28
     refine jV (S' := [_]) (vs' := [_, _]) [0] [0, 1] 0 Y Y Y Y (jj (hsE [] [] 0 Y Y Y Y) (jM ?_))
     obtain rfl := sj hm
     exact jk l_6 (h29) (sE Y) (hsE [0] [0] 0 Y Y Y Y)
     exact QE
    intro l_2 hj
    have h13 := hj
    replace hm := h12
    refine ja ?_
    refine ju Y (fun h30 => ?_) (fun h30 => ?_)
    ·replace hm := ifT (h30) hm
     refine jr (jo Y Y (jq (jv (jJ (jh (jh (jJ ?_)))))))
     obtain rfl := sj hm
     have hbo := h9 _ Y
     subst hbo
     refine jh ?_
     replace hm := ocR h6
     refine jh ?_
     obtain rfl := sj hm
     refine jm Y (fun w hh => (.tmp Y .nil)) (fun w hh => ⟨l_2, rfl, h13, hh.se [0] [0] 10 Y Y Y rfl⟩)
    replace hm := ifN h30 hm
    refine jt (jw (ja (je (jg Y Y ?_))))
    obtain ⟨t27, h31, hm⟩ := bindO hm
    refine Kq h31 Y Y Y (jo Y Y (jx ?_))
    obtain rfl := sj hm
    refine ja ?_
    exact jN _ l_2 Y (h13) (sE Y) (fun w hh => hh)
   replace hm := ifE h10 hm
   refine kN (jl (jl (jO ?_)))
   obtain rfl := sj hm
   have hbo := h9 _ Y
   subst hbo
   exact jk (s.a33_c0, l_1) (⟨rfl, h8⟩) (.nil) (fun w hh => hh)
  rintro ⟨j_1, l_7⟩ hj
  obtain ⟨h33, h32⟩ := hj
  subst h33
  replace hm := ocL h6
  refine ja (jr (jo Y Y (jq (jv ?_))))
  obtain rfl := sj hm
  refine jm Y (fun w hh => (.tmp Y .nil)) (fun w hh => ⟨l_7, rfl, h32, hh.se [0] [0] 10 Y Y Y rfl⟩)
end Go.Proofs.Wb

namespace Go.Proofs.Wb
set_option maxHeartbeats 4000000
set_option maxRecDepth 100000
open Go Go.Fw Go.Gx Go.Sb
open Tryz
set_option linter.unusedVariables false
structure zG where
  r0 : Bool
  is2_c0 : (List Int)
def zc (d00 : Int) (d01 : Int) (d02 : (List Int)) (d03 : (List Sand)) (d04 : (List Sight)) (d05 : (List Int)) (many1 : Int) : Option zG :=
 (qV 0 many1 d00 d01 d02 d03 d04 d05).bind fun t10 =>
 some (⟨t10.r0, t10.a33_c0⟩ : zG)
theorem QX (d00 : Int) (d01 : Int) (d02 : (List Int)) (d03 : (List Sand)) (d04 : (List Sight)) (d05 : (List Int)) (many1 : Int) (rb : Nat) (qa1 : Option Addr) (na1 ca1 : Nat) (qa2 : Option Addr) (na2 ca2 : Nat) (qa3 : Option Addr) (na3 ca3 : Nat) (qa4 : Option Addr) (na4 ca4 : Nat) (pb : Nat) (rb_1 : Nat) (w : World) (hw : HV w (keys [kc pb #[slv none 0 0] 22] []) [kc pb #[slv none 0 0] 22] [] [(rb, 0, [.int .i64 d00, .int .i64 d01, .slice qa1 na1 ca1, .slice qa2 na2 ca2, .slice qa3 na3 ca3, .slice qa4 na4 ca4]), (aB qa1, aO qa1, RI.enc d02), (aB qa2, aO qa2, RSa.enc d03), (aB qa3, aO qa3, RSi.enc d04), (aB qa4, aO qa4, RI.enc d05), (rb_1, 0, [ptr rb 0])] w)  (hna1 : d02.length = na1) (hqa1 : AOK na1 qa1) (hla1 : na1 ≤ ca1) (hna2 : d03.length = na2) (hqa2 : AOK na2 qa2) (hla2 : na2 ≤ ca2) (hna3 : d04.length = na3) (hqa3 : AOK na3 qa3) (hla3 : na3 ≤ ca3) (hna4 : d05.length = na4) (hqa4 : AOK na4 qa4) (hla4 : na4 ≤ ca4)  {res : zG} (hm : zc d00 d01 d02 d03 d04 d05 many1 = some res) :
    Calls Tryz.prog 127 #[ptr rb 0, .int .i64 many1, .func (.func 129) #[] #[ptr pb 0, ptr rb_1 0]] w (fun en w' => ∃ l : VL, en = .returned (.bool res.r0) ∧ (VOK 1 l.n l.cap (RI.enc res.is2_c0) l.sp l.q) ∧ HV w (keys [kc pb #[slv none 0 0] 22] []) [kc pb #[sL l] 22] [vL 3 l (RI.enc res.is2_c0)] [] w') := by
  unfold zc at hm
  refine yr func127 Y ntmps127 Y (e := [(0, _), (1, _), (2, _)]) Y hw (jr ?_)
  refine jI Y Y (fun b h2 => ?_)
  refine jI Y Y (fun b_1 h3 => ?_)
  refine jI Y Y (fun b_2 h4 => ?_)
  refine jo Y Y (k7 ?_)
  refine js (fun w => zeroValue100 w) Y (fun b_3 h5 => ?_)
  refine k7 (jc Y Y Y (fun _ _ => ku (u := #[]) (u' := #[_, _, _, _]) Y Y) (q4 (cs' := #[_]) (S' := [_, _, _, _, _]) 0 (fun w => sizeOf100 w) Y Y Y Y Y Y Y (k7 (yf 0 isAgg100 Y Y Y Y ?_))))
  obtain ⟨t10, h6, hm⟩ := bindO hm
  refine jV (S' := [_, _, _, _, _]) (vs' := []) [4, 0, 1, 2, 3] [] 0 Y Y Y Y ?_
  refine jd [_] [] Y Y Y Y Y Y Y call173 (fun w hh => Qv 0 many1 d00 d01 d02 d03 d04 d05 b_1 b_2 pb rb_1 rb qa1 na1 ca1 qa2 na2 ca2 qa3 na3 ca3 qa4 na4 ca4 b b_3 w (HV.callee (S0 := [_]) (vs0 := []) hh (roC (hh.bsepH 2 Y) (roC (hh.bsepH 1 Y) (roR hh 5 Y (roR hh 0 Y (roR hh 1 Y (roR hh 2 Y (roR hh 3 Y (roR hh 4 Y (roC (hh.bsepH 3 Y) (roC (hh.bsepH 0 Y) roN))))))))))) hna1 hqa1 hla1 hna2 hqa2 hla2 hna3 hqa3 hla3 hna4 hqa4 hla4 h6) (fun l h7 => ?_)
  have h8 := h7
  refine jV (S' := [_, _, _, _, _]) (vs' := [_]) [0, 1, 2, 3, 4] [0] 0 Y Y Y Y (jo Y Y (jq (jv ?_)))
  obtain rfl := sj hm
  refine jm Y (fun w hh => (.tmp Y .nil)) (fun w hh => ⟨l, rfl, h8, hh.se [0] [0] 6 Y Y Y rfl⟩)
structure yF where
  r1 : Int
  r0 : (List Int)
def zw (t19 : Int) (t10b : zk) (c0 : Channel) (s : Int) : Option (Int ⊕ (Unit ⊕ yF)) :=
 if s < t19 then
 ((zc t10b.t14_0 t10b.t14_1 c0.fords c0.sands c0.sights t10b.t14_5 s).bind fun t26 =>
 if t26.r0 = true then
 (some (.inr (.inr (⟨0, t26.is2_c0⟩ : yF)))) else
 ((addc s 1).bind fun t28 =>
 some (.inl t28))) else
 (some (.inr (.inl ())))
def zq (c0 : Channel) : Option yF :=
 (yw c0).bind fun t10 =>
 oc t10 (fun t10a => some (⟨t10a, []⟩ : yF)) (fun t10b => (addc (c0.sights.length : Int) 1).bind fun t19 =>
 (iterM FU (zw t19 t10b c0) 0).bind fun o =>
 oc o (fun j => some (⟨0, []⟩ : yF)) (fun r_1 => some r_1))
theorem Qb (c0 : Channel) (qa0 : Option Addr) (na0 ca0 : Nat) (qa1 : Option Addr) (na1 ca1 : Nat) (qa2 : Option Addr) (na2 ca2 : Nat) (w : World) (hw : HV w (keys [] []) [] [] [(aB qa0, aO qa0, RI.enc c0.fords), (aB qa1, aO qa1, RSa.enc c0.sands), (aB qa2, aO qa2, RSi.enc c0.sights)] w) (hna0 : c0.fords.length = na0) (hqa0 : AOK na0 qa0) (hla0 : na0 ≤ ca0) (hna1 : c0.sands.length = na1) (hqa1 : AOK na1 qa1) (hla1 : na1 ≤ ca1) (hna2 : c0.sights.length = na2) (hqa2 : AOK na2 qa2) (hla2 : na2 ≤ ca2) {res : yF} (hm : zq c0 = some res) :
    Calls Tryz.prog 52 #[.agg #[.int .i64 c0.cells, .int .i64 c0.tides, .slice qa0 na0 ca0, .slice qa1 na1 ca1, .slice qa2 na2 ca2]] w (fun en w' => ∃ l : VL, en = .returned (.tuple #[sL l, .int .i64 res.r1]) ∧ (VOK 1 l.n l.cap (RI.enc res.r0) l.sp l.q) ∧ HV w (keys [] []) [] [vL 3 l (RI.enc res.r0)] [] w') := by
  unfold zq at hm
  refine yr func52 Y ntmps52 Y (e := [(0, _)]) Y hw (jr ?_)
  refine jI Y Y (fun b h2 => ?_)
  refine jc Y Y Y (fun _ _ => yc Y) (jo Y Y (k7 (zX [_, _, _, _, _] 0 isAgg26 sizeOf26 Y Y Y Y ?_)))
  obtain ⟨t10, h3, hm⟩ := bindO hm
  rcases t10 with t10a | t10b
  ·replace hm := ocL hm
   refine jd [] [] Y Y Y Y Y Y Y call93 (fun w hh => yv c0 qa0 na0 ca0 qa1 na1 ca1 qa2 na2 ca2 w (HV.callee (S0 := []) (vs0 := []) hh (roR hh 0 Y (roR hh 1 Y (roR hh 2 Y roN)))) hna0 hqa0 hla0 hna1 hqa1 hla1 hna2 hqa2 hla2 h3) (fun l h4 => ?_)
   have h5 := h4
   refine jg Y Y (zo Y Y Y (zo Y Y Y ?_))
   refine js (fun w => zeroValue146 w) Y (fun b_1 h6 => ?_)
   refine q4 (cs' := #[_]) (S' := [_, _]) 0 (fun w => sizeOf146 w) Y Y Y Y Y Y Y (jo Y Y (jq (ji (jr (jg Y Y (jc Y Y Y (fun _ _ => YR h5 Y Y) (jq ?_)))))))
   refine J1 Y Y (jr (jg Y Y (jc Y Y Y (fun _ _ => yc Y) (jo Y Y (jq (jv (jh ?_)))))))
   refine zV 3 ?_
   obtain rfl := sj hm
   refine jm Y (fun w hh => (.tmp Y (.tmp Y .nil))) (fun w hh => ⟨⟨none, 0, 0, []⟩, rfl, VOK.nil, hh.se [] [0] 3 Y Y Y rfl⟩)
  replace hm := ocR hm
  refine jd [] [] Y Y Y Y Y Y Y call93 (fun w hh => yv c0 qa0 na0 ca0 qa1 na1 ca1 qa2 na2 ca2 w (HV.callee (S0 := []) (vs0 := []) hh (roR hh 0 Y (roR hh 1 Y (roR hh 2 Y roN)))) hna0 hqa0 hla0 hna1 hqa1 hla1 hna2 hqa2 hla2 h3) (fun l_1 h7 => ?_)
  have h8 := h7
  refine jV (S' := [_, _]) (vs' := [_]) [0, 1] [0] 0 Y Y Y Y (jg Y Y (zo Y Y Y (zo Y Y Y ?_)))
  refine js (fun w => zeroValue146 w) Y (fun b_2 h9 => ?_)
  refine q4 (cs' := #[_]) (S' := [_, _, _]) 0 (fun w => sizeOf146 w) Y Y Y Y Y Y Y (jo Y Y (jq (ji (jr (jg Y Y (jc Y Y Y (fun _ _ => Jc Y Y) (jq ?_)))))))
  refine Ka Y Y (jt (ja (ji (jr (yD 4 runUnderlying26 Y sizeOf24 Y Y (yf 2 isAgg24 Y Y Y Y (jc Y Y Y (fun w _ => qd hna2 (runUnderlying24 w) Y) ?_)))))))
  obtain ⟨t19, h10, hm⟩ := bindO hm
  refine Kq h10 Y Y Y (jg Y Y (jq ?_))
  obtain ⟨o, h11, h12⟩ := bindO hm
  refine j3 (ι := Unit) (fun j => o = .inl j) (fun j => []) (fun j => [kc b_2 #[ptr l_1.1 0] 146, kc l_1.1 #[.int .i64 t10b.t14_0, .int .i64 t10b.t14_1, .slice qa0 na0 ca0, .slice qa1 na1 ca1, .slice qa2 na2 ca2, sL l_1.2] 175, kc b #[.int .i64 c0.cells, .int .i64 c0.tides, .slice qa0 na0 ca0, .slice qa1 na1 ca1, .slice qa2 na2 ca2] 26]) (fun j => [vL 3 l_1.2 (RI.enc t10b.t14_5)]) ?_ ?_
  ·replace hm := h11
   refine jp ?_
   refine kk (ι := Unit) hm (fun s l_2 => True) (fun s l_2 => [(4, ptr b_2 0), (19, .int .i64 t19), (20, .int .i64 s)]) (fun s l_2 => [kc b_2 #[ptr l_1.1 0] 146, kc l_1.1 #[.int .i64 t10b.t14_0, .int .i64 t10b.t14_1, .slice qa0 na0 ca0, .slice qa1 na1 ca1, .slice qa2 na2 ca2, sL l_1.2] 175, kc b #[.int .i64 c0.cells, .int .i64 c0.tides, .slice qa0 na0 ca0, .slice qa1 na1 ca1, .slice qa2 na2 ca2] 26]) (fun s l_2 => [vL 3 l_1.2 (RI.enc t10b.t14_5)]) () (trivial) (sE Y) (fun w hh => hh) (fun s l_2 r hpl hm h13 => ?_)
   unfold zw at hm
   refine jr (Kv Y Y Y (jq (ji ?_)))
   refine ju Y (fun h14 => ?_) (fun h14 => ?_)
   ·replace hm := ifD h14 hm
    refine jt (ja (ji (jp (jr (jg Y Y (jo Y Y (k7 ?_)))))))
    refine js (fun w => zeroValue22 w) Y (fun b_3 h15 => ?_)
    refine k7 (yf 1 isAgg146 Y Y Y Y (jg Y Y (jc Y Y Y (fun _ _ => ku (u := #[]) (u' := #[_, _]) Y Y) ?_)))
    obtain ⟨t26, h16, hm⟩ := bindO hm
    refine jd [_] [] Y Y Y Y Y Y Y call127 (fun w hh => QX t10b.t14_0 t10b.t14_1 c0.fords c0.sands c0.sights t10b.t14_5 s l_1.1 qa0 na0 ca0 qa1 na1 ca1 qa2 na2 ca2 (qA l_1.2.q) l_1.2.n l_1.2.cap b_3 b_2 w (HV.callee (S0 := [_]) (vs0 := []) hh (roC (hh.bsepH 1 Y) (roR hh 0 Y (roR hh 1 Y (roR hh 2 Y (roC (hh.vsepA 0 Y h8) (roC (hh.bsepH 0 Y) roN))))))) hna0 hqa0 hla0 hna1 hqa1 hla1 hna2 hqa2 hla2 (vlen RI h8 Y) (AOK.q (vne h8)) (h8).hle h16) (fun l_3 h17 => ?_)
    have h18 := h17
    refine jV (S' := [_, _, _, _]) (vs' := [_, _]) [0, 1, 2, 3] [0, 1] 0 Y Y Y Y (jq ?_)
    refine ju Y (fun h19 => ?_) (fun h19 => ?_)
    ·replace hm := ifT (h19) hm
     refine jr (yf 0 isAgg22 Y Y Y Y (jo Y Y (jo Y Y (jq (jv (jJ (jh ?_)))))))
     refine jh (jJ ?_)
     obtain rfl := sj hm
     have hbo := h13 _ Y
     subst hbo
     refine jh ?_
     replace hm := ocR h12
     refine jh ?_
     obtain rfl := sj hm
     refine jm Y (fun w hh => (.tmp Y (.tmp Y .nil))) (fun w hh => ⟨l_3, rfl, h18, hh.se [] [0] 3 Y Y Y rfl⟩)
    replace hm := ifN h19 hm
    refine jt (jw (ja (je ?_)))
    obtain ⟨t28, h20, hm⟩ := bindO hm
    refine Kq h20 Y Y Y (jg Y Y (jx ?_))
    obtain rfl := sj hm
    refine ja ?_
    exact jN _ () Y (trivial) (sE Y) (hsE [1, 2, 3] [1] 0 Y Y Y Y)
   replace hm := ifE h14 hm
   refine kN (jl (jl (jO ?_)))
   obtain rfl := sj hm
   have hbo := h13 _ Y
   subst hbo
   exact jk () (Y) (.nil) (fun w hh => hh)
  intro j hj
  have h21 := hj
  subst h21
  replace hm := ocL h12
  refine ja (jr (jc Y Y Y (fun _ _ => yc Y) (jo Y Y (jq (jv (zV 3 ?_))))))
  obtain rfl := sj hm
  refine jm Y (fun w hh => (.tmp Y (.tmp Y .nil))) (fun w hh => ⟨⟨none, 0, 0, []⟩, rfl, VOK.nil, hh.se [] [0] 3 Y Y Y rfl⟩)
def yj (s0 : (List Sand)) : Option (List Sand) :=
 (appc 24 [] s0).bind fun t7 =>
 some t7
theorem Kk (s0 : (List Sand)) (qa0 : Option Addr) (na0 ca0 : Nat) (w : World) (hw : HV w (keys [] []) [] [] [(aB qa0, aO qa0, RSa.enc s0)] w) (hna0 : s0.length = na0) (hqa0 : AOK na0 qa0) (hla0 : na0 ≤ ca0) {res : (List Sand)} (hm : yj s0 = some res) :
    Calls Tryz.prog 167 #[.slice qa0 na0 ca0] w (fun en w' => ∃ l : VL, en = .returned (sL l) ∧ (VOK 3 l.n l.cap (RSa.enc res) l.sp l.q) ∧ HV w (keys [] []) [] [vL 98 l (RSa.enc res)] [] w') := by
  unfold yj at hm
  refine yr func167 Y ntmps167 Y (e := [(0, _)]) Y hw (jr (jc Y Y Y (fun _ _ => yc Y) (jq (ji (jr (jg Y Y ?_))))))
  cases qa0 with
  | none =>
    obtain rfl : s0 = [] := AOK.nilL hqa0 hna0
    refine jc Y Y Y (fun w _ => jaH (runUnderlying23 w) Y Y) (jq (J1 Y Y (jr (jc Y Y Y (fun _ _ => yc Y) (jq (jv (jh ?_)))))))
    obtain rfl := sj hm
    refine zV 98 ?_
    exact jm Y (fun w hh => (.tmp Y .nil)) (fun w hh => ⟨vl0, rfl, VOK.nil, hh.se [] [0] 1 Y Y Y rfl⟩)
  | some a0 =>
   refine jc Y Y Y (fun w _ => jaI (runUnderlying23 w) Y Y) (jq (Ka Y Y (jt (ja (jr ?_)))))
   refine jaq RSa (fun w => runUnderlying23 w) (fun w => sizeOf98 w) Y Y (fun L h3 => ?_)
   refine jg Y Y ?_
   obtain ⟨t7, h4, hm⟩ := bindO hm
   refine zz RSa 0 h4 underlying23 Zy Y Y Y Y Y h3 Y Y hna0 hqa0 (fun w hh => (hh.seg 0 Y)) Y (fun L_1 h5 h5n => ?_)
   refine jV (S' := []) (vs' := [_]) [] [0] 0 Y Y Y Y (jo Y Y (jq (jv ?_)))
   obtain rfl := sj hm
   refine jm Y (fun w hh => (.tmp Y .nil)) (fun w hh => ⟨L_1, rfl, h5, hh.se [] [0] 1 Y Y Y rfl⟩)
def zQ (c0 : Channel) (s1 : Sight) : Option Channel :=
 (kp c0.fords).bind fun t9 =>
 (yj c0.sands).bind fun t12 =>
 (addc (c0.sights.length : Int) 1).bind fun t21 =>
 (makec 24 (⟨0, 0, false⟩ : Sight) (c0.sights.length : Int) t21).bind fun t22 =>
 if (c0.sights.length : Int) ≤ (t22.length : Int) then ((some (c0.sights ++ t22.drop c0.sights.length)).bind fun t22_1 =>
 (appc 24 t22_1 [s1]).bind fun t33 =>
 some (⟨c0.cells, c0.tides, t9, t12, t33⟩ : Channel)) else none
theorem QO (c0 : Channel) (s1 : Sight) (qa0 : Option Addr) (na0 ca0 : Nat) (qa1 : Option Addr) (na1 ca1 : Nat) (qa2 : Option Addr) (na2 ca2 : Nat) (w : World) (hw : HV w (keys [] []) [] [] [(aB qa0, aO qa0, RI.enc c0.fords), (aB qa1, aO qa1, RSa.enc c0.sands), (aB qa2, aO qa2, RSi.enc c0.sights)] w) (hna0 : c0.fords.length = na0) (hqa0 : AOK na0 qa0) (hla0 : na0 ≤ ca0) (hna1 : c0.sands.length = na1) (hqa1 : AOK na1 qa1) (hla1 : na1 ≤ ca1) (hna2 : c0.sights.length = na2) (hqa2 : AOK na2 qa2) (hla2 : na2 ≤ ca2) {res : Channel} (hm : zQ c0 s1 = some res) :
    Calls Tryz.prog 110 #[.agg #[.int .i64 c0.cells, .int .i64 c0.tides, .slice qa0 na0 ca0, .slice qa1 na1 ca1, .slice qa2 na2 ca2], .agg #[.int .i64 s1.after, .int .i64 s1.cell, .bool s1.upright]] w (fun en w' => ∃ l : VL × VL × VL, en = .returned (.agg #[.int .i64 res.cells, .int .i64 res.tides, sL l.1, sL l.2.1, sL l.2.2]) ∧ (VOK 1 l.1.n l.1.cap (RI.enc res.fords) l.1.sp l.1.q ∧ VOK 3 l.2.1.n l.2.1.cap (RSa.enc res.sands) l.2.1.sp l.2.1.q ∧ VOK 3 l.2.2.n l.2.2.cap (RSi.enc res.sights) l.2.2.sp l.2.2.q) ∧ HV w (keys [] []) [] [vL 3 l.1 (RI.enc res.fords), vL 98 l.2.1 (RSa.enc res.sands), vL 55 l.2.2 (RSi.enc res.sights)] [] w') := by
  unfold zQ at hm
  refine yr func110 Y ntmps110 Y (e := [(0, _), (1, _)]) Y hw (jr ?_)
  refine jI Y Y (fun b h4 => ?_)
  refine jI Y Y (fun b_1 h5 => ?_)
  refine js (fun w => zeroValue26 w) Y (fun b_2 h6 => ?_)
  refine k7 (zX [_, _, _, _, _] 2 isAgg26 sizeOf26 Y Y Y Y ?_)
  refine js (fun w => zeroValue26 w) Y (fun b_3 h7 => ?_)
  refine kz (us := #[_, _, _, _, _]) (cs' := [_, _, _, _, _]) (S' := [_, _, _, _]) 0 (fun w => sizeOf26 w) Y Y Y Y Y Y Y (jq (ji ?_))
  refine ky none (.free 0 (.hoist 1 (.free 3 (.hoist 4 (.one 2 (.free 6 (.one 5 (.one 7 (.free 8 (.one 9 .done)))))))))) (HV _ _ [kc b_2 #[.int .i64 0, .int .i64 0, slv none 0 0, slv none 0 0, slv none 0 0] 26, kc b_1 #[.int .i64 s1.after, .int .i64 s1.cell, .bool s1.upright] 55, kc b #[.int .i64 c0.cells, .int .i64 c0.tides, .slice qa0 na0 ca0, .slice qa1 na1 ca1, .slice qa2 na2 ca2] 26] [] _) Y (by decide +kernel) (fun w k hh => hh.draw k) (hsE [1, 2, 3] [] 0 Y Y Y Y) ?_
  refine JT 2 runUnderlying26 sizeOf22 Y Y Y Y (Kg 2 isAgg22 Y Y Y Y Y (JT 3 runUnderlying26 sizeOf23 Y Y Y Y (Kg 2 isAgg23 Y Y Y Y Y (jA Y ?_))))
  obtain ⟨t9, h8, hm⟩ := bindO hm
  refine jd [] [] Y Y Y Y Y Y Y call74 (fun w hh => kx c0.fords qa0 na0 ca0 w (HV.callee (S0 := []) (vs0 := []) hh (roR hh 0 Y roN)) hna0 hqa0 hla0 h8) (fun l h9 => ?_)
  have h10 := h9
  refine jV (S' := [_, _, _, _]) (vs' := [_]) [0, 1, 2, 3] [0] 0 Y Y Y Y (jj (hsE [1, 2, 3] [] 0 Y Y Y Y) (JT 2 runUnderlying26 sizeOf22 Y Y Y Y (jA Y ?_)))
  obtain ⟨t12, h11, hm⟩ := bindO hm
  refine jd [] [] Y Y Y Y Y Y Y call167 (fun w hh => Kk c0.sands qa1 na1 ca1 w (HV.callee (S0 := []) (vs0 := []) hh (roR hh 1 Y roN)) hna1 hqa1 hla1 h11) (fun l_1 h12 => ?_)
  have h13 := h12
  refine jV (S' := [_, _, _, _]) (vs' := [_, _]) [0, 1, 2, 3] [0, 1] 0 Y Y Y Y (jj (hsE [1, 2, 3] [] 0 Y Y Y Y) (jA Y (q4 (cs' := #[_, _, _, _, _]) (S' := [_, _, _, _]) 0 (fun w => sizeOf22 w) Y Y Y Y Y Y Y (jj (hsE [1, 2, 3] [] 0 Y Y Y Y) (JT 3 runUnderlying26 sizeOf23 Y Y Y Y (jA Y (q4 (cs' := #[_, _, _, _, _]) (S' := [_, _, _, _]) 0 (fun w => sizeOf23 w) Y Y Y Y Y Y Y ?_)))))))
  refine jj (hsE [1, 2, 3] [] 0 Y Y Y Y) (jM (ja (jr (yD 4 runUnderlying26 Y sizeOf24 Y Y (yf 3 isAgg24 Y Y Y Y (jc Y Y Y (fun w _ => qd hna2 (runUnderlying24 w) Y) (yD 4 runUnderlying26 Y sizeOf24 Y Y ?_)))))))
  refine yf 3 isAgg24 Y Y Y Y (jc Y Y Y (fun w _ => qd hna2 (runUnderlying24 w) Y) ?_)
  obtain ⟨t21, h14, hm⟩ := bindO hm
  refine Kq h14 Y Y Y ?_
  obtain ⟨t22, h15, hm⟩ := bindO hm
  refine Y9 RSi (⟨0, 0, false⟩ : Sight) h15 underlying24 YP Y Y Y Y Y (fun L h16 => ?_)
  refine yD 4 runUnderlying26 Y sizeOf24 Y Y (q4 (cs' := #[_, _, _, _, _]) (S' := [_, _, _, _]) 0 (fun w => sizeOf24 w) Y Y Y Y Y Y Y (k7 (yD 4 runUnderlying26 Y sizeOf24 Y Y (yf 0 isAgg24 Y Y Y Y (yD 4 runUnderlying26 Y sizeOf24 Y Y (yf 3 isAgg24 Y Y Y Y ?_))))))
  obtain ⟨h17, hm⟩ := ifO hm
  obtain ⟨t22_1, ht22_1, hm⟩ := bindO hm
  refine jaV RSi 0 underlying24 ja7 Y Y Y Y Y h16 hna2 hqa2 (fun w hh => (hh.seg 2 Y)) (Int.ofNat_le.1 h17) (Option.some.inj ht22_1) Y (fun h18 => ?_)
  refine jV (S' := [_, _, _, _]) (vs' := [_, _, _]) [0, 1, 2, 3] [0, 1, 2] 0 Y Y Y Y (k7 (yD 4 runUnderlying26 Y sizeOf24 Y Y (yf 0 isAgg24 Y Y Y Y (zX [_, _, _] 2 isAgg55 sizeOf55 Y Y Y Y ?_))))
  refine qE RSi [s1] (ps := [(0, _)]) (cells := [_, _, _]) (fun w => runUnderlying24 w) (fun w => sizeOf55 w) (fun w => zeroValue55 w) Y Y Y Y Y Y Y Y (fun L_1 h19 => ?_)
  obtain ⟨t33, h20, hm⟩ := bindO hm
  refine zz RSi 1 h20 underlying24 YP Y Y Y Y Y h18 Y Y (vlen RSi h19 Y) (AOK.q (vne h19)) (fun w hh => (hh.vsegA 0 Y h19)) Y (fun L_2 h21 h21n => ?_)
  refine jV (S' := [_, _, _, _]) (vs' := [_, _, _, _]) [0, 1, 2, 3] [0, 1, 2, 3] 0 Y Y Y Y (yD 4 runUnderlying26 Y sizeOf24 Y Y (q4 (cs' := #[_, _, _, _, _]) (S' := [_, _, _, _]) 0 (fun w => sizeOf24 w) Y Y Y Y Y Y Y (k7 (zX [_, _, _, _, _] 0 isAgg26 sizeOf26 Y Y Y Y (kz (us := #[_, _, _, _, _]) (cs' := [_, _, _, _, _]) (S' := [_, _, _, _]) 1 (fun w => sizeOf26 w) Y Y Y Y Y Y Y (jq (jv ?_)))))))
  obtain rfl := sj hm
  refine jm Y (fun w hh => (.cell Y (loadVar_agg (vs := [_, _, _, _, _]) (isAgg26 _) (sizeOf26 _) (hh.cells 1 Y Y)) .nil)) (fun w hh => ⟨(l, l_1, L_2), rfl, ⟨h10, h13, h21⟩, hh.se [] [3, 2, 1] 3 Y Y Y rfl⟩)
structure zP where
  r0 : Sight
  r1 : Int
  r2 : Int
structure Q7 where
  few8 : Int
  best7_after : Int
  best7_cell : Int
  best7_upright : Bool
structure Kd where
  few8 : Int
  t36 : Int
  best7_after : Int
  best7_cell : Int
  best7_upright : Bool
structure Q2 where
  few8 : Int
  best7_after : Int
  best7_cell : Int
  best7_upright : Bool
def QY (c0 : Channel) (t15 : zN) (s : Kd) : Option (Kd ⊕ Q7) :=
 if s.t36 < c0.cells then
 (((zQ c0 (⟨c0.tides, s.t36, true⟩ : Sight)).bind fun t45 =>
 (k6 c0).bind fun t47 =>
 (yh t45.cells t45.tides t45.fords t45.sands t45.sights t47).bind fun t50 =>
 (subc t15.r0 t50).bind fun t54 =>
 if (max t50 t54) < s.few8 then
 (some (⟨(max t50 t54), c0.tides, s.t36, true⟩ : Q2)) else
 (some (⟨s.few8, s.best7_after, s.best7_cell, s.best7_upright⟩ : Q2))).bind fun o_1 =>
 (addc s.t36 1).bind fun t61 =>
 some (.inl (⟨o_1.few8, t61, o_1.best7_after, o_1.best7_cell, o_1.best7_upright⟩ : Kd))) else
 (some (.inr (⟨s.few8, s.best7_after, s.best7_cell, s.best7_upright⟩ : Q7)))
def Q0 (c0 : Channel) : Option zP :=
 (qL c0).bind fun t15 =>
 if t15.r1 = 0 then
 (if t15.r0 = 0 then
 (some (⟨(⟨0, 0, false⟩ : Sight), 0, 7⟩ : zP)) else
 (if t15.r0 = 1 then
 (some (⟨(⟨0, 0, false⟩ : Sight), 0, 6⟩ : zP)) else
 ((addc t15.r0 1).bind fun t33 =>
 (iterM FU (QY c0 t15) (⟨t33, 0, 0, 0, false⟩ : Kd)).bind fun o =>
 some (⟨(⟨o.best7_after, o.best7_cell, o.best7_upright⟩ : Sight), o.few8, 0⟩ : zP)))) else
 (some (⟨(⟨0, 0, false⟩ : Sight), 0, t15.r1⟩ : zP))
theorem ZI (c0 : Channel) (qa0 : Option Addr) (na0 ca0 : Nat) (qa1 : Option Addr) (na1 ca1 : Nat) (qa2 : Option Addr) (na2 ca2 : Nat) (w : World) (hw : HV w (keys [] []) [] [] [(aB qa0, aO qa0, RI.enc c0.fords), (aB qa1, aO qa1, RSa.enc c0.sands), (aB qa2, aO qa2, RSi.enc c0.sights)] w) (hna0 : c0.fords.length = na0) (hqa0 : AOK na0 qa0) (hla0 : na0 ≤ ca0) (hna1 : c0.sands.length = na1) (hqa1 : AOK na1 qa1) (hla1 : na1 ≤ ca1) (hna2 : c0.sights.length = na2) (hqa2 : AOK na2 qa2) (hla2 : na2 ≤ ca2) {res : zP} (hm : Q0 c0 = some res) :
    Calls Tryz.prog 39 #[.agg #[.int .i64 c0.cells, .int .i64 c0.tides, .slice qa0 na0 ca0, .slice qa1 na1 ca1, .slice qa2 na2 ca2]] w (fun en w' => ∃ l : Unit, en = .returned (.tuple #[.agg #[.int .i64 res.r0.after, .int .i64 res.r0.cell, .bool res.r0.upright], .int .i64 res.r1, .int .i64 res.r2]) ∧ (True) ∧ HV w (keys [] []) [] [] [] w') := by
  unfold Q0 at hm
  refine yr func39 Y ntmps39 Y (e := [(0, _)]) Y hw (jr ?_)
  refine jI Y Y (fun b h1 => ?_)
  refine js (fun w => zeroValue55 w) Y (fun b_1 h2 => ?_)
  refine jo Y Y (jo Y Y (k7 (zX [_, _, _, _, _] 1 isAgg26 sizeOf26 Y Y Y Y ?_)))
  obtain ⟨t15, h3, hm⟩ := bindO hm
  refine jd [] [] Y Y Y Y Y Y Y call26 (fun w hh => Jz c0 qa0 na0 ca0 qa1 na1 ca1 qa2 na2 ca2 w (HV.callee (S0 := []) (vs0 := []) hh (roR hh 0 Y (roR hh 1 Y (roR hh 2 Y roN)))) hna0 hqa0 hla0 hna1 hqa1 hla1 hna2 hqa2 hla2 h3) (fun l h4 => ?_)
  refine jg Y Y (zo Y Y Y (zo Y Y Y (jo Y Y (jo Y Y (jq (ji (jp ?_)))))))
  refine jr (jg Y Y (jc Y Y Y (fun _ _ => Jc Y Y) (jo Y Y (jq ?_))))
  refine ju Y (fun h5 => ?_) (fun h5 => ?_)
  ·replace hm := ifF (of_ndec_true h5) hm
   refine jr (jc Y Y Y (fun _ _ => k9 (vs := []) (cells := [_, _, _]) Y Y) (jg Y Y (kz (us := #[_, _, _]) (cs' := [_, _, _]) (S' := [_, _]) 0 (fun w => sizeOf55 w) Y Y Y Y Y Y Y (jo Y Y (jo Y Y (jq (jv ?_)))))))
   refine jJ (jh ?_)
   obtain rfl := sj hm
   refine jm Y (fun w hh => (.cell Y (loadVar_agg (vs := [_, _, _]) (isAgg55 _) (sizeOf55 _) (hh.cells 0 Y Y)) (.tmp Y (.tmp Y .nil)))) (fun w hh => ⟨(), rfl, trivial, hh.se [] [] 3 Y Y Y rfl⟩)
  replace hm := ifT (of_ndec_false h5) hm
  refine jr (jg Y Y (jc Y Y Y (fun _ _ => Ju Y Y) (jo Y Y (jq ?_))))
  refine ju Y (fun h6 => ?_) (fun h6 => ?_)
  ·replace hm := ifD h6 hm
   refine jr (jc Y Y Y (fun _ _ => k9 (vs := []) (cells := [_, _, _]) Y Y) (kz (us := #[_, _, _]) (cs' := [_, _, _]) (S' := [_, _]) 0 (fun w => sizeOf55 w) Y Y Y Y Y Y Y (jo Y Y (jo Y Y (jq (jv (jJ ?_)))))))
   refine jh ?_
   obtain rfl := sj hm
   refine jm Y (fun w hh => (.cell Y (loadVar_agg (vs := [_, _, _]) (isAgg55 _) (sizeOf55 _) (hh.cells 0 Y Y)) (.tmp Y (.tmp Y .nil)))) (fun w hh => ⟨(), rfl, trivial, hh.se [] [] 3 Y Y Y rfl⟩)
  replace hm := ifE h6 hm
  refine jr (jg Y Y (jc Y Y Y (fun _ _ => Ju Y Y) (jo Y Y (jq ?_))))
  refine ju Y (fun h7 => ?_) (fun h7 => ?_)
  ·replace hm := ifD h7 hm
   refine jr (jc Y Y Y (fun _ _ => k9 (vs := []) (cells := [_, _, _]) Y Y) (kz (us := #[_, _, _]) (cs' := [_, _, _]) (S' := [_, _]) 0 (fun w => sizeOf55 w) Y Y Y Y Y Y Y (jo Y Y (jo Y Y (jq (jv (jJ ?_)))))))
   refine jh ?_
   obtain rfl := sj hm
   refine jm Y (fun w hh => (.cell Y (loadVar_agg (vs := [_, _, _]) (isAgg55 _) (sizeOf55 _) (hh.cells 0 Y Y)) (.tmp Y (.tmp Y .nil)))) (fun w hh => ⟨(), rfl, trivial, hh.se [] [] 3 Y Y Y rfl⟩)
  replace hm := ifE h7 hm
  refine jt (jw (ja (jr (jc Y Y Y (fun _ _ => k9 (vs := []) (cells := [_, _, _]) Y Y) (jg Y Y ?_)))))
  obtain ⟨t33, h8, hm⟩ := bindO hm
  refine Kq h8 Y Y Y ?_
  refine js (fun w => zeroValue55 w) Y (fun b_2 h9 => ?_)
  refine kz (us := #[_, _, _]) (cs' := [_, _, _]) (S' := [_, _, _]) 0 (fun w => sizeOf55 w) Y Y Y Y Y Y Y (jo Y Y (jq (ji (jr (yD 0 runUnderlying26 Y sizeOf3 Y Y (yf 2 isAgg3 Y Y Y Y (jg Y Y ?_)))))))
  refine jq ?_
  obtain ⟨o, h10, h11⟩ := bindO hm
  refine j3 (ι := Unit) (fun l_1 => True) (fun l_1 => [(2, ptr b_1 0), (7, ptr b_2 0), (8, .int .i64 o.few8)]) (fun l_1 => [kc b_2 #[.int .i64 o.best7_after, .int .i64 o.best7_cell, .bool o.best7_upright] 55, kc b_1 #[.int .i64 0, .int .i64 0, .bool false] 55, kc b #[.int .i64 c0.cells, .int .i64 c0.tides, .slice qa0 na0 ca0, .slice qa1 na1 ca1, .slice qa2 na2 ca2] 26]) (fun l_1 => []) ?_ ?_
  ·replace hm := h10
   refine jp ?_
   refine kk (ι := Unit) hm (fun s l_2 => True) (fun s l_2 => [(1, ptr b 0), (2, ptr b_1 0), (5, .int .i64 t15.r0), (7, ptr b_2 0), (8, .int .i64 s.few8), (35, .int .i64 c0.cells), (36, .int .i64 s.t36)]) (fun s l_2 => [kc b_2 #[.int .i64 s.best7_after, .int .i64 s.best7_cell, .bool s.best7_upright] 55, kc b_1 #[.int .i64 0, .int .i64 0, .bool false] 55, kc b #[.int .i64 c0.cells, .int .i64 c0.tides, .slice qa0 na0 ca0, .slice qa1 na1 ca1, .slice qa2 na2 ca2] 26]) (fun s l_2 => []) () (trivial) (sE Y) (fun w hh => hh) (fun s l_2 r hpl hm h12 => ?_)
   unfold QY at hm
   refine jr (Kv Y Y Y (jq (ji ?_)))
   refine ju Y (fun h13 => ?_) (fun h13 => ?_)
   ·replace hm := ifD h13 hm
    refine jt (ja (ji ?_))
    obtain ⟨o_1, h14, h15⟩ := bindO hm
    refine j3 (ι := Unit) (fun l_3 => True) (fun l_3 => [(1, ptr b 0), (2, ptr b_1 0), (5, .int .i64 t15.r0), (7, ptr b_2 0), (8, .int .i64 o_1.few8), (35, .int .i64 c0.cells), (36, .int .i64 s.t36)]) (fun l_3 => [kc b_2 #[.int .i64 o_1.best7_after, .int .i64 o_1.best7_cell, .bool o_1.best7_upright] 55, kc b_1 #[.int .i64 0, .int .i64 0, .bool false] 55, kc b #[.int .i64 c0.cells, .int .i64 c0.tides, .slice qa0 na0 ca0, .slice qa1 na1 ca1, .slice qa2 na2 ca2] 26]) (fun l_3 => []) ?_ ?_
    ·replace hm := h14
     refine jp (jr (jg Y Y (jo Y Y (k7 (yD 1 runUnderlying26 Y sizeOf3 Y Y (yf 2 isAgg3 Y Y Y Y (jg Y Y ?_)))))))
     refine jc Y Y Y (fun _ _ => k9 (vs := [(0, _), (1, _), (2, _)]) (cells := [_, _, _]) Y Y) ?_
     refine js (fun w => zeroValue55 w) Y (fun b_3 h16 => ?_)
     refine kz (us := #[_, _, _]) (cs' := [_, _, _]) (S' := [_, _, _, _]) 0 (fun w => sizeOf55 w) Y Y Y Y Y Y Y (jq (ji ?_))
     refine ky none (.hoist 0 (.hoist 1 (.hoist 3 (.one 2 (.one 4 (.free 5 (.one 6 (.one 7 (.free 8 .done))))))))) _ Y (by decide +kernel) (fun w k hh => hh.draw k) (fun w hh => hh) ?_
     refine jy Y Y Y Y (fun w hh => jP (vs := [_, _, _, _, _]) (isAgg26 w) (sizeOf26 w) Y (hh.cells 3 Y Y)) (jy Y Y Y Y (fun w hh => jP (vs := [_, _, _]) (isAgg55 w) (sizeOf55 w) Y (hh.cells 0 Y Y)) (jy Y Y Y Y (fun w hh => jP (vs := [_, _, _, _, _]) (isAgg26 w) (sizeOf26 w) Y (hh.cells 3 Y Y)) (jA Y ?_)))
     obtain ⟨t45, h17, hm⟩ := bindO hm
     refine jd [] [] Y Y Y Y Y Y Y call110 (fun w hh => QO c0 (⟨c0.tides, s.t36, true⟩ : Sight) qa0 na0 ca0 qa1 na1 ca1 qa2 na2 ca2 w (HV.callee (S0 := []) (vs0 := []) hh (roR hh 0 Y (roR hh 1 Y (roR hh 2 Y roN)))) hna0 hqa0 hla0 hna1 hqa1 hla1 hna2 hqa2 hla2 h17) (fun l_4 h18 => ?_)
     obtain ⟨h19, h20, h21⟩ := h18
     refine jV (S' := [_, _, _, _]) (vs' := [_, _, _]) [0, 1, 2, 3] [0, 1, 2] 0 Y Y Y Y (jj (hsE [0, 1, 2, 3] [] 0 Y Y Y Y) (jA Y ?_))
     obtain ⟨t47, h22, hm⟩ := bindO hm
     refine jd [] [] Y Y Y Y Y Y Y call111 (fun w hh => JU c0 qa0 na0 ca0 qa1 na1 ca1 qa2 na2 ca2 w (HV.callee (S0 := []) (vs0 := []) hh (roR hh 0 Y (roR hh 1 Y (roR hh 2 Y roN)))) hna0 hqa0 hla0 hna1 hqa1 hla1 hna2 hqa2 hla2 h22) (fun l_5 h23 => ?_)
     have h24 := h23
     refine jV (S' := [_, _, _, _]) (vs' := [_, _, _, _]) [0, 1, 2, 3] [0, 1, 2, 3] 0 Y Y Y Y (jj (hsE [0, 1, 2, 3] [] 0 Y Y Y Y) (jn Y Y Y Y (fun _ _ => k9 (vs := [(0, _), (1, _)]) (cells := [_, _, _, _, _, _]) Y Y) (jA Y ?_)))
     refine jI Y Y (fun b_4 h25 => ?_)
     refine jj (hsE [1, 2, 3, 4] [] 0 Y Y Y Y) (jA Y ?_)
     obtain ⟨t50, h26, hm⟩ := bindO hm
     refine jd [] [] Y Y Y Y Y Y Y call94 (fun w hh => KN t45.cells t45.tides t45.fords t45.sands t45.sights t47 b_4 (qA l_4.1.q) l_4.1.n l_4.1.cap (qA l_4.2.1.q) l_4.2.1.n l_4.2.1.cap (qA l_4.2.2.q) l_4.2.2.n l_4.2.2.cap (qA l_5.q) l_5.n l_5.cap w (HV.callee (S0 := []) (vs0 := []) hh (roC (bsep (hh.bseg 0 Y)) (roC (hh.vsepA 1 Y h19) (roC (hh.vsepA 2 Y h20) (roC (hh.vsepA 3 Y h21) (roC (hh.vsepA 0 Y h24) roN)))))) (vlen RI h19 Y) (AOK.q (vne h19)) (h19).hle (vlen RSa h20 Y) (AOK.q (vne h20)) (h20).hle (vlen RSi h21 Y) (AOK.q (vne h21)) (h21).hle (vlen RI h24 Y) (AOK.q (vne h24)) (h24).hle h26) (fun l_6 h27 => ?_)
     refine jj (hsE [1, 2, 3, 4] [] 0 Y Y Y Y) (jn Y Y Y Y (fun _ _ => kM Y) (jM (ja (jr (jg Y Y (jg Y Y (jg Y Y ?_)))))))
     obtain ⟨t54, h28, hm⟩ := bindO hm
     refine jc Y Y Y (fun _ _ => zO h28 Y Y) (jc Y Y Y (fun _ _ => ZK Y Y) (jo Y Y (k7 (jg Y Y (jg Y Y (Kv Y Y Y (jq ?_)))))))
     refine ju Y (fun h29 => ?_) (fun h29 => ?_)
     ·replace hm := ifD h29 hm
      refine je (zX [_, _, _] 1 isAgg55 sizeOf55 Y Y Y Y (jg Y Y (kz (us := #[_, _, _]) (cs' := [_, _, _]) (S' := [_, _, _, _, _]) 2 (fun w => sizeOf55 w) Y Y Y Y Y Y Y (jo Y Y (jx (jw ?_))))))
      obtain rfl := sj hm
      exact jk () (trivial) (sE Y) (hsE [2, 3, 4] [] 0 Y Y Y Y)
     replace hm := ifE h29 hm
     refine jt (jw ?_)
     obtain rfl := sj hm
     exact jk () (trivial) (sE Y) (hsE [2, 3, 4] [] 0 Y Y Y Y)
    intro l_3 hj
    replace hm := h15
    refine ja (je ?_)
    obtain ⟨t61, h30, hm⟩ := bindO hm
    refine Kq h30 Y Y Y (jg Y Y (jx ?_))
    obtain rfl := sj hm
    refine ja ?_
    exact jN _ () Y (trivial) (sE Y) (fun w hh => hh)
   replace hm := ifE h13 hm
   refine kN (jl (jl (jO ?_)))
   obtain rfl := sj hm
   have hbo := h12 _ Y
   subst hbo
   exact jk () (trivial) (sE Y) (fun w hh => hh)
  intro l_1 hj
  replace hm := h11
  refine ja (jr (zX [_, _, _] 0 isAgg55 sizeOf55 Y Y Y Y (jg Y Y (kz (us := #[_, _, _]) (cs' := [_, _, _]) (S' := [_, _, _]) 1 (fun w => sizeOf55 w) Y Y Y Y Y Y Y (jo Y Y (jo Y Y (jq ?_)))))))
  refine jv ?_
  obtain rfl := sj hm
  refine jm Y (fun w hh => (.cell Y (loadVar_agg (vs := [_, _, _]) (isAgg55 _) (sizeOf55 _) (hh.cells 1 Y Y)) (.tmp Y (.tmp Y .nil)))) (fun w hh => ⟨(), rfl, trivial, hh.se [] [] 3 Y Y Y rfl⟩)
def zI  : Option Bool :=
 (kS 1 []).bind fun t18 =>
 (qL (⟨t18.r0_0, t18.r0_1, t18.r0_2, t18.r0_3, []⟩ : Channel)).bind fun t19 =>
 (kS 1 [(⟨1, 1, false⟩ : Sight)]).bind fun t25 =>
 (yR (⟨t25.r0_0, t25.r0_1, t25.r0_2, t25.r0_3, [(⟨1, 1, false⟩ : Sight)]⟩ : Channel) 1 0).bind fun t26 =>
 (kS 1 [(⟨1, 1, false⟩ : Sight)]).bind fun t32 =>
 (Qd (⟨t32.r0_0, t32.r0_1, t32.r0_2, t32.r0_3, [(⟨1, 1, false⟩ : Sight)]⟩ : Channel)).bind fun t33 =>
 (kS 1 [(⟨1, 1, false⟩ : Sight)]).bind fun t39 =>
 (Qg (⟨t39.r0_0, t39.r0_1, t39.r0_2, t39.r0_3, [(⟨1, 1, false⟩ : Sight)]⟩ : Channel) 0).bind fun t40 =>
 (if t19.r1 = 0 then
 (if t26.r1 = 0 then
 (if t33.r1 = 0 then
 (if t40.r1 = 0 then
 (if t19.r0 = 3 then
 ((JW t26.r0 [0, 2]).bind fun t64 =>
 if (!t64) = true then
 (some true) else
 ((Kl t33.r0 [2, 1]).bind fun t70 =>
 if (!t70) = true then
 (some true) else
 (some (!decide (t40.r0 = (⟨-1, 1⟩ : Span)))))) else
 (some true)) else
 (some true)) else
 (some true)) else
 (some true)) else
 (some true)).bind fun o =>
 if o = true then
 (some false) else
 ((kS 2 []).bind fun t79 =>
 (yR (⟨t79.r0_0, t79.r0_1, t79.r0_2, t79.r0_3, []⟩ : Channel) 2 0).bind fun t80 =>
 (kS 1 [(⟨1, 1, false⟩ : Sight)]).bind fun t86 =>
 (Qz (⟨t86.r0_0, t86.r0_1, t86.r0_2, t86.r0_3, [(⟨1, 1, false⟩ : Sight)]⟩ : Channel)).bind fun t87 =>
 (kS 1 [(⟨1, 1, false⟩ : Sight), (⟨1, 4, false⟩ : Sight)]).bind fun t95 =>
 (zq (⟨t95.r0_0, t95.r0_1, t95.r0_2, t95.r0_3, [(⟨1, 1, false⟩ : Sight), (⟨1, 4, false⟩ : Sight)]⟩ : Channel)).bind fun t96 =>
 (kS 1 [(⟨1, 1, false⟩ : Sight)]).bind fun t102 =>
 (Q0 (⟨t102.r0_0, t102.r0_1, t102.r0_2, t102.r0_3, [(⟨1, 1, false⟩ : Sight)]⟩ : Channel)).bind fun t103 =>
 (if t80.r1 = 0 then
 (if t87.r2 = 0 then
 (if t96.r1 = 0 then
 (if t103.r2 = 0 then
 ((JW t80.r0 [0, 1, 2, 3]).bind fun t124 =>
 if t124 = true then
 (if t87.r1 = 1 then
 ((JW t96.r0 [1]).bind fun t133 =>
 if t133 = true then
 (if t103.r0 = (⟨1, 0, true⟩ : Sight) then
 (some (decide (t103.r1 = 1))) else
 (some false)) else
 (some false)) else
 (some false)) else
 (some false)) else
 (some false)) else
 (some false)) else
 (some false)) else
 (some false)).bind fun o_1 =>
 some o_1)
theorem Yp   (w : World) (hw : HV w (keys [] []) [] [] [] w)  {res : Bool} (hm : zI  = some res) :
    Calls Tryz.prog 19 #[] w (fun en w' => ∃ l : Unit, en = .returned (.bool res) ∧ (True) ∧ HV w (keys [] []) [] [] [] w') := by
  unfold zI at hm
  refine yr func19 Y ntmps19 Y (e := []) Y hw (jr (jo Y Y (k7 (jc Y Y Y (fun _ _ => k9 (vs := [(0, _), (1, _)]) (cells := [_, _, _]) Y Y) ?_))))
  refine js (fun w => zeroValue55 w) Y (fun b h1 => ?_)
  refine kz (us := #[_, _, _]) (cs' := [_, _, _]) (S' := [_]) 0 (fun w => sizeOf55 w) Y Y Y Y Y Y Y (k7 ?_)
  obtain ⟨t18, h2, hm⟩ := bindO hm
  refine jd [] [] Y Y Y Y Y Y Y call70 (fun w hh => qI 1 [] none 0 0 w (HV.callee (S0 := []) (vs0 := []) hh (roC ⟨segOK.nil, fun hx => absurd Y hx⟩ roN)) Y AOK.nil (Nat.le_refl 0) h2) (fun l h3 => ?_)
  obtain ⟨h4, h5⟩ := h3
  refine jV (S' := [_]) (vs' := [_, _]) [0] [0, 1] 0 Y Y Y Y ?_
  obtain ⟨t19, h6, hm⟩ := bindO hm
  refine jd [] [] Y Y Y Y Y Y Y call26 (fun w hh => Jz (⟨t18.r0_0, t18.r0_1, t18.r0_2, t18.r0_3, []⟩ : Channel) (qA l.1.q) l.1.n l.1.cap (qA l.2.q) l.2.n l.2.cap none 0 0 w (HV.callee (S0 := []) (vs0 := []) hh (roC (hh.vsepA 0 Y h4) (roC (hh.vsepA 1 Y h5) (roC ⟨segOK.nil, fun hx => absurd Y hx⟩ roN)))) (vlen RI h4 Y) (AOK.q (vne h4)) (h4).hle (vlen RSa h5 Y) (AOK.q (vne h5)) (h5).hle Y AOK.nil (Nat.le_refl 0) h6) (fun l_1 h7 => ?_)
  refine jg Y Y (zo Y Y Y (zo Y Y Y (jo Y Y (jo Y Y (k7 (zX [_, _, _] 0 isAgg55 sizeOf55 Y Y Y Y ?_))))))
  refine qE RSi [(⟨1, 1, false⟩ : Sight)] (ps := [(0, _)]) (cells := [_, _, _]) (fun w => runUnderlying24 w) (fun w => sizeOf55 w) (fun w => zeroValue55 w) Y Y Y Y Y Y Y Y (fun L h8 => ?_)
  obtain ⟨t25, h9, hm⟩ := bindO hm
  refine jd [] [] Y Y Y Y Y Y Y call70 (fun w hh => qI 1 [(⟨1, 1, false⟩ : Sight)] (qA L.q) L.n L.cap w (HV.callee (S0 := []) (vs0 := []) hh (roC (hh.vsepA 0 Y h8) roN)) (vlen RSi h8 Y) (AOK.q (vne h8)) (h8).hle h9) (fun l_2 h10 => ?_)
  obtain ⟨h11, h12⟩ := h10
  refine jV (S' := [_]) (vs' := [_, _, _, _, _]) [0] [0, 1, 2, 3, 4] 0 Y Y Y Y ?_
  obtain ⟨t26, h13, hm⟩ := bindO hm
  refine jd [] [] Y Y Y Y Y Y Y call42 (fun w hh => Kp (⟨t25.r0_0, t25.r0_1, t25.r0_2, t25.r0_3, [(⟨1, 1, false⟩ : Sight)]⟩ : Channel) 1 0 (qA l_2.1.q) l_2.1.n l_2.1.cap (qA l_2.2.q) l_2.2.n l_2.2.cap (qA L.q) L.n L.cap w (HV.callee (S0 := []) (vs0 := []) hh (roC (hh.vsepA 0 Y h11) (roC (hh.vsepA 1 Y h12) (roC (hh.vsepA 2 Y h8) roN)))) (vlen RI h11 Y) (AOK.q (vne h11)) (h11).hle (vlen RSa h12 Y) (AOK.q (vne h12)) (h12).hle (vlen RSi h8 Y) (AOK.q (vne h8)) (h8).hle h13) (fun l_3 h14 => ?_)
  have h15 := h14
  refine jV (S' := [_]) (vs' := [_, _, _, _, _, _]) [0] [0, 1, 2, 3, 4, 5] 0 Y Y Y Y (jg Y Y (zo Y Y Y (zo Y Y Y (jo Y Y (jo Y Y (k7 (zX [_, _, _] 0 isAgg55 sizeOf55 Y Y Y Y ?_)))))))
  refine qE RSi [(⟨1, 1, false⟩ : Sight)] (ps := [(0, _)]) (cells := [_, _, _]) (fun w => runUnderlying24 w) (fun w => sizeOf55 w) (fun w => zeroValue55 w) Y Y Y Y Y Y Y Y (fun L_1 h16 => ?_)
  obtain ⟨t32, h17, hm⟩ := bindO hm
  refine jd [] [] Y Y Y Y Y Y Y call70 (fun w hh => qI 1 [(⟨1, 1, false⟩ : Sight)] (qA L_1.q) L_1.n L_1.cap w (HV.callee (S0 := []) (vs0 := []) hh (roC (hh.vsepA 0 Y h16) roN)) (vlen RSi h16 Y) (AOK.q (vne h16)) (h16).hle h17) (fun l_4 h18 => ?_)
  obtain ⟨h19, h20⟩ := h18
  refine jV (S' := [_]) (vs' := [_, _, _, _, _, _, _, _, _]) [0] [0, 1, 2, 3, 4, 5, 6, 7, 8] 0 Y Y Y Y ?_
  obtain ⟨t33, h21, hm⟩ := bindO hm
  refine jd [] [] Y Y Y Y Y Y Y call36 (fun w hh => Zg (⟨t32.r0_0, t32.r0_1, t32.r0_2, t32.r0_3, [(⟨1, 1, false⟩ : Sight)]⟩ : Channel) (qA l_4.1.q) l_4.1.n l_4.1.cap (qA l_4.2.q) l_4.2.n l_4.2.cap (qA L_1.q) L_1.n L_1.cap w (HV.callee (S0 := []) (vs0 := []) hh (roC (hh.vsepA 0 Y h19) (roC (hh.vsepA 1 Y h20) (roC (hh.vsepA 2 Y h16) roN)))) (vlen RI h19 Y) (AOK.q (vne h19)) (h19).hle (vlen RSa h20 Y) (AOK.q (vne h20)) (h20).hle (vlen RSi h16 Y) (AOK.q (vne h16)) (h16).hle h21) (fun l_5 h22 => ?_)
  have h23 := h22
  refine jV (S' := [_]) (vs' := [_, _, _, _, _, _, _, _, _, _]) [0] [0, 1, 2, 3, 4, 5, 6, 7, 8, 9] 0 Y Y Y Y (jg Y Y (zo Y Y Y (zo Y Y Y (jo Y Y (jo Y Y (k7 (zX [_, _, _] 0 isAgg55 sizeOf55 Y Y Y Y ?_)))))))
  refine qE RSi [(⟨1, 1, false⟩ : Sight)] (ps := [(0, _)]) (cells := [_, _, _]) (fun w => runUnderlying24 w) (fun w => sizeOf55 w) (fun w => zeroValue55 w) Y Y Y Y Y Y Y Y (fun L_2 h24 => ?_)
  obtain ⟨t39, h25, hm⟩ := bindO hm
  refine jd [] [] Y Y Y Y Y Y Y call70 (fun w hh => qI 1 [(⟨1, 1, false⟩ : Sight)] (qA L_2.q) L_2.n L_2.cap w (HV.callee (S0 := []) (vs0 := []) hh (roC (hh.vsepA 0 Y h24) roN)) (vlen RSi h24 Y) (AOK.q (vne h24)) (h24).hle h25) (fun l_6 h26 => ?_)
  obtain ⟨h27, h28⟩ := h26
  refine jV (S' := [_]) (vs' := [_, _, _, _, _, _, _, _, _, _, _, _, _]) [0] [0, 1, 2, 3, 4, 5, 6, 7, 8, 9, 10, 11, 12] 0 Y Y Y Y ?_
  obtain ⟨t40, h29, hm⟩ := bindO hm
  refine jd [] [] Y Y Y Y Y Y Y call37 (fun w hh => Ze (⟨t39.r0_0, t39.r0_1, t39.r0_2, t39.r0_3, [(⟨1, 1, false⟩ : Sight)]⟩ : Channel) 0 (qA l_6.1.q) l_6.1.n l_6.1.cap (qA l_6.2.q) l_6.2.n l_6.2.cap (qA L_2.q) L_2.n L_2.cap w (HV.callee (S0 := []) (vs0 := []) hh (roC (hh.vsepA 0 Y h27) (roC (hh.vsepA 1 Y h28) (roC (hh.vsepA 2 Y h24) roN)))) (vlen RI h27 Y) (AOK.q (vne h27)) (h27).hle (vlen RSa h28 Y) (AOK.q (vne h28)) (h28).hle (vlen RSi h24 Y) (AOK.q (vne h24)) (h24).hle h29) (fun l_7 h30 => ?_)
  refine jg Y Y (zo Y Y Y (zo Y Y Y ?_))
  refine js (fun w => zeroValue50 w) Y (fun b_1 h31 => ?_)
  refine kz (us := #[_, _]) (cs' := [_, _]) (S' := [_, _]) 0 (fun w => sizeOf50 w) Y Y Y Y Y Y Y (jo Y Y (jq (ji (ji ?_))))
  obtain ⟨o, h32, h33⟩ := bindO hm
  refine j3 (ι := Unit) (fun l_8 => True) (fun l_8 => [(1, ptr b 0), (77, .bool o)]) (fun l_8 => [kc b_1 #[.int .i64 t40.r0.lo, .int .i64 t40.r0.hi] 50, kc b #[.int .i64 1, .int .i64 1, .bool false] 55]) (fun l_8 => []) ?_ ?_
  ·replace hm := h32
   refine je (jg Y Y (jc Y Y Y (fun _ _ => Jc Y Y) (jg Y Y ?_)))
   refine j4 45 Y (fun h34 => ?_) (fun h34 => ?_)
   ·replace hm := ifF (of_ndec_true h34) hm
    refine g_k Y Y Y Y (g_k Y Y Y Y (yy Y Y Y (jg Y Y (g_k Y Y Y Y (g_k Y Y Y Y (yy Y Y Y (jg Y Y ?_)))))))
    refine g_k Y Y Y Y (g_k Y Y Y Y (yy Y Y Y (jg Y Y (g_k Y Y Y Y (g_k Y Y Y Y (yy Y Y Y (jg Y Y ?_)))))))
    refine g_k Y Y Y Y (g_k Y Y Y Y (g_k Y Y Y Y (g_k Y Y Y Y (yy Y Y Y (jg Y Y (g_k Y Y Y Y (g_k Y Y Y Y ?_)))))))
    refine g_k Y Y Y Y (g_k Y Y Y Y (yy Y Y Y (jg Y Y (g_k Y Y Y Y (g_k Y Y Y Y (g_k Y Y Y Y (yy Y Y Y ?_)))))))
    refine jx ?_
    obtain rfl := sj hm
    exact jk () (trivial) (sE Y) (hsE [0, 1] [] 0 Y Y Y Y)
   replace hm := ifT (of_ndec_false h34) hm
   refine jb Y Y (jg Y Y (jb Y Y (jc Y Y Y (fun _ _ => Jc Y Y) (zu Y Y Y (jg Y Y ?_)))))
   refine j4 49 Y (fun h35 => ?_) (fun h35 => ?_)
   ·replace hm := ifF (of_ndec_true h35) hm
    refine g_k Y Y Y Y (g_k Y Y Y Y (yy Y Y Y (jg Y Y (g_k Y Y Y Y (g_k Y Y Y Y (yy Y Y Y (jg Y Y ?_)))))))
    refine g_k Y Y Y Y (g_k Y Y Y Y (yy Y Y Y (jg Y Y (g_k Y Y Y Y (g_k Y Y Y Y (g_k Y Y Y Y (g_k Y Y Y Y ?_)))))))
    refine yy Y Y Y (jg Y Y (g_k Y Y Y Y (g_k Y Y Y Y (g_k Y Y Y Y (g_k Y Y Y Y (yy Y Y Y (jg Y Y ?_)))))))
    refine g_k Y Y Y Y (g_k Y Y Y Y (g_k Y Y Y Y (yy Y Y Y (jx ?_))))
    obtain rfl := sj hm
    exact jk () (trivial) (sE Y) (hsE [0, 1] [] 0 Y Y Y Y)
   replace hm := ifT (of_ndec_false h35) hm
   refine jb Y Y (jg Y Y (jb Y Y (jc Y Y Y (fun _ _ => Jc Y Y) (zu Y Y Y (jg Y Y ?_)))))
   refine j4 53 Y (fun h36 => ?_) (fun h36 => ?_)
   ·replace hm := ifF (of_ndec_true h36) hm
    refine g_k Y Y Y Y (g_k Y Y Y Y (yy Y Y Y (jg Y Y (g_k Y Y Y Y (g_k Y Y Y Y (yy Y Y Y (jg Y Y ?_)))))))
    refine g_k Y Y Y Y (g_k Y Y Y Y (g_k Y Y Y Y (g_k Y Y Y Y (yy Y Y Y (jg Y Y (g_k Y Y Y Y (g_k Y Y Y Y ?_)))))))
    refine g_k Y Y Y Y (g_k Y Y Y Y (yy Y Y Y (jg Y Y (g_k Y Y Y Y (g_k Y Y Y Y (g_k Y Y Y Y (yy Y Y Y ?_)))))))
    refine jx ?_
    obtain rfl := sj hm
    exact jk () (trivial) (sE Y) (hsE [0, 1] [] 0 Y Y Y Y)
   replace hm := ifT (of_ndec_false h36) hm
   refine jb Y Y (jg Y Y (jb Y Y (jc Y Y Y (fun _ _ => Jc Y Y) (zu Y Y Y (jg Y Y ?_)))))
   refine j4 57 Y (fun h37 => ?_) (fun h37 => ?_)
   ·replace hm := ifF (of_ndec_true h37) hm
    refine g_k Y Y Y Y (g_k Y Y Y Y (yy Y Y Y (jg Y Y (g_k Y Y Y Y (g_k Y Y Y Y (g_k Y Y Y Y (g_k Y Y Y Y ?_)))))))
    refine yy Y Y Y (jg Y Y (g_k Y Y Y Y (g_k Y Y Y Y (g_k Y Y Y Y (g_k Y Y Y Y (yy Y Y Y (jg Y Y ?_)))))))
    refine g_k Y Y Y Y (g_k Y Y Y Y (g_k Y Y Y Y (yy Y Y Y (jx ?_))))
    obtain rfl := sj hm
    exact jk () (trivial) (sE Y) (hsE [0, 1] [] 0 Y Y Y Y)
   replace hm := ifT (of_ndec_false h37) hm
   refine jb Y Y (jg Y Y (jb Y Y (jc Y Y Y (fun _ _ => Jc Y Y) (zu Y Y Y (jg Y Y ?_)))))
   refine j4 61 Y (fun h38 => ?_) (fun h38 => ?_)
   ·replace hm := ifF (of_ndec_true h38) hm
    refine g_k Y Y Y Y (g_k Y Y Y Y (g_k Y Y Y Y (g_k Y Y Y Y (yy Y Y Y (jg Y Y (g_k Y Y Y Y (g_k Y Y Y Y ?_)))))))
    refine g_k Y Y Y Y (g_k Y Y Y Y (yy Y Y Y (jg Y Y (g_k Y Y Y Y (g_k Y Y Y Y (g_k Y Y Y Y (yy Y Y Y ?_)))))))
    refine jx ?_
    obtain rfl := sj hm
    exact jk () (trivial) (sE Y) (hsE [0, 1] [] 0 Y Y Y Y)
   replace hm := ifT (of_ndec_false h38) hm
   refine jb Y Y (jg Y Y (jb Y Y ?_))
   refine qE RI [0, 2] (ps := [(0, _), (1, _)]) (cells := [_, _]) (fun w => runUnderlying22 w) (fun w => sizeOf3 w) (fun w => zeroValue3 w) Y Y Y Y Y Y Y Y (fun L_3 h39 => ?_)
   refine jb Y Y ?_
   obtain ⟨t64, h40, hm⟩ := bindO hm
   refine jd [] [] Y Y Y Y Y Y Y call45 (fun w hh => Q9 t26.r0 [0, 2] (qA l_3.q) l_3.n l_3.cap (qA L_3.q) L_3.n L_3.cap w (HV.callee (S0 := []) (vs0 := []) hh (roC (hh.vsepA 8 Y h15) (roC (hh.vsepA 0 Y h39) roN))) (vlen RI h15 Y) (AOK.q (vne h15)) (h15).hle (vlen RI h39 Y) (AOK.q (vne h39)) (h39).hle h40) (fun l_9 h41 => ?_)
   refine jb Y Y (jc Y Y Y (fun _ _ => zt Y) (zu Y Y Y (jg Y Y ?_)))
   refine j4 67 Y (fun h42 => ?_) (fun h42 => ?_)
   ·replace hm := ifT (h42) hm
    refine g_k Y Y Y Y (g_k Y Y Y Y (g_k Y Y Y Y (g_k Y Y Y Y (yy Y Y Y (jg Y Y (g_k Y Y Y Y (g_k Y Y Y Y ?_)))))))
    refine g_k Y Y Y Y (yy Y Y Y (jx ?_))
    obtain rfl := sj hm
    exact jk () (trivial) (sE Y) (hsE [0, 1] [] 0 Y Y Y Y)
   replace hm := ifN h42 hm
   refine jb Y Y (jg Y Y (jb Y Y ?_))
   refine qE RI [2, 1] (ps := [(0, _), (1, _)]) (cells := [_, _]) (fun w => runUnderlying58 w) (fun w => sizeOf66 w) (fun w => zeroValue66 w) Y Y Y Y Y Y Y Y (fun L_4 h43 => ?_)
   refine jb Y Y ?_
   obtain ⟨t70, h44, hm⟩ := bindO hm
   refine jd [] [] Y Y Y Y Y Y Y call85 (fun w hh => YK t33.r0 [2, 1] (qA l_5.q) l_5.n l_5.cap (qA L_4.q) L_4.n L_4.cap w (HV.callee (S0 := []) (vs0 := []) hh (roC (hh.vsepA 5 Y h23) (roC (hh.vsepA 0 Y h43) roN))) (vlen RI h23 Y) (AOK.q (vne h23)) (h23).hle (vlen RI h43 Y) (AOK.q (vne h43)) (h43).hle h44) (fun l_10 h45 => ?_)
   refine jb Y Y (jc Y Y Y (fun _ _ => zt Y) (zu Y Y Y (jg Y Y ?_)))
   refine j4 73 Y (fun h46 => ?_) (fun h46 => ?_)
   ·replace hm := ifT (h46) hm
    refine g_k Y Y Y Y (g_k Y Y Y Y (g_k Y Y Y Y (yy Y Y Y (jx ?_))))
    obtain rfl := sj hm
    exact jk () (trivial) (sE Y) (hsE [0, 1] [] 0 Y Y Y Y)
   replace hm := ifN h46 hm
   refine jb Y Y (zX [_, _] 0 isAgg50 sizeOf50 Y Y Y Y (jb Y Y (jc Y Y Y (fun _ _ => k9 (vs := [(0, _), (1, _)]) (cells := [_, _]) Y Y) (jb Y Y (jc Y Y Y (fun w _ => jaA (ja3 t40.r0 (⟨-1, 1⟩ : Span) w) jaR Y Y) (zu Y Y Y (jx ?_)))))))
   obtain rfl := sj hm
   exact jk () (trivial) (sE Y) (hsE [0, 1] [] 0 Y Y Y Y)
  intro l_8 hj
  replace hm := h33
  refine ja ?_
  refine ju Y (fun h47 => ?_) (fun h47 => ?_)
  ·replace hm := ifT (h47) hm
   refine jr (jo Y Y (jq (jv (jh ?_))))
   obtain rfl := sj hm
   refine jm Y (fun w hh => (.tmp Y .nil)) (fun w hh => ⟨(), rfl, trivial, hh.se [] [] 0 Y Y Y rfl⟩)
  replace hm := ifN h47 hm
  refine jt (ja (jr ?_))
  obtain ⟨t79, h48, hm⟩ := bindO hm
  refine jd [] [] Y Y Y Y Y Y Y call70 (fun w hh => qI 2 [] none 0 0 w (HV.callee (S0 := []) (vs0 := []) hh (roC ⟨segOK.nil, fun hx => absurd Y hx⟩ roN)) Y AOK.nil (Nat.le_refl 0) h48) (fun l_11 h49 => ?_)
  obtain ⟨h50, h51⟩ := h49
  refine jV (S' := [_, _]) (vs' := [_, _]) [0, 1] [0, 1] 0 Y Y Y Y ?_
  obtain ⟨t80, h52, hm⟩ := bindO hm
  refine jd [] [] Y Y Y Y Y Y Y call42 (fun w hh => Kp (⟨t79.r0_0, t79.r0_1, t79.r0_2, t79.r0_3, []⟩ : Channel) 2 0 (qA l_11.1.q) l_11.1.n l_11.1.cap (qA l_11.2.q) l_11.2.n l_11.2.cap none 0 0 w (HV.callee (S0 := []) (vs0 := []) hh (roC (hh.vsepA 0 Y h50) (roC (hh.vsepA 1 Y h51) (roC ⟨segOK.nil, fun hx => absurd Y hx⟩ roN)))) (vlen RI h50 Y) (AOK.q (vne h50)) (h50).hle (vlen RSa h51 Y) (AOK.q (vne h51)) (h51).hle Y AOK.nil (Nat.le_refl 0) h52) (fun l_12 h53 => ?_)
  have h54 := h53
  refine jV (S' := [_, _]) (vs' := [_, _, _]) [0, 1] [0, 1, 2] 0 Y Y Y Y (jg Y Y (zo Y Y Y (zo Y Y Y (jo Y Y (jo Y Y (k7 (zX [_, _, _] 1 isAgg55 sizeOf55 Y Y Y Y ?_)))))))
  refine qE RSi [(⟨1, 1, false⟩ : Sight)] (ps := [(0, _)]) (cells := [_, _, _]) (fun w => runUnderlying24 w) (fun w => sizeOf55 w) (fun w => zeroValue55 w) Y Y Y Y Y Y Y Y (fun L_5 h55 => ?_)
  obtain ⟨t86, h56, hm⟩ := bindO hm
  refine jd [] [] Y Y Y Y Y Y Y call70 (fun w hh => qI 1 [(⟨1, 1, false⟩ : Sight)] (qA L_5.q) L_5.n L_5.cap w (HV.callee (S0 := []) (vs0 := []) hh (roC (hh.vsepA 0 Y h55) roN)) (vlen RSi h55 Y) (AOK.q (vne h55)) (h55).hle h56) (fun l_13 h57 => ?_)
  obtain ⟨h58, h59⟩ := h57
  refine jV (S' := [_, _]) (vs' := [_, _, _, _, _, _]) [0, 1] [0, 1, 2, 3, 4, 5] 0 Y Y Y Y ?_
  obtain ⟨t87, h60, hm⟩ := bindO hm
  refine jd [] [] Y Y Y Y Y Y Y call28 (fun w hh => ZA (⟨t86.r0_0, t86.r0_1, t86.r0_2, t86.r0_3, [(⟨1, 1, false⟩ : Sight)]⟩ : Channel) (qA l_13.1.q) l_13.1.n l_13.1.cap (qA l_13.2.q) l_13.2.n l_13.2.cap (qA L_5.q) L_5.n L_5.cap w (HV.callee (S0 := []) (vs0 := []) hh (roC (hh.vsepA 0 Y h58) (roC (hh.vsepA 1 Y h59) (roC (hh.vsepA 2 Y h55) roN)))) (vlen RI h58 Y) (AOK.q (vne h58)) (h58).hle (vlen RSa h59 Y) (AOK.q (vne h59)) (h59).hle (vlen RSi h55 Y) (AOK.q (vne h55)) (h55).hle h60) (fun l_14 h61 => ?_)
  obtain ⟨h62, h63⟩ := h61
  refine jV (S' := [_, _]) (vs' := [_, _, _, _, _, _, _]) [0, 1] [0, 1, 2, 3, 4, 5, 6] 0 Y Y Y Y (jg Y Y (zo Y Y Y (zo Y Y Y (zo Y Y Y (jo Y Y (jo Y Y (jo Y Y ?_)))))))
  refine k7 (zX [_, _, _] 1 isAgg55 sizeOf55 Y Y Y Y (jc Y Y Y (fun _ _ => k9 (vs := [(0, _), (1, _)]) (cells := [_, _, _]) Y Y) ?_))
  refine qE RSi [(⟨1, 1, false⟩ : Sight), (⟨1, 4, false⟩ : Sight)] (ps := [(0, _), (1, _)]) (cells := [_, _, _, _, _, _]) (fun w => runUnderlying24 w) (fun w => sizeOf55 w) (fun w => zeroValue55 w) Y Y Y Y Y Y Y Y (fun L_6 h64 => ?_)
  obtain ⟨t95, h65, hm⟩ := bindO hm
  refine jd [] [] Y Y Y Y Y Y Y call70 (fun w hh => qI 1 [(⟨1, 1, false⟩ : Sight), (⟨1, 4, false⟩ : Sight)] (qA L_6.q) L_6.n L_6.cap w (HV.callee (S0 := []) (vs0 := []) hh (roC (hh.vsepA 0 Y h64) roN)) (vlen RSi h64 Y) (AOK.q (vne h64)) (h64).hle h65) (fun l_15 h66 => ?_)
  obtain ⟨h67, h68⟩ := h66
  refine jV (S' := [_, _]) (vs' := [_, _, _, _, _, _, _, _, _, _]) [0, 1] [0, 1, 2, 3, 4, 5, 6, 7, 8, 9] 0 Y Y Y Y ?_
  obtain ⟨t96, h69, hm⟩ := bindO hm
  refine jd [] [] Y Y Y Y Y Y Y call52 (fun w hh => Qb (⟨t95.r0_0, t95.r0_1, t95.r0_2, t95.r0_3, [(⟨1, 1, false⟩ : Sight), (⟨1, 4, false⟩ : Sight)]⟩ : Channel) (qA l_15.1.q) l_15.1.n l_15.1.cap (qA l_15.2.q) l_15.2.n l_15.2.cap (qA L_6.q) L_6.n L_6.cap w (HV.callee (S0 := []) (vs0 := []) hh (roC (hh.vsepA 0 Y h67) (roC (hh.vsepA 1 Y h68) (roC (hh.vsepA 2 Y h64) roN)))) (vlen RI h67 Y) (AOK.q (vne h67)) (h67).hle (vlen RSa h68 Y) (AOK.q (vne h68)) (h68).hle (vlen RSi h64 Y) (AOK.q (vne h64)) (h64).hle h69) (fun l_16 h70 => ?_)
  have h71 := h70
  refine jV (S' := [_, _]) (vs' := [_, _, _, _, _, _, _, _, _, _, _]) [0, 1] [0, 1, 2, 3, 4, 5, 6, 7, 8, 9, 10] 0 Y Y Y Y (jg Y Y (zo Y Y Y (zo Y Y Y (jo Y Y (jo Y Y (k7 (zX [_, _, _] 1 isAgg55 sizeOf55 Y Y Y Y ?_)))))))
  refine qE RSi [(⟨1, 1, false⟩ : Sight)] (ps := [(0, _)]) (cells := [_, _, _]) (fun w => runUnderlying24 w) (fun w => sizeOf55 w) (fun w => zeroValue55 w) Y Y Y Y Y Y Y Y (fun L_7 h72 => ?_)
  obtain ⟨t102, h73, hm⟩ := bindO hm
  refine jd [] [] Y Y Y Y Y Y Y call70 (fun w hh => qI 1 [(⟨1, 1, false⟩ : Sight)] (qA L_7.q) L_7.n L_7.cap w (HV.callee (S0 := []) (vs0 := []) hh (roC (hh.vsepA 0 Y h72) roN)) (vlen RSi h72 Y) (AOK.q (vne h72)) (h72).hle h73) (fun l_17 h74 => ?_)
  obtain ⟨h75, h76⟩ := h74
  refine jV (S' := [_, _]) (vs' := [_, _, _, _, _, _, _, _, _, _, _, _, _, _]) [0, 1] [0, 1, 2, 3, 4, 5, 6, 7, 8, 9, 10, 11, 12, 13] 0 Y Y Y Y ?_
  obtain ⟨t103, h77, hm⟩ := bindO hm
  refine jd [] [] Y Y Y Y Y Y Y call39 (fun w hh => ZI (⟨t102.r0_0, t102.r0_1, t102.r0_2, t102.r0_3, [(⟨1, 1, false⟩ : Sight)]⟩ : Channel) (qA l_17.1.q) l_17.1.n l_17.1.cap (qA l_17.2.q) l_17.2.n l_17.2.cap (qA L_7.q) L_7.n L_7.cap w (HV.callee (S0 := []) (vs0 := []) hh (roC (hh.vsepA 0 Y h75) (roC (hh.vsepA 1 Y h76) (roC (hh.vsepA 2 Y h72) roN)))) (vlen RI h75 Y) (AOK.q (vne h75)) (h75).hle (vlen RSa h76 Y) (AOK.q (vne h76)) (h76).hle (vlen RSi h72 Y) (AOK.q (vne h72)) (h72).hle h77) (fun l_18 h78 => ?_)
  refine jg Y Y (zo Y Y Y (zo Y Y Y (zo Y Y Y ?_)))
  refine js (fun w => zeroValue55 w) Y (fun b_2 h79 => ?_)
  refine kz (us := #[_, _, _]) (cs' := [_, _, _]) (S' := [_, _, _]) 0 (fun w => sizeOf55 w) Y Y Y Y Y Y Y (jo Y Y (jo Y Y (jq (ji ?_))))
  obtain ⟨o_1, h80, h81⟩ := bindO hm
  refine j3 (ι := Unit) (fun l_19 => True) (fun l_19 => [(0, .bool o_1)]) (fun l_19 => [kc b_2 #[.int .i64 t103.r0.after, .int .i64 t103.r0.cell, .bool t103.r0.upright] 55, kc b_1 #[.int .i64 t40.r0.lo, .int .i64 t40.r0.hi] 50, kc b #[.int .i64 1, .int .i64 1, .bool false] 55]) (fun l_19 => []) ?_ ?_
  ·replace hm := h80
   refine je (jg Y Y (jc Y Y Y (fun _ _ => Ju Y Y) (jg Y Y ?_)))
   refine j4 109 Y (fun h82 => ?_) (fun h82 => ?_)
   ·replace hm := ifD h82 hm
    refine jb Y Y (jg Y Y (jb Y Y (jc Y Y Y (fun _ _ => Ju Y Y) (yy Y Y Y (jg Y Y ?_)))))
    refine j4 113 Y (fun h83 => ?_) (fun h83 => ?_)
    ·replace hm := ifD h83 hm
     refine jb Y Y (jg Y Y (jb Y Y (jc Y Y Y (fun _ _ => Ju Y Y) (yy Y Y Y (jg Y Y ?_)))))
     refine j4 117 Y (fun h84 => ?_) (fun h84 => ?_)
     ·replace hm := ifD h84 hm
      refine jb Y Y (jg Y Y (jb Y Y (jc Y Y Y (fun _ _ => Ju Y Y) (yy Y Y Y (jg Y Y ?_)))))
      refine j4 121 Y (fun h85 => ?_) (fun h85 => ?_)
      ·replace hm := ifD h85 hm
       refine jb Y Y (jg Y Y (jb Y Y ?_))
       refine qE RI [0, 1, 2, 3] (ps := [(0, _), (1, _), (2, _), (3, _)]) (cells := [_, _, _, _]) (fun w => runUnderlying22 w) (fun w => sizeOf3 w) (fun w => zeroValue3 w) Y Y Y Y Y Y Y Y (fun L_8 h86 => ?_)
       refine jb Y Y ?_
       obtain ⟨t124, h87, hm⟩ := bindO hm
       refine jd [] [] Y Y Y Y Y Y Y call45 (fun w hh => Q9 t80.r0 [0, 1, 2, 3] (qA l_12.q) l_12.n l_12.cap (qA L_8.q) L_8.n L_8.cap w (HV.callee (S0 := []) (vs0 := []) hh (roC (hh.vsepA 12 Y h54) (roC (hh.vsepA 0 Y h86) roN))) (vlen RI h54 Y) (AOK.q (vne h54)) (h54).hle (vlen RI h86 Y) (AOK.q (vne h86)) (h86).hle h87) (fun l_20 h88 => ?_)
       refine yy Y Y Y (jg Y Y ?_)
       refine j4 126 Y (fun h89 => ?_) (fun h89 => ?_)
       ·replace hm := ifT (h89) hm
        refine jb Y Y (jg Y Y (jb Y Y (jc Y Y Y (fun _ _ => Ju Y Y) (yy Y Y Y (jg Y Y ?_)))))
        refine j4 130 Y (fun h90 => ?_) (fun h90 => ?_)
        ·replace hm := ifD h90 hm
         refine jb Y Y (jg Y Y (jb Y Y ?_))
         refine qE RI [1] (ps := [(0, _)]) (cells := [_]) (fun w => runUnderlying22 w) (fun w => sizeOf3 w) (fun w => zeroValue3 w) Y Y Y Y Y Y Y Y (fun L_9 h91 => ?_)
         refine jb Y Y ?_
         obtain ⟨t133, h92, hm⟩ := bindO hm
         refine jd [] [] Y Y Y Y Y Y Y call45 (fun w hh => Q9 t96.r0 [1] (qA l_16.q) l_16.n l_16.cap (qA L_9.q) L_9.n L_9.cap w (HV.callee (S0 := []) (vs0 := []) hh (roC (hh.vsepA 5 Y h71) (roC (hh.vsepA 0 Y h91) roN))) (vlen RI h71 Y) (AOK.q (vne h71)) (h71).hle (vlen RI h91 Y) (AOK.q (vne h91)) (h91).hle h92) (fun l_21 h93 => ?_)
         refine yy Y Y Y (jg Y Y ?_)
         refine j4 135 Y (fun h94 => ?_) (fun h94 => ?_)
         ·replace hm := ifT (h94) hm
          refine jb Y Y (zX [_, _, _] 0 isAgg55 sizeOf55 Y Y Y Y (jb Y Y (jc Y Y Y (fun _ _ => k9 (vs := [(0, _), (1, _), (2, _)]) (cells := [_, _, _]) Y Y) (jb Y Y (jc Y Y Y (fun w _ => Z7 (ja9 t103.r0 (⟨1, 0, true⟩ : Sight) w) jaX Y Y) (yy Y Y Y (jg Y Y ?_)))))))
          refine j4 140 Y (fun h95 => ?_) (fun h95 => ?_)
          ·replace hm := ifD h95 hm
           refine jb Y Y (jg Y Y (jb Y Y (jc Y Y Y (fun _ _ => Ju Y Y) (yy Y Y Y (jo Y Y (jx ?_))))))
           obtain rfl := sj hm
           exact jk () (trivial) (sE Y) (hsE [0, 1, 2] [] 0 Y Y Y Y)
          replace hm := ifE h95 hm
          refine g_k Y Y Y Y (g_k Y Y Y Y (zu Y Y Y (jo Y Y (jx ?_))))
          obtain rfl := sj hm
          exact jk () (trivial) (sE Y) (hsE [0, 1, 2] [] 0 Y Y Y Y)
         replace hm := ifN h94 hm
         refine g_k Y Y Y Y (g_k Y Y Y Y (g_k Y Y Y Y (zu Y Y Y (jg Y Y (g_k Y Y Y Y (g_k Y Y Y Y (zu Y Y Y ?_)))))))
         refine jo Y Y (jx ?_)
         obtain rfl := sj hm
         exact jk () (trivial) (sE Y) (hsE [0, 1, 2] [] 0 Y Y Y Y)
        replace hm := ifE h90 hm
        refine g_k Y Y Y Y (g_k Y Y Y Y (g_k Y Y Y Y (zu Y Y Y (jg Y Y (g_k Y Y Y Y (g_k Y Y Y Y (g_k Y Y Y Y ?_)))))))
        refine zu Y Y Y (jg Y Y (g_k Y Y Y Y (g_k Y Y Y Y (zu Y Y Y (jo Y Y (jx ?_))))))
        obtain rfl := sj hm
        exact jk () (trivial) (sE Y) (hsE [0, 1, 2] [] 0 Y Y Y Y)
       replace hm := ifN h89 hm
       refine g_k Y Y Y Y (g_k Y Y Y Y (zu Y Y Y (jg Y Y (g_k Y Y Y Y (g_k Y Y Y Y (g_k Y Y Y Y (zu Y Y Y ?_)))))))
       refine jg Y Y (g_k Y Y Y Y (g_k Y Y Y Y (g_k Y Y Y Y (zu Y Y Y (jg Y Y (g_k Y Y Y Y (g_k Y Y Y Y ?_)))))))
       refine zu Y Y Y (jo Y Y (jx ?_))
       obtain rfl := sj hm
       exact jk () (trivial) (sE Y) (hsE [0, 1, 2] [] 0 Y Y Y Y)
      replace hm := ifE h85 hm
      refine g_k Y Y Y Y (g_k Y Y Y Y (g_k Y Y Y Y (zu Y Y Y (jg Y Y (g_k Y Y Y Y (g_k Y Y Y Y (zu Y Y Y ?_)))))))
      refine jg Y Y (g_k Y Y Y Y (g_k Y Y Y Y (g_k Y Y Y Y (zu Y Y Y (jg Y Y (g_k Y Y Y Y (g_k Y Y Y Y ?_)))))))
      refine g_k Y Y Y Y (zu Y Y Y (jg Y Y (g_k Y Y Y Y (g_k Y Y Y Y (zu Y Y Y (jo Y Y (jx ?_)))))))
      obtain rfl := sj hm
      exact jk () (trivial) (sE Y) (hsE [0, 1, 2] [] 0 Y Y Y Y)
     replace hm := ifE h84 hm
     refine g_k Y Y Y Y (g_k Y Y Y Y (zu Y Y Y (jg Y Y (g_k Y Y Y Y (g_k Y Y Y Y (g_k Y Y Y Y (zu Y Y Y ?_)))))))
     refine jg Y Y (g_k Y Y Y Y (g_k Y Y Y Y (zu Y Y Y (jg Y Y (g_k Y Y Y Y (g_k Y Y Y Y (g_k Y Y Y Y ?_)))))))
     refine zu Y Y Y (jg Y Y (g_k Y Y Y Y (g_k Y Y Y Y (g_k Y Y Y Y (zu Y Y Y (jg Y Y (g_k Y Y Y Y ?_)))))))
     refine g_k Y Y Y Y (zu Y Y Y (jo Y Y (jx ?_)))
     obtain rfl := sj hm
     exact jk () (trivial) (sE Y) (hsE [0, 1, 2] [] 0 Y Y Y Y)
    replace hm := ifE h83 hm
    refine g_k Y Y Y Y (g_k Y Y Y Y (zu Y Y Y (jg Y Y (g_k Y Y Y Y (g_k Y Y Y Y (zu Y Y Y (jg Y Y ?_)))))))
    refine g_k Y Y Y Y (g_k Y Y Y Y (g_k Y Y Y Y (zu Y Y Y (jg Y Y (g_k Y Y Y Y (g_k Y Y Y Y (zu Y Y Y ?_)))))))
    refine jg Y Y (g_k Y Y Y Y (g_k Y Y Y Y (g_k Y Y Y Y (zu Y Y Y (jg Y Y (g_k Y Y Y Y (g_k Y Y Y Y ?_)))))))
    refine g_k Y Y Y Y (zu Y Y Y (jg Y Y (g_k Y Y Y Y (g_k Y Y Y Y (zu Y Y Y (jo Y Y (jx ?_)))))))
    obtain rfl := sj hm
    exact jk () (trivial) (sE Y) (hsE [0, 1, 2] [] 0 Y Y Y Y)
   replace hm := ifE h82 hm
   refine g_k Y Y Y Y (g_k Y Y Y Y (zu Y Y Y (jg Y Y (g_k Y Y Y Y (g_k Y Y Y Y (zu Y Y Y (jg Y Y ?_)))))))
   refine g_k Y Y Y Y (g_k Y Y Y Y (zu Y Y Y (jg Y Y (g_k Y Y Y Y (g_k Y Y Y Y (g_k Y Y Y Y (zu Y Y Y ?_)))))))
   refine jg Y Y (g_k Y Y Y Y (g_k Y Y Y Y (zu Y Y Y (jg Y Y (g_k Y Y Y Y (g_k Y Y Y Y (g_k Y Y Y Y ?_)))))))
   refine zu Y Y Y (jg Y Y (g_k Y Y Y Y (g_k Y Y Y Y (g_k Y Y Y Y (zu Y Y Y (jg Y Y (g_k Y Y Y Y ?_)))))))
   refine g_k Y Y Y Y (zu Y Y Y (jo Y Y (jx ?_)))
   obtain rfl := sj hm
   exact jk () (trivial) (sE Y) (hsE [0, 1, 2] [] 0 Y Y Y Y)
  intro l_19 hj
  replace hm := h81
  refine ja (jv ?_)
  obtain rfl := sj hm
  refine jm Y (fun w hh => (.tmp Y .nil)) (fun w hh => ⟨(), rfl, trivial, hh.se [] [] 0 Y Y Y rfl⟩)
end Go.Proofs.Wb

namespace Go.Gx
theorem addc_eq {a b : Int} (h : -9223372036854775808 ≤ a + b ∧ a + b ≤ 9223372036854775807) : addc a b = some (a + b) := if_pos h
theorem subc_eq {a b : Int} (h : -9223372036854775808 ≤ a - b ∧ a - b ≤ 9223372036854775807) : subc a b = some (a - b) := if_pos h
theorem negc_eq {a : Int} (h : -9223372036854775808 ≤ -a ∧ -a ≤ 9223372036854775807) : negc a = some (-a) := if_pos h
theorem remc_eq {a b : Int} (h0 : b ≠ 0) : remc a b = some (a.tmod b) := if_pos h0
theorem ix_eq {α : Type} {l : List α} {i : Int} (d : α) (h0 : 0 ≤ i) (h1 : i < l.length) : ix l i = some (l.getD i.toNat d) := by
  unfold ix
  rw [if_neg (by omega), List.getD_eq_getElem?_getD]
  have : i.toNat < l.length := by omega
  simp [this]
theorem ix_nat {α : Type} {l : List α} {k : Nat} (d : α) (h1 : k < l.length) : ix l (k : Int) = some (l.getD k d) := by
  have := ix_eq (l := l) (i := (k : Int)) d (by omega) (by omega)
  simpa using this
theorem appc_eq {α : Type} {b : Nat} {l m : List α} (h : (l.length + m.length) * b ≤ 140737488355328) : appc b l m = some (l ++ m) := if_pos h
theorem makec_eq {α : Type} {b : Nat} {z : α} {n c : Int} (h : 0 ≤ n ∧ n ≤ c ∧ (b : Int) * c ≤ 140737488355328 ∧ c ≤ 140737488355328) : makec b z n c = some (List.replicate n.toNat z) := if_pos h
@[simp] theorem oc_inl {α β γ : Type} (a : α) (f : α → γ) (g : β → γ) : oc (.inl a) f g = f a := rfl
@[simp] theorem oc_inr {α β γ : Type} (b : β) (f : α → γ) (g : β → γ) : oc (.inr b) f g = g b := rfl

theorem iterM_step {σ β : Type} {f : σ → Option (σ ⊕ β)} {s s' : σ} {N : Nat} (h : f s = some (.inl s')) : iterM (N + 1) f s = iterM N f s' := by simp [iterM, h]
theorem iterM_done {σ β : Type} {f : σ → Option (σ ⊕ β)} {s : σ} {b : β} {N : Nat} (h : f s = some (.inr b)) : iterM (N + 1) f s = some b := by simp [iterM, h]
theorem iterM_inv {σ β : Type} {f : σ → Option (σ ⊕ β)} (Inv : σ → Prop) (μ : σ → Nat) (Q : β → Prop)
    (h : ∀ s, Inv s → (∃ s', f s = some (.inl s') ∧ Inv s' ∧ μ s' < μ s) ∨ ∃ b, f s = some (.inr b) ∧ Q b) : ∀ (N : Nat) (s : σ), μ s < N → Inv s → ∃ b, iterM N f s = some b ∧ Q b
  | 0, _, hN, _ => absurd hN (Nat.not_lt_zero _)
  | N + 1, s, hN, hI => by
    rcases h s hI with ⟨s', h1, h2, h3⟩ | ⟨b, h1, h2⟩
    · rw [iterM_step h1]
      exact iterM_inv Inv μ Q h N s' (by omega) h2
    · exact ⟨b, iterM_done h1, h2⟩
theorem iterM_run {σ β : Type} {f : σ → Option (σ ⊕ β)} (I : Nat → σ) (n : Nat) {b : β} (hs : ∀ k, k < n → f (I k) = some (.inl (I (k + 1)))) (he : f (I n) = some (.inr b)) : ∀ (N : Nat), n < N → iterM N f (I 0) = some b := by
  have key : ∀ (m k N : Nat), k + m = n → m < N → iterM N f (I k) = some b := by
    intro m
    induction m with
    | zero =>
      intro k N hk hN
      obtain ⟨N, rfl⟩ : ∃ N', N = N' + 1 := ⟨N - 1, by omega⟩
      have : k = n := by omega
      subst this
      exact iterM_done he
    | succ m ih =>
      intro k N hk hN
      obtain ⟨N, rfl⟩ : ∃ N', N = N' + 1 := ⟨N - 1, by omega⟩
      rw [iterM_step (hs k (by omega))]
      exact ih (k + 1) N (by omega) (by omega)
  intro N hN
  exact key n 0 N (by omega) hN
theorem iterM_any {ρ : Type} {f : Int → Option (Int ⊕ (Unit ⊕ ρ))} (i0 : Int) (n : Nat) (bad : Nat → Bool) (e : Nat → ρ) (h1 : ∀ k, k < n → f (i0 + (k : Int)) = some (if bad k then .inr (.inr (e k)) else .inl (i0 + (k : Int) + 1))) (h2 : f (i0 + (n : Int)) = some (.inr (.inl ()))) {N : Nat} (hN : n < N) :
    iterM N f i0 = some (match (List.range n).find? bad with | some k => .inr (e k) | none => .inl ()) := by
  have key : ∀ (m k N : Nat), k + m = n → m < N → (∀ j, j < k → bad j = false) → iterM N f (i0 + (k : Int)) = some (match (List.range n).find? bad with | some k => .inr (e k) | none => .inl ()) := by
    intro m
    induction m with
    | zero =>
      intro k N hk hN hb
      obtain ⟨N, rfl⟩ : ∃ N', N = N' + 1 := ⟨N - 1, by omega⟩
      have : k = n := by omega
      subst this
      rw [iterM_done h2]
      have : (List.range k).find? bad = none := by
        rw [List.find?_eq_none]
        intro x hx
        simp [hb x (by simpa using hx)]
      rw [this]
    | succ m ih =>
      intro k N hk hN hb
      obtain ⟨N, rfl⟩ : ∃ N', N = N' + 1 := ⟨N - 1, by omega⟩
      have hk2 := h1 k (by omega)
      cases hbk : bad k with
      | true =>
        rw [hbk] at hk2
        simp only [if_true] at hk2
        rw [iterM_done hk2]
        have : (List.range n).find? bad = some k := by
          rw [List.find?_range_eq_some]
          exact ⟨hbk, by simp; omega, fun j hj => by simp [hb j hj]⟩
        rw [this]
      | false =>
        rw [hbk] at hk2
        simp only [Bool.false_eq_true, if_false] at hk2
        rw [iterM_step hk2]
        have := ih (k + 1) N (by omega) (by omega) (fun j hj => by
          by_cases hjk : j = k
          · subst hjk; exact hbk
          · exact hb j (by omega))
        rw [show i0 + (k : Int) + 1 = i0 + ((k + 1 : Nat) : Int) by push_cast; omega]
        exact this
  have := key n 0 N (by omega) hN (fun j hj => absurd hj (by omega))
  simpa using this
theorem iterM_any0 {ρ : Type} {f : Int → Option (Int ⊕ (Unit ⊕ ρ))} (n : Nat) (bad : Nat → Bool) (e : ρ) (h1 : ∀ k : Nat, k < n → f (k : Int) = some (if bad k then .inr (.inr e) else .inl ((k : Int) + 1))) (h2 : f (n : Int) = some (.inr (.inl ()))) {N : Nat} (hN : n < N) :
    iterM N f 0 = some (if (List.range n).any bad then .inr e else .inl ()) := by
  have := iterM_any 0 n bad (fun _ => e) (fun k hk => by simpa using h1 k hk) (by simpa using h2) hN
  rw [this]
  cases hf : (List.range n).find? bad with
  | none =>
    have : (List.range n).any bad = false := by
      rw [List.any_eq_false]; intro x hx; simpa using List.find?_eq_none.1 hf x hx
    simp [this]
  | some k =>
    have : (List.range n).any bad = true := List.any_eq_true.2 ⟨k, List.mem_of_find?_eq_some hf, List.find?_some hf⟩
    simp [this]
theorem FU_lt2 {n : Nat} (h : n ≤ 9223372036854775807) : n < FU := by unfold FU; omega
theorem FU_lt {n : Nat} (h : n < 1000000000000) : n < FU := by unfold FU; omega
end Go.Gx

namespace Go.Gx
open Go
theorem contains_loop {α : Type} {f : Int → Option (Int ⊕ (Unit ⊕ Int))} (l : List α) (d : α) (bad : α → Bool) (hl : l.length < 1000000000000)
    (h : ∀ k : Nat, k < l.length → f (k : Int) = some (if bad (l.getD k d) = true then .inr (.inr (k : Int)) else .inl ((k : Int) + 1))) (he : f (l.length : Int) = some (.inr (.inl ()))) :
    (((iterM FU f 0).bind fun o => oc o (fun _ => (some (-1) : Option Int)) (fun r => some r)).bind fun t => some (decide (0 ≤ t))) = some (l.any bad) := by
  have key := iterM_any (f := f) 0 l.length (fun k => bad (l.getD k d)) (fun k => (k : Int)) (fun k hk => by
    have := h k hk
    rw [Int.zero_add]
    exact this) (by rw [Int.zero_add]; exact he) (N := FU) (FU_lt hl)
  rw [key]
  cases hf : (List.range l.length).find? (fun k => bad (l.getD k d)) with
  | none =>
    have : l.any bad = false := by
      rw [List.any_eq_false]
      intro x hx
      obtain ⟨i, hi, rfl⟩ := List.getElem_of_mem hx
      have h2 := List.find?_eq_none.1 hf i (by simpa using hi)
      simpa [List.getD_eq_getElem?_getD, hi] using h2
    rw [this]
    rfl
  | some k =>
    have h1 := List.find?_some hf
    have h2 : k < l.length := by simpa using List.mem_of_find?_eq_some hf
    have : l.any bad = true := by
      rw [List.any_eq_true]
      refine ⟨l[k], List.getElem_mem h2, ?_⟩
      simpa [List.getD_eq_getElem?_getD, h2] using h1
    rw [this, Option.bind_some, oc_inr, Option.bind_some, decide_eq_true (show (0 : Int) ≤ (k : Int) by omega)]
theorem not_any_not {α : Type} {l : List α} {p : α → Bool} : (!l.any fun x => !p x) = l.all p := by rw [List.not_any_eq_all_not]; simp
end Go.Gx
namespace Go.Gx
theorem iterM_find {σ β : Type} {f : σ → Option (σ ⊕ β)} (I : Nat → σ) (n : Nat) (bad : Nat → Bool) (e : Nat → β) (e0 : β) (h1 : ∀ k, k < n → (∀ j, j < k → bad j = false) → f (I k) = some (if bad k = true then .inr (e k) else .inl (I (k + 1)))) (h2 : f (I n) = some (.inr e0)) {N : Nat} (hN : n < N) :
    iterM N f (I 0) = some (match (List.range n).find? bad with | some k => e k | none => e0) := by
  have key : ∀ (m k N : Nat), k + m = n → m < N → (∀ j, j < k → bad j = false) → iterM N f (I k) = some (match (List.range n).find? bad with | some k => e k | none => e0) := by
    intro m
    induction m with
    | zero =>
      intro k N hk hN hb
      obtain ⟨N, rfl⟩ : ∃ N', N = N' + 1 := ⟨N - 1, by omega⟩
      have : k = n := by omega
      subst this
      rw [iterM_done h2]
      have : (List.range k).find? bad = none := by
        rw [List.find?_eq_none]
        intro x hx
        simp [hb x (by simpa using hx)]
      rw [this]
    | succ m ih =>
      intro k N hk hN hb
      obtain ⟨N, rfl⟩ : ∃ N', N = N' + 1 := ⟨N - 1, by omega⟩
      have hk2 := h1 k (by omega) hb
      cases hbk : bad k with
      | true =>
        rw [hbk] at hk2
        simp only [if_true] at hk2
        rw [iterM_done hk2]
        have : (List.range n).find? bad = some k := by
          rw [List.find?_range_eq_some]
          exact ⟨hbk, by simp; omega, fun j hj => by simp [hb j hj]⟩
        rw [this]
      | false =>
        rw [hbk] at hk2
        simp only [Bool.false_eq_true, if_false] at hk2
        rw [iterM_step hk2]
        exact ih (k + 1) N (by omega) (by omega) (fun j hj => by
          by_cases hjk : j = k
          · subst hjk; exact hbk
          · exact hb j (by omega))
  exact key n 0 N (by omega) hN (fun j hj => absurd hj (by omega))
def filtL (p : Nat → Bool) (k : Nat) : List Int := ((List.range k).filter p).map fun i : Nat => (i : Int)
theorem filtL_len {p : Nat → Bool} {k : Nat} : (filtL p k).length ≤ k := by
  unfold filtL
  rw [List.length_map]
  exact Nat.le_trans (List.length_filter_le _ _) (by simp)
end Go.Gx

namespace Go.Gx
open Go
theorem range_set {α : Type} {f : Nat → α} {n i : Nat} {v : α} : ((List.range n).map f).set i v = (List.range n).map fun t => if t = i then v else f t := by
  apply List.ext_getElem
  · simp
  · intro j h1 h2
    simp only [List.length_set, List.length_map, List.length_range] at h1
    rw [List.getElem_set]
    simp only [List.getElem_map, List.getElem_range]
    by_cases h : i = j
    · subst h; simp
    · rw [if_neg h, if_neg (fun e => h e.symm)]
theorem range_ix {α : Type} {f : Nat → α} {n i : Nat} (h : i < n) : ix ((List.range n).map f) (i : Int) = some (f i) := by
  unfold ix
  rw [if_neg (by omega), Int.toNat_natCast]
  simp [h]
theorem range_getD {α : Type} {l : List α} (d : α) : (List.range l.length).map (fun t => l.getD t d) = l := by
  apply List.ext_getElem
  · simp
  · intro j h1 h2
    simp [List.getD_eq_getElem?_getD, h2]
end Go.Gx

namespace Go.Sb
section
variable {α : Type}
def R (nx : α → List α) (ag : α → Bool) : Nat → α → Nat
  | 0, s => if ag s = true then 1 else 0
  | k + 1, s => if ag s = true then ((nx s).map (R nx ag k)).sum else 0
def walks (nx : α → List α) : Nat → α → List (List α)
  | 0, s => [[s]]
  | k + 1, s => (nx s).flatMap fun t => (walks nx k t).map (s :: ·)
def fitW (nx : α → List α) (ag : α → Bool) (k : Nat) (s : α) : List (List α) := (walks nx k s).filter fun w => w.all ag
theorem sum_map_length {β γ : Type} (l : List β) (f : β → List γ) : (l.map fun x => (f x).length).sum = (l.flatMap f).length := by
  induction l with
  | nil => rfl
  | cons x l ih => rw [List.map_cons, List.sum_cons, ih, List.flatMap_cons, List.length_append]
theorem filter_flatMap' {β γ : Type} (l : List β) (f : β → List γ) (p : γ → Bool) : (l.flatMap f).filter p = l.flatMap fun x => (f x).filter p := by
  induction l with
  | nil => rfl
  | cons x l ih => rw [List.flatMap_cons, List.filter_append, ih, List.flatMap_cons]
theorem flatMap_nil' {β γ : Type} (l : List β) : (l.flatMap fun _ => ([] : List γ)) = [] := by
  induction l with
  | nil => rfl
  | cons x l ih => simp
theorem fitW_zero {nx : α → List α} {ag : α → Bool} {s : α} : fitW nx ag 0 s = if ag s = true then [[s]] else [] := by
  unfold fitW walks
  cases h : ag s <;> simp [h]
theorem fitW_succ {nx : α → List α} {ag : α → Bool} {k : Nat} {s : α} : fitW nx ag (k + 1) s = if ag s = true then (nx s).flatMap fun t => (fitW nx ag k t).map (s :: ·) else [] := by
  unfold fitW
  rw [walks, filter_flatMap']
  simp only [List.filter_map]
  by_cases h : ag s = true
  · rw [if_pos h]
    congr 1
    funext t
    congr 1
    congr 1
    funext w
    simp [h]
  · rw [if_neg h]
    have : (fun t => List.map (fun x => s :: x) (List.filter ((fun w => w.all ag) ∘ fun x => s :: x) (walks nx k t))) = fun t => ([] : List (List α)) := by
      funext t
      rw [List.filter_eq_nil_iff.2]
      · rfl
      · intro w _
        simp [h]
    rw [this, flatMap_nil']
theorem R_eq {nx : α → List α} {ag : α → Bool} : ∀ (k : Nat) (s : α), R nx ag k s = (fitW nx ag k s).length
  | 0, s => by rw [fitW_zero, R]; split <;> rfl
  | k + 1, s => by
    rw [fitW_succ, R]
    split
    · rw [← sum_map_length]
      congr 1
      apply List.map_congr_left
      intro t _
      rw [List.length_map, R_eq k t]
    · rfl
def Chain' (nx : α → List α) : List α → Prop
  | [] => True
  | [_] => True
  | s :: t :: l => t ∈ nx s ∧ Chain' nx (t :: l)
theorem mem_walks {nx : α → List α} : ∀ (k : Nat) (s : α) (w : List α), w ∈ walks nx k s ↔ w.length = k + 1 ∧ w.head? = some s ∧ Chain' nx w
  | 0, s, w => by
    simp only [walks, List.mem_singleton]
    constructor
    · rintro rfl; exact ⟨rfl, rfl, trivial⟩
    · rintro ⟨h1, h2, _⟩
      cases w with
      | nil => simp at h2
      | cons x w =>
        simp only [List.head?_cons, Option.some.injEq] at h2
        simp only [List.length_cons, Nat.zero_add] at h1
        have : w = [] := List.eq_nil_of_length_eq_zero (by omega)
        rw [h2, this]
  | k + 1, s, w => by
    simp only [walks, List.mem_flatMap, List.mem_map]
    constructor
    · rintro ⟨t, ht, v, hv, rfl⟩
      obtain ⟨h1, h2, h3⟩ := (mem_walks k t v).1 hv
      refine ⟨by simp [h1], rfl, ?_⟩
      cases v with
      | nil => simp at h2
      | cons y v =>
        simp only [List.head?_cons, Option.some.injEq] at h2
        subst h2
        exact ⟨ht, h3⟩
    · rintro ⟨h1, h2, h3⟩
      cases w with
      | nil => simp at h2
      | cons x w =>
        simp only [List.head?_cons, Option.some.injEq] at h2
        subst h2
        cases w with
        | nil => simp at h1
        | cons y v =>
          exact ⟨y, h3.1, y :: v, (mem_walks k y (y :: v)).2 ⟨by simpa using h1, rfl, h3.2⟩, rfl⟩
theorem mem_fitW {nx : α → List α} {ag : α → Bool} {k : Nat} {s : α} {w : List α} : w ∈ fitW nx ag k s ↔ (w.length = k + 1 ∧ w.head? = some s ∧ Chain' nx w) ∧ ∀ t ∈ w, ag t = true := by
  unfold fitW
  rw [List.mem_filter, mem_walks, List.all_eq_true]
theorem nodup_flatMap' {β γ : Type} {f : β → List γ} : ∀ {l : List β}, l.Nodup → (∀ x ∈ l, (f x).Nodup) → (∀ x ∈ l, ∀ y ∈ l, ∀ z, z ∈ f x → z ∈ f y → x = y) → (l.flatMap f).Nodup
  | [], _, _, _ => by simp
  | x :: l, h1, h2, h3 => by
    rw [List.flatMap_cons]
    obtain ⟨h4, h5⟩ := List.nodup_cons.1 h1
    refine List.nodup_append.2 ⟨h2 x (by simp), nodup_flatMap' h5 (fun y hy => h2 y (by simp [hy])) (fun y hy z hz => h3 y (by simp [hy]) z (by simp [hz])), ?_⟩
    intro a ha b hb hab
    subst hab
    obtain ⟨y, hy, hb⟩ := List.mem_flatMap.1 hb
    have := h3 x (by simp) y (by simp [hy]) a ha hb
    subst this
    exact h4 hy
theorem nodup_map' {β γ : Type} {f : β → γ} : ∀ {l : List β}, l.Nodup → (∀ x ∈ l, ∀ y ∈ l, f x = f y → x = y) → (l.map f).Nodup
  | [], _, _ => by simp
  | x :: l, h, hf => by
    obtain ⟨h1, h2⟩ := List.nodup_cons.1 h
    rw [List.map_cons, List.nodup_cons]
    refine ⟨fun hm => ?_, nodup_map' h2 (fun a ha b hb => hf a (List.mem_cons_of_mem _ ha) b (List.mem_cons_of_mem _ hb))⟩
    obtain ⟨y, hy, he⟩ := List.mem_map.1 hm
    have := hf y (List.mem_cons_of_mem _ hy) x List.mem_cons_self he
    subst this
    exact h1 hy
end
end Go.Sb

namespace Go.Sb
def rch (reach : List Int) (x : Int) : Int := reach.getD x.toNat 0
structure CanS (cells : Int) (reach : List Int) (nf : Nat) (a : Cells) (l : List Int) : Prop where
  len : l.length = nf
  inC : ∀ i, i < nf → 0 ≤ l.getD i (-1) ∧ l.getD i (-1) < cells
  near : ∀ i, i < nf → cGet a i - rch reach (cGet a i) ≤ l.getD i (-1) ∧ l.getD i (-1) ≤ cGet a i + rch reach (cGet a i)
  up : ∀ i, i + 1 < nf → l.getD i (-1) < l.getD (i + 1) (-1)
theorem mem_putL {cells : Nat} {reach : List Int} {a : Cells} {l : List Int} : ∀ (m : Nat) (pre : List Int), l ∈ putL cells reach a m pre ↔
    ∃ r, l = pre ++ r ∧ r.length = m ∧ (∀ i, i < m → 0 ≤ r.getD i (-1) ∧ r.getD i (-1) < cells) ∧ (∀ i, i < m → cGet a (pre.length + i) - rch reach (cGet a (pre.length + i)) ≤ r.getD i (-1) ∧ r.getD i (-1) ≤ cGet a (pre.length + i) + rch reach (cGet a (pre.length + i))) ∧ (∀ y, pre.getLast? = some y → 0 < m → y < r.getD 0 (-1)) ∧ (∀ i, i + 1 < m → r.getD i (-1) < r.getD (i + 1) (-1))
  | 0, pre => by
    simp only [putL, List.mem_singleton]
    constructor
    · rintro rfl
      exact ⟨[], by simp, rfl, fun i hi => absurd hi (by omega), fun i hi => absurd hi (by omega), fun _ _ h => absurd h (by omega), fun i hi => absurd hi (by omega)⟩
    · rintro ⟨r, h1, h2, _⟩
      rw [h1, List.eq_nil_of_length_eq_zero h2, List.append_nil]
  | m + 1, pre => by
    simp only [putL, List.mem_flatMap, List.mem_range]
    constructor
    · rintro ⟨x, hx, hl⟩
      split at hl
      · rename_i hok
        simp only [okN, Bool.and_eq_true, decide_eq_true_eq] at hok
        obtain ⟨r, h1, h2, h3, h4, h5, h6⟩ := (mem_putL m _).1 hl
        refine ⟨(x : Int) :: r, by rw [h1]; simp, by simp [h2], fun i hi => ?_, fun i hi => ?_, fun y hy _ => ?_, fun i hi => ?_⟩
        · cases i with
          | zero => simp; omega
          | succ i => simpa using h3 i (by omega)
        · cases i with
          | zero => simpa [rch] using hok.1
          | succ i =>
            have := h4 i (by omega)
            rw [List.length_append, List.length_singleton] at this
            rw [show pre.length + (i + 1) = pre.length + 1 + i by omega]
            simpa using this
        · simpa using hok.2 y hy
        · cases i with
          | zero => simpa using h5 x (by simp) (by omega)
          | succ i => simpa using h6 i (by omega)
      · simp at hl
    · rintro ⟨r, h1, h2, h3, h4, h5, h6⟩
      cases r with
      | nil => simp at h2
      | cons x r =>
        have hx := h3 0 (by omega)
        have h40 := h4 0 (by omega)
        simp only [List.getD_cons_zero, Nat.add_zero] at hx h40
        refine ⟨x.toNat, by omega, ?_⟩
        have ex : ((x.toNat : Nat) : Int) = x := by omega
        rw [ex, if_pos]
        · refine (mem_putL m _).2 ⟨r, by rw [h1]; simp, by simpa using h2, fun i hi => ?_, fun i hi => ?_, fun y hy hm => ?_, fun i hi => ?_⟩
          · simpa using h3 (i + 1) (by omega)
          · have := h4 (i + 1) (by omega)
            rw [List.length_append, List.length_singleton]
            rw [show pre.length + (i + 1) = pre.length + 1 + i by omega] at this
            simpa using this
          · simp only [List.getLast?_append, List.getLast?_singleton, Option.some_or, Option.some.injEq] at hy
            subst hy
            simpa using h6 0 (by omega)
          · simpa using h6 (i + 1) (by omega)
        · simp only [okN, Bool.and_eq_true, decide_eq_true_eq]
          exact ⟨h40, fun y hy => by simpa using h5 y hy (by omega)⟩
theorem mem_nextL {cells : Int} {reach : List Int} {nf : Int} {s t : State} (hc : 0 ≤ cells) : t ∈ nextL cells reach nf s ↔ ∃ l, CanS cells reach nf.toNat s.at_ l ∧ t = ⟨s.after + 1, mkCells l⟩ := by
  unfold nextL
  rw [List.mem_map]
  constructor
  · rintro ⟨l, hl, rfl⟩
    obtain ⟨r, h1, h2, h3, h4, _, h6⟩ := (mem_putL _ _).1 hl
    simp only [List.nil_append] at h1
    subst h1
    refine ⟨l, ⟨h2, fun i hi => ?_, fun i hi => ?_, h6⟩, rfl⟩
    · have := h3 i hi; omega
    · simpa using h4 i hi
  · rintro ⟨l, ⟨h1, h2, h3, h4⟩, rfl⟩
    refine ⟨l, (mem_putL _ _).2 ⟨l, by simp, h1, fun i hi => ?_, fun i hi => ?_, fun y hy => by simp at hy, h4⟩, rfl⟩
    · have := h2 i hi; omega
    · simpa using h3 i hi
theorem putL_nodup {cells : Nat} {reach : List Int} {a : Cells} : ∀ (m : Nat) (pre : List Int), (putL cells reach a m pre).Nodup
  | 0, pre => by simp [putL]
  | m + 1, pre => by
    rw [putL]
    refine nodup_flatMap' List.nodup_range (fun x _ => ?_) ?_
    · split
      · exact putL_nodup m _
      · exact List.nodup_nil
    · intro x _ y _ z hx hy
      split at hx
      · split at hy
        · obtain ⟨r, e1, _⟩ := (mem_putL _ _).1 hx
          obtain ⟨r', e2, _⟩ := (mem_putL _ _).1 hy
          rw [e1] at e2
          simp only [List.append_assoc, List.cons_append, List.nil_append, List.append_cancel_left_eq, List.cons.injEq] at e2
          omega
        · simp at hy
      · simp at hx
theorem mkCells_inj {l m : List Int} (hl : l.length = m.length) (h3 : l.length ≤ 3) (h : mkCells l = mkCells m) : l = m := by
  simp only [mkCells, Cells.mk.injEq] at h
  obtain ⟨h0, h1, h2⟩ := h
  apply List.ext_getElem hl
  intro i hi hi'
  have g : ∀ j, l.getD j (-1) = m.getD j (-1) → (hj : j < l.length) → l[j] = m[j]'(hl ▸ hj) := by
    intro j hj hjl
    simpa [List.getD_eq_getElem?_getD, hjl, (hl ▸ hjl : j < m.length)] using hj
  have : i = 0 ∨ i = 1 ∨ i = 2 := by omega
  rcases this with rfl | rfl | rfl
  · exact g 0 h0 hi
  · exact g 1 h1 hi
  · exact g 2 h2 hi
theorem nextL_nodup {cells : Int} {reach : List Int} {nf : Int} {s : State} (hn : nf ≤ 3) : (nextL cells reach nf s).Nodup := by
  unfold nextL
  refine nodup_map' (putL_nodup _ _) ?_
  intro l hl m hm h
  obtain ⟨r, e1, e2, _⟩ := (mem_putL _ _).1 hl
  obtain ⟨r', e3, e4, _⟩ := (mem_putL _ _).1 hm
  simp only [List.nil_append] at e1 e3
  subst e1; subst e3
  simp only [State.mk.injEq, true_and] at h
  exact mkCells_inj (by omega) (by omega) h
end Go.Sb

namespace Go.Sb
section
variable {α : Type} {nx : α → List α} {ag : α → Bool}
theorem R_pos {k : Nat} {s : α} : 0 < R nx ag k s ↔ ∃ w, w ∈ fitW nx ag k s := by
  rw [R_eq, List.length_pos_iff_exists_mem]
theorem R_ag {k : Nat} {s : α} (h : 0 < R nx ag k s) : ag s = true := by
  cases k <;> (simp only [R] at h; split at h; assumption; omega)
theorem R_succ_pos {k : Nat} {s : α} : 0 < R nx ag (k + 1) s ↔ ag s = true ∧ ∃ t ∈ nx s, 0 < R nx ag k t := by
  rw [R]
  by_cases h : ag s = true
  · rw [if_pos h]
    simp only [h, true_and]
    have key : ∀ l : List α, 0 < (l.map (R nx ag k)).sum ↔ ∃ t ∈ l, 0 < R nx ag k t := by
      intro l
      induction l with
      | nil => simp
      | cons x l ih =>
        simp only [List.map_cons, List.sum_cons, List.mem_cons]
        constructor
        · intro h
          by_cases hx : 0 < R nx ag k x
          · exact ⟨x, .inl rfl, hx⟩
          · obtain ⟨t, ht, h2⟩ := ih.1 (by omega)
            exact ⟨t, .inr ht, h2⟩
        · rintro ⟨t, rfl | ht, h2⟩
          · omega
          · have := ih.2 ⟨t, ht, h2⟩; omega
    exact key _
  · rw [if_neg h]
    constructor
    · intro h; omega
    · rintro ⟨h1, _⟩; exact absurd h1 h
def On (nx : α → List α) (ag : α → Bool) (k T : Nat) (s t : α) : Prop := ∃ w ∈ fitW nx ag T s, w[k]? = some t
theorem on_zero {T : Nat} {s t : α} : On nx ag 0 T s t ↔ t = s ∧ 0 < R nx ag T s := by
  constructor
  · rintro ⟨w, hw, ht⟩
    have h1 := (mem_fitW.1 hw).1.2.1
    rw [List.head?_eq_getElem?] at h1
    rw [h1] at ht
    exact ⟨(Option.some.inj ht).symm, R_pos.2 ⟨w, hw⟩⟩
  · rintro ⟨rfl, h⟩
    obtain ⟨w, hw⟩ := R_pos.1 h
    have h1 := (mem_fitW.1 hw).1.2.1
    rw [List.head?_eq_getElem?] at h1
    exact ⟨w, hw, h1⟩
theorem on_cons {k T : Nat} {s t : α} : On nx ag (k + 1) (T + 1) s t ↔ ag s = true ∧ ∃ u ∈ nx s, On nx ag k T u t := by
  unfold On
  rw [fitW_succ]
  by_cases h : ag s = true
  · rw [if_pos h]
    simp only [h, true_and, List.mem_flatMap, List.mem_map]
    constructor
    · rintro ⟨w, ⟨u, hu, v, hv, rfl⟩, hw⟩
      exact ⟨u, hu, v, hv, by simpa using hw⟩
    · rintro ⟨u, hu, v, hv, hw⟩
      exact ⟨s :: v, ⟨u, hu, v, hv, rfl⟩, by simpa using hw⟩
  · rw [if_neg h]
    simp [h]
theorem on_succ : ∀ {k T : Nat} {s t : α}, k + 1 ≤ T → (On nx ag (k + 1) T s t ↔ ∃ u, On nx ag k T s u ∧ t ∈ nx u ∧ 0 < R nx ag (T - k - 1) t)
  | 0, 0, _, _, h => absurd h (by omega)
  | 0, T + 1, s, t, _ => by
    rw [on_cons]
    simp only [on_zero, Nat.sub_zero, Nat.add_sub_cancel]
    constructor
    · rintro ⟨h1, u, hu, rfl, hr⟩
      exact ⟨s, ⟨rfl, R_succ_pos.2 ⟨h1, t, hu, hr⟩⟩, hu, hr⟩
    · rintro ⟨u, ⟨rfl, h1⟩, h2, h3⟩
      exact ⟨R_ag h1, t, h2, rfl, h3⟩
  | k + 1, 0, _, _, h => absurd h (by omega)
  | k + 1, T + 1, s, t, h => by
    rw [on_cons]
    have e : T + 1 - (k + 1) - 1 = T - k - 1 := by omega
    rw [e]
    constructor
    · rintro ⟨h1, v, hv, h2⟩
      obtain ⟨u, h3, h4, h5⟩ := (on_succ (by omega)).1 h2
      exact ⟨u, on_cons.2 ⟨h1, v, hv, h3⟩, h4, h5⟩
    · rintro ⟨u, h1, h4, h5⟩
      obtain ⟨h1, v, hv, h3⟩ := on_cons.1 h1
      exact ⟨h1, v, hv, (on_succ (by omega)).2 ⟨u, h3, h4, h5⟩⟩
theorem on_R {k T : Nat} {s t : α} (hk : k ≤ T) (h : On nx ag k T s t) : 0 < R nx ag (T - k) t := by
  cases k with
  | zero => obtain ⟨rfl, h⟩ := on_zero.1 h; exact h
  | succ k =>
    obtain ⟨u, _, _, h⟩ := (on_succ hk).1 h
    rw [show T - (k + 1) = T - k - 1 by omega]
    exact h
end
section
variable {α : Type} [DecidableEq α] {nx : α → List α} {ag : α → Bool}
end
end Go.Sb

namespace Go.Gx
open Go
theorem any_loop {α : Type} (l : List α) (d : α) (p : α → Option Bool) (hp : α → Bool) (hl : l.length < 1000000000000) (h : ∀ x, x ∈ l → p x = some (hp x)) {f : Int → Option (Int ⊕ (Unit ⊕ Int))}
    (hf : ∀ s, f s = if s < (l.length : Int) then ((ix l s).bind fun x => (p x).bind fun b => if b = true then (some (.inr (.inr s))) else ((addc s 1).bind fun k => some (.inl k))) else some (.inr (.inl ()))) :
    (((iterM FU f 0).bind fun o => oc o (fun _ => (some (-1) : Option Int)) (fun r => some r)).bind fun t => some (decide (0 ≤ t))) = some (l.any hp) := by
  refine contains_loop (f := f) l d hp hl (fun k hk => ?_) ?_
  · rw [hf, if_pos (by omega), ix_nat d hk, Option.bind_some, h _ (by simp [List.getD_eq_getElem?_getD, hk]), Option.bind_some, addc_eq (by omega), Option.bind_some]
    split <;> rfl
  · rw [hf, if_neg (by omega)]
end Go.Gx
namespace Go.Proofs.Wb
open Go Go.Fw Go.Gx Go.Sb
set_option linter.unusedVariables false
def inb (n lo hi : Int) : Bool := decide (lo ≤ n) && decide (n ≤ hi)
theorem Yi (n lo hi : Int) : qH n lo hi = some (inb n lo hi) := by
  unfold qH inb
  by_cases h : lo ≤ n
  · simp [h]
  · simp [h]
theorem inb_iff {n lo hi : Int} : inb n lo hi = true ↔ lo ≤ n ∧ n ≤ hi := by simp [inb]
theorem not_true_if {α : Type} (b : Bool) (x y : α) : (if (!b) = true then x else y) = if b = true then y else x := by cases b <;> rfl
def upB : List Int → Bool
  | [] => true
  | [_] => true
  | x :: y :: l => decide (x < y) && upB (y :: l)
theorem upB_iff : ∀ {l : List Int}, upB l = true ↔ l.Pairwise (· < ·)
  | [] => by simp [upB]
  | [_] => by simp [upB]
  | x :: y :: l => by
    rw [upB, Bool.and_eq_true, decide_eq_true_eq, upB_iff (l := y :: l), List.pairwise_cons (a := x)]
    constructor
    · rintro ⟨h1, h2⟩
      refine ⟨fun z hz => ?_, h2⟩
      rcases List.mem_cons.1 hz with rfl | hz
      · exact h1
      · have := (List.pairwise_cons.1 h2).1 z hz; omega
    · rintro ⟨h1, h2⟩
      exact ⟨h1 y (by simp), h2⟩
theorem upB_ix {l : List Int} : upB l = true ↔ ∀ i, i + 1 < l.length → l.getD i (-1) < l.getD (i + 1) (-1) := by
  induction l with
  | nil => simp [upB]
  | cons x l ih =>
    cases l with
    | nil => simp [upB]
    | cons y l =>
      rw [upB, Bool.and_eq_true, decide_eq_true_eq, ih]
      constructor
      · rintro ⟨h1, h2⟩ i hi
        cases i with
        | zero => simpa using h1
        | succ i => simpa using h2 i (by simpa using hi)
      · intro h
        exact ⟨by simpa using h 0 (by simp), fun i hi => by simpa using h (i + 1) (by simpa using hi)⟩
theorem jam (a b : Int) : JC a b = some (decide (a < b)) := by
  simp [JC, z8]
def leB (l : List Int) : Bool := (List.range (l.length - 1)).all fun j => decide (l.getD (l.length - 2 - j) 0 ≤ l.getD (l.length - 1 - j) 0)
theorem ZF {l : List Int} (hl : l.length < 1000000) : yM l = some (leB l) := by
  unfold yM
  rw [subc_eq (by omega), Option.bind_some]
  have key := iterM_find (f := qU l) (fun j => (l.length : Int) - 1 - (j : Int)) (l.length - 1) (fun j => decide (l.getD (l.length - 1 - j) 0 < l.getD (l.length - 2 - j) 0)) (fun _ => .inr false) (.inl ()) (fun k hk _ => ?_) ?_ (N := FU) (FU_lt (by omega))
  · simp only [Int.natCast_zero, Int.sub_zero, show ((0 : Nat) : Int) = 0 from rfl] at key
    rw [key, Option.bind_some]
    have e : leB l = !(List.range (l.length - 1)).any fun j => decide (l.getD (l.length - 1 - j) 0 < l.getD (l.length - 2 - j) 0) := by
      unfold leB
      rw [List.not_any_eq_all_not]
      congr 1
      funext j
      by_cases h : l.getD (l.length - 1 - j) 0 < l.getD (l.length - 2 - j) 0
      · simp only [h, decide_true, Bool.not_true, decide_eq_false_iff_not]; omega
      · simp only [h, decide_false, Bool.not_false, decide_eq_true_eq]; omega
    rw [e]
    cases hf : (List.range (l.length - 1)).find? (fun j => decide (l.getD (l.length - 1 - j) 0 < l.getD (l.length - 2 - j) 0)) with
    | none =>
      have : (List.range (l.length - 1)).any (fun j => decide (l.getD (l.length - 1 - j) 0 < l.getD (l.length - 2 - j) 0)) = false := by
        rw [List.any_eq_false]; intro x hx; simpa using List.find?_eq_none.1 hf x hx
      rw [this]; rfl
    | some k =>
      have h2 := List.find?_some hf
      have : (List.range (l.length - 1)).any (fun j => decide (l.getD (l.length - 1 - j) 0 < l.getD (l.length - 2 - j) 0)) = true := List.any_eq_true.2 ⟨k, List.mem_of_find?_eq_some hf, h2⟩
      rw [this]; rfl
  · unfold qU
    rw [if_pos (by omega)]
    have e1 : (l.length : Int) - 1 - (k : Int) = ((l.length - 1 - k : Nat) : Int) := by omega
    have e2 : ((l.length - 1 - k : Nat) : Int) - 1 = ((l.length - 2 - k : Nat) : Int) := by omega
    rw [e1, ix_nat 0 (by omega), Option.bind_some, subc_eq (by omega), Option.bind_some, e2, ix_nat 0 (by omega), Option.bind_some, jam, Option.bind_some]
    split
    · rfl
    · rw [Option.bind_some]
      congr 2
      push_cast
      omega
  · unfold qU
    rw [if_neg (by omega)]
theorem leB_iff {l : List Int} : leB l = true ↔ ∀ i, i + 1 < l.length → l.getD i (-1) ≤ l.getD (i + 1) (-1) := by
  unfold leB
  simp only [List.all_eq_true, List.mem_range, decide_eq_true_eq]
  constructor
  · intro h i hi
    have := h (l.length - 2 - i) (by omega)
    rw [show l.length - 2 - (l.length - 2 - i) = i by omega, show l.length - 1 - (l.length - 2 - i) = i + 1 by omega] at this
    simpa [List.getD_eq_getElem?_getD, hi, (show i < l.length by omega)] using this
  · intro h j hj
    have := h (l.length - 2 - j) (by omega)
    rw [show l.length - 2 - j + 1 = l.length - 1 - j by omega] at this
    simpa [List.getD_eq_getElem?_getD, (show l.length - 2 - j < l.length by omega), (show l.length - 1 - j < l.length by omega)] using this
theorem KH {l : List Int} (hl : l.length < 1000000) : kp l = some l := by
  unfold kp
  rw [appc_eq (by simp; omega)]
  rfl
theorem compact_len {l : List Int} : (Go.Lib.compact l).length = l.length ↔ ∀ i, i + 1 < l.length → l.getD (i + 1) (-1) ≠ l.getD i (-1) := by
  unfold Go.Lib.compact Go.Lib.compactUpTo
  rw [List.length_map]
  conv => lhs; rhs; rw [← List.length_range (n := l.length)]
  rw [List.length_filter_eq_length_iff]
  simp only [List.mem_range]
  constructor
  · intro h i hi
    have := h (i + 1) hi
    simp only [Go.Lib.keeps, Bool.or_eq_true, decide_eq_true_eq, bne_iff_ne, beq_iff_eq] at this
    simp [List.getD_eq_getElem?_getD, hi, (show i < l.length by omega)] at this ⊢
    exact this
  · intro h j hj
    cases j with
    | zero => simp [Go.Lib.keeps]
    | succ i =>
      have := h i hj
      simp [List.getD_eq_getElem?_getD, hj, (show i < l.length by omega)] at this
      simp [Go.Lib.keeps, hj, (show i < l.length by omega), this]
theorem Z0 {l : List Int} (hl : l.length < 1000000) : z2 l = some (upB l) := by
  unfold z2
  rw [ZF hl, Option.bind_some]
  have hx : yH l = some (Go.Lib.compact l) := by unfold yH; rw [if_pos (by omega)]
  by_cases h1 : leB l = true
  · rw [if_pos h1, KH hl, Option.bind_some, hx, Option.bind_some, Option.bind_some]
    congr 1
    rw [Bool.eq_iff_iff, decide_eq_true_eq, upB_ix]
    have h2 := leB_iff.1 h1
    have h3 : ((Go.Lib.compact l).length : Int) = (l.length : Int) ↔ (Go.Lib.compact l).length = l.length := by omega
    rw [h3, compact_len]
    constructor
    · intro h i hi
      have a := h i hi
      have b := h2 i hi
      omega
    · intro h i hi
      have a := h i hi
      omega
  · rw [if_neg h1, Option.bind_some]
    congr 1
    cases h4 : upB l with
    | false => rfl
    | true =>
      exfalso
      apply h1
      rw [leB_iff]
      intro i hi
      have := upB_ix.1 h4 i hi
      omega
end Go.Proofs.Wb

namespace Go.Proofs.Wb
open Go Go.Fw Go.Gx Go.Sb
set_option linter.unusedVariables false
def okMany (c : Channel) : Bool := inb c.cells 2 10 && inb c.tides 0 4 && inb (c.fords.length : Int) 1 3 && decide (c.sands.length ≤ 4) && decide (c.sights.length ≤ 8)
def okLimit (c : Channel) : Bool := (c.sands.all fun s => inb s.reach 1 2) && (c.sights.all fun s => inb s.after 0 c.tides)
def okMiss (c : Channel) : Bool := (c.fords.all fun x => inb x 0 (c.cells - 1)) && (c.sands.all fun s => inb s.span.lo 0 (c.cells - 1) && inb s.span.hi 0 (c.cells - 1)) && (c.sights.all fun s => inb s.cell 0 (c.cells - 1))
def okOrder (c : Channel) : Bool := upB c.fords && (c.sands.all fun s => decide (s.span.lo ≤ s.span.hi))
def chk (c : Channel) : Int := if okMany c = true then (if okLimit c = true then (if okMiss c = true then (if okOrder c = true then 0 else 4) else 1) else 3) else 2
theorem ZO {l : List Sand} (hl : l.length < 1000) : qw l = some (l.all fun s => inb s.reach 1 2) := by
  have := any_loop l default kV (fun s => !inb s.reach 1 2) (by omega) (fun x _ => by unfold kV JG; rw [Yi]; rfl) (f := qi l) (fun s => rfl)
  unfold qw kh kL
  rw [this, Option.bind_some, not_any_not]
theorem Zp (c : Channel) (n : Int) : qs c n = some (inb n 0 c.tides) := by
  unfold qs
  rw [Yi]; rfl
theorem Yv {c : Channel} (h : -1000 ≤ c.cells ∧ c.cells ≤ 1000) (n : Int) : kC c n = some (inb n 0 (c.cells - 1)) := by
  unfold kC
  rw [subc_eq (by omega), Option.bind_some, Yi]; rfl
theorem Zz {l : List Sight} {a b : Int} {f : List Int} {s : List Sand} {g : List Sight} (hl : l.length < 1000) : qk l a b f s g = some (l.all fun x => inb x.after 0 b) := by
  have := any_loop l default (fun x => kP x a b f s g) (fun x => !inb x.after 0 b) (by omega) (fun x _ => by unfold kP JL; rw [Zp]; rfl) (f := k3 l a b f s g) (fun s => rfl)
  unfold qk jY kn
  rw [this, Option.bind_some, not_any_not]
theorem ZW {l : List Int} {c : Channel} (h : -1000 ≤ c.cells ∧ c.cells ≤ 1000) (hl : l.length < 1000) : zh l c = some (l.all fun x => inb x 0 (c.cells - 1)) := by
  have := any_loop l default (fun x => yK x c) (fun x => !inb x 0 (c.cells - 1)) (by omega) (fun x _ => by unfold yK; rw [Yv h]; rfl) (f := zx l c) (fun s => rfl)
  unfold zh yC zm
  rw [this, Option.bind_some, not_any_not]
theorem ZM {l : List Sand} {c : Channel} (h : -1000 ≤ c.cells ∧ c.cells ≤ 1000) (hl : l.length < 1000) : qa l c = some (l.all fun s => inb s.span.lo 0 (c.cells - 1) && inb s.span.hi 0 (c.cells - 1)) := by
  have := any_loop l default (fun x => kD x c) (fun s => !(inb s.span.lo 0 (c.cells - 1) && inb s.span.hi 0 (c.cells - 1))) (by omega) (fun x _ => by
    unfold kD JH
    rw [Yv h, Option.bind_some]
    by_cases h1 : inb x.span.lo 0 (c.cells - 1) = true
    · rw [if_pos h1, Yv h, h1]; rfl
    · rw [if_neg h1]
      have : inb x.span.lo 0 (c.cells - 1) = false := by simpa using h1
      rw [this]; rfl) (f := kZ l c) (fun s => rfl)
  unfold qa jZ km
  rw [this, Option.bind_some, not_any_not]
theorem ZB {l : List Sight} {c : Channel} (h : -1000 ≤ c.cells ∧ c.cells ≤ 1000) (hl : l.length < 1000) : kU l c = some (l.all fun s => inb s.cell 0 (c.cells - 1)) := by
  have := any_loop l default (fun x => kw x c) (fun s => !inb s.cell 0 (c.cells - 1)) (by omega) (fun x _ => by unfold kw JI; rw [Yv h]; rfl) (f := kQ l c) (fun s => rfl)
  unfold kU jT j6
  rw [this, Option.bind_some, not_any_not]
theorem Zu {l : List Sand} (hl : l.length < 1000) : qc l = some (l.all fun s => decide (s.span.lo ≤ s.span.hi)) := by
  have := any_loop l default kE (fun s => !decide (s.span.lo ≤ s.span.hi)) (by omega) (fun x _ => by unfold kE JK; rfl) (f := kY l) (fun s => rfl)
  unfold qc jX kl
  rw [this, Option.bind_some, not_any_not]
theorem okMany_iff {c : Channel} : okMany c = true ↔ (2 ≤ c.cells ∧ c.cells ≤ 10) ∧ (0 ≤ c.tides ∧ c.tides ≤ 4) ∧ (1 ≤ c.fords.length ∧ c.fords.length ≤ 3) ∧ c.sands.length ≤ 4 ∧ c.sights.length ≤ 8 := by
  unfold okMany
  simp only [Bool.and_eq_true, inb_iff, decide_eq_true_eq]
  omega
theorem many_eq {c : Channel} {f : Bool → Option Int} : (((qH c.cells 2 10).bind fun t9 => if (!t9) = true then (some true) else ((qH c.tides 0 4).bind fun t14 => if (!t14) = true then (some true) else ((qH (c.fords.length : Int) 1 3).bind fun t21 => if (!t21) = true then (some true) else (if 4 < (c.sands.length : Int) then (some true) else (some (decide (8 < (c.sights.length : Int)))))))).bind f) = f (!okMany c) := by
  rw [Yi, Yi, Yi]
  simp only [Option.bind_some, not_true_if]
  unfold okMany
  cases inb c.cells 2 10
  · rfl
  cases inb c.tides 0 4
  · rfl
  cases inb (c.fords.length : Int) 1 3
  · rfl
  simp only [if_true, Bool.true_and, Bool.and_eq_true]
  by_cases h : c.sands.length ≤ 4
  · rw [if_neg (by omega)]
    have e : decide (8 < (c.sights.length : Int)) = !decide (c.sights.length ≤ 8) := by
      rw [Bool.eq_iff_iff]
      simp
      omega
    rw [e, Option.bind_some]
    simp [h]
  · rw [if_pos (by omega)]
    simp [h]
theorem Zt (c : Channel) : zp c = some (chk c) := by
  unfold zp chk
  rw [many_eq]
  simp only [not_true_if]
  by_cases h1 : okMany c = true
  · rw [if_pos h1, if_pos h1]
    obtain ⟨hc, ht, hf, hs, hg⟩ := okMany_iff.1 h1
    rw [ZO (by omega), Option.bind_some, Zz (by omega), ZW (by omega) (by omega), ZM (by omega) (by omega), ZB (by omega) (by omega), Z0 (by omega), Zu (by omega)]
    simp only [Option.bind_some]
    unfold okLimit okMiss okOrder
    cases (c.sands.all fun s => inb s.reach 1 2)
    · rfl
    cases (c.sights.all fun s => inb s.after 0 c.tides)
    · rfl
    simp only [if_true, Option.bind_some, Bool.not_true, Bool.false_eq_true, if_false, Bool.and_self]
    cases (c.fords.all fun x => inb x 0 (c.cells - 1))
    · rfl
    cases (c.sands.all fun s => inb s.span.lo 0 (c.cells - 1) && inb s.span.hi 0 (c.cells - 1))
    · rfl
    cases (c.sights.all fun s => inb s.cell 0 (c.cells - 1))
    · rfl
    simp only [if_true, Option.bind_some, Bool.not_true, Bool.false_eq_true, if_false, Bool.and_self]
    cases upB c.fords
    · rfl
    cases (c.sands.all fun s => decide (s.span.lo ≤ s.span.hi))
    · rfl
    rfl
  · rw [if_neg h1, if_neg h1]
structure Right (c : Channel) : Prop where
  cells : 2 ≤ c.cells ∧ c.cells ≤ 10
  tides : 0 ≤ c.tides ∧ c.tides ≤ 4
  fords : 1 ≤ c.fords.length ∧ c.fords.length ≤ 3
  sands : c.sands.length ≤ 4
  sights : c.sights.length ≤ 20
  reach : ∀ s ∈ c.sands, 1 ≤ s.reach ∧ s.reach ≤ 2
  after : ∀ s ∈ c.sights, 0 ≤ s.after ∧ s.after ≤ c.tides
  fcell : ∀ x ∈ c.fords, 0 ≤ x ∧ x < c.cells
  span : ∀ s ∈ c.sands, 0 ≤ s.span.lo ∧ s.span.hi < c.cells ∧ s.span.lo ≤ s.span.hi
  scell : ∀ s ∈ c.sights, 0 ≤ s.cell ∧ s.cell < c.cells
  up : upB c.fords = true
theorem rightOf {c : Channel} (h : chk c = 0) : Right c := by
  unfold chk at h
  have key : Right c := by
    by_cases h1 : okMany c = true
    · rw [if_pos h1] at h
      by_cases h2 : okLimit c = true
      · rw [if_pos h2] at h
        by_cases h3 : okMiss c = true
        · rw [if_pos h3] at h
          by_cases h4 : okOrder c = true
          · obtain ⟨hc, ht, hf, hs, hg⟩ := okMany_iff.1 h1
            simp only [okLimit, Bool.and_eq_true, List.all_eq_true, inb_iff] at h2
            simp only [okMiss, Bool.and_eq_true, List.all_eq_true, inb_iff] at h3
            simp only [okOrder, Bool.and_eq_true, List.all_eq_true, decide_eq_true_eq] at h4
            exact ⟨hc, ht, hf, hs, by omega, h2.1, h2.2, fun x hx => by have := h3.1.1 x hx; omega, fun s hx => by have := h3.1.2 s hx; have := h4.2 s hx; omega, fun s hx => by have := h3.2 s hx; omega, h4.1⟩
          · rw [if_neg h4] at h; exact absurd h (by decide)
        · rw [if_neg h3] at h; exact absurd h (by decide)
      · rw [if_neg h2] at h; exact absurd h (by decide)
    · rw [if_neg h1] at h; exact absurd h (by decide)
  exact key
end Go.Proofs.Wb

namespace Go.Proofs.Wb
set_option maxHeartbeats 4000000
set_option maxRecDepth 100000
open Go Go.Fw Go.Gx Go.Sb
open Tryz
set_option linter.unusedVariables false
def Jb (l0 : (List Int)) : Option (List Int) :=
 (makec 8 0 0 (l0.length : Int)).bind fun t5 =>
 (appc 8 t5 l0).bind fun t7 =>
 some t7
theorem QA (l0 : (List Int)) (qa0 : Option Addr) (na0 ca0 : Nat) (w : World) (hw : HV w (keys [] []) [] [] [(aB qa0, aO qa0, RI.enc l0)] w) (hna0 : l0.length = na0) (hqa0 : AOK na0 qa0) (hla0 : na0 ≤ ca0) {res : (List Int)} (hm : Jb l0 = some res) :
    Calls Tryz.prog 46 #[.slice qa0 na0 ca0] w (fun en w' => ∃ l : VL, en = .returned (sL l) ∧ (VOK 1 l.n l.cap (RI.enc res) l.sp l.q) ∧ HV w (keys [] []) [] [vL 3 l (RI.enc res)] [] w') := by
  unfold Jb at hm
  refine yr func46 Y ntmps46 Y (e := [(0, _)]) Y hw (jr (jc Y Y Y (fun _ _ => yc Y) (k7 (jg Y Y (jc Y Y Y (fun w _ => qd hna0 (runUnderlying22 w) Y) ?_)))))
  obtain ⟨t5, h2, hm⟩ := bindO hm
  refine Y9 RI 0 h2 underlying22 KZ Y Y Y Y Y (fun L h3 => ?_)
  refine jg Y Y ?_
  obtain ⟨t7, h4, hm⟩ := bindO hm
  refine zz RI 0 h4 underlying22 KZ Y Y Y Y Y h3 Y Y hna0 hqa0 (fun w hh => (hh.seg 0 Y)) Y (fun L_1 h5 h5n => ?_)
  refine jV (S' := []) (vs' := [_]) [] [0] 0 Y Y Y Y (jo Y Y (jq (jv ?_)))
  obtain rfl := sj hm
  refine jm Y (fun w hh => (.tmp Y .nil)) (fun w hh => ⟨L_1, rfl, h5, hh.se [] [0] 1 Y Y Y rfl⟩)
def zT (l0 : (List Sand)) : Option (List Sand) :=
 (makec 24 (⟨(⟨0, 0⟩ : Span), 0⟩ : Sand) 0 (l0.length : Int)).bind fun t5 =>
 (appc 24 t5 l0).bind fun t7 =>
 some t7
theorem YA (l0 : (List Sand)) (qa0 : Option Addr) (na0 ca0 : Nat) (w : World) (hw : HV w (keys [] []) [] [] [(aB qa0, aO qa0, RSa.enc l0)] w) (hna0 : l0.length = na0) (hqa0 : AOK na0 qa0) (hla0 : na0 ≤ ca0) {res : (List Sand)} (hm : zT l0 = some res) :
    Calls Tryz.prog 86 #[.slice qa0 na0 ca0] w (fun en w' => ∃ l : VL, en = .returned (sL l) ∧ (VOK 3 l.n l.cap (RSa.enc res) l.sp l.q) ∧ HV w (keys [] []) [] [vL 98 l (RSa.enc res)] [] w') := by
  unfold zT at hm
  refine yr func86 Y ntmps86 Y (e := [(0, _)]) Y hw (jr (jc Y Y Y (fun _ _ => yc Y) (k7 (jg Y Y (jc Y Y Y (fun w _ => qd hna0 (runUnderlying23 w) Y) ?_)))))
  obtain ⟨t5, h2, hm⟩ := bindO hm
  refine Y9 RSa (⟨(⟨0, 0⟩ : Span), 0⟩ : Sand) h2 underlying23 Zy Y Y Y Y Y (fun L h3 => ?_)
  refine jg Y Y ?_
  obtain ⟨t7, h4, hm⟩ := bindO hm
  refine zz RSa 0 h4 underlying23 Zy Y Y Y Y Y h3 Y Y hna0 hqa0 (fun w hh => (hh.seg 0 Y)) Y (fun L_1 h5 h5n => ?_)
  refine jV (S' := []) (vs' := [_]) [] [0] 0 Y Y Y Y (jo Y Y (jq (jv ?_)))
  obtain rfl := sj hm
  refine jm Y (fun w hh => (.tmp Y .nil)) (fun w hh => ⟨L_1, rfl, h5, hh.se [] [0] 1 Y Y Y rfl⟩)
def zF (l0 : (List Sight)) : Option (List Sight) :=
 (makec 24 (⟨0, 0, false⟩ : Sight) 0 (l0.length : Int)).bind fun t5 =>
 (appc 24 t5 l0).bind fun t7 =>
 some t7
theorem Yq (l0 : (List Sight)) (qa0 : Option Addr) (na0 ca0 : Nat) (w : World) (hw : HV w (keys [] []) [] [] [(aB qa0, aO qa0, RSi.enc l0)] w) (hna0 : l0.length = na0) (hqa0 : AOK na0 qa0) (hla0 : na0 ≤ ca0) {res : (List Sight)} (hm : zF l0 = some res) :
    Calls Tryz.prog 87 #[.slice qa0 na0 ca0] w (fun en w' => ∃ l : VL, en = .returned (sL l) ∧ (VOK 3 l.n l.cap (RSi.enc res) l.sp l.q) ∧ HV w (keys [] []) [] [vL 55 l (RSi.enc res)] [] w') := by
  unfold zF at hm
  refine yr func87 Y ntmps87 Y (e := [(0, _)]) Y hw (jr (jc Y Y Y (fun _ _ => yc Y) (k7 (jg Y Y (jc Y Y Y (fun w _ => qd hna0 (runUnderlying24 w) Y) ?_)))))
  obtain ⟨t5, h2, hm⟩ := bindO hm
  refine Y9 RSi (⟨0, 0, false⟩ : Sight) h2 underlying24 YP Y Y Y Y Y (fun L h3 => ?_)
  refine jg Y Y ?_
  obtain ⟨t7, h4, hm⟩ := bindO hm
  refine zz RSi 0 h4 underlying24 YP Y Y Y Y Y h3 Y Y hna0 hqa0 (fun w hh => (hh.seg 0 Y)) Y (fun L_1 h5 h5n => ?_)
  refine jV (S' := []) (vs' := [_]) [] [0] 0 Y Y Y Y (jo Y Y (jq (jv ?_)))
  obtain rfl := sj hm
  refine jm Y (fun w hh => (.tmp Y .nil)) (fun w hh => ⟨L_1, rfl, h5, hh.se [] [0] 1 Y Y Y rfl⟩)
def yT (c0 : Channel) : Option Channel :=
 (Jb c0.fords).bind fun t9 =>
 (zT c0.sands).bind fun t12 =>
 (zF c0.sights).bind fun t15 =>
 some (⟨c0.cells, c0.tides, t9, t12, t15⟩ : Channel)
theorem Qt (c0 : Channel) (qa0 : Option Addr) (na0 ca0 : Nat) (qa1 : Option Addr) (na1 ca1 : Nat) (qa2 : Option Addr) (na2 ca2 : Nat) (w : World) (hw : HV w (keys [] []) [] [] [(aB qa0, aO qa0, RI.enc c0.fords), (aB qa1, aO qa1, RSa.enc c0.sands), (aB qa2, aO qa2, RSi.enc c0.sights)] w) (hna0 : c0.fords.length = na0) (hqa0 : AOK na0 qa0) (hla0 : na0 ≤ ca0) (hna1 : c0.sands.length = na1) (hqa1 : AOK na1 qa1) (hla1 : na1 ≤ ca1) (hna2 : c0.sights.length = na2) (hqa2 : AOK na2 qa2) (hla2 : na2 ≤ ca2) {res : Channel} (hm : yT c0 = some res) :
    Calls Tryz.prog 20 #[.agg #[.int .i64 c0.cells, .int .i64 c0.tides, .slice qa0 na0 ca0, .slice qa1 na1 ca1, .slice qa2 na2 ca2]] w (fun en w' => ∃ l : VL × VL × VL, en = .returned (.agg #[.int .i64 res.cells, .int .i64 res.tides, sL l.1, sL l.2.1, sL l.2.2]) ∧ (VOK 1 l.1.n l.1.cap (RI.enc res.fords) l.1.sp l.1.q ∧ VOK 3 l.2.1.n l.2.1.cap (RSa.enc res.sands) l.2.1.sp l.2.1.q ∧ VOK 3 l.2.2.n l.2.2.cap (RSi.enc res.sights) l.2.2.sp l.2.2.q) ∧ HV w (keys [] []) [] [vL 3 l.1 (RI.enc res.fords), vL 98 l.2.1 (RSa.enc res.sands), vL 55 l.2.2 (RSi.enc res.sights)] [] w') := by
  unfold yT at hm
  refine yr func20 Y ntmps20 Y (e := [(0, _)]) Y hw (jr ?_)
  refine jI Y Y (fun b h4 => ?_)
  refine js (fun w => zeroValue26 w) Y (fun b_1 h5 => ?_)
  refine jq (ji ?_)
  refine ky none (.free 0 (.hoist 1 (.free 2 (.hoist 3 (.free 4 (.hoist 5 (.free 7 (.hoist 8 (.free 10 (.hoist 11 (.one 6 (.one 9 (.one 12 (.free 13 (.one 14 .done))))))))))))))) (HV _ _ [kc b #[.int .i64 c0.cells, .int .i64 c0.tides, .slice qa0 na0 ca0, .slice qa1 na1 ca1, .slice qa2 na2 ca2] 26] [] _) Y (by decide +kernel) (fun w k hh => hh.draw k) (hsE [1] [] 0 Y Y Y Y) ?_
  refine JT 0 runUnderlying26 sizeOf3 Y Y Y Y (Kg 0 isAgg3 Y Y Y Y Y (JT 1 runUnderlying26 sizeOf3 Y Y Y Y (Kg 0 isAgg3 Y Y Y Y Y (JT 2 runUnderlying26 sizeOf22 Y Y Y Y (Kg 0 isAgg22 Y Y Y Y Y (JT 3 runUnderlying26 sizeOf23 Y Y Y Y (Kg 0 isAgg23 Y Y Y Y Y ?_)))))))
  refine JT 4 runUnderlying26 sizeOf24 Y Y Y Y (Kg 0 isAgg24 Y Y Y Y Y (jA Y ?_))
  obtain ⟨t9, h6, hm⟩ := bindO hm
  refine jd [] [] Y Y Y Y Y Y Y call46 (fun w hh => QA c0.fords qa0 na0 ca0 w (HV.callee (S0 := []) (vs0 := []) hh (roR hh 0 Y roN)) hna0 hqa0 hla0 h6) (fun l h7 => ?_)
  have h8 := h7
  refine jV (S' := [_, _]) (vs' := [_]) [0, 1] [0] 0 Y Y Y Y (jj (hsE [1] [] 0 Y Y Y Y) (jA Y ?_))
  obtain ⟨t12, h9, hm⟩ := bindO hm
  refine jd [] [] Y Y Y Y Y Y Y call86 (fun w hh => YA c0.sands qa1 na1 ca1 w (HV.callee (S0 := []) (vs0 := []) hh (roR hh 1 Y roN)) hna1 hqa1 hla1 h9) (fun l_1 h10 => ?_)
  have h11 := h10
  refine jV (S' := [_, _]) (vs' := [_, _]) [0, 1] [0, 1] 0 Y Y Y Y (jj (hsE [1] [] 0 Y Y Y Y) (jA Y ?_))
  obtain ⟨t15, h12, hm⟩ := bindO hm
  refine jd [] [] Y Y Y Y Y Y Y call87 (fun w hh => Yq c0.sights qa2 na2 ca2 w (HV.callee (S0 := []) (vs0 := []) hh (roR hh 2 Y roN)) hna2 hqa2 hla2 h12) (fun l_2 h13 => ?_)
  have h14 := h13
  refine jV (S' := [_, _]) (vs' := [_, _, _]) [0, 1] [0, 1, 2] 0 Y Y Y Y (jj (hsE [1] [] 0 Y Y Y Y) (jn Y Y Y Y (fun _ _ => k9 (vs := [(0, _), (1, _), (2, _), (3, _), (4, _)]) (cells := [_, _, _, _, _]) Y Y) (jA Y (kz (us := #[_, _, _, _, _]) (cs' := [_, _, _, _, _]) (S' := [_, _]) 0 (fun w => sizeOf26 w) Y Y Y Y Y Y Y (jj (hsE [1] [] 0 Y Y Y Y) (jM (ja ?_)))))))
  refine jv ?_
  obtain rfl := sj hm
  refine jm Y (fun w hh => (.cell Y (loadVar_agg (vs := [_, _, _, _, _]) (isAgg26 _) (sizeOf26 _) (hh.cells 0 Y Y)) .nil)) (fun w hh => ⟨(l, l_1, l_2), rfl, ⟨h8, h11, h14⟩, hh.se [] [2, 1, 0] 3 Y Y Y rfl⟩)
end Go.Proofs.Wb

namespace Go.Gx
open Go
theorem eq_loop {α : Type} [DecidableEq α] {a b : List α} (d : α) (hl : a.length = b.length) (hn : a.length < 1000000) {f : Int → Option (Int ⊕ (Unit ⊕ Bool))}
    (hf : ∀ s, f s = if s < (a.length : Int) then ((ix a s).bind fun x => (ix b s).bind fun y => if x = y then ((addc s 1).bind fun k => some (.inl k)) else some (.inr (.inr false))) else some (.inr (.inl ()))) :
    ((iterM FU f 0).bind fun o => oc o (fun _ => (some true : Option Bool)) (fun r => some r)) = some (decide (a = b)) := by
  have key := iterM_any0 (f := f) a.length (fun k => decide (¬ a.getD k d = b.getD k d)) false (fun k hk => by
    rw [hf, if_pos (by omega), ix_nat d hk, Option.bind_some, ix_nat d (by omega), Option.bind_some]
    by_cases h : a.getD k d = b.getD k d
    · rw [if_pos h, addc_eq (by omega), Option.bind_some, if_neg (by simpa using h)]
    · rw [if_neg h, if_pos (by simpa using h)]) (by rw [hf, if_neg (by omega)]) (N := FU) (FU_lt (by omega))
  rw [key, Option.bind_some]
  by_cases h : a = b
  · subst h
    have : ((List.range a.length).any fun k => decide (¬ a.getD k d = a.getD k d)) = false := by
      rw [List.any_eq_false]; intro x _; simp
    rw [this]; simp
  · have : ((List.range a.length).any fun k => decide (¬ a.getD k d = b.getD k d)) = true := by
      cases h2 : ((List.range a.length).any fun k => decide (¬ a.getD k d = b.getD k d)) with
      | true => rfl
      | false =>
        exfalso
        apply h
        apply List.ext_getElem hl
        intro i hi hi'
        have h3 := List.any_eq_false.1 h2 i (by simpa using hi)
        simpa [List.getD_eq_getElem?_getD, hi, hi'] using h3
    rw [this]; simp [h]
end Go.Gx
namespace Go.Proofs.Wb
open Go Go.Fw Go.Gx Go.Sb
set_option linter.unusedVariables false
theorem Zr {a b : List Int} (hn : a.length < 1000000) : JW a b = some (decide (a = b)) := by
  unfold JW Jp
  by_cases h : a.length = b.length
  · rw [if_pos (by omega), eq_loop 0 h hn (f := Jx a b) (fun s => rfl)]; rfl
  · rw [if_neg (by omega), Option.bind_some]
    congr 1
    symm
    rw [decide_eq_false_iff_not]
    intro e; exact h (by rw [e])
def Few (c : Channel) : Prop := c.fords.length ≤ 100 ∧ c.sands.length ≤ 100 ∧ c.sights.length ≤ 100
theorem Y2 {l : List Int} (h : l.length ≤ 100000) : Jb l = some l := by
  unfold Jb
  rw [makec_eq (by omega), Option.bind_some, appc_eq (by simp; omega)]
  simp
theorem Own_eq {c : Channel} (h : Few c) : yT c = some c := by
  obtain ⟨h1, h2, h3⟩ := h
  unfold yT zT zF
  rw [Y2 (by omega), makec_eq (by omega), makec_eq (by omega)]
  simp only [Option.bind_some]
  rw [appc_eq (by simp; omega), appc_eq (by simp; omega)]
  simp
end Go.Proofs.Wb

namespace Go.Proofs.Wb
open Go Go.Fw Go.Gx Go.Sb
set_option linter.unusedVariables false
def stepR (x : Int) (r : Int) (s : Sand) : Int := if s.span.lo ≤ x ∧ x ≤ s.span.hi then max r s.reach else r
def rchC (l : List Sand) (x : Int) : Int := l.foldl (stepR x) 0
def rchL (c : Channel) : List Int := (List.range c.cells.toNat).map fun t : Nat => rchC c.sands (t : Int)
theorem rchC_snoc {l : List Sand} {s : Sand} {x : Int} : rchC (l ++ [s]) x = stepR x (rchC l x) s := by unfold rchC; rw [List.foldl_append]; rfl
theorem rchC_bounds {l : List Sand} {x : Int} (h : ∀ s ∈ l, 1 ≤ s.reach ∧ s.reach ≤ 2) : 0 ≤ rchC l x ∧ rchC l x ≤ 2 := by
  unfold rchC
  have key : ∀ (l : List Sand) (r : Int), (∀ s ∈ l, 1 ≤ s.reach ∧ s.reach ≤ 2) → 0 ≤ r ∧ r ≤ 2 → 0 ≤ l.foldl (stepR x) r ∧ l.foldl (stepR x) r ≤ 2 := by
    intro l
    induction l with
    | nil => intro r _ h; exact h
    | cons s l ih =>
      intro r h hr
      rw [List.foldl_cons]
      refine ih _ (fun t ht => h t (List.mem_cons_of_mem _ ht)) ?_
      have := h s List.mem_cons_self
      unfold stepR
      split <;> omega
  exact key l 0 h (by omega)
theorem reaches_in {n : Nat} {f : Nat → Int} {s : Sand} (h0 : 0 ≤ s.span.lo) (h1 : s.span.hi < n) (h2 : s.span.lo ≤ s.span.hi) (hn : n ≤ 1000) :
    iterM FU (kr s) ⟨s.span.lo, (List.range n).map f⟩ = some ((List.range n).map fun t : Nat => stepR (t : Int) (f t) s) := by
  have key := iterM_run (f := kr s) (fun j => ⟨s.span.lo + (j : Int), (List.range n).map fun t : Nat => if (s.span.lo ≤ (t : Int) ∧ (t : Int) < s.span.lo + (j : Int)) then max (f t) s.reach else f t⟩) (s.span.hi - s.span.lo + 1).toNat (b := (List.range n).map fun t : Nat => stepR (t : Int) (f t) s) (fun j hj => ?_) ?_ FU (FU_lt (by omega))
  · have e : ((List.range n).map fun t : Nat => if (s.span.lo ≤ (t : Int) ∧ (t : Int) < s.span.lo + ((0 : Nat) : Int)) then max (f t) s.reach else f t) = (List.range n).map f := by
      apply List.map_congr_left
      intro t _
      rw [if_neg (by omega)]
    simp only [e] at key
    simpa using key
  · unfold kr
    simp only
    have ej : s.span.lo + (j : Int) = ((s.span.lo.toNat + j : Nat) : Int) := by omega
    rw [if_pos (by omega), ej, range_ix (by omega), Option.bind_some, Option.bind_some, Int.toNat_natCast, range_set, Option.bind_some, addc_eq (by omega), Option.bind_some]
    congr 3
    · omega
    · apply List.map_congr_left
      intro t ht
      by_cases h : t = s.span.lo.toNat + j
      · rw [if_pos h, if_neg (by omega), if_pos (by omega)]; rw [h]
      · rw [if_neg h]
        by_cases h3 : s.span.lo ≤ (t : Int) ∧ (t : Int) < ((s.span.lo.toNat + j : Nat) : Int)
        · rw [if_pos h3, if_pos (by omega)]
        · rw [if_neg h3, if_neg (by omega)]
  · unfold kr
    simp only
    rw [if_neg (by omega)]
    congr 2
    apply List.map_congr_left
    intro t ht
    unfold stepR
    by_cases h3 : s.span.lo ≤ (t : Int) ∧ (t : Int) ≤ s.span.hi
    · rw [if_pos h3, if_pos (by omega)]
    · rw [if_neg h3, if_neg (by omega)]
theorem ZH {c : Channel} (r : Right c) : k6 c = some (rchL c) := by
  have hc := r.cells
  have hs := r.sands
  unfold k6
  rw [makec_eq (by omega), Option.bind_some]
  have key := iterM_run (f := qb c) (fun j => ⟨(j : Int), (List.range c.cells.toNat).map fun t : Nat => rchC (c.sands.take j) (t : Int)⟩) c.sands.length (b := rchL c) (fun j hj => ?_) ?_ FU (FU_lt (by omega))
  · have e : List.replicate c.cells.toNat (0 : Int) = (List.range c.cells.toNat).map fun t : Nat => rchC (c.sands.take 0) (t : Int) := by
      apply List.ext_getElem (by simp)
      intro i h1 h2
      simp [rchC]
    rw [e, show (0 : Int) = ((0 : Nat) : Int) from rfl, key]
    rfl
  · have e : c.sands.take (j + 1) = c.sands.take j ++ [c.sands[j]] := by rw [List.take_append_getElem]
    have hx : c.sands.getD j default = c.sands[j] := by simp [List.getD_eq_getElem?_getD, hj]
    have hsp := r.span c.sands[j] (List.getElem_mem hj)
    unfold qb
    simp only
    rw [if_pos (by omega), ix_nat default hj, Option.bind_some, hx, reaches_in hsp.1 (by omega) hsp.2.2 (by omega), Option.bind_some, addc_eq (by omega), Option.bind_some]
    congr 3
    apply List.map_congr_left
    intro t _
    rw [e, rchC_snoc]
  · unfold qb
    simp only
    rw [if_neg (by omega), List.take_length]
    rfl
theorem rchL_len {c : Channel} : (rchL c).length = c.cells.toNat := by simp [rchL]
theorem rchL_get {c : Channel} {x : Int} (h : 0 ≤ x ∧ x < c.cells) : (rchL c).getD x.toNat 0 = rchC c.sands x := by
  unfold rchL
  rw [List.getD_eq_getElem?_getD, List.getElem?_map, List.getElem?_range (by omega)]
  simp
  congr 1
  omega
theorem Qx {c : Channel} (h : Few c) : yw c = some (if chk c = 0 then .inr ⟨c.cells, c.tides, rchL c⟩ else .inl (chk c)) := by
  unfold yw
  rw [Zt, Option.bind_some]
  by_cases h0 : chk c = 0
  · rw [if_pos h0, if_pos h0, ZH (rightOf h0)]; rfl
  · rw [if_neg h0, if_neg h0, if_pos h0]
end Go.Proofs.Wb

namespace Go.Proofs.Wb
open Go Go.Fw Go.Gx Go.Sb
set_option linter.unusedVariables false
set_option maxRecDepth 100000
theorem ZQ : ∀ {l : List Int}, l.length ≤ 3 → J3 l = some (mkCells l)
  | [], _ => by decide +kernel
  | [a], _ => rfl
  | [a, b], _ => rfl
  | [a, b, c], _ => rfl
  | a :: b :: c :: d :: l, h => absurd h (by simp)
def clS (nf : Nat) (s : State) : List Int := [s.at_.c0, s.at_.c1, s.at_.c2].take nf
theorem clS_mk {l : List Int} {k : Int} (h : l.length ≤ 3) : clS l.length ⟨k, mkCells l⟩ = l := by
  unfold clS mkCells
  match l, h with
  | [], _ => rfl
  | [a], _ => rfl
  | [a, b], _ => rfl
  | [a, b, c], _ => rfl
  | a :: b :: c :: d :: l, h => exact absurd h (by simp)
theorem Zc {d0 d1 : Int} {f : List Int} {a : List Sand} {b : List Sight} {r : List Int} (h : f.length ≤ 3) (s : State) : kW d0 d1 f a b r s = some (clS f.length s) := by
  unfold kW
  rw [if_pos (by simp; omega), Int.toNat_natCast, KH (by simp; omega)]
  rfl
theorem Jm {l : List Int} (hl : l.length < 1000000) (v : Int) : jS l v = some (decide (v ∈ l)) := by
  unfold jS Jf
  rw [contains_loop (f := yL l v) l 0 (fun x => decide (v = x)) (by omega) (fun k hk => ?_) ?_]
  · congr 1
    rw [Bool.eq_iff_iff, List.any_eq_true, decide_eq_true_eq]
    constructor
    · rintro ⟨x, hx, he⟩
      rw [decide_eq_true_eq] at he
      subst he; exact hx
    · intro h; exact ⟨v, h, by simp⟩
  · unfold yL
    rw [if_neg (by omega)]
  · unfold yL
    rw [if_pos (by omega), ix_nat 0 hk, Option.bind_some, addc_eq (by omega), Option.bind_some]
    by_cases h : v = l.getD k 0
    · rw [if_pos h, if_pos (by simpa using h)]
    · rw [if_neg h, if_neg (by simpa using h)]
def offS (k : Int) (l : List Int) (x : Sight) : Bool := decide (x.after = k) && !(decide (x.cell ∈ l) == x.upright)
def agP (cnt : Nat → Bool) (sg : List Sight) (k : Int) (l : List Int) : Bool := !(List.range sg.length).any fun i => cnt i && offS k l (sg.getD i default)
theorem agP_iff {cnt : Nat → Bool} {sg : List Sight} {k : Int} {l : List Int} : agP cnt sg k l = true ↔ ∀ i, i < sg.length → cnt i = true → (sg.getD i default).after = k → (decide ((sg.getD i default).cell ∈ l) = (sg.getD i default).upright) := by
  unfold agP
  rw [Bool.not_eq_true', List.any_eq_false]
  simp only [List.mem_range, offS, Bool.and_eq_true, decide_eq_true_eq, Bool.not_eq_true', not_and, Bool.not_eq_false, beq_iff_eq]
theorem ZU {d0 d1 : Int} {f : List Int} {a : List Sand} {sg : List Sight} {r : List Int} (h : f.length ≤ 3) (hs : sg.length ≤ 100) (s : State) : yJ d0 d1 f a sg r s = some (agP (fun _ => true) sg s.after (clS f.length s)) := by
  unfold yJ
  rw [iterM_any0 (f := qO sg s d0 d1 f a r) sg.length (fun k => offS s.after (clS f.length s) (sg.getD k default)) false (fun k hk => ?_) ?_ (FU_lt (by omega)), Option.bind_some]
  · unfold agP
    simp only [Bool.true_and]
    cases (List.range sg.length).any fun k => offS s.after (clS f.length s) (sg.getD k default) <;> rfl
  · unfold qO
    rw [if_neg (by omega)]
  · unfold qO Kr
    rw [if_pos (by omega), ix_nat default hk, Option.bind_some, Zc h, Option.bind_some, if_pos rfl, Option.bind_some, Jm (by unfold clS; simp; omega), Option.bind_some, addc_eq (by omega)]
    unfold offS
    by_cases h1 : (sg.getD k default).after = s.after
    · rw [if_pos h1, Option.bind_some, decide_eq_true h1, Bool.true_and]
      split <;> rfl
    · rw [if_neg h1, Option.bind_some, decide_eq_false h1, Bool.false_and]
      rfl
theorem KG {d0 d1 : Int} {f : List Int} {a : List Sand} {b : List Sight} {r : List Int} (h : f.length ≤ 3) : jB d0 d1 f a b r = some ⟨0, mkCells f⟩ := by
  unfold jB
  rw [ZQ h]; rfl
theorem agP_congr {c1 c2 : Nat → Bool} {sg : List Sight} {k : Int} {l : List Int} (h : ∀ i, i < sg.length → c1 i = c2 i) : agP c1 sg k l = agP c2 sg k l := by
  rw [Bool.eq_iff_iff, agP_iff, agP_iff]
  constructor
  · intro h1 i hi hc; exact h1 i hi (by rw [h i hi]; exact hc)
  · intro h1 i hi hc; exact h1 i hi (by rw [← h i hi]; exact hc)
end Go.Proofs.Wb

namespace Go.Proofs.Wb
open Go Go.Fw Go.Gx Go.Sb
set_option linter.unusedVariables false
set_option maxRecDepth 100000
def canB (sa : List Sand) (a b : List Int) : Bool := (List.range a.length).all fun i => inb (b.getD i (-1)) (a.getD i (-1) - rchC sa (a.getD i (-1))) (a.getD i (-1) + rchC sa (a.getD i (-1)))
def rowB (c : Channel) (l : List Int) : Bool := decide (l.length = c.fords.length) && (upB l && l.all fun x => inb x 0 (c.cells - 1))
theorem rowB_iff {c : Channel} {l : List Int} : rowB c l = true ↔ l.length = c.fords.length ∧ upB l = true ∧ ∀ x ∈ l, 0 ≤ x ∧ x < c.cells := by
  unfold rowB
  simp only [Bool.and_eq_true, decide_eq_true_eq, List.all_eq_true, inb_iff]
  constructor
  · rintro ⟨h1, h2, h3⟩; exact ⟨h1, h2, fun x hx => by have := h3 x hx; omega⟩
  · rintro ⟨h1, h2, h3⟩; exact ⟨h1, h2, fun x hx => by have := h3 x hx; omega⟩
theorem getD_mem {l : List Int} {i : Nat} {d : Int} (h : i < l.length) : l.getD i d ∈ l := by
  rw [List.getD_eq_getElem?_getD, List.getElem?_eq_getElem h]
  exact List.getElem_mem h
end Go.Proofs.Wb

namespace Go.Proofs.Wb
open Go Go.Fw Go.Gx Go.Sb
set_option linter.unusedVariables false
set_option maxRecDepth 100000
theorem cGet_mk {l : List Int} {i : Nat} (h : i < 3) : cGet (mkCells l) i = l.getD i (-1) := by
  have : i = 0 ∨ i = 1 ∨ i = 2 := by omega
  rcases this with rfl | rfl | rfl <;> rfl
theorem rch_eq {c : Channel} {x : Int} (h : 0 ≤ x ∧ x < c.cells) : rch (rchL c) x = rchC c.sands x := rchL_get h
theorem nextOK_of {c : Channel} (r : Right c) {a : List Int} (ha : rowB c a = true) {k : Int} (hk : -1000 ≤ k ∧ k ≤ 1000) : nextOK c.cells (rchL c) (c.fords.length : Int) ⟨k, mkCells a⟩ := by
  obtain ⟨h1, h2, h3⟩ := rowB_iff.1 ha
  have hc := r.cells
  have hf := r.fords
  refine ⟨by omega, by omega, hk.1, hk.2, fun i hi => ?_⟩
  rw [Int.toNat_natCast] at hi
  simp only
  rw [cGet_mk (by omega)]
  have h4 := h3 _ (getD_mem (l := a) (i := i) (d := -1) (by omega))
  have h5 := rchC_bounds (x := a.getD i (-1)) r.reach
  rw [rchL_get h4, rchL_len]
  omega
theorem can_iff {c : Channel} (r : Right c) {a l : List Int} (ha : rowB c a = true) (hl : rowB c l = true) : canB c.sands a l = true ↔ CanS c.cells (rchL c) c.fords.length (mkCells a) l := by
  obtain ⟨a1, a2, a3⟩ := rowB_iff.1 ha
  obtain ⟨l1, l2, l3⟩ := rowB_iff.1 hl
  have hf := r.fords
  unfold canB
  simp only [List.all_eq_true, List.mem_range, inb_iff]
  constructor
  · intro h
    refine ⟨l1, fun i hi => l3 _ (getD_mem (by omega)), fun i hi => ?_, fun i hi => upB_ix.1 l2 i (by omega)⟩
    rw [cGet_mk (by omega), rch_eq (a3 _ (getD_mem (by omega)))]
    exact h i (by omega)
  · intro h i hi
    have := h.near i (by omega)
    rw [cGet_mk (by omega), rch_eq (a3 _ (getD_mem (by omega)))] at this
    exact this
end Go.Proofs.Wb

namespace Go.Gx
open Go
theorem afind_none {α β : Type} [DecidableEq α] : ∀ {l : List (α × β)} {k : α} {i : Nat}, afind l k i = none ↔ ∀ p, p ∈ l → p.1 ≠ k
  | [], k, i => by simp [afind]
  | (k', v') :: r, k, i => by
    unfold afind
    by_cases h : k = k'
    · rw [if_pos h]
      constructor
      · intro h2; cases h2
      · intro h2; exact absurd h.symm (h2 (k', v') (by simp))
    · rw [if_neg h, afind_none]
      constructor
      · intro h2 p hp
        rcases List.mem_cons.1 hp with rfl | hp
        · exact fun e => h e.symm
        · exact h2 p hp
      · intro h2 p hp; exact h2 p (List.mem_cons_of_mem _ hp)
theorem aget_val {α β : Type} [DecidableEq α] : ∀ {l : List (α × β)} {k : α} {i : Nat}, (afind l k i).map (·.2) = (l.find? fun p => decide (p.1 = k)).map (·.2)
  | [], k, i => rfl
  | (k', v') :: r, k, i => by
    unfold afind
    by_cases h : k = k'
    · rw [if_pos h, List.find?_cons, decide_eq_true h.symm]; rfl
    · rw [if_neg h, aget_val (i := i + 1), List.find?_cons, decide_eq_false (fun e => h e.symm)]
theorem find_modify {α β : Type} [DecidableEq α] (v : β) (k x : α) : ∀ {l : List (α × β)} {i j : Nat} {v0 : β}, afind l k j = some (i, v0) → ((l.modify (i - j) (fun p => (p.1, v))).find? fun p => decide (p.1 = x)).map (·.2) = if x = k then some v else (l.find? fun p => decide (p.1 = x)).map (·.2)
  | [], i, j, v0, h => by cases h
  | (k', v') :: r, i, j, v0, h => by
    unfold afind at h
    by_cases hk : k = k'
    · rw [if_pos hk] at h
      cases h
      rw [Nat.sub_self, List.modify_zero_cons, List.find?_cons, List.find?_cons]
      subst hk
      by_cases hx : k = x
      · rw [decide_eq_true hx, if_pos hx.symm]; rfl
      · rw [decide_eq_false hx, if_neg (fun e => hx e.symm)]
    · rw [if_neg hk] at h
      have hle := (afind_some h).1
      have e : i - j = (i - (j + 1)) + 1 := by omega
      rw [e, List.modify_succ_cons, List.find?_cons, List.find?_cons]
      have ih := find_modify v k x h
      by_cases hx : k' = x
      · rw [decide_eq_true hx, if_neg (fun e => hk (by rw [← e, hx]))]
      · rw [decide_eq_false hx]; exact ih
theorem aget_aset {α β : Type} [DecidableEq α] (l : List (α × β)) (k x : α) (v : β) : aget (aset l k v) x = if x = k then some v else aget l x := by
  unfold aget aset
  rw [aget_val, aget_val]
  cases h : afind l k 0 with
  | none =>
    simp only
    rw [List.find?_append]
    by_cases hx : x = k
    · subst hx
      have : (l.find? fun p => decide (p.1 = x)) = none := by
        rw [List.find?_eq_none]
        intro p hp
        simpa using afind_none.1 h p hp
      rw [this, if_pos rfl]
      simp
    · rw [if_neg hx]
      have : (List.find? (fun p : α × β => decide (p.1 = x)) [(k, v)]) = none := by
        rw [List.find?_cons, decide_eq_false (fun e => hx e.symm)]; rfl
      rw [this, Option.or_none]
  | some p =>
    obtain ⟨i, v0⟩ := p
    exact find_modify v k x h
end Go.Gx
namespace Go.Proofs.Wb
open Go Go.Fw Go.Gx Go.Sb
set_option linter.unusedVariables false
abbrev ML := List (State × Int)
def fR (M : State → ML → Option (Int × ML)) (x : State) (p : Int × ML) : Option (Int × ML) := (M x p.2).bind fun q => (addc p.1 q.1).bind fun t => some (t, q.2)
structure RestEq (M : Nat → State → ML → Option (Int × ML)) (V : State → Prop) (ag : State → Bool) (nx : State → List State) (T : Int) : Prop where
  eq : ∀ fu s ml, V s → M (fu + 1) s ml = if (aget ml s).isSome = true then some ((aget ml s).getD 0, ml) else if ag s = true then (if s.after = T then some (1, aset ml s 1) else (iterL (fR (M fu)) (nx s) (0, ml)).bind fun p => some (p.1, aset p.2 s p.1)) else some (0, aset ml s 0)
  nxV : ∀ s t, V s → s.after < T → t ∈ nx s → V t ∧ t.after = s.after + 1
  le : ∀ s, V s → s.after ≤ T
  len : ∀ s, (nx s).length ≤ 1000
theorem sum_le {α : Type} (f : α → Nat) (B : Nat) : ∀ (l : List α), (∀ x ∈ l, f x ≤ B) → (l.map f).sum ≤ l.length * B
  | [], _ => by simp
  | x :: l, h => by
    rw [List.map_cons, List.sum_cons, List.length_cons, Nat.succ_mul]
    have h1 := h x List.mem_cons_self
    have h2 := sum_le f B l (fun y hy => h y (List.mem_cons_of_mem _ hy))
    omega
theorem R_le {nx : State → List State} {ag : State → Bool} (h : ∀ s, (nx s).length ≤ 1000) : ∀ k s, R nx ag k s ≤ 1000 ^ k
  | 0, s => by rw [R]; split <;> simp
  | k + 1, s => by
    rw [R]
    split
    · have h1 := sum_le (R nx ag k) (1000 ^ k) (nx s) (fun x _ => R_le h k x)
      have h2 := Nat.mul_le_mul_right (1000 ^ k) (h s)
      rw [Nat.pow_succ, Nat.mul_comm]
      omega
    · exact Nat.zero_le _
section
variable {nx : State → List State} {ag : State → Bool} {T : Int}
def valR (nx : State → List State) (ag : State → Bool) (T : Int) (s : State) : Int := (R nx ag (T - s.after).toNat s : Nat)
def Sound (nx : State → List State) (ag : State → Bool) (T : Int) (ml : ML) : Prop := ∀ x v, aget ml x = some v → v = valR nx ag T x
def Closed (nx : State → List State) (ag : State → Bool) (T : Int) (ml : ML) : Prop := ∀ x, (aget ml x).isSome = true → ag x = true → x.after < T → ∀ t ∈ nx x, (aget ml t).isSome = true
def Grows (ml ml' : ML) : Prop := ∀ x, (aget ml x).isSome = true → (aget ml' x).isSome = true
theorem Grows.trans {a b c : ML} (h : Grows a b) (h' : Grows b c) : Grows a c := fun x hx => h' x (h x hx)
theorem Sound.set {ml : ML} (h : Sound nx ag T ml) {s : State} {v : Int} (hv : v = valR nx ag T s) : Sound nx ag T (aset ml s v) := by
  intro x w hx
  rw [aget_aset] at hx
  split at hx
  · rename_i e; subst e; rw [← Option.some.inj hx]; exact hv
  · exact h x w hx
theorem Grows.set (ml : ML) (s : State) (v : Int) : Grows ml (aset ml s v) := by
  intro x hx
  rw [aget_aset]
  split
  · rfl
  · exact hx
theorem Closed.set {ml : ML} (h : Closed nx ag T ml) {s : State} {v : Int} (hs : ag s = true → s.after < T → ∀ t ∈ nx s, (aget ml t).isSome = true) : Closed nx ag T (aset ml s v) := by
  intro x hx ha hl t ht
  by_cases e : x = s
  · subst e; exact Grows.set ml x v t (hs ha hl t ht)
  · rw [aget_aset, if_neg e] at hx
    exact Grows.set ml s v t (h x hx ha hl t ht)
def Good (nx : State → List State) (ag : State → Bool) (T : Int) (ml : ML) (s : State) (r : Option (Int × ML)) : Prop := ∃ ml', r = some (valR nx ag T s, ml') ∧ Sound nx ag T ml' ∧ Closed nx ag T ml' ∧ Grows ml ml' ∧ (aget ml' s).isSome = true
theorem rest_loop {M : State → ML → Option (Int × ML)} : ∀ (l : List State) (n : Int) (ml : ML), (∀ x ∈ l, ∀ ml, Sound nx ag T ml → Closed nx ag T ml → Good nx ag T ml x (M x ml)) → 0 ≤ n → n + ((l.length : Nat) : Int) * 1000000000000 ≤ 1000000000000000 → (∀ x ∈ l, valR nx ag T x ≤ 1000000000000) → Sound nx ag T ml → Closed nx ag T ml →
    ∃ ml', iterL (fR M) l (n, ml) = some (n + ((l.map fun x => R nx ag (T - x.after).toNat x).sum : Nat), ml') ∧ Sound nx ag T ml' ∧ Closed nx ag T ml' ∧ Grows ml ml' ∧ ∀ x ∈ l, (aget ml' x).isSome = true
  | [], n, ml, _, _, _, _, hS, hC => ⟨ml, by simp [iterL], hS, hC, fun _ h => h, fun x hx => by cases hx⟩
  | x :: l, n, ml, hM, h0, hb, hv, hS, hC => by
    obtain ⟨m1, e1, s1, c1, g1, i1⟩ := hM x List.mem_cons_self ml hS hC
    have hx := hv x List.mem_cons_self
    have hx0 : 0 ≤ valR nx ag T x := Int.natCast_nonneg _
    rw [List.length_cons] at hb
    obtain ⟨m2, e2, s2, c2, g2, i2⟩ := rest_loop l (n + valR nx ag T x) m1 (fun y hy => hM y (List.mem_cons_of_mem _ hy)) (by omega) (by push_cast at hb ⊢; omega) (fun y hy => hv y (List.mem_cons_of_mem _ hy)) s1 c1
    refine ⟨m2, ?_, s2, c2, g1.trans g2, fun y hy => ?_⟩
    · rw [iterL]
      unfold fR
      simp only
      rw [e1, Option.bind_some, addc_eq (by push_cast at hb; omega), Option.bind_some, Option.bind_some]
      have := e2
      unfold fR at this
      rw [this, List.map_cons, List.sum_cons]
      unfold valR
      push_cast
      rw [Int.add_assoc]
    · rcases List.mem_cons.1 hy with rfl | hy
      · exact g2 _ i1
      · exact i2 y hy
theorem rest_spec {M : Nat → State → ML → Option (Int × ML)} {V : State → Prop} (h : RestEq M V ag nx T) (hT : 0 ≤ T ∧ T ≤ 4) : ∀ (k : Nat) (fu : Nat) (s : State) (ml : ML), V s → 0 ≤ s.after → (T - s.after).toNat = k → k < fu → Sound nx ag T ml → Closed nx ag T ml → Good nx ag T ml s (M fu s ml) := by
  intro k
  induction k with
  | zero =>
    intro fu s ml hV h0 hk hf hS hC
    obtain ⟨fu, rfl⟩ : ∃ f, fu = f + 1 := ⟨fu - 1, by omega⟩
    have hle := h.le s hV
    have hl : s.after = T := by omega
    rw [h.eq fu s ml hV]
    by_cases h1 : (aget ml s).isSome = true
    · rw [if_pos h1]
      obtain ⟨v, hv⟩ := Option.isSome_iff_exists.1 h1
      refine ⟨ml, ?_, hS, hC, fun _ h => h, h1⟩
      rw [hv, Option.getD_some, hS s v hv]
    · rw [if_neg h1]
      by_cases h2 : ag s = true
      · rw [if_pos h2, if_pos hl]
        have e : (1 : Int) = valR nx ag T s := by unfold valR; rw [hk, R, if_pos h2]; rfl
        refine ⟨_, ?_, hS.set e, hC.set (fun _ hlt => absurd hlt (by omega)), Grows.set _ _ _, by rw [aget_aset, if_pos rfl]; rfl⟩
        rw [← e]
      · rw [if_neg h2]
        have e : (0 : Int) = valR nx ag T s := by unfold valR; rw [hk, R, if_neg h2]; rfl
        refine ⟨_, ?_, hS.set e, hC.set (fun ha => absurd ha h2), Grows.set _ _ _, by rw [aget_aset, if_pos rfl]; rfl⟩
        rw [← e]
  | succ k ih =>
    intro fu s ml hV h0 hk hf hS hC
    obtain ⟨fu, rfl⟩ : ∃ f, fu = f + 1 := ⟨fu - 1, by omega⟩
    have hl : s.after < T := by omega
    rw [h.eq fu s ml hV]
    by_cases h1 : (aget ml s).isSome = true
    · rw [if_pos h1]
      obtain ⟨v, hv⟩ := Option.isSome_iff_exists.1 h1
      refine ⟨ml, ?_, hS, hC, fun _ h => h, h1⟩
      rw [hv, Option.getD_some, hS s v hv]
    · rw [if_neg h1]
      by_cases h2 : ag s = true
      · rw [if_pos h2, if_neg (by omega)]
        have hlen := h.len s
        have hmx : (1000 : Nat) ^ k ≤ 1000 ^ 4 := Nat.pow_le_pow_right (by omega) (by omega)
        obtain ⟨m2, e2, s2, c2, g2, i2⟩ := rest_loop (M := M fu) (nx s) 0 ml (fun x hx ml hS hC => by
            obtain ⟨v1, v2⟩ := h.nxV s x hV hl hx
            exact ih fu x ml v1 (by omega) (by omega) (by omega) hS hC) (by omega) (by omega) (fun x hx => by
            obtain ⟨v1, v2⟩ := h.nxV s x hV hl hx
            have e3 : (T - x.after).toNat = k := by omega
            unfold valR
            rw [e3]
            have := R_le (nx := nx) (ag := ag) h.len k x
            have : R nx ag k x ≤ 1000000000000 := by
              have e4 : (1000 : Nat) ^ 4 = 1000000000000 := by decide
              omega
            omega) hS hC
        have e : ((0 : Int) + (((nx s).map fun x => R nx ag (T - x.after).toNat x).sum : Nat)) = valR nx ag T s := by
          unfold valR
          rw [hk, R, if_pos h2, Int.zero_add]
          congr 2
          apply List.map_congr_left
          intro x hx
          obtain ⟨v1, v2⟩ := h.nxV s x hV hl hx
          rw [show (T - x.after).toNat = k by omega]
        rw [e2, Option.bind_some, e]
        exact ⟨_, rfl, s2.set rfl, c2.set (fun _ _ => i2), g2.trans (Grows.set _ _ _), by rw [aget_aset, if_pos rfl]; rfl⟩
      · rw [if_neg h2]
        have e : (0 : Int) = valR nx ag T s := by unfold valR; rw [hk, R, if_neg h2]; rfl
        refine ⟨_, ?_, hS.set e, hC.set (fun ha => absurd ha h2), Grows.set _ _ _, by rw [aget_aset, if_pos rfl]; rfl⟩
        rw [← e]
end
end Go.Proofs.Wb

namespace Go.Proofs.Wb
open Go Go.Fw Go.Gx Go.Sb
set_option linter.unusedVariables false
set_option maxRecDepth 100000
theorem iterL_pair {α σ τ : Type} (g : σ → τ) {f : α → σ → Option σ} {f' : α → τ → Option τ} (h : ∀ x s, (f x s).map g = f' x (g s)) : ∀ (l : List α) (s : σ), (iterL f l s).map g = iterL f' l (g s)
  | [], s => rfl
  | x :: l, s => by
    rw [iterL, iterL, ← h]
    cases f x s with
    | none => rfl
    | some s' => exact iterL_pair g h l s'
def VS (c : Channel) (s : State) : Prop := (∃ l, rowB c l = true ∧ s.at_ = mkCells l) ∧ 0 ≤ s.after ∧ s.after ≤ c.tides
def agS (cnt : Nat → Bool) (c : Channel) (s : State) : Bool := agP cnt c.sights s.after (clS c.fords.length s)
def nxS (c : Channel) (s : State) : List State := nextL c.cells (rchL c) (c.fords.length : Int) s
theorem putL_len {n : Nat} {reach : List Int} {a : Cells} : ∀ (m : Nat) (pre : List Int), (putL n reach a m pre).length ≤ n ^ m
  | 0, pre => by simp [putL]
  | m + 1, pre => by
    rw [putL, List.length_flatMap]
    have h := sum_le (fun x : Nat => (if okN reach a pre (x : Int) = true then putL n reach a m (pre ++ [(x : Int)]) else []).length) (n ^ m) (List.range n) (fun x _ => by
      split
      · exact putL_len m _
      · exact Nat.zero_le _)
    rw [List.length_range] at h
    rw [Nat.pow_succ, Nat.mul_comm]
    exact h
theorem nxS_len {c : Channel} (r : Right c) (s : State) : (nxS c s).length ≤ 1000 := by
  have hc := r.cells
  have hf := r.fords
  unfold nxS nextL
  rw [List.length_map]
  refine Nat.le_trans (putL_len _ _) ?_
  have h1 : c.cells.toNat ^ (c.fords.length : Int).toNat ≤ 10 ^ (c.fords.length : Int).toNat := Nat.pow_le_pow_left (by omega) _
  have h2 : 10 ^ (c.fords.length : Int).toNat ≤ 10 ^ 3 := Nat.pow_le_pow_right (by omega) (by omega)
  omega
theorem nxS_mem {c : Channel} (r : Right c) {s t : State} : t ∈ nxS c s ↔ ∃ l, CanS c.cells (rchL c) c.fords.length s.at_ l ∧ t = ⟨s.after + 1, mkCells l⟩ := by
  have hc := r.cells
  unfold nxS
  rw [mem_nextL (by omega), Int.toNat_natCast]
theorem row_of_can {c : Channel} {a : Cells} {l : List Int} (h : CanS c.cells (rchL c) c.fords.length a l) : rowB c l = true := by
  rw [rowB_iff]
  refine ⟨h.len, upB_ix.2 fun i hi => h.up i (by rw [← h.len]; exact hi), fun x hx => ?_⟩
  obtain ⟨i, hi, rfl⟩ := List.getElem_of_mem hx
  have := h.inC i (by rw [← h.len]; exact hi)
  simpa [List.getD_eq_getElem?_getD, hi] using this
theorem nxS_V {c : Channel} (r : Right c) {s t : State} (hs : VS c s) (hl : s.after < c.tides) (ht : t ∈ nxS c s) : VS c t ∧ t.after = s.after + 1 := by
  obtain ⟨l, h1, rfl⟩ := (nxS_mem r).1 ht
  obtain ⟨_, h2, h3⟩ := hs
  exact ⟨⟨⟨l, row_of_can h1, rfl⟩, by simp only; omega, by simp only; omega⟩, rfl⟩
theorem nxS_nodup {c : Channel} (r : Right c) (s : State) : (nxS c s).Nodup := nextL_nodup (by have := r.fords; omega)
theorem VS_next {c : Channel} (r : Right c) {s : State} (h : VS c s) : nextOK c.cells (rchL c) (c.fords.length : Int) s := by
  obtain ⟨⟨l, h1, h2⟩, h3, h4⟩ := h
  have ht := r.tides
  obtain ⟨k, a⟩ := s
  simp only at h2 h3 h4
  subst h2
  exact nextOK_of r h1 (by omega)
def MR (c : Channel) (fu : Nat) (s : State) (ml : ML) : Option (Int × ML) := (jH fu s ml c.cells c.tides c.fords c.sands c.sights (rchL c)).map fun q => (q.r0, q.a11)
theorem restEq_all {c : Channel} (r : Right c) : RestEq (MR c) (VS c) (agS (fun _ => true) c) (nxS c) c.tides where
  eq fu s ml hV := by
    have hf := r.fords
    have hs := r.sights
    unfold MR
    rw [jH]
    unfold yq
    by_cases h1 : (aget ml s).isSome = true
    · rw [if_pos h1, if_pos h1]; rfl
    · rw [if_neg h1, if_neg h1, ZU (by omega) (by omega), Option.bind_some, not_true_if]
      show _ = if agS (fun _ => true) c s = true then _ else _
      unfold agS
      by_cases h2 : agP (fun _ => true) c.sights s.after (clS c.fords.length s) = true
      · rw [if_pos h2, if_pos h2]
        by_cases h3 : s.after = c.tides
        · rw [if_pos h3, if_pos h3]; rfl
        · rw [if_neg h3, if_neg h3]
          unfold j7
          rw [Option.bind_some, if_pos (VS_next r hV)]
          have hp := iterL_pair (fun q : kK => (q.n9, q.a11)) (f := qj (jH fu) c.cells c.tides c.fords c.sands c.sights (rchL c)) (f' := fR (MR c fu)) (fun x q => by
            unfold qj fR MR
            cases jH fu x q.a11 c.cells c.tides c.fords c.sands c.sights (rchL c) with
            | none => rfl
            | some q' =>
              simp only [Option.bind_some, Option.map_some]
              cases addc q.n9 q'.r0 <;> rfl) (nxS c s) ⟨0, ml⟩
          simp only at hp
          show _ = (iterL (fR (MR c fu)) (nxS c s) (0, ml)).bind _
          rw [← hp]
          unfold nxS
          cases iterL (qj (jH fu) c.cells c.tides c.fords c.sands c.sights (rchL c)) (nextL c.cells (rchL c) (c.fords.length : Int) s) ⟨0, ml⟩ <;> rfl
      · rw [if_neg h2, if_neg h2]; rfl
  nxV s t hs hl ht := nxS_V r hs hl ht
  le s hs := hs.2.2
  len s := nxS_len r s
def first (c : Channel) : State := ⟨0, mkCells c.fords⟩
theorem first_V {c : Channel} (r : Right c) : VS c (first c) := ⟨⟨c.fords, rowB_iff.2 ⟨rfl, r.up, r.fcell⟩, rfl⟩, Int.le_refl _, r.tides.1⟩
theorem YJ {c : Channel} (r : Right c) : ∃ ml, qG c.cells c.tides c.fords c.sands c.sights (rchL c) = some ml ∧ Sound (nxS c) (agS (fun _ => true) c) c.tides ml ∧ Closed (nxS c) (agS (fun _ => true) c) c.tides ml ∧ (aget ml (first c)).isSome = true := by
  have hf := r.fords
  have ht := r.tides
  unfold qG
  rw [KG (by omega), Option.bind_some]
  obtain ⟨ml, e, s1, c1, _, i1⟩ := rest_spec (restEq_all r) ht (c.tides - (first c).after).toNat FU (first c) [] (first_V r) (Int.le_refl _) rfl (by unfold first FU; simp only; omega) (fun x v hx => by simp [aget, afind] at hx) (fun x hx => by simp [aget, afind] at hx)
  unfold MR at e
  rw [Option.map_eq_some_iff] at e
  obtain ⟨q, e1, e2⟩ := e
  simp only [Prod.mk.injEq] at e2
  refine ⟨ml, ?_, s1, c1, i1⟩
  show (jH FU (first c) [] c.cells c.tides c.fords c.sands c.sights (rchL c)).bind _ = _
  rw [e1, Option.bind_some, e2.2]
def cntS (cnt : Nat → Bool) (c : Channel) : Nat := R (nxS c) (agS cnt c) c.tides.toNat (first c)
theorem jab {c : Channel} (r : Right c) : yh c.cells c.tides c.fords c.sands c.sights (rchL c) = some (cntS (fun _ => true) c : Int) := by
  have hf := r.fords
  unfold yh zD
  obtain ⟨ml, e, s1, c1, i1⟩ := YJ r
  rw [Option.bind_some, e, Option.bind_some, KG (by omega), Option.bind_some]
  obtain ⟨v, hv⟩ := Option.isSome_iff_exists.1 i1
  have := s1 _ _ hv
  show some ((aget ml (first c)).getD 0) = _
  rw [hv, Option.getD_some, this]
  unfold valR cntS first
  simp
theorem jac {c : Channel} (h : Few c) : qL c = some (if chk c = 0 then ⟨(cntS (fun _ => true) c : Int), 0⟩ else ⟨0, chk c⟩) := by
  unfold qL
  rw [Qx h, Option.bind_some]
  by_cases h0 : chk c = 0
  · rw [if_pos h0, if_pos h0, oc_inr, jab (rightOf h0)]; rfl
  · rw [if_neg h0, if_neg h0, oc_inl]
end Go.Proofs.Wb

namespace Go.Proofs.Wb
open Go Go.Fw Go.Gx Go.Sb
set_option linter.unusedVariables false
set_option maxRecDepth 100000
def stepP (ml : ML) (p : List (State × Bool) × List State) (x : State) : List (State × Bool) × List State := if 0 < (aget ml x).getD 0 ∧ (aget p.1 x).getD false = false then (aset p.1 x true, p.2 ++ [x]) else p
theorem stepP_len (ml : ML) : ∀ (L : List State) (p : List (State × Bool) × List State), (L.foldl (stepP ml) p).2.length ≤ p.2.length + L.length
  | [], p => by simp
  | x :: L, p => by
    rw [List.foldl_cons, List.length_cons]
    have h := stepP_len ml L (stepP ml p x)
    have h2 : (stepP ml p x).2.length ≤ p.2.length + 1 := by
      unfold stepP
      split
      · simp
      · omega
    omega
theorem fit_F2 (ml : ML) : ∀ (L : List State) (p : List (State × Bool) × List State), p.2.length + L.length ≤ 3000000000000 → iterL (qJ ml) L ⟨p.1, p.2⟩ = some ⟨(L.foldl (stepP ml) p).1, (L.foldl (stepP ml) p).2⟩
  | [], p, _ => rfl
  | x :: L, p, h => by
    rw [List.length_cons] at h
    rw [iterL, List.foldl_cons]
    have hs : qJ ml x ⟨p.1, p.2⟩ = some ⟨(stepP ml p x).1, (stepP ml p x).2⟩ := by
      unfold qJ stepP
      simp only
      by_cases h1 : 0 < (aget ml x).getD 0
      · rw [if_pos h1, Option.bind_some]
        by_cases h2 : (aget p.1 x).getD false = false
        · rw [if_pos (by simp [h2]), if_pos ⟨h1, h2⟩, appc_eq (by simp; omega)]
          rfl
        · rw [if_neg (by simpa using h2), if_neg (fun q => h2 q.2)]
      · rw [if_neg h1, Option.bind_some, if_neg (by decide), if_neg (fun q => h1 q.1)]
    have h2 : (stepP ml p x).2.length ≤ p.2.length + 1 := stepP_len ml [x] p
    rw [hs, Option.bind_some]
    exact fit_F2 ml L (stepP ml p x) (by omega)
def Met (p : List (State × Bool) × List State) : Prop := ∀ x, (aget p.1 x).getD false = decide (x ∈ p.2)
theorem stepP_met {ml : ML} {p : List (State × Bool) × List State} {x : State} (h : Met p) : Met (stepP ml p x) ∧ ∀ y, y ∈ (stepP ml p x).2 ↔ y ∈ p.2 ∨ (y = x ∧ 0 < (aget ml y).getD 0) := by
  unfold stepP
  by_cases h1 : 0 < (aget ml x).getD 0 ∧ (aget p.1 x).getD false = false
  · rw [if_pos h1]
    constructor
    · intro y
      simp only
      rw [aget_aset]
      by_cases e : y = x
      · rw [if_pos e]; simp [e]
      · rw [if_neg e, h y]; simp [e]
    · intro y
      simp only [List.mem_append, List.mem_singleton]
      constructor
      · rintro (h2 | rfl)
        · exact .inl h2
        · exact .inr ⟨rfl, h1.1⟩
      · rintro (h2 | ⟨rfl, _⟩)
        · exact .inl h2
        · exact .inr rfl
  · rw [if_neg h1]
    refine ⟨h, fun y => ⟨.inl, ?_⟩⟩
    rintro (h2 | ⟨rfl, h2⟩)
    · exact h2
    · have h3 : ¬ (aget p.1 y).getD false = false := fun q => h1 ⟨h2, q⟩
      rw [h y] at h3
      simpa using h3
theorem foldP_met {ml : ML} : ∀ (L : List State) (p : List (State × Bool) × List State), Met p → Met (L.foldl (stepP ml) p) ∧ ∀ y, y ∈ (L.foldl (stepP ml) p).2 ↔ y ∈ p.2 ∨ (y ∈ L ∧ 0 < (aget ml y).getD 0)
  | [], p, h => ⟨h, fun y => by simp⟩
  | x :: L, p, h => by
    obtain ⟨h1, h2⟩ := stepP_met (ml := ml) (x := x) h
    obtain ⟨h3, h4⟩ := foldP_met L _ h1
    refine ⟨h3, fun y => ?_⟩
    rw [List.foldl_cons, h4 y, h2 y, List.mem_cons]
    constructor
    · rintro ((h | ⟨h, q⟩) | ⟨h, q⟩)
      · exact .inl h
      · exact .inr ⟨.inl h, q⟩
      · exact .inr ⟨.inr h, q⟩
    · rintro (h | ⟨h | h, q⟩)
      · exact .inl (.inl h)
      · exact .inl (.inr ⟨h, q⟩)
      · exact .inr ⟨h, q⟩
def rowP (ml : ML) (nx : State → List State) (l : List State) : List State := ((l.flatMap nx).foldl (stepP ml) ([], [])).2
theorem mem_rowP {ml : ML} {nx : State → List State} {l : List State} {y : State} : y ∈ rowP ml nx l ↔ (∃ s ∈ l, y ∈ nx s) ∧ 0 < (aget ml y).getD 0 := by
  unfold rowP
  rw [(foldP_met (ml := ml) (l.flatMap nx) ([], []) (fun x => by simp [aget, afind])).2 y, List.mem_flatMap]
  simp
theorem flatMap_len {nx : State → List State} (h : ∀ s, (nx s).length ≤ 1000) (l : List State) : (l.flatMap nx).length ≤ l.length * 1000 := by
  rw [List.length_flatMap]
  exact sum_le (fun s => (nx s).length) 1000 l (fun x _ => h x)
theorem rowP_len {ml : ML} {nx : State → List State} (h : ∀ s, (nx s).length ≤ 1000) (l : List State) : (rowP ml nx l).length ≤ l.length * 1000 := by
  have := stepP_len ml (l.flatMap nx) ([], [])
  have := flatMap_len h l
  unfold rowP
  simp only [List.length_nil, Nat.zero_add] at *
  omega
theorem fit_L1 {c : Channel} (r : Right c) (ml : ML) {l : List State} (hl : l.length ≤ 1000000000) (hV : ∀ s ∈ l, VS c s) :
    ∃ met, iterM FU (k5 l c.cells c.tides c.fords c.sands c.sights (rchL c) ml) ⟨0, [], []⟩ = some ⟨met, rowP ml (nxS c) l⟩ := by
  refine ⟨((l.flatMap (nxS c)).foldl (stepP ml) ([], [])).1, ?_⟩
  have key := iterM_run (f := k5 l c.cells c.tides c.fords c.sands c.sights (rchL c) ml) (fun j => ⟨(j : Int), (((l.take j).flatMap (nxS c)).foldl (stepP ml) ([], [])).1, (((l.take j).flatMap (nxS c)).foldl (stepP ml) ([], [])).2⟩) l.length (b := ⟨((l.flatMap (nxS c)).foldl (stepP ml) ([], [])).1, ((l.flatMap (nxS c)).foldl (stepP ml) ([], [])).2⟩) (fun j hj => ?_) ?_ FU (FU_lt (by omega))
  · exact key
  · have e : l.take (j + 1) = l.take j ++ [l[j]] := by rw [List.take_append_getElem]
    have hx : l.getD j default = l[j] := by simp [List.getD_eq_getElem?_getD, hj]
    unfold k5 j7
    simp only
    rw [if_pos (by omega), ix_nat default hj, Option.bind_some, hx, Option.bind_some, if_pos (VS_next r (hV _ (List.getElem_mem hj)))]
    have h1 := stepP_len ml ((l.take j).flatMap (nxS c)) ([], [])
    have h2 := flatMap_len (nxS_len r) (l.take j)
    have h3 := nxS_len r l[j]
    have h4 : (l.take j).length ≤ l.length := by rw [List.length_take]; omega
    have h5 := Nat.mul_le_mul_right 1000 h4
    have hf := fit_F2 ml (nxS c l[j]) (((l.take j).flatMap (nxS c)).foldl (stepP ml) ([], [])) (by simp only [List.length_nil, Nat.zero_add] at h1; omega)
    unfold nxS at hf
    unfold nxS
    rw [hf, Option.bind_some, addc_eq (by omega), Option.bind_some, e, List.flatMap_append, List.foldl_append]
    simp
  · unfold k5
    simp only
    rw [if_neg (by omega), List.take_length]
def lev (c : Channel) (ml : ML) : Nat → List State
  | 0 => [first c]
  | k + 1 => rowP ml (nxS c) (lev c ml k)
theorem lev_len {c : Channel} (r : Right c) (ml : ML) : ∀ k, (lev c ml k).length ≤ 1000 ^ k
  | 0 => by simp [lev]
  | k + 1 => by
    have h := rowP_len (ml := ml) (nxS_len r) (lev c ml k)
    have h2 := Nat.mul_le_mul_right 1000 (lev_len r ml k)
    rw [lev, Nat.pow_succ]
    omega
theorem lev_V {c : Channel} (r : Right c) (ml : ML) : ∀ k : Nat, (k : Int) ≤ c.tides → ∀ s ∈ lev c ml k, VS c s ∧ s.after = (k : Int)
  | 0, _, s, hs => by
    simp only [lev, List.mem_singleton] at hs
    subst hs
    exact ⟨first_V r, rfl⟩
  | k + 1, hk, s, hs => by
    obtain ⟨⟨u, hu, hn⟩, _⟩ := mem_rowP.1 hs
    obtain ⟨h1, h2⟩ := lev_V r ml k (by omega) u hu
    obtain ⟨h3, h4⟩ := nxS_V r h1 (by omega) hn
    exact ⟨h3, by omega⟩
theorem lev_on {c : Channel} (r : Right c) {ml : ML} (hS : Sound (nxS c) (agS (fun _ => true) c) c.tides ml) (hC : Closed (nxS c) (agS (fun _ => true) c) c.tides ml) (hi : (aget ml (first c)).isSome = true) (hp : 0 < cntS (fun _ => true) c) :
    ∀ k : Nat, (k : Int) ≤ c.tides → ∀ t, (t ∈ lev c ml k ↔ On (nxS c) (agS (fun _ => true) c) k c.tides.toNat (first c) t) ∧ (t ∈ lev c ml k → (aget ml t).isSome = true)
  | 0, _, t => by
    constructor
    · rw [lev, List.mem_singleton, on_zero]
      constructor
      · intro h; exact ⟨h, hp⟩
      · exact fun h => h.1
    · intro h
      rw [lev, List.mem_singleton] at h
      rw [h]; exact hi
  | k + 1, hk, t => by
    have ih := lev_on r hS hC hi hp k (by omega)
    have hsome : t ∈ lev c ml (k + 1) → (aget ml t).isSome = true := by
      intro h
      have h2 := (mem_rowP.1 h).2
      cases hq : aget ml t with
      | none => rw [hq] at h2; simp at h2
      | some v => rfl
    refine ⟨?_, hsome⟩
    rw [on_succ (by omega)]
    constructor
    · intro h
      obtain ⟨⟨u, hu, hn⟩, h2⟩ := mem_rowP.1 h
      obtain ⟨v1, v2⟩ := lev_V r ml k (by omega) u hu
      obtain ⟨v3, v4⟩ := nxS_V r v1 (by omega) hn
      refine ⟨u, (ih u).1.1 hu, hn, ?_⟩
      obtain ⟨v, hv⟩ := Option.isSome_iff_exists.1 (hsome h)
      have h3 := hS t v hv
      rw [hv, Option.getD_some, h3] at h2
      unfold valR at h2
      rw [show (c.tides - t.after).toNat = c.tides.toNat - k - 1 by omega] at h2
      omega
    · rintro ⟨u, hu, hn, h2⟩
      have hu' := (ih u).1.2 hu
      obtain ⟨v1, v2⟩ := lev_V r ml k (by omega) u hu'
      obtain ⟨v3, v4⟩ := nxS_V r v1 (by omega) hn
      have hag := R_ag (on_R (by omega) hu)
      have hst := hC u ((ih u).2 hu') hag (by omega) t hn
      obtain ⟨v, hv⟩ := Option.isSome_iff_exists.1 hst
      have h3 := hS t v hv
      refine mem_rowP.2 ⟨⟨u, hu', hn⟩, ?_⟩
      rw [hv, Option.getD_some, h3]
      unfold valR
      rw [show (c.tides - t.after).toNat = c.tides.toNat - k - 1 by omega]
      omega
structure Levs (c : Channel) (L : List (List State)) : Prop where
  len : (L.length : Int) = c.tides + 1
  mem : ∀ k : Nat, (k : Int) ≤ c.tides → ∀ t, t ∈ L.getD k [] ↔ On (nxS c) (agS (fun _ => true) c) k c.tides.toNat (first c) t
  val : ∀ k : Nat, (k : Int) ≤ c.tides → ∀ s ∈ L.getD k [], VS c s ∧ s.after = (k : Int)
  bnd : ∀ k : Nat, (k : Int) ≤ c.tides → (L.getD k []).length ≤ 1000000000000
theorem ZG {c : Channel} (r : Right c) : ∃ L, yu c.cells c.tides c.fords c.sands c.sights (rchL c) = some (if cntS (fun _ => true) c = 0 then .inl () else .inr L) ∧ (cntS (fun _ => true) c ≠ 0 → Levs c L) := by
  have hf := r.fords
  have ht := r.tides
  obtain ⟨ml, e, s1, c1, i1⟩ := YJ r
  obtain ⟨v, hv⟩ := Option.isSome_iff_exists.1 i1
  have hv2 := s1 _ _ hv
  have hv3 : v = (cntS (fun _ => true) c : Int) := by
    rw [hv2]
    unfold valR cntS first
    simp
  refine ⟨(List.range (c.tides.toNat + 1)).map (lev c ml), ?_, ?_⟩
  · unfold yu zD
    rw [Option.bind_some, e, Option.bind_some, KG (by omega), Option.bind_some]
    show (if (aget ml (first c)).getD 0 = 0 then _ else _) = _
    rw [hv, Option.getD_some, hv3]
    by_cases h0 : cntS (fun _ => true) c = 0
    · rw [if_pos (by omega), if_pos h0]
    · rw [if_neg (by omega), if_neg h0, Option.bind_some]
      have key := iterM_run (f := k4 c.tides c.cells c.fords c.sands c.sights (rchL c) ml) (fun j => ⟨(j : Int), (List.range (j + 1)).map (lev c ml)⟩) c.tides.toNat (b := (List.range (c.tides.toNat + 1)).map (lev c ml)) (fun j hj => ?_) ?_ FU (FU_lt (by omega))
      · show (iterM FU (k4 c.tides c.cells c.fords c.sands c.sights (rchL c) ml) ⟨((0 : Nat) : Int), (List.range (0 + 1)).map (lev c ml)⟩).bind _ = _
        rw [key]; rfl
      · unfold k4
        simp only
        have hlen := lev_len r ml j
        have hpw : (1000 : Nat) ^ j ≤ 1000 ^ 3 := Nat.pow_le_pow_right (by omega) (by omega)
        have e3 : (1000 : Nat) ^ 3 = 1000000000 := by decide
        obtain ⟨met, hm⟩ := fit_L1 r ml (l := lev c ml j) (by omega) (fun s hs => (lev_V r ml j (by omega) s hs).1)
        rw [if_pos (by omega), range_ix (by omega), Option.bind_some, hm, Option.bind_some, appc_eq (by simp; omega), Option.bind_some, addc_eq (by omega), Option.bind_some, List.range_succ (n := j + 1), List.map_append]
        rfl
      · unfold k4
        simp only
        rw [if_neg (by omega)]
  · intro h0
    have hg : ∀ k : Nat, (k : Int) ≤ c.tides → ((List.range (c.tides.toNat + 1)).map (lev c ml)).getD k [] = lev c ml k := by
      intro k hk
      rw [List.getD_eq_getElem?_getD, List.getElem?_map, List.getElem?_range (by omega)]
      rfl
    refine ⟨by simp; omega, fun k hk t => ?_, fun k hk s hs => ?_, fun k hk => ?_⟩
    · rw [hg k hk]; exact (lev_on r s1 c1 i1 (by omega) k hk t).1
    · rw [hg k hk] at hs; exact lev_V r ml k hk s hs
    · rw [hg k hk]
      have := lev_len r ml k
      have hpw : (1000 : Nat) ^ k ≤ 1000 ^ 4 := Nat.pow_le_pow_right (by omega) (by omega)
      have e4 : (1000 : Nat) ^ 4 = 1000000000000 := by decide
      omega
theorem ZY {c : Channel} (h : Few c) : ∃ L, yt c = some (if chk c = 0 then (if cntS (fun _ => true) c = 0 then .inl 7 else .inr ⟨c.cells, c.tides, L, rchL c⟩) else .inl (chk c)) ∧ (chk c = 0 → cntS (fun _ => true) c ≠ 0 → Levs c L) := by
  unfold yt
  rw [Qx h, Option.bind_some]
  by_cases h0 : chk c = 0
  · have r := rightOf h0
    obtain ⟨L, e, hL⟩ := ZG r
    refine ⟨L, ?_, fun _ h1 => hL h1⟩
    rw [if_pos h0, if_pos h0, oc_inr, e, Option.bind_some]
    by_cases h1 : cntS (fun _ => true) c = 0
    · rw [if_pos h1, if_pos h1, oc_inl]
    · rw [if_neg h1, if_neg h1, oc_inr, if_pos (by have := (hL h1).len; have := r.tides; omega)]
  · exact ⟨[], by rw [if_neg h0, if_neg h0, oc_inl], fun h => absurd h h0⟩
end Go.Proofs.Wb

