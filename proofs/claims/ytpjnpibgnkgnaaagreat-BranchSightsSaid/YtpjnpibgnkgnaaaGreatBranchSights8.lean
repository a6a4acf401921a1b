/- What the functions that the law BranchSights reaches come to, and why it holds: part 8. -/
import Derived.Test.YtpjnpibgnkgnaaaGreatBranchSights7
namespace Go.Proofs.Wb
set_option maxHeartbeats 4000000
set_option maxRecDepth 100000
open Go Go.Fw Go.Gx Go.Sb
open Tryz
set_option linter.unusedVariables false

def yq (d00 : Int) (d01 : Int) (d02 : (List Int)) (d03 : (List Sand)) (d04 : (List Sight)) (d05 : (List Int)) : Option Bool :=
 (qO d00 d01 d02 d03 d04 d05).bind fun t7 =>
 (jL d00 d01 d02 d03 d04 d05).bind fun t9 =>
 some (decide (0 < ((aget t7 t9).getD 0)))
theorem YO (d00 : Int) (d01 : Int) (d02 : (List Int)) (d03 : (List Sand)) (d04 : (List Sight)) (d05 : (List Int)) (rb : Nat) (qa1 : Option Addr) (na1 ca1 : Nat) (qa2 : Option Addr) (na2 ca2 : Nat) (qa3 : Option Addr) (na3 ca3 : Nat) (qa4 : Option Addr) (na4 ca4 : Nat) (w : World) (hw : HV w (keys [] []) [] [] [(rb, 0, [.int .i64 d00, .int .i64 d01, .slice qa1 na1 ca1, .slice qa2 na2 ca2, .slice qa3 na3 ca3, .slice qa4 na4 ca4]), (aB qa1, aO qa1, RI.enc d02), (aB qa2, aO qa2, RSa.enc d03), (aB qa3, aO qa3, RSi.enc d04), (aB qa4, aO qa4, RI.enc d05)] w)  (hna1 : d02.length = na1) (hqa1 : AOK na1 qa1) (hla1 : na1 ≤ ca1) (hna2 : d03.length = na2) (hqa2 : AOK na2 qa2) (hla2 : na2 ≤ ca2) (hna3 : d04.length = na3) (hqa3 : AOK na3 qa3) (hla3 : na3 ≤ ca3) (hna4 : d05.length = na4) (hqa4 : AOK na4 qa4) (hla4 : na4 ≤ ca4) {res : Bool} (hm : yq d00 d01 d02 d03 d04 d05 = some res) :
    Calls Tryz.prog 121 #[ptr rb 0, .agg #[.func (.func 172) #[] #[]]] w (fun en w' => ∃ l : Unit, en = .returned (.bool res) ∧ (True) ∧ HV w (keys [] []) [] [] [] w') := by
  unfold yq at hm
  refine qL func121 Y ntmps121 Y (e := [(0, _), (1, _)]) Y hw (jr ?_)
  refine jG Y Y (fun b h1 => ?_)
  refine jo Y Y (kY (jj Y Y (JC [_] 0 isAgg181 sizeOf181 Y Y Y Y ?_)))
  obtain ⟨t7, h2, hm⟩ := bindO hm
  refine jd [] [] Y Y Y Y Y Y Y call159 (fun w hh => KR d00 d01 d02 d03 d04 d05 rb qa1 na1 ca1 qa2 na2 ca2 qa3 na3 ca3 qa4 na4 ca4 w (HV.callee (S0 := []) (vs0 := []) hh (roR hh 0 Y (roR hh 1 Y (roR hh 2 Y (roR hh 3 Y (roR hh 4 Y roN)))))) hna1 hqa1 hla1 hna2 hqa2 hla2 hna3 hqa3 hla3 hna4 hqa4 hla4 h2) (fun l h3 => ?_)
  refine kx (S' := [_, _]) (vs' := []) [0, 1] [] 0 Y Y Y Y (jj Y Y ?_)
  obtain ⟨t9, h4, hm⟩ := bindO hm
  refine jd [] [] Y Y Y Y Y Y Y call99 (fun w hh => j5 d00 d01 d02 d03 d04 d05 rb qa1 na1 ca1 qa2 na2 ca2 qa3 na3 ca3 qa4 na4 ca4 w (HV.callee (S0 := []) (vs0 := []) hh (roR hh 0 Y (roR hh 1 Y (roR hh 2 Y (roR hh 3 Y (roR hh 4 Y roN)))))) hna1 hqa1 hla1 hna2 hqa2 hla2 hna3 hqa3 hla3 hna4 hqa4 hla4 h4) (fun l_1 h5 => ?_)
  refine jc Y Y Y (fun w hh => Yg (k := t9) (z := 0) (runUnderlying153 w) yR (zeroValue3 w) Y Y (hh.mget 0 Y)) (jc Y Y Y (fun _ _ => QI Y Y) (jo Y Y (jq (jv ?_))))
  obtain rfl := sj hm
  refine jm Y (fun w hh => (.tmp Y .nil)) (fun w hh => ⟨(), rfl, trivial, hh.se [] [] 5 Y Y Y rfl⟩)
def z6 (sights0 : (List Int)) : Option Unit :=
 some ()
theorem YE (sights0 : (List Int)) (qa0 : Option Addr) (na0 ca0 : Nat) (w : World) (hw : HV w (keys [] []) [] [] [(aB qa0, aO qa0, RI.enc sights0)] w) (hna0 : sights0.length = na0) (hqa0 : AOK na0 qa0) (hla0 : na0 ≤ ca0) {res : Unit} (hm : z6 sights0 = some res) :
    Calls Tryz.prog 122 #[.slice qa0 na0 ca0] w (fun en w' => ∃ l : Nat, en = .returned (.agg #[.func (.func 171) #[] #[ptr l 0]]) ∧ (True) ∧ HV w (keys [] []) [kc l #[.slice qa0 na0 ca0] 22] [] [] w') := by
  unfold z6 at hm
  refine qL func122 Y ntmps122 Y (e := [(0, _)]) Y hw (jr ?_)
  refine jG Y Y (fun b h1 => ?_)
  refine ju (fun w => zeroValue181 w) Y (fun b_1 h2 => ?_)
  refine kY (jc Y Y Y (fun _ _ => kg (u := #[]) (u' := #[_]) Y Y) (jc Y Y Y (fun _ _ => qX (vs := [(0, _)]) (cells := [_]) Y Y) (kD (us := #[_]) (cs' := [_]) (S' := [_, _]) 0 (fun w => sizeOf181 w) Y Y Y Y Y Y Y (jq (jv ?_)))))
  obtain rfl := sj hm
  refine jm Y (fun w hh => (.cell Y (loadVar_agg (vs := [_]) (isAgg181 _) (sizeOf181 _) (hh.cells 0 Y Y)) .nil)) (fun w hh => ⟨b, rfl, trivial, hh.se [1] [] 1 Y Y Y rfl⟩)
def J6 (i0 : Int) (a11 : (List Int)) : Option Bool :=
 (j7 a11 i0).bind fun t6 =>
 some t6
theorem jag (i0 : Int) (a11 : (List Int)) (rb : Nat) (qa1 : Option Addr) (na1 ca1 : Nat) (w : World) (hw : HV w (keys [] []) [] [] [(rb, 0, [.slice qa1 na1 ca1]), (aB qa1, aO qa1, RI.enc a11)] w)  (hna1 : a11.length = na1) (hqa1 : AOK na1 qa1) (hla1 : na1 ≤ ca1) {res : Bool} (hm : J6 i0 a11 = some res) :
    Calls Tryz.prog 171 #[.int .i64 i0, ptr rb 0] w (fun en w' => ∃ l : Unit, en = .returned (.bool res) ∧ (True) ∧ HV w (keys [] []) [] [] [] w') := by
  unfold J6 at hm
  refine qL func171 Y ntmps171 Y (e := [(0, _), (1, _)]) Y hw (jr (jo Y Y (kY (jc Y Y Y (fun w hh => jB (isAgg22 w) Y (segCell (hh.seg 0 Y) 0 Y)) (jj Y Y ?_)))))
  obtain ⟨t6, h1, hm⟩ := bindO hm
  refine jd [] [] Y Y Y Y Y Y Y call64 (fun w hh => yh a11 i0 qa1 na1 ca1 w (HV.callee (S0 := []) (vs0 := []) hh (roR hh 1 Y roN)) hna1 hqa1 hla1 h1) (fun l h2 => ?_)
  refine jo Y Y (jq (jv ?_))
  obtain rfl := sj hm
  refine jm Y (fun w hh => (.tmp Y .nil)) (fun w hh => ⟨(), rfl, trivial, hh.se [] [] 2 Y Y Y rfl⟩)
def qI (d04 : (List Sight)) (s2 : State) (f1_0_c0 : (List Int)) (d00 : Int) (d01 : Int) (d02 : (List Int)) (d03 : (List Sand)) (d05 : (List Int)) (s : Int) : Option (Int ⊕ (Unit ⊕ Bool)) :=
 if s < (d04.length : Int) then
 ((ix d04 s).bind fun t18 =>
 (if t18.after = s2.after then
 ((J6 s f1_0_c0).bind fun t29 =>
 if t29 = true then
 ((kV d00 d01 d02 d03 d04 d05 s2).bind fun t34 =>
 (j7 t34 t18.cell).bind fun t37 =>
 some (!(t37 == t18.upright))) else
 (some false)) else
 (some false)).bind fun o_1 =>
 if o_1 = true then
 (some (.inr (.inr false))) else
 ((addc s 1).bind fun t42 =>
 some (.inl t42))) else
 (some (.inr (.inl ())))
def yy (d00 : Int) (d01 : Int) (d02 : (List Int)) (d03 : (List Sand)) (d04 : (List Sight)) (d05 : (List Int)) (f1_0_c0 : (List Int)) (s2 : State) : Option Bool :=
 (iterM FU (qI d04 s2 f1_0_c0 d00 d01 d02 d03 d05) 0).bind fun o =>
 oc o (fun j => some true) (fun r_1 => some r_1)
theorem YR (d00 : Int) (d01 : Int) (d02 : (List Int)) (d03 : (List Sand)) (d04 : (List Sight)) (d05 : (List Int)) (f1_0_c0 : (List Int)) (s2 : State) (rb : Nat) (qa1 : Option Addr) (na1 ca1 : Nat) (qa2 : Option Addr) (na2 ca2 : Nat) (qa3 : Option Addr) (na3 ca3 : Nat) (qa4 : Option Addr) (na4 ca4 : Nat) (rb_1 : Nat) (qa6 : Option Addr) (na6 ca6 : Nat) (w : World) (hw : HV w (keys [] []) [] [] [(rb, 0, [.int .i64 d00, .int .i64 d01, .slice qa1 na1 ca1, .slice qa2 na2 ca2, .slice qa3 na3 ca3, .slice qa4 na4 ca4]), (aB qa1, aO qa1, RI.enc d02), (aB qa2, aO qa2, RSa.enc d03), (aB qa3, aO qa3, RSi.enc d04), (aB qa4, aO qa4, RI.enc d05), (rb_1, 0, [.slice qa6 na6 ca6]), (aB qa6, aO qa6, RI.enc f1_0_c0)] w)  (hna1 : d02.length = na1) (hqa1 : AOK na1 qa1) (hla1 : na1 ≤ ca1) (hna2 : d03.length = na2) (hqa2 : AOK na2 qa2) (hla2 : na2 ≤ ca2) (hna3 : d04.length = na3) (hqa3 : AOK na3 qa3) (hla3 : na3 ≤ ca3) (hna4 : d05.length = na4) (hqa4 : AOK na4 qa4) (hla4 : na4 ≤ ca4)  (hna6 : f1_0_c0.length = na6) (hqa6 : AOK na6 qa6) (hla6 : na6 ≤ ca6) {res : Bool} (hm : yy d00 d01 d02 d03 d04 d05 f1_0_c0 s2 = some res) :
    Calls Tryz.prog 143 #[ptr rb 0, .agg #[.func (.func 171) #[] #[ptr rb_1 0]], .agg #[.int .i64 s2.after, .int .i64 s2.at_.c0, .int .i64 s2.at_.c1, .int .i64 s2.at_.c2]] w (fun en w' => ∃ l : Unit, en = .returned (.bool res) ∧ (True) ∧ HV w (keys [] []) [] [] [] w') := by
  unfold yy at hm
  refine qL func143 Y ntmps143 Y (e := [(0, _), (1, _), (2, _)]) Y hw (jr ?_)
  refine jG Y Y (fun b h1 => ?_)
  refine jG Y Y (fun b_1 h2 => ?_)
  refine jo Y Y (jq (jh (jr (jj Y Y (jc Y Y Y (fun _ _ => qT Y) (qV 0 runUnderlying175 Y sizeOf26 Y Y (qV 4 runUnderlying26 Y sizeOf24 Y Y ?_)))))))
  refine jc Y Y Y (fun w hh => jB (isAgg24 w) Y (segCell (hh.seg 0 Y) 4 Y)) (jc Y Y Y (fun w _ => jJ hna3 (runUnderlying24 w) Y) (jj Y Y (jq ?_)))
  obtain ⟨o, h3, h4⟩ := bindO hm
  refine jM (ι := Unit) (fun j => o = .inl j) (fun j => []) (fun j => [kc b_1 #[.int .i64 s2.after, .int .i64 s2.at_.c0, .int .i64 s2.at_.c1, .int .i64 s2.at_.c2] 159, kc b #[.func (.func 171) #[] #[ptr rb_1 0]] 181]) (fun j => []) ?_ ?_
  ·replace hm := h3
   refine jl ?_
   refine jK (ι := Unit) hm (fun s l => True) (fun s l => [(0, ptr rb 0), (4, ptr b 0), (5, ptr b_1 0), (13, .slice qa3 na3 ca3), (14, .int .i64 (d04.length : Int)), (15, .int .i64 s)]) (fun s l => [kc b_1 #[.int .i64 s2.after, .int .i64 s2.at_.c0, .int .i64 s2.at_.c1, .int .i64 s2.at_.c2] 159, kc b #[.func (.func 171) #[] #[ptr rb_1 0]] 181]) (fun s l => []) () (trivial) (sE Y) (fun w hh => hh) (fun s l r hpl hm h5 => ?_)
   unfold qI at hm
   refine jr (Kc Y Y Y (jq (jh ?_)))
   refine js Y (fun h6 => ?_) (fun h6 => ?_)
   ·replace hm := ifD h6 hm
    refine jt (ja (jh (jl (jr (jj Y Y ?_)))))
    obtain ⟨t18, h7, hm⟩ := bindO hm
    refine jc Y Y Y (fun w _ => qM h7 (runUnderlying24 w) (sizeOf55 w) Y Y hna3 hqa3) ?_
    refine jc Y Y Y (fun w hh => J0 RSi 0 [.int .i64 t18.after, .int .i64 t18.cell, .bool t18.upright] h7 (isAgg55 w) (sizeOf55 w) Y (hh.seg 3 Y) Y (Nat.add_zero _).symm) ?_
    refine ju (fun w => zeroValue55 w) Y (fun b_2 h8 => ?_)
    refine jo Y Y (kD (us := #[_, _, _]) (cs' := [_, _, _]) (S' := [_, _, _]) 0 (fun w => sizeOf55 w) Y Y Y Y Y Y Y (jq (jh ?_)))
    obtain ⟨o_1, h9, h10⟩ := bindO hm
    refine jM (ι := Unit) (fun l_1 => True) (fun l_1 => [(0, ptr rb 0), (4, ptr b 0), (5, ptr b_1 0), (13, .slice qa3 na3 ca3), (14, .int .i64 (d04.length : Int)), (15, .int .i64 s), (41, .bool o_1)]) (fun l_1 => [kc b_2 #[.int .i64 t18.after, .int .i64 t18.cell, .bool t18.upright] 55, kc b_1 #[.int .i64 s2.after, .int .i64 s2.at_.c0, .int .i64 s2.at_.c1, .int .i64 s2.at_.c2] 159, kc b #[.func (.func 171) #[] #[ptr rb_1 0]] 181]) (fun l_1 => []) ?_ ?_
    ·replace hm := h9
     refine j3 none (.free 0 (.hoist 1 (.free 2 (.hoist 3 (.free 4 (.free 5 (.free 6 (.hoist 7 (.free 8 (.one 9 (.free 10 (.free 11 (.free 12 (.hoist 13 (.free 15 (.hoist 16 (.free 18 (.hoist 19 (.one 14 (.one 17 (.free 20 (.free 21 .done)))))))))))))))))))))) _ Y (by decide +kernel) (fun w k hh => hh.draw k) (fun w hh => hh) ?_
     refine KA 0 runUnderlying55 sizeOf3 Y Y Y Y (QA 0 isAgg3 Y Y Y Y Y (KA 0 runUnderlying159 sizeOf3 Y Y Y Y (QA 1 isAgg3 Y Y Y Y Y (jp Y Y Y Y (fun _ _ => Jw Y Y) (qD Y Y Y ?_)))))
     refine jW 25 Y (fun h11 => ?_) (fun h11 => ?_)
     ·replace hm := ifD h11 hm
      refine jN Y Y Y Y Y Y (fun w _ => jI 0 (runUnderlying181 w) Y (sizeOf102 w) Y) (k8 Y Y Y Y Y Y (fun w hh => jB (isAgg102 w) Y (hh.cell 2 Y Y)) (jN Y Y Y Y Y Y (fun _ _ => kd Y) (jD Y (jb Y Y ?_))))
      obtain ⟨t29, h12, hm⟩ := bindO hm
      refine jd [] [] Y Y Y Y Y Y Y call171 (fun w hh => jag s f1_0_c0 rb_1 qa6 na6 ca6 w (HV.callee (S0 := []) (vs0 := []) hh (roR hh 5 Y (roR hh 6 Y roN))) hna6 hqa6 hla6 h12) (fun l_2 h13 => ?_)
      refine jn (fun w hh => hh) (jp Y Y Y Y (fun _ _ => JU Y Y) (qD Y Y Y ?_))
      refine jW 31 Y (fun h14 => ?_) (fun h14 => ?_)
      ·replace hm := ifT (h14) hm
       refine jN Y Y Y Y Y Y (fun _ _ => kd Y) (k8 Y Y Y Y Y Y (fun w hh => jO (vs := [_, _, _, _]) (isAgg159 w) (sizeOf159 w) Y (hh.cells 1 Y Y)) (jN Y Y Y Y Y Y (fun w _ => jI 1 (runUnderlying55 w) Y (sizeOf3 w) Y) (k8 Y Y Y Y Y Y (fun w hh => jB (isAgg3 w) Y (hh.cell 0 Y Y)) (jN Y Y Y Y Y Y (fun w _ => jI 2 (runUnderlying55 w) Y (sizeOf4 w) Y) (k8 Y Y Y Y Y Y (fun w hh => jB (isAgg4 w) Y (hh.cell 0 Y Y)) (jD Y (jb Y Y ?_)))))))
       obtain ⟨t34, h15, hm⟩ := bindO hm
       refine jd [] [] Y Y Y Y Y Y Y call100 (fun w hh => Ja d00 d01 d02 d03 d04 d05 s2 rb qa1 na1 ca1 qa2 na2 ca2 qa3 na3 ca3 qa4 na4 ca4 w (HV.callee (S0 := []) (vs0 := []) hh (roR hh 0 Y (roR hh 1 Y (roR hh 2 Y (roR hh 3 Y (roR hh 4 Y roN)))))) hna1 hqa1 hla1 hna2 hqa2 hla2 hna3 hqa3 hla3 hna4 hqa4 hla4 h15) (fun l_3 h16 => ?_)
       have h17 := h16
       refine kx (S' := [_, _, _]) (vs' := [_]) [0, 1, 2] [0] 0 Y Y Y Y (jn (hsE [0, 1, 2] [] 0 Y Y Y Y) (jD Y (jb Y Y ?_)))
       obtain ⟨t37, h18, hm⟩ := bindO hm
       refine jd [] [] Y Y Y Y Y Y Y call64 (fun w hh => yh t34 t18.cell (qA l_3.q) l_3.n l_3.cap w (HV.callee (S0 := []) (vs0 := []) hh (roC (hh.vsepA 0 Y h17) roN)) (vlen RI h17 Y) (AOK.q (vne h17)) (h17).hle h18) (fun l_4 h19 => ?_)
       refine jn (hsE [0, 1, 2] [] 0 Y Y Y Y) (jN Y Y Y Y Y Y (fun w _ => Y6 (runUnderlying4 w) Y Y) (jp Y Y Y Y (fun _ _ => JU Y Y) (jH ?_)))
       obtain rfl := sj hm
       exact jk () (trivial) (sE Y) (hsE [0, 1, 2] [] 0 Y Y Y Y)
      replace hm := ifN h14 hm
      refine jE Y Y Y Y Y Y Y (yz Y Y Y Y Y Y Y (jE Y Y Y Y Y Y Y (yz Y Y Y Y Y Y Y (jE Y Y Y Y Y Y Y (yz Y Y Y Y Y Y Y (jD Y (g_k Y Y Y Y ?_)))))))
      refine jn (fun w hh => hh) (jD Y (g_k Y Y Y Y (jn (fun w hh => hh) (jE Y Y Y Y Y Y Y (jp Y Y Y Y (fun _ _ => zP Y Y) (jH ?_))))))
      obtain rfl := sj hm
      exact jk () (trivial) (sE Y) (fun w hh => hh)
     replace hm := ifE h11 hm
     refine jE Y Y Y Y Y Y Y (yz Y Y Y Y Y Y Y (jE Y Y Y Y Y Y Y (jD Y (g_k Y Y Y Y (jn (fun w hh => hh) (jp Y Y Y Y (fun _ _ => zP Y Y) (qD Y Y Y ?_)))))))
     refine jE Y Y Y Y Y Y Y (yz Y Y Y Y Y Y Y (jE Y Y Y Y Y Y Y (yz Y Y Y Y Y Y Y (jE Y Y Y Y Y Y Y (yz Y Y Y Y Y Y Y (jD Y (g_k Y Y Y Y ?_)))))))
     refine jn (fun w hh => hh) (jD Y (g_k Y Y Y Y (jn (fun w hh => hh) (jE Y Y Y Y Y Y Y (jp Y Y Y Y (fun _ _ => zP Y Y) (jH ?_))))))
     obtain rfl := sj hm
     exact jk () (trivial) (sE Y) (fun w hh => hh)
    intro l_1 hj
    replace hm := h10
    refine ja ?_
    refine js Y (fun h20 => ?_) (fun h20 => ?_)
    ·replace hm := ifT (h20) hm
     refine jr (jo Y Y (jq (jv (jz (je (je (jz ?_)))))))
     obtain rfl := sj hm
     have hbo := h5 _ Y
     subst hbo
     refine je ?_
     replace hm := ocR h4
     refine je ?_
     obtain rfl := sj hm
     refine jm Y (fun w hh => (.tmp Y .nil)) (fun w hh => ⟨(), rfl, trivial, hh.se [] [] 7 Y Y Y rfl⟩)
    replace hm := ifN h20 hm
    refine jt (jw (ja (jg ?_)))
    obtain ⟨t42, h21, hm⟩ := bindO hm
    refine JV h21 Y Y Y (jj Y Y (jx ?_))
    obtain rfl := sj hm
    refine ja ?_
    exact jA _ () Y (trivial) (sE Y) (hsE [1, 2] [] 0 Y Y Y Y)
   replace hm := ifE h6 hm
   refine jV (ji (ji (jC ?_)))
   obtain rfl := sj hm
   have hbo := h5 _ Y
   subst hbo
   exact jk () (Y) (.nil) (fun w hh => hh)
  intro j hj
  have h22 := hj
  subst h22
  replace hm := ocL h4
  refine ja (jr (jo Y Y (jq (jv ?_))))
  obtain rfl := sj hm
  refine jm Y (fun w hh => (.tmp Y .nil)) (fun w hh => ⟨(), rfl, trivial, hh.se [] [] 7 Y Y Y rfl⟩)
structure kk where
  r0 : Int
  a11 : (List (State × Int))
structure zN where
  n9 : Int
  a11 : (List (State × Int))
structure kK where
  n9 : Int
  a11 : (List (State × Int))
structure QV where
  n9 : Int
  a11 : (List (State × Int))
def qk (rec_ : State → (List (State × Int)) → Int → Int → (List Int) → (List Sand) → (List Sight) → (List Int) → (List Int) → Option kk) (a220 : Int) (a221 : Int) (a222 : (List Int)) (a223 : (List Sand)) (a224 : (List Sight)) (a225 : (List Int)) (a330_c0 : (List Int)) (x : State) (s : kK) : Option kK :=
 ((rec_ x s.a11 a220 a221 a222 a223 a224 a225 a330_c0).bind fun t26 =>
 (addc s.n9 t26.r0).bind fun t27 =>
 some (⟨t27, t26.a11⟩ : QV)).bind fun o_2 =>
 some (⟨o_2.n9, o_2.a11⟩ : kK)
def yG (rec_ : State → (List (State × Int)) → Int → Int → (List Int) → (List Sand) → (List Sight) → (List Int) → (List Int) → Option kk) (s0 : State) (a11 : (List (State × Int))) (a220 : Int) (a221 : Int) (a222 : (List Int)) (a223 : (List Sand)) (a224 : (List Sight)) (a225 : (List Int)) (a330_c0 : (List Int)) : Option kk :=
 if ((aget a11 s0).isSome) = true then
 (some (⟨((aget a11 s0).getD 0), a11⟩ : kk)) else
 (((yy a220 a221 a222 a223 a224 a225 a330_c0 s0).bind fun t32 =>
 if (!t32) = true then
 (some (⟨0, a11⟩ : zN)) else
 (if s0.after = a221 then
 (some (⟨1, a11⟩ : zN)) else
 ((ky a220 a221 a222 a223 a224 a225 s0).bind fun t21 =>
 if nextOK a220 a225 (a222.length : Int) t21 then ((iterL (qk rec_ a220 a221 a222 a223 a224 a225 a330_c0) (nextL a220 a225 (a222.length : Int) t21) (⟨0, a11⟩ : kK)).bind fun o_1 =>
 some (⟨o_1.n9, o_1.a11⟩ : zN)) else none))).bind fun o =>
 (some (aset o.a11 s0 o.n9)).bind fun a11_1 =>
 some (⟨o.n9, a11_1⟩ : kk))
def jT : Nat → State → (List (State × Int)) → Int → Int → (List Int) → (List Sand) → (List Sight) → (List Int) → (List Int) → Option kk
  | 0, _, _, _, _, _, _, _, _, _ => none
  | fu + 1, s0, a11, a220, a221, a222, a223, a224, a225, a330_c0 => yG (jT fu) s0 a11 a220 a221 a222 a223 a224 a225 a330_c0
theorem YD (fu_ : Nat) : ∀ (s0 : State) (a11 : (List (State × Int))) (a220 : Int) (a221 : Int) (a222 : (List Int)) (a223 : (List Sand)) (a224 : (List Sight)) (a225 : (List Int)) (a330_c0 : (List Int)) (rb : Nat) (pb : Nat) (rb_1 : Nat) (rb_2 : Nat) (qa3 : Option Addr) (na3 ca3 : Nat) (qa4 : Option Addr) (na4 ca4 : Nat) (qa5 : Option Addr) (na5 ca5 : Nat) (qa6 : Option Addr) (na6 ca6 : Nat) (rb_3 : Nat) (rb_4 : Nat) (qa9 : Option Addr) (na9 ca9 : Nat) (rb_5 : Nat) (w : World) (hw : HV w (keys [(pb, gobj (kR RSta) kI a11)] []) [(pb, gobj (kR RSta) kI a11)] [] [(rb, 0, [.map (some pb)]), (rb_1, 0, [ptr rb_2 0]), (rb_2, 0, [.int .i64 a220, .int .i64 a221, .slice qa3 na3 ca3, .slice qa4 na4 ca4, .slice qa5 na5 ca5, .slice qa6 na6 ca6]), (aB qa3, aO qa3, RI.enc a222), (aB qa4, aO qa4, RSa.enc a223), (aB qa5, aO qa5, RSi.enc a224), (aB qa6, aO qa6, RI.enc a225), (rb_3, 0, [.func (.func 171) #[] #[ptr rb_4 0]]), (rb_4, 0, [.slice qa9 na9 ca9]), (aB qa9, aO qa9, RI.enc a330_c0), (rb_5, 0, [.func (.func 190) #[] #[ptr rb 0, ptr rb_1 0, ptr rb_3 0, ptr rb_5 0]])] w)    (hna3 : a222.length = na3) (hqa3 : AOK na3 qa3) (hla3 : na3 ≤ ca3) (hna4 : a223.length = na4) (hqa4 : AOK na4 qa4) (hla4 : na4 ≤ ca4) (hna5 : a224.length = na5) (hqa5 : AOK na5 qa5) (hla5 : na5 ≤ ca5) (hna6 : a225.length = na6) (hqa6 : AOK na6 qa6) (hla6 : na6 ≤ ca6)   (hna9 : a330_c0.length = na9) (hqa9 : AOK na9 qa9) (hla9 : na9 ≤ ca9)  {res : kk} (hm : jT fu_ s0 a11 a220 a221 a222 a223 a224 a225 a330_c0 = some res),
    Calls Tryz.prog 190 #[.agg #[.int .i64 s0.after, .int .i64 s0.at_.c0, .int .i64 s0.at_.c1, .int .i64 s0.at_.c2], ptr rb 0, ptr rb_1 0, ptr rb_3 0, ptr rb_5 0] w (fun en w' => ∃ l : Unit, en = .returned (.int .i64 res.r0) ∧ (True) ∧ HV w (keys [(pb, gobj (kR RSta) kI a11)] []) [(pb, gobj (kR RSta) kI res.a11)] [] [] w') := by
  induction fu_ with
  | zero =>
    intros
    rename_i hm
    exact absurd hm (by simp [jT])
  | succ fu_ ih =>
  intro s0 a11 a220 a221 a222 a223 a224 a225 a330_c0 rb pb rb_1 rb_2 qa3 na3 ca3 qa4 na4 ca4 qa5 na5 ca5 qa6 na6 ca6 rb_3 rb_4 qa9 na9 ca9 rb_5 w hw    hna3 hqa3 hla3 hna4 hqa4 hla4 hna5 hqa5 hla5 hna6 hqa6 hla6   hna9 hqa9 hla9  res hm
  replace hm : yG (jT fu_) s0 a11 a220 a221 a222 a223 a224 a225 a330_c0 = some res := hm
  unfold yG at hm
  refine ZL (args := [.agg #[.int .i64 s0.after, .int .i64 s0.at_.c0, .int .i64 s0.at_.c1, .int .i64 s0.at_.c2], ptr rb 0, ptr rb_1 0, ptr rb_3 0, ptr rb_5 0]) func190 Y ntmps190 Y (e := [(0, _), (1, _), (2, _), (3, _), (4, _)]) Y (H := HV w (keys [(pb, gobj (kR RSta) kI a11)] []) [(pb, gobj (kR RSta) kI a11)] [] [(rb, 0, [.map (some pb)]), (rb_1, 0, [ptr rb_2 0]), (rb_2, 0, [.int .i64 a220, .int .i64 a221, .slice qa3 na3 ca3, .slice qa4 na4 ca4, .slice qa5 na5 ca5, .slice qa6 na6 ca6]), (aB qa3, aO qa3, RI.enc a222), (aB qa4, aO qa4, RSa.enc a223), (aB qa5, aO qa5, RSi.enc a224), (aB qa6, aO qa6, RI.enc a225), (rb_3, 0, [.func (.func 171) #[] #[ptr rb_4 0]]), (rb_4, 0, [.slice qa9 na9 ca9]), (aB qa9, aO qa9, RI.enc a330_c0), (rb_5, 0, [.func (.func 190) #[] #[ptr rb 0, ptr rb_1 0, ptr rb_3 0, ptr rb_5 0]])]) hw ?_
  refine Y7 (jr ?_)
  refine jG Y Y (fun b h1 => ?_)
  refine jo Y Y (jq (jh (jr (jc Y Y Y (fun w hh => jB (isAgg153 w) Y (segCell (hh.seg 0 Y) 0 Y)) (JC [_, _, _, _] 0 isAgg159 sizeOf159 Y Y Y Y (jc Y Y Y (fun w hh => jaB (k := s0) (z := 0) (runUnderlying153 w) yR (zeroValue3 w) Y Y (hh.mget 1 Y)) (jj Y Y ?_)))))))
  refine JD Y Y Y (JD Y Y Y (jo Y Y (jo Y Y (kY (jj Y Y (jq ?_))))))
  refine js Y (fun h2 => ?_) (fun h2 => ?_)
  ·replace hm := ifT (h2) hm
   refine jr (jj Y Y (jo Y Y (jq (jv (je ?_)))))
   obtain rfl := sj hm
   refine Qr Y Y Y (fun w hh => (.tmp Y .nil)) (fun w hh => ⟨(), rfl, trivial, hh.se [1] [] 11 Y Y Y rfl⟩)
  replace hm := ifN h2 hm
  refine jt (ja (jr ?_))
  refine ju (fun w => zeroValue3 w) Y (fun b_1 h3 => ?_)
  refine zc (cs' := #[_]) (S' := [_, _, _]) 0 (fun w => sizeOf3 w) Y Y Y Y Y Y Y (jq (jh ?_))
  obtain ⟨o, h4, h5⟩ := bindO hm
  refine Z1 (ι := List Nat) (fun l => mks l) (fun l => True) (fun l => [(1, ptr rb 0), (5, ptr b 0), (9, ptr b_1 0)]) (fun l => [kc b_1 #[.int .i64 o.n9] 3, kc b #[.int .i64 s0.after, .int .i64 s0.at_.c0, .int .i64 s0.at_.c1, .int .i64 s0.at_.c2] 159, (pb, gobj (kR RSta) kI o.a11)]) (fun l => [mkV l]) ?_ ?_
  ·replace hm := h4
   refine jl (jr (jc Y Y Y (fun w hh => jB (isAgg146 w) Y (segCell (hh.seg 1 Y) 0 Y)) (jc Y Y Y (fun w hh => jO (vs := [_]) (isAgg181 w) (sizeOf181 w) Y (segCells (hh.seg 7 Y) 0 Y)) (JC [_, _, _, _] 1 isAgg159 sizeOf159 Y Y Y Y ?_))))
   obtain ⟨t32, h6, hm⟩ := bindO hm
   refine jd [] [] Y Y Y Y Y Y Y call143 (fun w hh => YR a220 a221 a222 a223 a224 a225 a330_c0 s0 rb_2 qa3 na3 ca3 qa4 na4 ca4 qa5 na5 ca5 qa6 na6 ca6 rb_4 qa9 na9 ca9 w (HV.callee (S0 := []) (vs0 := []) hh (roR hh 2 Y (roR hh 3 Y (roR hh 4 Y (roR hh 5 Y (roR hh 6 Y (roR hh 8 Y (roR hh 9 Y roN)))))))) hna3 hqa3 hla3 hna4 hqa4 hla4 hna5 hqa5 hla5 hna6 hqa6 hla6 hna9 hqa9 hla9 h6) (fun l_1 h7 => ?_)
   refine jc Y Y Y (fun _ _ => zJ Y) (jo Y Y (jq ?_))
   refine js Y (fun h8 => ?_) (fun h8 => ?_)
   ·replace hm := ifT (h8) hm
    refine jt (jw ?_)
    obtain rfl := sj hm
    exact K4 [] Y (trivial) (sE Y) (fun w hh => hh)
   replace hm := ifN h8 hm
   refine jh ?_
   refine j3 none (.free 0 (.hoist 1 (.hoist 2 (.free 3 (.free 4 (.free 5 (.hoist 6 (.free 7 (.free 8 .done))))))))) _ Y (by decide +kernel) (fun w k hh => hh.draw k) (fun w hh => hh) ?_
   refine KA 0 runUnderlying159 sizeOf3 Y Y Y Y (QA 1 isAgg3 Y Y Y Y Y (jy Y Y Y Y (fun w hh => jB (isAgg146 w) Y (segCell (hh.seg 1 Y) 0 Y)) (jp Y Y Y Y (fun _ _ => qT Y) (KA 0 runUnderlying175 sizeOf26 Y Y Y Y (KA 1 runUnderlying26 sizeOf3 Y Y Y Y (jy Y Y Y Y (fun w hh => jB (isAgg3 w) Y (segCell (hh.seg 2 Y) 1 Y)) (jp Y Y Y Y (fun _ _ => Jw Y Y) ?_)))))))
   refine jp Y Y Y Y (fun _ _ => kp Y) (jH (ja ?_))
   refine js Y (fun h9 => ?_) (fun h9 => ?_)
   ·replace hm := ifD h9 hm
    refine jg (zc (cs' := #[_]) (S' := [_, _, _]) 0 (fun w => sizeOf3 w) Y Y Y Y Y Y Y (jx (jw ?_)))
    obtain rfl := sj hm
    exact K4 [] Y (trivial) (sE Y) (fun w hh => hh)
   replace hm := ifE h9 hm
   refine jr (jc Y Y Y (fun w hh => jB (isAgg146 w) Y (segCell (hh.seg 1 Y) 0 Y)) (JC [_, _, _, _] 1 isAgg159 sizeOf159 Y Y Y Y ?_))
   obtain ⟨t21, h10, hm⟩ := bindO hm
   refine jd [] [] Y Y Y Y Y Y Y call96 (fun w hh => zU a220 a221 a222 a223 a224 a225 s0 rb_2 qa3 na3 ca3 qa4 na4 ca4 qa5 na5 ca5 qa6 na6 ca6 w (HV.callee (S0 := []) (vs0 := []) hh (roR hh 2 Y (roR hh 3 Y (roR hh 4 Y (roR hh 5 Y (roR hh 6 Y roN)))))) hna3 hqa3 hla3 hna4 hqa4 hla4 hna5 hqa5 hla5 hna6 hqa6 hla6 h10) (fun l_2 h11 => ?_)
   refine kx (S' := [_, _, _, _, _]) (vs' := [_]) [0, 1, 2, 3, 4] [0] 0 Y Y Y Y (jq (jl ?_))
   obtain ⟨h12, hm⟩ := ifO hm
   refine jaI (e' := [(1, ptr rb 0), (4, ptr rb_5 0), (5, ptr b 0), (9, ptr b_1 0), (21, .func (.func 161) #[] #[ptr l_2.1 0, ptr l_2.2 0])]) (sE Y) ?_
   obtain ⟨o_1, h13, hm⟩ := bindO hm
   refine Yq (ι := Unit) (nextL a220 a225 (a222.length : Int) t21) (fun x => .agg #[.int .i64 x.after, .int .i64 x.at_.c0, .int .i64 x.at_.c1, .int .i64 x.at_.c2]) h13 (fun s l_3 => True) (fun s l_3 => [kc l_2.1 #[.int .i64 t21.after, .int .i64 t21.at_.c0, .int .i64 t21.at_.c1, .int .i64 t21.at_.c2] 159, kc l_2.2 #[ptr rb_2 0] 146, kc b_1 #[.int .i64 s.n9] 3, kc b #[.int .i64 s0.after, .int .i64 s0.at_.c0, .int .i64 s0.at_.c1, .int .i64 s0.at_.c2] 159, (pb, gobj (kR RSta) kI s.a11)]) (fun s l_3 => [mkV []]) () (trivial) (fun w hh => hh) (RdN l_2.2 rb_2 l_2.1 a220 (.int .i64 a221) (.slice qa4 na4 ca4) (.slice qa5 na5 ca5) qa3 qa6 na3 ca3 na6 ca6 a225 t21) (fun s l_3 w h14 hh => ⟨hh.bseg 1 rfl, hh.seg 2 rfl, hh.bseg 0 rfl, hh.seg 6 rfl⟩) (fun x => (.cells #[.int .i64 x.after, .int .i64 x.at_.c0, .int .i64 x.at_.c1, .int .i64 x.at_.c2] 159 (0, 0))) (it_next _ _ _ l_2.2 rb_2 l_2.1 a220 (.int .i64 a221) (.slice qa4 na4 ca4) (.slice qa5 na5 ca5) qa3 qa6 na3 ca3 na6 ca6 a222 a225 t21 hna3 hna6 hqa6 h12) Y call161 Y (e1 := fun x bx => (10, ptr bx 0) :: (22, .agg #[.int .i64 x.after, .int .i64 x.at_.c0, .int .i64 x.at_.c1, .int .i64 x.at_.c2]) :: [(1, ptr rb 0), (4, ptr rb_5 0), (5, ptr b 0), (9, ptr b_1 0), (21, .func (.func 161) #[] #[ptr l_2.1 0, ptr l_2.2 0])]) (fun x lr L X hX => ?_) (fun x s r l_3 lr w1 bx h14 hm => ?_) (fun l_3 D h14 => ?_)
   ·refine jg ?_
    refine ju (fun w => zeroValue159 w) Y (fun b_2 h17 => ?_)
    refine kD (us := #[_, _, _, _]) (cs' := [_, _, _, _]) (S' := [_]) 0 (fun w => sizeOf159 w) Y Y Y Y Y Y Y (jq ?_)
    exact hX _
   ·unfold qk at hm
    refine jl ?_
    obtain ⟨o_2, h18, h19⟩ := bindO hm
    refine jM (ι := Unit) (fun l_4 => True) (fun l_4 => []) (fun l_4 => [kc bx #[.int .i64 x.after, .int .i64 x.at_.c0, .int .i64 x.at_.c1, .int .i64 x.at_.c2] 159, kc l_2.1 #[.int .i64 t21.after, .int .i64 t21.at_.c0, .int .i64 t21.at_.c1, .int .i64 t21.at_.c2] 159, kc l_2.2 #[ptr rb_2 0] 146, kc b_1 #[.int .i64 o_2.n9] 3, kc b #[.int .i64 s0.after, .int .i64 s0.at_.c0, .int .i64 s0.at_.c1, .int .i64 s0.at_.c2] 159, (pb, gobj (kR RSta) kI o_2.a11)]) (fun l_4 => [mkV []]) ?_ ?_
    ·replace hm := h18
     refine j3 (some 5) (.hoist 0 (.hoist 1 (.hoist 2 (.one 3 (.free 4 (.last 5 .done)))))) (HV _ _ [kc bx #[.int .i64 x.after, .int .i64 x.at_.c0, .int .i64 x.at_.c1, .int .i64 x.at_.c2] 159, kc l_2.1 #[.int .i64 t21.after, .int .i64 t21.at_.c0, .int .i64 t21.at_.c1, .int .i64 t21.at_.c2] 159, kc l_2.2 #[ptr rb_2 0] 146, kc b_1 #[.int .i64 s.n9] 3, kc b #[.int .i64 s0.after, .int .i64 s0.at_.c0, .int .i64 s0.at_.c1, .int .i64 s0.at_.c2] 159] [mkV []] _) Y (by decide +kernel) (fun w k hh => hh.draw k) (hsE [0, 1, 2, 3, 4] [0] 0 Y Y Y Y) ?_
     refine QA 3 isAgg3 Y Y Y Y Y (jy Y Y Y Y (fun w hh => jB (isAgg171 w) Y (segCell (hh.seg 10 Y) 0 Y)) (jy Y Y Y Y (fun w hh => jO (vs := [_, _, _, _]) (isAgg159 w) (sizeOf159 w) Y (hh.cells 0 Y Y)) (jD Y ?_)))
     obtain ⟨t26, h20, hm⟩ := bindO hm
     refine kx (S' := [_, _, _, _, _, _]) (vs' := [_]) [5, 0, 1, 2, 3, 4] [0] 0 Y Y Y Y ?_
     refine jd [_] [] Y Y Y Y Y Y Y call190 (fun w hh => ih x s.a11 a220 a221 a222 a223 a224 a225 a330_c0 rb pb rb_1 rb_2 qa3 na3 ca3 qa4 na4 ca4 qa5 na5 ca5 qa6 na6 ca6 rb_3 rb_4 qa9 na9 ca9 rb_5 w (HV.callee (S0 := [_]) (vs0 := []) hh (roR hh 0 Y (roR hh 1 Y (roR hh 2 Y (roR hh 3 Y (roR hh 4 Y (roR hh 5 Y (roR hh 6 Y (roR hh 7 Y (roR hh 8 Y (roR hh 9 Y (roR hh 10 Y roN)))))))))))) hna3 hqa3 hla3 hna4 hqa4 hla4 hna5 hqa5 hla5 hna6 hqa6 hla6 hna9 hqa9 hla9 h20) (fun l_5 h21 => ?_)
     refine kx (S' := [_, _, _, _, _, _]) (vs' := [_]) [0, 1, 2, 3, 4, 5] [0] 0 Y Y Y Y (jn (hsE [1, 2, 3, 4, 5] [0] 0 Y Y Y Y) ?_)
     obtain ⟨t27, h22, hm⟩ := bindO hm
     refine jp Y Y Y Y (fun _ _ => Qg h22 Y Y) (jaP Y (zc (cs' := #[_]) (S' := [_, _, _, _, _, _]) 4 (fun w => sizeOf3 w) Y Y Y Y Y Y Y (jae (jH ?_))))
     obtain rfl := sj hm
     exact jk () (trivial) (.nil) (hsE [1, 2, 3, 4, 5, 0] [0] 0 Y Y Y Y)
    intro l_4 hj
    replace hm := h19
    refine jw ?_
    obtain rfl := sj hm
    exact Y3 (⟨o_2.n9, o_2.a11⟩ : kK) () Y (trivial) (hsE [1, 2, 3, 4, 5] [0] 11 Y Y Y Y)
   refine Zy 0 Y Y (jw (jw ?_))
   obtain rfl := sj hm
   exact K4 (D :: []) Y (trivial) (sE Y) (hsE [2, 3, 4] [0] 0 Y Y Y Y)
  intro l hj
  replace hm := h5
  refine ja (jr (jc Y Y Y (fun w hh => jB (isAgg153 w) Y (segCell (hh.seg 0 Y) 0 Y)) (JC [_, _, _, _] 1 isAgg159 sizeOf159 Y Y Y Y (qp 0 isAgg3 Y Y Y Y ?_))))
  obtain ⟨a11_1, h23, hm⟩ := bindO hm
  refine Yv (k := s0) (v := o.n9) 2 (fun w => runUnderlying153 w) yR Y Y Y Y (Option.some.inj h23) Y (kY (qp 0 isAgg3 Y Y Y Y (jo Y Y (jq (jv ?_)))))
  obtain rfl := sj hm
  refine Qr Y Y Y (fun w hh => (.tmp Y .nil)) (fun w hh => ⟨(), rfl, trivial, hh.se [2] [] 11 Y Y Y rfl⟩)
def Jk (d00 : Int) (d01 : Int) (d02 : (List Int)) (d03 : (List Sand)) (d04 : (List Sight)) (d05 : (List Int)) (f1_0_c0 : (List Int)) : Option (List (State × Int)) :=
 (jL d00 d01 d02 d03 d04 d05).bind fun t11 =>
 (jT FU t11 [] d00 d01 d02 d03 d04 d05 f1_0_c0).bind fun t12 =>
 some t12.a11
theorem YU (d00 : Int) (d01 : Int) (d02 : (List Int)) (d03 : (List Sand)) (d04 : (List Sight)) (d05 : (List Int)) (f1_0_c0 : (List Int)) (rb : Nat) (qa1 : Option Addr) (na1 ca1 : Nat) (qa2 : Option Addr) (na2 ca2 : Nat) (qa3 : Option Addr) (na3 ca3 : Nat) (qa4 : Option Addr) (na4 ca4 : Nat) (rb_1 : Nat) (qa6 : Option Addr) (na6 ca6 : Nat) (w : World) (hw : HV w (keys [] []) [] [] [(rb, 0, [.int .i64 d00, .int .i64 d01, .slice qa1 na1 ca1, .slice qa2 na2 ca2, .slice qa3 na3 ca3, .slice qa4 na4 ca4]), (aB qa1, aO qa1, RI.enc d02), (aB qa2, aO qa2, RSa.enc d03), (aB qa3, aO qa3, RSi.enc d04), (aB qa4, aO qa4, RI.enc d05), (rb_1, 0, [.slice qa6 na6 ca6]), (aB qa6, aO qa6, RI.enc f1_0_c0)] w)  (hna1 : d02.length = na1) (hqa1 : AOK na1 qa1) (hla1 : na1 ≤ ca1) (hna2 : d03.length = na2) (hqa2 : AOK na2 qa2) (hla2 : na2 ≤ ca2) (hna3 : d04.length = na3) (hqa3 : AOK na3 qa3) (hla3 : na3 ≤ ca3) (hna4 : d05.length = na4) (hqa4 : AOK na4 qa4) (hla4 : na4 ≤ ca4)  (hna6 : f1_0_c0.length = na6) (hqa6 : AOK na6 qa6) (hla6 : na6 ≤ ca6) {res : (List (State × Int))} (hm : Jk d00 d01 d02 d03 d04 d05 f1_0_c0 = some res) :
    Calls Tryz.prog 159 #[ptr rb 0, .agg #[.func (.func 171) #[] #[ptr rb_1 0]]] w (fun en w' => ∃ l : Nat, en = .returned (.map (some l)) ∧ (True) ∧ HV w (keys [] []) [(l, gobj (kR RSta) kI res)] [] [] w') := by
  unfold Jk at hm
  refine qL func159 Y ntmps159 Y (e := [(0, _), (1, _)]) Y hw (jr ?_)
  refine jG Y Y (fun b h1 => ?_)
  refine jG Y Y (fun b_1 h2 => ?_)
  refine jo Y Y (kY ?_)
  refine Y9 (kR RSta) kI Y (fun b_2 h3 => ?_)
  refine ju (fun w => zeroValue153 w) Y (fun b_3 h4 => ?_)
  refine zc (cs' := #[_]) (S' := [_, _, _, _]) 0 (fun w => sizeOf153 w) Y Y Y Y Y Y Y (kY ?_)
  refine ju (fun w => zeroValue171 w) Y (fun b_4 h5 => ?_)
  refine kY (jc Y Y Y (fun _ _ => kg (u := #[]) (u' := #[_, _, _, _]) Y Y) (zc (cs' := #[_]) (S' := [_, _, _, _, _]) 0 (fun w => sizeOf171 w) Y Y Y Y Y Y Y (jq (jh ?_))))
  refine j3 none (.hoist 0 (.hoist 1 (.one 2 (.one 3 .done)))) (HV _ _ [kc b_4 #[.func (.func 190) #[] #[ptr b_3 0, ptr b 0, ptr b_1 0, ptr b_4 0]] 171, kc b_3 #[.map (some b_2)] 153, kc b_1 #[.func (.func 171) #[] #[ptr rb_1 0]] 181, kc b #[ptr rb 0] 146] [] _) Y (by decide +kernel) (fun w k hh => hh.draw k) (hsE [0, 1, 3, 4] [] 0 Y Y Y Y) ?_
  refine QA 0 isAgg171 Y Y Y Y Y (QA 3 isAgg146 Y Y Y Y Y (jD Y ?_))
  obtain ⟨t11, h6, hm⟩ := bindO hm
  refine jd [] [] Y Y Y Y Y Y Y call99 (fun w hh => j5 d00 d01 d02 d03 d04 d05 rb qa1 na1 ca1 qa2 na2 ca2 qa3 na3 ca3 qa4 na4 ca4 w (HV.callee (S0 := []) (vs0 := []) hh (roR hh 0 Y (roR hh 1 Y (roR hh 2 Y (roR hh 3 Y (roR hh 4 Y roN)))))) hna1 hqa1 hla1 hna2 hqa2 hla2 hna3 hqa3 hla3 hna4 hqa4 hla4 h6) (fun l h7 => ?_)
  refine jn (hsE [0, 1, 3, 4] [] 0 Y Y Y Y) (jD Y ?_)
  obtain ⟨t12, h8, hm⟩ := bindO hm
  refine kx (S' := [_, _, _, _, _]) (vs' := []) [2, 0, 1, 3, 4] [] 0 Y Y Y Y ?_
  refine jd [_] [] Y Y Y Y Y Y Y call190 (fun w hh => YD FU t11 [] d00 d01 d02 d03 d04 d05 f1_0_c0 b_3 b_2 b rb qa1 na1 ca1 qa2 na2 ca2 qa3 na3 ca3 qa4 na4 ca4 b_1 rb_1 qa6 na6 ca6 b_4 w (HV.callee (S0 := [_]) (vs0 := []) hh (roC (hh.bsepH 1 Y) (roC (hh.bsepH 3 Y) (roR hh 0 Y (roR hh 1 Y (roR hh 2 Y (roR hh 3 Y (roR hh 4 Y (roC (hh.bsepH 2 Y) (roR hh 5 Y (roR hh 6 Y (roC (hh.bsepH 0 Y) roN)))))))))))) hna1 hqa1 hla1 hna2 hqa2 hla2 hna3 hqa3 hla3 hna4 hqa4 hla4 hna6 hqa6 hla6 h8) (fun l_1 h9 => ?_)
  refine kx (S' := [_, _, _, _, _]) (vs' := []) [0, 1, 2, 3, 4] [] 0 Y Y Y Y (jn (hsE [1, 2, 3, 4] [] 0 Y Y Y Y) (jH (ja (jr (qp 2 isAgg153 Y Y Y Y (jo Y Y (jq ?_)))))))
  refine jv ?_
  obtain rfl := sj hm
  refine jm Y (fun w hh => (.tmp Y .nil)) (fun w hh => ⟨b_2, rfl, trivial, hh.se [0] [] 7 Y Y Y rfl⟩)
def kT (d00 : Int) (d01 : Int) (d02 : (List Int)) (d03 : (List Sand)) (d04 : (List Sight)) (d05 : (List Int)) (f1_0_c0 : (List Int)) : Option Bool :=
 (Jk d00 d01 d02 d03 d04 d05 f1_0_c0).bind fun t7 =>
 (jL d00 d01 d02 d03 d04 d05).bind fun t9 =>
 some (decide (0 < ((aget t7 t9).getD 0)))
theorem JW (d00 : Int) (d01 : Int) (d02 : (List Int)) (d03 : (List Sand)) (d04 : (List Sight)) (d05 : (List Int)) (f1_0_c0 : (List Int)) (rb : Nat) (qa1 : Option Addr) (na1 ca1 : Nat) (qa2 : Option Addr) (na2 ca2 : Nat) (qa3 : Option Addr) (na3 ca3 : Nat) (qa4 : Option Addr) (na4 ca4 : Nat) (rb_1 : Nat) (qa6 : Option Addr) (na6 ca6 : Nat) (w : World) (hw : HV w (keys [] []) [] [] [(rb, 0, [.int .i64 d00, .int .i64 d01, .slice qa1 na1 ca1, .slice qa2 na2 ca2, .slice qa3 na3 ca3, .slice qa4 na4 ca4]), (aB qa1, aO qa1, RI.enc d02), (aB qa2, aO qa2, RSa.enc d03), (aB qa3, aO qa3, RSi.enc d04), (aB qa4, aO qa4, RI.enc d05), (rb_1, 0, [.slice qa6 na6 ca6]), (aB qa6, aO qa6, RI.enc f1_0_c0)] w)  (hna1 : d02.length = na1) (hqa1 : AOK na1 qa1) (hla1 : na1 ≤ ca1) (hna2 : d03.length = na2) (hqa2 : AOK na2 qa2) (hla2 : na2 ≤ ca2) (hna3 : d04.length = na3) (hqa3 : AOK na3 qa3) (hla3 : na3 ≤ ca3) (hna4 : d05.length = na4) (hqa4 : AOK na4 qa4) (hla4 : na4 ≤ ca4)  (hna6 : f1_0_c0.length = na6) (hqa6 : AOK na6 qa6) (hla6 : na6 ≤ ca6) {res : Bool} (hm : kT d00 d01 d02 d03 d04 d05 f1_0_c0 = some res) :
    Calls Tryz.prog 121 #[ptr rb 0, .agg #[.func (.func 171) #[] #[ptr rb_1 0]]] w (fun en w' => ∃ l : Unit, en = .returned (.bool res) ∧ (True) ∧ HV w (keys [] []) [] [] [] w') := by
  unfold kT at hm
  refine qL func121 Y ntmps121 Y (e := [(0, _), (1, _)]) Y hw (jr ?_)
  refine jG Y Y (fun b h1 => ?_)
  refine jo Y Y (kY (jj Y Y (JC [_] 0 isAgg181 sizeOf181 Y Y Y Y ?_)))
  obtain ⟨t7, h2, hm⟩ := bindO hm
  refine jd [] [] Y Y Y Y Y Y Y call159 (fun w hh => YU d00 d01 d02 d03 d04 d05 f1_0_c0 rb qa1 na1 ca1 qa2 na2 ca2 qa3 na3 ca3 qa4 na4 ca4 rb_1 qa6 na6 ca6 w (HV.callee (S0 := []) (vs0 := []) hh (roR hh 0 Y (roR hh 1 Y (roR hh 2 Y (roR hh 3 Y (roR hh 4 Y (roR hh 5 Y (roR hh 6 Y roN)))))))) hna1 hqa1 hla1 hna2 hqa2 hla2 hna3 hqa3 hla3 hna4 hqa4 hla4 hna6 hqa6 hla6 h2) (fun l h3 => ?_)
  refine kx (S' := [_, _]) (vs' := []) [0, 1] [] 0 Y Y Y Y (jj Y Y ?_)
  obtain ⟨t9, h4, hm⟩ := bindO hm
  refine jd [] [] Y Y Y Y Y Y Y call99 (fun w hh => j5 d00 d01 d02 d03 d04 d05 rb qa1 na1 ca1 qa2 na2 ca2 qa3 na3 ca3 qa4 na4 ca4 w (HV.callee (S0 := []) (vs0 := []) hh (roR hh 0 Y (roR hh 1 Y (roR hh 2 Y (roR hh 3 Y (roR hh 4 Y roN)))))) hna1 hqa1 hla1 hna2 hqa2 hla2 hna3 hqa3 hla3 hna4 hqa4 hla4 h4) (fun l_1 h5 => ?_)
  refine jc Y Y Y (fun w hh => Yg (k := t9) (z := 0) (runUnderlying153 w) yR (zeroValue3 w) Y Y (hh.mget 0 Y)) (jc Y Y Y (fun _ _ => QI Y Y) (jo Y Y (jq (jv ?_))))
  obtain rfl := sj hm
  refine jm Y (fun w hh => (.tmp Y .nil)) (fun w hh => ⟨(), rfl, trivial, hh.se [] [] 7 Y Y Y rfl⟩)
def z2 (a11 : (List Int)) (a220 : Int) (a221 : Int) (a222 : (List Int)) (a223 : (List Sand)) (a224 : (List Sight)) (a225 : (List Int)) : Option Bool :=
 (z6 []).bind fun t8 =>
 (kT a220 a221 a222 a223 a224 a225 []).bind fun t9 =>
 some (!t9)
theorem ZC (a11 : (List Int)) (a220 : Int) (a221 : Int) (a222 : (List Int)) (a223 : (List Sand)) (a224 : (List Sight)) (a225 : (List Int)) (pb : Nat) (qa0 : Option Addr) (na0 ca0 : Nat) (rb : Nat) (rb_1 : Nat) (qa3 : Option Addr) (na3 ca3 : Nat) (qa4 : Option Addr) (na4 ca4 : Nat) (qa5 : Option Addr) (na5 ca5 : Nat) (qa6 : Option Addr) (na6 ca6 : Nat) (w : World) (hw : HV w (keys [kc pb #[.slice qa0 na0 ca0] 22] []) [kc pb #[.slice qa0 na0 ca0] 22] [] [(aB qa0, aO qa0, RI.enc a11), (rb, 0, [ptr rb_1 0]), (rb_1, 0, [.int .i64 a220, .int .i64 a221, .slice qa3 na3 ca3, .slice qa4 na4 ca4, .slice qa5 na5 ca5, .slice qa6 na6 ca6]), (aB qa3, aO qa3, RI.enc a222), (aB qa4, aO qa4, RSa.enc a223), (aB qa5, aO qa5, RSi.enc a224), (aB qa6, aO qa6, RI.enc a225)] w) (hna0 : a11.length = na0) (hqa0 : AOK na0 qa0) (hla0 : na0 ≤ ca0)   (hna3 : a222.length = na3) (hqa3 : AOK na3 qa3) (hla3 : na3 ≤ ca3) (hna4 : a223.length = na4) (hqa4 : AOK na4 qa4) (hla4 : na4 ≤ ca4) (hna5 : a224.length = na5) (hqa5 : AOK na5 qa5) (hla5 : na5 ≤ ca5) (hna6 : a225.length = na6) (hqa6 : AOK na6 qa6) (hla6 : na6 ≤ ca6) {res : Bool} (hm : z2 a11 a220 a221 a222 a223 a224 a225 = some res) :
    Calls Tryz.prog 128 #[slv none 0 0, ptr pb 0, ptr rb 0] w (fun en w' => ∃ l : Unit, en = .returned (.bool res) ∧ (True) ∧ HV w (keys [kc pb #[.slice qa0 na0 ca0] 22] []) [kc pb #[slv none 0 0] 22] [] [] w') := by
  unfold z2 at hm
  refine qL func128 Y ntmps128 Y (e := [(0, _), (1, _), (2, _)]) Y hw (jr (jo Y Y (kY (jj Y Y (zc (cs' := #[_]) (S' := [_]) 0 (fun w => sizeOf22 w) Y Y Y Y Y Y Y (jq (jh ?_)))))))
  refine j3 none (.hoist 0 (.free 1 (.one 2 (.one 3 (.free 4 (.free 5 .done)))))) _ Y (by decide +kernel) (fun w k hh => hh.draw k) (fun w hh => hh) (jy Y Y Y Y (fun w hh => jB (isAgg146 w) Y (segCell (hh.seg 1 Y) 0 Y)) (qD Y Y Y (jD Y ?_)))
  obtain ⟨t8, h1, hm⟩ := bindO hm
  refine jd [] [] Y Y Y Y Y Y Y call122 (fun w hh => YE [] none 0 0 w (HV.callee (S0 := []) (vs0 := []) hh (roC ⟨segOK.nil, fun hx => absurd Y hx⟩ roN)) Y AOK.nil (Nat.le_refl 0) h1) (fun l h2 => ?_)
  refine kx (S' := [_, _]) (vs' := []) [0, 1] [] 0 Y Y Y Y (jn (hsE [1] [] 0 Y Y Y Y) (jD Y ?_))
  obtain ⟨t9, h3, hm⟩ := bindO hm
  refine jd [] [] Y Y Y Y Y Y Y call121 (fun w hh => JW a220 a221 a222 a223 a224 a225 [] rb_1 qa3 na3 ca3 qa4 na4 ca4 qa5 na5 ca5 qa6 na6 ca6 l none 0 0 w (HV.callee (S0 := []) (vs0 := []) hh (roR hh 2 Y (roR hh 3 Y (roR hh 4 Y (roR hh 5 Y (roR hh 6 Y (roC (bsep (hh.bseg 0 Y)) (roC ⟨segOK.nil, fun hx => absurd Y hx⟩ roN)))))))) hna3 hqa3 hla3 hna4 hqa4 hla4 hna5 hqa5 hla5 hna6 hqa6 hla6 Y AOK.nil (Nat.le_refl 0) h3) (fun l_1 h4 => ?_)
  refine jn (hsE [1] [] 0 Y Y Y Y) (jp Y Y Y Y (fun _ _ => zJ Y) (jp Y Y Y Y (fun _ _ => kp Y) (jH (ja (jv ?_)))))
  obtain rfl := sj hm
  refine jm Y (fun w hh => (.tmp Y .nil)) (fun w hh => ⟨(), rfl, trivial, hh.se [1] [] 7 Y Y Y rfl⟩)
structure Kn where
  r0 : Bool
  a11 : (List Int)
def Jj (l0 : (List Int)) (a11 : (List Int)) (a220 : Int) (a221 : Int) (a222 : (List Int)) (a223 : (List Sand)) (a224 : (List Sight)) (a225 : (List Int)) : Option Kn :=
 (z6 l0).bind fun t8 =>
 (kT a220 a221 a222 a223 a224 a225 l0).bind fun t9 =>
 some (⟨(!t9), l0⟩ : Kn)
theorem ZD (l0 : (List Int)) (a11 : (List Int)) (a220 : Int) (a221 : Int) (a222 : (List Int)) (a223 : (List Sand)) (a224 : (List Sight)) (a225 : (List Int)) (V_l0 : VL) (pb : Nat) (qa0 : Option Addr) (na0 ca0 : Nat) (rb : Nat) (rb_1 : Nat) (qa3 : Option Addr) (na3 ca3 : Nat) (qa4 : Option Addr) (na4 ca4 : Nat) (qa5 : Option Addr) (na5 ca5 : Nat) (qa6 : Option Addr) (na6 ca6 : Nat) (w : World) (hw : HV w (keys [kc pb #[.slice qa0 na0 ca0] 22] [vL 3 V_l0 (RI.enc l0)]) [kc pb #[.slice qa0 na0 ca0] 22] [vL 3 V_l0 (RI.enc l0)] [(aB qa0, aO qa0, RI.enc a11), (rb, 0, [ptr rb_1 0]), (rb_1, 0, [.int .i64 a220, .int .i64 a221, .slice qa3 na3 ca3, .slice qa4 na4 ca4, .slice qa5 na5 ca5, .slice qa6 na6 ca6]), (aB qa3, aO qa3, RI.enc a222), (aB qa4, aO qa4, RSa.enc a223), (aB qa5, aO qa5, RSi.enc a224), (aB qa6, aO qa6, RI.enc a225)] w) (hv_l0 : VOK 1 V_l0.n V_l0.cap (RI.enc l0) V_l0.sp V_l0.q) (hna0 : a11.length = na0) (hqa0 : AOK na0 qa0) (hla0 : na0 ≤ ca0)   (hna3 : a222.length = na3) (hqa3 : AOK na3 qa3) (hla3 : na3 ≤ ca3) (hna4 : a223.length = na4) (hqa4 : AOK na4 qa4) (hla4 : na4 ≤ ca4) (hna5 : a224.length = na5) (hqa5 : AOK na5 qa5) (hla5 : na5 ≤ ca5) (hna6 : a225.length = na6) (hqa6 : AOK na6 qa6) (hla6 : na6 ≤ ca6) {res : Kn} (hm : Jj l0 a11 a220 a221 a222 a223 a224 a225 = some res) :
    Calls Tryz.prog 128 #[sL V_l0, ptr pb 0, ptr rb 0] w (fun en w' => ∃ l : VL, en = .returned (.bool res.r0) ∧ (VOK 1 l.n l.cap (RI.enc res.a11) l.sp l.q) ∧ HV w (keys [kc pb #[.slice qa0 na0 ca0] 22] [vL 3 V_l0 (RI.enc l0)]) [kc pb #[sL l] 22] [vL 3 l (RI.enc res.a11)] [] w') := by
  unfold Jj at hm
  refine qL func128 Y ntmps128 Y (e := [(0, _), (1, _), (2, _)]) Y hw (jr (jo Y Y (kY (jj Y Y (zc (cs' := #[_]) (S' := [_]) 0 (fun w => sizeOf22 w) Y Y Y Y Y Y Y (jq (jh ?_)))))))
  refine j3 none (.hoist 0 (.free 1 (.one 2 (.one 3 (.free 4 (.free 5 .done)))))) _ Y (by decide +kernel) (fun w k hh => hh.draw k) (fun w hh => hh) (jy Y Y Y Y (fun w hh => jB (isAgg146 w) Y (segCell (hh.seg 1 Y) 0 Y)) (qD Y Y Y (jD Y ?_)))
  obtain ⟨t8, h2, hm⟩ := bindO hm
  refine jd [] [] Y Y Y Y Y Y Y call122 (fun w hh => YE l0 (qA V_l0.q) V_l0.n V_l0.cap w (HV.callee (S0 := []) (vs0 := []) hh (roC (hh.vsepA 0 Y hv_l0) roN)) (vlen RI hv_l0 Y) (AOK.q (vne hv_l0)) (hv_l0).hle h2) (fun l h3 => ?_)
  refine kx (S' := [_, _]) (vs' := [_]) [0, 1] [0] 0 Y Y Y Y (jn (hsE [1] [0] 0 Y Y Y Y) (jD Y ?_))
  obtain ⟨t9, h4, hm⟩ := bindO hm
  refine jd [] [] Y Y Y Y Y Y Y call121 (fun w hh => JW a220 a221 a222 a223 a224 a225 l0 rb_1 qa3 na3 ca3 qa4 na4 ca4 qa5 na5 ca5 qa6 na6 ca6 l (qA V_l0.q) V_l0.n V_l0.cap w (HV.callee (S0 := []) (vs0 := []) hh (roR hh 2 Y (roR hh 3 Y (roR hh 4 Y (roR hh 5 Y (roR hh 6 Y (roC (bsep (hh.bseg 0 Y)) (roC (hh.vsepA 0 Y hv_l0) roN)))))))) hna3 hqa3 hla3 hna4 hqa4 hla4 hna5 hqa5 hla5 hna6 hqa6 hla6 (vlen RI hv_l0 Y) (AOK.q (vne hv_l0)) (hv_l0).hle h4) (fun l_1 h5 => ?_)
  refine jn (hsE [1] [0] 0 Y Y Y Y) (jp Y Y Y Y (fun _ _ => zJ Y) (jp Y Y Y Y (fun _ _ => kp Y) (jH (ja (jv ?_)))))
  obtain rfl := sj hm
  refine jm Y (fun w hh => (.tmp Y .nil)) (fun w hh => ⟨V_l0, rfl, hv_l0, hh.se [1] [0] 7 Y Y Y rfl⟩)
structure jP where
  r0 : Bool
  a33_c0 : (List Int)
structure yn where
  i9 : Int
  a33_c0 : (List Int)
structure QT where
  t36 : Bool
  a33_c0 : (List Int)
def qj (a33_c14 : (List Sight)) (l0 : (List Int)) (rec_ : (List Int) → Int → Int → (List Int) → Int → Int → (List Int) → (List Sand) → (List Sight) → (List Int) → Option jP) (a22 : Int) (a33_c10 : Int) (a33_c11 : Int) (a33_c12 : (List Int)) (a33_c13 : (List Sand)) (a33_c15 : (List Int)) (s : yn) : Option (yn ⊕ ((List Int) ⊕ jP)) :=
 if s.i9 < (a33_c14.length : Int) then
 (((addc s.i9 1).bind fun t35 =>
 (ks l0).bind fun t30 =>
 (appc 8 t30 [s.i9]).bind fun t33 =>
 (rec_ t33 t35 a22 s.a33_c0 a33_c10 a33_c11 a33_c12 a33_c13 a33_c14 a33_c15).bind fun t36 =>
 some (⟨t36.r0, t36.a33_c0⟩ : QT)).bind fun o_1 =>
 if o_1.t36 = true then
 (some (.inr (.inr (⟨true, o_1.a33_c0⟩ : jP)))) else
 ((addc s.i9 1).bind fun t27 =>
 some (.inl (⟨t27, o_1.a33_c0⟩ : yn)))) else
 (some (.inr (.inl s.a33_c0)))
def qH (rec_ : (List Int) → Int → Int → (List Int) → Int → Int → (List Int) → (List Sand) → (List Sight) → (List Int) → Option jP) (l0 : (List Int)) (from1 : Int) (a22 : Int) (a33_c0 : (List Int)) (a33_c10 : Int) (a33_c11 : Int) (a33_c12 : (List Int)) (a33_c13 : (List Sand)) (a33_c14 : (List Sight)) (a33_c15 : (List Int)) : Option jP :=
 if (l0.length : Int) = a22 then
 ((Jj l0 a33_c0 a33_c10 a33_c11 a33_c12 a33_c13 a33_c14 a33_c15).bind fun t16 =>
 some (⟨t16.r0, t16.a11⟩ : jP)) else
 ((iterM FU (qj a33_c14 l0 rec_ a22 a33_c10 a33_c11 a33_c12 a33_c13 a33_c15) (⟨from1, a33_c0⟩ : yn)).bind fun o =>
 oc o (fun j_1 => some (⟨false, j_1⟩ : jP)) (fun r_1 => some r_1))
def jY : Nat → (List Int) → Int → Int → (List Int) → Int → Int → (List Int) → (List Sand) → (List Sight) → (List Int) → Option jP
  | 0, _, _, _, _, _, _, _, _, _, _ => none
  | fu + 1, l0, from1, a22, a33_c0, a33_c10, a33_c11, a33_c12, a33_c13, a33_c14, a33_c15 => qH (jY fu) l0 from1 a22 a33_c0 a33_c10 a33_c11 a33_c12 a33_c13 a33_c14 a33_c15
theorem K1 (fu_ : Nat) : ∀ (l0 : (List Int)) (from1 : Int) (a22 : Int) (a33_c0 : (List Int)) (a33_c10 : Int) (a33_c11 : Int) (a33_c12 : (List Int)) (a33_c13 : (List Sand)) (a33_c14 : (List Sight)) (a33_c15 : (List Int)) (V_l0 : VL) (rb : Nat) (rb_1 : Nat) (pb : Nat) (V_a33_c0 : VL) (rb_2 : Nat) (rb_3 : Nat) (qa4 : Option Addr) (na4 ca4 : Nat) (qa5 : Option Addr) (na5 ca5 : Nat) (qa6 : Option Addr) (na6 ca6 : Nat) (qa7 : Option Addr) (na7 ca7 : Nat) (rb_4 : Nat) (rb_5 : Nat) (w : World) (hw : HV w (keys [kc pb #[sL V_a33_c0] 22] [vL 3 V_l0 (RI.enc l0), vL 3 V_a33_c0 (RI.enc a33_c0)]) [kc pb #[sL V_a33_c0] 22] [vL 3 V_l0 (RI.enc l0), vL 3 V_a33_c0 (RI.enc a33_c0)] [(rb, 0, [.int .i64 a22]), (rb_1, 0, [.func (.func 128) #[] #[ptr pb 0, ptr rb_2 0]]), (rb_2, 0, [ptr rb_3 0]), (rb_3, 0, [.int .i64 a33_c10, .int .i64 a33_c11, .slice qa4 na4 ca4, .slice qa5 na5 ca5, .slice qa6 na6 ca6, .slice qa7 na7 ca7]), (aB qa4, aO qa4, RI.enc a33_c12), (aB qa5, aO qa5, RSa.enc a33_c13), (aB qa6, aO qa6, RSi.enc a33_c14), (aB qa7, aO qa7, RI.enc a33_c15), (rb_4, 0, [ptr rb_3 0]), (rb_5, 0, [.func (.func 173) #[] #[ptr rb 0, ptr rb_1 0, ptr rb_4 0, ptr rb_5 0]])] w) (hv_l0 : VOK 1 V_l0.n V_l0.cap (RI.enc l0) V_l0.sp V_l0.q)   (hv_a33_c0 : VOK 1 V_a33_c0.n V_a33_c0.cap (RI.enc a33_c0) V_a33_c0.sp V_a33_c0.q)   (hna4 : a33_c12.length = na4) (hqa4 : AOK na4 qa4) (hla4 : na4 ≤ ca4) (hna5 : a33_c13.length = na5) (hqa5 : AOK na5 qa5) (hla5 : na5 ≤ ca5) (hna6 : a33_c14.length = na6) (hqa6 : AOK na6 qa6) (hla6 : na6 ≤ ca6) (hna7 : a33_c15.length = na7) (hqa7 : AOK na7 qa7) (hla7 : na7 ≤ ca7)   {res : jP} (hm : jY fu_ l0 from1 a22 a33_c0 a33_c10 a33_c11 a33_c12 a33_c13 a33_c14 a33_c15 = some res),
    Calls Tryz.prog 173 #[sL V_l0, .int .i64 from1, ptr rb 0, ptr rb_1 0, ptr rb_4 0, ptr rb_5 0] w (fun en w' => ∃ l : VL, en = .returned (.bool res.r0) ∧ (VOK 1 l.n l.cap (RI.enc res.a33_c0) l.sp l.q) ∧ HV w (keys [kc pb #[sL V_a33_c0] 22] [vL 3 V_l0 (RI.enc l0), vL 3 V_a33_c0 (RI.enc a33_c0)]) [kc pb #[sL l] 22] [vL 3 l (RI.enc res.a33_c0)] [] w') := by
  induction fu_ with
  | zero =>
    intros
    rename_i hm
    exact absurd hm (by simp [jY])
  | succ fu_ ih =>
  intro l0 from1 a22 a33_c0 a33_c10 a33_c11 a33_c12 a33_c13 a33_c14 a33_c15 V_l0 rb rb_1 pb V_a33_c0 rb_2 rb_3 qa4 na4 ca4 qa5 na5 ca5 qa6 na6 ca6 qa7 na7 ca7 rb_4 rb_5 w hw hv_l0   hv_a33_c0   hna4 hqa4 hla4 hna5 hqa5 hla5 hna6 hqa6 hla6 hna7 hqa7 hla7   res hm
  replace hm : qH (jY fu_) l0 from1 a22 a33_c0 a33_c10 a33_c11 a33_c12 a33_c13 a33_c14 a33_c15 = some res := hm
  unfold qH at hm
  refine qL func173 Y ntmps173 Y (e := [(0, _), (1, _), (2, _), (3, _), (4, _), (5, _)]) Y hw (jr (jo Y Y (jq (jh (jr (jj Y Y (jc Y Y Y (fun w _ => Yp (vlen RI hv_l0 Y) (runUnderlying22 w) Y) ?_)))))))
  refine jc Y Y Y (fun w hh => jB (isAgg3 w) Y (segCell (hh.seg 0 Y) 0 Y)) (jc Y Y Y (fun _ _ => Jw Y Y) (jq ?_))
  refine js Y (fun h2 => ?_) (fun h2 => ?_)
  ·replace hm := ifD h2 hm
   refine jr (jc Y Y Y (fun w hh => jB (isAgg186 w) Y (segCell (hh.seg 1 Y) 0 Y)) (jj Y Y ?_))
   obtain ⟨t16, h3, hm⟩ := bindO hm
   refine jd [_] [_] Y Y Y Y Y Y Y call128 (fun w hh => ZD l0 a33_c0 a33_c10 a33_c11 a33_c12 a33_c13 a33_c14 a33_c15 ⟨V_l0.q, V_l0.n, V_l0.cap, V_l0.sp⟩ pb (qA V_a33_c0.q) V_a33_c0.n V_a33_c0.cap rb_2 rb_3 qa4 na4 ca4 qa5 na5 ca5 qa6 na6 ca6 qa7 na7 ca7 w (HV.callee (S0 := [_]) (vs0 := [_]) hh (roC (hh.vsepA 0 Y hv_a33_c0) (roR hh 2 Y (roR hh 3 Y (roR hh 4 Y (roR hh 5 Y (roR hh 6 Y (roR hh 7 Y roN)))))))) hv_l0 (vlen RI hv_a33_c0 Y) (AOK.q (vne hv_a33_c0)) (hv_a33_c0).hle hna4 hqa4 hla4 hna5 hqa5 hla5 hna6 hqa6 hla6 hna7 hqa7 hla7 h3) (fun l h4 => ?_)
   have h5 := h4
   refine kx (S' := [_]) (vs' := [_, _]) [0] [0, 1] 0 Y Y Y Y (jo Y Y (jq (jv (je ?_))))
   obtain rfl := sj hm
   refine jm Y (fun w hh => (.tmp Y .nil)) (fun w hh => ⟨l, rfl, h5, hh.se [0] [0] 10 Y Y Y rfl⟩)
  replace hm := ifE h2 hm
  refine jt (ja (jh (jr (jj Y Y (jo Y Y (jq ?_))))))
  obtain ⟨o, h6, h7⟩ := bindO hm
  refine jM (ι := (List Int) × VL) (fun j => o = .inl j.1 ∧ VOK 1 j.2.n j.2.cap (RI.enc j.1) j.2.sp j.2.q) (fun j => []) (fun j => [kc pb #[sL j.2] 22]) (fun j => [vL 3 j.2 (RI.enc j.1)]) ?_ ?_
  ·replace hm := h6
   refine jl ?_
   refine jK (ι := VL) hm (fun s l_1 => VOK 1 l_1.n l_1.cap (RI.enc s.a33_c0) l_1.sp l_1.q) (fun s l_1 => [(0, sL V_l0), (4, ptr rb_4 0), (5, ptr rb_5 0), (9, .int .i64 s.i9)]) (fun s l_1 => [kc pb #[sL l_1] 22]) (fun s l_1 => [vL 3 V_l0 (RI.enc l0), vL 3 l_1 (RI.enc s.a33_c0)]) V_a33_c0 (hv_a33_c0) (sE Y) (fun w hh => hh) (fun s l_1 r hpl hm h10 => ?_)
   have h9 := hpl
   unfold qj at hm
   refine jh (jr (jj Y Y (jc Y Y Y (fun w hh => jB (isAgg146 w) Y (segCell (hh.seg 8 Y) 0 Y)) (jc Y Y Y (fun _ _ => qT Y) (qV 0 runUnderlying175 Y sizeOf26 Y Y (qV 4 runUnderlying26 Y sizeOf24 Y Y (jc Y Y Y (fun w hh => jB (isAgg24 w) Y (segCell (hh.seg 3 Y) 4 Y)) ?_)))))))
   refine jc Y Y Y (fun w _ => jJ hna6 (runUnderlying24 w) Y) (Kc Y Y Y (jq ?_))
   refine js Y (fun h11 => ?_) (fun h11 => ?_)
   ·replace hm := ifD h11 hm
    refine jt (ja (jh (jl (jh ?_))))
    obtain ⟨o_1, h12, h13⟩ := bindO hm
    refine jM (ι := VL) (fun l_2 => VOK 1 l_2.n l_2.cap (RI.enc o_1.a33_c0) l_2.sp l_2.q) (fun l_2 => [(0, sL V_l0), (4, ptr rb_4 0), (5, ptr rb_5 0), (9, .int .i64 s.i9), (36, .bool o_1.t36)]) (fun l_2 => [kc pb #[sL l_2] 22]) (fun l_2 => [vL 3 V_l0 (RI.enc l0), vL 3 l_2 (RI.enc o_1.a33_c0)]) ?_ ?_
    ·replace hm := h12
     obtain ⟨t35, h15, hm⟩ := bindO hm
     obtain ⟨t30, h16, hm⟩ := bindO hm
     obtain ⟨t33, h17, hm⟩ := bindO hm
     obtain ⟨t36, h18, hm⟩ := bindO hm
     refine j3 none (.hoist 0 (.free 1 (.free 3 (.free 6 (.free 7 (.br (.alt 2 (.one 4 (.one 5 (.one 8 .done))) (.alt 4 (.one 2 (.one 5 (.one 8 .done))) .nil)))))))) (HV _ _ [] [vL 3 V_l0 (RI.enc l0)] _) Y (by decide +kernel) (fun w k hh => hh.draw k) (hsE [] [0] 0 Y Y Y Y) ?_
     refine jy Y Y Y Y (fun w hh => jB (isAgg100 w) Y (segCell (hh.seg 9 Y) 0 Y)) (qD Y Y Y (qD Y Y Y (qD Y Y Y (jp Y Y Y Y (fun _ _ => Qg h15 Y Y) (ZQ ?_)))))
     refine qY Y ?_ ?_
     ·refine jd [] [] Y Y Y Y Y Y Y call74 (fun w hh => kv l0 (qA V_l0.q) V_l0.n V_l0.cap w (HV.callee (S0 := []) (vs0 := []) hh (roC (hh.vsepA 0 Y hv_l0) roN)) (vlen RI hv_l0 Y) (AOK.q (vne hv_l0)) (hv_l0).hle h16) (fun l_3 h19 => ?_)
      have h20 := h19
      refine kx (S' := [_]) (vs' := [_, _, _]) [0] [0, 1, 2] 0 Y Y Y Y (jn (hsE [] [1] 0 Y Y Y Y) (jD Y ?_))
      refine qE RI [s.i9] (ps := [(0, _)]) (cells := [_]) (fun w => runUnderlying22 w) (fun w => sizeOf3 w) (fun w => zeroValue3 w) Y Y Y Y Y Y Y Y (fun L h21 => ?_)
      refine jn (hsE [] [2] 0 Y Y Y Y) (jD Y ?_)
      refine Jo RI 1 h17 underlying22 QG Y Y Y Y Y h20 Y Y (vlen RI h21 Y) (AOK.q (vne h21)) (fun w hh => (hh.vsegA 0 Y h21)) Y (fun L_1 h22 h22n => ?_)
      refine kx (S' := [_]) (vs' := [_, _, _, _]) [0] [0, 1, 2, 3] 0 Y Y Y Y (jn (hsE [] [2] 0 Y Y Y Y) (jD Y (kx (S' := [_]) (vs' := [_, _, _, _]) [0] [1, 3, 0, 2] 0 Y Y Y Y ?_)))
      refine jd [_] [_, _] Y Y Y Y Y Y Y call173 (fun w hh => ih t33 t35 a22 s.a33_c0 a33_c10 a33_c11 a33_c12 a33_c13 a33_c14 a33_c15 ⟨L_1.q, L_1.n, L_1.cap, L_1.sp⟩ rb rb_1 pb ⟨l_1.q, l_1.n, l_1.cap, l_1.sp⟩ rb_2 rb_3 qa4 na4 ca4 qa5 na5 ca5 qa6 na6 ca6 qa7 na7 ca7 rb_4 rb_5 w (HV.callee (S0 := [_]) (vs0 := [_, _]) hh (roR hh 0 Y (roR hh 1 Y (roR hh 2 Y (roR hh 3 Y (roR hh 4 Y (roR hh 5 Y (roR hh 6 Y (roR hh 7 Y (roR hh 8 Y (roR hh 9 Y roN))))))))))) h22 h9 hna4 hqa4 hla4 hna5 hqa5 hla5 hna6 hqa6 hla6 hna7 hqa7 hla7 h18) (fun l_4 h23 => ?_)
      have h24 := h23
      refine kx (S' := [_]) (vs' := [_, _, _]) [0] [0, 1, 2] 0 Y Y Y Y (jn (hsE [] [2] 0 Y Y Y Y) (jH ?_))
      obtain rfl := sj hm
      exact jk l_4 (h24) (sE Y) (hsE [0] [2, 0] 0 Y Y Y Y)
     refine qY Y ?_ ?_
     refine qE RI [s.i9] (ps := [(0, _)]) (cells := [_]) (fun w => runUnderlying22 w) (fun w => sizeOf3 w) (fun w => zeroValue3 w) Y Y Y Y Y Y Y Y (fun L_2 h25 => ?_)
     refine jn (hsE [] [1] 0 Y Y Y Y) (jD Y ?_)
     refine jd [] [] Y Y Y Y Y Y Y call74 (fun w hh => kv l0 (qA V_l0.q) V_l0.n V_l0.cap w (HV.callee (S0 := []) (vs0 := []) hh (roC (hh.vsepA 1 Y hv_l0) roN)) (vlen RI hv_l0 Y) (AOK.q (vne hv_l0)) (hv_l0).hle h16) (fun l_5 h26 => ?_)
     have h27 := h26
     refine kx (S' := [_]) (vs' := [_, _, _, _]) [0] [0, 1, 2, 3] 0 Y Y Y Y (jn (hsE [] [2] 0 Y Y Y Y) (jD Y ?_))
     refine Jo RI 0 h17 underlying22 QG Y Y Y Y Y h27 Y Y (vlen RI h25 Y) (AOK.q (vne h25)) (fun w hh => (hh.vsegA 1 Y h25)) Y (fun L_3 h28 h28n => ?_)
     refine kx (S' := [_]) (vs' := [_, _, _, _]) [0] [0, 1, 2, 3] 0 Y Y Y Y (jn (hsE [] [2] 0 Y Y Y Y) (jD Y (kx (S' := [_]) (vs' := [_, _, _, _]) [0] [0, 3, 1, 2] 0 Y Y Y Y ?_)))
     refine jd [_] [_, _] Y Y Y Y Y Y Y call173 (fun w hh => ih t33 t35 a22 s.a33_c0 a33_c10 a33_c11 a33_c12 a33_c13 a33_c14 a33_c15 ⟨L_3.q, L_3.n, L_3.cap, L_3.sp⟩ rb rb_1 pb ⟨l_1.q, l_1.n, l_1.cap, l_1.sp⟩ rb_2 rb_3 qa4 na4 ca4 qa5 na5 ca5 qa6 na6 ca6 qa7 na7 ca7 rb_4 rb_5 w (HV.callee (S0 := [_]) (vs0 := [_, _]) hh (roR hh 0 Y (roR hh 1 Y (roR hh 2 Y (roR hh 3 Y (roR hh 4 Y (roR hh 5 Y (roR hh 6 Y (roR hh 7 Y (roR hh 8 Y (roR hh 9 Y roN))))))))))) h28 h9 hna4 hqa4 hla4 hna5 hqa5 hla5 hna6 hqa6 hla6 hna7 hqa7 hla7 h18) (fun l_6 h29 => ?_)
     have h30 := h29
     refine kx (S' := [_]) (vs' := [_, _, _]) [0] [0, 1, 2] 0 Y Y Y Y (jn (hsE [] [2] 0 Y Y Y Y) (jH ?_))
     obtain rfl := sj hm
     exact jk l_6 (h30) (sE Y) (hsE [0] [2, 0] 0 Y Y Y Y)
     exact Qc
    intro l_2 hj
    have h14 := hj
    replace hm := h13
    refine ja ?_
    refine js Y (fun h31 => ?_) (fun h31 => ?_)
    ·replace hm := ifT (h31) hm
     refine jr (jo Y Y (jq (jv (jz (je (je (jz ?_)))))))
     obtain rfl := sj hm
     have hbo := h10 _ Y
     subst hbo
     refine je ?_
     replace hm := ocR h7
     refine je ?_
     obtain rfl := sj hm
     refine jm Y (fun w hh => (.tmp Y .nil)) (fun w hh => ⟨l_2, rfl, h14, hh.se [0] [1] 10 Y Y Y rfl⟩)
    replace hm := ifN h31 hm
    refine jt (jw (ja (jg (jj Y Y ?_))))
    obtain ⟨t27, h32, hm⟩ := bindO hm
    refine JV h32 Y Y Y (jo Y Y (jx ?_))
    obtain rfl := sj hm
    refine ja ?_
    exact jA _ l_2 Y (h14) (sE Y) (fun w hh => hh)
   replace hm := ifE h11 hm
   refine jV (ji (ji (jC ?_)))
   obtain rfl := sj hm
   have hbo := h10 _ Y
   subst hbo
   exact jk (s.a33_c0, l_1) (⟨rfl, h9⟩) (.nil) (hsE [0] [1] 0 Y Y Y Y)
  rintro ⟨j_1, l_7⟩ hj
  obtain ⟨h34, h33⟩ := hj
  subst h34
  replace hm := ocL h7
  refine ja (jr (jo Y Y (jq (jv ?_))))
  obtain rfl := sj hm
  refine jm Y (fun w hh => (.tmp Y .nil)) (fun w hh => ⟨l_7, rfl, h33, hh.se [0] [0] 10 Y Y Y rfl⟩)
structure kl where
  r0 : Bool
  a33_c0 : (List Int)
structure yl where
  i9 : Int
  a33_c0 : (List Int)
structure QS where
  t36 : Bool
  a33_c0 : (List Int)
def kF (a33_c14 : (List Sight)) (a22 : Int) (a33_c10 : Int) (a33_c11 : Int) (a33_c12 : (List Int)) (a33_c13 : (List Sand)) (a33_c15 : (List Int)) (s : yl) : Option (yl ⊕ ((List Int) ⊕ kl)) :=
 if s.i9 < (a33_c14.length : Int) then
 (((addc s.i9 1).bind fun t35 =>
 (ks []).bind fun t30 =>
 (appc 8 t30 [s.i9]).bind fun t33 =>
 (jY FU t33 t35 a22 s.a33_c0 a33_c10 a33_c11 a33_c12 a33_c13 a33_c14 a33_c15).bind fun t36 =>
 some (⟨t36.r0, t36.a33_c0⟩ : QS)).bind fun o_1 =>
 if o_1.t36 = true then
 (some (.inr (.inr (⟨true, o_1.a33_c0⟩ : kl)))) else
 ((addc s.i9 1).bind fun t27 =>
 some (.inl (⟨t27, o_1.a33_c0⟩ : yl)))) else
 (some (.inr (.inl s.a33_c0)))
def q8 (from1 : Int) (a22 : Int) (a33_c0 : (List Int)) (a33_c10 : Int) (a33_c11 : Int) (a33_c12 : (List Int)) (a33_c13 : (List Sand)) (a33_c14 : (List Sight)) (a33_c15 : (List Int)) : Option kl :=
 if 0 = a22 then
 ((z2 a33_c0 a33_c10 a33_c11 a33_c12 a33_c13 a33_c14 a33_c15).bind fun t16 =>
 some (⟨t16, []⟩ : kl)) else
 ((iterM FU (kF a33_c14 a22 a33_c10 a33_c11 a33_c12 a33_c13 a33_c15) (⟨from1, a33_c0⟩ : yl)).bind fun o =>
 oc o (fun j_1 => some (⟨false, j_1⟩ : kl)) (fun r_1 => some r_1))
theorem Yx (from1 : Int) (a22 : Int) (a33_c0 : (List Int)) (a33_c10 : Int) (a33_c11 : Int) (a33_c12 : (List Int)) (a33_c13 : (List Sand)) (a33_c14 : (List Sight)) (a33_c15 : (List Int)) (rb : Nat) (rb_1 : Nat) (pb : Nat) (V_a33_c0 : VL) (rb_2 : Nat) (rb_3 : Nat) (qa4 : Option Addr) (na4 ca4 : Nat) (qa5 : Option Addr) (na5 ca5 : Nat) (qa6 : Option Addr) (na6 ca6 : Nat) (qa7 : Option Addr) (na7 ca7 : Nat) (rb_4 : Nat) (rb_5 : Nat) (w : World) (hw : HV w (keys [kc pb #[sL V_a33_c0] 22] [vL 3 V_a33_c0 (RI.enc a33_c0)]) [kc pb #[sL V_a33_c0] 22] [vL 3 V_a33_c0 (RI.enc a33_c0)] [(rb, 0, [.int .i64 a22]), (rb_1, 0, [.func (.func 128) #[] #[ptr pb 0, ptr rb_2 0]]), (rb_2, 0, [ptr rb_3 0]), (rb_3, 0, [.int .i64 a33_c10, .int .i64 a33_c11, .slice qa4 na4 ca4, .slice qa5 na5 ca5, .slice qa6 na6 ca6, .slice qa7 na7 ca7]), (aB qa4, aO qa4, RI.enc a33_c12), (aB qa5, aO qa5, RSa.enc a33_c13), (aB qa6, aO qa6, RSi.enc a33_c14), (aB qa7, aO qa7, RI.enc a33_c15), (rb_4, 0, [ptr rb_3 0]), (rb_5, 0, [.func (.func 173) #[] #[ptr rb 0, ptr rb_1 0, ptr rb_4 0, ptr rb_5 0]])] w)   (hv_a33_c0 : VOK 1 V_a33_c0.n V_a33_c0.cap (RI.enc a33_c0) V_a33_c0.sp V_a33_c0.q)   (hna4 : a33_c12.length = na4) (hqa4 : AOK na4 qa4) (hla4 : na4 ≤ ca4) (hna5 : a33_c13.length = na5) (hqa5 : AOK na5 qa5) (hla5 : na5 ≤ ca5) (hna6 : a33_c14.length = na6) (hqa6 : AOK na6 qa6) (hla6 : na6 ≤ ca6) (hna7 : a33_c15.length = na7) (hqa7 : AOK na7 qa7) (hla7 : na7 ≤ ca7)   {res : kl} (hm : q8 from1 a22 a33_c0 a33_c10 a33_c11 a33_c12 a33_c13 a33_c14 a33_c15 = some res) :
    Calls Tryz.prog 173 #[slv none 0 0, .int .i64 from1, ptr rb 0, ptr rb_1 0, ptr rb_4 0, ptr rb_5 0] w (fun en w' => ∃ l : VL, en = .returned (.bool res.r0) ∧ (VOK 1 l.n l.cap (RI.enc res.a33_c0) l.sp l.q) ∧ HV w (keys [kc pb #[sL V_a33_c0] 22] [vL 3 V_a33_c0 (RI.enc a33_c0)]) [kc pb #[sL l] 22] [vL 3 l (RI.enc res.a33_c0)] [] w') := by
  unfold q8 at hm
  refine qL func173 Y ntmps173 Y (e := [(0, _), (1, _), (2, _), (3, _), (4, _), (5, _)]) Y hw (jr (jo Y Y (jq (jh (jr (jj Y Y (jc Y Y Y (fun w _ => jbA (runUnderlying22 w) Y) ?_)))))))
  refine jc Y Y Y (fun w hh => jB (isAgg3 w) Y (segCell (hh.seg 0 Y) 0 Y)) (jc Y Y Y (fun _ _ => Jw Y Y) (jq ?_))
  refine js Y (fun h2 => ?_) (fun h2 => ?_)
  ·replace hm := ifD h2 hm
   refine jr (jc Y Y Y (fun w hh => jB (isAgg186 w) Y (segCell (hh.seg 1 Y) 0 Y)) (jj Y Y ?_))
   obtain ⟨t16, h3, hm⟩ := bindO hm
   refine jd [_] [] Y Y Y Y Y Y Y call128 (fun w hh => ZC a33_c0 a33_c10 a33_c11 a33_c12 a33_c13 a33_c14 a33_c15 pb (qA V_a33_c0.q) V_a33_c0.n V_a33_c0.cap rb_2 rb_3 qa4 na4 ca4 qa5 na5 ca5 qa6 na6 ca6 qa7 na7 ca7 w (HV.callee (S0 := [_]) (vs0 := []) hh (roC (hh.vsepA 0 Y hv_a33_c0) (roR hh 2 Y (roR hh 3 Y (roR hh 4 Y (roR hh 5 Y (roR hh 6 Y (roR hh 7 Y roN)))))))) (vlen RI hv_a33_c0 Y) (AOK.q (vne hv_a33_c0)) (hv_a33_c0).hle hna4 hqa4 hla4 hna5 hqa5 hla5 hna6 hqa6 hla6 hna7 hqa7 hla7 h3) (fun l h4 => ?_)
   refine kx (S' := [_]) (vs' := [_]) [0] [0] 0 Y Y Y Y (jo Y Y (jq (jv (je (zK 3 ?_)))))
   obtain rfl := sj hm
   refine jm Y (fun w hh => (.tmp Y .nil)) (fun w hh => ⟨⟨none, 0, 0, []⟩, rfl, VOK.nil, hh.se [0] [0] 10 Y Y Y rfl⟩)
  replace hm := ifE h2 hm
  refine jt (ja (jh (jr (jj Y Y (jo Y Y (jq ?_))))))
  obtain ⟨o, h5, h6⟩ := bindO hm
  refine jM (ι := (List Int) × VL) (fun j => o = .inl j.1 ∧ VOK 1 j.2.n j.2.cap (RI.enc j.1) j.2.sp j.2.q) (fun j => []) (fun j => [kc pb #[sL j.2] 22]) (fun j => [vL 3 j.2 (RI.enc j.1)]) ?_ ?_
  ·replace hm := h5
   refine jl ?_
   refine jK (ι := VL) hm (fun s l_1 => VOK 1 l_1.n l_1.cap (RI.enc s.a33_c0) l_1.sp l_1.q) (fun s l_1 => [(0, slv none 0 0), (4, ptr rb_4 0), (5, ptr rb_5 0), (9, .int .i64 s.i9)]) (fun s l_1 => [kc pb #[sL l_1] 22]) (fun s l_1 => [vL 3 l_1 (RI.enc s.a33_c0)]) V_a33_c0 (hv_a33_c0) (sE Y) (fun w hh => hh) (fun s l_1 r hpl hm h9 => ?_)
   have h8 := hpl
   unfold kF at hm
   refine jh (jr (jj Y Y (jc Y Y Y (fun w hh => jB (isAgg146 w) Y (segCell (hh.seg 8 Y) 0 Y)) (jc Y Y Y (fun _ _ => qT Y) (qV 0 runUnderlying175 Y sizeOf26 Y Y (qV 4 runUnderlying26 Y sizeOf24 Y Y (jc Y Y Y (fun w hh => jB (isAgg24 w) Y (segCell (hh.seg 3 Y) 4 Y)) ?_)))))))
   refine jc Y Y Y (fun w _ => jJ hna6 (runUnderlying24 w) Y) (Kc Y Y Y (jq ?_))
   refine js Y (fun h10 => ?_) (fun h10 => ?_)
   ·replace hm := ifD h10 hm
    refine jt (ja (jh (jl (jh ?_))))
    obtain ⟨o_1, h11, h12⟩ := bindO hm
    refine jM (ι := VL) (fun l_2 => VOK 1 l_2.n l_2.cap (RI.enc o_1.a33_c0) l_2.sp l_2.q) (fun l_2 => [(0, slv none 0 0), (4, ptr rb_4 0), (5, ptr rb_5 0), (9, .int .i64 s.i9), (36, .bool o_1.t36)]) (fun l_2 => [kc pb #[sL l_2] 22]) (fun l_2 => [vL 3 l_2 (RI.enc o_1.a33_c0)]) ?_ ?_
    ·replace hm := h11
     obtain ⟨t35, h14, hm⟩ := bindO hm
     obtain ⟨t30, h15, hm⟩ := bindO hm
     obtain ⟨t33, h16, hm⟩ := bindO hm
     obtain ⟨t36, h17, hm⟩ := bindO hm
     refine j3 none (.hoist 0 (.free 1 (.free 3 (.free 6 (.free 7 (.br (.alt 2 (.one 4 (.one 5 (.one 8 .done))) (.alt 4 (.one 2 (.one 5 (.one 8 .done))) .nil)))))))) (HV _ _ [] [] _) Y (by decide +kernel) (fun w k hh => hh.draw k) (hsE [] [] 0 Y Y Y Y) ?_
     refine jy Y Y Y Y (fun w hh => jB (isAgg100 w) Y (segCell (hh.seg 9 Y) 0 Y)) (qD Y Y Y (qD Y Y Y (qD Y Y Y (jp Y Y Y Y (fun _ _ => Qg h14 Y Y) (ZQ ?_)))))
     refine qY Y ?_ ?_
     ·refine jd [] [] Y Y Y Y Y Y Y call74 (fun w hh => kv [] none 0 0 w (HV.callee (S0 := []) (vs0 := []) hh (roC ⟨segOK.nil, fun hx => absurd Y hx⟩ roN)) Y AOK.nil (Nat.le_refl 0) h15) (fun l_3 h18 => ?_)
      have h19 := h18
      refine kx (S' := [_]) (vs' := [_, _]) [0] [0, 1] 0 Y Y Y Y (jn (hsE [] [] 0 Y Y Y Y) (jD Y ?_))
      refine qE RI [s.i9] (ps := [(0, _)]) (cells := [_]) (fun w => runUnderlying22 w) (fun w => sizeOf3 w) (fun w => zeroValue3 w) Y Y Y Y Y Y Y Y (fun L h20 => ?_)
      refine jn (hsE [] [] 0 Y Y Y Y) (jD Y ?_)
      refine Jo RI 1 h16 underlying22 QG Y Y Y Y Y h19 Y Y (vlen RI h20 Y) (AOK.q (vne h20)) (fun w hh => (hh.vsegA 0 Y h20)) Y (fun L_1 h21 h21n => ?_)
      refine kx (S' := [_]) (vs' := [_, _, _]) [0] [0, 1, 2] 0 Y Y Y Y (jn (hsE [] [] 0 Y Y Y Y) (jD Y (kx (S' := [_]) (vs' := [_, _, _]) [0] [1, 2, 0] 0 Y Y Y Y ?_)))
      refine jd [_] [_, _] Y Y Y Y Y Y Y call173 (fun w hh => K1 FU t33 t35 a22 s.a33_c0 a33_c10 a33_c11 a33_c12 a33_c13 a33_c14 a33_c15 ⟨L_1.q, L_1.n, L_1.cap, L_1.sp⟩ rb rb_1 pb ⟨l_1.q, l_1.n, l_1.cap, l_1.sp⟩ rb_2 rb_3 qa4 na4 ca4 qa5 na5 ca5 qa6 na6 ca6 qa7 na7 ca7 rb_4 rb_5 w (HV.callee (S0 := [_]) (vs0 := [_, _]) hh (roR hh 0 Y (roR hh 1 Y (roR hh 2 Y (roR hh 3 Y (roR hh 4 Y (roR hh 5 Y (roR hh 6 Y (roR hh 7 Y (roR hh 8 Y (roR hh 9 Y roN))))))))))) h21 h8 hna4 hqa4 hla4 hna5 hqa5 hla5 hna6 hqa6 hla6 hna7 hqa7 hla7 h17) (fun l_4 h22 => ?_)
      have h23 := h22
      refine kx (S' := [_]) (vs' := [_, _]) [0] [0, 1] 0 Y Y Y Y (jn (hsE [] [] 0 Y Y Y Y) (jH ?_))
      obtain rfl := sj hm
      exact jk l_4 (h23) (sE Y) (hsE [0] [0] 0 Y Y Y Y)
     refine qY Y ?_ ?_
     refine qE RI [s.i9] (ps := [(0, _)]) (cells := [_]) (fun w => runUnderlying22 w) (fun w => sizeOf3 w) (fun w => zeroValue3 w) Y Y Y Y Y Y Y Y (fun L_2 h24 => ?_)
     refine jn (hsE [] [] 0 Y Y Y Y) (jD Y ?_)
     refine jd [] [] Y Y Y Y Y Y Y call74 (fun w hh => kv [] none 0 0 w (HV.callee (S0 := []) (vs0 := []) hh (roC ⟨segOK.nil, fun hx => absurd Y hx⟩ roN)) Y AOK.nil (Nat.le_refl 0) h15) (fun l_5 h25 => ?_)
     have h26 := h25
     refine kx (S' := [_]) (vs' := [_, _, _]) [0] [0, 1, 2] 0 Y Y Y Y (jn (hsE [] [] 0 Y Y Y Y) (jD Y ?_))
     refine Jo RI 0 h16 underlying22 QG Y Y Y Y Y h26 Y Y (vlen RI h24 Y) (AOK.q (vne h24)) (fun w hh => (hh.vsegA 1 Y h24)) Y (fun L_3 h27 h27n => ?_)
     refine kx (S' := [_]) (vs' := [_, _, _]) [0] [0, 1, 2] 0 Y Y Y Y (jn (hsE [] [] 0 Y Y Y Y) (jD Y (kx (S' := [_]) (vs' := [_, _, _]) [0] [0, 2, 1] 0 Y Y Y Y ?_)))
     refine jd [_] [_, _] Y Y Y Y Y Y Y call173 (fun w hh => K1 FU t33 t35 a22 s.a33_c0 a33_c10 a33_c11 a33_c12 a33_c13 a33_c14 a33_c15 ⟨L_3.q, L_3.n, L_3.cap, L_3.sp⟩ rb rb_1 pb ⟨l_1.q, l_1.n, l_1.cap, l_1.sp⟩ rb_2 rb_3 qa4 na4 ca4 qa5 na5 ca5 qa6 na6 ca6 qa7 na7 ca7 rb_4 rb_5 w (HV.callee (S0 := [_]) (vs0 := [_, _]) hh (roR hh 0 Y (roR hh 1 Y (roR hh 2 Y (roR hh 3 Y (roR hh 4 Y (roR hh 5 Y (roR hh 6 Y (roR hh 7 Y (roR hh 8 Y (roR hh 9 Y roN))))))))))) h27 h8 hna4 hqa4 hla4 hna5 hqa5 hla5 hna6 hqa6 hla6 hna7 hqa7 hla7 h17) (fun l_6 h28 => ?_)
     have h29 := h28
     refine kx (S' := [_]) (vs' := [_, _]) [0] [0, 1] 0 Y Y Y Y (jn (hsE [] [] 0 Y Y Y Y) (jH ?_))
     obtain rfl := sj hm
     exact jk l_6 (h29) (sE Y) (hsE [0] [0] 0 Y Y Y Y)
     exact Qc
    intro l_2 hj
    have h13 := hj
    replace hm := h12
    refine ja ?_
    refine js Y (fun h30 => ?_) (fun h30 => ?_)
    ·replace hm := ifT (h30) hm
     refine jr (jo Y Y (jq (jv (jz (je (je (jz ?_)))))))
     obtain rfl := sj hm
     have hbo := h9 _ Y
     subst hbo
     refine je ?_
     replace hm := ocR h6
     refine je ?_
     obtain rfl := sj hm
     refine jm Y (fun w hh => (.tmp Y .nil)) (fun w hh => ⟨l_2, rfl, h13, hh.se [0] [0] 10 Y Y Y rfl⟩)
    replace hm := ifN h30 hm
    refine jt (jw (ja (jg (jj Y Y ?_))))
    obtain ⟨t27, h31, hm⟩ := bindO hm
    refine JV h31 Y Y Y (jo Y Y (jx ?_))
    obtain rfl := sj hm
    refine ja ?_
    exact jA _ l_2 Y (h13) (sE Y) (fun w hh => hh)
   replace hm := ifE h10 hm
   refine jV (ji (ji (jC ?_)))
   obtain rfl := sj hm
   have hbo := h9 _ Y
   subst hbo
   exact jk (s.a33_c0, l_1) (⟨rfl, h8⟩) (.nil) (fun w hh => hh)
  rintro ⟨j_1, l_7⟩ hj
  obtain ⟨h33, h32⟩ := hj
  subst h33
  replace hm := ocL h6
  refine ja (jr (jo Y Y (jq (jv ?_))))
  obtain rfl := sj hm
  refine jm Y (fun w hh => (.tmp Y .nil)) (fun w hh => ⟨l_7, rfl, h32, hh.se [0] [0] 10 Y Y Y rfl⟩)
structure JK where
  r0 : Bool
  is2_c0 : (List Int)
def Jh (d00 : Int) (d01 : Int) (d02 : (List Int)) (d03 : (List Sand)) (d04 : (List Sight)) (d05 : (List Int)) (many1 : Int) (is2_c0 : (List Int)) : Option JK :=
 (q8 0 many1 is2_c0 d00 d01 d02 d03 d04 d05).bind fun t10 =>
 some (⟨t10.r0, t10.a33_c0⟩ : JK)
theorem YY (d00 : Int) (d01 : Int) (d02 : (List Int)) (d03 : (List Sand)) (d04 : (List Sight)) (d05 : (List Int)) (many1 : Int) (is2_c0 : (List Int)) (rb : Nat) (qa1 : Option Addr) (na1 ca1 : Nat) (qa2 : Option Addr) (na2 ca2 : Nat) (qa3 : Option Addr) (na3 ca3 : Nat) (qa4 : Option Addr) (na4 ca4 : Nat) (pb : Nat) (V_is2_c0 : VL) (rb_1 : Nat) (w : World) (hw : HV w (keys [kc pb #[sL V_is2_c0] 22] [vL 3 V_is2_c0 (RI.enc is2_c0)]) [kc pb #[sL V_is2_c0] 22] [vL 3 V_is2_c0 (RI.enc is2_c0)] [(rb, 0, [.int .i64 d00, .int .i64 d01, .slice qa1 na1 ca1, .slice qa2 na2 ca2, .slice qa3 na3 ca3, .slice qa4 na4 ca4]), (aB qa1, aO qa1, RI.enc d02), (aB qa2, aO qa2, RSa.enc d03), (aB qa3, aO qa3, RSi.enc d04), (aB qa4, aO qa4, RI.enc d05), (rb_1, 0, [ptr rb 0])] w)  (hna1 : d02.length = na1) (hqa1 : AOK na1 qa1) (hla1 : na1 ≤ ca1) (hna2 : d03.length = na2) (hqa2 : AOK na2 qa2) (hla2 : na2 ≤ ca2) (hna3 : d04.length = na3) (hqa3 : AOK na3 qa3) (hla3 : na3 ≤ ca3) (hna4 : d05.length = na4) (hqa4 : AOK na4 qa4) (hla4 : na4 ≤ ca4) (hv_is2_c0 : VOK 1 V_is2_c0.n V_is2_c0.cap (RI.enc is2_c0) V_is2_c0.sp V_is2_c0.q)  {res : JK} (hm : Jh d00 d01 d02 d03 d04 d05 many1 is2_c0 = some res) :
    Calls Tryz.prog 127 #[ptr rb 0, .int .i64 many1, .func (.func 128) #[] #[ptr pb 0, ptr rb_1 0]] w (fun en w' => ∃ l : VL, en = .returned (.bool res.r0) ∧ (VOK 1 l.n l.cap (RI.enc res.is2_c0) l.sp l.q) ∧ HV w (keys [kc pb #[sL V_is2_c0] 22] [vL 3 V_is2_c0 (RI.enc is2_c0)]) [kc pb #[sL l] 22] [vL 3 l (RI.enc res.is2_c0)] [] w') := by
  unfold Jh at hm
  refine qL func127 Y ntmps127 Y (e := [(0, _), (1, _), (2, _)]) Y hw (jr ?_)
  refine jG Y Y (fun b h2 => ?_)
  refine jG Y Y (fun b_1 h3 => ?_)
  refine jG Y Y (fun b_2 h4 => ?_)
  refine jo Y Y (kY ?_)
  refine ju (fun w => zeroValue100 w) Y (fun b_3 h5 => ?_)
  refine kY (jc Y Y Y (fun _ _ => kg (u := #[]) (u' := #[_, _, _, _]) Y Y) (zc (cs' := #[_]) (S' := [_, _, _, _, _]) 0 (fun w => sizeOf100 w) Y Y Y Y Y Y Y (kY (qp 0 isAgg100 Y Y Y Y ?_))))
  obtain ⟨t10, h6, hm⟩ := bindO hm
  refine kx (S' := [_, _, _, _, _]) (vs' := [_]) [4, 0, 1, 2, 3] [0] 0 Y Y Y Y ?_
  refine jd [_] [_] Y Y Y Y Y Y Y call173 (fun w hh => Yx 0 many1 is2_c0 d00 d01 d02 d03 d04 d05 b_1 b_2 pb ⟨V_is2_c0.q, V_is2_c0.n, V_is2_c0.cap, V_is2_c0.sp⟩ rb_1 rb qa1 na1 ca1 qa2 na2 ca2 qa3 na3 ca3 qa4 na4 ca4 b b_3 w (HV.callee (S0 := [_]) (vs0 := [_]) hh (roC (hh.bsepH 2 Y) (roC (hh.bsepH 1 Y) (roR hh 5 Y (roR hh 0 Y (roR hh 1 Y (roR hh 2 Y (roR hh 3 Y (roR hh 4 Y (roC (hh.bsepH 3 Y) (roC (hh.bsepH 0 Y) roN))))))))))) hv_is2_c0 hna1 hqa1 hla1 hna2 hqa2 hla2 hna3 hqa3 hla3 hna4 hqa4 hla4 h6) (fun l h7 => ?_)
  have h8 := h7
  refine kx (S' := [_, _, _, _, _]) (vs' := [_]) [0, 1, 2, 3, 4] [0] 0 Y Y Y Y (jo Y Y (jq (jv ?_)))
  obtain rfl := sj hm
  refine jm Y (fun w hh => (.tmp Y .nil)) (fun w hh => ⟨l, rfl, h8, hh.se [0] [0] 6 Y Y Y rfl⟩)
structure JL where
  r1 : Int
  r0 : (List Int)
structure Kj where
  t22 : Int
  out6 : (List Int)
def zn (c0 : Channel) (t10b : Ji) (s : Kj) : Option (Kj ⊕ (List Int)) :=
 if s.t22 < (c0.sights.length : Int) then
 ((addc s.t22 1).bind fun t27 =>
 (Jh t10b.t14_0 t10b.t14_1 c0.fords c0.sands c0.sights t10b.t14_5 t27 s.out6).bind fun t29 =>
 if t29.r0 = true then
 (some (.inr t29.is2_c0)) else
 ((addc s.t22 1).bind fun t30 =>
 some (.inl (⟨t30, t29.is2_c0⟩ : Kj)))) else
 (some (.inr s.out6))
def Kx (c0 : Channel) : Option JL :=
 (ye c0).bind fun t10 =>
 oc t10 (fun t10a => some (⟨t10a, []⟩ : JL)) (fun t10b => (KX).bind fun t17 =>
 (yq t10b.t14_0 t10b.t14_1 c0.fords c0.sands c0.sights t10b.t14_5).bind fun t18 =>
 if t18 = true then
 (some (⟨6, []⟩ : JL)) else
 ((iterM FU (zn c0 t10b) (⟨0, []⟩ : Kj)).bind fun o =>
 some (⟨0, o⟩ : JL)))
theorem jan (c0 : Channel) (qa0 : Option Addr) (na0 ca0 : Nat) (qa1 : Option Addr) (na1 ca1 : Nat) (qa2 : Option Addr) (na2 ca2 : Nat) (w : World) (hw : HV w (keys [] []) [] [] [(aB qa0, aO qa0, RI.enc c0.fords), (aB qa1, aO qa1, RSa.enc c0.sands), (aB qa2, aO qa2, RSi.enc c0.sights)] w) (hna0 : c0.fords.length = na0) (hqa0 : AOK na0 qa0) (hla0 : na0 ≤ ca0) (hna1 : c0.sands.length = na1) (hqa1 : AOK na1 qa1) (hla1 : na1 ≤ ca1) (hna2 : c0.sights.length = na2) (hqa2 : AOK na2 qa2) (hla2 : na2 ≤ ca2) {res : JL} (hm : Kx c0 = some res) :
    Calls Tryz.prog 51 #[.agg #[.int .i64 c0.cells, .int .i64 c0.tides, .slice qa0 na0 ca0, .slice qa1 na1 ca1, .slice qa2 na2 ca2]] w (fun en w' => ∃ l : VL, en = .returned (.tuple #[sL l, .int .i64 res.r1]) ∧ (VOK 1 l.n l.cap (RI.enc res.r0) l.sp l.q) ∧ HV w (keys [] []) [] [vL 3 l (RI.enc res.r0)] [] w') := by
  unfold Kx at hm
  refine qL func51 Y ntmps51 Y (e := [(0, _)]) Y hw (jr ?_)
  refine jG Y Y (fun b h2 => ?_)
  refine jc Y Y Y (fun _ _ => qr Y) (jo Y Y (jq (jcm (jr (JC [_, _, _, _, _] 0 isAgg26 sizeOf26 Y Y Y Y ?_)))))
  obtain ⟨t10, h3, hm⟩ := bindO hm
  rcases t10 with t10a | t10b
  ·replace hm := ocL hm
   refine jd [] [] Y Y Y Y Y Y Y call93 (fun w hh => qK c0 qa0 na0 ca0 qa1 na1 ca1 qa2 na2 ca2 w (HV.callee (S0 := []) (vs0 := []) hh (roR hh 0 Y (roR hh 1 Y (roR hh 2 Y roN)))) hna0 hqa0 hla0 hna1 hqa1 hla1 hna2 hqa2 hla2 h3) (fun l h4 => ?_)
   have h5 := h4
   refine jj Y Y (JD Y Y Y (JD Y Y Y ?_))
   refine ju (fun w => zeroValue146 w) Y (fun b_1 h6 => ?_)
   refine zc (cs' := #[_]) (S' := [_, _]) 0 (fun w => sizeOf146 w) Y Y Y Y Y Y Y (jo Y Y (jq (jh (jr (jj Y Y (jc Y Y Y (fun _ _ => ZG h5 Y Y) (jq ?_)))))))
   refine KJ Y Y (jr (jj Y Y (jc Y Y Y (fun _ _ => qr Y) (jo Y Y (jq (jv (je ?_)))))))
   refine ja8 (zK 3 ?_)
   obtain rfl := sj hm
   refine jm Y (fun w hh => (.tmp Y (.tmp Y .nil))) (fun w hh => ⟨⟨none, 0, 0, []⟩, rfl, VOK.nil, hh.se [] [0] 3 Y Y Y rfl⟩)
  replace hm := ocR hm
  refine jd [] [] Y Y Y Y Y Y Y call93 (fun w hh => qK c0 qa0 na0 ca0 qa1 na1 ca1 qa2 na2 ca2 w (HV.callee (S0 := []) (vs0 := []) hh (roR hh 0 Y (roR hh 1 Y (roR hh 2 Y roN)))) hna0 hqa0 hla0 hna1 hqa1 hla1 hna2 hqa2 hla2 h3) (fun l_1 h7 => ?_)
  have h8 := h7
  refine kx (S' := [_, _]) (vs' := [_]) [0, 1] [0] 0 Y Y Y Y (jj Y Y (JD Y Y Y (JD Y Y Y ?_)))
  refine ju (fun w => zeroValue146 w) Y (fun b_2 h9 => ?_)
  refine zc (cs' := #[_]) (S' := [_, _, _]) 0 (fun w => sizeOf146 w) Y Y Y Y Y Y Y (jo Y Y (jq (jh (jr (jj Y Y (jc Y Y Y (fun _ _ => Kw Y Y) (jq ?_)))))))
  refine KM Y Y (jt (ja (jr ?_)))
  refine ju (fun w => zeroValue22 w) Y (fun b_3 h10 => ?_)
  refine jq (jh (jh (j3 none (.hoist 0 (.one 1 (.one 2 .done))) _ Y (by decide +kernel) (fun w k hh => hh.draw k) (fun w hh => hh) (QA 1 isAgg146 Y Y Y Y Y (jD Y ?_)))))
  obtain ⟨t17, h11, hm⟩ := bindO hm
  refine jd [] [] Y Y Y Y Y Y Y call126 (fun w hh => Y0  w (HV.callee (S0 := []) (vs0 := []) hh roN)  h11) (fun l_2 h12 => ?_)
  refine jn (fun w hh => hh) (jD Y ?_)
  obtain ⟨t18, h13, hm⟩ := bindO hm
  refine jd [] [] Y Y Y Y Y Y Y call121 (fun w hh => YO t10b.t14_0 t10b.t14_1 c0.fords c0.sands c0.sights t10b.t14_5 l_1.1 qa0 na0 ca0 qa1 na1 ca1 qa2 na2 ca2 (qA l_1.2.q) l_1.2.n l_1.2.cap w (HV.callee (S0 := []) (vs0 := []) hh (roC (bsep (hh.bseg 2 Y)) (roR hh 0 Y (roR hh 1 Y (roR hh 2 Y (roC (hh.vsepA 0 Y h8) roN)))))) hna0 hqa0 hla0 hna1 hqa1 hla1 hna2 hqa2 hla2 (vlen RI h8 Y) (AOK.q (vne h8)) (h8).hle h13) (fun l_3 h14 => ?_)
  refine jn (fun w hh => hh) (jH (ja ?_))
  refine js Y (fun h15 => ?_) (fun h15 => ?_)
  ·replace hm := ifT (h15) hm
   refine jr (jc Y Y Y (fun _ _ => qr Y) (jo Y Y (jq (jv (je (ja8 (zK 3 ?_)))))))
   obtain rfl := sj hm
   refine jm Y (fun w hh => (.tmp Y (.tmp Y .nil))) (fun w hh => ⟨⟨none, 0, 0, []⟩, rfl, VOK.nil, hh.se [] [0] 3 Y Y Y rfl⟩)
  replace hm := ifN h15 hm
  refine jt (ja (jh (jco (ja (jh (jr (qV 4 runUnderlying26 Y sizeOf24 Y Y ?_)))))))
  refine qp 3 isAgg24 Y Y Y Y (jc Y Y Y (fun w _ => jJ hna2 (runUnderlying24 w) Y) (jj Y Y (jq (zK 3 ?_))))
  obtain ⟨o, h16, h17⟩ := bindO hm
  refine jM (ι := VL) (fun l_4 => VOK 1 l_4.n l_4.cap (RI.enc o) l_4.sp l_4.q) (fun l_4 => [(6, ptr b_3 0)]) (fun l_4 => [kc b_3 #[sL l_4] 22, kc b_2 #[ptr l_1.1 0] 146, kc l_1.1 #[.int .i64 t10b.t14_0, .int .i64 t10b.t14_1, .slice qa0 na0 ca0, .slice qa1 na1 ca1, .slice qa2 na2 ca2, sL l_1.2] 175, kc b #[.int .i64 c0.cells, .int .i64 c0.tides, .slice qa0 na0 ca0, .slice qa1 na1 ca1, .slice qa2 na2 ca2] 26]) (fun l_4 => [vL 3 l_4 (RI.enc o), vL 3 l_1.2 (RI.enc t10b.t14_5)]) ?_ ?_
  ·replace hm := h16
   refine jl ?_
   refine jK (ι := VL) hm (fun s l_5 => VOK 1 l_5.n l_5.cap (RI.enc s.out6) l_5.sp l_5.q) (fun s l_5 => [(4, ptr b_2 0), (6, ptr b_3 0), (21, .int .i64 (c0.sights.length : Int)), (22, .int .i64 s.t22)]) (fun s l_5 => [kc b_3 #[sL l_5] 22, kc b_2 #[ptr l_1.1 0] 146, kc l_1.1 #[.int .i64 t10b.t14_0, .int .i64 t10b.t14_1, .slice qa0 na0 ca0, .slice qa1 na1 ca1, .slice qa2 na2 ca2, sL l_1.2] 175, kc b #[.int .i64 c0.cells, .int .i64 c0.tides, .slice qa0 na0 ca0, .slice qa1 na1 ca1, .slice qa2 na2 ca2] 26]) (fun s l_5 => [vL 3 l_5 (RI.enc s.out6), vL 3 l_1.2 (RI.enc t10b.t14_5)]) ⟨none, 0, 0, []⟩ (VOK.nil) (sE Y) (fun w hh => hh) (fun s l_5 r hpl hm h20 => ?_)
   have h19 := hpl
   unfold zn at hm
   refine jr (Kc Y Y Y (jq (jh ?_)))
   refine js Y (fun h21 => ?_) (fun h21 => ?_)
   ·replace hm := ifD h21 hm
    refine jt (ja (jh (jl (jr (jj Y Y (jo Y Y (kY ?_)))))))
    refine qp 1 isAgg146 Y Y Y Y (jj Y Y ?_)
    obtain ⟨t27, h22, hm⟩ := bindO hm
    refine JV h22 Y Y Y (jc Y Y Y (fun _ _ => kg (u := #[]) (u' := #[_, _]) Y Y) ?_)
    obtain ⟨t29, h23, hm⟩ := bindO hm
    refine jd [_] [_] Y Y Y Y Y Y Y call127 (fun w hh => YY t10b.t14_0 t10b.t14_1 c0.fords c0.sands c0.sights t10b.t14_5 t27 s.out6 l_1.1 qa0 na0 ca0 qa1 na1 ca1 qa2 na2 ca2 (qA l_1.2.q) l_1.2.n l_1.2.cap b_3 ⟨l_5.q, l_5.n, l_5.cap, l_5.sp⟩ b_2 w (HV.callee (S0 := [_]) (vs0 := [_]) hh (roC (hh.bsepH 1 Y) (roR hh 0 Y (roR hh 1 Y (roR hh 2 Y (roC (hh.vsepA 0 Y h8) (roC (hh.bsepH 0 Y) roN))))))) hna0 hqa0 hla0 hna1 hqa1 hla1 hna2 hqa2 hla2 (vlen RI h8 Y) (AOK.q (vne h8)) (h8).hle h19 h23) (fun l_6 h24 => ?_)
    have h25 := h24
    refine kx (S' := [_, _, _, _]) (vs' := [_, _]) [0, 1, 2, 3] [0, 1] 0 Y Y Y Y (jq ?_)
    refine js Y (fun h26 => ?_) (fun h26 => ?_)
    ·replace hm := ifT (h26) hm
     refine jV (jcn Y (ji (ji (jC ?_))))
     obtain rfl := sj hm
     have hbo := h20 _ Y
     subst hbo
     exact jk l_6 (h25) (sE Y) (fun w hh => hh)
    replace hm := ifN h26 hm
    refine jt (jw (ja (jg ?_)))
    obtain ⟨t30, h27, hm⟩ := bindO hm
    refine JV h27 Y Y Y (jj Y Y (jx ?_))
    obtain rfl := sj hm
    refine ja ?_
    exact jA _ l_6 Y (h25) (sE Y) (fun w hh => hh)
   replace hm := ifE h21 hm
   refine jV (ji (ji (jC ?_)))
   obtain rfl := sj hm
   have hbo := h20 _ Y
   subst hbo
   exact jk l_5 (h19) (sE Y) (fun w hh => hh)
  intro l_4 hj
  have h18 := hj
  replace hm := h17
  refine ja (jr (qp 0 isAgg22 Y Y Y Y (jo Y Y (jo Y Y (jq (jv (ja8 ?_)))))))
  obtain rfl := sj hm
  refine jm Y (fun w hh => (.tmp Y (.tmp Y .nil))) (fun w hh => ⟨l_4, rfl, h18, hh.se [] [0] 3 Y Y Y rfl⟩)
def KI (i0 : Int) (a11_cells : Int) (a11_tides : Int) (a11_fords : (List Int)) (a11_sands : (List Sand)) (a11_sights : (List Sight)) : Option Bool :=
 (subc (a11_sights.length : Int) 1).bind fun t8 =>
 (qo i0 0 t8).bind fun t9 =>
 some t9
theorem Z2 (i0 : Int) (a11_cells : Int) (a11_tides : Int) (a11_fords : (List Int)) (a11_sands : (List Sand)) (a11_sights : (List Sight)) (rb : Nat) (qa1 : Option Addr) (na1 ca1 : Nat) (qa2 : Option Addr) (na2 ca2 : Nat) (qa3 : Option Addr) (na3 ca3 : Nat) (w : World) (hw : HV w (keys [] []) [] [] [(rb, 0, [.int .i64 a11_cells, .int .i64 a11_tides, .slice qa1 na1 ca1, .slice qa2 na2 ca2, .slice qa3 na3 ca3]), (aB qa1, aO qa1, RI.enc a11_fords), (aB qa2, aO qa2, RSa.enc a11_sands), (aB qa3, aO qa3, RSi.enc a11_sights)] w)  (hna1 : a11_fords.length = na1) (hqa1 : AOK na1 qa1) (hla1 : na1 ≤ ca1) (hna2 : a11_sands.length = na2) (hqa2 : AOK na2 qa2) (hla2 : na2 ≤ ca2) (hna3 : a11_sights.length = na3) (hqa3 : AOK na3 qa3) (hla3 : na3 ≤ ca3) {res : Bool} (hm : KI i0 a11_cells a11_tides a11_fords a11_sands a11_sights = some res) :
    Calls Tryz.prog 120 #[.int .i64 i0, ptr rb 0] w (fun en w' => ∃ l : Unit, en = .returned (.bool res) ∧ (True) ∧ HV w (keys [] []) [] [] [] w') := by
  unfold KI at hm
  refine qL func120 Y ntmps120 Y (e := [(0, _), (1, _)]) Y hw (jr (jo Y Y (kY (jj Y Y (qV 4 runUnderlying26 Y sizeOf24 Y Y (jc Y Y Y (fun w hh => jB (isAgg24 w) Y (segCell (hh.seg 0 Y) 4 Y)) (jc Y Y Y (fun w _ => jJ hna3 (runUnderlying24 w) Y) ?_)))))))
  obtain ⟨t8, h1, hm⟩ := bindO hm
  refine jc Y Y Y (fun _ _ => Jm h1 Y Y) ?_
  obtain ⟨t9, h2, hm⟩ := bindO hm
  refine jd [] [] Y Y Y Y Y Y Y call106 (fun w hh => JI i0 0 t8 w (HV.callee (S0 := []) (vs0 := []) hh roN)  h2) (fun l h3 => ?_)
  refine jo Y Y (jq (jv ?_))
  obtain rfl := sj hm
  refine jm Y (fun w hh => (.tmp Y .nil)) (fun w hh => ⟨(), rfl, trivial, hh.se [] [] 4 Y Y Y rfl⟩)
end Go.Proofs.Wb

namespace Go.Proofs.Wb
set_option maxHeartbeats 4000000
set_option maxRecDepth 100000
open Go Go.Fw Go.Gx Go.Sb
open Tryz
set_option linter.unusedVariables false
def zG (x0 : Int) (a11_c0_cells : Int) (a11_c0_tides : Int) (a11_c0_fords : (List Int)) (a11_c0_sands : (List Sand)) (a11_c0_sights : (List Sight)) : Option Bool :=
 (KI x0 a11_c0_cells a11_c0_tides a11_c0_fords a11_c0_sands a11_c0_sights).bind fun t6 =>
 some (!t6)
theorem YP (x0 : Int) (a11_c0_cells : Int) (a11_c0_tides : Int) (a11_c0_fords : (List Int)) (a11_c0_sands : (List Sand)) (a11_c0_sights : (List Sight)) (rb : Nat) (rb_1 : Nat) (qa2 : Option Addr) (na2 ca2 : Nat) (qa3 : Option Addr) (na3 ca3 : Nat) (qa4 : Option Addr) (na4 ca4 : Nat) (w : World) (hw : HV w (keys [] []) [] [] [(rb, 0, [.func (.func 120) #[] #[ptr rb_1 0]]), (rb_1, 0, [.int .i64 a11_c0_cells, .int .i64 a11_c0_tides, .slice qa2 na2 ca2, .slice qa3 na3 ca3, .slice qa4 na4 ca4]), (aB qa2, aO qa2, RI.enc a11_c0_fords), (aB qa3, aO qa3, RSa.enc a11_c0_sands), (aB qa4, aO qa4, RSi.enc a11_c0_sights)] w)   (hna2 : a11_c0_fords.length = na2) (hqa2 : AOK na2 qa2) (hla2 : na2 ≤ ca2) (hna3 : a11_c0_sands.length = na3) (hqa3 : AOK na3 qa3) (hla3 : na3 ≤ ca3) (hna4 : a11_c0_sights.length = na4) (hqa4 : AOK na4 qa4) (hla4 : na4 ≤ ca4) {res : Bool} (hm : zG x0 a11_c0_cells a11_c0_tides a11_c0_fords a11_c0_sands a11_c0_sights = some res) :
    Calls Tryz.prog 170 #[.int .i64 x0, ptr rb 0] w (fun en w' => ∃ l : Unit, en = .returned (.bool res) ∧ (True) ∧ HV w (keys [] []) [] [] [] w') := by
  unfold zG at hm
  refine qL func170 Y ntmps170 Y (e := [(0, _), (1, _)]) Y hw (jr (jo Y Y (kY (jc Y Y Y (fun w hh => jB (isAgg102 w) Y (segCell (hh.seg 0 Y) 0 Y)) (jj Y Y ?_)))))
  obtain ⟨t6, h1, hm⟩ := bindO hm
  refine jd [] [] Y Y Y Y Y Y Y call120 (fun w hh => Z2 x0 a11_c0_cells a11_c0_tides a11_c0_fords a11_c0_sands a11_c0_sights rb_1 qa2 na2 ca2 qa3 na3 ca3 qa4 na4 ca4 w (HV.callee (S0 := []) (vs0 := []) hh (roR hh 1 Y (roR hh 2 Y (roR hh 3 Y (roR hh 4 Y roN))))) hna2 hqa2 hla2 hna3 hqa3 hla3 hna4 hqa4 hla4 h1) (fun l h2 => ?_)
  refine jc Y Y Y (fun _ _ => zJ Y) (jo Y Y (jq (jv ?_)))
  obtain rfl := sj hm
  refine jm Y (fun w hh => (.tmp Y .nil)) (fun w hh => ⟨(), rfl, trivial, hh.se [] [] 5 Y Y Y rfl⟩)
def qh (s0 : (List Int)) (f1_c0_c0_cells : Int) (f1_c0_c0_tides : Int) (f1_c0_c0_fords : (List Int)) (f1_c0_c0_sands : (List Sand)) (f1_c0_c0_sights : (List Sight)) (s : Int) : Option (Int ⊕ (Unit ⊕ Int)) :=
 if s < (s0.length : Int) then
 ((ix s0 s).bind fun t14 =>
 (zG t14 f1_c0_c0_cells f1_c0_c0_tides f1_c0_c0_fords f1_c0_c0_sands f1_c0_c0_sights).bind fun t16 =>
 if t16 = true then
 (some (.inr (.inr s))) else
 ((addc s 1).bind fun t18 =>
 some (.inl t18))) else
 (some (.inr (.inl ())))
def zl (s0 : (List Int)) (f1_c0_c0_cells : Int) (f1_c0_c0_tides : Int) (f1_c0_c0_fords : (List Int)) (f1_c0_c0_sands : (List Sand)) (f1_c0_c0_sights : (List Sight)) : Option Int :=
 (iterM FU (qh s0 f1_c0_c0_cells f1_c0_c0_tides f1_c0_c0_fords f1_c0_c0_sands f1_c0_c0_sights) 0).bind fun o =>
 oc o (fun j => some (-1)) (fun r_1 => some r_1)
theorem Yz (s0 : (List Int)) (f1_c0_c0_cells : Int) (f1_c0_c0_tides : Int) (f1_c0_c0_fords : (List Int)) (f1_c0_c0_sands : (List Sand)) (f1_c0_c0_sights : (List Sight)) (qa0 : Option Addr) (na0 ca0 : Nat) (rb : Nat) (rb_1 : Nat) (qa3 : Option Addr) (na3 ca3 : Nat) (qa4 : Option Addr) (na4 ca4 : Nat) (qa5 : Option Addr) (na5 ca5 : Nat) (w : World) (hw : HV w (keys [] []) [] [] [(aB qa0, aO qa0, RI.enc s0), (rb, 0, [.func (.func 120) #[] #[ptr rb_1 0]]), (rb_1, 0, [.int .i64 f1_c0_c0_cells, .int .i64 f1_c0_c0_tides, .slice qa3 na3 ca3, .slice qa4 na4 ca4, .slice qa5 na5 ca5]), (aB qa3, aO qa3, RI.enc f1_c0_c0_fords), (aB qa4, aO qa4, RSa.enc f1_c0_c0_sands), (aB qa5, aO qa5, RSi.enc f1_c0_c0_sights)] w) (hna0 : s0.length = na0) (hqa0 : AOK na0 qa0) (hla0 : na0 ≤ ca0)   (hna3 : f1_c0_c0_fords.length = na3) (hqa3 : AOK na3 qa3) (hla3 : na3 ≤ ca3) (hna4 : f1_c0_c0_sands.length = na4) (hqa4 : AOK na4 qa4) (hla4 : na4 ≤ ca4) (hna5 : f1_c0_c0_sights.length = na5) (hqa5 : AOK na5 qa5) (hla5 : na5 ≤ ca5) {res : Int} (hm : zl s0 f1_c0_c0_cells f1_c0_c0_tides f1_c0_c0_fords f1_c0_c0_sands f1_c0_c0_sights = some res) :
    Calls Tryz.prog 148 #[.slice qa0 na0 ca0, .func (.func 170) #[] #[ptr rb 0]] w (fun en w' => ∃ l : Unit, en = .returned (.int .i64 res) ∧ (True) ∧ HV w (keys [] []) [] [] [] w') := by
  unfold zl at hm
  refine qL func148 Y ntmps148 Y (e := [(0, _), (1, _)]) Y hw (jr (jo Y Y (jq (jh (jr (jj Y Y (jc Y Y Y (fun w _ => jJ hna0 (runUnderlying22 w) Y) ?_)))))))
  refine jj Y Y (jq ?_)
  obtain ⟨o, h1, h2⟩ := bindO hm
  refine jM (ι := Unit) (fun j => o = .inl j) (fun j => []) (fun j => []) (fun j => []) ?_ ?_
  ·replace hm := h1
   refine jl ?_
   refine jK (ι := Unit) hm (fun s l => True) (fun s l => [(0, .slice qa0 na0 ca0), (1, .func (.func 170) #[] #[ptr rb 0]), (7, .int .i64 (s0.length : Int)), (8, .int .i64 s)]) (fun s l => []) (fun s l => []) () (trivial) (sE Y) (fun w hh => hh) (fun s l r hpl hm h3 => ?_)
   unfold qh at hm
   refine jr (Kc Y Y Y (jq (jh ?_)))
   refine js Y (fun h4 => ?_) (fun h4 => ?_)
   ·replace hm := ifD h4 hm
    refine jt (ja (jh (jl (jr (jj Y Y (jo Y Y (kY ?_)))))))
    refine jj Y Y (jj Y Y (jj Y Y ?_))
    obtain ⟨t14, h5, hm⟩ := bindO hm
    refine jc Y Y Y (fun w _ => qM h5 (runUnderlying22 w) (sizeOf3 w) Y Y hna0 hqa0) (jc Y Y Y (fun w hh => qy RI 0 h5 (isAgg3 w) Y (hh.seg 0 Y) Y (Nat.add_zero _).symm) ?_)
    obtain ⟨t16, h6, hm⟩ := bindO hm
    refine jd [] [] Y Y Y Y Y Y Y call170 (fun w hh => YP t14 f1_c0_c0_cells f1_c0_c0_tides f1_c0_c0_fords f1_c0_c0_sands f1_c0_c0_sights rb rb_1 qa3 na3 ca3 qa4 na4 ca4 qa5 na5 ca5 w (HV.callee (S0 := []) (vs0 := []) hh (roR hh 1 Y (roR hh 2 Y (roR hh 3 Y (roR hh 4 Y (roR hh 5 Y roN)))))) hna3 hqa3 hla3 hna4 hqa4 hla4 hna5 hqa5 hla5 h6) (fun l_1 h7 => ?_)
    refine jq ?_
    refine js Y (fun h8 => ?_) (fun h8 => ?_)
    ·replace hm := ifT (h8) hm
     refine jr (jj Y Y (jo Y Y (jq (jv (jz (je (je ?_)))))))
     refine jz ?_
     obtain rfl := sj hm
     have hbo := h3 _ Y
     subst hbo
     refine je ?_
     replace hm := ocR h2
     refine je ?_
     obtain rfl := sj hm
     refine jm Y (fun w hh => (.tmp Y .nil)) (fun w hh => ⟨(), rfl, trivial, hh.se [] [] 6 Y Y Y rfl⟩)
    replace hm := ifN h8 hm
    refine jt (jw (ja (jg ?_)))
    obtain ⟨t18, h9, hm⟩ := bindO hm
    refine JV h9 Y Y Y (jj Y Y (jx ?_))
    obtain rfl := sj hm
    refine ja ?_
    exact jA _ () Y (trivial) (sE Y) (fun w hh => hh)
   replace hm := ifE h4 hm
   refine jV (ji (ji (jC ?_)))
   obtain rfl := sj hm
   have hbo := h3 _ Y
   subst hbo
   exact jk () (Y) (.nil) (fun w hh => hh)
  intro j hj
  have h10 := hj
  subst h10
  replace hm := ocL h2
  refine ja (jr (jo Y Y (jq (jv ?_))))
  obtain rfl := sj hm
  refine jm Y (fun w hh => (.tmp Y .nil)) (fun w hh => ⟨(), rfl, trivial, hh.se [] [] 6 Y Y Y rfl⟩)
def ym (s0 : (List Int)) (f1_c0_c0_cells : Int) (f1_c0_c0_tides : Int) (f1_c0_c0_fords : (List Int)) (f1_c0_c0_sands : (List Sand)) (f1_c0_c0_sights : (List Sight)) : Option Bool :=
 (zl s0 f1_c0_c0_cells f1_c0_c0_tides f1_c0_c0_fords f1_c0_c0_sands f1_c0_c0_sights).bind fun t7 =>
 some (decide (0 ≤ t7))
theorem QX (s0 : (List Int)) (f1_c0_c0_cells : Int) (f1_c0_c0_tides : Int) (f1_c0_c0_fords : (List Int)) (f1_c0_c0_sands : (List Sand)) (f1_c0_c0_sights : (List Sight)) (qa0 : Option Addr) (na0 ca0 : Nat) (rb : Nat) (rb_1 : Nat) (qa3 : Option Addr) (na3 ca3 : Nat) (qa4 : Option Addr) (na4 ca4 : Nat) (qa5 : Option Addr) (na5 ca5 : Nat) (w : World) (hw : HV w (keys [] []) [] [] [(aB qa0, aO qa0, RI.enc s0), (rb, 0, [.func (.func 120) #[] #[ptr rb_1 0]]), (rb_1, 0, [.int .i64 f1_c0_c0_cells, .int .i64 f1_c0_c0_tides, .slice qa3 na3 ca3, .slice qa4 na4 ca4, .slice qa5 na5 ca5]), (aB qa3, aO qa3, RI.enc f1_c0_c0_fords), (aB qa4, aO qa4, RSa.enc f1_c0_c0_sands), (aB qa5, aO qa5, RSi.enc f1_c0_c0_sights)] w) (hna0 : s0.length = na0) (hqa0 : AOK na0 qa0) (hla0 : na0 ≤ ca0)   (hna3 : f1_c0_c0_fords.length = na3) (hqa3 : AOK na3 qa3) (hla3 : na3 ≤ ca3) (hna4 : f1_c0_c0_sands.length = na4) (hqa4 : AOK na4 qa4) (hla4 : na4 ≤ ca4) (hna5 : f1_c0_c0_sights.length = na5) (hqa5 : AOK na5 qa5) (hla5 : na5 ≤ ca5) {res : Bool} (hm : ym s0 f1_c0_c0_cells f1_c0_c0_tides f1_c0_c0_fords f1_c0_c0_sands f1_c0_c0_sights = some res) :
    Calls Tryz.prog 65 #[.slice qa0 na0 ca0, .func (.func 170) #[] #[ptr rb 0]] w (fun en w' => ∃ l : Unit, en = .returned (.bool res) ∧ (True) ∧ HV w (keys [] []) [] [] [] w') := by
  unfold ym at hm
  refine qL func65 Y ntmps65 Y (e := [(0, _), (1, _)]) Y hw (jr (jo Y Y (kY (jj Y Y (jj Y Y ?_)))))
  obtain ⟨t7, h1, hm⟩ := bindO hm
  refine jd [] [] Y Y Y Y Y Y Y call148 (fun w hh => Yz s0 f1_c0_c0_cells f1_c0_c0_tides f1_c0_c0_fords f1_c0_c0_sands f1_c0_c0_sights qa0 na0 ca0 rb rb_1 qa3 na3 ca3 qa4 na4 ca4 qa5 na5 ca5 w (HV.callee (S0 := []) (vs0 := []) hh (roR hh 0 Y (roR hh 1 Y (roR hh 2 Y (roR hh 3 Y (roR hh 4 Y (roR hh 5 Y roN))))))) hna0 hqa0 hla0 hna3 hqa3 hla3 hna4 hqa4 hla4 hna5 hqa5 hla5 h1) (fun l h2 => ?_)
  refine jc Y Y Y (fun _ _ => Z4 Y Y) (jo Y Y (jq (jv ?_)))
  obtain rfl := sj hm
  refine jm Y (fun w hh => (.tmp Y .nil)) (fun w hh => ⟨(), rfl, trivial, hh.se [] [] 6 Y Y Y rfl⟩)
def zf (l0 : (List Int)) (holds1_c0_cells : Int) (holds1_c0_tides : Int) (holds1_c0_fords : (List Int)) (holds1_c0_sands : (List Sand)) (holds1_c0_sights : (List Sight)) : Option Bool :=
 (ym l0 holds1_c0_cells holds1_c0_tides holds1_c0_fords holds1_c0_sands holds1_c0_sights).bind fun t7 =>
 some (!t7)
theorem Zf (l0 : (List Int)) (holds1_c0_cells : Int) (holds1_c0_tides : Int) (holds1_c0_fords : (List Int)) (holds1_c0_sands : (List Sand)) (holds1_c0_sights : (List Sight)) (qa0 : Option Addr) (na0 ca0 : Nat) (rb : Nat) (qa2 : Option Addr) (na2 ca2 : Nat) (qa3 : Option Addr) (na3 ca3 : Nat) (qa4 : Option Addr) (na4 ca4 : Nat) (w : World) (hw : HV w (keys [] []) [] [] [(aB qa0, aO qa0, RI.enc l0), (rb, 0, [.int .i64 holds1_c0_cells, .int .i64 holds1_c0_tides, .slice qa2 na2 ca2, .slice qa3 na3 ca3, .slice qa4 na4 ca4]), (aB qa2, aO qa2, RI.enc holds1_c0_fords), (aB qa3, aO qa3, RSa.enc holds1_c0_sands), (aB qa4, aO qa4, RSi.enc holds1_c0_sights)] w) (hna0 : l0.length = na0) (hqa0 : AOK na0 qa0) (hla0 : na0 ≤ ca0)  (hna2 : holds1_c0_fords.length = na2) (hqa2 : AOK na2 qa2) (hla2 : na2 ≤ ca2) (hna3 : holds1_c0_sands.length = na3) (hqa3 : AOK na3 qa3) (hla3 : na3 ≤ ca3) (hna4 : holds1_c0_sights.length = na4) (hqa4 : AOK na4 qa4) (hla4 : na4 ≤ ca4) {res : Bool} (hm : zf l0 holds1_c0_cells holds1_c0_tides holds1_c0_fords holds1_c0_sands holds1_c0_sights = some res) :
    Calls Tryz.prog 119 #[.slice qa0 na0 ca0, .func (.func 120) #[] #[ptr rb 0]] w (fun en w' => ∃ l : Unit, en = .returned (.bool res) ∧ (True) ∧ HV w (keys [] []) [] [] [] w') := by
  unfold zf at hm
  refine qL func119 Y ntmps119 Y (e := [(0, _), (1, _)]) Y hw (jr ?_)
  refine jG Y Y (fun b h1 => ?_)
  refine jo Y Y (kY (jj Y Y (jc Y Y Y (fun _ _ => kg (u := #[]) (u' := #[_]) Y Y) ?_)))
  obtain ⟨t7, h2, hm⟩ := bindO hm
  refine jd [] [] Y Y Y Y Y Y Y call65 (fun w hh => QX l0 holds1_c0_cells holds1_c0_tides holds1_c0_fords holds1_c0_sands holds1_c0_sights qa0 na0 ca0 b rb qa2 na2 ca2 qa3 na3 ca3 qa4 na4 ca4 w (HV.callee (S0 := []) (vs0 := []) hh (roR hh 0 Y (roC (bsep (hh.bseg 0 Y)) (roR hh 1 Y (roR hh 2 Y (roR hh 3 Y (roR hh 4 Y roN))))))) hna0 hqa0 hla0 hna2 hqa2 hla2 hna3 hqa3 hla3 hna4 hqa4 hla4 h2) (fun l h3 => ?_)
  refine jc Y Y Y (fun _ _ => zJ Y) (jo Y Y (jq (jv ?_)))
  obtain rfl := sj hm
  refine jm Y (fun w hh => (.tmp Y .nil)) (fun w hh => ⟨(), rfl, trivial, hh.se [] [] 5 Y Y Y rfl⟩)
structure yj where
  r0 : Bool
  r1 : Int
def JA (sights1 : (List Int)) (s : Int) : Option (Int ⊕ (Unit ⊕ yj)) :=
 if s < (sights1.length : Int) then
 ((ix sights1 s).bind fun t29 =>
 if 0 ≤ s ∧ s ≤ (sights1.length : Int) then ((j7 (sights1.take (Int.toNat s)) t29).bind fun t35 =>
 if t35 = true then
 (some (.inr (.inr (⟨false, 5⟩ : yj)))) else
 ((addc s 1).bind fun t36 =>
 some (.inl t36))) else none) else
 (some (.inr (.inl ())))
def Kt (c0 : Channel) (sights1 : (List Int)) : Option yj :=
 (ye c0).bind fun t12 =>
 oc t12 (fun t12a => some (⟨false, t12a⟩ : yj)) (fun t12b => (zf sights1 c0.cells c0.tides c0.fords c0.sands c0.sights).bind fun t22 =>
 if (!t22) = true then
 (some (⟨false, 1⟩ : yj)) else
 ((iterM FU (JA sights1) 0).bind fun o =>
 oc o (fun j => (z6 sights1).bind fun t39 =>
 (kT t12b.t14_0 t12b.t14_1 c0.fords c0.sands c0.sights t12b.t14_5 sights1).bind fun t40 =>
 some (⟨t40, 0⟩ : yj)) (fun r_1 => some r_1)))
theorem jaq (c0 : Channel) (sights1 : (List Int)) (qa0 : Option Addr) (na0 ca0 : Nat) (qa1 : Option Addr) (na1 ca1 : Nat) (qa2 : Option Addr) (na2 ca2 : Nat) (qa3 : Option Addr) (na3 ca3 : Nat) (w : World) (hw : HV w (keys [] []) [] [] [(aB qa0, aO qa0, RI.enc c0.fords), (aB qa1, aO qa1, RSa.enc c0.sands), (aB qa2, aO qa2, RSi.enc c0.sights), (aB qa3, aO qa3, RI.enc sights1)] w) (hna0 : c0.fords.length = na0) (hqa0 : AOK na0 qa0) (hla0 : na0 ≤ ca0) (hna1 : c0.sands.length = na1) (hqa1 : AOK na1 qa1) (hla1 : na1 ≤ ca1) (hna2 : c0.sights.length = na2) (hqa2 : AOK na2 qa2) (hla2 : na2 ≤ ca2) (hna3 : sights1.length = na3) (hqa3 : AOK na3 qa3) (hla3 : na3 ≤ ca3) {res : yj} (hm : Kt c0 sights1 = some res) :
    Calls Tryz.prog 47 #[.agg #[.int .i64 c0.cells, .int .i64 c0.tides, .slice qa0 na0 ca0, .slice qa1 na1 ca1, .slice qa2 na2 ca2], .slice qa3 na3 ca3] w (fun en w' => ∃ l : Unit, en = .returned (.tuple #[.bool res.r0, .int .i64 res.r1]) ∧ (True) ∧ HV w (keys [] []) [] [] [] w') := by
  unfold Kt at hm
  refine qL func47 Y ntmps47 Y (e := [(0, _), (1, _)]) Y hw (jr ?_)
  refine jG Y Y (fun b h1 => ?_)
  refine jo Y Y (jo Y Y (kY (JC [_, _, _, _, _] 0 isAgg26 sizeOf26 Y Y Y Y ?_)))
  obtain ⟨t12, h2, hm⟩ := bindO hm
  rcases t12 with t12a | t12b
  ·replace hm := ocL hm
   refine jd [] [] Y Y Y Y Y Y Y call93 (fun w hh => qK c0 qa0 na0 ca0 qa1 na1 ca1 qa2 na2 ca2 w (HV.callee (S0 := []) (vs0 := []) hh (roR hh 0 Y (roR hh 1 Y (roR hh 2 Y roN)))) hna0 hqa0 hla0 hna1 hqa1 hla1 hna2 hqa2 hla2 h2) (fun l h3 => ?_)
   have h4 := h3
   refine jj Y Y (JD Y Y Y (JD Y Y Y (jo Y Y (jo Y Y (jq (jh (jl ?_)))))))
   refine jr (jj Y Y (jc Y Y Y (fun _ _ => ZG h4 Y Y) (jo Y Y (jq (KJ Y Y (jr (jj Y Y ?_)))))))
   refine jo Y Y (jo Y Y (jq (jv (jz (je ?_)))))
   obtain rfl := sj hm
   refine jm Y (fun w hh => (.tmp Y (.tmp Y .nil))) (fun w hh => ⟨(), rfl, trivial, hh.se [] [] 4 Y Y Y rfl⟩)
  replace hm := ocR hm
  refine jd [] [] Y Y Y Y Y Y Y call93 (fun w hh => qK c0 qa0 na0 ca0 qa1 na1 ca1 qa2 na2 ca2 w (HV.callee (S0 := []) (vs0 := []) hh (roR hh 0 Y (roR hh 1 Y (roR hh 2 Y roN)))) hna0 hqa0 hla0 hna1 hqa1 hla1 hna2 hqa2 hla2 h2) (fun l_1 h5 => ?_)
  have h6 := h5
  refine kx (S' := [_, _]) (vs' := [_]) [0, 1] [0] 0 Y Y Y Y (jj Y Y (JD Y Y Y (JD Y Y Y (jo Y Y (jo Y Y (jq (jh ?_)))))))
  refine jl (jr (jj Y Y (jc Y Y Y (fun _ _ => Kw Y Y) (jo Y Y (jq (KM Y Y (jr ?_)))))))
  refine jj Y Y (jc Y Y Y (fun _ _ => kg (u := #[]) (u' := #[_]) Y Y) ?_)
  obtain ⟨t22, h7, hm⟩ := bindO hm
  refine jd [] [] Y Y Y Y Y Y Y call119 (fun w hh => Zf sights1 c0.cells c0.tides c0.fords c0.sands c0.sights qa3 na3 ca3 b qa0 na0 ca0 qa1 na1 ca1 qa2 na2 ca2 w (HV.callee (S0 := []) (vs0 := []) hh (roR hh 3 Y (roC (bsep (hh.bseg 1 Y)) (roR hh 0 Y (roR hh 1 Y (roR hh 2 Y roN)))))) hna3 hqa3 hla3 hna0 hqa0 hla0 hna1 hqa1 hla1 hna2 hqa2 hla2 h7) (fun l_2 h8 => ?_)
  refine jc Y Y Y (fun _ _ => zJ Y) (jo Y Y (jq ?_))
  refine js Y (fun h9 => ?_) (fun h9 => ?_)
  ·replace hm := ifT (h9) hm
   refine jr (jo Y Y (jo Y Y (jq (jv (jz (je ?_))))))
   obtain rfl := sj hm
   refine jm Y (fun w hh => (.tmp Y (.tmp Y .nil))) (fun w hh => ⟨(), rfl, trivial, hh.se [] [] 4 Y Y Y rfl⟩)
  replace hm := ifN h9 hm
  refine jt (jw (ja (jh (jr (jj Y Y (jc Y Y Y (fun w _ => jJ hna3 (runUnderlying22 w) Y) (jj Y Y ?_)))))))
  refine jq ?_
  obtain ⟨o, h10, h11⟩ := bindO hm
  refine jM (ι := Unit) (fun j => o = .inl j) (fun j => [(1, .slice qa3 na3 ca3), (6, ptr l_1.1 0)]) (fun j => [kc l_1.1 #[.int .i64 t12b.t14_0, .int .i64 t12b.t14_1, .slice qa0 na0 ca0, .slice qa1 na1 ca1, .slice qa2 na2 ca2, sL l_1.2] 175, kc b #[.int .i64 c0.cells, .int .i64 c0.tides, .slice qa0 na0 ca0, .slice qa1 na1 ca1, .slice qa2 na2 ca2] 26]) (fun j => [vL 3 l_1.2 (RI.enc t12b.t14_5)]) ?_ ?_
  ·replace hm := h10
   refine jl ?_
   refine jK (ι := Unit) hm (fun s l_3 => True) (fun s l_3 => [(1, .slice qa3 na3 ca3), (6, ptr l_1.1 0), (24, .slice qa3 na3 ca3), (25, .int .i64 (sights1.length : Int)), (26, .int .i64 s)]) (fun s l_3 => [kc l_1.1 #[.int .i64 t12b.t14_0, .int .i64 t12b.t14_1, .slice qa0 na0 ca0, .slice qa1 na1 ca1, .slice qa2 na2 ca2, sL l_1.2] 175, kc b #[.int .i64 c0.cells, .int .i64 c0.tides, .slice qa0 na0 ca0, .slice qa1 na1 ca1, .slice qa2 na2 ca2] 26]) (fun s l_3 => [vL 3 l_1.2 (RI.enc t12b.t14_5)]) () (trivial) (sE Y) (fun w hh => hh) (fun s l_3 r hpl hm h12 => ?_)
   unfold JA at hm
   refine jr (Kc Y Y Y (jq (jh ?_)))
   refine js Y (fun h13 => ?_) (fun h13 => ?_)
   ·replace hm := ifD h13 hm
    refine jt (ja (jh (jl (jr (jj Y Y ?_)))))
    obtain ⟨t29, h14, hm⟩ := bindO hm
    refine jc Y Y Y (fun w _ => qM h14 (runUnderlying22 w) (sizeOf3 w) Y Y hna3 hqa3) (jc Y Y Y (fun w hh => qy RI 0 h14 (isAgg3 w) Y (hh.seg 3 Y) Y (Nat.add_zero _).symm) (jo Y Y (jo Y Y (kY (jj Y Y (jj Y Y ?_))))))
    obtain ⟨h15, hm⟩ := ifO hm
    refine jc Y Y Y (fun w _ => ja9 (runUnderlying22 w) (sizeOf3 w) Y Y h15.1 (pre_hle hna3 h15 hla3)) (jcs RI 3 (Int.toNat s) Y (jj Y Y ?_))
    obtain ⟨t35, h16, hm⟩ := bindO hm
    refine jd [] [] Y Y Y Y Y Y Y call64 (fun w hh => yh (sights1.take (Int.toNat s)) t29 qa3 (Int.toNat s) ca3 w (HV.callee (S0 := []) (vs0 := []) hh (roR hh 0 Y roN)) (pre_hn hna3 h15) (pre_AOK hna3 h15 hqa3) (pre_hle hna3 h15 hla3) h16) (fun l_4 h17 => ?_)
    refine jq ?_
    refine js Y (fun h18 => ?_) (fun h18 => ?_)
    ·replace hm := ifT (h18) hm
     refine jr (jo Y Y (jo Y Y (jq (jv (jz (je (je ?_)))))))
     refine jz ?_
     obtain rfl := sj hm
     have hbo := h12 _ Y
     subst hbo
     refine je ?_
     replace hm := ocR h11
     refine je ?_
     obtain rfl := sj hm
     refine jm Y (fun w hh => (.tmp Y (.tmp Y .nil))) (fun w hh => ⟨(), rfl, trivial, hh.se [] [] 5 Y Y Y rfl⟩)
    replace hm := ifN h18 hm
    refine jt (jw (ja (jg ?_)))
    obtain ⟨t36, h19, hm⟩ := bindO hm
    refine JV h19 Y Y Y (jj Y Y (jx ?_))
    obtain rfl := sj hm
    refine ja ?_
    exact jA _ () Y (trivial) (sE Y) (hsE [0, 1] [0] 1 Y Y Y Y)
   replace hm := ifE h13 hm
   refine jV (ji (ji (jC ?_)))
   obtain rfl := sj hm
   have hbo := h12 _ Y
   subst hbo
   exact jk () (Y) (sE Y) (fun w hh => hh)
  intro j hj
  have h20 := hj
  subst h20
  replace hm := ocL h11
  refine ja (jr (jj Y Y (jj Y Y ?_)))
  obtain ⟨t39, h21, hm⟩ := bindO hm
  refine jd [] [] Y Y Y Y Y Y Y call122 (fun w hh => YE sights1 qa3 na3 ca3 w (HV.callee (S0 := []) (vs0 := []) hh (roR hh 3 Y roN)) hna3 hqa3 hla3 h21) (fun l_5 h22 => ?_)
  refine kx (S' := [_, _, _]) (vs' := [_]) [0, 1, 2] [0] 0 Y Y Y Y ?_
  obtain ⟨t40, h23, hm⟩ := bindO hm
  refine jd [] [] Y Y Y Y Y Y Y call121 (fun w hh => JW t12b.t14_0 t12b.t14_1 c0.fords c0.sands c0.sights t12b.t14_5 sights1 l_1.1 qa0 na0 ca0 qa1 na1 ca1 qa2 na2 ca2 (qA l_1.2.q) l_1.2.n l_1.2.cap l_5 qa3 na3 ca3 w (HV.callee (S0 := []) (vs0 := []) hh (roC (bsep (hh.bseg 1 Y)) (roR hh 0 Y (roR hh 1 Y (roR hh 2 Y (roC (hh.vsepA 0 Y h6) (roC (bsep (hh.bseg 0 Y)) (roR hh 3 Y roN)))))))) hna0 hqa0 hla0 hna1 hqa1 hla1 hna2 hqa2 hla2 (vlen RI h6 Y) (AOK.q (vne h6)) (h6).hle hna3 hqa3 hla3 h23) (fun l_6 h24 => ?_)
  refine jo Y Y (jo Y Y (jq (jv ?_)))
  obtain rfl := sj hm
  refine jm Y (fun w hh => (.tmp Y (.tmp Y .nil))) (fun w hh => ⟨(), rfl, trivial, hh.se [] [] 4 Y Y Y rfl⟩)
end Go.Proofs.Wb

namespace Go.Proofs.Wb
set_option maxHeartbeats 4000000
set_option maxRecDepth 100000
open Go Go.Fw Go.Gx Go.Sb
open Tryz
set_option linter.unusedVariables false

structure za where
  n3 : Int
  i4 : Int
structure Jq where
  one5 : Int
  k6 : Int
def yf (l0 : (List Int)) (s : za) (s_1 : Jq) : Option (Jq ⊕ Int) :=
 (ix l0 s.i4).bind fun t16 =>
 if s_1.k6 < t16 then
 ((mulc 2 s_1.one5).bind fun t22 =>
 (addc s_1.k6 1).bind fun t20 =>
 some (.inl (⟨t22, t20⟩ : Jq))) else
 (some (.inr s_1.one5))
def yg (l0 : (List Int)) (s : za) : Option (za ⊕ Int) :=
 if s.i4 < (l0.length : Int) then
 ((iterM FU (yf l0 s) (⟨1, 0⟩ : Jq)).bind fun o_1 =>
 (addc s.n3 o_1).bind fun t25 =>
 (addc s.i4 1).bind fun t12 =>
 some (.inl (⟨t25, t12⟩ : za))) else
 (some (.inr s.n3))
def Ju (l0 : (List Int)) : Option Int :=
 (iterM FU (yg l0) (⟨0, 0⟩ : za)).bind fun o =>
 some o
theorem ZU (l0 : (List Int)) (qa0 : Option Addr) (na0 ca0 : Nat) (w : World) (hw : HV w (keys [] []) [] [] [(aB qa0, aO qa0, RI.enc l0)] w) (hna0 : l0.length = na0) (hqa0 : AOK na0 qa0) (hla0 : na0 ≤ ca0) {res : Int} (hm : Ju l0 = some res) :
    Calls Tryz.prog 123 #[.slice qa0 na0 ca0] w (fun en w' => ∃ l : Unit, en = .returned (.int .i64 res) ∧ (True) ∧ HV w (keys [] []) [] [] [] w') := by
  unfold Ju at hm
  refine qL func123 Y ntmps123 Y (e := [(0, _)]) Y hw (jr (jo Y Y (kY (jo Y Y (jq (jh (jr ?_)))))))
  refine jo Y Y (jq ?_)
  obtain ⟨o, h1, h2⟩ := bindO hm
  refine jM (ι := Unit) (fun l => True) (fun l => [(3, .int .i64 o)]) (fun l => []) (fun l => []) ?_ ?_
  ·replace hm := h1
   refine jl ?_
   refine jK (ι := Unit) hm (fun s l_1 => True) (fun s l_1 => [(0, .slice qa0 na0 ca0), (3, .int .i64 s.n3), (4, .int .i64 s.i4)]) (fun s l_1 => []) (fun s l_1 => []) () (trivial) (sE Y) (fun w hh => hh) (fun s l_1 r hpl hm h3 => ?_)
   unfold yg at hm
   refine jh (jr (jj Y Y (jj Y Y (jc Y Y Y (fun w _ => jJ hna0 (runUnderlying22 w) Y) (Kc Y Y Y (jq ?_))))))
   refine js Y (fun h4 => ?_) (fun h4 => ?_)
   ·replace hm := ifD h4 hm
    refine jt (ja (jh (jl (jr (jo Y Y (jq (jh ?_)))))))
    refine jr (jo Y Y (jq ?_))
    obtain ⟨o_1, h5, h6⟩ := bindO hm
    refine jM (ι := Unit) (fun l_2 => True) (fun l_2 => [(0, .slice qa0 na0 ca0), (3, .int .i64 s.n3), (4, .int .i64 s.i4), (5, .int .i64 o_1)]) (fun l_2 => []) (fun l_2 => []) ?_ ?_
    ·replace hm := h5
     refine jl ?_
     refine jK (ι := Unit) hm (fun s_1 l_3 => True) (fun s_1 l_3 => [(0, .slice qa0 na0 ca0), (3, .int .i64 s.n3), (4, .int .i64 s.i4), (5, .int .i64 s_1.one5), (6, .int .i64 s_1.k6)]) (fun s_1 l_3 => []) (fun s_1 l_3 => []) () (trivial) (sE Y) (fun w hh => hh) (fun s_1 l_3 r_1 hpl hm h7 => ?_)
     unfold yf at hm
     refine jh (jr (jj Y Y (jj Y Y (jj Y Y ?_))))
     obtain ⟨t16, h8, hm⟩ := bindO hm
     refine jc Y Y Y (fun w _ => qM h8 (runUnderlying22 w) (sizeOf3 w) Y Y hna0 hqa0) (jc Y Y Y (fun w hh => qy RI 0 h8 (isAgg3 w) Y (hh.seg 0 Y) Y (Nat.add_zero _).symm) (Kc Y Y Y (jq ?_)))
     refine js Y (fun h9 => ?_) (fun h9 => ?_)
     ·replace hm := ifD h9 hm
      refine jt (ja (jh (jl (jg (jj Y Y ?_)))))
      obtain ⟨t22, h10, hm⟩ := bindO hm
      refine jc Y Y Y (fun _ _ => jb8 h10 Y Y) (jo Y Y (jx (jw (ja (jg (jj Y Y ?_))))))
      obtain ⟨t20, h11, hm⟩ := bindO hm
      refine JV h11 Y Y Y (jo Y Y (jx ?_))
      obtain rfl := sj hm
      refine ja ?_
      exact jA _ () Y (trivial) (sE Y) (fun w hh => hh)
     replace hm := ifE h9 hm
     refine jV (ji (ji (jC ?_)))
     obtain rfl := sj hm
     have hbo := h7 _ Y
     subst hbo
     exact jk () (trivial) (sE Y) (fun w hh => hh)
    intro l_2 hj
    replace hm := h6
    refine ja (jg (jj Y Y (jj Y Y ?_)))
    obtain ⟨t25, h12, hm⟩ := bindO hm
    refine JV h12 Y Y Y (jo Y Y (jx (jw (ja (jg (jj Y Y ?_))))))
    obtain ⟨t12, h13, hm⟩ := bindO hm
    refine JV h13 Y Y Y (jo Y Y (jx ?_))
    obtain rfl := sj hm
    refine ja ?_
    exact jA _ () Y (trivial) (sE Y) (fun w hh => hh)
   replace hm := ifE h4 hm
   refine jV (ji (ji (jC ?_)))
   obtain rfl := sj hm
   have hbo := h3 _ Y
   subst hbo
   exact jk () (trivial) (sE Y) (fun w hh => hh)
  intro l hj
  replace hm := h2
  refine ja (jr (jj Y Y (jo Y Y (jq (jv ?_)))))
  obtain rfl := sj hm
  refine jm Y (fun w hh => (.tmp Y .nil)) (fun w hh => ⟨(), rfl, trivial, hh.se [] [] 1 Y Y Y rfl⟩)
structure jU where
  r0 : Bool
  r1 : Int
def yv (sights1 : (List Int)) (c0 : Channel) (s : Int) : Option (Int ⊕ (Unit ⊕ jU)) :=
 if s < (sights1.length : Int) then
 ((ix sights1 s).bind fun t23 =>
 (subc (c0.sights.length : Int) 1).bind fun t28 =>
 (jF t23 0 t28).bind fun t29 =>
 if t29 = true then
 (some (.inr (.inr (⟨false, 1⟩ : jU)))) else
 ((addc s 1).bind fun t20 =>
 some (.inl t20))) else
 (some (.inr (.inl ())))
def yt (s_1 : Int) (sights1 : (List Int)) (s_2 : Int) : Option (Int ⊕ (Unit ⊕ jU)) :=
 if s_2 < s_1 then
 ((ix sights1 s_1).bind fun t43 =>
 (ix sights1 s_2).bind fun t47 =>
 if t43 = t47 then
 (some (.inr (.inr (⟨false, 5⟩ : jU)))) else
 ((addc s_2 1).bind fun t40 =>
 some (.inl t40))) else
 (some (.inr (.inl ())))
def yu (sights1 : (List Int)) (s_1 : Int) : Option (Int ⊕ (Unit ⊕ jU)) :=
 if s_1 < (sights1.length : Int) then
 ((iterM FU (yt s_1 sights1) 0).bind fun o_2 =>
 oc o_2 (fun j_2 => (addc s_1 1).bind fun t35 =>
 some (.inl t35)) (fun r_3 => some (.inr (.inr r_3)))) else
 (some (.inr (.inl ())))
def zq (c0 : Channel) (sights1 : (List Int)) : Option jU :=
 (yB c0).bind fun t11 =>
 if t11 = 0 then
 ((iterM FU (yv sights1 c0) 0).bind fun o =>
 oc o (fun j => (iterM FU (yu sights1) 0).bind fun o_1 =>
 oc o_1 (fun j_1 => (Ju sights1).bind fun t52 =>
 (j6 c0 t52).bind fun t53 =>
 some (⟨(decide (0 < t53)), 0⟩ : jU)) (fun r_4 => some r_4)) (fun r_5 => some r_5)) else
 (some (⟨false, t11⟩ : jU))
theorem Zv (c0 : Channel) (sights1 : (List Int)) (qa0 : Option Addr) (na0 ca0 : Nat) (qa1 : Option Addr) (na1 ca1 : Nat) (qa2 : Option Addr) (na2 ca2 : Nat) (qa3 : Option Addr) (na3 ca3 : Nat) (w : World) (hw : HV w (keys [] []) [] [] [(aB qa0, aO qa0, RI.enc c0.fords), (aB qa1, aO qa1, RSa.enc c0.sands), (aB qa2, aO qa2, RSi.enc c0.sights), (aB qa3, aO qa3, RI.enc sights1)] w) (hna0 : c0.fords.length = na0) (hqa0 : AOK na0 qa0) (hla0 : na0 ≤ ca0) (hna1 : c0.sands.length = na1) (hqa1 : AOK na1 qa1) (hla1 : na1 ≤ ca1) (hna2 : c0.sights.length = na2) (hqa2 : AOK na2 qa2) (hla2 : na2 ≤ ca2) (hna3 : sights1.length = na3) (hqa3 : AOK na3 qa3) (hla3 : na3 ≤ ca3) {res : jU} (hm : zq c0 sights1 = some res) :
    Calls Tryz.prog 48 #[.agg #[.int .i64 c0.cells, .int .i64 c0.tides, .slice qa0 na0 ca0, .slice qa1 na1 ca1, .slice qa2 na2 ca2], .slice qa3 na3 ca3] w (fun en w' => ∃ l : Unit, en = .returned (.tuple #[.bool res.r0, .int .i64 res.r1]) ∧ (True) ∧ HV w (keys [] []) [] [] [] w') := by
  unfold zq at hm
  refine qL func48 Y ntmps48 Y (e := [(0, _), (1, _)]) Y hw (jr ?_)
  refine jG Y Y (fun b h1 => ?_)
  refine jo Y Y (jo Y Y (jq (jh (jr (JC [_, _, _, _, _] 0 isAgg33 sizeOf33 Y Y Y Y ?_)))))
  obtain ⟨t11, h2, hm⟩ := bindO hm
  refine jd [] [] Y Y Y Y Y Y Y call22 (fun w hh => QL c0 qa0 na0 ca0 qa1 na1 ca1 qa2 na2 ca2 w (HV.callee (S0 := []) (vs0 := []) hh (roR hh 0 Y (roR hh 1 Y (roR hh 2 Y roN)))) hna0 hqa0 hla0 hna1 hqa1 hla1 hna2 hqa2 hla2 h2) (fun l h3 => ?_)
  refine jo Y Y (kY (jj Y Y (jc Y Y Y (fun _ _ => Kw Y Y) (jq ?_))))
  refine js Y (fun h4 => ?_) (fun h4 => ?_)
  ·replace hm := ifF (of_ndec_true h4) hm
   refine jr (jj Y Y (jo Y Y (jo Y Y (jq (jv (je ?_))))))
   obtain rfl := sj hm
   refine jm Y (fun w hh => (.tmp Y (.tmp Y .nil))) (fun w hh => ⟨(), rfl, trivial, hh.se [] [] 4 Y Y Y rfl⟩)
  replace hm := ifT (of_ndec_false h4) hm
  refine jt (ja (jh (jr (jo Y Y (jq ?_)))))
  obtain ⟨o, h5, h6⟩ := bindO hm
  refine jM (ι := Unit) (fun j => o = .inl j) (fun j => [(1, .slice qa3 na3 ca3), (2, ptr b 0)]) (fun j => [kc b #[.int .i64 c0.cells, .int .i64 c0.tides, .slice qa0 na0 ca0, .slice qa1 na1 ca1, .slice qa2 na2 ca2] 33]) (fun j => []) ?_ ?_
  ·replace hm := h5
   refine jl ?_
   refine jK (ι := Unit) hm (fun s l_1 => True) (fun s l_1 => [(1, .slice qa3 na3 ca3), (2, ptr b 0), (7, .int .i64 s)]) (fun s l_1 => [kc b #[.int .i64 c0.cells, .int .i64 c0.tides, .slice qa0 na0 ca0, .slice qa1 na1 ca1, .slice qa2 na2 ca2] 33]) (fun s l_1 => []) () (trivial) (sE Y) (fun w hh => hh) (fun s l_1 r hpl hm h7 => ?_)
   unfold yv at hm
   refine jh (jr (jj Y Y (jj Y Y (jc Y Y Y (fun w _ => jJ hna3 (runUnderlying22 w) Y) (Kc Y Y Y (jq ?_))))))
   refine js Y (fun h8 => ?_) (fun h8 => ?_)
   ·replace hm := ifD h8 hm
    refine jt (ja (jh (jl (jh ?_))))
    refine j3 none (.free 0 (.free 1 (.free 2 (.hoist 3 (.free 4 (.hoist 5 (.free 6 (.free 7 (.one 8 .done))))))))) _ Y (by decide +kernel) (fun w k hh => hh.draw k) (fun w hh => hh) ?_
    refine qD Y Y Y (qD Y Y Y ?_)
    obtain ⟨t23, h9, hm⟩ := bindO hm
    refine jp Y Y Y Y (fun w _ => qM h9 (runUnderlying22 w) (sizeOf3 w) Y Y hna3 hqa3) (jy Y Y Y Y (fun w hh => qy RI 0 h9 (isAgg3 w) Y (hh.seg 3 Y) Y (Nat.add_zero _).symm) (KA 4 runUnderlying33 sizeOf31 Y Y Y Y (QA 0 isAgg31 Y Y Y Y Y (jp Y Y Y Y (fun w _ => jJ hna2 (runUnderlying31 w) Y) ?_))))
    obtain ⟨t28, h10, hm⟩ := bindO hm
    refine jp Y Y Y Y (fun _ _ => Jm h10 Y Y) (jD Y ?_)
    obtain ⟨t29, h11, hm⟩ := bindO hm
    refine jd [] [] Y Y Y Y Y Y Y call88 (fun w hh => kf t23 0 t28 w (HV.callee (S0 := []) (vs0 := []) hh roN)  h11) (fun l_2 h12 => ?_)
    refine jn (fun w hh => hh) (jH (ja ?_))
    refine js Y (fun h13 => ?_) (fun h13 => ?_)
    ·replace hm := ifT (h13) hm
     refine jr (jo Y Y (jo Y Y (jq (jv (jz (je (je ?_)))))))
     refine jz ?_
     obtain rfl := sj hm
     have hbo := h7 _ Y
     subst hbo
     refine je ?_
     replace hm := ocR h6
     refine je ?_
     obtain rfl := sj hm
     refine jm Y (fun w hh => (.tmp Y (.tmp Y .nil))) (fun w hh => ⟨(), rfl, trivial, hh.se [] [] 4 Y Y Y rfl⟩)
    replace hm := ifN h13 hm
    refine jt (jw (ja (jg (jj Y Y ?_))))
    obtain ⟨t20, h14, hm⟩ := bindO hm
    refine JV h14 Y Y Y (jo Y Y (jx ?_))
    obtain rfl := sj hm
    refine ja ?_
    exact jA _ () Y (trivial) (sE Y) (fun w hh => hh)
   replace hm := ifE h8 hm
   refine jV (ji (ji (jC ?_)))
   obtain rfl := sj hm
   have hbo := h7 _ Y
   subst hbo
   exact jk () (Y) (sE Y) (fun w hh => hh)
  intro j hj
  have h15 := hj
  subst h15
  replace hm := ocL h6
  refine ja (jh (jr (jo Y Y (jq ?_))))
  obtain ⟨o_1, h16, h17⟩ := bindO hm
  refine jM (ι := Unit) (fun j_1 => o_1 = .inl j_1) (fun j_1 => [(1, .slice qa3 na3 ca3), (2, ptr b 0)]) (fun j_1 => [kc b #[.int .i64 c0.cells, .int .i64 c0.tides, .slice qa0 na0 ca0, .slice qa1 na1 ca1, .slice qa2 na2 ca2] 33]) (fun j_1 => []) ?_ ?_
  ·replace hm := h16
   refine jl ?_
   refine jK (ι := Unit) hm (fun s_1 l_3 => True) (fun s_1 l_3 => [(1, .slice qa3 na3 ca3), (2, ptr b 0), (8, .int .i64 s_1)]) (fun s_1 l_3 => [kc b #[.int .i64 c0.cells, .int .i64 c0.tides, .slice qa0 na0 ca0, .slice qa1 na1 ca1, .slice qa2 na2 ca2] 33]) (fun s_1 l_3 => []) () (trivial) (sE Y) (fun w hh => hh) (fun s_1 l_3 r_1 hpl hm h18 => ?_)
   unfold yu at hm
   refine jh (jr (jj Y Y (jj Y Y (jc Y Y Y (fun w _ => jJ hna3 (runUnderlying22 w) Y) (Kc Y Y Y (jq ?_))))))
   refine js Y (fun h19 => ?_) (fun h19 => ?_)
   ·replace hm := ifD h19 hm
    refine jt (ja (jh (jl (jr (jo Y Y (jq ?_))))))
    obtain ⟨o_2, h20, h21⟩ := bindO hm
    refine jM (ι := Unit) (fun j_2 => o_2 = .inl j_2) (fun j_2 => [(1, .slice qa3 na3 ca3), (2, ptr b 0), (8, .int .i64 s_1)]) (fun j_2 => [kc b #[.int .i64 c0.cells, .int .i64 c0.tides, .slice qa0 na0 ca0, .slice qa1 na1 ca1, .slice qa2 na2 ca2] 33]) (fun j_2 => []) ?_ ?_
    ·replace hm := h20
     refine jl ?_
     refine jK (ι := Unit) hm (fun s_2 l_4 => True) (fun s_2 l_4 => [(1, .slice qa3 na3 ca3), (2, ptr b 0), (8, .int .i64 s_1), (9, .int .i64 s_2)]) (fun s_2 l_4 => [kc b #[.int .i64 c0.cells, .int .i64 c0.tides, .slice qa0 na0 ca0, .slice qa1 na1 ca1, .slice qa2 na2 ca2] 33]) (fun s_2 l_4 => []) () (trivial) (sE Y) (fun w hh => hh) (fun s_2 l_4 r_2 hpl hm h22 => ?_)
     unfold yt at hm
     refine jh (jr (jj Y Y (jj Y Y (Kc Y Y Y (jq ?_)))))
     refine js Y (fun h23 => ?_) (fun h23 => ?_)
     ·replace hm := ifD h23 hm
      refine jt (ja (jh (jl (jh ?_))))
      refine j3 none (.free 0 (.free 1 (.free 2 (.hoist 3 (.free 4 (.free 5 (.free 6 (.hoist 7 (.free 8 .done))))))))) _ Y (by decide +kernel) (fun w k hh => hh.draw k) (fun w hh => hh) ?_
      refine qD Y Y Y (qD Y Y Y ?_)
      obtain ⟨t43, h24, hm⟩ := bindO hm
      refine jp Y Y Y Y (fun w _ => qM h24 (runUnderlying22 w) (sizeOf3 w) Y Y hna3 hqa3) (jy Y Y Y Y (fun w hh => qy RI 0 h24 (isAgg3 w) Y (hh.seg 3 Y) Y (Nat.add_zero _).symm) (qD Y Y Y (qD Y Y Y ?_)))
      obtain ⟨t47, h25, hm⟩ := bindO hm
      refine jp Y Y Y Y (fun w _ => qM h25 (runUnderlying22 w) (sizeOf3 w) Y Y hna3 hqa3) (jy Y Y Y Y (fun w hh => qy RI 0 h25 (isAgg3 w) Y (hh.seg 3 Y) Y (Nat.add_zero _).symm) (jp Y Y Y Y (fun _ _ => Jw Y Y) (jH (ja ?_))))
      refine js Y (fun h26 => ?_) (fun h26 => ?_)
      ·replace hm := ifD h26 hm
       refine jr (jo Y Y (jo Y Y (jq (jv (jz (je (je ?_)))))))
       refine jz ?_
       obtain rfl := sj hm
       have hbo := h22 _ Y
       subst hbo
       refine je ?_
       replace hm := ocR h21
       refine jz (je (je (jz ?_)))
       obtain rfl := sj hm
       have hbo := h18 _ Y
       subst hbo
       refine je ?_
       replace hm := ocR h17
       refine je ?_
       obtain rfl := sj hm
       refine jm Y (fun w hh => (.tmp Y (.tmp Y .nil))) (fun w hh => ⟨(), rfl, trivial, hh.se [] [] 4 Y Y Y rfl⟩)
      replace hm := ifE h26 hm
      refine jt (jw (ja (jg (jj Y Y ?_))))
      obtain ⟨t40, h27, hm⟩ := bindO hm
      refine JV h27 Y Y Y (jo Y Y (jx ?_))
      obtain rfl := sj hm
      refine ja ?_
      exact jA _ () Y (trivial) (sE Y) (fun w hh => hh)
     replace hm := ifE h23 hm
     refine jV (ji (ji (jC ?_)))
     obtain rfl := sj hm
     have hbo := h22 _ Y
     subst hbo
     exact jk () (Y) (sE Y) (fun w hh => hh)
    intro j_2 hj
    have h28 := hj
    subst h28
    replace hm := ocL h21
    refine jw (ja (jg (jj Y Y ?_)))
    obtain ⟨t35, h29, hm⟩ := bindO hm
    refine JV h29 Y Y Y (jo Y Y (jx ?_))
    obtain rfl := sj hm
    refine ja ?_
    exact jA _ () Y (trivial) (sE Y) (fun w hh => hh)
   replace hm := ifE h19 hm
   refine jV (ji (ji (jC ?_)))
   obtain rfl := sj hm
   have hbo := h18 _ Y
   subst hbo
   exact jk () (Y) (sE Y) (fun w hh => hh)
  intro j_1 hj
  have h30 := hj
  subst h30
  replace hm := ocL h17
  refine ja (jh (j3 none (.hoist 0 (.free 1 (.one 2 (.one 3 (.free 4 (.free 5 (.free 6 .done))))))) _ Y (by decide +kernel) (fun w k hh => hh.draw k) (fun w hh => hh) (jy Y Y Y Y (fun w hh => jO (vs := [_, _, _, _, _]) (isAgg33 w) (sizeOf33 w) Y (hh.cells 0 Y Y)) (qD Y Y Y (jD Y ?_)))))
  obtain ⟨t52, h31, hm⟩ := bindO hm
  refine jd [] [] Y Y Y Y Y Y Y call123 (fun w hh => ZU sights1 qa3 na3 ca3 w (HV.callee (S0 := []) (vs0 := []) hh (roR hh 3 Y roN)) hna3 hqa3 hla3 h31) (fun l_5 h32 => ?_)
  refine jn (fun w hh => hh) (jD Y ?_)
  obtain ⟨t53, h33, hm⟩ := bindO hm
  refine jd [] [] Y Y Y Y Y Y Y call23 (fun w hh => zu c0 t52 qa0 na0 ca0 qa1 na1 ca1 qa2 na2 ca2 w (HV.callee (S0 := []) (vs0 := []) hh (roR hh 0 Y (roR hh 1 Y (roR hh 2 Y roN)))) hna0 hqa0 hla0 hna1 hqa1 hla1 hna2 hqa2 hla2 h33) (fun l_6 h34 => ?_)
  refine jn (fun w hh => hh) (jp Y Y Y Y (fun _ _ => QI Y Y) (jp Y Y Y Y (fun _ _ => kp Y) (jp Y Y Y Y (fun _ _ => kp Y) (jH (ja (jv ?_))))))
  obtain rfl := sj hm
  refine jm Y (fun w hh => (.tmp Y (.tmp Y .nil))) (fun w hh => ⟨(), rfl, trivial, hh.se [] [] 4 Y Y Y rfl⟩)
structure yO where
  n0 : Int
  i4 : Int
  out3 : (List Int)
def KS  (s : yO) : Option (yO ⊕ (List Int)) :=
 if 0 < s.n0 then
 (((remc s.n0 2).bind fun t10 =>
 if t10 = 1 then
 ((appc 8 s.out3 [s.i4]).bind fun t15 =>
 some t15) else
 (some s.out3)).bind fun o_1 =>
 (quoc s.n0 2).bind fun t17 =>
 (addc s.i4 1).bind fun t8 =>
 some (.inl (⟨t17, t8, o_1⟩ : yO))) else
 (some (.inr s.out3))
def qS (n0 : Int) : Option (List Int) :=
 (iterM FU (KS) (⟨n0, 0, []⟩ : yO)).bind fun o =>
 some o
theorem Qu (n0 : Int)  (w : World) (hw : HV w (keys [] []) [] [] [] w)  {res : (List Int)} (hm : qS n0 = some res) :
    Calls Tryz.prog 124 #[.int .i64 n0] w (fun en w' => ∃ l : VL, en = .returned (sL l) ∧ (VOK 1 l.n l.cap (RI.enc res) l.sp l.q ∧ (l.q = none ↔ res = [])) ∧ HV w (keys [] []) [] [vL 3 l (RI.enc res)] [] w') := by
  unfold qS at hm
  refine qL func124 Y ntmps124 Y (e := [(0, _)]) Y hw (jr (jc Y Y Y (fun _ _ => qr Y) (kY (jc Y Y Y (fun _ _ => qr Y) (jq (jh (jr ?_)))))))
  refine jo Y Y (jq (zK 3 ?_))
  obtain ⟨o, h3, h4⟩ := bindO hm
  refine jM (ι := VL) (fun l => VOK 1 l.n l.cap (RI.enc o) l.sp l.q ∧ (l.q = none ↔ o = [])) (fun l => [(3, sL l)]) (fun l => []) (fun l => [vL 3 l (RI.enc o)]) ?_ ?_
  ·replace hm := h3
   refine jl ?_
   refine jK (ι := VL) hm (fun s l_1 => VOK 1 l_1.n l_1.cap (RI.enc s.out3) l_1.sp l_1.q ∧ (l_1.q = none ↔ s.out3 = [])) (fun s l_1 => [(0, .int .i64 s.n0), (3, sL l_1), (4, .int .i64 s.i4)]) (fun s l_1 => []) (fun s l_1 => [vL 3 l_1 (RI.enc s.out3)]) ⟨none, 0, 0, []⟩ (⟨VOK.nil, nieN⟩) (sE Y) (fun w hh => hh) (fun s l_1 r hpl hm h9 => ?_)
   obtain ⟨h7, h8⟩ := hpl
   unfold KS at hm
   refine jh (jr (jj Y Y (jc Y Y Y (fun _ _ => QI Y Y) (jq ?_))))
   refine js Y (fun h10 => ?_) (fun h10 => ?_)
   ·replace hm := ifD h10 hm
    refine jt (ja (jh (jl (jh ?_))))
    obtain ⟨o_1, h11, h12⟩ := bindO hm
    refine jM (ι := VL) (fun l_2 => VOK 1 l_2.n l_2.cap (RI.enc o_1) l_2.sp l_2.q ∧ (l_2.q = none ↔ o_1 = [])) (fun l_2 => [(0, .int .i64 s.n0), (3, sL l_2), (4, .int .i64 s.i4)]) (fun l_2 => []) (fun l_2 => [vL 3 l_2 (RI.enc o_1)]) ?_ ?_
    ·replace hm := h11
     refine jr (jj Y Y ?_)
     obtain ⟨t10, h15, hm⟩ := bindO hm
     refine jc Y Y Y (fun _ _ => jb5 h15 Y Y) (jc Y Y Y (fun _ _ => Jw Y Y) (jq ?_))
     refine js Y (fun h16 => ?_) (fun h16 => ?_)
     ·replace hm := ifD h16 hm
      refine jg (jj Y Y (jj Y Y ?_))
      refine qE RI [s.i4] (ps := [(0, _)]) (cells := [_]) (fun w => runUnderlying22 w) (fun w => sizeOf3 w) (fun w => zeroValue3 w) Y Y Y Y Y Y Y Y (fun L h17 => ?_)
      obtain ⟨t15, h18, hm⟩ := bindO hm
      refine Jo RI 1 h18 underlying22 QG Y Y Y Y Y h7 Y Y (vlen RI h17 Y) (AOK.q (vne h17)) (fun w hh => (hh.vsegA 0 Y h17)) Y (fun L_1 h19 h19n => ?_)
      refine kx (S' := []) (vs' := [_, _]) [] [0, 1] 0 Y Y Y Y (jo Y Y (jx ?_))
      obtain rfl := sj hm
      exact jk L_1 (⟨h19, (h19n h8)⟩) (sE Y) (hsE [] [1] 0 Y Y Y Y)
     replace hm := ifE h16 hm
     refine jt ?_
     obtain rfl := sj hm
     exact jk l_1 (⟨h7, h8⟩) (sE Y) (fun w hh => hh)
    intro l_2 hj
    obtain ⟨h13, h14⟩ := hj
    replace hm := h12
    refine ja (jg (jj Y Y ?_))
    obtain ⟨t17, h20, hm⟩ := bindO hm
    refine jc Y Y Y (fun _ _ => jb4 h20 Y Y) (jo Y Y (jx (jw (ja (jg (jj Y Y ?_))))))
    obtain ⟨t8, h21, hm⟩ := bindO hm
    refine JV h21 Y Y Y (jo Y Y (jx ?_))
    obtain rfl := sj hm
    refine ja ?_
    exact jA _ l_2 Y (⟨h13, h14⟩) (sE Y) (fun w hh => hh)
   replace hm := ifE h10 hm
   refine jV (ji (ji (jC ?_)))
   obtain rfl := sj hm
   have hbo := h9 _ Y
   subst hbo
   exact jk l_1 (⟨h7, h8⟩) (sE Y) (fun w hh => hh)
  intro l hj
  obtain ⟨h5, h6⟩ := hj
  replace hm := h4
  refine ja (jr (jj Y Y (jo Y Y (jq (jv ?_)))))
  obtain rfl := sj hm
  refine jm Y (fun w hh => (.tmp Y .nil)) (fun w hh => ⟨l, rfl, ⟨h5, h6⟩, hh⟩)
def Qf (a0 : (List Int)) (b1 : (List Int)) (s : Int) : Option (Int ⊕ (Unit ⊕ Bool)) :=
 if s < (a0.length : Int) then
 ((ix a0 s).bind fun t24 =>
 (ix b1 s).bind fun t28 =>
 if t24 = t28 then
 ((addc s 1).bind fun t21 =>
 some (.inl t21)) else
 ((ix a0 s).bind fun t33 =>
 (ix b1 s).bind fun t37 =>
 some (.inr (.inr (decide (t33 < t37)))))) else
 (some (.inr (.inl ())))
def yC (a0 : (List Int)) (b1 : (List Int)) : Option Bool :=
 if (a0.length : Int) = (b1.length : Int) then
 ((iterM FU (Qf a0 b1) 0).bind fun o =>
 oc o (fun j => some false) (fun r_1 => some r_1)) else
 (some (decide ((a0.length : Int) < (b1.length : Int))))
theorem QR (a0 : (List Int)) (b1 : (List Int)) (qa0 : Option Addr) (na0 ca0 : Nat) (qa1 : Option Addr) (na1 ca1 : Nat) (w : World) (hw : HV w (keys [] []) [] [] [(aB qa0, aO qa0, RI.enc a0), (aB qa1, aO qa1, RI.enc b1)] w) (hna0 : a0.length = na0) (hqa0 : AOK na0 qa0) (hla0 : na0 ≤ ca0) (hna1 : b1.length = na1) (hqa1 : AOK na1 qa1) (hla1 : na1 ≤ ca1) {res : Bool} (hm : yC a0 b1 = some res) :
    Calls Tryz.prog 125 #[.slice qa0 na0 ca0, .slice qa1 na1 ca1] w (fun en w' => ∃ l : Unit, en = .returned (.bool res) ∧ (True) ∧ HV w (keys [] []) [] [] [] w') := by
  unfold yC at hm
  refine qL func125 Y ntmps125 Y (e := [(0, _), (1, _)]) Y hw (jr (jo Y Y (jq (jh (jr (jj Y Y (jc Y Y Y (fun w _ => jJ hna0 (runUnderlying22 w) Y) ?_)))))))
  refine jj Y Y (jc Y Y Y (fun w _ => jJ hna1 (runUnderlying22 w) Y) (jc Y Y Y (fun _ _ => Kw Y Y) (jq ?_)))
  refine js Y (fun h1 => ?_) (fun h1 => ?_)
  ·replace hm := ifF (of_ndec_true h1) hm
   refine jr (jj Y Y (jc Y Y Y (fun w _ => jJ hna0 (runUnderlying22 w) Y) (jj Y Y (jc Y Y Y (fun w _ => jJ hna1 (runUnderlying22 w) Y) (Kc Y Y Y (jo Y Y (jq ?_)))))))
   refine jv (je ?_)
   obtain rfl := sj hm
   refine jm Y (fun w hh => (.tmp Y .nil)) (fun w hh => ⟨(), rfl, trivial, hh.se [] [] 2 Y Y Y rfl⟩)
  replace hm := ifT (of_ndec_false h1) hm
  refine jt (ja (jh (jr (jo Y Y (jq ?_)))))
  obtain ⟨o, h2, h3⟩ := bindO hm
  refine jM (ι := Unit) (fun j => o = .inl j) (fun j => []) (fun j => []) (fun j => []) ?_ ?_
  ·replace hm := h2
   refine jl ?_
   refine jK (ι := Unit) hm (fun s l => True) (fun s l => [(0, .slice qa0 na0 ca0), (1, .slice qa1 na1 ca1), (5, .int .i64 s)]) (fun s l => []) (fun s l => []) () (trivial) (sE Y) (fun w hh => hh) (fun s l r hpl hm h4 => ?_)
   unfold Qf at hm
   refine jh (jr (jj Y Y (jj Y Y (jc Y Y Y (fun w _ => jJ hna0 (runUnderlying22 w) Y) (Kc Y Y Y (jq ?_))))))
   refine js Y (fun h5 => ?_) (fun h5 => ?_)
   ·replace hm := ifD h5 hm
    refine jt (ja (jh (jl (jh ?_))))
    refine j3 none (.free 0 (.free 1 (.free 2 (.hoist 3 (.free 4 (.free 5 (.free 6 (.hoist 7 (.free 8 .done))))))))) _ Y (by decide +kernel) (fun w k hh => hh.draw k) (fun w hh => hh) ?_
    refine qD Y Y Y (qD Y Y Y ?_)
    obtain ⟨t24, h6, hm⟩ := bindO hm
    refine jp Y Y Y Y (fun w _ => qM h6 (runUnderlying22 w) (sizeOf3 w) Y Y hna0 hqa0) (jy Y Y Y Y (fun w hh => qy RI 0 h6 (isAgg3 w) Y (hh.seg 0 Y) Y (Nat.add_zero _).symm) (qD Y Y Y (qD Y Y Y ?_)))
    obtain ⟨t28, h7, hm⟩ := bindO hm
    refine jp Y Y Y Y (fun w _ => qM h7 (runUnderlying22 w) (sizeOf3 w) Y Y hna1 hqa1) (jy Y Y Y Y (fun w hh => qy RI 0 h7 (isAgg3 w) Y (hh.seg 1 Y) Y (Nat.add_zero _).symm) (jp Y Y Y Y (fun _ _ => Kw Y Y) (jH (ja ?_))))
    refine js Y (fun h8 => ?_) (fun h8 => ?_)
    ·replace hm := ifF (of_ndec_true h8) hm
     refine jh ?_
     refine j3 none (.free 0 (.free 1 (.free 2 (.hoist 3 (.free 4 (.free 5 (.free 6 (.hoist 7 (.free 8 (.free 9 .done)))))))))) _ Y (by decide +kernel) (fun w k hh => hh.draw k) (fun w hh => hh) ?_
     refine qD Y Y Y (qD Y Y Y ?_)
     obtain ⟨t33, h9, hm⟩ := bindO hm
     refine jp Y Y Y Y (fun w _ => qM h9 (runUnderlying22 w) (sizeOf3 w) Y Y hna0 hqa0) (jy Y Y Y Y (fun w hh => qy RI 0 h9 (isAgg3 w) Y (hh.seg 0 Y) Y (Nat.add_zero _).symm) (qD Y Y Y (qD Y Y Y ?_)))
     obtain ⟨t37, h10, hm⟩ := bindO hm
     refine jp Y Y Y Y (fun w _ => qM h10 (runUnderlying22 w) (sizeOf3 w) Y Y hna1 hqa1) (jy Y Y Y Y (fun w hh => qy RI 0 h10 (isAgg3 w) Y (hh.seg 1 Y) Y (Nat.add_zero _).symm) (jp Y Y Y Y (fun _ _ => jbL Y Y) (jp Y Y Y Y (fun _ _ => kp Y) (jH (ja (jv (jz ?_)))))))
     refine je (je (jz ?_))
     obtain rfl := sj hm
     have hbo := h4 _ Y
     subst hbo
     refine je ?_
     replace hm := ocR h3
     refine je ?_
     obtain rfl := sj hm
     refine jm Y (fun w hh => (.tmp Y .nil)) (fun w hh => ⟨(), rfl, trivial, hh.se [] [] 2 Y Y Y rfl⟩)
    replace hm := ifT (of_ndec_false h8) hm
    refine jt (jw (ja (jg (jj Y Y ?_))))
    obtain ⟨t21, h11, hm⟩ := bindO hm
    refine JV h11 Y Y Y (jo Y Y (jx ?_))
    obtain rfl := sj hm
    refine ja ?_
    exact jA _ () Y (trivial) (sE Y) (fun w hh => hh)
   replace hm := ifE h5 hm
   refine jV (ji (ji (jC ?_)))
   obtain rfl := sj hm
   have hbo := h4 _ Y
   subst hbo
   exact jk () (Y) (.nil) (fun w hh => hh)
  intro j hj
  have h12 := hj
  subst h12
  replace hm := ocL h3
  refine ja (jr (jo Y Y (jq (jv ?_))))
  obtain rfl := sj hm
  refine jm Y (fun w hh => (.tmp Y .nil)) (fun w hh => ⟨(), rfl, trivial, hh.se [] [] 2 Y Y Y rfl⟩)
structure Ka where
  r1 : Bool
  r0 : (List Int)
structure zD where
  n5 : Int
  best4 : (List Int)
def qv (c0 : Channel) (s : zD) : Option (zD ⊕ (List Int)) :=
 (jZ c0).bind fun t9 =>
 if s.n5 ≤ t9 then
 (((qS s.n5).bind fun t14 =>
 (if (s.best4.isEmpty) = true then
 ((j6 c0 s.n5).bind fun t25 =>
 some (decide (t25 = 0))) else
 ((yC t14 s.best4).bind fun t20 =>
 if t20 = true then
 ((j6 c0 s.n5).bind fun t25_1 =>
 some (decide (t25_1 = 0))) else
 (some false))).bind fun o_2 =>
 if o_2 = true then
 (some t14) else
 (some s.best4)).bind fun o_1 =>
 (addc s.n5 1).bind fun t12 =>
 some (.inl (⟨t12, o_1⟩ : zD))) else
 (some (.inr s.best4))
def zt (c0 : Channel) : Option Ka :=
 (iterM FU (qv c0) (⟨1, []⟩ : zD)).bind fun o =>
 some (⟨(!(o.isEmpty)), o⟩ : Ka)
theorem Zw (c0 : Channel) (qa0 : Option Addr) (na0 ca0 : Nat) (qa1 : Option Addr) (na1 ca1 : Nat) (qa2 : Option Addr) (na2 ca2 : Nat) (w : World) (hw : HV w (keys [] []) [] [] [(aB qa0, aO qa0, RI.enc c0.fords), (aB qa1, aO qa1, RSa.enc c0.sands), (aB qa2, aO qa2, RSi.enc c0.sights)] w) (hna0 : c0.fords.length = na0) (hqa0 : AOK na0 qa0) (hla0 : na0 ≤ ca0) (hna1 : c0.sands.length = na1) (hqa1 : AOK na1 qa1) (hla1 : na1 ≤ ca1) (hna2 : c0.sights.length = na2) (hqa2 : AOK na2 qa2) (hla2 : na2 ≤ ca2) {res : Ka} (hm : zt c0 = some res) :
    Calls Tryz.prog 49 #[.agg #[.int .i64 c0.cells, .int .i64 c0.tides, .slice qa0 na0 ca0, .slice qa1 na1 ca1, .slice qa2 na2 ca2]] w (fun en w' => ∃ l : VL, en = .returned (.tuple #[sL l, .bool res.r1]) ∧ (VOK 1 l.n l.cap (RI.enc res.r0) l.sp l.q ∧ (l.q = none ↔ res.r0 = [])) ∧ HV w (keys [] []) [] [vL 3 l (RI.enc res.r0)] [] w') := by
  unfold zt at hm
  refine qL func49 Y ntmps49 Y (e := [(0, _)]) Y hw (jr ?_)
  refine jG Y Y (fun b h3 => ?_)
  refine jc Y Y Y (fun _ _ => qr Y) (jo Y Y (kY (jc Y Y Y (fun _ _ => qr Y) (jq (jh (jr (jo Y Y ?_)))))))
  refine jq (zK 3 ?_)
  obtain ⟨o, h4, h5⟩ := bindO hm
  refine jM (ι := VL) (fun l => VOK 1 l.n l.cap (RI.enc o) l.sp l.q ∧ (l.q = none ↔ o = [])) (fun l => [(4, sL l)]) (fun l => [kc b #[.int .i64 c0.cells, .int .i64 c0.tides, .slice qa0 na0 ca0, .slice qa1 na1 ca1, .slice qa2 na2 ca2] 33]) (fun l => [vL 3 l (RI.enc o)]) ?_ ?_
  ·replace hm := h4
   refine jl ?_
   refine jK (ι := VL) hm (fun s l_1 => VOK 1 l_1.n l_1.cap (RI.enc s.best4) l_1.sp l_1.q ∧ (l_1.q = none ↔ s.best4 = [])) (fun s l_1 => [(1, ptr b 0), (4, sL l_1), (5, .int .i64 s.n5)]) (fun s l_1 => [kc b #[.int .i64 c0.cells, .int .i64 c0.tides, .slice qa0 na0 ca0, .slice qa1 na1 ca1, .slice qa2 na2 ca2] 33]) (fun s l_1 => [vL 3 l_1 (RI.enc s.best4)]) ⟨none, 0, 0, []⟩ (⟨VOK.nil, nieN⟩) (sE Y) (fun w hh => hh) (fun s l_1 r hpl hm h10 => ?_)
   obtain ⟨h8, h9⟩ := hpl
   unfold qv at hm
   refine jh (jr (jj Y Y (JC [_, _, _, _, _] 0 isAgg33 sizeOf33 Y Y Y Y ?_)))
   obtain ⟨t9, h11, hm⟩ := bindO hm
   refine jd [] [] Y Y Y Y Y Y Y call24 (fun w hh => yN c0 qa0 na0 ca0 qa1 na1 ca1 qa2 na2 ca2 w (HV.callee (S0 := []) (vs0 := []) hh (roR hh 0 Y (roR hh 1 Y (roR hh 2 Y roN)))) hna0 hqa0 hla0 hna1 hqa1 hla1 hna2 hqa2 hla2 h11) (fun l_2 h12 => ?_)
   refine jc Y Y Y (fun _ _ => jak Y Y) (jq ?_)
   refine js Y (fun h13 => ?_) (fun h13 => ?_)
   ·replace hm := ifD h13 hm
    refine jt (ja (jh ?_))
    obtain ⟨o_1, h14, h15⟩ := bindO hm
    refine jM (ι := VL) (fun l_3 => VOK 1 l_3.n l_3.cap (RI.enc o_1) l_3.sp l_3.q ∧ (l_3.q = none ↔ o_1 = [])) (fun l_3 => [(1, ptr b 0), (4, sL l_3), (5, .int .i64 s.n5)]) (fun l_3 => [kc b #[.int .i64 c0.cells, .int .i64 c0.tides, .slice qa0 na0 ca0, .slice qa1 na1 ca1, .slice qa2 na2 ca2] 33]) (fun l_3 => [vL 3 l_3 (RI.enc o_1)]) ?_ ?_
    ·replace hm := h14
     refine jl (jr (jj Y Y ?_))
     obtain ⟨t14, h18, hm⟩ := bindO hm
     refine jd [] [] Y Y Y Y Y Y Y call124 (fun w hh => Qu s.n5 w (HV.callee (S0 := []) (vs0 := []) hh roN)  h18) (fun l_4 h19 => ?_)
     obtain ⟨h20, h21⟩ := h19
     refine kx (S' := [_]) (vs' := [_, _]) [0] [0, 1] 0 Y Y Y Y (jo Y Y (jq (jh ?_)))
     obtain ⟨o_2, h22, h23⟩ := bindO hm
     refine jM (ι := Unit) (fun l_5 => True) (fun l_5 => [(1, ptr b 0), (4, sL l_1), (5, .int .i64 s.n5), (6, sL l_4), (27, .bool o_2)]) (fun l_5 => [kc b #[.int .i64 c0.cells, .int .i64 c0.tides, .slice qa0 na0 ca0, .slice qa1 na1 ca1, .slice qa2 na2 ca2] 33]) (fun l_5 => [vL 3 l_1 (RI.enc s.best4), vL 3 l_4 (RI.enc t14)]) ?_ ?_
     ·replace hm := h22
      refine jg (jj Y Y (jc Y Y Y (fun w _ => jbk h9 (runUnderlying22 w) Y Y) (jj Y Y ?_)))
      refine jW 17 Y (fun h24 => ?_) (fun h24 => ?_)
      ·replace hm := ifT (h24) hm
       refine g_k Y Y Y Y (g_k Y Y Y Y (g_k Y Y Y Y (zo Y Y Y (jj Y Y (jb Y Y (JC [_, _, _, _, _] 0 isAgg33 sizeOf33 Y Y Y Y (jb Y Y ?_)))))))
       refine jj Y Y (jb Y Y ?_)
       obtain ⟨t25, h25, hm⟩ := bindO hm
       refine jd [] [] Y Y Y Y Y Y Y call23 (fun w hh => zu c0 s.n5 qa0 na0 ca0 qa1 na1 ca1 qa2 na2 ca2 w (HV.callee (S0 := []) (vs0 := []) hh (roR hh 0 Y (roR hh 1 Y (roR hh 2 Y roN)))) hna0 hqa0 hla0 hna1 hqa1 hla1 hna2 hqa2 hla2 h25) (fun l_6 h26 => ?_)
       refine jb Y Y (jc Y Y Y (fun _ _ => Jw Y Y) (zo Y Y Y (jx ?_)))
       obtain rfl := sj hm
       exact jk () (trivial) (sE Y) (hsE [0] [1, 0] 0 Y Y Y Y)
      replace hm := ifN h24 hm
      refine jb Y Y (jj Y Y (jb Y Y (jj Y Y (jb Y Y ?_))))
      obtain ⟨t20, h27, hm⟩ := bindO hm
      refine jd [] [] Y Y Y Y Y Y Y call125 (fun w hh => QR t14 s.best4 (qA l_4.q) l_4.n l_4.cap (qA l_1.q) l_1.n l_1.cap w (HV.callee (S0 := []) (vs0 := []) hh (roC (hh.vsepA 0 Y h20) (roC (hh.vsepA 1 Y h8) roN))) (vlen RI h20 Y) (AOK.q (vne h20)) (h20).hle (vlen RI h8 Y) (AOK.q (vne h8)) (h8).hle h27) (fun l_7 h28 => ?_)
      refine yI Y Y Y (jj Y Y ?_)
      refine jW 22 Y (fun h29 => ?_) (fun h29 => ?_)
      ·replace hm := ifT (h29) hm
       refine jb Y Y (JC [_, _, _, _, _] 0 isAgg33 sizeOf33 Y Y Y Y (jb Y Y (jj Y Y (jb Y Y ?_))))
       obtain ⟨t25_1, h30, hm⟩ := bindO hm
       refine jd [] [] Y Y Y Y Y Y Y call23 (fun w hh => zu c0 s.n5 qa0 na0 ca0 qa1 na1 ca1 qa2 na2 ca2 w (HV.callee (S0 := []) (vs0 := []) hh (roR hh 0 Y (roR hh 1 Y (roR hh 2 Y roN)))) hna0 hqa0 hla0 hna1 hqa1 hla1 hna2 hqa2 hla2 h30) (fun l_8 h31 => ?_)
       refine jb Y Y (jc Y Y Y (fun _ _ => Jw Y Y) (zo Y Y Y (jx ?_)))
       obtain rfl := sj hm
       exact jk () (trivial) (sE Y) (hsE [0] [1, 0] 0 Y Y Y Y)
      replace hm := ifN h29 hm
      refine g_k Y Y Y Y (g_k Y Y Y Y (g_k Y Y Y Y (g_k Y Y Y Y (yI Y Y Y (jx ?_)))))
      obtain rfl := sj hm
      exact jk () (trivial) (sE Y) (hsE [0] [1, 0] 0 Y Y Y Y)
     intro l_5 hj
     replace hm := h23
     refine ja ?_
     refine js Y (fun h32 => ?_) (fun h32 => ?_)
     ·replace hm := ifT (h32) hm
      refine jg (jj Y Y (jo Y Y (jx (jw ?_))))
      obtain rfl := sj hm
      exact jk l_4 (⟨h20, h21⟩) (sE Y) (hsE [0] [1] 0 Y Y Y Y)
     replace hm := ifN h32 hm
     refine jt (jw ?_)
     obtain rfl := sj hm
     exact jk l_1 (⟨h8, h9⟩) (sE Y) (hsE [0] [0] 0 Y Y Y Y)
    intro l_3 hj
    obtain ⟨h16, h17⟩ := hj
    replace hm := h15
    refine ja (jg (jj Y Y ?_))
    obtain ⟨t12, h33, hm⟩ := bindO hm
    refine JV h33 Y Y Y (jo Y Y (jx ?_))
    obtain rfl := sj hm
    refine ja ?_
    exact jA _ l_3 Y (⟨h16, h17⟩) (sE Y) (fun w hh => hh)
   replace hm := ifE h13 hm
   refine jV (ji (ji (jC ?_)))
   obtain rfl := sj hm
   have hbo := h10 _ Y
   subst hbo
   exact jk l_1 (⟨h8, h9⟩) (sE Y) (fun w hh => hh)
  intro l hj
  obtain ⟨h6, h7⟩ := hj
  replace hm := h5
  refine ja (jr (jj Y Y (jj Y Y (jc Y Y Y (fun w _ => jbX h7 (runUnderlying22 w) Y Y) (jo Y Y (jo Y Y (jq ?_)))))))
  refine jv ?_
  obtain rfl := sj hm
  refine jm Y (fun w hh => (.tmp Y (.tmp Y .nil))) (fun w hh => ⟨l, rfl, ⟨h6, h7⟩, hh.se [] [0] 3 Y Y Y rfl⟩)
structure zI where
  found4 : Bool
  n5 : Int
  best3 : (List Int)
structure Qe where
  found4 : Bool
  best3 : (List Int)
def qt (c0 : Channel) (s : zI) : Option (zI ⊕ (List Int)) :=
 (jZ c0).bind fun t9 =>
 if s.n5 ≤ t9 then
 (((qS s.n5).bind fun t14 =>
 (if (!s.found4) = true then
 ((jZ c0).bind fun t25 =>
 (subc t25 s.n5).bind fun t27 =>
 (j6 c0 t27).bind fun t28 =>
 some (decide (0 < t28))) else
 ((yC t14 s.best3).bind fun t20 =>
 if t20 = true then
 ((jZ c0).bind fun t25_1 =>
 (subc t25_1 s.n5).bind fun t27_1 =>
 (j6 c0 t27_1).bind fun t28_1 =>
 some (decide (0 < t28_1))) else
 (some false))).bind fun o_2 =>
 if o_2 = true then
 (some (⟨true, t14⟩ : Qe)) else
 (some (⟨s.found4, s.best3⟩ : Qe))).bind fun o_1 =>
 (addc s.n5 1).bind fun t12 =>
 some (.inl (⟨o_1.found4, t12, o_1.best3⟩ : zI))) else
 (some (.inr s.best3))
def zs (c0 : Channel) : Option (List Int) :=
 (iterM FU (qt c0) (⟨false, 0, []⟩ : zI)).bind fun o =>
 some o
theorem Zs (c0 : Channel) (qa0 : Option Addr) (na0 ca0 : Nat) (qa1 : Option Addr) (na1 ca1 : Nat) (qa2 : Option Addr) (na2 ca2 : Nat) (w : World) (hw : HV w (keys [] []) [] [] [(aB qa0, aO qa0, RI.enc c0.fords), (aB qa1, aO qa1, RSa.enc c0.sands), (aB qa2, aO qa2, RSi.enc c0.sights)] w) (hna0 : c0.fords.length = na0) (hqa0 : AOK na0 qa0) (hla0 : na0 ≤ ca0) (hna1 : c0.sands.length = na1) (hqa1 : AOK na1 qa1) (hla1 : na1 ≤ ca1) (hna2 : c0.sights.length = na2) (hqa2 : AOK na2 qa2) (hla2 : na2 ≤ ca2) {res : (List Int)} (hm : zs c0 = some res) :
    Calls Tryz.prog 50 #[.agg #[.int .i64 c0.cells, .int .i64 c0.tides, .slice qa0 na0 ca0, .slice qa1 na1 ca1, .slice qa2 na2 ca2]] w (fun en w' => ∃ l : VL, en = .returned (sL l) ∧ (VOK 1 l.n l.cap (RI.enc res) l.sp l.q) ∧ HV w (keys [] []) [] [vL 3 l (RI.enc res)] [] w') := by
  unfold zs at hm
  refine qL func50 Y ntmps50 Y (e := [(0, _)]) Y hw (jr ?_)
  refine jG Y Y (fun b h2 => ?_)
  refine jc Y Y Y (fun _ _ => qr Y) (kY (jc Y Y Y (fun _ _ => qr Y) (kY (jo Y Y (jq (jh (jr ?_)))))))
  refine jo Y Y (jq (zK 3 ?_))
  obtain ⟨o, h3, h4⟩ := bindO hm
  refine jM (ι := VL) (fun l => VOK 1 l.n l.cap (RI.enc o) l.sp l.q) (fun l => [(3, sL l)]) (fun l => [kc b #[.int .i64 c0.cells, .int .i64 c0.tides, .slice qa0 na0 ca0, .slice qa1 na1 ca1, .slice qa2 na2 ca2] 33]) (fun l => [vL 3 l (RI.enc o)]) ?_ ?_
  ·replace hm := h3
   refine jl ?_
   refine jK (ι := VL) hm (fun s l_1 => VOK 1 l_1.n l_1.cap (RI.enc s.best3) l_1.sp l_1.q) (fun s l_1 => [(1, ptr b 0), (3, sL l_1), (4, .bool s.found4), (5, .int .i64 s.n5)]) (fun s l_1 => [kc b #[.int .i64 c0.cells, .int .i64 c0.tides, .slice qa0 na0 ca0, .slice qa1 na1 ca1, .slice qa2 na2 ca2] 33]) (fun s l_1 => [vL 3 l_1 (RI.enc s.best3)]) ⟨none, 0, 0, []⟩ (VOK.nil) (sE Y) (fun w hh => hh) (fun s l_1 r hpl hm h7 => ?_)
   have h6 := hpl
   unfold qt at hm
   refine jh (jr (jj Y Y (JC [_, _, _, _, _] 0 isAgg33 sizeOf33 Y Y Y Y ?_)))
   obtain ⟨t9, h8, hm⟩ := bindO hm
   refine jd [] [] Y Y Y Y Y Y Y call24 (fun w hh => yN c0 qa0 na0 ca0 qa1 na1 ca1 qa2 na2 ca2 w (HV.callee (S0 := []) (vs0 := []) hh (roR hh 0 Y (roR hh 1 Y (roR hh 2 Y roN)))) hna0 hqa0 hla0 hna1 hqa1 hla1 hna2 hqa2 hla2 h8) (fun l_2 h9 => ?_)
   refine jc Y Y Y (fun _ _ => jak Y Y) (jq ?_)
   refine js Y (fun h10 => ?_) (fun h10 => ?_)
   ·replace hm := ifD h10 hm
    refine jt (ja (jh ?_))
    obtain ⟨o_1, h11, h12⟩ := bindO hm
    refine jM (ι := VL) (fun l_3 => VOK 1 l_3.n l_3.cap (RI.enc o_1.best3) l_3.sp l_3.q) (fun l_3 => [(1, ptr b 0), (3, sL l_3), (4, .bool o_1.found4), (5, .int .i64 s.n5)]) (fun l_3 => [kc b #[.int .i64 c0.cells, .int .i64 c0.tides, .slice qa0 na0 ca0, .slice qa1 na1 ca1, .slice qa2 na2 ca2] 33]) (fun l_3 => [vL 3 l_3 (RI.enc o_1.best3)]) ?_ ?_
    ·replace hm := h11
     refine jl (jr (jj Y Y ?_))
     obtain ⟨t14, h14, hm⟩ := bindO hm
     refine jd [] [] Y Y Y Y Y Y Y call124 (fun w hh => Qu s.n5 w (HV.callee (S0 := []) (vs0 := []) hh roN)  h14) (fun l_4 h15 => ?_)
     obtain ⟨h16, h17⟩ := h15
     refine kx (S' := [_]) (vs' := [_, _]) [0] [0, 1] 0 Y Y Y Y (jo Y Y (jq (jh ?_)))
     obtain ⟨o_2, h18, h19⟩ := bindO hm
     refine jM (ι := Unit) (fun l_5 => True) (fun l_5 => [(1, ptr b 0), (3, sL l_1), (4, .bool s.found4), (5, .int .i64 s.n5), (6, sL l_4), (30, .bool o_2)]) (fun l_5 => [kc b #[.int .i64 c0.cells, .int .i64 c0.tides, .slice qa0 na0 ca0, .slice qa1 na1 ca1, .slice qa2 na2 ca2] 33]) (fun l_5 => [vL 3 l_1 (RI.enc s.best3), vL 3 l_4 (RI.enc t14)]) ?_ ?_
     ·replace hm := h18
      refine j3 none (.free 0 (.free 1 (.free 2 (.free 3 (.free 4 (.one 5 (.free 6 (.free 7 (.hoist 8 (.hoist 9 (.free 11 (.one 10 (.free 12 (.one 13 (.free 14 (.free 15 .done)))))))))))))))) _ Y (by decide +kernel) (fun w k hh => hh.draw k) (fun w hh => hh) ?_
      refine qD Y Y Y (jp Y Y Y Y (fun _ _ => zJ Y) (qD Y Y Y ?_))
      refine jW 17 Y (fun h20 => ?_) (fun h20 => ?_)
      ·replace hm := ifT (h20) hm
       refine jE Y Y Y Y Y Y Y (jE Y Y Y Y Y Y Y (jD Y (g_k Y Y Y Y (jn (fun w hh => hh) (jp Y Y Y Y (fun _ _ => JU Y Y) (qD Y Y Y (k8 Y Y Y Y Y Y (fun w hh => jO (vs := [_, _, _, _, _]) (isAgg33 w) (sizeOf33 w) Y (hh.cells 0 Y Y)) ?_)))))))
       refine k8 Y Y Y Y Y Y (fun w hh => jO (vs := [_, _, _, _, _]) (isAgg33 w) (sizeOf33 w) Y (hh.cells 0 Y Y)) (jN Y Y Y Y Y Y (fun _ _ => kd Y) (jD Y (jb Y Y ?_)))
       obtain ⟨t25, h21, hm⟩ := bindO hm
       refine jd [] [] Y Y Y Y Y Y Y call24 (fun w hh => yN c0 qa0 na0 ca0 qa1 na1 ca1 qa2 na2 ca2 w (HV.callee (S0 := []) (vs0 := []) hh (roR hh 0 Y (roR hh 1 Y (roR hh 2 Y roN)))) hna0 hqa0 hla0 hna1 hqa1 hla1 hna2 hqa2 hla2 h21) (fun l_6 h22 => ?_)
       refine jn (fun w hh => hh) ?_
       obtain ⟨t27, h23, hm⟩ := bindO hm
       refine jN Y Y Y Y Y Y (fun _ _ => Jm h23 Y Y) (jD Y (jb Y Y ?_))
       obtain ⟨t28, h24, hm⟩ := bindO hm
       refine jd [] [] Y Y Y Y Y Y Y call23 (fun w hh => zu c0 t27 qa0 na0 ca0 qa1 na1 ca1 qa2 na2 ca2 w (HV.callee (S0 := []) (vs0 := []) hh (roR hh 0 Y (roR hh 1 Y (roR hh 2 Y roN)))) hna0 hqa0 hla0 hna1 hqa1 hla1 hna2 hqa2 hla2 h24) (fun l_7 h25 => ?_)
       refine jn (fun w hh => hh) (jN Y Y Y Y Y Y (fun _ _ => QI Y Y) (jp Y Y Y Y (fun _ _ => JU Y Y) (jH ?_)))
       obtain rfl := sj hm
       exact jk () (trivial) (sE Y) (hsE [0] [1, 0] 0 Y Y Y Y)
      replace hm := ifN h20 hm
      refine jN Y Y Y Y Y Y (fun _ _ => kd Y) (jN Y Y Y Y Y Y (fun _ _ => kd Y) (jD Y (jb Y Y ?_)))
      obtain ⟨t20, h26, hm⟩ := bindO hm
      refine jd [] [] Y Y Y Y Y Y Y call125 (fun w hh => QR t14 s.best3 (qA l_4.q) l_4.n l_4.cap (qA l_1.q) l_1.n l_1.cap w (HV.callee (S0 := []) (vs0 := []) hh (roC (hh.vsepA 0 Y h16) (roC (hh.vsepA 1 Y h6) roN))) (vlen RI h16 Y) (AOK.q (vne h16)) (h16).hle (vlen RI h6 Y) (AOK.q (vne h6)) (h6).hle h26) (fun l_8 h27 => ?_)
      refine jn (fun w hh => hh) (jp Y Y Y Y (fun _ _ => zP Y Y) (qD Y Y Y ?_))
      refine jW 22 Y (fun h28 => ?_) (fun h28 => ?_)
      ·replace hm := ifT (h28) hm
       refine k8 Y Y Y Y Y Y (fun w hh => jO (vs := [_, _, _, _, _]) (isAgg33 w) (sizeOf33 w) Y (hh.cells 0 Y Y)) (k8 Y Y Y Y Y Y (fun w hh => jO (vs := [_, _, _, _, _]) (isAgg33 w) (sizeOf33 w) Y (hh.cells 0 Y Y)) (jN Y Y Y Y Y Y (fun _ _ => kd Y) (jD Y (jb Y Y ?_))))
       obtain ⟨t25_1, h29, hm⟩ := bindO hm
       refine jd [] [] Y Y Y Y Y Y Y call24 (fun w hh => yN c0 qa0 na0 ca0 qa1 na1 ca1 qa2 na2 ca2 w (HV.callee (S0 := []) (vs0 := []) hh (roR hh 0 Y (roR hh 1 Y (roR hh 2 Y roN)))) hna0 hqa0 hla0 hna1 hqa1 hla1 hna2 hqa2 hla2 h29) (fun l_9 h30 => ?_)
       refine jn (fun w hh => hh) ?_
       obtain ⟨t27_1, h31, hm⟩ := bindO hm
       refine jN Y Y Y Y Y Y (fun _ _ => Jm h31 Y Y) (jD Y (jb Y Y ?_))
       obtain ⟨t28_1, h32, hm⟩ := bindO hm
       refine jd [] [] Y Y Y Y Y Y Y call23 (fun w hh => zu c0 t27_1 qa0 na0 ca0 qa1 na1 ca1 qa2 na2 ca2 w (HV.callee (S0 := []) (vs0 := []) hh (roR hh 0 Y (roR hh 1 Y (roR hh 2 Y roN)))) hna0 hqa0 hla0 hna1 hqa1 hla1 hna2 hqa2 hla2 h32) (fun l_10 h33 => ?_)
       refine jn (fun w hh => hh) (jN Y Y Y Y Y Y (fun _ _ => QI Y Y) (jp Y Y Y Y (fun _ _ => JU Y Y) (jH ?_)))
       obtain rfl := sj hm
       exact jk () (trivial) (sE Y) (hsE [0] [1, 0] 0 Y Y Y Y)
      replace hm := ifN h28 hm
      refine yz Y Y Y Y Y Y Y (yz Y Y Y Y Y Y Y (jE Y Y Y Y Y Y Y (jD Y (g_k Y Y Y Y (jn (fun w hh => hh) (jE Y Y Y Y Y Y Y (jD Y ?_)))))))
      refine g_k Y Y Y Y (jn (fun w hh => hh) (jE Y Y Y Y Y Y Y (jp Y Y Y Y (fun _ _ => zP Y Y) (jH ?_))))
      obtain rfl := sj hm
      exact jk () (trivial) (sE Y) (hsE [0] [1, 0] 0 Y Y Y Y)
     intro l_5 hj
     replace hm := h19
     refine ja ?_
     refine js Y (fun h34 => ?_) (fun h34 => ?_)
     ·replace hm := ifT (h34) hm
      refine jg (jj Y Y (jo Y Y (jo Y Y (jx (jw ?_)))))
      obtain rfl := sj hm
      exact jk l_4 (h16) (sE Y) (hsE [0] [1] 0 Y Y Y Y)
     replace hm := ifN h34 hm
     refine jt (jw ?_)
     obtain rfl := sj hm
     exact jk l_1 (h6) (sE Y) (hsE [0] [0] 0 Y Y Y Y)
    intro l_3 hj
    have h13 := hj
    replace hm := h12
    refine ja (jg (jj Y Y ?_))
    obtain ⟨t12, h35, hm⟩ := bindO hm
    refine JV h35 Y Y Y (jo Y Y (jx ?_))
    obtain rfl := sj hm
    refine ja ?_
    exact jA _ l_3 Y (h13) (sE Y) (fun w hh => hh)
   replace hm := ifE h10 hm
   refine jV (ji (ji (jC ?_)))
   obtain rfl := sj hm
   have hbo := h7 _ Y
   subst hbo
   exact jk l_1 (h6) (sE Y) (fun w hh => hh)
  intro l hj
  have h5 := hj
  replace hm := h4
  refine ja (jr (jj Y Y (jo Y Y (jq (jv ?_)))))
  obtain rfl := sj hm
  refine jm Y (fun w hh => (.tmp Y .nil)) (fun w hh => ⟨l, rfl, h5, hh.se [] [0] 3 Y Y Y rfl⟩)
structure QE where
  own5 : Channel
  x6 : Channel
  mine7 : (List Int)
def yT : Plan := (.one 1 (.one 3 (.one 5 (.one 8 (.one 9 (.free 10 .done))))))
def y7 : Plan := (.one 3 (.one 5 (.one 8 (.one 9 (.free 10 .done)))))
def y4 : Plan := (.one 5 (.one 8 (.one 9 (.free 10 .done))))
def yV : Plan := (.one 6 (.one 8 (.one 9 (.free 10 .done))))
def yW : Plan := (.br (.alt 5 yV (.alt 6 y4 .nil)))
def y6 : Plan := (.br (.alt 3 yW (.alt 6 y7 .nil)))
def QB : Plan := (.br (.alt 1 y6 (.alt 6 yT .nil)))
def yS : Plan := (.one 7 (.one 8 (.one 9 (.free 10 .done))))
def yZ : Plan := (.br (.alt 5 yS (.alt 7 y4 .nil)))
def y5 : Plan := (.br (.alt 3 yZ (.alt 7 y7 .nil)))
def Qx : Plan := (.br (.alt 1 y5 (.alt 7 yT .nil)))
def Qv : Plan := (.br (.alt 6 yS (.alt 7 yV .nil)))
def Qy : Plan := (.br (.alt 5 Qv (.alt 6 yZ (.alt 7 yW .nil))))
def Qz : Plan := (.br (.alt 3 Qy (.alt 6 y5 (.alt 7 y6 .nil))))
structure JN where
  u12 : Int
  clash13 : (List Int)
  wrong14 : (List Int)
structure JQ where
  u12 : Int
  clash13 : (List Int)
def yo (c0 : Channel) (sights1 : (List Int)) : Option Bool :=
 ((z1 c0).bind fun t20 =>
 if t20 = true then
 (some true) else
 (if 12 < (sights1.length : Int) then
 (some true) else
 (if 5 < (c0.sights.length : Int) then
 (some (decide ((c0.sights.length : Int) ≤ 8))) else
 (some false)))).bind fun o =>
 if o = true then
 ((zx).bind fun t38 =>
 some t38) else
 (((Jy c0).bind fun t40 =>
 (zh c0).bind fun t42 =>
 (KL sights1).bind fun t44 =>
 some (⟨t40, t42, t44⟩ : QE)).bind fun o_1 =>
 (Kt o_1.own5 o_1.mine7).bind fun t48 =>
 (zq o_1.x6 sights1).bind fun t54 =>
 (if (!(t48.r0 == t54.r0)) = true then
 (some true) else
 (some (!decide (t48.r1 = t54.r1)))).bind fun o_2 =>
 if o_2 = true then
 (some false) else
 ((yB o_1.x6).bind fun t66 =>
 (if t66 = 0 then
 (((zt o_1.x6).bind fun t72 =>
 if (!t72.r1) = true then
 (some (⟨6, t72.r0⟩ : JQ)) else
 (some (⟨t66, t72.r0⟩ : JQ))).bind fun o_4 =>
 (zs o_1.x6).bind fun t78 =>
 some (⟨o_4.u12, o_4.clash13, t78⟩ : JN)) else
 (some (⟨t66, [], []⟩ : JN))).bind fun o_3 =>
 (Kx o_1.own5).bind fun t81 =>
 (JR o_1.own5).bind fun t86 =>
 (if t81.r1 = o_3.u12 then
 (if t86.r1 = t66 then
 ((yE t81.r0 o_3.clash13).bind fun t100 =>
 if t100 = true then
 ((yE t86.r0 o_3.wrong14).bind fun t105 =>
 if t105 = true then
 ((zX o_1.own5 c0).bind fun t110 =>
 if t110 = true then
 ((yE o_1.mine7 sights1).bind fun t115 =>
 if t115 = true then
 ((zx).bind fun t118 =>
 some t118) else
 (some false)) else
 (some false)) else
 (some false)) else
 (some false)) else
 (some false)) else
 (some false)).bind fun o_5 =>
 some o_5))
theorem QW (c0 : Channel) (sights1 : (List Int)) (qa0 : Option Addr) (na0 ca0 : Nat) (qa1 : Option Addr) (na1 ca1 : Nat) (qa2 : Option Addr) (na2 ca2 : Nat) (qa3 : Option Addr) (na3 ca3 : Nat) (w : World) (hw : HV w (keys [] []) [] [] [(aB qa0, aO qa0, RI.enc c0.fords), (aB qa1, aO qa1, RSa.enc c0.sands), (aB qa2, aO qa2, RSi.enc c0.sights), (aB qa3, aO qa3, RI.enc sights1)] w) (hna0 : c0.fords.length = na0) (hqa0 : AOK na0 qa0) (hla0 : na0 ≤ ca0) (hna1 : c0.sands.length = na1) (hqa1 : AOK na1 qa1) (hla1 : na1 ≤ ca1) (hna2 : c0.sights.length = na2) (hqa2 : AOK na2 qa2) (hla2 : na2 ≤ ca2) (hna3 : sights1.length = na3) (hqa3 : AOK na3 qa3) (hla3 : na3 ≤ ca3) {res : Bool} (hm : yo c0 sights1 = some res) :
    Calls Tryz.prog 6 #[.agg #[.int .i64 c0.cells, .int .i64 c0.tides, .slice qa0 na0 ca0, .slice qa1 na1 ca1, .slice qa2 na2 ca2], .slice qa3 na3 ca3] w (fun en w' => ∃ l : Unit, en = .returned (.bool res) ∧ (True) ∧ HV w (keys [] []) [] [] [] w') := by
  unfold yo at hm
  refine qL func6 Y ntmps6 Y (e := [(0, _), (1, _)]) Y hw (jr ?_)
  refine jG Y Y (fun b h1 => ?_)
  refine jo Y Y (jq (jh (jh ?_)))
  obtain ⟨o, h2, h3⟩ := bindO hm
  refine jM (ι := Unit) (fun l => True) (fun l => [(1, .slice qa3 na3 ca3), (2, ptr b 0), (37, .bool o)]) (fun l => [kc b #[.int .i64 c0.cells, .int .i64 c0.tides, .slice qa0 na0 ca0, .slice qa1 na1 ca1, .slice qa2 na2 ca2] 26]) (fun l => []) ?_ ?_
  ·replace hm := h2
   refine jg (JC [_, _, _, _, _] 0 isAgg26 sizeOf26 Y Y Y Y ?_)
   obtain ⟨t20, h4, hm⟩ := bindO hm
   refine jd [] [] Y Y Y Y Y Y Y call18 (fun w hh => ZP c0 qa0 na0 ca0 qa1 na1 ca1 qa2 na2 ca2 w (HV.callee (S0 := []) (vs0 := []) hh (roR hh 0 Y (roR hh 1 Y (roR hh 2 Y roN)))) hna0 hqa0 hla0 hna1 hqa1 hla1 hna2 hqa2 hla2 h4) (fun l_1 h5 => ?_)
   refine jj Y Y ?_
   refine jW 21 Y (fun h6 => ?_) (fun h6 => ?_)
   ·replace hm := ifT (h6) hm
    refine g_k Y Y Y Y (g_k Y Y Y Y (g_k Y Y Y Y (zo Y Y Y (jj Y Y (g_k Y Y Y Y (g_k Y Y Y Y (g_k Y Y Y Y ?_)))))))
    refine g_k Y Y Y Y (g_k Y Y Y Y ?_)
    refine JZ Y Y Y Y Y ?_
    refine JZ Y Y Y Y Y ?_
    refine JZ Y Y Y Y Y ?_
    refine JZ Y Y Y Y Y ?_
    refine g_k Y Y Y Y (zo Y Y Y (jx ?_))
    obtain rfl := sj hm
    exact jk () (trivial) (sE Y) (fun w hh => hh)
   replace hm := ifN h6 hm
   refine jb Y Y (jj Y Y (jb Y Y (jc Y Y Y (fun w _ => jJ hna3 (runUnderlying22 w) Y) (jb Y Y (jc Y Y Y (fun _ _ => QI Y Y) (yI Y Y Y (jj Y Y ?_)))))))
   refine jW 26 Y (fun h7 => ?_) (fun h7 => ?_)
   ·replace hm := ifD h7 hm
    refine g_k Y Y Y Y (g_k Y Y Y Y (g_k Y Y Y Y (g_k Y Y Y Y (g_k Y Y Y Y ?_))))
    refine JZ Y Y Y Y Y ?_
    refine JZ Y Y Y Y Y ?_
    refine JZ Y Y Y Y Y ?_
    refine JZ Y Y Y Y Y ?_
    refine g_k Y Y Y Y (zo Y Y Y (jx ?_))
    obtain rfl := sj hm
    exact jk () (trivial) (sE Y) (fun w hh => hh)
   replace hm := ifE h7 hm
   refine jb Y Y (qV 4 runUnderlying26 Y sizeOf24 Y Y (jb Y Y (qp 0 isAgg24 Y Y Y Y (jb Y Y (jc Y Y Y (fun w _ => jJ hna2 (runUnderlying24 w) Y) (jb Y Y (jc Y Y Y (fun _ _ => QI Y Y) ?_)))))))
   refine jb Y Y (jj Y Y ?_)
   refine jW 31 Y (fun h8 => ?_) (fun h8 => ?_)
   ·replace hm := ifD h8 hm
    refine jb Y Y (qV 4 runUnderlying26 Y sizeOf24 Y Y (jb Y Y (qp 0 isAgg24 Y Y Y Y (jb Y Y (jc Y Y Y (fun w _ => jJ hna2 (runUnderlying24 w) Y) (jb Y Y (jc Y Y Y (fun _ _ => jak Y Y) ?_)))))))
    refine jb Y Y (zo Y Y Y (yI Y Y Y (jx ?_)))
    obtain rfl := sj hm
    exact jk () (trivial) (sE Y) (fun w hh => hh)
   replace hm := ifE h8 hm
   refine g_k Y Y Y Y (g_k Y Y Y Y (g_k Y Y Y Y (g_k Y Y Y Y (jb Y Y (yI Y Y Y (yI Y Y Y (jx ?_)))))))
   obtain rfl := sj hm
   exact jk () (trivial) (sE Y) (fun w hh => hh)
  intro l hj
  replace hm := h3
  refine ja ?_
  refine js Y (fun h9 => ?_) (fun h9 => ?_)
  ·replace hm := ifT (h9) hm
   refine jr ?_
   obtain ⟨t38, h10, hm⟩ := bindO hm
   refine jd [] [] Y Y Y Y Y Y Y call19 (fun w hh => QQ  w (HV.callee (S0 := []) (vs0 := []) hh roN)  h10) (fun l_2 h11 => ?_)
   refine jo Y Y (jq (jv (je ?_)))
   obtain rfl := sj hm
   refine jm Y (fun w hh => (.tmp Y .nil)) (fun w hh => ⟨(), rfl, trivial, hh.se [] [] 4 Y Y Y rfl⟩)
  replace hm := ifN h9 hm
  refine jt (ja (jh ?_))
  obtain ⟨o_1, h12, h13⟩ := bindO hm
  refine jM (ι := Nat × Nat × VL × VL × VL × VL × VL × VL × VL) (fun l_3 => VOK 1 l_3.2.2.1.n l_3.2.2.1.cap (RI.enc o_1.mine7) l_3.2.2.1.sp l_3.2.2.1.q ∧ VOK 1 l_3.2.2.2.1.n l_3.2.2.2.1.cap (RI.enc o_1.own5.fords) l_3.2.2.2.1.sp l_3.2.2.2.1.q ∧ VOK 3 l_3.2.2.2.2.1.n l_3.2.2.2.2.1.cap (RSa.enc o_1.own5.sands) l_3.2.2.2.2.1.sp l_3.2.2.2.2.1.q ∧ VOK 3 l_3.2.2.2.2.2.1.n l_3.2.2.2.2.2.1.cap (RSi.enc o_1.own5.sights) l_3.2.2.2.2.2.1.sp l_3.2.2.2.2.2.1.q ∧ VOK 1 l_3.2.2.2.2.2.2.1.n l_3.2.2.2.2.2.2.1.cap (RI.enc o_1.x6.fords) l_3.2.2.2.2.2.2.1.sp l_3.2.2.2.2.2.2.1.q ∧ VOK 3 l_3.2.2.2.2.2.2.2.1.n l_3.2.2.2.2.2.2.2.1.cap (RSa.enc o_1.x6.sands) l_3.2.2.2.2.2.2.2.1.sp l_3.2.2.2.2.2.2.2.1.q ∧ VOK 3 l_3.2.2.2.2.2.2.2.2.n l_3.2.2.2.2.2.2.2.2.cap (RSi.enc o_1.x6.sights) l_3.2.2.2.2.2.2.2.2.sp l_3.2.2.2.2.2.2.2.2.q) (fun l_3 => [(1, .slice qa3 na3 ca3), (2, ptr b 0), (5, ptr l_3.1 0), (6, ptr l_3.2.1 0), (7, sL l_3.2.2.1)]) (fun l_3 => [kc b #[.int .i64 c0.cells, .int .i64 c0.tides, .slice qa0 na0 ca0, .slice qa1 na1 ca1, .slice qa2 na2 ca2] 26, kc l_3.1 #[.int .i64 o_1.own5.cells, .int .i64 o_1.own5.tides, sL l_3.2.2.2.1, sL l_3.2.2.2.2.1, sL l_3.2.2.2.2.2.1] 26, kc l_3.2.1 #[.int .i64 o_1.x6.cells, .int .i64 o_1.x6.tides, sL l_3.2.2.2.2.2.2.1, sL l_3.2.2.2.2.2.2.2.1, sL l_3.2.2.2.2.2.2.2.2] 33]) (fun l_3 => [vL 3 l_3.2.2.1 (RI.enc o_1.mine7), vL 3 l_3.2.2.2.1 (RI.enc o_1.own5.fords), vL 98 l_3.2.2.2.2.1 (RSa.enc o_1.own5.sands), vL 55 l_3.2.2.2.2.2.1 (RSi.enc o_1.own5.sights), vL 3 l_3.2.2.2.2.2.2.1 (RI.enc o_1.x6.fords), vL 138 l_3.2.2.2.2.2.2.2.1 (RSa.enc o_1.x6.sands), vL 139 l_3.2.2.2.2.2.2.2.2 (RSi.enc o_1.x6.sights)]) ?_ ?_
  ·replace hm := h12
   obtain ⟨t40, h21, hm⟩ := bindO hm
   obtain ⟨t42, h22, hm⟩ := bindO hm
   obtain ⟨t44, h23, hm⟩ := bindO hm
   refine j3 none (.hoist 0 (.hoist 2 (.free 4 (.br (.alt 1 Qz (.alt 6 Qx (.alt 7 QB .nil))))))) _ Y (by decide +kernel) (fun w k hh => hh.draw k) (fun w hh => hh) ?_
   refine jy Y Y Y Y (fun w hh => jO (vs := [_, _, _, _, _]) (isAgg26 w) (sizeOf26 w) Y (hh.cells 0 Y Y)) (jy Y Y Y Y (fun w hh => jO (vs := [_, _, _, _, _]) (isAgg26 w) (sizeOf26 w) Y (hh.cells 0 Y Y)) (qD Y Y Y ?_))
   refine yX (.free 10 .done) (fun g => ∀ (b_1 : Nat) (b_2 : Nat) (L : VL) (L_1 : VL) (L_2 : VL) (L_3 : VL) (L_4 : VL) (L_5 : VL) (L_6 : VL), vk 1 L (RI.enc t44) → vk 1 L_1 (RI.enc t40.fords) → vk 3 L_2 (RSa.enc t40.sands) → vk 3 L_3 (RSi.enc t40.sights) → vk 1 L_4 (RI.enc t42.fords) → vk 3 L_5 (RSa.enc t42.sands) → vk 3 L_6 (RSi.enc t42.sights) → g [(1, .slice qa3 na3 ca3), (2, ptr b 0), (5, ptr b_1 0), (6, ptr b_2 0), (44, sL L)] [kc b #[.int .i64 c0.cells, .int .i64 c0.tides, .slice qa0 na0 ca0, .slice qa1 na1 ca1, .slice qa2 na2 ca2] 26, kc b_1 #[.int .i64 t40.cells, .int .i64 t40.tides, sL L_1, sL L_2, sL L_3] 26, kc b_2 #[.int .i64 t42.cells, .int .i64 t42.tides, sL L_4, sL L_5, sL L_6] 33] [vL 3 L (RI.enc t44), vL 3 L_1 (RI.enc t40.fords), vL 98 L_2 (RSa.enc t40.sands), vL 55 L_3 (RSi.enc t40.sights), vL 3 L_4 (RI.enc t42.fords), vL 138 L_5 (RSa.enc t42.sands), vL 139 L_6 (RSi.enc t42.sights)]) ?_ (fun h31 => ?_)
   ·intro b_1 b_2 L L_1 L_2 L_3 L_4 L_5 L_6 h24 h25 h26 h27 h28 h29 h30
    refine jp Y Y Y Y (fun _ _ => kp Y) (jH ?_)
    obtain rfl := sj hm
    exact jk (b_1, b_2, L, L_1, L_2, L_3, L_4, L_5, L_6) (⟨h24, h25, h26, h27, h28, h29, h30⟩) (sE Y) (fun w hh => hh)
   refine yX (.one 9 (.free 10 .done)) (fun g => ∀ (b_3 : Nat) (b_4 : Nat) (L_7 : VL) (L_8 : VL) (L_9 : VL) (L_10 : VL) (L_11 : VL) (L_12 : VL) (L_13 : VL), vk 1 L_7 (RI.enc t42.fords) → vk 3 L_8 (RSa.enc t42.sands) → vk 3 L_9 (RSi.enc t42.sights) → vk 1 L_10 (RI.enc t44) → vk 1 L_11 (RI.enc t40.fords) → vk 3 L_12 (RSa.enc t40.sands) → vk 3 L_13 (RSi.enc t40.sights) → g [(1, .slice qa3 na3 ca3), (2, ptr b 0), (5, ptr b_3 0), (6, ptr b_4 0), (42, .agg #[.int .i64 t42.cells, .int .i64 t42.tides, sL L_7, sL L_8, sL L_9]), (44, sL L_10)] [kc b #[.int .i64 c0.cells, .int .i64 c0.tides, .slice qa0 na0 ca0, .slice qa1 na1 ca1, .slice qa2 na2 ca2] 26, kc b_3 #[.int .i64 t40.cells, .int .i64 t40.tides, sL L_11, sL L_12, sL L_13] 26, kc b_4 #[.int .i64 0, .int .i64 0, slv none 0 0, slv none 0 0, slv none 0 0] 33] [vL 3 L_7 (RI.enc t42.fords), vL 138 L_8 (RSa.enc t42.sands), vL 139 L_9 (RSi.enc t42.sights), vL 3 L_10 (RI.enc t44), vL 3 L_11 (RI.enc t40.fords), vL 98 L_12 (RSa.enc t40.sands), vL 55 L_13 (RSi.enc t40.sights)]) ?_ (fun h39 => ?_)
   intro b_3 b_4 L_7 L_8 L_9 L_10 L_11 L_12 L_13 h32 h33 h34 h35 h36 h37 h38
   refine jD Y (kD (us := #[_, _, _, _, _]) (cs' := [_, _, _, _, _]) (S' := [_, _, _]) 2 (fun w => sizeOf33 w) Y Y Y Y Y Y Y (jn (hsE [0] [] 0 Y Y Y Y) ?_))
   exact zk (h31 b_3 b_4 L_10 L_11 L_12 L_13 L_7 L_8 L_9 h35 h36 h37 h38 h32 h33 h34) (sE Y) (hsE [0, 1, 2] [3, 4, 5, 6, 0, 1, 2] 0 Y Y Y Y)
   refine yX (.one 8 (.one 9 (.free 10 .done))) (fun g => ∀ (b_5 : Nat) (b_6 : Nat) (L_14 : VL) (L_15 : VL) (L_16 : VL) (L_17 : VL) (L_18 : VL) (L_19 : VL) (L_20 : VL), vk 1 L_14 (RI.enc t40.fords) → vk 3 L_15 (RSa.enc t40.sands) → vk 3 L_16 (RSi.enc t40.sights) → vk 1 L_17 (RI.enc t42.fords) → vk 3 L_18 (RSa.enc t42.sands) → vk 3 L_19 (RSi.enc t42.sights) → vk 1 L_20 (RI.enc t44) → g [(1, .slice qa3 na3 ca3), (2, ptr b 0), (5, ptr b_5 0), (6, ptr b_6 0), (40, .agg #[.int .i64 t40.cells, .int .i64 t40.tides, sL L_14, sL L_15, sL L_16]), (42, .agg #[.int .i64 t42.cells, .int .i64 t42.tides, sL L_17, sL L_18, sL L_19]), (44, sL L_20)] [kc b #[.int .i64 c0.cells, .int .i64 c0.tides, .slice qa0 na0 ca0, .slice qa1 na1 ca1, .slice qa2 na2 ca2] 26, kc b_5 #[.int .i64 0, .int .i64 0, slv none 0 0, slv none 0 0, slv none 0 0] 26, kc b_6 #[.int .i64 0, .int .i64 0, slv none 0 0, slv none 0 0, slv none 0 0] 33] [vL 3 L_14 (RI.enc t40.fords), vL 98 L_15 (RSa.enc t40.sands), vL 55 L_16 (RSi.enc t40.sights), vL 3 L_17 (RI.enc t42.fords), vL 138 L_18 (RSa.enc t42.sands), vL 139 L_19 (RSi.enc t42.sights), vL 3 L_20 (RI.enc t44)]) ?_ (fun h47 => ?_)
   ·intro b_5 b_6 L_14 L_15 L_16 L_17 L_18 L_19 L_20 h40 h41 h42 h43 h44 h45 h46
    refine jD Y (kD (us := #[_, _, _, _, _]) (cs' := [_, _, _, _, _]) (S' := [_, _, _]) 1 (fun w => sizeOf26 w) Y Y Y Y Y Y Y (jn (hsE [0] [] 0 Y Y Y Y) ?_))
    exact zk (h39 b_5 b_6 L_17 L_18 L_19 L_20 L_14 L_15 L_16 h43 h44 h45 h46 h40 h41 h42) (sE Y) (hsE [0, 1, 2] [3, 4, 5, 6, 0, 1, 2] 0 Y Y Y Y)
   refine yX y4 (fun g => ∀ (b_7 : Nat) (b_8 : Nat) (L_21 : VL) (L_22 : VL) (L_23 : VL) (L_24 : VL) (L_25 : VL) (L_26 : VL), vk 1 L_21 (RI.enc t40.fords) → vk 3 L_22 (RSa.enc t40.sands) → vk 3 L_23 (RSi.enc t40.sights) → vk 1 L_24 (RI.enc t42.fords) → vk 3 L_25 (RSa.enc t42.sands) → vk 3 L_26 (RSi.enc t42.sights) → g [(1, .slice qa3 na3 ca3), (2, ptr b 0), (5, ptr b_7 0), (6, ptr b_8 0), (40, .agg #[.int .i64 t40.cells, .int .i64 t40.tides, sL L_21, sL L_22, sL L_23]), (42, .agg #[.int .i64 t42.cells, .int .i64 t42.tides, sL L_24, sL L_25, sL L_26]), (43, .slice qa3 na3 ca3)] [kc b #[.int .i64 c0.cells, .int .i64 c0.tides, .slice qa0 na0 ca0, .slice qa1 na1 ca1, .slice qa2 na2 ca2] 26, kc b_7 #[.int .i64 0, .int .i64 0, slv none 0 0, slv none 0 0, slv none 0 0] 26, kc b_8 #[.int .i64 0, .int .i64 0, slv none 0 0, slv none 0 0, slv none 0 0] 33] [vL 3 L_21 (RI.enc t40.fords), vL 98 L_22 (RSa.enc t40.sands), vL 55 L_23 (RSi.enc t40.sights), vL 3 L_24 (RI.enc t42.fords), vL 138 L_25 (RSa.enc t42.sands), vL 139 L_26 (RSi.enc t42.sights)]) ?_ (fun h54 => ?_)
   intro b_7 b_8 L_21 L_22 L_23 L_24 L_25 L_26 h48 h49 h50 h51 h52 h53
   refine jD Y ?_
   refine jd [] [] Y Y Y Y Y Y Y call46 (fun w hh => KK sights1 qa3 na3 ca3 w (HV.callee (S0 := []) (vs0 := []) hh (roR hh 3 Y roN)) hna3 hqa3 hla3 h23) (fun l_4 h55 => ?_)
   have h56 := h55
   refine kx (S' := [_, _, _]) (vs' := [_, _, _, _, _, _, _]) [0, 1, 2] [0, 1, 2, 3, 4, 5, 6] 0 Y Y Y Y (jn (hsE [0] [] 0 Y Y Y Y) ?_)
   exact zk (h47 b_7 b_8 L_21 L_22 L_23 L_24 L_25 L_26 l_4 h48 h49 h50 h51 h52 h53 h56) (sE Y) (hsE [0, 1, 2] [1, 2, 3, 4, 5, 6, 0] 0 Y Y Y Y)
   refine yX yV (fun g => ∀ (b_9 : Nat) (L_27 : VL) (L_28 : VL) (L_29 : VL) (L_30 : VL) (L_31 : VL) (L_32 : VL) (L_33 : VL), vk 1 L_27 (RI.enc t40.fords) → vk 3 L_28 (RSa.enc t40.sands) → vk 3 L_29 (RSi.enc t40.sights) → vk 1 L_30 (RI.enc t42.fords) → vk 3 L_31 (RSa.enc t42.sands) → vk 3 L_32 (RSi.enc t42.sights) → vk 1 L_33 (RI.enc t44) → g [(1, .slice qa3 na3 ca3), (2, ptr b 0), (6, ptr b_9 0), (40, .agg #[.int .i64 t40.cells, .int .i64 t40.tides, sL L_27, sL L_28, sL L_29]), (42, .agg #[.int .i64 t42.cells, .int .i64 t42.tides, sL L_30, sL L_31, sL L_32]), (44, sL L_33)] [kc b #[.int .i64 c0.cells, .int .i64 c0.tides, .slice qa0 na0 ca0, .slice qa1 na1 ca1, .slice qa2 na2 ca2] 26, kc b_9 #[.int .i64 0, .int .i64 0, slv none 0 0, slv none 0 0, slv none 0 0] 33] [vL 3 L_27 (RI.enc t40.fords), vL 98 L_28 (RSa.enc t40.sands), vL 55 L_29 (RSi.enc t40.sights), vL 3 L_30 (RI.enc t42.fords), vL 138 L_31 (RSa.enc t42.sands), vL 139 L_32 (RSi.enc t42.sights), vL 3 L_33 (RI.enc t44)]) ?_ (fun h64 => ?_)
   ·intro b_9 L_27 L_28 L_29 L_30 L_31 L_32 L_33 h57 h58 h59 h60 h61 h62 h63
    refine jD Y ?_
    refine ju (fun w => zeroValue26 w) Y (fun b_10 h65 => ?_)
    refine jn (hsE [1] [] 0 Y Y Y Y) ?_
    exact zk (h47 b_10 b_9 L_27 L_28 L_29 L_30 L_31 L_32 L_33 h57 h58 h59 h60 h61 h62 h63) (sE Y) (hsE [1, 0, 2] [0, 1, 2, 3, 4, 5, 6] 0 Y Y Y Y)
   refine yX yS (fun g => ∀ (b_11 : Nat) (L_34 : VL) (L_35 : VL) (L_36 : VL) (L_37 : VL) (L_38 : VL) (L_39 : VL) (L_40 : VL), vk 1 L_34 (RI.enc t40.fords) → vk 3 L_35 (RSa.enc t40.sands) → vk 3 L_36 (RSi.enc t40.sights) → vk 1 L_37 (RI.enc t42.fords) → vk 3 L_38 (RSa.enc t42.sands) → vk 3 L_39 (RSi.enc t42.sights) → vk 1 L_40 (RI.enc t44) → g [(1, .slice qa3 na3 ca3), (2, ptr b 0), (5, ptr b_11 0), (40, .agg #[.int .i64 t40.cells, .int .i64 t40.tides, sL L_34, sL L_35, sL L_36]), (42, .agg #[.int .i64 t42.cells, .int .i64 t42.tides, sL L_37, sL L_38, sL L_39]), (44, sL L_40)] [kc b #[.int .i64 c0.cells, .int .i64 c0.tides, .slice qa0 na0 ca0, .slice qa1 na1 ca1, .slice qa2 na2 ca2] 26, kc b_11 #[.int .i64 0, .int .i64 0, slv none 0 0, slv none 0 0, slv none 0 0] 26] [vL 3 L_34 (RI.enc t40.fords), vL 98 L_35 (RSa.enc t40.sands), vL 55 L_36 (RSi.enc t40.sights), vL 3 L_37 (RI.enc t42.fords), vL 138 L_38 (RSa.enc t42.sands), vL 139 L_39 (RSi.enc t42.sights), vL 3 L_40 (RI.enc t44)]) ?_ (fun h73 => ?_)
   intro b_11 L_34 L_35 L_36 L_37 L_38 L_39 L_40 h66 h67 h68 h69 h70 h71 h72
   refine jD Y ?_
   refine ju (fun w => zeroValue33 w) Y (fun b_12 h74 => ?_)
   refine jn (hsE [1] [] 0 Y Y Y Y) ?_
   exact zk (h47 b_11 b_12 L_34 L_35 L_36 L_37 L_38 L_39 L_40 h66 h67 h68 h69 h70 h71 h72) (sE Y) (hsE [1, 2, 0] [0, 1, 2, 3, 4, 5, 6] 0 Y Y Y Y)
   refine yX y7 (fun g => ∀ (b_13 : Nat) (b_14 : Nat) (L_41 : VL) (L_42 : VL) (L_43 : VL), vk 1 L_41 (RI.enc t40.fords) → vk 3 L_42 (RSa.enc t40.sands) → vk 3 L_43 (RSi.enc t40.sights) → g [(1, .slice qa3 na3 ca3), (2, ptr b 0), (5, ptr b_13 0), (6, ptr b_14 0), (40, .agg #[.int .i64 t40.cells, .int .i64 t40.tides, sL L_41, sL L_42, sL L_43]), (41, .agg #[.int .i64 c0.cells, .int .i64 c0.tides, .slice qa0 na0 ca0, .slice qa1 na1 ca1, .slice qa2 na2 ca2]), (43, .slice qa3 na3 ca3)] [kc b #[.int .i64 c0.cells, .int .i64 c0.tides, .slice qa0 na0 ca0, .slice qa1 na1 ca1, .slice qa2 na2 ca2] 26, kc b_13 #[.int .i64 0, .int .i64 0, slv none 0 0, slv none 0 0, slv none 0 0] 26, kc b_14 #[.int .i64 0, .int .i64 0, slv none 0 0, slv none 0 0, slv none 0 0] 33] [vL 3 L_41 (RI.enc t40.fords), vL 98 L_42 (RSa.enc t40.sands), vL 55 L_43 (RSi.enc t40.sights)]) ?_ (fun h78 => ?_)
   ·intro b_13 b_14 L_41 L_42 L_43 h75 h76 h77
    refine jD Y ?_
    refine jd [] [] Y Y Y Y Y Y Y call21 (fun w hh => Jp c0 qa0 na0 ca0 qa1 na1 ca1 qa2 na2 ca2 w (HV.callee (S0 := []) (vs0 := []) hh (roR hh 0 Y (roR hh 1 Y (roR hh 2 Y roN)))) hna0 hqa0 hla0 hna1 hqa1 hla1 hna2 hqa2 hla2 h22) (fun l_5 h79 => ?_)
    obtain ⟨h80, h81, h82⟩ := h79
    refine kx (S' := [_, _, _]) (vs' := [_, _, _, _, _, _]) [0, 1, 2] [0, 1, 2, 3, 4, 5] 0 Y Y Y Y (jn (hsE [0] [] 0 Y Y Y Y) ?_)
    exact zk (h54 b_13 b_14 L_41 L_42 L_43 l_5.1 l_5.2.1 l_5.2.2 h75 h76 h77 h80 h81 h82) (sE Y) (hsE [0, 1, 2] [3, 4, 5, 0, 1, 2] 0 Y Y Y Y)
   refine yX yW (fun g => ∀ (b_15 : Nat) (L_44 : VL) (L_45 : VL) (L_46 : VL) (L_47 : VL) (L_48 : VL) (L_49 : VL), vk 1 L_44 (RI.enc t40.fords) → vk 3 L_45 (RSa.enc t40.sands) → vk 3 L_46 (RSi.enc t40.sights) → vk 1 L_47 (RI.enc t42.fords) → vk 3 L_48 (RSa.enc t42.sands) → vk 3 L_49 (RSi.enc t42.sights) → g [(1, .slice qa3 na3 ca3), (2, ptr b 0), (6, ptr b_15 0), (40, .agg #[.int .i64 t40.cells, .int .i64 t40.tides, sL L_44, sL L_45, sL L_46]), (42, .agg #[.int .i64 t42.cells, .int .i64 t42.tides, sL L_47, sL L_48, sL L_49]), (43, .slice qa3 na3 ca3)] [kc b #[.int .i64 c0.cells, .int .i64 c0.tides, .slice qa0 na0 ca0, .slice qa1 na1 ca1, .slice qa2 na2 ca2] 26, kc b_15 #[.int .i64 0, .int .i64 0, slv none 0 0, slv none 0 0, slv none 0 0] 33] [vL 3 L_44 (RI.enc t40.fords), vL 98 L_45 (RSa.enc t40.sands), vL 55 L_46 (RSi.enc t40.sights), vL 3 L_47 (RI.enc t42.fords), vL 138 L_48 (RSa.enc t42.sands), vL 139 L_49 (RSi.enc t42.sights)]) ?_ (fun h89 => ?_)
   intro b_15 L_44 L_45 L_46 L_47 L_48 L_49 h83 h84 h85 h86 h87 h88
   refine ZQ ?_
   refine qY Y ?_ ?_
   ·refine jd [] [] Y Y Y Y Y Y Y call46 (fun w hh => KK sights1 qa3 na3 ca3 w (HV.callee (S0 := []) (vs0 := []) hh (roR hh 3 Y roN)) hna3 hqa3 hla3 h23) (fun l_6 h90 => ?_)
    have h91 := h90
    refine kx (S' := [_, _]) (vs' := [_, _, _, _, _, _, _]) [0, 1] [0, 1, 2, 3, 4, 5, 6] 0 Y Y Y Y (jn (hsE [0] [] 0 Y Y Y Y) ?_)
    exact zk (h64 b_15 L_44 L_45 L_46 L_47 L_48 L_49 l_6 h83 h84 h85 h86 h87 h88 h91) (sE Y) (hsE [0, 1] [1, 2, 3, 4, 5, 6, 0] 0 Y Y Y Y)
   refine qY Y ?_ ?_
   refine ju (fun w => zeroValue26 w) Y (fun b_16 h92 => ?_)
   refine jn (hsE [1] [] 0 Y Y Y Y) ?_
   exact zk (h54 b_16 b_15 L_44 L_45 L_46 L_47 L_48 L_49 h83 h84 h85 h86 h87 h88) (sE Y) (hsE [1, 0, 2] [0, 1, 2, 3, 4, 5] 0 Y Y Y Y)
   exact Qc
   refine yX yZ (fun g => ∀ (b_17 : Nat) (L_50 : VL) (L_51 : VL) (L_52 : VL) (L_53 : VL) (L_54 : VL) (L_55 : VL), vk 1 L_50 (RI.enc t40.fords) → vk 3 L_51 (RSa.enc t40.sands) → vk 3 L_52 (RSi.enc t40.sights) → vk 1 L_53 (RI.enc t42.fords) → vk 3 L_54 (RSa.enc t42.sands) → vk 3 L_55 (RSi.enc t42.sights) → g [(1, .slice qa3 na3 ca3), (2, ptr b 0), (5, ptr b_17 0), (40, .agg #[.int .i64 t40.cells, .int .i64 t40.tides, sL L_50, sL L_51, sL L_52]), (42, .agg #[.int .i64 t42.cells, .int .i64 t42.tides, sL L_53, sL L_54, sL L_55]), (43, .slice qa3 na3 ca3)] [kc b #[.int .i64 c0.cells, .int .i64 c0.tides, .slice qa0 na0 ca0, .slice qa1 na1 ca1, .slice qa2 na2 ca2] 26, kc b_17 #[.int .i64 0, .int .i64 0, slv none 0 0, slv none 0 0, slv none 0 0] 26] [vL 3 L_50 (RI.enc t40.fords), vL 98 L_51 (RSa.enc t40.sands), vL 55 L_52 (RSi.enc t40.sights), vL 3 L_53 (RI.enc t42.fords), vL 138 L_54 (RSa.enc t42.sands), vL 139 L_55 (RSi.enc t42.sights)]) ?_ (fun h99 => ?_)
   ·intro b_17 L_50 L_51 L_52 L_53 L_54 L_55 h93 h94 h95 h96 h97 h98
    refine ZQ ?_
    refine qY Y ?_ ?_
    ·refine jd [] [] Y Y Y Y Y Y Y call46 (fun w hh => KK sights1 qa3 na3 ca3 w (HV.callee (S0 := []) (vs0 := []) hh (roR hh 3 Y roN)) hna3 hqa3 hla3 h23) (fun l_7 h100 => ?_)
     have h101 := h100
     refine kx (S' := [_, _]) (vs' := [_, _, _, _, _, _, _]) [0, 1] [0, 1, 2, 3, 4, 5, 6] 0 Y Y Y Y (jn (hsE [0] [] 0 Y Y Y Y) ?_)
     exact zk (h73 b_17 L_50 L_51 L_52 L_53 L_54 L_55 l_7 h93 h94 h95 h96 h97 h98 h101) (sE Y) (hsE [0, 1] [1, 2, 3, 4, 5, 6, 0] 0 Y Y Y Y)
    refine qY Y ?_ ?_
    refine ju (fun w => zeroValue33 w) Y (fun b_18 h102 => ?_)
    refine jn (hsE [1] [] 0 Y Y Y Y) ?_
    exact zk (h54 b_17 b_18 L_50 L_51 L_52 L_53 L_54 L_55 h93 h94 h95 h96 h97 h98) (sE Y) (hsE [1, 2, 0] [0, 1, 2, 3, 4, 5] 0 Y Y Y Y)
    exact Qc
   refine yX yT (fun g => ∀ (b_19 : Nat) (b_20 : Nat), g [(1, .slice qa3 na3 ca3), (2, ptr b 0), (5, ptr b_19 0), (6, ptr b_20 0), (39, .agg #[.int .i64 c0.cells, .int .i64 c0.tides, .slice qa0 na0 ca0, .slice qa1 na1 ca1, .slice qa2 na2 ca2]), (41, .agg #[.int .i64 c0.cells, .int .i64 c0.tides, .slice qa0 na0 ca0, .slice qa1 na1 ca1, .slice qa2 na2 ca2]), (43, .slice qa3 na3 ca3)] [kc b #[.int .i64 c0.cells, .int .i64 c0.tides, .slice qa0 na0 ca0, .slice qa1 na1 ca1, .slice qa2 na2 ca2] 26, kc b_19 #[.int .i64 0, .int .i64 0, slv none 0 0, slv none 0 0, slv none 0 0] 26, kc b_20 #[.int .i64 0, .int .i64 0, slv none 0 0, slv none 0 0, slv none 0 0] 33] []) ?_ (fun h103 => ?_)
   intro b_19 b_20
   refine jD Y ?_
   refine jd [] [] Y Y Y Y Y Y Y call20 (fun w hh => Ke c0 qa0 na0 ca0 qa1 na1 ca1 qa2 na2 ca2 w (HV.callee (S0 := []) (vs0 := []) hh (roR hh 0 Y (roR hh 1 Y (roR hh 2 Y roN)))) hna0 hqa0 hla0 hna1 hqa1 hla1 hna2 hqa2 hla2 h21) (fun l_8 h104 => ?_)
   obtain ⟨h105, h106, h107⟩ := h104
   refine kx (S' := [_, _, _]) (vs' := [_, _, _]) [0, 1, 2] [0, 1, 2] 0 Y Y Y Y (jn (hsE [0] [] 0 Y Y Y Y) ?_)
   exact zk (h78 b_19 b_20 l_8.1 l_8.2.1 l_8.2.2 h105 h106 h107) (sE Y) (fun w hh => hh)
   refine yX y6 (fun g => ∀ (b_21 : Nat) (L_56 : VL) (L_57 : VL) (L_58 : VL), vk 1 L_56 (RI.enc t40.fords) → vk 3 L_57 (RSa.enc t40.sands) → vk 3 L_58 (RSi.enc t40.sights) → g [(1, .slice qa3 na3 ca3), (2, ptr b 0), (6, ptr b_21 0), (40, .agg #[.int .i64 t40.cells, .int .i64 t40.tides, sL L_56, sL L_57, sL L_58]), (41, .agg #[.int .i64 c0.cells, .int .i64 c0.tides, .slice qa0 na0 ca0, .slice qa1 na1 ca1, .slice qa2 na2 ca2]), (43, .slice qa3 na3 ca3)] [kc b #[.int .i64 c0.cells, .int .i64 c0.tides, .slice qa0 na0 ca0, .slice qa1 na1 ca1, .slice qa2 na2 ca2] 26, kc b_21 #[.int .i64 0, .int .i64 0, slv none 0 0, slv none 0 0, slv none 0 0] 33] [vL 3 L_56 (RI.enc t40.fords), vL 98 L_57 (RSa.enc t40.sands), vL 55 L_58 (RSi.enc t40.sights)]) ?_ (fun h111 => ?_)
   ·intro b_21 L_56 L_57 L_58 h108 h109 h110
    refine ZQ ?_
    refine qY Y ?_ ?_
    ·refine jd [] [] Y Y Y Y Y Y Y call21 (fun w hh => Jp c0 qa0 na0 ca0 qa1 na1 ca1 qa2 na2 ca2 w (HV.callee (S0 := []) (vs0 := []) hh (roR hh 0 Y (roR hh 1 Y (roR hh 2 Y roN)))) hna0 hqa0 hla0 hna1 hqa1 hla1 hna2 hqa2 hla2 h22) (fun l_9 h112 => ?_)
     obtain ⟨h113, h114, h115⟩ := h112
     refine kx (S' := [_, _]) (vs' := [_, _, _, _, _, _]) [0, 1] [0, 1, 2, 3, 4, 5] 0 Y Y Y Y (jn (hsE [0] [] 0 Y Y Y Y) ?_)
     exact zk (h89 b_21 L_56 L_57 L_58 l_9.1 l_9.2.1 l_9.2.2 h108 h109 h110 h113 h114 h115) (sE Y) (hsE [0, 1] [3, 4, 5, 0, 1, 2] 0 Y Y Y Y)
    refine qY Y ?_ ?_
    refine ju (fun w => zeroValue26 w) Y (fun b_22 h116 => ?_)
    refine jn (hsE [1] [] 0 Y Y Y Y) ?_
    exact zk (h78 b_22 b_21 L_56 L_57 L_58 h108 h109 h110) (sE Y) (hsE [1, 0, 2] [0, 1, 2] 0 Y Y Y Y)
    exact Qc
   refine yX y5 (fun g => ∀ (b_23 : Nat) (L_59 : VL) (L_60 : VL) (L_61 : VL), vk 1 L_59 (RI.enc t40.fords) → vk 3 L_60 (RSa.enc t40.sands) → vk 3 L_61 (RSi.enc t40.sights) → g [(1, .slice qa3 na3 ca3), (2, ptr b 0), (5, ptr b_23 0), (40, .agg #[.int .i64 t40.cells, .int .i64 t40.tides, sL L_59, sL L_60, sL L_61]), (41, .agg #[.int .i64 c0.cells, .int .i64 c0.tides, .slice qa0 na0 ca0, .slice qa1 na1 ca1, .slice qa2 na2 ca2]), (43, .slice qa3 na3 ca3)] [kc b #[.int .i64 c0.cells, .int .i64 c0.tides, .slice qa0 na0 ca0, .slice qa1 na1 ca1, .slice qa2 na2 ca2] 26, kc b_23 #[.int .i64 0, .int .i64 0, slv none 0 0, slv none 0 0, slv none 0 0] 26] [vL 3 L_59 (RI.enc t40.fords), vL 98 L_60 (RSa.enc t40.sands), vL 55 L_61 (RSi.enc t40.sights)]) ?_ (fun h120 => ?_)
   intro b_23 L_59 L_60 L_61 h117 h118 h119
   refine ZQ ?_
   refine qY Y ?_ ?_
   ·refine jd [] [] Y Y Y Y Y Y Y call21 (fun w hh => Jp c0 qa0 na0 ca0 qa1 na1 ca1 qa2 na2 ca2 w (HV.callee (S0 := []) (vs0 := []) hh (roR hh 0 Y (roR hh 1 Y (roR hh 2 Y roN)))) hna0 hqa0 hla0 hna1 hqa1 hla1 hna2 hqa2 hla2 h22) (fun l_10 h121 => ?_)
    obtain ⟨h122, h123, h124⟩ := h121
    refine kx (S' := [_, _]) (vs' := [_, _, _, _, _, _]) [0, 1] [0, 1, 2, 3, 4, 5] 0 Y Y Y Y (jn (hsE [0] [] 0 Y Y Y Y) ?_)
    exact zk (h99 b_23 L_59 L_60 L_61 l_10.1 l_10.2.1 l_10.2.2 h117 h118 h119 h122 h123 h124) (sE Y) (hsE [0, 1] [3, 4, 5, 0, 1, 2] 0 Y Y Y Y)
   refine qY Y ?_ ?_
   refine ju (fun w => zeroValue33 w) Y (fun b_24 h125 => ?_)
   refine jn (hsE [1] [] 0 Y Y Y Y) ?_
   exact zk (h78 b_23 b_24 L_59 L_60 L_61 h117 h118 h119) (sE Y) (hsE [1, 2, 0] [0, 1, 2] 0 Y Y Y Y)
   exact Qc
   refine ZQ ?_
   refine qY Y ?_ ?_
   ·refine jd [] [] Y Y Y Y Y Y Y call20 (fun w hh => Ke c0 qa0 na0 ca0 qa1 na1 ca1 qa2 na2 ca2 w (HV.callee (S0 := []) (vs0 := []) hh (roR hh 0 Y (roR hh 1 Y (roR hh 2 Y roN)))) hna0 hqa0 hla0 hna1 hqa1 hla1 hna2 hqa2 hla2 h21) (fun l_11 h126 => ?_)
    obtain ⟨h127, h128, h129⟩ := h126
    refine kx (S' := [_]) (vs' := [_, _, _]) [0] [0, 1, 2] 0 Y Y Y Y (jn (hsE [0] [] 0 Y Y Y Y) (ZQ ?_))
    refine qY Y ?_ ?_
    ·refine jd [] [] Y Y Y Y Y Y Y call21 (fun w hh => Jp c0 qa0 na0 ca0 qa1 na1 ca1 qa2 na2 ca2 w (HV.callee (S0 := []) (vs0 := []) hh (roR hh 0 Y (roR hh 1 Y (roR hh 2 Y roN)))) hna0 hqa0 hla0 hna1 hqa1 hla1 hna2 hqa2 hla2 h22) (fun l_12 h130 => ?_)
     obtain ⟨h131, h132, h133⟩ := h130
     refine kx (S' := [_]) (vs' := [_, _, _, _, _, _]) [0] [0, 1, 2, 3, 4, 5] 0 Y Y Y Y (jn (hsE [0] [] 0 Y Y Y Y) (ZQ ?_))
     refine qY Y ?_ ?_
     ·refine jd [] [] Y Y Y Y Y Y Y call46 (fun w hh => KK sights1 qa3 na3 ca3 w (HV.callee (S0 := []) (vs0 := []) hh (roR hh 3 Y roN)) hna3 hqa3 hla3 h23) (fun l_13 h134 => ?_)
      have h135 := h134
      refine kx (S' := [_]) (vs' := [_, _, _, _, _, _, _]) [0] [0, 1, 2, 3, 4, 5, 6] 0 Y Y Y Y (jn (hsE [0] [] 0 Y Y Y Y) (ZQ ?_))
      refine qY Y ?_ ?_
      ·refine ju (fun w => zeroValue26 w) Y (fun b_25 h136 => ?_)
       refine jn (hsE [1] [] 0 Y Y Y Y) ?_
       exact zk (h73 b_25 l_11.1 l_11.2.1 l_11.2.2 l_12.1 l_12.2.1 l_12.2.2 l_13 h127 h128 h129 h131 h132 h133 h135) (sE Y) (hsE [1, 0] [4, 5, 6, 1, 2, 3, 0] 0 Y Y Y Y)
      refine qY Y ?_ ?_
      refine ju (fun w => zeroValue33 w) Y (fun b_26 h137 => ?_)
      refine jn (hsE [1] [] 0 Y Y Y Y) ?_
      exact zk (h64 b_26 l_11.1 l_11.2.1 l_11.2.2 l_12.1 l_12.2.1 l_12.2.2 l_13 h127 h128 h129 h131 h132 h133 h135) (sE Y) (hsE [1, 0] [4, 5, 6, 1, 2, 3, 0] 0 Y Y Y Y)
      exact Qc
     refine qY Y ?_ ?_
     refine ju (fun w => zeroValue26 w) Y (fun b_27 h138 => ?_)
     refine jn (hsE [1] [] 0 Y Y Y Y) ?_
     exact zk (h99 b_27 l_11.1 l_11.2.1 l_11.2.2 l_12.1 l_12.2.1 l_12.2.2 h127 h128 h129 h131 h132 h133) (sE Y) (hsE [1, 0] [3, 4, 5, 0, 1, 2] 0 Y Y Y Y)
     refine qY Y ?_ ?_
     ·refine ju (fun w => zeroValue33 w) Y (fun b_28 h139 => ?_)
      refine jn (hsE [1] [] 0 Y Y Y Y) ?_
      exact zk (h89 b_28 l_11.1 l_11.2.1 l_11.2.2 l_12.1 l_12.2.1 l_12.2.2 h127 h128 h129 h131 h132 h133) (sE Y) (hsE [1, 0] [3, 4, 5, 0, 1, 2] 0 Y Y Y Y)
     exact Qc
    refine qY Y ?_ ?_
    refine ju (fun w => zeroValue26 w) Y (fun b_29 h140 => ?_)
    refine jn (hsE [1] [] 0 Y Y Y Y) ?_
    exact zk (h120 b_29 l_11.1 l_11.2.1 l_11.2.2 h127 h128 h129) (sE Y) (hsE [1, 0] [0, 1, 2] 0 Y Y Y Y)
    refine qY Y ?_ ?_
    ·refine ju (fun w => zeroValue33 w) Y (fun b_30 h141 => ?_)
     refine jn (hsE [1] [] 0 Y Y Y Y) ?_
     exact zk (h111 b_30 l_11.1 l_11.2.1 l_11.2.2 h127 h128 h129) (sE Y) (hsE [1, 0] [0, 1, 2] 0 Y Y Y Y)
    exact Qc
   refine qY Y ?_ ?_
   refine ju (fun w => zeroValue26 w) Y (fun b_31 h142 => ?_)
   refine jn (hsE [1] [] 0 Y Y Y Y) (ZQ ?_)
   refine qY Y ?_ ?_
   ·refine jd [] [] Y Y Y Y Y Y Y call20 (fun w hh => Ke c0 qa0 na0 ca0 qa1 na1 ca1 qa2 na2 ca2 w (HV.callee (S0 := []) (vs0 := []) hh (roR hh 0 Y (roR hh 1 Y (roR hh 2 Y roN)))) hna0 hqa0 hla0 hna1 hqa1 hla1 hna2 hqa2 hla2 h21) (fun l_14 h143 => ?_)
    obtain ⟨h144, h145, h146⟩ := h143
    refine kx (S' := [_, _]) (vs' := [_, _, _]) [0, 1] [0, 1, 2] 0 Y Y Y Y (jn (hsE [1] [] 0 Y Y Y Y) ?_)
    exact zk (h120 b_31 l_14.1 l_14.2.1 l_14.2.2 h144 h145 h146) (sE Y) (hsE [1, 0] [0, 1, 2] 0 Y Y Y Y)
   refine qY Y ?_ ?_
   refine ju (fun w => zeroValue33 w) Y (fun b_32 h147 => ?_)
   refine jn (hsE [2] [] 0 Y Y Y Y) ?_
   exact zk (h103 b_31 b_32) (sE Y) (hsE [2, 1, 0] [] 0 Y Y Y Y)
   exact Qc
   refine qY Y ?_ ?_
   ·refine ju (fun w => zeroValue33 w) Y (fun b_33 h148 => ?_)
    refine jn (hsE [1] [] 0 Y Y Y Y) (ZQ ?_)
    refine qY Y ?_ ?_
    ·refine jd [] [] Y Y Y Y Y Y Y call20 (fun w hh => Ke c0 qa0 na0 ca0 qa1 na1 ca1 qa2 na2 ca2 w (HV.callee (S0 := []) (vs0 := []) hh (roR hh 0 Y (roR hh 1 Y (roR hh 2 Y roN)))) hna0 hqa0 hla0 hna1 hqa1 hla1 hna2 hqa2 hla2 h21) (fun l_15 h149 => ?_)
     obtain ⟨h150, h151, h152⟩ := h149
     refine kx (S' := [_, _]) (vs' := [_, _, _]) [0, 1] [0, 1, 2] 0 Y Y Y Y (jn (hsE [1] [] 0 Y Y Y Y) ?_)
     exact zk (h111 b_33 l_15.1 l_15.2.1 l_15.2.2 h150 h151 h152) (sE Y) (hsE [1, 0] [0, 1, 2] 0 Y Y Y Y)
    refine qY Y ?_ ?_
    refine ju (fun w => zeroValue26 w) Y (fun b_34 h153 => ?_)
    refine jn (hsE [2] [] 0 Y Y Y Y) ?_
    exact zk (h103 b_34 b_33) (sE Y) (hsE [2, 0, 1] [] 0 Y Y Y Y)
    exact Qc
   exact Qc
  intro l_3 hj
  obtain ⟨h14, h15, h16, h17, h18, h19, h20⟩ := hj
  replace hm := h13
  refine ja (jr (JC [_, _, _, _, _] 1 isAgg26 sizeOf26 Y Y Y Y (jj Y Y ?_)))
  obtain ⟨t48, h154, hm⟩ := bindO hm
  refine jd [] [] Y Y Y Y Y Y Y call47 (fun w hh => jaq o_1.own5 o_1.mine7 (qA l_3.2.2.2.1.q) l_3.2.2.2.1.n l_3.2.2.2.1.cap (qA l_3.2.2.2.2.1.q) l_3.2.2.2.2.1.n l_3.2.2.2.2.1.cap (qA l_3.2.2.2.2.2.1.q) l_3.2.2.2.2.2.1.n l_3.2.2.2.2.2.1.cap (qA l_3.2.2.1.q) l_3.2.2.1.n l_3.2.2.1.cap w (HV.callee (S0 := []) (vs0 := []) hh (roC (hh.vsepA 1 Y h15) (roC (hh.vsepA 2 Y h16) (roC (hh.vsepA 3 Y h17) (roC (hh.vsepA 0 Y h14) roN))))) (vlen RI h15 Y) (AOK.q (vne h15)) (h15).hle (vlen RSa h16 Y) (AOK.q (vne h16)) (h16).hle (vlen RSi h17 Y) (AOK.q (vne h17)) (h17).hle (vlen RI h14 Y) (AOK.q (vne h14)) (h14).hle h154) (fun l_16 h155 => ?_)
  refine jj Y Y (JD Y Y Y (JD Y Y Y (jo Y Y (jo Y Y (kY (JC [_, _, _, _, _] 2 isAgg33 sizeOf33 Y Y Y Y (jj Y Y ?_)))))))
  obtain ⟨t54, h156, hm⟩ := bindO hm
  refine jd [] [] Y Y Y Y Y Y Y call48 (fun w hh => Zv o_1.x6 sights1 (qA l_3.2.2.2.2.2.2.1.q) l_3.2.2.2.2.2.2.1.n l_3.2.2.2.2.2.2.1.cap (qA l_3.2.2.2.2.2.2.2.1.q) l_3.2.2.2.2.2.2.2.1.n l_3.2.2.2.2.2.2.2.1.cap (qA l_3.2.2.2.2.2.2.2.2.q) l_3.2.2.2.2.2.2.2.2.n l_3.2.2.2.2.2.2.2.2.cap qa3 na3 ca3 w (HV.callee (S0 := []) (vs0 := []) hh (roC (hh.vsepA 4 Y h18) (roC (hh.vsepA 5 Y h19) (roC (hh.vsepA 6 Y h20) (roR hh 3 Y roN))))) (vlen RI h18 Y) (AOK.q (vne h18)) (h18).hle (vlen RSa h19 Y) (AOK.q (vne h19)) (h19).hle (vlen RSi h20 Y) (AOK.q (vne h20)) (h20).hle hna3 hqa3 hla3 h156) (fun l_17 h157 => ?_)
  refine jj Y Y (JD Y Y Y (JD Y Y Y (jo Y Y (jo Y Y (jq (jh (jh ?_)))))))
  obtain ⟨o_2, h158, h159⟩ := bindO hm
  refine jM (ι := Unit) (fun l_18 => True) (fun l_18 => [(1, .slice qa3 na3 ca3), (2, ptr b 0), (5, ptr l_3.1 0), (6, ptr l_3.2.1 0), (7, sL l_3.2.2.1), (64, .bool o_2)]) (fun l_18 => [kc b #[.int .i64 c0.cells, .int .i64 c0.tides, .slice qa0 na0 ca0, .slice qa1 na1 ca1, .slice qa2 na2 ca2] 26, kc l_3.1 #[.int .i64 o_1.own5.cells, .int .i64 o_1.own5.tides, sL l_3.2.2.2.1, sL l_3.2.2.2.2.1, sL l_3.2.2.2.2.2.1] 26, kc l_3.2.1 #[.int .i64 o_1.x6.cells, .int .i64 o_1.x6.tides, sL l_3.2.2.2.2.2.2.1, sL l_3.2.2.2.2.2.2.2.1, sL l_3.2.2.2.2.2.2.2.2] 33]) (fun l_18 => [vL 3 l_3.2.2.1 (RI.enc o_1.mine7), vL 3 l_3.2.2.2.1 (RI.enc o_1.own5.fords), vL 98 l_3.2.2.2.2.1 (RSa.enc o_1.own5.sands), vL 55 l_3.2.2.2.2.2.1 (RSi.enc o_1.own5.sights), vL 3 l_3.2.2.2.2.2.2.1 (RI.enc o_1.x6.fords), vL 138 l_3.2.2.2.2.2.2.2.1 (RSa.enc o_1.x6.sands), vL 139 l_3.2.2.2.2.2.2.2.2 (RSi.enc o_1.x6.sights)]) ?_ ?_
  ·replace hm := h158
   refine jg (jj Y Y (jj Y Y (jc Y Y Y (fun w _ => Y6 (runUnderlying4 w) Y Y) (jj Y Y ?_))))
   refine jW 60 Y (fun h160 => ?_) (fun h160 => ?_)
   ·replace hm := ifT (h160) hm
    refine g_k Y Y Y Y (g_k Y Y Y Y (g_k Y Y Y Y (zo Y Y Y (jx ?_))))
    obtain rfl := sj hm
    exact jk () (trivial) (sE Y) (fun w hh => hh)
   replace hm := ifN h160 hm
   refine jb Y Y (jj Y Y (jb Y Y (jj Y Y (jb Y Y (jc Y Y Y (fun _ _ => Kw Y Y) (yI Y Y Y (jx ?_)))))))
   obtain rfl := sj hm
   exact jk () (trivial) (sE Y) (fun w hh => hh)
  intro l_18 hj
  replace hm := h159
  refine ja ?_
  refine js Y (fun h161 => ?_) (fun h161 => ?_)
  ·replace hm := ifT (h161) hm
   refine jr (jo Y Y (jq (jv (je ?_))))
   obtain rfl := sj hm
   refine jm Y (fun w hh => (.tmp Y .nil)) (fun w hh => ⟨(), rfl, trivial, hh.se [] [] 4 Y Y Y rfl⟩)
  replace hm := ifN h161 hm
  refine jt (ja (jr (JC [_, _, _, _, _] 2 isAgg33 sizeOf33 Y Y Y Y ?_)))
  obtain ⟨t66, h162, hm⟩ := bindO hm
  refine jd [] [] Y Y Y Y Y Y Y call22 (fun w hh => QL o_1.x6 (qA l_3.2.2.2.2.2.2.1.q) l_3.2.2.2.2.2.2.1.n l_3.2.2.2.2.2.2.1.cap (qA l_3.2.2.2.2.2.2.2.1.q) l_3.2.2.2.2.2.2.2.1.n l_3.2.2.2.2.2.2.2.1.cap (qA l_3.2.2.2.2.2.2.2.2.q) l_3.2.2.2.2.2.2.2.2.n l_3.2.2.2.2.2.2.2.2.cap w (HV.callee (S0 := []) (vs0 := []) hh (roC (hh.vsepA 4 Y h18) (roC (hh.vsepA 5 Y h19) (roC (hh.vsepA 6 Y h20) roN)))) (vlen RI h18 Y) (AOK.q (vne h18)) (h18).hle (vlen RSa h19 Y) (AOK.q (vne h19)) (h19).hle (vlen RSi h20 Y) (AOK.q (vne h20)) (h20).hle h162) (fun l_19 h163 => ?_)
  refine jo Y Y (kY (jj Y Y (jo Y Y (kY (jc Y Y Y (fun _ _ => qr Y) (jc Y Y Y (fun _ _ => qr Y) (jq ?_)))))))
  refine jh (zK 3 (zK 3 ?_))
  obtain ⟨o_3, h164, h165⟩ := bindO hm
  refine jM (ι := VL × VL) (fun l_20 => VOK 1 l_20.1.n l_20.1.cap (RI.enc o_3.clash13) l_20.1.sp l_20.1.q ∧ VOK 1 l_20.2.n l_20.2.cap (RI.enc o_3.wrong14) l_20.2.sp l_20.2.q) (fun l_20 => [(1, .slice qa3 na3 ca3), (2, ptr b 0), (5, ptr l_3.1 0), (7, sL l_3.2.2.1), (11, .int .i64 t66), (12, .int .i64 o_3.u12), (13, sL l_20.1), (14, sL l_20.2)]) (fun l_20 => [kc b #[.int .i64 c0.cells, .int .i64 c0.tides, .slice qa0 na0 ca0, .slice qa1 na1 ca1, .slice qa2 na2 ca2] 26, kc l_3.1 #[.int .i64 o_1.own5.cells, .int .i64 o_1.own5.tides, sL l_3.2.2.2.1, sL l_3.2.2.2.2.1, sL l_3.2.2.2.2.2.1] 26, kc l_3.2.1 #[.int .i64 o_1.x6.cells, .int .i64 o_1.x6.tides, sL l_3.2.2.2.2.2.2.1, sL l_3.2.2.2.2.2.2.2.1, sL l_3.2.2.2.2.2.2.2.2] 33]) (fun l_20 => [vL 3 l_3.2.2.1 (RI.enc o_1.mine7), vL 3 l_20.1 (RI.enc o_3.clash13), vL 3 l_20.2 (RI.enc o_3.wrong14), vL 3 l_3.2.2.2.1 (RI.enc o_1.own5.fords), vL 98 l_3.2.2.2.2.1 (RSa.enc o_1.own5.sands), vL 55 l_3.2.2.2.2.2.1 (RSi.enc o_1.own5.sights), vL 3 l_3.2.2.2.2.2.2.1 (RI.enc o_1.x6.fords), vL 138 l_3.2.2.2.2.2.2.2.1 (RSa.enc o_1.x6.sands), vL 139 l_3.2.2.2.2.2.2.2.2 (RSi.enc o_1.x6.sights)]) ?_ ?_
  ·replace hm := h164
   refine jr (jj Y Y (jc Y Y Y (fun _ _ => Jw Y Y) (jq ?_)))
   refine js Y (fun h168 => ?_) (fun h168 => ?_)
   ·replace hm := ifD h168 hm
    refine jr (jo Y Y (jq (jh ?_)))
    obtain ⟨o_4, h169, h170⟩ := bindO hm
    refine jM (ι := VL) (fun l_21 => VOK 1 l_21.n l_21.cap (RI.enc o_4.clash13) l_21.sp l_21.q) (fun l_21 => [(1, .slice qa3 na3 ca3), (2, ptr b 0), (5, ptr l_3.1 0), (6, ptr l_3.2.1 0), (7, sL l_3.2.2.1), (11, .int .i64 t66), (12, .int .i64 o_4.u12), (13, sL l_21)]) (fun l_21 => [kc b #[.int .i64 c0.cells, .int .i64 c0.tides, .slice qa0 na0 ca0, .slice qa1 na1 ca1, .slice qa2 na2 ca2] 26, kc l_3.1 #[.int .i64 o_1.own5.cells, .int .i64 o_1.own5.tides, sL l_3.2.2.2.1, sL l_3.2.2.2.2.1, sL l_3.2.2.2.2.2.1] 26, kc l_3.2.1 #[.int .i64 o_1.x6.cells, .int .i64 o_1.x6.tides, sL l_3.2.2.2.2.2.2.1, sL l_3.2.2.2.2.2.2.2.1, sL l_3.2.2.2.2.2.2.2.2] 33]) (fun l_21 => [vL 3 l_3.2.2.1 (RI.enc o_1.mine7), vL 3 l_21 (RI.enc o_4.clash13), vL 3 l_3.2.2.2.1 (RI.enc o_1.own5.fords), vL 98 l_3.2.2.2.2.1 (RSa.enc o_1.own5.sands), vL 55 l_3.2.2.2.2.2.1 (RSi.enc o_1.own5.sights), vL 3 l_3.2.2.2.2.2.2.1 (RI.enc o_1.x6.fords), vL 138 l_3.2.2.2.2.2.2.2.1 (RSa.enc o_1.x6.sands), vL 139 l_3.2.2.2.2.2.2.2.2 (RSi.enc o_1.x6.sights)]) ?_ ?_
    ·replace hm := h169
     refine jr (JC [_, _, _, _, _] 2 isAgg33 sizeOf33 Y Y Y Y ?_)
     obtain ⟨t72, h172, hm⟩ := bindO hm
     refine jd [] [] Y Y Y Y Y Y Y call49 (fun w hh => Zw o_1.x6 (qA l_3.2.2.2.2.2.2.1.q) l_3.2.2.2.2.2.2.1.n l_3.2.2.2.2.2.2.1.cap (qA l_3.2.2.2.2.2.2.2.1.q) l_3.2.2.2.2.2.2.2.1.n l_3.2.2.2.2.2.2.2.1.cap (qA l_3.2.2.2.2.2.2.2.2.q) l_3.2.2.2.2.2.2.2.2.n l_3.2.2.2.2.2.2.2.2.cap w (HV.callee (S0 := []) (vs0 := []) hh (roC (hh.vsepA 6 Y h18) (roC (hh.vsepA 7 Y h19) (roC (hh.vsepA 8 Y h20) roN)))) (vlen RI h18 Y) (AOK.q (vne h18)) (h18).hle (vlen RSa h19 Y) (AOK.q (vne h19)) (h19).hle (vlen RSi h20 Y) (AOK.q (vne h20)) (h20).hle h172) (fun l_22 h173 => ?_)
     obtain ⟨h174, h175⟩ := h173
     refine kx (S' := [_, _, _]) (vs' := [_, _, _, _, _, _, _, _, _, _]) [0, 1, 2] [0, 1, 2, 3, 4, 5, 6, 7, 8, 9] 0 Y Y Y Y (jj Y Y (JD Y Y Y (JD Y Y Y (jo Y Y (jo Y Y (kY (jj Y Y ?_)))))))
     refine jc Y Y Y (fun _ _ => zJ Y) (jq ?_)
     refine js Y (fun h176 => ?_) (fun h176 => ?_)
     ·replace hm := ifT (h176) hm
      refine jg (jo Y Y (jx ?_))
      obtain rfl := sj hm
      exact jk l_22 (h174) (sE Y) (hsE [0, 1, 2] [3, 0, 4, 5, 6, 7, 8, 9] 0 Y Y Y Y)
     replace hm := ifN h176 hm
     refine jt ?_
     obtain rfl := sj hm
     exact jk l_22 (h174) (sE Y) (hsE [0, 1, 2] [3, 0, 4, 5, 6, 7, 8, 9] 0 Y Y Y Y)
    intro l_21 hj
    have h171 := hj
    replace hm := h170
    refine ja (jg (JC [_, _, _, _, _] 2 isAgg33 sizeOf33 Y Y Y Y ?_))
    obtain ⟨t78, h177, hm⟩ := bindO hm
    refine jd [] [] Y Y Y Y Y Y Y call50 (fun w hh => Zs o_1.x6 (qA l_3.2.2.2.2.2.2.1.q) l_3.2.2.2.2.2.2.1.n l_3.2.2.2.2.2.2.1.cap (qA l_3.2.2.2.2.2.2.2.1.q) l_3.2.2.2.2.2.2.2.1.n l_3.2.2.2.2.2.2.2.1.cap (qA l_3.2.2.2.2.2.2.2.2.q) l_3.2.2.2.2.2.2.2.2.n l_3.2.2.2.2.2.2.2.2.cap w (HV.callee (S0 := []) (vs0 := []) hh (roC (hh.vsepA 5 Y h18) (roC (hh.vsepA 6 Y h19) (roC (hh.vsepA 7 Y h20) roN)))) (vlen RI h18 Y) (AOK.q (vne h18)) (h18).hle (vlen RSa h19 Y) (AOK.q (vne h19)) (h19).hle (vlen RSi h20 Y) (AOK.q (vne h20)) (h20).hle h177) (fun l_23 h178 => ?_)
    have h179 := h178
    refine kx (S' := [_, _, _]) (vs' := [_, _, _, _, _, _, _, _, _]) [0, 1, 2] [0, 1, 2, 3, 4, 5, 6, 7, 8] 0 Y Y Y Y (jo Y Y (jx ?_))
    obtain rfl := sj hm
    exact jk (l_21, l_23) (⟨h171, h179⟩) (sE Y) (hsE [0, 1, 2] [1, 2, 0, 3, 4, 5, 6, 7, 8] 0 Y Y Y Y)
   replace hm := ifE h168 hm
   refine jt ?_
   obtain rfl := sj hm
   exact jk (⟨none, 0, 0, []⟩, ⟨none, 0, 0, []⟩) (⟨VOK.nil, VOK.nil⟩) (sE Y) (hsE [0, 1, 2] [2, 1, 0, 3, 4, 5, 6, 7, 8] 0 Y Y Y Y)
  intro l_20 hj
  obtain ⟨h166, h167⟩ := hj
  replace hm := h165
  refine ja (jr (JC [_, _, _, _, _] 1 isAgg26 sizeOf26 Y Y Y Y ?_))
  obtain ⟨t81, h180, hm⟩ := bindO hm
  refine jd [] [] Y Y Y Y Y Y Y call51 (fun w hh => jan o_1.own5 (qA l_3.2.2.2.1.q) l_3.2.2.2.1.n l_3.2.2.2.1.cap (qA l_3.2.2.2.2.1.q) l_3.2.2.2.2.1.n l_3.2.2.2.2.1.cap (qA l_3.2.2.2.2.2.1.q) l_3.2.2.2.2.2.1.n l_3.2.2.2.2.2.1.cap w (HV.callee (S0 := []) (vs0 := []) hh (roC (hh.vsepA 3 Y h15) (roC (hh.vsepA 4 Y h16) (roC (hh.vsepA 5 Y h17) roN)))) (vlen RI h15 Y) (AOK.q (vne h15)) (h15).hle (vlen RSa h16 Y) (AOK.q (vne h16)) (h16).hle (vlen RSi h17 Y) (AOK.q (vne h17)) (h17).hle h180) (fun l_24 h181 => ?_)
  have h182 := h181
  refine kx (S' := [_, _, _]) (vs' := [_, _, _, _, _, _, _, _, _, _]) [0, 1, 2] [0, 1, 2, 3, 4, 5, 6, 7, 8, 9] 0 Y Y Y Y (jj Y Y (JD Y Y Y (JD Y Y Y (jo Y Y (jo Y Y (kY (JC [_, _, _, _, _] 1 isAgg26 sizeOf26 Y Y Y Y ?_)))))))
  obtain ⟨t86, h183, hm⟩ := bindO hm
  refine jd [] [] Y Y Y Y Y Y Y call52 (fun w hh => Zh o_1.own5 (qA l_3.2.2.2.1.q) l_3.2.2.2.1.n l_3.2.2.2.1.cap (qA l_3.2.2.2.2.1.q) l_3.2.2.2.2.1.n l_3.2.2.2.2.1.cap (qA l_3.2.2.2.2.2.1.q) l_3.2.2.2.2.2.1.n l_3.2.2.2.2.2.1.cap w (HV.callee (S0 := []) (vs0 := []) hh (roC (hh.vsepA 4 Y h15) (roC (hh.vsepA 5 Y h16) (roC (hh.vsepA 6 Y h17) roN)))) (vlen RI h15 Y) (AOK.q (vne h15)) (h15).hle (vlen RSa h16 Y) (AOK.q (vne h16)) (h16).hle (vlen RSi h17 Y) (AOK.q (vne h17)) (h17).hle h183) (fun l_25 h184 => ?_)
  have h185 := h184
  refine kx (S' := [_, _, _]) (vs' := [_, _, _, _, _, _, _, _, _, _, _]) [0, 1, 2] [0, 1, 2, 3, 4, 5, 6, 7, 8, 9, 10] 0 Y Y Y Y (jj Y Y (JD Y Y Y (JD Y Y Y (jo Y Y (jo Y Y (jq (jh ?_)))))))
  obtain ⟨o_5, h186, h187⟩ := bindO hm
  refine jM (ι := Unit) (fun l_26 => True) (fun l_26 => [(4, .bool o_5)]) (fun l_26 => [kc b #[.int .i64 c0.cells, .int .i64 c0.tides, .slice qa0 na0 ca0, .slice qa1 na1 ca1, .slice qa2 na2 ca2] 26, kc l_3.1 #[.int .i64 o_1.own5.cells, .int .i64 o_1.own5.tides, sL l_3.2.2.2.1, sL l_3.2.2.2.2.1, sL l_3.2.2.2.2.2.1] 26, kc l_3.2.1 #[.int .i64 o_1.x6.cells, .int .i64 o_1.x6.tides, sL l_3.2.2.2.2.2.2.1, sL l_3.2.2.2.2.2.2.2.1, sL l_3.2.2.2.2.2.2.2.2] 33]) (fun l_26 => [vL 3 l_3.2.2.2.1 (RI.enc o_1.own5.fords), vL 98 l_3.2.2.2.2.1 (RSa.enc o_1.own5.sands), vL 55 l_3.2.2.2.2.2.1 (RSi.enc o_1.own5.sights), vL 3 l_3.2.2.2.2.2.2.1 (RI.enc o_1.x6.fords), vL 138 l_3.2.2.2.2.2.2.2.1 (RSa.enc o_1.x6.sands), vL 139 l_3.2.2.2.2.2.2.2.2 (RSi.enc o_1.x6.sights)]) ?_ ?_
  ·replace hm := h186
   refine jg (jj Y Y (jj Y Y (jc Y Y Y (fun _ _ => Jw Y Y) (jj Y Y ?_))))
   refine jW 92 Y (fun h188 => ?_) (fun h188 => ?_)
   ·replace hm := ifD h188 hm
    refine jb Y Y (jj Y Y (jb Y Y (jj Y Y (jb Y Y (jc Y Y Y (fun _ _ => Jw Y Y) (zo Y Y Y (jj Y Y ?_)))))))
    refine jW 97 Y (fun h189 => ?_) (fun h189 => ?_)
    ·replace hm := ifD h189 hm
     refine jb Y Y (jj Y Y (jb Y Y (jj Y Y (jb Y Y ?_))))
     obtain ⟨t100, h190, hm⟩ := bindO hm
     refine jd [] [] Y Y Y Y Y Y Y call45 (fun w hh => Qm t81.r0 o_3.clash13 (qA l_24.q) l_24.n l_24.cap (qA l_20.1.q) l_20.1.n l_20.1.cap w (HV.callee (S0 := []) (vs0 := []) hh (roC (hh.vsepA 1 Y h182) (roC (hh.vsepA 3 Y h166) roN))) (vlen RI h182 Y) (AOK.q (vne h182)) (h182).hle (vlen RI h166 Y) (AOK.q (vne h166)) (h166).hle h190) (fun l_27 h191 => ?_)
     refine zo Y Y Y (jj Y Y ?_)
     refine jW 102 Y (fun h192 => ?_) (fun h192 => ?_)
     ·replace hm := ifT (h192) hm
      refine jb Y Y (jj Y Y (jb Y Y (jj Y Y (jb Y Y ?_))))
      obtain ⟨t105, h193, hm⟩ := bindO hm
      refine jd [] [] Y Y Y Y Y Y Y call45 (fun w hh => Qm t86.r0 o_3.wrong14 (qA l_25.q) l_25.n l_25.cap (qA l_20.2.q) l_20.2.n l_20.2.cap w (HV.callee (S0 := []) (vs0 := []) hh (roC (hh.vsepA 0 Y h185) (roC (hh.vsepA 4 Y h167) roN))) (vlen RI h185 Y) (AOK.q (vne h185)) (h185).hle (vlen RI h167 Y) (AOK.q (vne h167)) (h167).hle h193) (fun l_28 h194 => ?_)
      refine zo Y Y Y (jj Y Y ?_)
      refine jW 107 Y (fun h195 => ?_) (fun h195 => ?_)
      ·replace hm := ifT (h195) hm
       refine jb Y Y (JC [_, _, _, _, _] 1 isAgg26 sizeOf26 Y Y Y Y (jb Y Y (JC [_, _, _, _, _] 0 isAgg26 sizeOf26 Y Y Y Y (jb Y Y ?_))))
       obtain ⟨t110, h196, hm⟩ := bindO hm
       refine jd [] [] Y Y Y Y Y Y Y call31 (fun w hh => ZJ o_1.own5 c0 (qA l_3.2.2.2.1.q) l_3.2.2.2.1.n l_3.2.2.2.1.cap (qA l_3.2.2.2.2.1.q) l_3.2.2.2.2.1.n l_3.2.2.2.2.1.cap (qA l_3.2.2.2.2.2.1.q) l_3.2.2.2.2.2.1.n l_3.2.2.2.2.2.1.cap qa0 na0 ca0 qa1 na1 ca1 qa2 na2 ca2 w (HV.callee (S0 := []) (vs0 := []) hh (roC (hh.vsepA 5 Y h15) (roC (hh.vsepA 6 Y h16) (roC (hh.vsepA 7 Y h17) (roR hh 0 Y (roR hh 1 Y (roR hh 2 Y roN))))))) (vlen RI h15 Y) (AOK.q (vne h15)) (h15).hle (vlen RSa h16 Y) (AOK.q (vne h16)) (h16).hle (vlen RSi h17 Y) (AOK.q (vne h17)) (h17).hle hna0 hqa0 hla0 hna1 hqa1 hla1 hna2 hqa2 hla2 h196) (fun l_29 h197 => ?_)
       refine zo Y Y Y (jj Y Y ?_)
       refine jW 112 Y (fun h198 => ?_) (fun h198 => ?_)
       ·replace hm := ifT (h198) hm
        refine jb Y Y (jj Y Y (jb Y Y (jj Y Y (jb Y Y ?_))))
        obtain ⟨t115, h199, hm⟩ := bindO hm
        refine jd [] [] Y Y Y Y Y Y Y call45 (fun w hh => Qm o_1.mine7 sights1 (qA l_3.2.2.1.q) l_3.2.2.1.n l_3.2.2.1.cap qa3 na3 ca3 w (HV.callee (S0 := []) (vs0 := []) hh (roC (hh.vsepA 2 Y h14) (roR hh 3 Y roN))) (vlen RI h14 Y) (AOK.q (vne h14)) (h14).hle hna3 hqa3 hla3 h199) (fun l_30 h200 => ?_)
        refine zo Y Y Y (jj Y Y ?_)
        refine jW 117 Y (fun h201 => ?_) (fun h201 => ?_)
        ·replace hm := ifT (h201) hm
         refine jb Y Y ?_
         obtain ⟨t118, h202, hm⟩ := bindO hm
         refine jd [] [] Y Y Y Y Y Y Y call19 (fun w hh => QQ  w (HV.callee (S0 := []) (vs0 := []) hh roN)  h202) (fun l_31 h203 => ?_)
         refine zo Y Y Y (jo Y Y (jx ?_))
         obtain rfl := sj hm
         exact jk () (trivial) (sE Y) (hsE [0, 1, 2] [5, 6, 7, 8, 9, 10] 0 Y Y Y Y)
        replace hm := ifN h201 hm
        refine g_k Y Y Y Y (yI Y Y Y (jo Y Y (jx ?_)))
        obtain rfl := sj hm
        exact jk () (trivial) (sE Y) (hsE [0, 1, 2] [5, 6, 7, 8, 9, 10] 0 Y Y Y Y)
       replace hm := ifN h198 hm
       refine g_k Y Y Y Y (g_k Y Y Y Y (g_k Y Y Y Y (yI Y Y Y (jj Y Y (g_k Y Y Y Y (yI Y Y Y (jo Y Y ?_)))))))
       refine jx ?_
       obtain rfl := sj hm
       exact jk () (trivial) (sE Y) (hsE [0, 1, 2] [5, 6, 7, 8, 9, 10] 0 Y Y Y Y)
      replace hm := ifN h195 hm
      refine g_k Y Y Y Y (g_k Y Y Y Y (g_k Y Y Y Y (yI Y Y Y (jj Y Y (g_k Y Y Y Y (g_k Y Y Y Y (g_k Y Y Y Y ?_)))))))
      refine yI Y Y Y (jj Y Y (g_k Y Y Y Y (yI Y Y Y (jo Y Y (jx ?_)))))
      obtain rfl := sj hm
      exact jk () (trivial) (sE Y) (hsE [0, 1, 2] [5, 6, 7, 8, 9, 10] 0 Y Y Y Y)
     replace hm := ifN h192 hm
     refine g_k Y Y Y Y (g_k Y Y Y Y (g_k Y Y Y Y (yI Y Y Y (jj Y Y (g_k Y Y Y Y (g_k Y Y Y Y (g_k Y Y Y Y ?_)))))))
     refine yI Y Y Y (jj Y Y (g_k Y Y Y Y (g_k Y Y Y Y (g_k Y Y Y Y (yI Y Y Y (jj Y Y (g_k Y Y Y Y ?_)))))))
     refine yI Y Y Y (jo Y Y (jx ?_))
     obtain rfl := sj hm
     exact jk () (trivial) (sE Y) (hsE [0, 1, 2] [5, 6, 7, 8, 9, 10] 0 Y Y Y Y)
    replace hm := ifE h189 hm
    refine g_k Y Y Y Y (g_k Y Y Y Y (g_k Y Y Y Y (yI Y Y Y (jj Y Y (g_k Y Y Y Y (g_k Y Y Y Y (g_k Y Y Y Y ?_)))))))
    refine yI Y Y Y (jj Y Y (g_k Y Y Y Y (g_k Y Y Y Y (g_k Y Y Y Y (yI Y Y Y (jj Y Y (g_k Y Y Y Y ?_)))))))
    refine g_k Y Y Y Y (g_k Y Y Y Y (yI Y Y Y (jj Y Y (g_k Y Y Y Y (yI Y Y Y (jo Y Y (jx ?_)))))))
    obtain rfl := sj hm
    exact jk () (trivial) (sE Y) (hsE [0, 1, 2] [5, 6, 7, 8, 9, 10] 0 Y Y Y Y)
   replace hm := ifE h188 hm
   refine g_k Y Y Y Y (g_k Y Y Y Y (g_k Y Y Y Y (yI Y Y Y (jj Y Y (g_k Y Y Y Y (g_k Y Y Y Y (g_k Y Y Y Y ?_)))))))
   refine yI Y Y Y (jj Y Y (g_k Y Y Y Y (g_k Y Y Y Y (g_k Y Y Y Y (yI Y Y Y (jj Y Y (g_k Y Y Y Y ?_)))))))
   refine g_k Y Y Y Y (g_k Y Y Y Y (yI Y Y Y (jj Y Y (g_k Y Y Y Y (g_k Y Y Y Y (g_k Y Y Y Y (yI Y Y Y ?_)))))))
   refine jj Y Y (g_k Y Y Y Y (yI Y Y Y (jo Y Y (jx ?_))))
   obtain rfl := sj hm
   exact jk () (trivial) (sE Y) (hsE [0, 1, 2] [5, 6, 7, 8, 9, 10] 0 Y Y Y Y)
  intro l_26 hj
  replace hm := h187
  refine ja (jv ?_)
  obtain rfl := sj hm
  refine jm Y (fun w hh => (.tmp Y .nil)) (fun w hh => ⟨(), rfl, trivial, hh.se [] [] 4 Y Y Y rfl⟩)
end Go.Proofs.Wb

namespace Go.Proofs.Wb
open Go Go.Fw Go.Gx Go.Sb
set_option linter.unusedVariables false
set_option maxRecDepth 100000
def cOut (f : List Int) (i : Nat) : Bool := !decide ((i : Int) ∈ f)
def cIn (f : List Int) (i : Nat) : Bool := decide ((i : Int) ∈ f)
theorem jaX {d0 d1 : Int} {f : List Int} {a : List Sand} {sg : List Sight} {r f1 : List Int} (h : f.length ≤ 3) (hs : sg.length ≤ 100) (hf1 : f1.length < 1000000) (s : State) : yr d0 d1 f a sg r f1 s = some (agP (cOut f1) sg s.after (clS f.length s)) := by
  unfold yr
  rw [iterM_any0 (f := qG sg s f1 d0 d1 f a r) sg.length (fun k => cOut f1 k && offS s.after (clS f.length s) (sg.getD k default)) false (fun k hk => ?_) ?_ (FU_lt (by omega)), Option.bind_some]
  · unfold agP
    cases (List.range sg.length).any fun k => cOut f1 k && offS s.after (clS f.length s) (sg.getD k default) <;> rfl
  · unfold qG
    rw [if_neg (by omega)]
  · have hp : zi (k : Int) f1 = some (cOut f1 k) := by
      unfold zi
      rw [Kf hf1, Option.bind_some]
      rfl
    unfold qG
    rw [if_pos (by omega), ix_nat default hk, Option.bind_some, hp, Option.bind_some, jac h, Option.bind_some, Kf (by unfold clS; simp; omega), Option.bind_some, addc_eq (by omega)]
    unfold offS
    by_cases h1 : (sg.getD k default).after = s.after
    · rw [if_pos h1, decide_eq_true h1, Bool.true_and]
      cases cOut f1 k with
      | true => rw [if_pos rfl, Option.bind_some, Bool.true_and]; split <;> rfl
      | false => rw [if_neg (by decide), Option.bind_some, Bool.false_and]; rfl
    · rw [if_neg h1, Option.bind_some, decide_eq_false h1, Bool.false_and, Bool.and_false]
      rfl
def MR1 (c : Channel) (f1 : List Int) (fu : Nat) (s : State) (ml : ML) : Option (Int × ML) := (jS fu s ml c.cells c.tides c.fords c.sands c.sights (rchL c) f1).map fun q => (q.r0, q.a11)
theorem restEq1 {c : Channel} (r : Right c) {f1 : List Int} (hf1 : f1.length < 1000000) : RestEq (MR1 c f1) (VS c) (agS (cOut f1) c) (nxS c) c.tides where
  eq fu s ml hV := by
    have hf := r.fords
    have hs := r.sights
    unfold MR1
    rw [jS]
    unfold yH
    by_cases h1 : (aget ml s).isSome = true
    · rw [if_pos h1, if_pos h1]; rfl
    · rw [if_neg h1, if_neg h1, jaX (by omega) (by omega) hf1, Option.bind_some, not_true_if]
      show _ = if agS (cOut f1) c s = true then _ else _
      unfold agS
      by_cases h2 : agP (cOut f1) c.sights s.after (clS c.fords.length s) = true
      · rw [if_pos h2, if_pos h2]
        by_cases h3 : s.after = c.tides
        · rw [if_pos h3, if_pos h3]; rfl
        · rw [if_neg h3, if_neg h3]
          unfold ky
          rw [Option.bind_some, if_pos (VS_next r hV)]
          have hp := iterL_pair (fun q : kG => (q.n9, q.a11)) (f := qi (jS fu) c.cells c.tides c.fords c.sands c.sights (rchL c) f1) (f' := fR (MR1 c f1 fu)) (fun x q => by
            unfold qi fR MR1
            cases jS fu x q.a11 c.cells c.tides c.fords c.sands c.sights (rchL c) f1 with
            | none => rfl
            | some q' =>
              simp only [Option.bind_some, Option.map_some]
              cases addc q.n9 q'.r0 <;> rfl) (nxS c s) ⟨0, ml⟩
          simp only at hp
          show _ = (iterL (fR (MR1 c f1 fu)) (nxS c s) (0, ml)).bind _
          rw [← hp]
          unfold nxS
          cases iterL (qi (jS fu) c.cells c.tides c.fords c.sands c.sights (rchL c) f1) (nextL c.cells (rchL c) (c.fords.length : Int) s) ⟨0, ml⟩ <;> rfl
      · rw [if_neg h2, if_neg h2]; rfl
  nxV s t hs hl ht := nxS_V r hs hl ht
  le s hs := hs.2.2
  len s := nxS_len r s
theorem Z0 {c : Channel} (r : Right c) {f1 : List Int} (hf1 : f1.length < 1000000) : yi c.cells c.tides c.fords c.sands c.sights (rchL c) f1 = some (decide (0 < cntS (cOut f1) c)) := by
  have hf := r.fords
  have ht := r.tides
  unfold yi Jd
  rw [Y8 (by omega), Option.bind_some]
  obtain ⟨ml, e, s1, c1, _, i1⟩ := rest_spec (restEq1 r hf1) ht (c.tides - (first c).after).toNat FU (first c) [] (first_V r) (Int.le_refl _) rfl (by unfold first FU; simp only; omega) (fun x v hx => by simp [aget, afind] at hx) (fun x hx => by simp [aget, afind] at hx)
  unfold MR1 at e
  rw [Option.map_eq_some_iff] at e
  obtain ⟨q, e1, e2⟩ := e
  simp only [Prod.mk.injEq] at e2
  show ((jS FU (first c) [] c.cells c.tides c.fords c.sands c.sights (rchL c) f1).bind _).bind _ = _
  rw [e1, Option.bind_some, Option.bind_some, Option.bind_some, e2.2]
  obtain ⟨v, hv⟩ := Option.isSome_iff_exists.1 i1
  have h3 := s1 _ _ hv
  show some (decide (0 < (aget ml (first c)).getD 0)) = _
  rw [hv, Option.getD_some, h3]
  have : valR (nxS c) (agS (cOut f1) c) c.tides (first c) = (cntS (cOut f1) c : Int) := by
    unfold valR cntS first
    simp
  rw [this]
  congr 1
  rw [Bool.eq_iff_iff, decide_eq_true_eq, decide_eq_true_eq]
  omega
theorem jaY {d0 d1 : Int} {f : List Int} {a : List Sand} {sg : List Sight} {r f1 : List Int} (h : f.length ≤ 3) (hs : sg.length ≤ 100) (hf1 : f1.length < 1000000) (s : State) : yy d0 d1 f a sg r f1 s = some (agP (cIn f1) sg s.after (clS f.length s)) := by
  unfold yy
  rw [iterM_any0 (f := qI sg s f1 d0 d1 f a r) sg.length (fun k => cIn f1 k && offS s.after (clS f.length s) (sg.getD k default)) false (fun k hk => ?_) ?_ (FU_lt (by omega)), Option.bind_some]
  · unfold agP
    cases (List.range sg.length).any fun k => cIn f1 k && offS s.after (clS f.length s) (sg.getD k default) <;> rfl
  · unfold qI
    rw [if_neg (by omega)]
  · have hp : J6 (k : Int) f1 = some (cIn f1 k) := by
      unfold J6
      rw [Kf hf1, Option.bind_some]
      rfl
    unfold qI
    rw [if_pos (by omega), ix_nat default hk, Option.bind_some, hp, Option.bind_some, jac h, Option.bind_some, Kf (by unfold clS; simp; omega), Option.bind_some, addc_eq (by omega)]
    unfold offS
    by_cases h1 : (sg.getD k default).after = s.after
    · rw [if_pos h1, decide_eq_true h1, Bool.true_and]
      cases cIn f1 k with
      | true => rw [if_pos rfl, Option.bind_some, Bool.true_and]; split <;> rfl
      | false => rw [if_neg (by decide), Option.bind_some, Bool.false_and]; rfl
    · rw [if_neg h1, Option.bind_some, decide_eq_false h1, Bool.false_and, Bool.and_false]
      rfl
def MR2 (c : Channel) (f1 : List Int) (fu : Nat) (s : State) (ml : ML) : Option (Int × ML) := (jT fu s ml c.cells c.tides c.fords c.sands c.sights (rchL c) f1).map fun q => (q.r0, q.a11)
theorem restEq2 {c : Channel} (r : Right c) {f1 : List Int} (hf1 : f1.length < 1000000) : RestEq (MR2 c f1) (VS c) (agS (cIn f1) c) (nxS c) c.tides where
  eq fu s ml hV := by
    have hf := r.fords
    have hs := r.sights
    unfold MR2
    rw [jT]
    unfold yG
    by_cases h1 : (aget ml s).isSome = true
    · rw [if_pos h1, if_pos h1]; rfl
    · rw [if_neg h1, if_neg h1, jaY (by omega) (by omega) hf1, Option.bind_some, not_true_if]
      show _ = if agS (cIn f1) c s = true then _ else _
      unfold agS
      by_cases h2 : agP (cIn f1) c.sights s.after (clS c.fords.length s) = true
      · rw [if_pos h2, if_pos h2]
        by_cases h3 : s.after = c.tides
        · rw [if_pos h3, if_pos h3]; rfl
        · rw [if_neg h3, if_neg h3]
          unfold ky
          rw [Option.bind_some, if_pos (VS_next r hV)]
          have hp := iterL_pair (fun q : kK => (q.n9, q.a11)) (f := qk (jT fu) c.cells c.tides c.fords c.sands c.sights (rchL c) f1) (f' := fR (MR2 c f1 fu)) (fun x q => by
            unfold qk fR MR2
            cases jT fu x q.a11 c.cells c.tides c.fords c.sands c.sights (rchL c) f1 with
            | none => rfl
            | some q' =>
              simp only [Option.bind_some, Option.map_some]
              cases addc q.n9 q'.r0 <;> rfl) (nxS c s) ⟨0, ml⟩
          simp only at hp
          show _ = (iterL (fR (MR2 c f1 fu)) (nxS c s) (0, ml)).bind _
          rw [← hp]
          unfold nxS
          cases iterL (qk (jT fu) c.cells c.tides c.fords c.sands c.sights (rchL c) f1) (nextL c.cells (rchL c) (c.fords.length : Int) s) ⟨0, ml⟩ <;> rfl
      · rw [if_neg h2, if_neg h2]; rfl
  nxV s t hs hl ht := nxS_V r hs hl ht
  le s hs := hs.2.2
  len s := nxS_len r s
theorem Y2 {c : Channel} (r : Right c) {f1 : List Int} (hf1 : f1.length < 1000000) : kT c.cells c.tides c.fords c.sands c.sights (rchL c) f1 = some (decide (0 < cntS (cIn f1) c)) := by
  have hf := r.fords
  have ht := r.tides
  unfold kT Jk
  rw [Y8 (by omega), Option.bind_some]
  obtain ⟨ml, e, s1, c1, _, i1⟩ := rest_spec (restEq2 r hf1) ht (c.tides - (first c).after).toNat FU (first c) [] (first_V r) (Int.le_refl _) rfl (by unfold first FU; simp only; omega) (fun x v hx => by simp [aget, afind] at hx) (fun x hx => by simp [aget, afind] at hx)
  unfold MR2 at e
  rw [Option.map_eq_some_iff] at e
  obtain ⟨q, e1, e2⟩ := e
  simp only [Prod.mk.injEq] at e2
  show ((jT FU (first c) [] c.cells c.tides c.fords c.sands c.sights (rchL c) f1).bind _).bind _ = _
  rw [e1, Option.bind_some, Option.bind_some, Option.bind_some, e2.2]
  obtain ⟨v, hv⟩ := Option.isSome_iff_exists.1 i1
  have h3 := s1 _ _ hv
  show some (decide (0 < (aget ml (first c)).getD 0)) = _
  rw [hv, Option.getD_some, h3]
  have : valR (nxS c) (agS (cIn f1) c) c.tides (first c) = (cntS (cIn f1) c : Int) := by
    unfold valR cntS first
    simp
  rw [this]
  congr 1
  rw [Bool.eq_iff_iff, decide_eq_true_eq, decide_eq_true_eq]
  omega
def pW (c : Channel) (l : List Int) : Bool := decide (0 < cntS (cOut l) c)
def pC (c : Channel) (l : List Int) : Bool := !decide (0 < cntS (cIn l) c)
def scan (p : List Int → Bool) : List (List Int) → List Int → Bool × List Int
  | [], o => (false, o)
  | x :: E, o => if p x = true then (true, x) else scan p E x
theorem scan_append (p : List Int → Bool) : ∀ (E F : List (List Int)) (o : List Int), scan p (E ++ F) o = if (scan p E o).1 = true then scan p E o else scan p F (scan p E o).2
  | [], F, o => rfl
  | x :: E, F, o => by
    rw [List.cons_append, scan, scan]
    by_cases h : p x = true
    · rw [if_pos h, if_pos h, if_pos rfl]
    · rw [if_neg h, if_neg h, scan_append p E F x]
theorem scan_find (p : List Int → Bool) : ∀ (E : List (List Int)) (o : List Int), ((scan p E o).1 = true → E.find? p = some (scan p E o).2) ∧ ((scan p E o).1 = false → E.find? p = none)
  | [], o => ⟨fun h => absurd h (by simp [scan]), fun _ => rfl⟩
  | x :: E, o => by
    have ih := scan_find p E x
    rw [scan, List.find?_cons]
    cases h : p x with
    | true => rw [if_pos rfl]; exact ⟨fun _ => rfl, fun q => absurd q (by simp)⟩
    | false => rw [if_neg (by decide)]; exact ih
theorem incL_end (n m : Nat) : incL n (m + 1) n = [] := by
  rw [incL, Nat.sub_self]; rfl
theorem incL_step {n m fr : Nat} (h : fr < n) : incL n (m + 1) fr = (incL n m (fr + 1)).map ((fr : Int) :: ·) ++ incL n (m + 1) (fr + 1) := by
  rw [incL, incL, show n - fr = (n - (fr + 1)) + 1 by omega, List.range_succ_eq_map, List.flatMap_cons, List.flatMap_map]
  congr 1
  congr 1
  funext d
  rw [show fr + (d + 1) + 1 = fr + 1 + d + 1 by omega, show fr + (d + 1) = fr + 1 + d by omega]
def chunk (n m : Nat) (l0 : List Int) (fr : Nat) : List (List Int) := (incL n m (fr + 1)).map fun x => (l0 ++ [(fr : Int)]) ++ x
theorem scan_loop {σ ρ : Type} {f : σ → Option (σ ⊕ (List Int ⊕ ρ))} (I : Int → List Int → σ) (T : List Int → ρ) (p : List Int → Bool) (l0 : List Int) (n m : Nat)
    (hf : ∀ (fr : Nat) (o : List Int), fr < n → f (I (fr : Int) o) = some (if (scan p (chunk n m l0 fr) o).1 = true then .inr (.inr (T (scan p (chunk n m l0 fr) o).2)) else .inl (I ((fr + 1 : Nat) : Int) (scan p (chunk n m l0 fr) o).2)))
    (he : ∀ o, f (I (n : Int) o) = some (.inr (.inl o))) : ∀ (r fr : Nat) (o : List Int) (N : Nat), fr + r = n → r < N → iterM N f (I (fr : Int) o) = some (if (scan p ((incL n (m + 1) fr).map (l0 ++ ·)) o).1 = true then .inr (T (scan p ((incL n (m + 1) fr).map (l0 ++ ·)) o).2) else .inl (scan p ((incL n (m + 1) fr).map (l0 ++ ·)) o).2)
  | 0, fr, o, N, h, hN => by
    obtain ⟨N, rfl⟩ : ∃ N', N = N' + 1 := ⟨N - 1, by omega⟩
    obtain rfl : fr = n := by omega
    rw [iterM_done (he o), incL_end]
    rfl
  | r + 1, fr, o, N, h, hN => by
    obtain ⟨N, rfl⟩ : ∃ N', N = N' + 1 := ⟨N - 1, by omega⟩
    have e : (incL n (m + 1) fr).map (l0 ++ ·) = chunk n m l0 fr ++ (incL n (m + 1) (fr + 1)).map (l0 ++ ·) := by
      rw [incL_step (by omega), List.map_append, List.map_map]
      congr 1
      unfold chunk
      apply List.map_congr_left
      intro x _
      simp
    rw [e, scan_append]
    have hs := hf fr o (by omega)
    by_cases hq : (scan p (chunk n m l0 fr) o).1 = true
    · rw [if_pos hq] at hs
      rw [iterM_done hs, if_pos hq, if_pos hq]
    · rw [if_neg hq] at hs
      rw [iterM_step hs, if_neg hq]
      exact scan_loop I T p l0 n m hf he r (fr + 1) _ N (by omega) (by omega)
theorem jai {c : Channel} (r : Right c) {many : Nat} (hm : many ≤ 100) : ∀ (m fu : Nat) (l0 : List Int) (fr : Nat) (o : List Int), m < fu → l0.length + m = many → fr ≤ c.sights.length → jX fu l0 (fr : Int) (many : Int) o c.cells c.tides c.fords c.sands c.sights (rchL c) = some ⟨(scan (pW c) ((incL c.sights.length m fr).map (l0 ++ ·)) o).1, (scan (pW c) ((incL c.sights.length m fr).map (l0 ++ ·)) o).2⟩
  | m, 0, l0, fr, o, h, _, _ => absurd h (by omega)
  | 0, fu + 1, l0, fr, o, _, hl, hfr => by
    rw [jX]
    unfold qz
    rw [if_pos (by omega)]
    have hw : Jb l0 o c.cells c.tides c.fords c.sands c.sights (rchL c) = some ⟨pW c l0, l0⟩ := by
      unfold Jb
      rw [Z0 r (by omega), Option.bind_some]
      rfl
    rw [hw, Option.bind_some]
    show _ = some (⟨(scan (pW c) [l0 ++ []] o).1, (scan (pW c) [l0 ++ []] o).2⟩ : jQ)
    rw [List.append_nil, scan, scan]
    cases pW c l0 <;> rfl
  | m + 1, fu + 1, l0, fr, o, hfu, hl, hfr => by
    have hs := r.sights
    rw [jX]
    unfold qz
    rw [if_neg (by omega)]
    have key := scan_loop (f := ql c.sights l0 (jX fu) (many : Int) c.cells c.tides c.fords c.sands (rchL c)) (fun i o => ⟨i, o⟩) (fun l => ⟨true, l⟩) (pW c) l0 c.sights.length m (fun fr o hfr => ?_) (fun o => ?_) (c.sights.length - fr) fr o FU (by omega) (FU_lt (by omega))
    · rw [key, Option.bind_some]
      cases hq : (scan (pW c) ((incL c.sights.length (m + 1) fr).map (l0 ++ ·)) o).1 with
      | true => rw [if_pos rfl, oc_inr]
      | false => rw [if_neg (by decide), oc_inl]
    · unfold ql
      simp only
      have ih := jai r hm m fu (l0 ++ [(fr : Int)]) (fr + 1) o (by omega) (by simp; omega) (by omega)
      rw [if_pos (by omega), addc_eq (by omega), Option.bind_some, QK (by omega), Option.bind_some, appc_eq (by simp; omega), Option.bind_some, show (fr : Int) + 1 = ((fr + 1 : Nat) : Int) by omega, ih, Option.bind_some, Option.bind_some]
      show (if (scan (pW c) (chunk c.sights.length m l0 fr) o).1 = true then _ else _) = _
      split
      · rfl
      · rw [Option.bind_some]; rfl
    · unfold ql
      simp only
      rw [if_neg (by omega)]
theorem ja4 {c : Channel} (r : Right c) {many : Nat} (hm : many ≤ 100) : yb 0 (many : Int) c.cells c.tides c.fords c.sands c.sights (rchL c) = some ⟨(scan (pW c) (incL c.sights.length many 0) []).1, (scan (pW c) (incL c.sights.length many 0) []).2⟩ := by
  have hs := r.sights
  unfold yb
  cases many with
  | zero =>
    rw [if_pos (by omega)]
    have hw : z7 [] c.cells c.tides c.fords c.sands c.sights (rchL c) = some (pW c []) := by
      unfold z7
      rw [Z0 r (by simp), Option.bind_some]
      rfl
    rw [hw, Option.bind_some]
    show _ = some (⟨(scan (pW c) [[]] []).1, (scan (pW c) [[]] []).2⟩ : kj)
    rw [scan, scan]
    cases pW c [] <;> rfl
  | succ m =>
    rw [if_neg (by omega)]
    have key := scan_loop (f := kH c.sights ((m + 1 : Nat) : Int) c.cells c.tides c.fords c.sands (rchL c)) (fun i o => ⟨i, o⟩) (fun l => ⟨true, l⟩) (pW c) [] c.sights.length m (fun fr o hfr => ?_) (fun o => ?_) c.sights.length 0 [] FU (by omega) (FU_lt (by omega))
    · have key' : iterM FU (kH c.sights ((m + 1 : Nat) : Int) c.cells c.tides c.fords c.sands (rchL c)) ⟨0, []⟩ = _ := key
      rw [key', Option.bind_some]
      have e : (incL c.sights.length (m + 1) 0).map (([] : List Int) ++ ·) = incL c.sights.length (m + 1) 0 := by simp
      rw [e]
      cases hq : (scan (pW c) (incL c.sights.length (m + 1) 0) []).1 with
      | true => rw [if_pos rfl, oc_inr]
      | false => rw [if_neg (by decide), oc_inl]
    · unfold kH
      simp only
      have ih := jai r hm m FU [(fr : Int)] (fr + 1) o (by unfold FU; omega) (by simp; omega) (by omega)
      rw [if_pos (by omega), addc_eq (by omega), Option.bind_some, QK (by simp), Option.bind_some, appc_eq (by simp), Option.bind_some, show (fr : Int) + 1 = ((fr + 1 : Nat) : Int) by omega]
      show ((jX FU [(fr : Int)] ((fr + 1 : Nat) : Int) ((m + 1 : Nat) : Int) o c.cells c.tides c.fords c.sands c.sights (rchL c)).bind _).bind _ = _
      rw [ih, Option.bind_some, Option.bind_some]
      show (if (scan (pW c) (chunk c.sights.length m [] fr) o).1 = true then _ else _) = _
      split
      · rfl
      · rw [Option.bind_some]; rfl
    · unfold kH
      simp only
      rw [if_neg (by omega)]
theorem jam {c : Channel} (r : Right c) {many : Nat} (hm : many ≤ 100) : ∀ (m fu : Nat) (l0 : List Int) (fr : Nat) (o : List Int), m < fu → l0.length + m = many → fr ≤ c.sights.length → jY fu l0 (fr : Int) (many : Int) o c.cells c.tides c.fords c.sands c.sights (rchL c) = some ⟨(scan (pC c) ((incL c.sights.length m fr).map (l0 ++ ·)) o).1, (scan (pC c) ((incL c.sights.length m fr).map (l0 ++ ·)) o).2⟩
  | m, 0, l0, fr, o, h, _, _ => absurd h (by omega)
  | 0, fu + 1, l0, fr, o, _, hl, hfr => by
    rw [jY]
    unfold qH
    rw [if_pos (by omega)]
    have hw : Jj l0 o c.cells c.tides c.fords c.sands c.sights (rchL c) = some ⟨pC c l0, l0⟩ := by
      unfold Jj z6
      rw [Y2 r (by omega), Option.bind_some, Option.bind_some]
      rfl
    rw [hw, Option.bind_some]
    show _ = some (⟨(scan (pC c) [l0 ++ []] o).1, (scan (pC c) [l0 ++ []] o).2⟩ : jP)
    rw [List.append_nil, scan, scan]
    cases pC c l0 <;> rfl
  | m + 1, fu + 1, l0, fr, o, hfu, hl, hfr => by
    have hs := r.sights
    rw [jY]
    unfold qH
    rw [if_neg (by omega)]
    have key := scan_loop (f := qj c.sights l0 (jY fu) (many : Int) c.cells c.tides c.fords c.sands (rchL c)) (fun i o => ⟨i, o⟩) (fun l => ⟨true, l⟩) (pC c) l0 c.sights.length m (fun fr o hfr => ?_) (fun o => ?_) (c.sights.length - fr) fr o FU (by omega) (FU_lt (by omega))
    · rw [key, Option.bind_some]
      cases hq : (scan (pC c) ((incL c.sights.length (m + 1) fr).map (l0 ++ ·)) o).1 with
      | true => rw [if_pos rfl, oc_inr]
      | false => rw [if_neg (by decide), oc_inl]
    · unfold qj
      simp only
      have ih := jam r hm m fu (l0 ++ [(fr : Int)]) (fr + 1) o (by omega) (by simp; omega) (by omega)
      rw [if_pos (by omega), addc_eq (by omega), Option.bind_some, QK (by omega), Option.bind_some, appc_eq (by simp; omega), Option.bind_some, show (fr : Int) + 1 = ((fr + 1 : Nat) : Int) by omega, ih, Option.bind_some, Option.bind_some]
      show (if (scan (pC c) (chunk c.sights.length m l0 fr) o).1 = true then _ else _) = _
      split
      · rfl
      · rw [Option.bind_some]; rfl
    · unfold qj
      simp only
      rw [if_neg (by omega)]
theorem jbf {c : Channel} (r : Right c) {many : Nat} (hm : many ≤ 100) (o : List Int) : q8 0 (many : Int) o c.cells c.tides c.fords c.sands c.sights (rchL c) = some ⟨(scan (pC c) (incL c.sights.length many 0) o).1, (scan (pC c) (incL c.sights.length many 0) o).2⟩ := by
  have hs := r.sights
  unfold q8
  cases many with
  | zero =>
    rw [if_pos (by omega)]
    have hw : z2 o c.cells c.tides c.fords c.sands c.sights (rchL c) = some (pC c []) := by
      unfold z2 z6
      rw [Y2 r (by simp), Option.bind_some, Option.bind_some]
      rfl
    rw [hw, Option.bind_some]
    show _ = some (⟨(scan (pC c) [[]] o).1, (scan (pC c) [[]] o).2⟩ : kl)
    rw [scan, scan]
    cases pC c [] <;> rfl
  | succ m =>
    rw [if_neg (by omega)]
    have key := scan_loop (f := kF c.sights ((m + 1 : Nat) : Int) c.cells c.tides c.fords c.sands (rchL c)) (fun i o => ⟨i, o⟩) (fun l => ⟨true, l⟩) (pC c) [] c.sights.length m (fun fr o hfr => ?_) (fun o => ?_) c.sights.length 0 o FU (by omega) (FU_lt (by omega))
    · have key' : iterM FU (kF c.sights ((m + 1 : Nat) : Int) c.cells c.tides c.fords c.sands (rchL c)) ⟨0, o⟩ = _ := key
      rw [key', Option.bind_some]
      have e : (incL c.sights.length (m + 1) 0).map (([] : List Int) ++ ·) = incL c.sights.length (m + 1) 0 := by simp
      rw [e]
      cases hq : (scan (pC c) (incL c.sights.length (m + 1) 0) o).1 with
      | true => rw [if_pos rfl, oc_inr]
      | false => rw [if_neg (by decide), oc_inl]
    · unfold kF
      simp only
      have ih := jam r hm m FU [(fr : Int)] (fr + 1) o (by unfold FU; omega) (by simp; omega) (by omega)
      rw [if_pos (by omega), addc_eq (by omega), Option.bind_some, QK (by simp), Option.bind_some, appc_eq (by simp), Option.bind_some, show (fr : Int) + 1 = ((fr + 1 : Nat) : Int) by omega]
      show ((jY FU [(fr : Int)] ((fr + 1 : Nat) : Int) ((m + 1 : Nat) : Int) o c.cells c.tides c.fords c.sands c.sights (rchL c)).bind _).bind _ = _
      rw [ih, Option.bind_some, Option.bind_some]
      show (if (scan (pC c) (chunk c.sights.length m [] fr) o).1 = true then _ else _) = _
      split
      · rfl
      · rw [Option.bind_some]; rfl
    · unfold kF
      simp only
      rw [if_neg (by omega)]
end Go.Proofs.Wb

namespace Go.Proofs.Wb
open Go Go.Fw Go.Gx Go.Sb
set_option linter.unusedVariables false
set_option maxRecDepth 100000
def E0 (n : Nat) : List (List Int) := (List.range (n + 1)).flatMap fun k => incL n k 0
def E1 (n : Nat) : List (List Int) := (List.range n).flatMap fun k => incL n (k + 1) 0
theorem find_levels (g : Nat → List (List Int)) (p : List Int → Bool) : ∀ l : List Nat, (l.flatMap g).find? p = match l.find? (fun k => ((g k).find? p).isSome) with | some k => (g k).find? p | none => none
  | [] => rfl
  | k :: l => by
    rw [List.flatMap_cons, List.find?_append, find_levels g p l, List.find?_cons]
    cases h : (g k).find? p with
    | some x => simp [h]
    | none => simp
theorem scan_fst (p : List Int → Bool) (E : List (List Int)) (o : List Int) : (scan p E o).1 = (E.find? p).isSome := by
  obtain ⟨h1, h2⟩ := scan_find p E o
  cases h : (scan p E o).1 with
  | true => rw [h1 h]; rfl
  | false => rw [h2 h]; rfl
theorem scan_snd {p : List Int → Bool} {E : List (List Int)} {o l : List Int} (h : E.find? p = some l) : (scan p E o).2 = l := by
  obtain ⟨h1, h2⟩ := scan_find p E o
  cases hq : (scan p E o).1 with
  | true => rw [h1 hq] at h; exact Option.some.inj h
  | false => rw [h2 hq] at h; cases h
theorem iterM_any0' {ρ : Type} {f : Int → Option (Int ⊕ (Unit ⊕ ρ))} (n : Nat) (bad : Nat → Bool) (e : Nat → ρ) (h1 : ∀ k : Nat, k < n → f (k : Int) = some (if bad k = true then .inr (.inr (e k)) else .inl ((k : Int) + 1))) (h2 : f (n : Int) = some (.inr (.inl ()))) {N : Nat} (hN : n < N) :
    iterM N f 0 = some (match (List.range n).find? bad with | some k => .inr (e k) | none => .inl ()) := iterM_any 0 n bad e (fun k hk => by rw [Int.zero_add]; exact h1 k hk) (by rw [Int.zero_add]; exact h2) hN
theorem jbw {c : Channel} (h : Few c) : JR c = some (if chk c = 0 then ⟨0, ((E0 c.sights.length).find? (pW c)).getD []⟩ else ⟨chk c, []⟩) := by
  unfold JR
  rw [Zl h, Option.bind_some]
  by_cases h0 : chk c = 0
  · have r := rightOf h0
    have hs := r.sights
    rw [if_pos h0, if_pos h0, oc_inr, addc_eq (by omega), Option.bind_some]
    have key := iterM_any0' (f := Jx ((c.sights.length : Int) + 1) ⟨c.cells, c.tides, rchL c⟩ c) (c.sights.length + 1) (fun k => ((incL c.sights.length k 0).find? (pW c)).isSome) (fun k => (⟨0, ((incL c.sights.length k 0).find? (pW c)).getD []⟩ : yU)) (fun k hk => ?_) ?_ (N := FU) (FU_lt (by omega))
    · rw [key, Option.bind_some]
      unfold E0
      rw [find_levels]
      cases (List.range (c.sights.length + 1)).find? (fun k => ((incL c.sights.length k 0).find? (pW c)).isSome) with
      | none => simp only [oc_inl]; rfl
      | some k => simp only [oc_inr]
    · unfold Jx Jf
      have hl := ja4 r (many := k) (by omega)
      rw [if_pos (by omega), hl, Option.bind_some, Option.bind_some, scan_fst]
      cases hq : (incL c.sights.length k 0).find? (pW c) with
      | some l => rw [scan_snd hq]; rfl
      | none => rw [addc_eq (by omega)]; rfl
    · unfold Jx
      rw [if_neg (by omega)]
  · rw [if_neg h0, if_neg h0, oc_inl]
def outsC (c : Channel) : Nat → List Int
  | 0 => []
  | k + 1 => (scan (pC c) (incL c.sights.length (k + 1) 0) (outsC c k)).2
theorem jat {c : Channel} (r : Right c) : yq c.cells c.tides c.fords c.sands c.sights (rchL c) = some (decide (0 < cntS tt c)) := by
  have hf := r.fords
  unfold yq
  obtain ⟨ml, e, s1, c1, i1⟩ := jbo r
  rw [e, Option.bind_some, Y8 (by omega), Option.bind_some]
  obtain ⟨v, hv⟩ := Option.isSome_iff_exists.1 i1
  have h3 := s1 _ _ hv
  show some (decide (0 < (aget ml (first c)).getD 0)) = _
  rw [hv, Option.getD_some, h3]
  have : valR (nxS c) (agS (fun _ => true) c) c.tides (first c) = (cntS tt c : Int) := by
    unfold valR cntS first
    simp
  rw [this]
  congr 1
  rw [Bool.eq_iff_iff, decide_eq_true_eq, decide_eq_true_eq]
  omega
theorem jby {c : Channel} (h : Few c) : Kx c = some (if chk c = 0 then (if 0 < cntS tt c then ⟨6, []⟩ else ⟨0, ((E1 c.sights.length).find? (pC c)).getD (outsC c c.sights.length)⟩) else ⟨chk c, []⟩) := by
  unfold Kx
  rw [Zl h, Option.bind_some]
  by_cases h0 : chk c = 0
  · have r := rightOf h0
    have hs := r.sights
    rw [if_pos h0, if_pos h0, oc_inr]
    unfold KX
    rw [Option.bind_some, jat r, Option.bind_some]
    by_cases h1 : 0 < cntS tt c
    · rw [if_pos (by simpa using h1), if_pos h1]
    · rw [if_neg (by simpa using h1), if_neg h1]
      have key := iterM_find (f := zn c ⟨c.cells, c.tides, rchL c⟩) (fun k => ⟨(k : Int), outsC c k⟩) c.sights.length (fun k => ((incL c.sights.length (k + 1) 0).find? (pC c)).isSome) (fun k => ((incL c.sights.length (k + 1) 0).find? (pC c)).getD []) (outsC c c.sights.length) (fun k hk _ => ?_) ?_ (N := FU) (FU_lt (by omega))
      · have key' : iterM FU (zn c ⟨c.cells, c.tides, rchL c⟩) ⟨0, []⟩ = _ := key
        rw [key', Option.bind_some]
        unfold E1
        rw [find_levels (fun k => incL c.sights.length (k + 1) 0)]
        cases hq : (List.range c.sights.length).find? (fun k => ((incL c.sights.length (k + 1) 0).find? (pC c)).isSome) with
        | none => rfl
        | some k =>
          have h2 := List.find?_some hq
          obtain ⟨l, hl⟩ := Option.isSome_iff_exists.1 h2
          simp only [hl]
          rfl
      · unfold zn Jh
        have hl := jbf r (many := k + 1) (by omega) (outsC c k)
        simp only
        rw [if_pos (by omega), addc_eq (by omega), Option.bind_some, show (k : Int) + 1 = ((k + 1 : Nat) : Int) by omega, hl, Option.bind_some, Option.bind_some, scan_fst]
        cases hq : (incL c.sights.length (k + 1) 0).find? (pC c) with
        | some l => rw [scan_snd hq]; rfl
        | none => rfl
      · unfold zn
        simp only
        rw [if_neg (by omega)]
  · rw [if_neg h0, if_neg h0, oc_inl]
theorem R_mono {nx : State → List State} {ag ag' : State → Bool} (h : ∀ s, ag s = true → ag' s = true) : ∀ k s, 0 < R nx ag k s → 0 < R nx ag' k s
  | 0, s, hp => by
    rw [R, if_pos (h s (R_ag hp))]
    omega
  | k + 1, s, hp => by
    obtain ⟨h1, t, ht, h2⟩ := R_succ_pos.1 hp
    exact R_succ_pos.2 ⟨h s h1, t, ht, R_mono h k t h2⟩
theorem cnt_mono {c : Channel} {c1 c2 : Nat → Bool} (h : ∀ i, i < c.sights.length → c2 i = true → c1 i = true) (hp : 0 < cntS c1 c) : 0 < cntS c2 c := by
  refine R_mono (fun s hs => ?_) _ _ hp
  unfold agS at *
  rw [agP_iff] at *
  exact fun i hi hc => hs i hi (h i hi hc)
theorem cnt_congr {c : Channel} {c1 c2 : Nat → Bool} (h : ∀ i, i < c.sights.length → c1 i = c2 i) : cntS c1 c = cntS c2 c := by
  unfold cntS
  have : agS c1 c = agS c2 c := by
    funext s
    exact agP_congr h
  rw [this]
theorem canB_self {c : Channel} (r : Right c) (l : List Int) : canB c.sands l l = true := by
  unfold canB
  rw [List.all_eq_true]
  intro i _
  rw [inb_iff]
  have := rchC_bounds (x := l.getD i (-1)) r.reach
  omega
theorem stay_pos {c : Channel} (r : Right c) (h : c.sights.length = 0) : 0 < cntS tt c := by
  have hc := r.cells
  have hag : ∀ k l, agP tt c.sights k l = true := by
    intro k l
    rw [agP_iff, h]
    intro i hi
    omega
  have hmem : c.fords ∈ LL c := (mem_LL (by omega)).2 (rowB_iff.2 ⟨rfl, r.up, r.fcell⟩)
  have key : ∀ k, 0 < FcL tt c k c.fords := by
    intro k
    induction k with
    | zero => rw [FcL, if_pos ⟨hag _ _, rfl⟩]; omega
    | succ k ih => exact FcL_succ_pos.2 ⟨hag _ _, c.fords, hmem, canB_self r _, ih⟩
  rw [cntS_sum r]
  exact sumN_pos.2 ⟨c.fords, hmem, key _⟩
end Go.Proofs.Wb

namespace Go.Proofs.Wb
open Go Go.Fw Go.Gx Go.Sb
set_option linter.unusedVariables false
set_option maxRecDepth 100000
def memN (m : Nat) : List Int := ((List.range 5).filter fun i => bitN m i).map fun i : Nat => (i : Int)
def rk (x : List Int) : Nat := (E0 5).idxOf x
theorem tab1 : ((List.range 32).all fun m => qS (m : Int) == some (memN m)) = true := by decide +kernel
theorem tab2 : ((List.range 32).all fun a => (List.range 32).all fun b => yC (memN a) (memN b) == some (decide (rk (memN a) < rk (memN b)))) = true := by decide +kernel
def sortB (l : List (List Int)) : Bool := (List.range l.length).all fun j => (List.range j).all fun i => decide (rk (l.getD i []) < rk (l.getD j []))
theorem tab3 : ((List.range 6).all fun n => sortB (E0 n)) = true := by decide +kernel
theorem tab4 : ((List.range 6).all fun n => (E0 n).all fun x => (List.range (2 ^ n)).any fun a => decide (memN a = x)) = true := by decide +kernel
theorem tab5 : ((List.range 6).all fun n => (List.range (2 ^ n)).all fun a => decide (memN a ∈ E0 n)) = true := by decide +kernel
theorem tab6 : ((List.range 6).all fun n => (List.range (2 ^ n)).all fun a => (List.range n).all fun i => bitN (2 ^ n - 1 - a) i == !bitN a i) = true := by decide +kernel
theorem tab7 : ((List.range 6).all fun n => decide (E0 n = [] :: E1 n)) = true := by decide +kernel
theorem tab8 : ((List.range 32).all fun a => decide (memN a = [] → a = 0)) = true := by decide +kernel
theorem tab9 : ((List.range 32).all fun a => (List.range 5).all fun x => bitN a x || (decide (a + 2 ^ x < 32) && (List.range 5).all fun i => bitN (a + 2 ^ x) i == (bitN a i || decide (i = x)))) = true := by decide +kernel
theorem tabA : ((List.range 6).all fun n => decide ((List.range n).map (fun i : Nat => (i : Int)) ∈ E0 n)) = true := by decide +kernel
theorem allR {n : Nat} {p : Nat → Bool} (h : (List.range n).all p = true) {i : Nat} (hi : i < n) : p i = true := (List.all_eq_true.1 h) i (by simpa using hi)
theorem members_eq {m : Nat} (h : m < 32) : qS (m : Int) = some (memN m) := by simpa using allR tab1 h
theorem ahead_eq {a b : Nat} (ha : a < 32) (hb : b < 32) : yC (memN a) (memN b) = some (decide (rk (memN a) < rk (memN b))) := by simpa using allR (allR tab2 ha) hb
theorem E0_sorted {n : Nat} (h : n < 6) : (E0 n).Pairwise fun x y => rk x < rk y := by
  have h1 := allR tab3 h
  rw [List.pairwise_iff_getElem]
  intro i j hi hj hij
  have h2 := allR (allR h1 hj) hij
  simpa [List.getD_eq_getElem?_getD, hi, hj] using h2
theorem E0_mask {n : Nat} (h : n < 6) {x : List Int} (hx : x ∈ E0 n) : ∃ a, a < 2 ^ n ∧ memN a = x := by
  have h1 := (List.all_eq_true.1 (allR tab4 h)) x hx
  rw [List.any_eq_true] at h1
  obtain ⟨a, ha, h2⟩ := h1
  exact ⟨a, by simpa using ha, by simpa using h2⟩
theorem mask_E0 {n : Nat} (h : n < 6) {a : Nat} (ha : a < 2 ^ n) : memN a ∈ E0 n := by simpa using allR (allR tab5 h) ha
theorem bit_compl {n : Nat} (h : n < 6) {a i : Nat} (ha : a < 2 ^ n) (hi : i < n) : bitN (2 ^ n - 1 - a) i = !bitN a i := by simpa using allR (allR (allR tab6 h) ha) hi
theorem E01 {n : Nat} (h : n < 6) : E0 n = [] :: E1 n := by simpa using allR tab7 h
theorem mem_nil {a : Nat} (h : a < 32) (e : memN a = []) : a = 0 := by
  have := allR tab8 h
  rw [decide_eq_true_eq] at this
  exact this e
theorem bit_add {a x : Nat} (ha : a < 32) (hx : x < 5) (h : bitN a x = false) : a + 2 ^ x < 32 ∧ ∀ i, i < 5 → bitN (a + 2 ^ x) i = (bitN a i || decide (i = x)) := by
  have h1 := allR (allR tab9 ha) hx
  rw [h, Bool.false_or, Bool.and_eq_true, decide_eq_true_eq] at h1
  exact ⟨h1.1, fun i hi => by simpa using allR h1.2 hi⟩
theorem mem_memN {a i : Nat} (hi : i < 5) : decide ((i : Int) ∈ memN a) = bitN a i := by
  rw [Bool.eq_iff_iff, decide_eq_true_eq]
  unfold memN
  simp only [List.mem_map, List.mem_filter, List.mem_range]
  constructor
  · rintro ⟨j, ⟨_, h⟩, e⟩
    have : j = i := by omega
    rw [← this]; exact h
  · intro h
    exact ⟨i, ⟨hi, h⟩, rfl⟩
theorem pow5 {n : Nat} (h : n < 6) : 2 ^ n ≤ 32 := by
  have h6 : 2 ^ n ≤ 2 ^ 5 := Nat.pow_le_pow_right (by omega) (by omega)
  exact h6
theorem find_least {E : List (List Int)} (hs : E.Pairwise fun x y => rk x < rk y) {p : List Int → Bool} {x : List Int} (hx : x ∈ E) (hp : p x = true) (hl : ∀ y ∈ E, p y = true → rk x ≤ rk y) : E.find? p = some x := by
  induction E with
  | nil => exact absurd hx (by simp)
  | cons y E ih =>
    rw [List.find?_cons]
    cases h : p y with
    | true =>
      have h1 := hl y (by simp) h
      rcases List.mem_cons.1 hx with rfl | hx
      · rfl
      · have := (List.pairwise_cons.1 hs).1 x hx
        omega
    | false =>
      rcases List.mem_cons.1 hx with rfl | hx
      · rw [h] at hp; exact absurd hp (by decide)
      · exact ih (List.pairwise_cons.1 hs).2 hx (fun z hz hpz => hl z (List.mem_cons_of_mem _ hz) hpz)
def stB (q : Nat → Bool) : Nat → Option Nat
  | 0 => none
  | k + 1 => if q k = true ∧ (∀ b, stB q k = some b → rk (memN k) < rk (memN b)) then some k else stB q k
theorem stB_spec (q : Nat → Bool) : ∀ k, (stB q k = none ∧ ∀ m, m < k → q m = false) ∨ ∃ b, b < k ∧ stB q k = some b ∧ q b = true ∧ ∀ m, m < k → q m = true → rk (memN b) ≤ rk (memN m)
  | 0 => .inl ⟨rfl, fun m h => by omega⟩
  | k + 1 => by
    have ih := stB_spec q k
    rw [stB]
    split
    · rename_i h
      refine .inr ⟨k, by omega, rfl, h.1, fun m hm hq => ?_⟩
      by_cases e : m = k
      · rw [e]; exact Nat.le_refl _
      · rcases ih with ⟨_, i2⟩ | ⟨b, b1, b2, b3, b4⟩
        · rw [i2 m (by omega)] at hq; exact absurd hq (by decide)
        · have := h.2 b b2
          have := b4 m (by omega) hq
          omega
    · rename_i h
      rcases ih with ⟨i1, i2⟩ | ⟨b, b1, b2, b3, b4⟩
      · refine .inl ⟨i1, fun m hm => ?_⟩
        by_cases e : m = k
        · cases hq : q m with
          | false => rfl
          | true =>
            rw [e] at hq
            exact absurd ⟨hq, fun b hb => by rw [i1] at hb; cases hb⟩ h
        · exact i2 m (by omega)
      · refine .inr ⟨b, by omega, b2, b3, fun m hm hq => ?_⟩
        by_cases e : m = k
        · rw [e] at hq ⊢
          rcases Nat.lt_or_ge (rk (memN k)) (rk (memN b)) with h1 | h1
          · exact absurd ⟨hq, fun b' hb' => by rw [b2] at hb'; cases hb'; exact h1⟩ h
          · exact h1
        · exact b4 m (by omega) hq
theorem stB_lt {q : Nat → Bool} {k b : Nat} (h : stB q k = some b) : b < k := by
  rcases stB_spec q k with ⟨i1, _⟩ | ⟨b', b1, b2, _⟩
  · rw [i1] at h; cases h
  · rw [b2] at h; cases h; exact b1
def memO (o : Option Nat) : List Int := match o with | some b => memN b | none => []
theorem stB_find {n : Nat} (h : n < 6) {p : List Int → Bool} {E : List (List Int)} (hs : E.Pairwise fun x y => rk x < rk y) {q : Nat → Bool} (h1 : ∀ x ∈ E, p x = true → ∃ a, a < 2 ^ n ∧ memN a = x ∧ q a = true) (h2 : ∀ a, a < 2 ^ n → q a = true → memN a ∈ E ∧ p (memN a) = true) : E.find? p = (stB q (2 ^ n)).map memN := by
  rcases stB_spec q (2 ^ n) with ⟨i1, i2⟩ | ⟨b, b1, b2, b3, b4⟩
  · rw [i1, Option.map_none, List.find?_eq_none]
    intro x hx hp
    obtain ⟨a, ha, _, hq⟩ := h1 x hx hp
    rw [i2 a ha] at hq
    exact absurd hq (by decide)
  · rw [b2, Option.map_some]
    obtain ⟨g1, g2⟩ := h2 b b1 b3
    refine find_least hs g1 g2 (fun y hy hp => ?_)
    obtain ⟨a, ha, e, hq⟩ := h1 y hy hp
    rw [← e]
    exact b4 a ha hq
theorem mask_in {c : Channel} (hn : c.sights.length < 6) (a : Nat) : cntS (bitN a) c = cntS (cIn (memN a)) c := cnt_congr fun i hi => by
  unfold cIn
  rw [mem_memN (by omega)]
theorem mask_out {c : Channel} (hn : c.sights.length < 6) {a : Nat} (ha : a < 2 ^ c.sights.length) : cntS (bitN (2 ^ c.sights.length - 1 - a)) c = cntS (cOut (memN a)) c := cnt_congr fun i hi => by
  unfold cOut
  rw [mem_memN (by omega), bit_compl hn ha hi]
def qW (c : Channel) (m : Nat) : Bool := pW c (memN m)
def qC (c : Channel) (m : Nat) : Bool := decide (m ≠ 0) && pC c (memN m)
theorem jaC {c : Channel} (r : Right c) (hn : c.sights.length < 6) : zs c = some (memO (stB (qW c) (2 ^ c.sights.length))) := by
  have h32 := pow5 hn
  have hpos : 0 < 2 ^ c.sights.length := Nat.two_pow_pos _
  unfold zs
  have key := iterM_run (f := qt c) (fun k => ⟨(stB (qW c) k).isSome, (k : Int), memO (stB (qW c) k)⟩) (2 ^ c.sights.length) (b := memO (stB (qW c) (2 ^ c.sights.length))) (fun k hk => ?_) ?_ FU (FU_lt (by omega))
  · have key' : iterM FU (qt c) ⟨false, 0, []⟩ = _ := key
    rw [key']; rfl
  · unfold qt
    have hcount : j6 c ((2 ^ c.sights.length - 1 - k : Nat) : Int) = some (cntS (cOut (memN k)) c : Int) := by
      rw [Yw r (by omega), mask_out hn hk]
    have hsub : subc ((2 ^ c.sights.length - 1 : Nat) : Int) (k : Int) = some ((2 ^ c.sights.length - 1 - k : Nat) : Int) := by
      rw [subc_eq (by omega)]
      congr 1
      omega
    have hq : qW c k = decide (0 < cntS (cOut (memN k)) c) := rfl
    have hpos : decide (0 < (cntS (cOut (memN k)) c : Int)) = qW c k := by
      rw [hq, Bool.eq_iff_iff, decide_eq_true_eq, decide_eq_true_eq]
      omega
    rw [Ky r]
    simp only [Option.bind_some]
    rw [if_pos (by omega), members_eq (by omega), addc_eq (by omega), hsub]
    simp only [Option.bind_some]
    rw [hcount]
    simp only [Option.bind_some]
    rw [hpos]
    have e : stB (qW c) (k + 1) = if qW c k = true ∧ (∀ b, stB (qW c) k = some b → rk (memN k) < rk (memN b)) then some k else stB (qW c) k := rfl
    rw [e]
    cases hst : stB (qW c) k with
    | none =>
      simp only [memO, Option.isSome_none, Bool.not_false, if_true]
      cases qW c k with
      | true => simp [memO]
      | false => simp [memO]
    | some b =>
      have hb := stB_lt hst
      have ha := ahead_eq (a := k) (b := b) (by omega) (by omega)
      simp only [memO, Option.isSome_some, Bool.not_true, ha, Option.bind_some]
      cases qW c k with
      | true =>
        by_cases hlt : rk (memN k) < rk (memN b)
        · simp [hlt, memO]
        · simp [hlt, memO]
      | false =>
        by_cases hlt : rk (memN k) < rk (memN b)
        · simp [hlt, memO]
        · simp [hlt, memO]
  · unfold qt
    rw [Ky r]
    simp only [Option.bind_some]
    rw [if_neg (by omega)]
theorem stB_one (c : Channel) : stB (qC c) 1 = none := by
  rw [stB, if_neg (fun h => by have := h.1; unfold qC at this; simp at this)]
  rfl
theorem jaH {c : Channel} (r : Right c) (hn : c.sights.length < 6) : zt c = some ⟨(stB (qC c) (2 ^ c.sights.length)).isSome, memO (stB (qC c) (2 ^ c.sights.length))⟩ := by
  have h32 := pow5 hn
  have hpos : 0 < 2 ^ c.sights.length := Nat.two_pow_pos _
  have hempty : ∀ k, k ≤ 32 → (memO (stB (qC c) k)).isEmpty = !(stB (qC c) k).isSome := by
    intro k hk
    cases hst : stB (qC c) k with
    | none => rfl
    | some b =>
      have hb := stB_lt hst
      rcases stB_spec (qC c) k with ⟨i1, _⟩ | ⟨b', b1, b2, b3, _⟩
      · rw [i1] at hst; cases hst
      · rw [b2] at hst
        cases hst
        have : memN b ≠ [] := by
          intro e
          have := mem_nil (by omega) e
          subst this
          unfold qC at b3
          simp at b3
        simp only [memO, Option.isSome_some, Bool.not_true]
        cases hm : memN b with
        | nil => exact absurd hm this
        | cons x l => rfl
  unfold zt
  have key := iterM_run (f := qv c) (fun k => ⟨((k + 1 : Nat) : Int), memO (stB (qC c) (k + 1))⟩) (2 ^ c.sights.length - 1) (b := memO (stB (qC c) (2 ^ c.sights.length))) (fun k hk => ?_) ?_ FU (FU_lt (by omega))
  · have key' : iterM FU (qv c) ⟨1, []⟩ = some (memO (stB (qC c) (2 ^ c.sights.length))) := by
      rw [stB_one] at key
      exact key
    rw [key', Option.bind_some, hempty _ h32, Bool.not_not]
  · unfold qv
    have hcount : j6 c ((k + 1 : Nat) : Int) = some (cntS (cIn (memN (k + 1))) c : Int) := by
      rw [Yw r (by omega), mask_in hn]
    have hq : qC c (k + 1) = !decide (0 < cntS (cIn (memN (k + 1))) c) := by
      unfold qC pC
      rw [decide_eq_true (by omega), Bool.true_and]
    have hzero : decide ((cntS (cIn (memN (k + 1))) c : Int) = 0) = qC c (k + 1) := by
      rw [hq, Bool.eq_iff_iff, decide_eq_true_eq]
      simp
    rw [Ky r]
    simp only [Option.bind_some]
    rw [if_pos (by omega), members_eq (by omega), addc_eq (by omega)]
    simp only [Option.bind_some]
    rw [hcount, hempty _ (by omega)]
    simp only [Option.bind_some]
    rw [hzero]
    have e : stB (qC c) (k + 1 + 1) = if qC c (k + 1) = true ∧ (∀ b, stB (qC c) (k + 1) = some b → rk (memN (k + 1)) < rk (memN b)) then some (k + 1) else stB (qC c) (k + 1) := rfl
    rw [e]
    cases hst : stB (qC c) (k + 1) with
    | none =>
      simp only [memO, Option.isSome_none, Bool.not_false, if_true]
      cases qC c (k + 1) with
      | true => simp [memO]
      | false => simp [memO]
    | some b =>
      have hb := stB_lt hst
      have ha := ahead_eq (a := k + 1) (b := b) (by omega) (by omega)
      simp only [memO, Option.isSome_some, Bool.not_true, ha, Option.bind_some]
      cases qC c (k + 1) with
      | true =>
        by_cases hlt : rk (memN (k + 1)) < rk (memN b)
        · simp [hlt, memO]
        · simp [hlt, memO]
      | false =>
        by_cases hlt : rk (memN (k + 1)) < rk (memN b)
        · simp [hlt, memO]
        · simp [hlt, memO]
  · unfold qv
    rw [Ky r]
    simp only [Option.bind_some]
    rw [if_neg (by omega), show 2 ^ c.sights.length - 1 + 1 = 2 ^ c.sights.length by omega]
theorem wrong_same {c : Channel} (hn : c.sights.length < 6) : ((E0 c.sights.length).find? (pW c)).getD [] = memO (stB (qW c) (2 ^ c.sights.length)) := by
  rw [stB_find hn (p := pW c) (q := qW c) (E0_sorted hn) (fun x hx hp => by
    obtain ⟨a, ha, e⟩ := E0_mask hn hx
    exact ⟨a, ha, e, by unfold qW; rw [e]; exact hp⟩) (fun a ha hq => ⟨mask_E0 hn ha, hq⟩)]
  cases stB (qW c) (2 ^ c.sights.length) <;> rfl
theorem clash_find {c : Channel} (hn : c.sights.length < 6) : (E1 c.sights.length).find? (pC c) = (stB (qC c) (2 ^ c.sights.length)).map memN := by
  have hE := E01 hn
  have hs := E0_sorted hn
  rw [hE] at hs
  refine stB_find hn (List.pairwise_cons.1 hs).2 (fun x hx hp => ?_) (fun a ha hq => ?_)
  · obtain ⟨a, ha, e⟩ := E0_mask hn (x := x) (by rw [hE]; exact List.mem_cons_of_mem _ hx)
    refine ⟨a, ha, e, ?_⟩
    unfold qC
    rw [e, hp, Bool.and_true, decide_eq_true_eq]
    rintro rfl
    have h0 := (List.pairwise_cons.1 hs).1 x hx
    rw [← e] at h0
    exact absurd h0 (Nat.lt_irrefl _)
  · unfold qC at hq
    rw [Bool.and_eq_true, decide_eq_true_eq] at hq
    refine ⟨?_, hq.2⟩
    have h1 := mask_E0 hn ha
    rw [hE] at h1
    rcases List.mem_cons.1 h1 with h1 | h1
    · exact absurd (mem_nil (by have := pow5 hn; omega) h1) hq.1
    · exact h1
end Go.Proofs.Wb

