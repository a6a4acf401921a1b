/- What the functions that the law BranchMarked reaches come to, and why it holds: part 9. -/
import Derived.Test.YtpjnpibgnkgnaaaGreatBranchMarked8
namespace Go.Proofs.Wb
set_option maxHeartbeats 4000000
set_option maxRecDepth 100000
open Go Go.Fw Go.Gx Go.Sb
open Tryz
set_option linter.unusedVariables false

def Qp (sights0 : (List Int)) : Option Unit :=
 some ()
theorem jan (sights0 : (List Int)) (qa0 : Option Addr) (na0 ca0 : Nat) (w : World) (hw : HV w (keys [] []) [] [] [(aB qa0, aO qa0, RI.enc sights0)] w) (hna0 : sights0.length = na0) (hqa0 : AOK na0 qa0) (hla0 : na0 ≤ ca0) {res : Unit} (hm : Qp sights0 = some res) :
    Calls Tryz.prog 122 #[.slice qa0 na0 ca0] w (fun en w' => ∃ l : Nat, en = .returned (.agg #[.func (.func 171) #[] #[ptr l 0]]) ∧ (True) ∧ HV w (keys [] []) [kc l #[.slice qa0 na0 ca0] 22] [] [] w') := by
  unfold Qp at hm
  refine yk func122 Y ntmps122 Y (e := [(0, _)]) Y hw (jr ?_)
  refine jK Y Y (fun b h1 => ?_)
  refine jv (fun w => zeroValue181 w) Y (fun b_1 h2 => ?_)
  refine kO (jc Y Y Y (fun _ _ => jZ (u := #[]) (u' := #[_]) Y Y) (jc Y Y Y (fun _ _ => kN (vs := [(0, _)]) (cells := [_]) Y Y) (j3 (us := #[_]) (cs' := [_]) (S' := [_, _]) 0 (fun w => sizeOf181 w) Y Y Y Y Y Y Y (jq (jx ?_)))))
  obtain rfl := sj hm
  refine jn Y (fun w hh => (.cell Y (loadVar_agg (vs := [_]) (isAgg181 _) (sizeOf181 _) (hh.cells 0 Y Y)) .nil)) (fun w hh => ⟨b, rfl, trivial, hh.se [1] [] 1 Y Y Y rfl⟩)
def JP (i0 : Int) (a11 : (List Int)) : Option Bool :=
 (jC a11 i0).bind fun t6 =>
 some t6
theorem ZS (i0 : Int) (a11 : (List Int)) (rb : Nat) (qa1 : Option Addr) (na1 ca1 : Nat) (w : World) (hw : HV w (keys [] []) [] [] [(rb, 0, [.slice qa1 na1 ca1]), (aB qa1, aO qa1, RI.enc a11)] w)  (hna1 : a11.length = na1) (hqa1 : AOK na1 qa1) (hla1 : na1 ≤ ca1) {res : Bool} (hm : JP i0 a11 = some res) :
    Calls Tryz.prog 171 #[.int .i64 i0, ptr rb 0] w (fun en w' => ∃ l : Unit, en = .returned (.bool res) ∧ (True) ∧ HV w (keys [] []) [] [] [] w') := by
  unfold JP at hm
  refine yk func171 Y ntmps171 Y (e := [(0, _), (1, _)]) Y hw (jr (jo Y Y (kO (jc Y Y Y (fun w hh => jD (isAgg22 w) Y (segCell (hh.seg 0 Y) 0 Y)) (jg Y Y ?_)))))
  obtain ⟨t6, h1, hm⟩ := bindO hm
  refine jd [] [] Y Y Y Y Y Y Y call64 (fun w hh => jY a11 i0 qa1 na1 ca1 w (HV.callee (S0 := []) (vs0 := []) hh (roR hh 1 Y roN)) hna1 hqa1 hla1 h1) (fun l h2 => ?_)
  refine jo Y Y (jq (jx ?_))
  obtain rfl := sj hm
  refine jn Y (fun w hh => (.tmp Y .nil)) (fun w hh => ⟨(), rfl, trivial, hh.se [] [] 2 Y Y Y rfl⟩)
def qO (d04 : (List Sight)) (s2 : State) (f1_0_c0 : (List Int)) (d00 : Int) (d01 : Int) (d02 : (List Int)) (d03 : (List Sand)) (d05 : (List Int)) (s : Int) : Option (Int ⊕ (Unit ⊕ Bool)) :=
 if s < (d04.length : Int) then
 ((ix d04 s).bind fun t18 =>
 (if t18.after = s2.after then
 ((JP s f1_0_c0).bind fun t29 =>
 if t29 = true then
 ((k8 d00 d01 d02 d03 d04 d05 s2).bind fun t34 =>
 (jC t34 t18.cell).bind fun t37 =>
 some (!(t37 == t18.upright))) else
 (some false)) else
 (some false)).bind fun o_1 =>
 if o_1 = true then
 (some (.inr (.inr false))) else
 ((addc s 1).bind fun t42 =>
 some (.inl t42))) else
 (some (.inr (.inl ())))
def yw (d00 : Int) (d01 : Int) (d02 : (List Int)) (d03 : (List Sand)) (d04 : (List Sight)) (d05 : (List Int)) (f1_0_c0 : (List Int)) (s2 : State) : Option Bool :=
 (iterM FU (qO d04 s2 f1_0_c0 d00 d01 d02 d03 d05) 0).bind fun o =>
 oc o (fun j => some true) (fun r_1 => some r_1)
theorem Yz (d00 : Int) (d01 : Int) (d02 : (List Int)) (d03 : (List Sand)) (d04 : (List Sight)) (d05 : (List Int)) (f1_0_c0 : (List Int)) (s2 : State) (rb : Nat) (qa1 : Option Addr) (na1 ca1 : Nat) (qa2 : Option Addr) (na2 ca2 : Nat) (qa3 : Option Addr) (na3 ca3 : Nat) (qa4 : Option Addr) (na4 ca4 : Nat) (rb_1 : Nat) (qa6 : Option Addr) (na6 ca6 : Nat) (w : World) (hw : HV w (keys [] []) [] [] [(rb, 0, [.int .i64 d00, .int .i64 d01, .slice qa1 na1 ca1, .slice qa2 na2 ca2, .slice qa3 na3 ca3, .slice qa4 na4 ca4]), (aB qa1, aO qa1, RI.enc d02), (aB qa2, aO qa2, RSa.enc d03), (aB qa3, aO qa3, RSi.enc d04), (aB qa4, aO qa4, RI.enc d05), (rb_1, 0, [.slice qa6 na6 ca6]), (aB qa6, aO qa6, RI.enc f1_0_c0)] w)  (hna1 : d02.length = na1) (hqa1 : AOK na1 qa1) (hla1 : na1 ≤ ca1) (hna2 : d03.length = na2) (hqa2 : AOK na2 qa2) (hla2 : na2 ≤ ca2) (hna3 : d04.length = na3) (hqa3 : AOK na3 qa3) (hla3 : na3 ≤ ca3) (hna4 : d05.length = na4) (hqa4 : AOK na4 qa4) (hla4 : na4 ≤ ca4)  (hna6 : f1_0_c0.length = na6) (hqa6 : AOK na6 qa6) (hla6 : na6 ≤ ca6) {res : Bool} (hm : yw d00 d01 d02 d03 d04 d05 f1_0_c0 s2 = some res) :
    Calls Tryz.prog 143 #[ptr rb 0, .agg #[.func (.func 171) #[] #[ptr rb_1 0]], .agg #[.int .i64 s2.after, .int .i64 s2.at_.c0, .int .i64 s2.at_.c1, .int .i64 s2.at_.c2]] w (fun en w' => ∃ l : Unit, en = .returned (.bool res) ∧ (True) ∧ HV w (keys [] []) [] [] [] w') := by
  unfold yw at hm
  refine yk func143 Y ntmps143 Y (e := [(0, _), (1, _), (2, _)]) Y hw (jr ?_)
  refine jK Y Y (fun b h1 => ?_)
  refine jK Y Y (fun b_1 h2 => ?_)
  refine jo Y Y (jq (ji (jr (jg Y Y (jc Y Y Y (fun _ _ => j4 Y) (yp 0 runUnderlying175 Y sizeOf26 Y Y (yp 4 runUnderlying26 Y sizeOf24 Y Y ?_)))))))
  refine jc Y Y Y (fun w hh => jD (isAgg24 w) Y (segCell (hh.seg 0 Y) 4 Y)) (jc Y Y Y (fun w _ => kw hna3 (runUnderlying24 w) Y) (jg Y Y (jq ?_)))
  obtain ⟨o, h3, h4⟩ := bindO hm
  refine jR (ι := Unit) (fun j => o = .inl j) (fun j => []) (fun j => [kc b_1 #[.int .i64 s2.after, .int .i64 s2.at_.c0, .int .i64 s2.at_.c1, .int .i64 s2.at_.c2] 159, kc b #[.func (.func 171) #[] #[ptr rb_1 0]] 181]) (fun j => []) ?_ ?_
  ·replace hm := h3
   refine jp ?_
   refine jV (ι := Unit) hm (fun s l => True) (fun s l => [(0, ptr rb 0), (4, ptr b 0), (5, ptr b_1 0), (13, .slice qa3 na3 ca3), (14, .int .i64 (d04.length : Int)), (15, .int .i64 s)]) (fun s l => [kc b_1 #[.int .i64 s2.after, .int .i64 s2.at_.c0, .int .i64 s2.at_.c1, .int .i64 s2.at_.c2] 159, kc b #[.func (.func 171) #[] #[ptr rb_1 0]] 181]) (fun s l => []) () (trivial) (sE Y) (fun w hh => hh) (fun s l r hpl hm h5 => ?_)
   unfold qO at hm
   refine jr (J6 Y Y Y (jq (ji ?_)))
   refine ju Y (fun h6 => ?_) (fun h6 => ?_)
   ·replace hm := ifD h6 hm
    refine jt (jb (ji (jp (jr (jg Y Y ?_)))))
    obtain ⟨t18, h7, hm⟩ := bindO hm
    refine jc Y Y Y (fun w _ => yX h7 (runUnderlying24 w) (sizeOf55 w) Y Y hna3 hqa3) ?_
    refine jc Y Y Y (fun w hh => J5 RSi 0 [.int .i64 t18.after, .int .i64 t18.cell, .bool t18.upright] h7 (isAgg55 w) (sizeOf55 w) Y (hh.seg 3 Y) Y (Nat.add_zero _).symm) ?_
    refine jv (fun w => zeroValue55 w) Y (fun b_2 h8 => ?_)
    refine jo Y Y (j3 (us := #[_, _, _]) (cs' := [_, _, _]) (S' := [_, _, _]) 0 (fun w => sizeOf55 w) Y Y Y Y Y Y Y (jq (ji ?_)))
    obtain ⟨o_1, h9, h10⟩ := bindO hm
    refine jR (ι := Unit) (fun l_1 => True) (fun l_1 => [(0, ptr rb 0), (4, ptr b 0), (5, ptr b_1 0), (13, .slice qa3 na3 ca3), (14, .int .i64 (d04.length : Int)), (15, .int .i64 s), (41, .bool o_1)]) (fun l_1 => [kc b_2 #[.int .i64 t18.after, .int .i64 t18.cell, .bool t18.upright] 55, kc b_1 #[.int .i64 s2.after, .int .i64 s2.at_.c0, .int .i64 s2.at_.c1, .int .i64 s2.at_.c2] 159, kc b #[.func (.func 171) #[] #[ptr rb_1 0]] 181]) (fun l_1 => []) ?_ ?_
    ·replace hm := h9
     refine kE none (.free 0 (.hoist 1 (.free 2 (.hoist 3 (.free 4 (.free 5 (.free 6 (.hoist 7 (.free 8 (.one 9 (.free 10 (.free 11 (.free 12 (.hoist 13 (.free 15 (.hoist 16 (.free 18 (.hoist 19 (.one 14 (.one 17 (.free 20 (.free 21 .done)))))))))))))))))))))) _ Y (by decide +kernel) (fun w k hh => hh.draw k) (fun w hh => hh) ?_
     refine Kk 0 runUnderlying55 sizeOf3 Y Y Y Y (KW 0 isAgg3 Y Y Y Y Y (Kk 0 runUnderlying159 sizeOf3 Y Y Y Y (KW 1 isAgg3 Y Y Y Y Y (jl Y Y Y Y (fun _ _ => zS Y Y) (zb Y Y Y ?_)))))
     refine jH 25 Y (fun h11 => ?_) (fun h11 => ?_)
     ·replace hm := ifD h11 hm
      refine qX Y Y Y Y Y Y (fun w _ => jW 0 (runUnderlying181 w) Y (sizeOf102 w) Y) (JH Y Y Y Y Y Y (fun w hh => jD (isAgg102 w) Y (hh.cell 2 Y Y)) (qX Y Y Y Y Y Y (fun _ _ => qd Y) (jF Y (ja Y Y ?_))))
      obtain ⟨t29, h12, hm⟩ := bindO hm
      refine jd [] [] Y Y Y Y Y Y Y call171 (fun w hh => ZS s f1_0_c0 rb_1 qa6 na6 ca6 w (HV.callee (S0 := []) (vs0 := []) hh (roR hh 5 Y (roR hh 6 Y roN))) hna6 hqa6 hla6 h12) (fun l_2 h13 => ?_)
      refine jm (fun w hh => hh) (jl Y Y Y Y (fun _ _ => QA Y Y) (zb Y Y Y ?_))
      refine jH 31 Y (fun h14 => ?_) (fun h14 => ?_)
      ·replace hm := ifT (h14) hm
       refine qX Y Y Y Y Y Y (fun _ _ => qd Y) (JH Y Y Y Y Y Y (fun w hh => jP (vs := [_, _, _, _]) (isAgg159 w) (sizeOf159 w) Y (hh.cells 1 Y Y)) (qX Y Y Y Y Y Y (fun w _ => jW 1 (runUnderlying55 w) Y (sizeOf3 w) Y) (JH Y Y Y Y Y Y (fun w hh => jD (isAgg3 w) Y (hh.cell 0 Y Y)) (qX Y Y Y Y Y Y (fun w _ => jW 2 (runUnderlying55 w) Y (sizeOf4 w) Y) (JH Y Y Y Y Y Y (fun w hh => jD (isAgg4 w) Y (hh.cell 0 Y Y)) (jF Y (ja Y Y ?_)))))))
       obtain ⟨t34, h15, hm⟩ := bindO hm
       refine jd [] [] Y Y Y Y Y Y Y call100 (fun w hh => zV d00 d01 d02 d03 d04 d05 s2 rb qa1 na1 ca1 qa2 na2 ca2 qa3 na3 ca3 qa4 na4 ca4 w (HV.callee (S0 := []) (vs0 := []) hh (roR hh 0 Y (roR hh 1 Y (roR hh 2 Y (roR hh 3 Y (roR hh 4 Y roN)))))) hna1 hqa1 hla1 hna2 hqa2 hla2 hna3 hqa3 hla3 hna4 hqa4 hla4 h15) (fun l_3 h16 => ?_)
       have h17 := h16
       refine kQ (S' := [_, _, _]) (vs' := [_]) [0, 1, 2] [0] 0 Y Y Y Y (jm (hsE [0, 1, 2] [] 0 Y Y Y Y) (jF Y (ja Y Y ?_)))
       obtain ⟨t37, h18, hm⟩ := bindO hm
       refine jd [] [] Y Y Y Y Y Y Y call64 (fun w hh => jY t34 t18.cell (qA l_3.q) l_3.n l_3.cap w (HV.callee (S0 := []) (vs0 := []) hh (roC (hh.vsepA 0 Y h17) roN)) (vlen RI h17 Y) (AOK.q (vne h17)) (h17).hle h18) (fun l_4 h19 => ?_)
       refine jm (hsE [0, 1, 2] [] 0 Y Y Y Y) (qX Y Y Y Y Y Y (fun w _ => Q8 (runUnderlying4 w) Y Y) (jl Y Y Y Y (fun _ _ => QA Y Y) (jS ?_)))
       obtain rfl := sj hm
       exact jj () (trivial) (sE Y) (hsE [0, 1, 2] [] 0 Y Y Y Y)
      replace hm := ifN h14 hm
      refine kv Y Y Y Y Y Y Y (JR Y Y Y Y Y Y Y (kv Y Y Y Y Y Y Y (JR Y Y Y Y Y Y Y (kv Y Y Y Y Y Y Y (JR Y Y Y Y Y Y Y (jF Y (g_k Y Y Y Y ?_)))))))
      refine jm (fun w hh => hh) (jF Y (g_k Y Y Y Y (jm (fun w hh => hh) (kv Y Y Y Y Y Y Y (jl Y Y Y Y (fun _ _ => KA Y Y) (jS ?_))))))
      obtain rfl := sj hm
      exact jj () (trivial) (sE Y) (fun w hh => hh)
     replace hm := ifE h11 hm
     refine kv Y Y Y Y Y Y Y (JR Y Y Y Y Y Y Y (kv Y Y Y Y Y Y Y (jF Y (g_k Y Y Y Y (jm (fun w hh => hh) (jl Y Y Y Y (fun _ _ => KA Y Y) (zb Y Y Y ?_)))))))
     refine kv Y Y Y Y Y Y Y (JR Y Y Y Y Y Y Y (kv Y Y Y Y Y Y Y (JR Y Y Y Y Y Y Y (kv Y Y Y Y Y Y Y (JR Y Y Y Y Y Y Y (jF Y (g_k Y Y Y Y ?_)))))))
     refine jm (fun w hh => hh) (jF Y (g_k Y Y Y Y (jm (fun w hh => hh) (kv Y Y Y Y Y Y Y (jl Y Y Y Y (fun _ _ => KA Y Y) (jS ?_))))))
     obtain rfl := sj hm
     exact jj () (trivial) (sE Y) (fun w hh => hh)
    intro l_1 hj
    replace hm := h10
    refine jb ?_
    refine ju Y (fun h20 => ?_) (fun h20 => ?_)
    ·replace hm := ifT (h20) hm
     refine jr (jo Y Y (jq (jx (jz (je (je (jz ?_)))))))
     obtain rfl := sj hm
     have hbo := h5 _ Y
     subst hbo
     refine je ?_
     replace hm := ocR h4
     refine je ?_
     obtain rfl := sj hm
     refine jn Y (fun w hh => (.tmp Y .nil)) (fun w hh => ⟨(), rfl, trivial, hh.se [] [] 7 Y Y Y rfl⟩)
    replace hm := ifN h20 hm
    refine jt (jw (jb (jh ?_)))
    obtain ⟨t42, h21, hm⟩ := bindO hm
    refine Ke h21 Y Y Y (jg Y Y (js ?_))
    obtain rfl := sj hm
    refine jb ?_
    exact jG _ () Y (trivial) (sE Y) (hsE [1, 2] [] 0 Y Y Y Y)
   replace hm := ifE h6 hm
   refine j8 (jk (jk (jI ?_)))
   obtain rfl := sj hm
   have hbo := h5 _ Y
   subst hbo
   exact jj () (Y) (.nil) (fun w hh => hh)
  intro j hj
  have h22 := hj
  subst h22
  replace hm := ocL h4
  refine jb (jr (jo Y Y (jq (jx ?_))))
  obtain rfl := sj hm
  refine jn Y (fun w hh => (.tmp Y .nil)) (fun w hh => ⟨(), rfl, trivial, hh.se [] [] 7 Y Y Y rfl⟩)
structure kt where
  r0 : Int
  a11 : (List (State × Int))
structure zL where
  n9 : Int
  a11 : (List (State × Int))
structure kM where
  n9 : Int
  a11 : (List (State × Int))
structure QI where
  n9 : Int
  a11 : (List (State × Int))
def qq (rec_ : State → (List (State × Int)) → Int → Int → (List Int) → (List Sand) → (List Sight) → (List Int) → (List Int) → Option kt) (a220 : Int) (a221 : Int) (a222 : (List Int)) (a223 : (List Sand)) (a224 : (List Sight)) (a225 : (List Int)) (a330_c0 : (List Int)) (x : State) (s : kM) : Option kM :=
 ((rec_ x s.a11 a220 a221 a222 a223 a224 a225 a330_c0).bind fun t26 =>
 (addc s.n9 t26.r0).bind fun t27 =>
 some (⟨t27, t26.a11⟩ : QI)).bind fun o_2 =>
 some (⟨o_2.n9, o_2.a11⟩ : kM)
def yN (rec_ : State → (List (State × Int)) → Int → Int → (List Int) → (List Sand) → (List Sight) → (List Int) → (List Int) → Option kt) (s0 : State) (a11 : (List (State × Int))) (a220 : Int) (a221 : Int) (a222 : (List Int)) (a223 : (List Sand)) (a224 : (List Sight)) (a225 : (List Int)) (a330_c0 : (List Int)) : Option kt :=
 if ((aget a11 s0).isSome) = true then
 (some (⟨((aget a11 s0).getD 0), a11⟩ : kt)) else
 (((yw a220 a221 a222 a223 a224 a225 a330_c0 s0).bind fun t32 =>
 if (!t32) = true then
 (some (⟨0, a11⟩ : zL)) else
 (if s0.after = a221 then
 (some (⟨1, a11⟩ : zL)) else
 ((jU a220 a221 a222 a223 a224 a225 s0).bind fun t21 =>
 if nextOK a220 a225 (a222.length : Int) t21 then ((iterL (qq rec_ a220 a221 a222 a223 a224 a225 a330_c0) (nextL a220 a225 (a222.length : Int) t21) (⟨0, a11⟩ : kM)).bind fun o_1 =>
 some (⟨o_1.n9, o_1.a11⟩ : zL)) else none))).bind fun o =>
 (some (aset o.a11 s0 o.n9)).bind fun a11_1 =>
 some (⟨o.n9, a11_1⟩ : kt))
def jO : Nat → State → (List (State × Int)) → Int → Int → (List Int) → (List Sand) → (List Sight) → (List Int) → (List Int) → Option kt
  | 0, _, _, _, _, _, _, _, _, _ => none
  | fu + 1, s0, a11, a220, a221, a222, a223, a224, a225, a330_c0 => yN (jO fu) s0 a11 a220 a221 a222 a223 a224 a225 a330_c0
theorem Ye (fu_ : Nat) : ∀ (s0 : State) (a11 : (List (State × Int))) (a220 : Int) (a221 : Int) (a222 : (List Int)) (a223 : (List Sand)) (a224 : (List Sight)) (a225 : (List Int)) (a330_c0 : (List Int)) (rb : Nat) (pb : Nat) (rb_1 : Nat) (rb_2 : Nat) (qa3 : Option Addr) (na3 ca3 : Nat) (qa4 : Option Addr) (na4 ca4 : Nat) (qa5 : Option Addr) (na5 ca5 : Nat) (qa6 : Option Addr) (na6 ca6 : Nat) (rb_3 : Nat) (rb_4 : Nat) (qa9 : Option Addr) (na9 ca9 : Nat) (rb_5 : Nat) (w : World) (hw : HV w (keys [(pb, gobj (kR RSta) kI a11)] []) [(pb, gobj (kR RSta) kI a11)] [] [(rb, 0, [.map (some pb)]), (rb_1, 0, [ptr rb_2 0]), (rb_2, 0, [.int .i64 a220, .int .i64 a221, .slice qa3 na3 ca3, .slice qa4 na4 ca4, .slice qa5 na5 ca5, .slice qa6 na6 ca6]), (aB qa3, aO qa3, RI.enc a222), (aB qa4, aO qa4, RSa.enc a223), (aB qa5, aO qa5, RSi.enc a224), (aB qa6, aO qa6, RI.enc a225), (rb_3, 0, [.func (.func 171) #[] #[ptr rb_4 0]]), (rb_4, 0, [.slice qa9 na9 ca9]), (aB qa9, aO qa9, RI.enc a330_c0), (rb_5, 0, [.func (.func 190) #[] #[ptr rb 0, ptr rb_1 0, ptr rb_3 0, ptr rb_5 0]])] w)    (hna3 : a222.length = na3) (hqa3 : AOK na3 qa3) (hla3 : na3 ≤ ca3) (hna4 : a223.length = na4) (hqa4 : AOK na4 qa4) (hla4 : na4 ≤ ca4) (hna5 : a224.length = na5) (hqa5 : AOK na5 qa5) (hla5 : na5 ≤ ca5) (hna6 : a225.length = na6) (hqa6 : AOK na6 qa6) (hla6 : na6 ≤ ca6)   (hna9 : a330_c0.length = na9) (hqa9 : AOK na9 qa9) (hla9 : na9 ≤ ca9)  {res : kt} (hm : jO fu_ s0 a11 a220 a221 a222 a223 a224 a225 a330_c0 = some res),
    Calls Tryz.prog 190 #[.agg #[.int .i64 s0.after, .int .i64 s0.at_.c0, .int .i64 s0.at_.c1, .int .i64 s0.at_.c2], ptr rb 0, ptr rb_1 0, ptr rb_3 0, ptr rb_5 0] w (fun en w' => ∃ l : Unit, en = .returned (.int .i64 res.r0) ∧ (True) ∧ HV w (keys [(pb, gobj (kR RSta) kI a11)] []) [(pb, gobj (kR RSta) kI res.a11)] [] [] w') := by
  induction fu_ with
  | zero =>
    intros
    rename_i hm
    exact absurd hm (by simp [jO])
  | succ fu_ ih =>
  intro s0 a11 a220 a221 a222 a223 a224 a225 a330_c0 rb pb rb_1 rb_2 qa3 na3 ca3 qa4 na4 ca4 qa5 na5 ca5 qa6 na6 ca6 rb_3 rb_4 qa9 na9 ca9 rb_5 w hw    hna3 hqa3 hla3 hna4 hqa4 hla4 hna5 hqa5 hla5 hna6 hqa6 hla6   hna9 hqa9 hla9  res hm
  replace hm : yN (jO fu_) s0 a11 a220 a221 a222 a223 a224 a225 a330_c0 = some res := hm
  unfold yN at hm
  refine YX (args := [.agg #[.int .i64 s0.after, .int .i64 s0.at_.c0, .int .i64 s0.at_.c1, .int .i64 s0.at_.c2], ptr rb 0, ptr rb_1 0, ptr rb_3 0, ptr rb_5 0]) func190 Y ntmps190 Y (e := [(0, _), (1, _), (2, _), (3, _), (4, _)]) Y (H := HV w (keys [(pb, gobj (kR RSta) kI a11)] []) [(pb, gobj (kR RSta) kI a11)] [] [(rb, 0, [.map (some pb)]), (rb_1, 0, [ptr rb_2 0]), (rb_2, 0, [.int .i64 a220, .int .i64 a221, .slice qa3 na3 ca3, .slice qa4 na4 ca4, .slice qa5 na5 ca5, .slice qa6 na6 ca6]), (aB qa3, aO qa3, RI.enc a222), (aB qa4, aO qa4, RSa.enc a223), (aB qa5, aO qa5, RSi.enc a224), (aB qa6, aO qa6, RI.enc a225), (rb_3, 0, [.func (.func 171) #[] #[ptr rb_4 0]]), (rb_4, 0, [.slice qa9 na9 ca9]), (aB qa9, aO qa9, RI.enc a330_c0), (rb_5, 0, [.func (.func 190) #[] #[ptr rb 0, ptr rb_1 0, ptr rb_3 0, ptr rb_5 0]])]) hw ?_
  refine Q4 (jr ?_)
  refine jK Y Y (fun b h1 => ?_)
  refine jo Y Y (jq (ji (jr (jc Y Y Y (fun w hh => jD (isAgg153 w) Y (segCell (hh.seg 0 Y) 0 Y)) (z8 [_, _, _, _] 0 isAgg159 sizeOf159 Y Y Y Y (jc Y Y Y (fun w hh => jaq (k := s0) (z := 0) (runUnderlying153 w) zo (zeroValue3 w) Y Y (hh.mget 1 Y)) (jg Y Y ?_)))))))
  refine yW Y Y Y (yW Y Y Y (jo Y Y (jo Y Y (kO (jg Y Y (jq ?_))))))
  refine ju Y (fun h2 => ?_) (fun h2 => ?_)
  ·replace hm := ifT (h2) hm
   refine jr (jg Y Y (jo Y Y (jq (jx (je ?_)))))
   obtain rfl := sj hm
   refine JI Y Y Y (fun w hh => (.tmp Y .nil)) (fun w hh => ⟨(), rfl, trivial, hh.se [1] [] 11 Y Y Y rfl⟩)
  replace hm := ifN h2 hm
  refine jt (jb (jr ?_))
  refine jv (fun w => zeroValue3 w) Y (fun b_1 h3 => ?_)
  refine yn (cs' := #[_]) (S' := [_, _, _]) 0 (fun w => sizeOf3 w) Y Y Y Y Y Y Y (jq (ji ?_))
  obtain ⟨o, h4, h5⟩ := bindO hm
  refine Yc (ι := List Nat) (fun l => mks l) (fun l => True) (fun l => [(1, ptr rb 0), (5, ptr b 0), (9, ptr b_1 0)]) (fun l => [kc b_1 #[.int .i64 o.n9] 3, kc b #[.int .i64 s0.after, .int .i64 s0.at_.c0, .int .i64 s0.at_.c1, .int .i64 s0.at_.c2] 159, (pb, gobj (kR RSta) kI o.a11)]) (fun l => [mkV l]) ?_ ?_
  ·replace hm := h4
   refine jp (jr (jc Y Y Y (fun w hh => jD (isAgg146 w) Y (segCell (hh.seg 1 Y) 0 Y)) (jc Y Y Y (fun w hh => jP (vs := [_]) (isAgg181 w) (sizeOf181 w) Y (segCells (hh.seg 7 Y) 0 Y)) (z8 [_, _, _, _] 1 isAgg159 sizeOf159 Y Y Y Y ?_))))
   obtain ⟨t32, h6, hm⟩ := bindO hm
   refine jd [] [] Y Y Y Y Y Y Y call143 (fun w hh => Yz a220 a221 a222 a223 a224 a225 a330_c0 s0 rb_2 qa3 na3 ca3 qa4 na4 ca4 qa5 na5 ca5 qa6 na6 ca6 rb_4 qa9 na9 ca9 w (HV.callee (S0 := []) (vs0 := []) hh (roR hh 2 Y (roR hh 3 Y (roR hh 4 Y (roR hh 5 Y (roR hh 6 Y (roR hh 8 Y (roR hh 9 Y roN)))))))) hna3 hqa3 hla3 hna4 hqa4 hla4 hna5 hqa5 hla5 hna6 hqa6 hla6 hna9 hqa9 hla9 h6) (fun l_1 h7 => ?_)
   refine jc Y Y Y (fun _ _ => yF Y) (jo Y Y (jq ?_))
   refine ju Y (fun h8 => ?_) (fun h8 => ?_)
   ·replace hm := ifT (h8) hm
    refine jt (jw ?_)
    obtain rfl := sj hm
    exact zG [] Y (trivial) (sE Y) (fun w hh => hh)
   replace hm := ifN h8 hm
   refine ji ?_
   refine kE none (.free 0 (.hoist 1 (.hoist 2 (.free 3 (.free 4 (.free 5 (.hoist 6 (.free 7 (.free 8 .done))))))))) _ Y (by decide +kernel) (fun w k hh => hh.draw k) (fun w hh => hh) ?_
   refine Kk 0 runUnderlying159 sizeOf3 Y Y Y Y (KW 1 isAgg3 Y Y Y Y Y (jy Y Y Y Y (fun w hh => jD (isAgg146 w) Y (segCell (hh.seg 1 Y) 0 Y)) (jl Y Y Y Y (fun _ _ => j4 Y) (Kk 0 runUnderlying175 sizeOf26 Y Y Y Y (Kk 1 runUnderlying26 sizeOf3 Y Y Y Y (jy Y Y Y Y (fun w hh => jD (isAgg3 w) Y (segCell (hh.seg 2 Y) 1 Y)) (jl Y Y Y Y (fun _ _ => zS Y Y) ?_)))))))
   refine jl Y Y Y Y (fun _ _ => kl Y) (jS (jb ?_))
   refine ju Y (fun h9 => ?_) (fun h9 => ?_)
   ·replace hm := ifD h9 hm
    refine jh (yn (cs' := #[_]) (S' := [_, _, _]) 0 (fun w => sizeOf3 w) Y Y Y Y Y Y Y (js (jw ?_)))
    obtain rfl := sj hm
    exact zG [] Y (trivial) (sE Y) (fun w hh => hh)
   replace hm := ifE h9 hm
   refine jr (jc Y Y Y (fun w hh => jD (isAgg146 w) Y (segCell (hh.seg 1 Y) 0 Y)) (z8 [_, _, _, _] 1 isAgg159 sizeOf159 Y Y Y Y ?_))
   obtain ⟨t21, h10, hm⟩ := bindO hm
   refine jd [] [] Y Y Y Y Y Y Y call96 (fun w hh => y7 a220 a221 a222 a223 a224 a225 s0 rb_2 qa3 na3 ca3 qa4 na4 ca4 qa5 na5 ca5 qa6 na6 ca6 w (HV.callee (S0 := []) (vs0 := []) hh (roR hh 2 Y (roR hh 3 Y (roR hh 4 Y (roR hh 5 Y (roR hh 6 Y roN)))))) hna3 hqa3 hla3 hna4 hqa4 hla4 hna5 hqa5 hla5 hna6 hqa6 hla6 h10) (fun l_2 h11 => ?_)
   refine kQ (S' := [_, _, _, _, _]) (vs' := [_]) [0, 1, 2, 3, 4] [0] 0 Y Y Y Y (jq (jp ?_))
   obtain ⟨h12, hm⟩ := ifO hm
   refine jab (e' := [(1, ptr rb 0), (4, ptr rb_5 0), (5, ptr b 0), (9, ptr b_1 0), (21, .func (.func 161) #[] #[ptr l_2.1 0, ptr l_2.2 0])]) (sE Y) ?_
   obtain ⟨o_1, h13, hm⟩ := bindO hm
   refine Qt (ι := Unit) (nextL a220 a225 (a222.length : Int) t21) (fun x => .agg #[.int .i64 x.after, .int .i64 x.at_.c0, .int .i64 x.at_.c1, .int .i64 x.at_.c2]) h13 (fun s l_3 => True) (fun s l_3 => [kc l_2.1 #[.int .i64 t21.after, .int .i64 t21.at_.c0, .int .i64 t21.at_.c1, .int .i64 t21.at_.c2] 159, kc l_2.2 #[ptr rb_2 0] 146, kc b_1 #[.int .i64 s.n9] 3, kc b #[.int .i64 s0.after, .int .i64 s0.at_.c0, .int .i64 s0.at_.c1, .int .i64 s0.at_.c2] 159, (pb, gobj (kR RSta) kI s.a11)]) (fun s l_3 => [mkV []]) () (trivial) (fun w hh => hh) (RdN l_2.2 rb_2 l_2.1 a220 (.int .i64 a221) (.slice qa4 na4 ca4) (.slice qa5 na5 ca5) qa3 qa6 na3 ca3 na6 ca6 a225 t21) (fun s l_3 w h14 hh => ⟨hh.bseg 1 rfl, hh.seg 2 rfl, hh.bseg 0 rfl, hh.seg 6 rfl⟩) (fun x => (.cells #[.int .i64 x.after, .int .i64 x.at_.c0, .int .i64 x.at_.c1, .int .i64 x.at_.c2] 159 (0, 0))) (it_next _ _ _ l_2.2 rb_2 l_2.1 a220 (.int .i64 a221) (.slice qa4 na4 ca4) (.slice qa5 na5 ca5) qa3 qa6 na3 ca3 na6 ca6 a222 a225 t21 hna3 hna6 hqa6 h12) Y call161 Y (e1 := fun x bx => (10, ptr bx 0) :: (22, .agg #[.int .i64 x.after, .int .i64 x.at_.c0, .int .i64 x.at_.c1, .int .i64 x.at_.c2]) :: [(1, ptr rb 0), (4, ptr rb_5 0), (5, ptr b 0), (9, ptr b_1 0), (21, .func (.func 161) #[] #[ptr l_2.1 0, ptr l_2.2 0])]) (fun x lr L X hX => ?_) (fun x s r l_3 lr w1 bx h14 hm => ?_) (fun l_3 D h14 => ?_)
   ·refine jh ?_
    refine jv (fun w => zeroValue159 w) Y (fun b_2 h17 => ?_)
    refine j3 (us := #[_, _, _, _]) (cs' := [_, _, _, _]) (S' := [_]) 0 (fun w => sizeOf159 w) Y Y Y Y Y Y Y (jq ?_)
    exact hX _
   ·unfold qq at hm
    refine jp ?_
    obtain ⟨o_2, h18, h19⟩ := bindO hm
    refine jR (ι := Unit) (fun l_4 => True) (fun l_4 => []) (fun l_4 => [kc bx #[.int .i64 x.after, .int .i64 x.at_.c0, .int .i64 x.at_.c1, .int .i64 x.at_.c2] 159, kc l_2.1 #[.int .i64 t21.after, .int .i64 t21.at_.c0, .int .i64 t21.at_.c1, .int .i64 t21.at_.c2] 159, kc l_2.2 #[ptr rb_2 0] 146, kc b_1 #[.int .i64 o_2.n9] 3, kc b #[.int .i64 s0.after, .int .i64 s0.at_.c0, .int .i64 s0.at_.c1, .int .i64 s0.at_.c2] 159, (pb, gobj (kR RSta) kI o_2.a11)]) (fun l_4 => [mkV []]) ?_ ?_
    ·replace hm := h18
     refine kE (some 5) (.hoist 0 (.hoist 1 (.hoist 2 (.one 3 (.free 4 (.last 5 .done)))))) (HV _ _ [kc bx #[.int .i64 x.after, .int .i64 x.at_.c0, .int .i64 x.at_.c1, .int .i64 x.at_.c2] 159, kc l_2.1 #[.int .i64 t21.after, .int .i64 t21.at_.c0, .int .i64 t21.at_.c1, .int .i64 t21.at_.c2] 159, kc l_2.2 #[ptr rb_2 0] 146, kc b_1 #[.int .i64 s.n9] 3, kc b #[.int .i64 s0.after, .int .i64 s0.at_.c0, .int .i64 s0.at_.c1, .int .i64 s0.at_.c2] 159] [mkV []] _) Y (by decide +kernel) (fun w k hh => hh.draw k) (hsE [0, 1, 2, 3, 4] [0] 0 Y Y Y Y) ?_
     refine KW 3 isAgg3 Y Y Y Y Y (jy Y Y Y Y (fun w hh => jD (isAgg171 w) Y (segCell (hh.seg 10 Y) 0 Y)) (jy Y Y Y Y (fun w hh => jP (vs := [_, _, _, _]) (isAgg159 w) (sizeOf159 w) Y (hh.cells 0 Y Y)) (jF Y ?_)))
     obtain ⟨t26, h20, hm⟩ := bindO hm
     refine kQ (S' := [_, _, _, _, _, _]) (vs' := [_]) [5, 0, 1, 2, 3, 4] [0] 0 Y Y Y Y ?_
     refine jd [_] [] Y Y Y Y Y Y Y call190 (fun w hh => ih x s.a11 a220 a221 a222 a223 a224 a225 a330_c0 rb pb rb_1 rb_2 qa3 na3 ca3 qa4 na4 ca4 qa5 na5 ca5 qa6 na6 ca6 rb_3 rb_4 qa9 na9 ca9 rb_5 w (HV.callee (S0 := [_]) (vs0 := []) hh (roR hh 0 Y (roR hh 1 Y (roR hh 2 Y (roR hh 3 Y (roR hh 4 Y (roR hh 5 Y (roR hh 6 Y (roR hh 7 Y (roR hh 8 Y (roR hh 9 Y (roR hh 10 Y roN)))))))))))) hna3 hqa3 hla3 hna4 hqa4 hla4 hna5 hqa5 hla5 hna6 hqa6 hla6 hna9 hqa9 hla9 h20) (fun l_5 h21 => ?_)
     refine kQ (S' := [_, _, _, _, _, _]) (vs' := [_]) [0, 1, 2, 3, 4, 5] [0] 0 Y Y Y Y (jm (hsE [1, 2, 3, 4, 5] [0] 0 Y Y Y Y) ?_)
     obtain ⟨t27, h22, hm⟩ := bindO hm
     refine jl Y Y Y Y (fun _ _ => KL h22 Y Y) (ZG Y (yn (cs' := #[_]) (S' := [_, _, _, _, _, _]) 4 (fun w => sizeOf3 w) Y Y Y Y Y Y Y (YR (jS ?_))))
     obtain rfl := sj hm
     exact jj () (trivial) (.nil) (hsE [1, 2, 3, 4, 5, 0] [0] 0 Y Y Y Y)
    intro l_4 hj
    replace hm := h19
    refine jw ?_
    obtain rfl := sj hm
    exact QZ (⟨o_2.n9, o_2.a11⟩ : kM) () Y (trivial) (hsE [1, 2, 3, 4, 5] [0] 11 Y Y Y Y)
   refine YY 0 Y Y (jw (jw ?_))
   obtain rfl := sj hm
   exact zG (D :: []) Y (trivial) (sE Y) (hsE [2, 3, 4] [0] 0 Y Y Y Y)
  intro l hj
  replace hm := h5
  refine jb (jr (jc Y Y Y (fun w hh => jD (isAgg153 w) Y (segCell (hh.seg 0 Y) 0 Y)) (z8 [_, _, _, _] 1 isAgg159 sizeOf159 Y Y Y Y (qy 0 isAgg3 Y Y Y Y ?_))))
  obtain ⟨a11_1, h23, hm⟩ := bindO hm
  refine Yj (k := s0) (v := o.n9) 2 (fun w => runUnderlying153 w) zo Y Y Y Y (Option.some.inj h23) Y (kO (qy 0 isAgg3 Y Y Y Y (jo Y Y (jq (jx ?_)))))
  obtain rfl := sj hm
  refine JI Y Y Y (fun w hh => (.tmp Y .nil)) (fun w hh => ⟨(), rfl, trivial, hh.se [2] [] 11 Y Y Y rfl⟩)
def zX (d00 : Int) (d01 : Int) (d02 : (List Int)) (d03 : (List Sand)) (d04 : (List Sight)) (d05 : (List Int)) (f1_0_c0 : (List Int)) : Option (List (State × Int)) :=
 (jJ d00 d01 d02 d03 d04 d05).bind fun t11 =>
 (jO FU t11 [] d00 d01 d02 d03 d04 d05 f1_0_c0).bind fun t12 =>
 some t12.a11
theorem YS (d00 : Int) (d01 : Int) (d02 : (List Int)) (d03 : (List Sand)) (d04 : (List Sight)) (d05 : (List Int)) (f1_0_c0 : (List Int)) (rb : Nat) (qa1 : Option Addr) (na1 ca1 : Nat) (qa2 : Option Addr) (na2 ca2 : Nat) (qa3 : Option Addr) (na3 ca3 : Nat) (qa4 : Option Addr) (na4 ca4 : Nat) (rb_1 : Nat) (qa6 : Option Addr) (na6 ca6 : Nat) (w : World) (hw : HV w (keys [] []) [] [] [(rb, 0, [.int .i64 d00, .int .i64 d01, .slice qa1 na1 ca1, .slice qa2 na2 ca2, .slice qa3 na3 ca3, .slice qa4 na4 ca4]), (aB qa1, aO qa1, RI.enc d02), (aB qa2, aO qa2, RSa.enc d03), (aB qa3, aO qa3, RSi.enc d04), (aB qa4, aO qa4, RI.enc d05), (rb_1, 0, [.slice qa6 na6 ca6]), (aB qa6, aO qa6, RI.enc f1_0_c0)] w)  (hna1 : d02.length = na1) (hqa1 : AOK na1 qa1) (hla1 : na1 ≤ ca1) (hna2 : d03.length = na2) (hqa2 : AOK na2 qa2) (hla2 : na2 ≤ ca2) (hna3 : d04.length = na3) (hqa3 : AOK na3 qa3) (hla3 : na3 ≤ ca3) (hna4 : d05.length = na4) (hqa4 : AOK na4 qa4) (hla4 : na4 ≤ ca4)  (hna6 : f1_0_c0.length = na6) (hqa6 : AOK na6 qa6) (hla6 : na6 ≤ ca6) {res : (List (State × Int))} (hm : zX d00 d01 d02 d03 d04 d05 f1_0_c0 = some res) :
    Calls Tryz.prog 159 #[ptr rb 0, .agg #[.func (.func 171) #[] #[ptr rb_1 0]]] w (fun en w' => ∃ l : Nat, en = .returned (.map (some l)) ∧ (True) ∧ HV w (keys [] []) [(l, gobj (kR RSta) kI res)] [] [] w') := by
  unfold zX at hm
  refine yk func159 Y ntmps159 Y (e := [(0, _), (1, _)]) Y hw (jr ?_)
  refine jK Y Y (fun b h1 => ?_)
  refine jK Y Y (fun b_1 h2 => ?_)
  refine jo Y Y (kO ?_)
  refine Y1 (kR RSta) kI Y (fun b_2 h3 => ?_)
  refine jv (fun w => zeroValue153 w) Y (fun b_3 h4 => ?_)
  refine yn (cs' := #[_]) (S' := [_, _, _, _]) 0 (fun w => sizeOf153 w) Y Y Y Y Y Y Y (kO ?_)
  refine jv (fun w => zeroValue171 w) Y (fun b_4 h5 => ?_)
  refine kO (jc Y Y Y (fun _ _ => jZ (u := #[]) (u' := #[_, _, _, _]) Y Y) (yn (cs' := #[_]) (S' := [_, _, _, _, _]) 0 (fun w => sizeOf171 w) Y Y Y Y Y Y Y (jq (ji ?_))))
  refine kE none (.hoist 0 (.hoist 1 (.one 2 (.one 3 .done)))) (HV _ _ [kc b_4 #[.func (.func 190) #[] #[ptr b_3 0, ptr b 0, ptr b_1 0, ptr b_4 0]] 171, kc b_3 #[.map (some b_2)] 153, kc b_1 #[.func (.func 171) #[] #[ptr rb_1 0]] 181, kc b #[ptr rb 0] 146] [] _) Y (by decide +kernel) (fun w k hh => hh.draw k) (hsE [0, 1, 3, 4] [] 0 Y Y Y Y) ?_
  refine KW 0 isAgg171 Y Y Y Y Y (KW 3 isAgg146 Y Y Y Y Y (jF Y ?_))
  obtain ⟨t11, h6, hm⟩ := bindO hm
  refine jd [] [] Y Y Y Y Y Y Y call99 (fun w hh => ka d00 d01 d02 d03 d04 d05 rb qa1 na1 ca1 qa2 na2 ca2 qa3 na3 ca3 qa4 na4 ca4 w (HV.callee (S0 := []) (vs0 := []) hh (roR hh 0 Y (roR hh 1 Y (roR hh 2 Y (roR hh 3 Y (roR hh 4 Y roN)))))) hna1 hqa1 hla1 hna2 hqa2 hla2 hna3 hqa3 hla3 hna4 hqa4 hla4 h6) (fun l h7 => ?_)
  refine jm (hsE [0, 1, 3, 4] [] 0 Y Y Y Y) (jF Y ?_)
  obtain ⟨t12, h8, hm⟩ := bindO hm
  refine kQ (S' := [_, _, _, _, _]) (vs' := []) [2, 0, 1, 3, 4] [] 0 Y Y Y Y ?_
  refine jd [_] [] Y Y Y Y Y Y Y call190 (fun w hh => Ye FU t11 [] d00 d01 d02 d03 d04 d05 f1_0_c0 b_3 b_2 b rb qa1 na1 ca1 qa2 na2 ca2 qa3 na3 ca3 qa4 na4 ca4 b_1 rb_1 qa6 na6 ca6 b_4 w (HV.callee (S0 := [_]) (vs0 := []) hh (roC (hh.bsepH 1 Y) (roC (hh.bsepH 3 Y) (roR hh 0 Y (roR hh 1 Y (roR hh 2 Y (roR hh 3 Y (roR hh 4 Y (roC (hh.bsepH 2 Y) (roR hh 5 Y (roR hh 6 Y (roC (hh.bsepH 0 Y) roN)))))))))))) hna1 hqa1 hla1 hna2 hqa2 hla2 hna3 hqa3 hla3 hna4 hqa4 hla4 hna6 hqa6 hla6 h8) (fun l_1 h9 => ?_)
  refine kQ (S' := [_, _, _, _, _]) (vs' := []) [0, 1, 2, 3, 4] [] 0 Y Y Y Y (jm (hsE [1, 2, 3, 4] [] 0 Y Y Y Y) (jS (jb (jr (qy 2 isAgg153 Y Y Y Y (jo Y Y (jq ?_)))))))
  refine jx ?_
  obtain rfl := sj hm
  refine jn Y (fun w hh => (.tmp Y .nil)) (fun w hh => ⟨b_2, rfl, trivial, hh.se [0] [] 7 Y Y Y rfl⟩)
def yA (d00 : Int) (d01 : Int) (d02 : (List Int)) (d03 : (List Sand)) (d04 : (List Sight)) (d05 : (List Int)) (f1_0_c0 : (List Int)) : Option Bool :=
 (zX d00 d01 d02 d03 d04 d05 f1_0_c0).bind fun t7 =>
 (jJ d00 d01 d02 d03 d04 d05).bind fun t9 =>
 some (decide (0 < ((aget t7 t9).getD 0)))
theorem YB (d00 : Int) (d01 : Int) (d02 : (List Int)) (d03 : (List Sand)) (d04 : (List Sight)) (d05 : (List Int)) (f1_0_c0 : (List Int)) (rb : Nat) (qa1 : Option Addr) (na1 ca1 : Nat) (qa2 : Option Addr) (na2 ca2 : Nat) (qa3 : Option Addr) (na3 ca3 : Nat) (qa4 : Option Addr) (na4 ca4 : Nat) (rb_1 : Nat) (qa6 : Option Addr) (na6 ca6 : Nat) (w : World) (hw : HV w (keys [] []) [] [] [(rb, 0, [.int .i64 d00, .int .i64 d01, .slice qa1 na1 ca1, .slice qa2 na2 ca2, .slice qa3 na3 ca3, .slice qa4 na4 ca4]), (aB qa1, aO qa1, RI.enc d02), (aB qa2, aO qa2, RSa.enc d03), (aB qa3, aO qa3, RSi.enc d04), (aB qa4, aO qa4, RI.enc d05), (rb_1, 0, [.slice qa6 na6 ca6]), (aB qa6, aO qa6, RI.enc f1_0_c0)] w)  (hna1 : d02.length = na1) (hqa1 : AOK na1 qa1) (hla1 : na1 ≤ ca1) (hna2 : d03.length = na2) (hqa2 : AOK na2 qa2) (hla2 : na2 ≤ ca2) (hna3 : d04.length = na3) (hqa3 : AOK na3 qa3) (hla3 : na3 ≤ ca3) (hna4 : d05.length = na4) (hqa4 : AOK na4 qa4) (hla4 : na4 ≤ ca4)  (hna6 : f1_0_c0.length = na6) (hqa6 : AOK na6 qa6) (hla6 : na6 ≤ ca6) {res : Bool} (hm : yA d00 d01 d02 d03 d04 d05 f1_0_c0 = some res) :
    Calls Tryz.prog 121 #[ptr rb 0, .agg #[.func (.func 171) #[] #[ptr rb_1 0]]] w (fun en w' => ∃ l : Unit, en = .returned (.bool res) ∧ (True) ∧ HV w (keys [] []) [] [] [] w') := by
  unfold yA at hm
  refine yk func121 Y ntmps121 Y (e := [(0, _), (1, _)]) Y hw (jr ?_)
  refine jK Y Y (fun b h1 => ?_)
  refine jo Y Y (kO (jg Y Y (z8 [_] 0 isAgg181 sizeOf181 Y Y Y Y ?_)))
  obtain ⟨t7, h2, hm⟩ := bindO hm
  refine jd [] [] Y Y Y Y Y Y Y call159 (fun w hh => YS d00 d01 d02 d03 d04 d05 f1_0_c0 rb qa1 na1 ca1 qa2 na2 ca2 qa3 na3 ca3 qa4 na4 ca4 rb_1 qa6 na6 ca6 w (HV.callee (S0 := []) (vs0 := []) hh (roR hh 0 Y (roR hh 1 Y (roR hh 2 Y (roR hh 3 Y (roR hh 4 Y (roR hh 5 Y (roR hh 6 Y roN)))))))) hna1 hqa1 hla1 hna2 hqa2 hla2 hna3 hqa3 hla3 hna4 hqa4 hla4 hna6 hqa6 hla6 h2) (fun l h3 => ?_)
  refine kQ (S' := [_, _]) (vs' := []) [0, 1] [] 0 Y Y Y Y (jg Y Y ?_)
  obtain ⟨t9, h4, hm⟩ := bindO hm
  refine jd [] [] Y Y Y Y Y Y Y call99 (fun w hh => ka d00 d01 d02 d03 d04 d05 rb qa1 na1 ca1 qa2 na2 ca2 qa3 na3 ca3 qa4 na4 ca4 w (HV.callee (S0 := []) (vs0 := []) hh (roR hh 0 Y (roR hh 1 Y (roR hh 2 Y (roR hh 3 Y (roR hh 4 Y roN)))))) hna1 hqa1 hla1 hna2 hqa2 hla2 hna3 hqa3 hla3 hna4 hqa4 hla4 h4) (fun l_1 h5 => ?_)
  refine jc Y Y Y (fun w hh => Yd (k := t9) (z := 0) (runUnderlying153 w) zo (zeroValue3 w) Y Y (hh.mget 0 Y)) (jc Y Y Y (fun _ _ => Y4 Y Y) (jo Y Y (jq (jx ?_))))
  obtain rfl := sj hm
  refine jn Y (fun w hh => (.tmp Y .nil)) (fun w hh => ⟨(), rfl, trivial, hh.se [] [] 7 Y Y Y rfl⟩)
def Ks (i0 : Int) (a11_cells : Int) (a11_tides : Int) (a11_fords : (List Int)) (a11_sands : (List Sand)) (a11_sights : (List Sight)) : Option Bool :=
 (subc (a11_sights.length : Int) 1).bind fun t8 =>
 (qx i0 0 t8).bind fun t9 =>
 some t9
theorem ZM (i0 : Int) (a11_cells : Int) (a11_tides : Int) (a11_fords : (List Int)) (a11_sands : (List Sand)) (a11_sights : (List Sight)) (rb : Nat) (qa1 : Option Addr) (na1 ca1 : Nat) (qa2 : Option Addr) (na2 ca2 : Nat) (qa3 : Option Addr) (na3 ca3 : Nat) (w : World) (hw : HV w (keys [] []) [] [] [(rb, 0, [.int .i64 a11_cells, .int .i64 a11_tides, .slice qa1 na1 ca1, .slice qa2 na2 ca2, .slice qa3 na3 ca3]), (aB qa1, aO qa1, RI.enc a11_fords), (aB qa2, aO qa2, RSa.enc a11_sands), (aB qa3, aO qa3, RSi.enc a11_sights)] w)  (hna1 : a11_fords.length = na1) (hqa1 : AOK na1 qa1) (hla1 : na1 ≤ ca1) (hna2 : a11_sands.length = na2) (hqa2 : AOK na2 qa2) (hla2 : na2 ≤ ca2) (hna3 : a11_sights.length = na3) (hqa3 : AOK na3 qa3) (hla3 : na3 ≤ ca3) {res : Bool} (hm : Ks i0 a11_cells a11_tides a11_fords a11_sands a11_sights = some res) :
    Calls Tryz.prog 120 #[.int .i64 i0, ptr rb 0] w (fun en w' => ∃ l : Unit, en = .returned (.bool res) ∧ (True) ∧ HV w (keys [] []) [] [] [] w') := by
  unfold Ks at hm
  refine yk func120 Y ntmps120 Y (e := [(0, _), (1, _)]) Y hw (jr (jo Y Y (kO (jg Y Y (yp 4 runUnderlying26 Y sizeOf24 Y Y (jc Y Y Y (fun w hh => jD (isAgg24 w) Y (segCell (hh.seg 0 Y) 4 Y)) (jc Y Y Y (fun w _ => kw hna3 (runUnderlying24 w) Y) ?_)))))))
  obtain ⟨t8, h1, hm⟩ := bindO hm
  refine jc Y Y Y (fun _ _ => zu h1 Y Y) ?_
  obtain ⟨t9, h2, hm⟩ := bindO hm
  refine jd [] [] Y Y Y Y Y Y Y call106 (fun w hh => Jo i0 0 t8 w (HV.callee (S0 := []) (vs0 := []) hh roN)  h2) (fun l h3 => ?_)
  refine jo Y Y (jq (jx ?_))
  obtain rfl := sj hm
  refine jn Y (fun w hh => (.tmp Y .nil)) (fun w hh => ⟨(), rfl, trivial, hh.se [] [] 4 Y Y Y rfl⟩)
end Go.Proofs.Wb

namespace Go.Proofs.Wb
set_option maxHeartbeats 4000000
set_option maxRecDepth 100000
open Go Go.Fw Go.Gx Go.Sb
open Tryz
set_option linter.unusedVariables false
def zH (x0 : Int) (a11_c0_cells : Int) (a11_c0_tides : Int) (a11_c0_fords : (List Int)) (a11_c0_sands : (List Sand)) (a11_c0_sights : (List Sight)) : Option Bool :=
 (Ks x0 a11_c0_cells a11_c0_tides a11_c0_fords a11_c0_sands a11_c0_sights).bind fun t6 =>
 some (!t6)
theorem YA (x0 : Int) (a11_c0_cells : Int) (a11_c0_tides : Int) (a11_c0_fords : (List Int)) (a11_c0_sands : (List Sand)) (a11_c0_sights : (List Sight)) (rb : Nat) (rb_1 : Nat) (qa2 : Option Addr) (na2 ca2 : Nat) (qa3 : Option Addr) (na3 ca3 : Nat) (qa4 : Option Addr) (na4 ca4 : Nat) (w : World) (hw : HV w (keys [] []) [] [] [(rb, 0, [.func (.func 120) #[] #[ptr rb_1 0]]), (rb_1, 0, [.int .i64 a11_c0_cells, .int .i64 a11_c0_tides, .slice qa2 na2 ca2, .slice qa3 na3 ca3, .slice qa4 na4 ca4]), (aB qa2, aO qa2, RI.enc a11_c0_fords), (aB qa3, aO qa3, RSa.enc a11_c0_sands), (aB qa4, aO qa4, RSi.enc a11_c0_sights)] w)   (hna2 : a11_c0_fords.length = na2) (hqa2 : AOK na2 qa2) (hla2 : na2 ≤ ca2) (hna3 : a11_c0_sands.length = na3) (hqa3 : AOK na3 qa3) (hla3 : na3 ≤ ca3) (hna4 : a11_c0_sights.length = na4) (hqa4 : AOK na4 qa4) (hla4 : na4 ≤ ca4) {res : Bool} (hm : zH x0 a11_c0_cells a11_c0_tides a11_c0_fords a11_c0_sands a11_c0_sights = some res) :
    Calls Tryz.prog 170 #[.int .i64 x0, ptr rb 0] w (fun en w' => ∃ l : Unit, en = .returned (.bool res) ∧ (True) ∧ HV w (keys [] []) [] [] [] w') := by
  unfold zH at hm
  refine yk func170 Y ntmps170 Y (e := [(0, _), (1, _)]) Y hw (jr (jo Y Y (kO (jc Y Y Y (fun w hh => jD (isAgg102 w) Y (segCell (hh.seg 0 Y) 0 Y)) (jg Y Y ?_)))))
  obtain ⟨t6, h1, hm⟩ := bindO hm
  refine jd [] [] Y Y Y Y Y Y Y call120 (fun w hh => ZM x0 a11_c0_cells a11_c0_tides a11_c0_fords a11_c0_sands a11_c0_sights rb_1 qa2 na2 ca2 qa3 na3 ca3 qa4 na4 ca4 w (HV.callee (S0 := []) (vs0 := []) hh (roR hh 1 Y (roR hh 2 Y (roR hh 3 Y (roR hh 4 Y roN))))) hna2 hqa2 hla2 hna3 hqa3 hla3 hna4 hqa4 hla4 h1) (fun l h2 => ?_)
  refine jc Y Y Y (fun _ _ => yF Y) (jo Y Y (jq (jx ?_)))
  obtain rfl := sj hm
  refine jn Y (fun w hh => (.tmp Y .nil)) (fun w hh => ⟨(), rfl, trivial, hh.se [] [] 5 Y Y Y rfl⟩)
def qu (s0 : (List Int)) (f1_c0_c0_cells : Int) (f1_c0_c0_tides : Int) (f1_c0_c0_fords : (List Int)) (f1_c0_c0_sands : (List Sand)) (f1_c0_c0_sights : (List Sight)) (s : Int) : Option (Int ⊕ (Unit ⊕ Int)) :=
 if s < (s0.length : Int) then
 ((ix s0 s).bind fun t14 =>
 (zH t14 f1_c0_c0_cells f1_c0_c0_tides f1_c0_c0_fords f1_c0_c0_sands f1_c0_c0_sights).bind fun t16 =>
 if t16 = true then
 (some (.inr (.inr s))) else
 ((addc s 1).bind fun t18 =>
 some (.inl t18))) else
 (some (.inr (.inl ())))
def zn (s0 : (List Int)) (f1_c0_c0_cells : Int) (f1_c0_c0_tides : Int) (f1_c0_c0_fords : (List Int)) (f1_c0_c0_sands : (List Sand)) (f1_c0_c0_sights : (List Sight)) : Option Int :=
 (iterM FU (qu s0 f1_c0_c0_cells f1_c0_c0_tides f1_c0_c0_fords f1_c0_c0_sands f1_c0_c0_sights) 0).bind fun o =>
 oc o (fun j => some (-1)) (fun r_1 => some r_1)
theorem Yi (s0 : (List Int)) (f1_c0_c0_cells : Int) (f1_c0_c0_tides : Int) (f1_c0_c0_fords : (List Int)) (f1_c0_c0_sands : (List Sand)) (f1_c0_c0_sights : (List Sight)) (qa0 : Option Addr) (na0 ca0 : Nat) (rb : Nat) (rb_1 : Nat) (qa3 : Option Addr) (na3 ca3 : Nat) (qa4 : Option Addr) (na4 ca4 : Nat) (qa5 : Option Addr) (na5 ca5 : Nat) (w : World) (hw : HV w (keys [] []) [] [] [(aB qa0, aO qa0, RI.enc s0), (rb, 0, [.func (.func 120) #[] #[ptr rb_1 0]]), (rb_1, 0, [.int .i64 f1_c0_c0_cells, .int .i64 f1_c0_c0_tides, .slice qa3 na3 ca3, .slice qa4 na4 ca4, .slice qa5 na5 ca5]), (aB qa3, aO qa3, RI.enc f1_c0_c0_fords), (aB qa4, aO qa4, RSa.enc f1_c0_c0_sands), (aB qa5, aO qa5, RSi.enc f1_c0_c0_sights)] w) (hna0 : s0.length = na0) (hqa0 : AOK na0 qa0) (hla0 : na0 ≤ ca0)   (hna3 : f1_c0_c0_fords.length = na3) (hqa3 : AOK na3 qa3) (hla3 : na3 ≤ ca3) (hna4 : f1_c0_c0_sands.length = na4) (hqa4 : AOK na4 qa4) (hla4 : na4 ≤ ca4) (hna5 : f1_c0_c0_sights.length = na5) (hqa5 : AOK na5 qa5) (hla5 : na5 ≤ ca5) {res : Int} (hm : zn s0 f1_c0_c0_cells f1_c0_c0_tides f1_c0_c0_fords f1_c0_c0_sands f1_c0_c0_sights = some res) :
    Calls Tryz.prog 148 #[.slice qa0 na0 ca0, .func (.func 170) #[] #[ptr rb 0]] w (fun en w' => ∃ l : Unit, en = .returned (.int .i64 res) ∧ (True) ∧ HV w (keys [] []) [] [] [] w') := by
  unfold zn at hm
  refine yk func148 Y ntmps148 Y (e := [(0, _), (1, _)]) Y hw (jr (jo Y Y (jq (ji (jr (jg Y Y (jc Y Y Y (fun w _ => kw hna0 (runUnderlying22 w) Y) ?_)))))))
  refine jg Y Y (jq ?_)
  obtain ⟨o, h1, h2⟩ := bindO hm
  refine jR (ι := Unit) (fun j => o = .inl j) (fun j => []) (fun j => []) (fun j => []) ?_ ?_
  ·replace hm := h1
   refine jp ?_
   refine jV (ι := Unit) hm (fun s l => True) (fun s l => [(0, .slice qa0 na0 ca0), (1, .func (.func 170) #[] #[ptr rb 0]), (7, .int .i64 (s0.length : Int)), (8, .int .i64 s)]) (fun s l => []) (fun s l => []) () (trivial) (sE Y) (fun w hh => hh) (fun s l r hpl hm h3 => ?_)
   unfold qu at hm
   refine jr (J6 Y Y Y (jq (ji ?_)))
   refine ju Y (fun h4 => ?_) (fun h4 => ?_)
   ·replace hm := ifD h4 hm
    refine jt (jb (ji (jp (jr (jg Y Y (jo Y Y (kO ?_)))))))
    refine jg Y Y (jg Y Y (jg Y Y ?_))
    obtain ⟨t14, h5, hm⟩ := bindO hm
    refine jc Y Y Y (fun w _ => yX h5 (runUnderlying22 w) (sizeOf3 w) Y Y hna0 hqa0) (jc Y Y Y (fun w hh => k7 RI 0 h5 (isAgg3 w) Y (hh.seg 0 Y) Y (Nat.add_zero _).symm) ?_)
    obtain ⟨t16, h6, hm⟩ := bindO hm
    refine jd [] [] Y Y Y Y Y Y Y call170 (fun w hh => YA t14 f1_c0_c0_cells f1_c0_c0_tides f1_c0_c0_fords f1_c0_c0_sands f1_c0_c0_sights rb rb_1 qa3 na3 ca3 qa4 na4 ca4 qa5 na5 ca5 w (HV.callee (S0 := []) (vs0 := []) hh (roR hh 1 Y (roR hh 2 Y (roR hh 3 Y (roR hh 4 Y (roR hh 5 Y roN)))))) hna3 hqa3 hla3 hna4 hqa4 hla4 hna5 hqa5 hla5 h6) (fun l_1 h7 => ?_)
    refine jq ?_
    refine ju Y (fun h8 => ?_) (fun h8 => ?_)
    ·replace hm := ifT (h8) hm
     refine jr (jg Y Y (jo Y Y (jq (jx (jz (je (je ?_)))))))
     refine jz ?_
     obtain rfl := sj hm
     have hbo := h3 _ Y
     subst hbo
     refine je ?_
     replace hm := ocR h2
     refine je ?_
     obtain rfl := sj hm
     refine jn Y (fun w hh => (.tmp Y .nil)) (fun w hh => ⟨(), rfl, trivial, hh.se [] [] 6 Y Y Y rfl⟩)
    replace hm := ifN h8 hm
    refine jt (jw (jb (jh ?_)))
    obtain ⟨t18, h9, hm⟩ := bindO hm
    refine Ke h9 Y Y Y (jg Y Y (js ?_))
    obtain rfl := sj hm
    refine jb ?_
    exact jG _ () Y (trivial) (sE Y) (fun w hh => hh)
   replace hm := ifE h4 hm
   refine j8 (jk (jk (jI ?_)))
   obtain rfl := sj hm
   have hbo := h3 _ Y
   subst hbo
   exact jj () (Y) (.nil) (fun w hh => hh)
  intro j hj
  have h10 := hj
  subst h10
  replace hm := ocL h2
  refine jb (jr (jo Y Y (jq (jx ?_))))
  obtain rfl := sj hm
  refine jn Y (fun w hh => (.tmp Y .nil)) (fun w hh => ⟨(), rfl, trivial, hh.se [] [] 6 Y Y Y rfl⟩)
def yr (s0 : (List Int)) (f1_c0_c0_cells : Int) (f1_c0_c0_tides : Int) (f1_c0_c0_fords : (List Int)) (f1_c0_c0_sands : (List Sand)) (f1_c0_c0_sights : (List Sight)) : Option Bool :=
 (zn s0 f1_c0_c0_cells f1_c0_c0_tides f1_c0_c0_fords f1_c0_c0_sands f1_c0_c0_sights).bind fun t7 =>
 some (decide (0 ≤ t7))
theorem QL (s0 : (List Int)) (f1_c0_c0_cells : Int) (f1_c0_c0_tides : Int) (f1_c0_c0_fords : (List Int)) (f1_c0_c0_sands : (List Sand)) (f1_c0_c0_sights : (List Sight)) (qa0 : Option Addr) (na0 ca0 : Nat) (rb : Nat) (rb_1 : Nat) (qa3 : Option Addr) (na3 ca3 : Nat) (qa4 : Option Addr) (na4 ca4 : Nat) (qa5 : Option Addr) (na5 ca5 : Nat) (w : World) (hw : HV w (keys [] []) [] [] [(aB qa0, aO qa0, RI.enc s0), (rb, 0, [.func (.func 120) #[] #[ptr rb_1 0]]), (rb_1, 0, [.int .i64 f1_c0_c0_cells, .int .i64 f1_c0_c0_tides, .slice qa3 na3 ca3, .slice qa4 na4 ca4, .slice qa5 na5 ca5]), (aB qa3, aO qa3, RI.enc f1_c0_c0_fords), (aB qa4, aO qa4, RSa.enc f1_c0_c0_sands), (aB qa5, aO qa5, RSi.enc f1_c0_c0_sights)] w) (hna0 : s0.length = na0) (hqa0 : AOK na0 qa0) (hla0 : na0 ≤ ca0)   (hna3 : f1_c0_c0_fords.length = na3) (hqa3 : AOK na3 qa3) (hla3 : na3 ≤ ca3) (hna4 : f1_c0_c0_sands.length = na4) (hqa4 : AOK na4 qa4) (hla4 : na4 ≤ ca4) (hna5 : f1_c0_c0_sights.length = na5) (hqa5 : AOK na5 qa5) (hla5 : na5 ≤ ca5) {res : Bool} (hm : yr s0 f1_c0_c0_cells f1_c0_c0_tides f1_c0_c0_fords f1_c0_c0_sands f1_c0_c0_sights = some res) :
    Calls Tryz.prog 65 #[.slice qa0 na0 ca0, .func (.func 170) #[] #[ptr rb 0]] w (fun en w' => ∃ l : Unit, en = .returned (.bool res) ∧ (True) ∧ HV w (keys [] []) [] [] [] w') := by
  unfold yr at hm
  refine yk func65 Y ntmps65 Y (e := [(0, _), (1, _)]) Y hw (jr (jo Y Y (kO (jg Y Y (jg Y Y ?_)))))
  obtain ⟨t7, h1, hm⟩ := bindO hm
  refine jd [] [] Y Y Y Y Y Y Y call148 (fun w hh => Yi s0 f1_c0_c0_cells f1_c0_c0_tides f1_c0_c0_fords f1_c0_c0_sands f1_c0_c0_sights qa0 na0 ca0 rb rb_1 qa3 na3 ca3 qa4 na4 ca4 qa5 na5 ca5 w (HV.callee (S0 := []) (vs0 := []) hh (roR hh 0 Y (roR hh 1 Y (roR hh 2 Y (roR hh 3 Y (roR hh 4 Y (roR hh 5 Y roN))))))) hna0 hqa0 hla0 hna3 hqa3 hla3 hna4 hqa4 hla4 hna5 hqa5 hla5 h1) (fun l h2 => ?_)
  refine jc Y Y Y (fun _ _ => Zf Y Y) (jo Y Y (jq (jx ?_)))
  obtain rfl := sj hm
  refine jn Y (fun w hh => (.tmp Y .nil)) (fun w hh => ⟨(), rfl, trivial, hh.se [] [] 6 Y Y Y rfl⟩)
def zi (l0 : (List Int)) (holds1_c0_cells : Int) (holds1_c0_tides : Int) (holds1_c0_fords : (List Int)) (holds1_c0_sands : (List Sand)) (holds1_c0_sights : (List Sight)) : Option Bool :=
 (yr l0 holds1_c0_cells holds1_c0_tides holds1_c0_fords holds1_c0_sands holds1_c0_sights).bind fun t7 =>
 some (!t7)
theorem Zb (l0 : (List Int)) (holds1_c0_cells : Int) (holds1_c0_tides : Int) (holds1_c0_fords : (List Int)) (holds1_c0_sands : (List Sand)) (holds1_c0_sights : (List Sight)) (qa0 : Option Addr) (na0 ca0 : Nat) (rb : Nat) (qa2 : Option Addr) (na2 ca2 : Nat) (qa3 : Option Addr) (na3 ca3 : Nat) (qa4 : Option Addr) (na4 ca4 : Nat) (w : World) (hw : HV w (keys [] []) [] [] [(aB qa0, aO qa0, RI.enc l0), (rb, 0, [.int .i64 holds1_c0_cells, .int .i64 holds1_c0_tides, .slice qa2 na2 ca2, .slice qa3 na3 ca3, .slice qa4 na4 ca4]), (aB qa2, aO qa2, RI.enc holds1_c0_fords), (aB qa3, aO qa3, RSa.enc holds1_c0_sands), (aB qa4, aO qa4, RSi.enc holds1_c0_sights)] w) (hna0 : l0.length = na0) (hqa0 : AOK na0 qa0) (hla0 : na0 ≤ ca0)  (hna2 : holds1_c0_fords.length = na2) (hqa2 : AOK na2 qa2) (hla2 : na2 ≤ ca2) (hna3 : holds1_c0_sands.length = na3) (hqa3 : AOK na3 qa3) (hla3 : na3 ≤ ca3) (hna4 : holds1_c0_sights.length = na4) (hqa4 : AOK na4 qa4) (hla4 : na4 ≤ ca4) {res : Bool} (hm : zi l0 holds1_c0_cells holds1_c0_tides holds1_c0_fords holds1_c0_sands holds1_c0_sights = some res) :
    Calls Tryz.prog 119 #[.slice qa0 na0 ca0, .func (.func 120) #[] #[ptr rb 0]] w (fun en w' => ∃ l : Unit, en = .returned (.bool res) ∧ (True) ∧ HV w (keys [] []) [] [] [] w') := by
  unfold zi at hm
  refine yk func119 Y ntmps119 Y (e := [(0, _), (1, _)]) Y hw (jr ?_)
  refine jK Y Y (fun b h1 => ?_)
  refine jo Y Y (kO (jg Y Y (jc Y Y Y (fun _ _ => jZ (u := #[]) (u' := #[_]) Y Y) ?_)))
  obtain ⟨t7, h2, hm⟩ := bindO hm
  refine jd [] [] Y Y Y Y Y Y Y call65 (fun w hh => QL l0 holds1_c0_cells holds1_c0_tides holds1_c0_fords holds1_c0_sands holds1_c0_sights qa0 na0 ca0 b rb qa2 na2 ca2 qa3 na3 ca3 qa4 na4 ca4 w (HV.callee (S0 := []) (vs0 := []) hh (roR hh 0 Y (roC (bsep (hh.bseg 0 Y)) (roR hh 1 Y (roR hh 2 Y (roR hh 3 Y (roR hh 4 Y roN))))))) hna0 hqa0 hla0 hna2 hqa2 hla2 hna3 hqa3 hla3 hna4 hqa4 hla4 h2) (fun l h3 => ?_)
  refine jc Y Y Y (fun _ _ => yF Y) (jo Y Y (jq (jx ?_)))
  obtain rfl := sj hm
  refine jn Y (fun w hh => (.tmp Y .nil)) (fun w hh => ⟨(), rfl, trivial, hh.se [] [] 5 Y Y Y rfl⟩)
structure yo where
  r0 : Bool
  r1 : Int
def Jc (sights1 : (List Int)) (s : Int) : Option (Int ⊕ (Unit ⊕ yo)) :=
 if s < (sights1.length : Int) then
 ((ix sights1 s).bind fun t29 =>
 if 0 ≤ s ∧ s ≤ (sights1.length : Int) then ((jC (sights1.take (Int.toNat s)) t29).bind fun t35 =>
 if t35 = true then
 (some (.inr (.inr (⟨false, 5⟩ : yo)))) else
 ((addc s 1).bind fun t36 =>
 some (.inl t36))) else none) else
 (some (.inr (.inl ())))
def Jz (c0 : Channel) (sights1 : (List Int)) : Option yo :=
 (yb c0).bind fun t12 =>
 oc t12 (fun t12a => some (⟨false, t12a⟩ : yo)) (fun t12b => (zi sights1 c0.cells c0.tides c0.fords c0.sands c0.sights).bind fun t22 =>
 if (!t22) = true then
 (some (⟨false, 1⟩ : yo)) else
 ((iterM FU (Jc sights1) 0).bind fun o =>
 oc o (fun j => (Qp sights1).bind fun t39 =>
 (yA t12b.t14_0 t12b.t14_1 c0.fords c0.sands c0.sights t12b.t14_5 sights1).bind fun t40 =>
 some (⟨t40, 0⟩ : yo)) (fun r_1 => some r_1)))
theorem Z7 (c0 : Channel) (sights1 : (List Int)) (qa0 : Option Addr) (na0 ca0 : Nat) (qa1 : Option Addr) (na1 ca1 : Nat) (qa2 : Option Addr) (na2 ca2 : Nat) (qa3 : Option Addr) (na3 ca3 : Nat) (w : World) (hw : HV w (keys [] []) [] [] [(aB qa0, aO qa0, RI.enc c0.fords), (aB qa1, aO qa1, RSa.enc c0.sands), (aB qa2, aO qa2, RSi.enc c0.sights), (aB qa3, aO qa3, RI.enc sights1)] w) (hna0 : c0.fords.length = na0) (hqa0 : AOK na0 qa0) (hla0 : na0 ≤ ca0) (hna1 : c0.sands.length = na1) (hqa1 : AOK na1 qa1) (hla1 : na1 ≤ ca1) (hna2 : c0.sights.length = na2) (hqa2 : AOK na2 qa2) (hla2 : na2 ≤ ca2) (hna3 : sights1.length = na3) (hqa3 : AOK na3 qa3) (hla3 : na3 ≤ ca3) {res : yo} (hm : Jz c0 sights1 = some res) :
    Calls Tryz.prog 47 #[.agg #[.int .i64 c0.cells, .int .i64 c0.tides, .slice qa0 na0 ca0, .slice qa1 na1 ca1, .slice qa2 na2 ca2], .slice qa3 na3 ca3] w (fun en w' => ∃ l : Unit, en = .returned (.tuple #[.bool res.r0, .int .i64 res.r1]) ∧ (True) ∧ HV w (keys [] []) [] [] [] w') := by
  unfold Jz at hm
  refine yk func47 Y ntmps47 Y (e := [(0, _), (1, _)]) Y hw (jr ?_)
  refine jK Y Y (fun b h1 => ?_)
  refine jo Y Y (jo Y Y (kO (z8 [_, _, _, _, _] 0 isAgg26 sizeOf26 Y Y Y Y ?_)))
  obtain ⟨t12, h2, hm⟩ := bindO hm
  rcases t12 with t12a | t12b
  ·replace hm := ocL hm
   refine jd [] [] Y Y Y Y Y Y Y call93 (fun w hh => qH c0 qa0 na0 ca0 qa1 na1 ca1 qa2 na2 ca2 w (HV.callee (S0 := []) (vs0 := []) hh (roR hh 0 Y (roR hh 1 Y (roR hh 2 Y roN)))) hna0 hqa0 hla0 hna1 hqa1 hla1 hna2 hqa2 hla2 h2) (fun l h3 => ?_)
   have h4 := h3
   refine jg Y Y (yW Y Y Y (yW Y Y Y (jo Y Y (jo Y Y (jq (ji (jp ?_)))))))
   refine jr (jg Y Y (jc Y Y Y (fun _ _ => Zh h4 Y Y) (jo Y Y (jq (Kd Y Y (jr (jg Y Y ?_)))))))
   refine jo Y Y (jo Y Y (jq (jx (jz (je ?_)))))
   obtain rfl := sj hm
   refine jn Y (fun w hh => (.tmp Y (.tmp Y .nil))) (fun w hh => ⟨(), rfl, trivial, hh.se [] [] 4 Y Y Y rfl⟩)
  replace hm := ocR hm
  refine jd [] [] Y Y Y Y Y Y Y call93 (fun w hh => qH c0 qa0 na0 ca0 qa1 na1 ca1 qa2 na2 ca2 w (HV.callee (S0 := []) (vs0 := []) hh (roR hh 0 Y (roR hh 1 Y (roR hh 2 Y roN)))) hna0 hqa0 hla0 hna1 hqa1 hla1 hna2 hqa2 hla2 h2) (fun l_1 h5 => ?_)
  have h6 := h5
  refine kQ (S' := [_, _]) (vs' := [_]) [0, 1] [0] 0 Y Y Y Y (jg Y Y (yW Y Y Y (yW Y Y Y (jo Y Y (jo Y Y (jq (ji ?_)))))))
  refine jp (jr (jg Y Y (jc Y Y Y (fun _ _ => Jk Y Y) (jo Y Y (jq (Kb Y Y (jr ?_)))))))
  refine jg Y Y (jc Y Y Y (fun _ _ => jZ (u := #[]) (u' := #[_]) Y Y) ?_)
  obtain ⟨t22, h7, hm⟩ := bindO hm
  refine jd [] [] Y Y Y Y Y Y Y call119 (fun w hh => Zb sights1 c0.cells c0.tides c0.fords c0.sands c0.sights qa3 na3 ca3 b qa0 na0 ca0 qa1 na1 ca1 qa2 na2 ca2 w (HV.callee (S0 := []) (vs0 := []) hh (roR hh 3 Y (roC (bsep (hh.bseg 1 Y)) (roR hh 0 Y (roR hh 1 Y (roR hh 2 Y roN)))))) hna3 hqa3 hla3 hna0 hqa0 hla0 hna1 hqa1 hla1 hna2 hqa2 hla2 h7) (fun l_2 h8 => ?_)
  refine jc Y Y Y (fun _ _ => yF Y) (jo Y Y (jq ?_))
  refine ju Y (fun h9 => ?_) (fun h9 => ?_)
  ·replace hm := ifT (h9) hm
   refine jr (jo Y Y (jo Y Y (jq (jx (jz (je ?_))))))
   obtain rfl := sj hm
   refine jn Y (fun w hh => (.tmp Y (.tmp Y .nil))) (fun w hh => ⟨(), rfl, trivial, hh.se [] [] 4 Y Y Y rfl⟩)
  replace hm := ifN h9 hm
  refine jt (jw (jb (ji (jr (jg Y Y (jc Y Y Y (fun w _ => kw hna3 (runUnderlying22 w) Y) (jg Y Y ?_)))))))
  refine jq ?_
  obtain ⟨o, h10, h11⟩ := bindO hm
  refine jR (ι := Unit) (fun j => o = .inl j) (fun j => [(1, .slice qa3 na3 ca3), (6, ptr l_1.1 0)]) (fun j => [kc l_1.1 #[.int .i64 t12b.t14_0, .int .i64 t12b.t14_1, .slice qa0 na0 ca0, .slice qa1 na1 ca1, .slice qa2 na2 ca2, sL l_1.2] 175, kc b #[.int .i64 c0.cells, .int .i64 c0.tides, .slice qa0 na0 ca0, .slice qa1 na1 ca1, .slice qa2 na2 ca2] 26]) (fun j => [vL 3 l_1.2 (RI.enc t12b.t14_5)]) ?_ ?_
  ·replace hm := h10
   refine jp ?_
   refine jV (ι := Unit) hm (fun s l_3 => True) (fun s l_3 => [(1, .slice qa3 na3 ca3), (6, ptr l_1.1 0), (24, .slice qa3 na3 ca3), (25, .int .i64 (sights1.length : Int)), (26, .int .i64 s)]) (fun s l_3 => [kc l_1.1 #[.int .i64 t12b.t14_0, .int .i64 t12b.t14_1, .slice qa0 na0 ca0, .slice qa1 na1 ca1, .slice qa2 na2 ca2, sL l_1.2] 175, kc b #[.int .i64 c0.cells, .int .i64 c0.tides, .slice qa0 na0 ca0, .slice qa1 na1 ca1, .slice qa2 na2 ca2] 26]) (fun s l_3 => [vL 3 l_1.2 (RI.enc t12b.t14_5)]) () (trivial) (sE Y) (fun w hh => hh) (fun s l_3 r hpl hm h12 => ?_)
   unfold Jc at hm
   refine jr (J6 Y Y Y (jq (ji ?_)))
   refine ju Y (fun h13 => ?_) (fun h13 => ?_)
   ·replace hm := ifD h13 hm
    refine jt (jb (ji (jp (jr (jg Y Y ?_)))))
    obtain ⟨t29, h14, hm⟩ := bindO hm
    refine jc Y Y Y (fun w _ => yX h14 (runUnderlying22 w) (sizeOf3 w) Y Y hna3 hqa3) (jc Y Y Y (fun w hh => k7 RI 0 h14 (isAgg3 w) Y (hh.seg 3 Y) Y (Nat.add_zero _).symm) (jo Y Y (jo Y Y (kO (jg Y Y (jg Y Y ?_))))))
    obtain ⟨h15, hm⟩ := ifO hm
    refine jc Y Y Y (fun w _ => jaG (runUnderlying22 w) (sizeOf3 w) Y Y h15.1 (pre_hle hna3 h15 hla3)) (jbQ RI 3 (Int.toNat s) Y (jg Y Y ?_))
    obtain ⟨t35, h16, hm⟩ := bindO hm
    refine jd [] [] Y Y Y Y Y Y Y call64 (fun w hh => jY (sights1.take (Int.toNat s)) t29 qa3 (Int.toNat s) ca3 w (HV.callee (S0 := []) (vs0 := []) hh (roR hh 0 Y roN)) (pre_hn hna3 h15) (pre_AOK hna3 h15 hqa3) (pre_hle hna3 h15 hla3) h16) (fun l_4 h17 => ?_)
    refine jq ?_
    refine ju Y (fun h18 => ?_) (fun h18 => ?_)
    ·replace hm := ifT (h18) hm
     refine jr (jo Y Y (jo Y Y (jq (jx (jz (je (je ?_)))))))
     refine jz ?_
     obtain rfl := sj hm
     have hbo := h12 _ Y
     subst hbo
     refine je ?_
     replace hm := ocR h11
     refine je ?_
     obtain rfl := sj hm
     refine jn Y (fun w hh => (.tmp Y (.tmp Y .nil))) (fun w hh => ⟨(), rfl, trivial, hh.se [] [] 5 Y Y Y rfl⟩)
    replace hm := ifN h18 hm
    refine jt (jw (jb (jh ?_)))
    obtain ⟨t36, h19, hm⟩ := bindO hm
    refine Ke h19 Y Y Y (jg Y Y (js ?_))
    obtain rfl := sj hm
    refine jb ?_
    exact jG _ () Y (trivial) (sE Y) (hsE [0, 1] [0] 1 Y Y Y Y)
   replace hm := ifE h13 hm
   refine j8 (jk (jk (jI ?_)))
   obtain rfl := sj hm
   have hbo := h12 _ Y
   subst hbo
   exact jj () (Y) (sE Y) (fun w hh => hh)
  intro j hj
  have h20 := hj
  subst h20
  replace hm := ocL h11
  refine jb (jr (jg Y Y (jg Y Y ?_)))
  obtain ⟨t39, h21, hm⟩ := bindO hm
  refine jd [] [] Y Y Y Y Y Y Y call122 (fun w hh => jan sights1 qa3 na3 ca3 w (HV.callee (S0 := []) (vs0 := []) hh (roR hh 3 Y roN)) hna3 hqa3 hla3 h21) (fun l_5 h22 => ?_)
  refine kQ (S' := [_, _, _]) (vs' := [_]) [0, 1, 2] [0] 0 Y Y Y Y ?_
  obtain ⟨t40, h23, hm⟩ := bindO hm
  refine jd [] [] Y Y Y Y Y Y Y call121 (fun w hh => YB t12b.t14_0 t12b.t14_1 c0.fords c0.sands c0.sights t12b.t14_5 sights1 l_1.1 qa0 na0 ca0 qa1 na1 ca1 qa2 na2 ca2 (qA l_1.2.q) l_1.2.n l_1.2.cap l_5 qa3 na3 ca3 w (HV.callee (S0 := []) (vs0 := []) hh (roC (bsep (hh.bseg 1 Y)) (roR hh 0 Y (roR hh 1 Y (roR hh 2 Y (roC (hh.vsepA 0 Y h6) (roC (bsep (hh.bseg 0 Y)) (roR hh 3 Y roN)))))))) hna0 hqa0 hla0 hna1 hqa1 hla1 hna2 hqa2 hla2 (vlen RI h6 Y) (AOK.q (vne h6)) (h6).hle hna3 hqa3 hla3 h23) (fun l_6 h24 => ?_)
  refine jo Y Y (jo Y Y (jq (jx ?_)))
  obtain rfl := sj hm
  refine jn Y (fun w hh => (.tmp Y (.tmp Y .nil))) (fun w hh => ⟨(), rfl, trivial, hh.se [] [] 4 Y Y Y rfl⟩)
end Go.Proofs.Wb

namespace Go.Proofs.Wb
open Go Go.Fw Go.Gx Go.Sb
set_option linter.unusedVariables false
set_option maxRecDepth 100000
def cOut (f : List Int) (i : Nat) : Bool := !decide ((i : Int) ∈ f)
def cIn (f : List Int) (i : Nat) : Bool := decide ((i : Int) ∈ f)
theorem jav {d0 d1 : Int} {f : List Int} {a : List Sand} {sg : List Sight} {r f1 : List Int} (h : f.length ≤ 3) (hs : sg.length ≤ 100) (hf1 : f1.length < 1000000) (s : State) : yC d0 d1 f a sg r f1 s = some (agP (cOut f1) sg s.after (clS f.length s)) := by
  unfold yC
  rw [iterM_any0 (f := qJ sg s f1 d0 d1 f a r) sg.length (fun k => cOut f1 k && offS s.after (clS f.length s) (sg.getD k default)) false (fun k hk => ?_) ?_ (FU_lt (by omega)), Option.bind_some]
  · unfold agP
    cases (List.range sg.length).any fun k => cOut f1 k && offS s.after (clS f.length s) (sg.getD k default) <;> rfl
  · unfold qJ
    rw [if_neg (by omega)]
  · have hp : zd (k : Int) f1 = some (cOut f1 k) := by
      unfold zd
      rw [yL hf1, Option.bind_some]
      rfl
    unfold qJ
    rw [if_pos (by omega), ix_nat default hk, Option.bind_some, hp, Option.bind_some, ZT h, Option.bind_some, yL (by unfold clS; simp; omega), Option.bind_some, addc_eq (by omega)]
    unfold offS
    by_cases h1 : (sg.getD k default).after = s.after
    · rw [if_pos h1, decide_eq_true h1, Bool.true_and]
      cases cOut f1 k with
      | true => rw [if_pos rfl, Option.bind_some, Bool.true_and]; split <;> rfl
      | false => rw [if_neg (by decide), Option.bind_some, Bool.false_and]; rfl
    · rw [if_neg h1, Option.bind_some, decide_eq_false h1, Bool.false_and, Bool.and_false]
      rfl
def MR1 (c : Channel) (f1 : List Int) (fu : Nat) (s : State) (ml : ML) : Option (Int × ML) := (jM fu s ml c.cells c.tides c.fords c.sands c.sights (rchL c) f1).map fun q => (q.r0, q.a11)
theorem restEq1 {c : Channel} (r : Right c) {f1 : List Int} (hf1 : f1.length < 1000000) : RestEq (MR1 c f1) (VS c) (agS (cOut f1) c) (nxS c) c.tides where
  eq fu s ml hV := by
    have hf := r.fords
    have hs := r.sights
    unfold MR1
    rw [jM]
    unfold yR
    by_cases h1 : (aget ml s).isSome = true
    · rw [if_pos h1, if_pos h1]; rfl
    · rw [if_neg h1, if_neg h1, jav (by omega) (by omega) hf1, Option.bind_some, not_true_if]
      show _ = if agS (cOut f1) c s = true then _ else _
      unfold agS
      by_cases h2 : agP (cOut f1) c.sights s.after (clS c.fords.length s) = true
      · rw [if_pos h2, if_pos h2]
        by_cases h3 : s.after = c.tides
        · rw [if_pos h3, if_pos h3]; rfl
        · rw [if_neg h3, if_neg h3]
          unfold jU
          rw [Option.bind_some, if_pos (VS_next r hV)]
          have hp := iterL_pair (fun q : kJ => (q.n9, q.a11)) (f := qv (jM fu) c.cells c.tides c.fords c.sands c.sights (rchL c) f1) (f' := fR (MR1 c f1 fu)) (fun x q => by
            unfold qv fR MR1
            cases jM fu x q.a11 c.cells c.tides c.fords c.sands c.sights (rchL c) f1 with
            | none => rfl
            | some q' =>
              simp only [Option.bind_some, Option.map_some]
              cases addc q.n9 q'.r0 <;> rfl) (nxS c s) ⟨0, ml⟩
          simp only at hp
          show _ = (iterL (fR (MR1 c f1 fu)) (nxS c s) (0, ml)).bind _
          rw [← hp]
          unfold nxS
          cases iterL (qv (jM fu) c.cells c.tides c.fords c.sands c.sights (rchL c) f1) (nextL c.cells (rchL c) (c.fords.length : Int) s) ⟨0, ml⟩ <;> rfl
      · rw [if_neg h2, if_neg h2]; rfl
  nxV s t hs hl ht := nxS_V r hs hl ht
  le s hs := hs.2.2
  len s := nxS_len r s
theorem ZF {c : Channel} (r : Right c) {f1 : List Int} (hf1 : f1.length < 1000000) : ym c.cells c.tides c.fords c.sands c.sights (rchL c) f1 = some (decide (0 < cntS (cOut f1) c)) := by
  have hf := r.fords
  have ht := r.tides
  unfold ym zZ
  rw [Qu (by omega), Option.bind_some]
  obtain ⟨ml, e, s1, c1, _, i1⟩ := rest_spec (restEq1 r hf1) ht (c.tides - (first c).after).toNat FU (first c) [] (first_V r) (Int.le_refl _) rfl (by unfold first FU; simp only; omega) (fun x v hx => by simp [aget, afind] at hx) (fun x hx => by simp [aget, afind] at hx)
  unfold MR1 at e
  rw [Option.map_eq_some_iff] at e
  obtain ⟨q, e1, e2⟩ := e
  simp only [Prod.mk.injEq] at e2
  show ((jM FU (first c) [] c.cells c.tides c.fords c.sands c.sights (rchL c) f1).bind _).bind _ = _
  rw [e1, Option.bind_some, Option.bind_some, Option.bind_some, e2.2]
  obtain ⟨v, hv⟩ := Option.isSome_iff_exists.1 i1
  have h3 := s1 _ _ hv
  show some (decide (0 < (aget ml (first c)).getD 0)) = _
  rw [hv, Option.getD_some, h3]
  have : valR (nxS c) (agS (cOut f1) c) c.tides (first c) = (cntS (cOut f1) c : Int) := by
    unfold valR cntS first
    simp
  rw [this]
  congr 1
  rw [Bool.eq_iff_iff, decide_eq_true_eq, decide_eq_true_eq]
  omega
theorem jaz {d0 d1 : Int} {f : List Int} {a : List Sand} {sg : List Sight} {r f1 : List Int} (h : f.length ≤ 3) (hs : sg.length ≤ 100) (hf1 : f1.length < 1000000) (s : State) : yw d0 d1 f a sg r f1 s = some (agP (cIn f1) sg s.after (clS f.length s)) := by
  unfold yw
  rw [iterM_any0 (f := qO sg s f1 d0 d1 f a r) sg.length (fun k => cIn f1 k && offS s.after (clS f.length s) (sg.getD k default)) false (fun k hk => ?_) ?_ (FU_lt (by omega)), Option.bind_some]
  · unfold agP
    cases (List.range sg.length).any fun k => cIn f1 k && offS s.after (clS f.length s) (sg.getD k default) <;> rfl
  · unfold qO
    rw [if_neg (by omega)]
  · have hp : JP (k : Int) f1 = some (cIn f1 k) := by
      unfold JP
      rw [yL hf1, Option.bind_some]
      rfl
    unfold qO
    rw [if_pos (by omega), ix_nat default hk, Option.bind_some, hp, Option.bind_some, ZT h, Option.bind_some, yL (by unfold clS; simp; omega), Option.bind_some, addc_eq (by omega)]
    unfold offS
    by_cases h1 : (sg.getD k default).after = s.after
    · rw [if_pos h1, decide_eq_true h1, Bool.true_and]
      cases cIn f1 k with
      | true => rw [if_pos rfl, Option.bind_some, Bool.true_and]; split <;> rfl
      | false => rw [if_neg (by decide), Option.bind_some, Bool.false_and]; rfl
    · rw [if_neg h1, Option.bind_some, decide_eq_false h1, Bool.false_and, Bool.and_false]
      rfl
def MR2 (c : Channel) (f1 : List Int) (fu : Nat) (s : State) (ml : ML) : Option (Int × ML) := (jO fu s ml c.cells c.tides c.fords c.sands c.sights (rchL c) f1).map fun q => (q.r0, q.a11)
theorem restEq2 {c : Channel} (r : Right c) {f1 : List Int} (hf1 : f1.length < 1000000) : RestEq (MR2 c f1) (VS c) (agS (cIn f1) c) (nxS c) c.tides where
  eq fu s ml hV := by
    have hf := r.fords
    have hs := r.sights
    unfold MR2
    rw [jO]
    unfold yN
    by_cases h1 : (aget ml s).isSome = true
    · rw [if_pos h1, if_pos h1]; rfl
    · rw [if_neg h1, if_neg h1, jaz (by omega) (by omega) hf1, Option.bind_some, not_true_if]
      show _ = if agS (cIn f1) c s = true then _ else _
      unfold agS
      by_cases h2 : agP (cIn f1) c.sights s.after (clS c.fords.length s) = true
      · rw [if_pos h2, if_pos h2]
        by_cases h3 : s.after = c.tides
        · rw [if_pos h3, if_pos h3]; rfl
        · rw [if_neg h3, if_neg h3]
          unfold jU
          rw [Option.bind_some, if_pos (VS_next r hV)]
          have hp := iterL_pair (fun q : kM => (q.n9, q.a11)) (f := qq (jO fu) c.cells c.tides c.fords c.sands c.sights (rchL c) f1) (f' := fR (MR2 c f1 fu)) (fun x q => by
            unfold qq fR MR2
            cases jO fu x q.a11 c.cells c.tides c.fords c.sands c.sights (rchL c) f1 with
            | none => rfl
            | some q' =>
              simp only [Option.bind_some, Option.map_some]
              cases addc q.n9 q'.r0 <;> rfl) (nxS c s) ⟨0, ml⟩
          simp only at hp
          show _ = (iterL (fR (MR2 c f1 fu)) (nxS c s) (0, ml)).bind _
          rw [← hp]
          unfold nxS
          cases iterL (qq (jO fu) c.cells c.tides c.fords c.sands c.sights (rchL c) f1) (nextL c.cells (rchL c) (c.fords.length : Int) s) ⟨0, ml⟩ <;> rfl
      · rw [if_neg h2, if_neg h2]; rfl
  nxV s t hs hl ht := nxS_V r hs hl ht
  le s hs := hs.2.2
  len s := nxS_len r s
theorem jaC {c : Channel} (r : Right c) {f1 : List Int} (hf1 : f1.length < 1000000) : yA c.cells c.tides c.fords c.sands c.sights (rchL c) f1 = some (decide (0 < cntS (cIn f1) c)) := by
  have hf := r.fords
  have ht := r.tides
  unfold yA zX
  rw [Qu (by omega), Option.bind_some]
  obtain ⟨ml, e, s1, c1, _, i1⟩ := rest_spec (restEq2 r hf1) ht (c.tides - (first c).after).toNat FU (first c) [] (first_V r) (Int.le_refl _) rfl (by unfold first FU; simp only; omega) (fun x v hx => by simp [aget, afind] at hx) (fun x hx => by simp [aget, afind] at hx)
  unfold MR2 at e
  rw [Option.map_eq_some_iff] at e
  obtain ⟨q, e1, e2⟩ := e
  simp only [Prod.mk.injEq] at e2
  show ((jO FU (first c) [] c.cells c.tides c.fords c.sands c.sights (rchL c) f1).bind _).bind _ = _
  rw [e1, Option.bind_some, Option.bind_some, Option.bind_some, e2.2]
  obtain ⟨v, hv⟩ := Option.isSome_iff_exists.1 i1
  have h3 := s1 _ _ hv
  show some (decide (0 < (aget ml (first c)).getD 0)) = _
  rw [hv, Option.getD_some, h3]
  have : valR (nxS c) (agS (cIn f1) c) c.tides (first c) = (cntS (cIn f1) c : Int) := by
    unfold valR cntS first
    simp
  rw [this]
  congr 1
  rw [Bool.eq_iff_iff, decide_eq_true_eq, decide_eq_true_eq]
  omega
def pW (c : Channel) (l : List Int) : Bool := decide (0 < cntS (cOut l) c)
def scan (p : List Int → Bool) : List (List Int) → List Int → Bool × List Int
  | [], o => (false, o)
  | x :: E, o => if p x = true then (true, x) else scan p E x
theorem scan_append (p : List Int → Bool) : ∀ (E F : List (List Int)) (o : List Int), scan p (E ++ F) o = if (scan p E o).1 = true then scan p E o else scan p F (scan p E o).2
  | [], F, o => rfl
  | x :: E, F, o => by
    rw [List.cons_append, scan, scan]
    by_cases h : p x = true
    · rw [if_pos h, if_pos h, if_pos rfl]
    · rw [if_neg h, if_neg h, scan_append p E F x]
theorem scan_find (p : List Int → Bool) : ∀ (E : List (List Int)) (o : List Int), ((scan p E o).1 = true → E.find? p = some (scan p E o).2) ∧ ((scan p E o).1 = false → E.find? p = none)
  | [], o => ⟨fun h => absurd h (by simp [scan]), fun _ => rfl⟩
  | x :: E, o => by
    have ih := scan_find p E x
    rw [scan, List.find?_cons]
    cases h : p x with
    | true => rw [if_pos rfl]; exact ⟨fun _ => rfl, fun q => absurd q (by simp)⟩
    | false => rw [if_neg (by decide)]; exact ih
theorem incL_end (n m : Nat) : incL n (m + 1) n = [] := by
  rw [incL, Nat.sub_self]; rfl
theorem incL_step {n m fr : Nat} (h : fr < n) : incL n (m + 1) fr = (incL n m (fr + 1)).map ((fr : Int) :: ·) ++ incL n (m + 1) (fr + 1) := by
  rw [incL, incL, show n - fr = (n - (fr + 1)) + 1 by omega, List.range_succ_eq_map, List.flatMap_cons, List.flatMap_map]
  congr 1
  congr 1
  funext d
  rw [show fr + (d + 1) + 1 = fr + 1 + d + 1 by omega, show fr + (d + 1) = fr + 1 + d by omega]
def chunk (n m : Nat) (l0 : List Int) (fr : Nat) : List (List Int) := (incL n m (fr + 1)).map fun x => (l0 ++ [(fr : Int)]) ++ x
theorem scan_loop {σ ρ : Type} {f : σ → Option (σ ⊕ (List Int ⊕ ρ))} (I : Int → List Int → σ) (T : List Int → ρ) (p : List Int → Bool) (l0 : List Int) (n m : Nat)
    (hf : ∀ (fr : Nat) (o : List Int), fr < n → f (I (fr : Int) o) = some (if (scan p (chunk n m l0 fr) o).1 = true then .inr (.inr (T (scan p (chunk n m l0 fr) o).2)) else .inl (I ((fr + 1 : Nat) : Int) (scan p (chunk n m l0 fr) o).2)))
    (he : ∀ o, f (I (n : Int) o) = some (.inr (.inl o))) : ∀ (r fr : Nat) (o : List Int) (N : Nat), fr + r = n → r < N → iterM N f (I (fr : Int) o) = some (if (scan p ((incL n (m + 1) fr).map (l0 ++ ·)) o).1 = true then .inr (T (scan p ((incL n (m + 1) fr).map (l0 ++ ·)) o).2) else .inl (scan p ((incL n (m + 1) fr).map (l0 ++ ·)) o).2)
  | 0, fr, o, N, h, hN => by
    obtain ⟨N, rfl⟩ : ∃ N', N = N' + 1 := ⟨N - 1, by omega⟩
    obtain rfl : fr = n := by omega
    rw [iterM_done (he o), incL_end]
    rfl
  | r + 1, fr, o, N, h, hN => by
    obtain ⟨N, rfl⟩ : ∃ N', N = N' + 1 := ⟨N - 1, by omega⟩
    have e : (incL n (m + 1) fr).map (l0 ++ ·) = chunk n m l0 fr ++ (incL n (m + 1) (fr + 1)).map (l0 ++ ·) := by
      rw [incL_step (by omega), List.map_append, List.map_map]
      congr 1
      unfold chunk
      apply List.map_congr_left
      intro x _
      simp
    rw [e, scan_append]
    have hs := hf fr o (by omega)
    by_cases hq : (scan p (chunk n m l0 fr) o).1 = true
    · rw [if_pos hq] at hs
      rw [iterM_done hs, if_pos hq, if_pos hq]
    · rw [if_neg hq] at hs
      rw [iterM_step hs, if_neg hq]
      exact scan_loop I T p l0 n m hf he r (fr + 1) _ N (by omega) (by omega)
theorem ZY {c : Channel} (r : Right c) {many : Nat} (hm : many ≤ 100) : ∀ (m fu : Nat) (l0 : List Int) (fr : Nat) (o : List Int), m < fu → l0.length + m = many → fr ≤ c.sights.length → jT fu l0 (fr : Int) (many : Int) o c.cells c.tides c.fords c.sands c.sights (rchL c) = some ⟨(scan (pW c) ((incL c.sights.length m fr).map (l0 ++ ·)) o).1, (scan (pW c) ((incL c.sights.length m fr).map (l0 ++ ·)) o).2⟩
  | m, 0, l0, fr, o, h, _, _ => absurd h (by omega)
  | 0, fu + 1, l0, fr, o, _, hl, hfr => by
    rw [jT]
    unfold qP
    rw [if_pos (by omega)]
    have hw : z1 l0 o c.cells c.tides c.fords c.sands c.sights (rchL c) = some ⟨pW c l0, l0⟩ := by
      unfold z1
      rw [ZF r (by omega), Option.bind_some]
      rfl
    rw [hw, Option.bind_some]
    show _ = some (⟨(scan (pW c) [l0 ++ []] o).1, (scan (pW c) [l0 ++ []] o).2⟩ : jL)
    rw [List.append_nil, scan, scan]
    cases pW c l0 <;> rfl
  | m + 1, fu + 1, l0, fr, o, hfu, hl, hfr => by
    have hs := r.sights
    rw [jT]
    unfold qP
    rw [if_neg (by omega)]
    have key := scan_loop (f := qs c.sights l0 (jT fu) (many : Int) c.cells c.tides c.fords c.sands (rchL c)) (fun i o => ⟨i, o⟩) (fun l => ⟨true, l⟩) (pW c) l0 c.sights.length m (fun fr o hfr => ?_) (fun o => ?_) (c.sights.length - fr) fr o FU (by omega) (FU_lt (by omega))
    · rw [key, Option.bind_some]
      cases hq : (scan (pW c) ((incL c.sights.length (m + 1) fr).map (l0 ++ ·)) o).1 with
      | true => rw [if_pos rfl, oc_inr]
      | false => rw [if_neg (by decide), oc_inl]
    · unfold qs
      simp only
      have ih := ZY r hm m fu (l0 ++ [(fr : Int)]) (fr + 1) o (by omega) (by simp; omega) (by omega)
      rw [if_pos (by omega), addc_eq (by omega), Option.bind_some, YZ (by omega), Option.bind_some, appc_eq (by simp; omega), Option.bind_some, show (fr : Int) + 1 = ((fr + 1 : Nat) : Int) by omega, ih, Option.bind_some, Option.bind_some]
      show (if (scan (pW c) (chunk c.sights.length m l0 fr) o).1 = true then _ else _) = _
      split
      · rfl
      · rw [Option.bind_some]; rfl
    · unfold qs
      simp only
      rw [if_neg (by omega)]
theorem jaI {c : Channel} (r : Right c) {many : Nat} (hm : many ≤ 100) : yd 0 (many : Int) c.cells c.tides c.fords c.sands c.sights (rchL c) = some ⟨(scan (pW c) (incL c.sights.length many 0) []).1, (scan (pW c) (incL c.sights.length many 0) []).2⟩ := by
  have hs := r.sights
  unfold yd
  cases many with
  | zero =>
    rw [if_pos (by omega)]
    have hw : zW [] c.cells c.tides c.fords c.sands c.sights (rchL c) = some (pW c []) := by
      unfold zW
      rw [ZF r (by simp), Option.bind_some]
      rfl
    rw [hw, Option.bind_some]
    show _ = some (⟨(scan (pW c) [[]] []).1, (scan (pW c) [[]] []).2⟩ : kq)
    rw [scan, scan]
    cases pW c [] <;> rfl
  | succ m =>
    rw [if_neg (by omega)]
    have key := scan_loop (f := kL c.sights ((m + 1 : Nat) : Int) c.cells c.tides c.fords c.sands (rchL c)) (fun i o => ⟨i, o⟩) (fun l => ⟨true, l⟩) (pW c) [] c.sights.length m (fun fr o hfr => ?_) (fun o => ?_) c.sights.length 0 [] FU (by omega) (FU_lt (by omega))
    · have key' : iterM FU (kL c.sights ((m + 1 : Nat) : Int) c.cells c.tides c.fords c.sands (rchL c)) ⟨0, []⟩ = _ := key
      rw [key', Option.bind_some]
      have e : (incL c.sights.length (m + 1) 0).map (([] : List Int) ++ ·) = incL c.sights.length (m + 1) 0 := by simp
      rw [e]
      cases hq : (scan (pW c) (incL c.sights.length (m + 1) 0) []).1 with
      | true => rw [if_pos rfl, oc_inr]
      | false => rw [if_neg (by decide), oc_inl]
    · unfold kL
      simp only
      have ih := ZY r hm m FU [(fr : Int)] (fr + 1) o (by unfold FU; omega) (by simp; omega) (by omega)
      rw [if_pos (by omega), addc_eq (by omega), Option.bind_some, YZ (by simp), Option.bind_some, appc_eq (by simp), Option.bind_some, show (fr : Int) + 1 = ((fr + 1 : Nat) : Int) by omega]
      show ((jT FU [(fr : Int)] ((fr + 1 : Nat) : Int) ((m + 1 : Nat) : Int) o c.cells c.tides c.fords c.sands c.sights (rchL c)).bind _).bind _ = _
      rw [ih, Option.bind_some, Option.bind_some]
      show (if (scan (pW c) (chunk c.sights.length m [] fr) o).1 = true then _ else _) = _
      split
      · rfl
      · rw [Option.bind_some]; rfl
    · unfold kL
      simp only
      rw [if_neg (by omega)]
end Go.Proofs.Wb

namespace Go.Proofs.Wb
open Go Go.Fw Go.Gx Go.Sb
set_option linter.unusedVariables false
set_option maxRecDepth 100000
def E0 (n : Nat) : List (List Int) := (List.range (n + 1)).flatMap fun k => incL n k 0
def E1 (n : Nat) : List (List Int) := (List.range n).flatMap fun k => incL n (k + 1) 0
theorem find_levels (g : Nat → List (List Int)) (p : List Int → Bool) : ∀ l : List Nat, (l.flatMap g).find? p = match l.find? (fun k => ((g k).find? p).isSome) with | some k => (g k).find? p | none => none
  | [] => rfl
  | k :: l => by
    rw [List.flatMap_cons, List.find?_append, find_levels g p l, List.find?_cons]
    cases h : (g k).find? p with
    | some x => simp [h]
    | none => simp
theorem scan_fst (p : List Int → Bool) (E : List (List Int)) (o : List Int) : (scan p E o).1 = (E.find? p).isSome := by
  obtain ⟨h1, h2⟩ := scan_find p E o
  cases h : (scan p E o).1 with
  | true => rw [h1 h]; rfl
  | false => rw [h2 h]; rfl
theorem scan_snd {p : List Int → Bool} {E : List (List Int)} {o l : List Int} (h : E.find? p = some l) : (scan p E o).2 = l := by
  obtain ⟨h1, h2⟩ := scan_find p E o
  cases hq : (scan p E o).1 with
  | true => rw [h1 hq] at h; exact Option.some.inj h
  | false => rw [h2 hq] at h; cases h
theorem iterM_any0' {ρ : Type} {f : Int → Option (Int ⊕ (Unit ⊕ ρ))} (n : Nat) (bad : Nat → Bool) (e : Nat → ρ) (h1 : ∀ k : Nat, k < n → f (k : Int) = some (if bad k = true then .inr (.inr (e k)) else .inl ((k : Int) + 1))) (h2 : f (n : Int) = some (.inr (.inl ()))) {N : Nat} (hN : n < N) :
    iterM N f 0 = some (match (List.range n).find? bad with | some k => .inr (e k) | none => .inl ()) := iterM_any 0 n bad e (fun k hk => by rw [Int.zero_add]; exact h1 k hk) (by rw [Int.zero_add]; exact h2) hN
theorem ja6 {c : Channel} (h : Few c) : JA c = some (if chk c = 0 then ⟨0, ((E0 c.sights.length).find? (pW c)).getD []⟩ else ⟨chk c, []⟩) := by
  unfold JA
  rw [QC h, Option.bind_some]
  by_cases h0 : chk c = 0
  · have r := rightOf h0
    have hs := r.sights
    rw [if_pos h0, if_pos h0, oc_inr, addc_eq (by omega), Option.bind_some]
    have key := iterM_any0' (f := Jd ((c.sights.length : Int) + 1) ⟨c.cells, c.tides, rchL c⟩ c) (c.sights.length + 1) (fun k => ((incL c.sights.length k 0).find? (pW c)).isSome) (fun k => (⟨0, ((incL c.sights.length k 0).find? (pW c)).getD []⟩ : qU)) (fun k hk => ?_) ?_ (N := FU) (FU_lt (by omega))
    · rw [key, Option.bind_some]
      unfold E0
      rw [find_levels]
      cases (List.range (c.sights.length + 1)).find? (fun k => ((incL c.sights.length k 0).find? (pW c)).isSome) with
      | none => simp only [oc_inl]; rfl
      | some k => simp only [oc_inr]
    · unfold Jd z7
      have hl := jaI r (many := k) (by omega)
      rw [if_pos (by omega), hl, Option.bind_some, Option.bind_some, scan_fst]
      cases hq : (incL c.sights.length k 0).find? (pW c) with
      | some l => rw [scan_snd hq]; rfl
      | none => rw [addc_eq (by omega)]; rfl
    · unfold Jd
      rw [if_neg (by omega)]
  · rw [if_neg h0, if_neg h0, oc_inl]
theorem cnt_congr {c : Channel} {c1 c2 : Nat → Bool} (h : ∀ i, i < c.sights.length → c1 i = c2 i) : cntS c1 c = cntS c2 c := by
  unfold cntS
  have : agS c1 c = agS c2 c := by
    funext s
    exact agP_congr h
  rw [this]
theorem canB_self {c : Channel} (r : Right c) (l : List Int) : canB c.sands l l = true := by
  unfold canB
  rw [List.all_eq_true]
  intro i _
  rw [inb_iff]
  have := rchC_bounds (x := l.getD i (-1)) r.reach
  omega
theorem stay_pos {c : Channel} (r : Right c) (h : c.sights.length = 0) : 0 < cntS tt c := by
  have hc := r.cells
  have hag : ∀ k l, agP tt c.sights k l = true := by
    intro k l
    rw [agP_iff, h]
    intro i hi
    omega
  have hmem : c.fords ∈ LL c := (mem_LL (by omega)).2 (rowB_iff.2 ⟨rfl, r.up, r.fcell⟩)
  have key : ∀ k, 0 < FcL tt c k c.fords := by
    intro k
    induction k with
    | zero => rw [FcL, if_pos ⟨hag _ _, rfl⟩]; omega
    | succ k ih => exact FcL_succ_pos.2 ⟨hag _ _, c.fords, hmem, canB_self r _, ih⟩
  rw [cntS_sum r]
  exact sumN_pos.2 ⟨c.fords, hmem, key _⟩
end Go.Proofs.Wb

namespace Go.Proofs.Wb
open Go Go.Fw Go.Gx Go.Sb
set_option linter.unusedVariables false
set_option maxRecDepth 100000
def inA (n : Nat) (l : List Int) : Bool := l.all fun x => inb x 0 ((n : Int) - 1)
def dupB (l : List Int) : Bool := (List.range l.length).any fun s => decide (l.getD s 0 ∈ l.take s)
theorem jaP {a b : Int} {f : List Int} {sa : List Sand} {sg : List Sight} (hsg : sg.length ≤ 1000) {l : List Int} (hl : l.length ≤ 1000) : zi l a b f sa sg = some (inA sg.length l) := by
  unfold zi yr zn
  rw [contains_loop (f := qu l a b f sa sg) l 0 (fun x => !inb x 0 ((sg.length : Int) - 1)) (by omega) (fun k hk => ?_) ?_]
  · rw [Option.bind_some]
    unfold inA
    congr 1
    rw [List.not_any_eq_all_not]
    simp
  · unfold qu
    rw [if_neg (by omega)]
  · unfold qu zH Ks
    rw [if_pos (by omega), ix_nat 0 hk, Option.bind_some, subc_eq (by omega), Option.bind_some, Yk, Option.bind_some, Option.bind_some, Option.bind_some]
    cases inb (l.getD k 0) 0 ((sg.length : Int) - 1) with
    | true => rw [if_neg (by decide), if_neg (by decide), addc_eq (by omega), Option.bind_some]
    | false => rfl
theorem ja9 {c : Channel} (h : Few c) {l : List Int} (hl : l.length ≤ 1000) : Jz c l = some (if chk c = 0 then (if inA c.sights.length l = true then (if dupB l = true then ⟨false, 5⟩ else ⟨decide (0 < cntS (cIn l) c), 0⟩) else ⟨false, 1⟩) else ⟨false, chk c⟩) := by
  unfold Jz
  rw [QC h, Option.bind_some]
  by_cases h0 : chk c = 0
  · have r := rightOf h0
    have hs := r.sights
    rw [if_pos h0, if_pos h0, oc_inr, jaP (by omega) hl, Option.bind_some, not_true_if]
    by_cases h1 : inA c.sights.length l = true
    · rw [if_pos h1, if_pos h1]
      have key := iterM_any0 (f := Jc l) l.length (fun s => decide (l.getD s 0 ∈ l.take s)) (⟨false, 5⟩ : yo) (fun k hk => ?_) ?_ (N := FU) (FU_lt (by omega))
      · rw [key, Option.bind_some]
        show oc (if dupB l = true then _ else _) _ _ = _
        by_cases h2 : dupB l = true
        · rw [if_pos h2, if_pos h2, oc_inr]
        · rw [if_neg h2, if_neg h2, oc_inl]
          unfold Qp
          rw [Option.bind_some, jaC r (by omega), Option.bind_some]
      · unfold Jc
        rw [if_pos (by omega), ix_nat 0 hk, Option.bind_some, if_pos (by omega), Int.toNat_natCast, yL (by rw [List.length_take]; omega), Option.bind_some]
        by_cases h2 : l.getD k 0 ∈ l.take k
        · rw [if_pos (decide_eq_true h2), if_pos (decide_eq_true h2)]
        · rw [if_neg (by simpa using h2), if_neg (by simpa using h2), addc_eq (by omega), Option.bind_some]
      · unfold Jc
        rw [if_neg (by omega)]
    · rw [if_neg h1, if_neg h1]
  · rw [if_neg h0, if_neg h0, oc_inl]
theorem inA_iff {n : Nat} {l : List Int} : inA n l = true ↔ ∀ x ∈ l, 0 ≤ x ∧ x < (n : Int) := by
  unfold inA
  rw [List.all_eq_true]
  constructor
  · intro h x hx
    have := inb_iff.1 (h x hx)
    omega
  · intro h x hx
    have := h x hx
    exact inb_iff.2 (by omega)
end Go.Proofs.Wb

namespace Go.Proofs.Wb
open Go Go.Fw Go.Gx Go.Sb
set_option linter.unusedVariables false
set_option maxRecDepth 100000
def HOK (l : List Int) (p : Int) : Prop := 0 ≤ p ∧ (p < (l.length : Int) ∨ p = 0)
theorem pick_ok {l : List Int} {p r : Int} (hl : l.length ≤ 9223372036854775807) (hp : HOK l p) : ∃ x, JX l p r = some x ∧ (0 ≤ x.r0 ∧ x.r0 ≤ 32767) ∧ HOK l x.h0_1 := by
  obtain ⟨h0, h1⟩ := hp
  unfold JX
  have e1 : addc p 1 = some (p + 1) := addc_eq (by omega)
  by_cases hlt : p < (l.length : Int)
  · rw [if_pos hlt, ix_eq 0 h0 hlt, e1]
    simp only [Option.bind_some]
    by_cases hge : (l.length : Int) ≤ p + 1
    · rw [if_pos hge]
      exact ⟨_, rfl, Go.Fw.and_bound _ _ rfl, Int.le_refl _, .inr rfl⟩
    · rw [if_neg hge]
      exact ⟨_, rfl, Go.Fw.and_bound _ _ rfl, by simp only; omega, .inl (by simp only; omega)⟩
  · rw [if_neg hlt, e1]
    simp only [Option.bind_some]
    by_cases hge : (l.length : Int) ≤ p + 1
    · rw [if_pos hge]
      exact ⟨_, rfl, Go.Fw.and_bound _ _ rfl, Int.le_refl _, .inr rfl⟩
    · rw [if_neg hge]
      exact ⟨_, rfl, Go.Fw.and_bound _ _ rfl, by simp only; omega, .inl (by simp only; omega)⟩
theorem upto_ok {l : List Int} {p r n : Int} (hl : l.length ≤ 9223372036854775807) (hp : HOK l p) (hn : -1000000 ≤ n ∧ n ≤ 1000000) : ∃ x, j7 l p r n = some x ∧ (0 ≤ x.r0 ∧ x.r0 ≤ max 0 n) ∧ HOK l x.h0_1 := by
  obtain ⟨x, hx, hb, hk⟩ := pick_ok (r := r) hl hp
  unfold j7
  rw [hx, Option.bind_some, addc_eq (by omega), Option.bind_some, remc_eq (by omega), Option.bind_some]
  refine ⟨_, rfl, ?_, hk⟩
  have h1 := Int.tmod_nonneg (max 1 (n + 1)) hb.1
  have h2 := Int.tmod_lt_of_pos x.r0 (show 0 < max 1 (n + 1) by omega)
  simp only
  omega
theorem from_ok {l : List Int} {p r lo hi : Int} (hl : l.length ≤ 9223372036854775807) (hp : HOK l p) (hn : (-400000 ≤ lo ∧ lo ≤ 400000) ∧ -400000 ≤ hi ∧ hi ≤ 400000) : ∃ x, zC l p r lo hi = some x ∧ (lo ≤ x.r0 ∧ x.r0 ≤ max lo hi) ∧ HOK l x.h0_1 := by
  unfold zC
  rw [subc_eq (by omega), Option.bind_some]
  obtain ⟨x, hx, hb, hk⟩ := upto_ok (r := r) (n := hi - lo) hl hp (by omega)
  rw [hx, Option.bind_some, addc_eq (by omega), Option.bind_some]
  exact ⟨_, rfl, by simp only; omega, hk⟩
theorem once_ok {l : List Int} {p r n : Int} (hl : l.length ≤ 9223372036854775807) (hp : HOK l p) (hn : -400000 ≤ n ∧ n ≤ 400000) : ∃ x, Jj l p r n = some x ∧ HOK l x.h0_1 := by
  unfold Jj
  rw [subc_eq (by omega), Option.bind_some]
  obtain ⟨x, hx, hb, hk⟩ := upto_ok (r := r) (n := n - 1) hl hp (by omega)
  rw [hx, Option.bind_some]
  exact ⟨_, rfl, hk⟩
def IsOrd (n : Nat) (l : List Int) : Prop := l.Perm ((List.range n).map fun k : Nat => (k : Int))
theorem ins_ok {l : List Int} {i v : Int} (h0 : 0 ≤ i) (h1 : i ≤ (l.length : Int)) (hl : l.length ≤ 1000) : JU l i [v] = some (l.take i.toNat ++ [v] ++ l.drop i.toNat) := by
  unfold JU
  rw [if_pos ⟨h0, h1, by simp, by simp; omega⟩]
theorem IsOrd.len {n : Nat} {l : List Int} (h : IsOrd n l) : l.length = n := by
  have := List.Perm.length_eq h
  simpa using this
theorem IsOrd.ins {n : Nat} {l : List Int} (h : IsOrd n l) (i : Nat) : IsOrd (n + 1) (l.take i ++ [(n : Int)] ++ l.drop i) := by
  unfold IsOrd
  rw [List.range_succ, List.map_append]
  have e : l.take i ++ [(n : Int)] ++ l.drop i = l.take i ++ (n : Int) :: l.drop i := by simp
  rw [e]
  refine List.perm_middle.trans ?_
  rw [List.take_append_drop]
  refine (List.Perm.cons _ h).trans ?_
  exact (List.perm_append_singleton _ _).symm
theorem order_ok {l : List Int} (hl : l.length ≤ 9223372036854775807) {p r : Int} {n : Nat} (hp : HOK l p) (hn : n ≤ 900) : ∃ x, Js l p r (n : Int) = some x ∧ HOK l x.h0_1 ∧ IsOrd n x.r0 := by
  unfold Js
  have key : ∃ o, iterM FU (zF (n : Int) l) ⟨0, p, r, []⟩ = some o ∧ HOK l o.h0_1 ∧ IsOrd n o.out5 := by
    refine iterM_inv (f := zF (n : Int) l) (fun s => ∃ j : Nat, s.t9 = (j : Int) ∧ j ≤ n ∧ HOK l s.h0_1 ∧ IsOrd j s.out5) (fun s => ((n : Int) - s.t9).toNat) _ (fun s hs => ?_) FU _ (FU_lt (by simp only; omega)) ⟨0, rfl, by omega, hp, List.Perm.refl _⟩
    obtain ⟨j, hj, hjn, hk, ho⟩ := hs
    unfold zF
    rw [hj]
    by_cases hlt : j < n
    · left
      obtain ⟨x, hx, hb, hk2⟩ := upto_ok (r := s.h0_2) (n := (j : Int)) hl hk (by omega)
      have hlen := ho.len
      rw [if_pos (by omega), hx, Option.bind_some, ins_ok hb.1 (by omega) (by omega), Option.bind_some, addc_eq (by omega), Option.bind_some]
      exact ⟨_, rfl, ⟨j + 1, by push_cast; rfl, hlt, hk2, ho.ins _⟩, by simp only; omega⟩
    · right
      rw [if_neg (by omega)]
      have : j = n := by omega
      subst this
      exact ⟨_, rfl, hk, ho⟩
  obtain ⟨o, h1, h2, h3⟩ := key
  rw [h1, Option.bind_some]
  exact ⟨_, rfl, h2, h3⟩
theorem chk_right {c : Channel} (r : Right c) (h8 : c.sights.length ≤ 8) : chk c = 0 := by
  unfold chk
  have h1 : okMany c = true := okMany_iff.2 ⟨r.cells, r.tides, r.fords, r.sands, h8⟩
  have h2 : okLimit c = true := by
    simp only [okLimit, Bool.and_eq_true, List.all_eq_true, inb_iff]
    exact ⟨r.reach, r.after⟩
  have h3 : okMiss c = true := by
    simp only [okMiss, Bool.and_eq_true, List.all_eq_true, inb_iff]
    refine ⟨⟨fun x hx => ?_, fun s hs => ?_⟩, fun s hs => ?_⟩
    · have := r.fcell x hx; omega
    · have := r.span s hs; omega
    · have := r.scell s hs; omega
  have h4 : okOrder c = true := by
    simp only [okOrder, Bool.and_eq_true, List.all_eq_true, decide_eq_true_eq]
    exact ⟨r.up, fun s hs => (r.span s hs).2.2⟩
  rw [if_pos h1, if_pos h2, if_pos h3, if_pos h4]
theorem lawReach_eq {c : Channel} (h : c.sands.length ≤ 100) (x : Int) : yD c x = some (rchC c.sands x) := by
  unfold yD
  have key := iterM_run (f := yB c x) (fun j => ⟨rchC (c.sands.take j) x, (j : Int)⟩) c.sands.length (b := rchC c.sands x) (fun j hj => ?_) ?_ FU (FU_lt (by omega))
  · simp only [List.take_zero] at key
    rw [show (⟨0, 0⟩ : yx) = ⟨rchC [] x, ((0 : Nat) : Int)⟩ from rfl, key]
    rfl
  · have e : c.sands.take (j + 1) = c.sands.take j ++ [c.sands[j]] := by rw [List.take_append_getElem]
    have hx : c.sands.getD j default = c.sands[j] := by simp [List.getD_eq_getElem?_getD, hj]
    unfold yB
    simp only
    rw [if_pos (by omega), ix_nat default hj, Option.bind_some, hx, e, rchC_snoc, addc_eq (by omega)]
    unfold stepR
    by_cases h1 : c.sands[j].span.lo ≤ x
    · rw [if_pos h1, Option.bind_some]
      by_cases h2 : x ≤ c.sands[j].span.hi
      · rw [if_pos (decide_eq_true h2), if_pos ⟨h1, h2⟩]; rfl
      · rw [if_neg (by simpa using h2), if_neg (fun q => h2 q.2)]; rfl
    · rw [if_neg h1, Option.bind_some, if_neg (by decide), if_neg (fun q => h1 q.1)]; rfl
  · unfold yB
    simp only
    rw [if_neg (by omega), List.take_length]
def freeB (cells : Int) (r0 : List Int) (i : Nat) (v : Int) : Bool := decide (0 ≤ v) && (decide (v < cells) && ((decide (i = 0) || decide (r0.getD (i - 1) (-1) < v)) && (decide (i + 1 = r0.length) || decide (v < r0.getD (i + 1) (-1)))))
theorem cond_eq {v cells : Int} {i : Nat} {r0 : List Int} (hi : i < r0.length) (hn : r0.length ≤ 1000) : (if 0 ≤ v then
 (if v < cells then
 (if (i : Int) = 0 then
 ((subc (r0.length : Int) 1).bind fun t82 =>
 if (i : Int) = t82 then
 (some true) else
 ((addc (i : Int) 1).bind fun t88 =>
 (ix r0 t88).bind fun t89 =>
 some (decide (v < t89)))) else
 ((subc (i : Int) 1).bind fun t72 =>
 (ix r0 t72).bind fun t73 =>
 if t73 < v then
 ((subc (r0.length : Int) 1).bind fun t82_1 =>
 if (i : Int) = t82_1 then
 (some true) else
 ((addc (i : Int) 1).bind fun t88_1 =>
 (ix r0 t88_1).bind fun t89_1 =>
 some (decide (v < t89_1)))) else
 (some false))) else
 (some false)) else
 (some false) : Option Bool) = some (freeB cells r0 i v) := by
  have tail : ((subc (r0.length : Int) 1).bind fun t82 => if (i : Int) = t82 then (some true) else ((addc (i : Int) 1).bind fun t88 => (ix r0 t88).bind fun t89 => some (decide (v < t89)))) = some (decide (i + 1 = r0.length) || decide (v < r0.getD (i + 1) (-1))) := by
    rw [subc_eq (by omega), Option.bind_some]
    by_cases h : i + 1 = r0.length
    · rw [if_pos (by omega), decide_eq_true h, Bool.true_or]
    · rw [if_neg (by omega), addc_eq (by omega), Option.bind_some, show (i : Int) + 1 = ((i + 1 : Nat) : Int) by omega, ix_nat (-1) (by omega), Option.bind_some, decide_eq_false h, Bool.false_or]
  unfold freeB
  by_cases h1 : 0 ≤ v
  · rw [if_pos h1, decide_eq_true h1, Bool.true_and]
    by_cases h2 : v < cells
    · rw [if_pos h2, decide_eq_true h2, Bool.true_and, tail]
      by_cases h3 : i = 0
      · rw [if_pos (by omega), decide_eq_true h3, Bool.true_or, Bool.true_and]
      · rw [if_neg (by omega), subc_eq (by omega), Option.bind_some, show (i : Int) - 1 = ((i - 1 : Nat) : Int) by omega, ix_nat (-1) (by omega), Option.bind_some, decide_eq_false h3, Bool.false_or]
        by_cases h4 : r0.getD (i - 1) (-1) < v
        · rw [if_pos h4, decide_eq_true h4, Bool.true_and]
        · rw [if_neg h4, decide_eq_false h4, Bool.false_and]
    · rw [if_neg h2, decide_eq_false h2, Bool.false_and]
  · rw [if_neg h1, decide_eq_false h1, Bool.false_and]
theorem getD_set {l : List Int} {i j : Nat} {v d : Int} (hi : i < l.length) : (l.set i v).getD j d = if j = i then v else l.getD j d := by
  rw [List.getD_eq_getElem?_getD, List.getElem?_set, List.getD_eq_getElem?_getD]
  by_cases h : i = j
  · subst h; simp [hi]
  · rw [if_neg h, if_neg (fun e => h e.symm)]
theorem row_set {c : Channel} {a b : List Int} (hb : rowB c b = true) (hab : a.length = b.length) (hc : canB c.sands a b = true) {i : Nat} (hi : i < b.length) {v : Int} (hf : freeB c.cells b i v = true) (hv : a.getD i (-1) - rchC c.sands (a.getD i (-1)) ≤ v ∧ v ≤ a.getD i (-1) + rchC c.sands (a.getD i (-1))) : rowB c (b.set i v) = true ∧ canB c.sands a (b.set i v) = true := by
  unfold freeB at hf
  simp only [Bool.and_eq_true, Bool.or_eq_true, decide_eq_true_eq] at hf
  obtain ⟨f1, f2, f3, f4⟩ := hf
  obtain ⟨b1, b2, b3⟩ := rowB_iff.1 hb
  constructor
  · refine rowB_iff.2 ⟨by rw [List.length_set]; exact b1, upB_ix.2 fun j hj => ?_, fun x hx => ?_⟩
    · rw [List.length_set] at hj
      rw [getD_set hi, getD_set hi]
      have hb' := upB_ix.1 b2 j hj
      by_cases h1 : j = i
      · subst h1
        rw [if_pos rfl, if_neg (by omega)]
        rcases f4 with f4 | f4
        · omega
        · exact f4
      · rw [if_neg h1]
        by_cases h2 : j + 1 = i
        · rw [if_pos h2]
          rcases f3 with f3 | f3
          · omega
          · rw [← h2, Nat.add_sub_cancel] at f3; exact f3
        · rw [if_neg h2]; exact hb'
    · rcases List.mem_or_eq_of_mem_set hx with h | h
      · exact b3 x h
      · omega
  · unfold canB at hc ⊢
    rw [List.all_eq_true] at hc ⊢
    intro j hj
    have h0 := hc j hj
    rw [getD_set hi]
    by_cases h1 : j = i
    · subst h1
      rw [if_pos rfl, inb_iff]
      omega
    · rw [if_neg h1]; exact h0
theorem walk_L1 {l : List Int} (hl : l.length ≤ 9223372036854775807) {c : Channel} (r : Right c) {a : List Int} (ha : rowB c a = true) {t : zT} (ho : IsOrd a.length t.r0) {p q : Int} (hp : HOK l p) :
    ∃ o, iterM FU (qN t a c l) ⟨0, p, q, a⟩ = some o ∧ HOK l o.b0_1 ∧ rowB c o.r0 = true ∧ canB c.sands a o.r0 = true := by
  have hc := r.cells
  have hf := r.fords
  have hs := r.sands
  have hlen := ho.len
  obtain ⟨a1, a2, a3⟩ := rowB_iff.1 ha
  refine iterM_inv (f := qN t a c l) (fun s => (0 ≤ s.t33 ∧ s.t33 ≤ (t.r0.length : Int)) ∧ HOK l s.b0_1 ∧ rowB c s.r0 = true ∧ canB c.sands a s.r0 = true) (fun s => ((t.r0.length : Int) - s.t33).toNat) _ (fun s hs => ?_) FU _ (FU_lt (by simp only; omega)) ⟨by simp only; omega, hp, ha, canB_self r a⟩
  obtain ⟨h0, hk, hr, hcn⟩ := hs
  obtain ⟨b1, b2, b3⟩ := rowB_iff.1 hr
  unfold qN
  by_cases hlt : s.t33 < (t.r0.length : Int)
  · left
    have hm : t.r0.getD s.t33.toNat 0 ∈ t.r0 := getD_mem (by omega)
    obtain ⟨i, hi, he⟩ := List.mem_map.1 ((List.Perm.mem_iff ho).1 hm)
    have hi' : i < a.length := by simpa using hi
    have h1 := a3 _ (getD_mem (d := -1) hi')
    have h2 := rchC_bounds (x := a.getD i (-1)) r.reach
    obtain ⟨x, hx, hb, hk2⟩ := from_ok (r := s.b0_2) (lo := -rchC c.sands (a.getD i (-1))) (hi := rchC c.sands (a.getD i (-1))) hl hk (by omega)
    have hneg : negc (rchC c.sands (a.getD i (-1))) = some (-rchC c.sands (a.getD i (-1))) := negc_eq (by omega)
    rw [if_pos hlt, ix_eq 0 h0.1 hlt, Option.bind_some, ← he, ix_nat (-1) hi']
    simp only [Option.bind_some]
    rw [lawReach_eq (by omega)]
    simp only [Option.bind_some]
    rw [hneg]
    simp only [Option.bind_some]
    rw [hx]
    simp only [Option.bind_some]
    rw [addc_eq (by omega)]
    simp only [Option.bind_some]
    rw [cond_eq (by omega) (by omega), addc_eq (by omega)]
    simp only [Option.bind_some]
    by_cases hfr : freeB c.cells s.r0 i (a.getD i (-1) + x.r0) = true
    · rw [if_pos hfr, ix_nat (-1) (by omega)]
      simp only [Option.bind_some, Int.toNat_natCast]
      obtain ⟨g1, g2⟩ := row_set hr (by omega) hcn (by omega) hfr (by omega)
      exact ⟨_, rfl, ⟨by simp only; omega, hk2, g1, g2⟩, by simp only; omega⟩
    · rw [if_neg hfr]
      simp only [Option.bind_some]
      exact ⟨_, rfl, ⟨by simp only; omega, hk2, hr, hcn⟩, by simp only; omega⟩
  · right
    rw [if_neg hlt]
    exact ⟨_, rfl, hk, hr, hcn⟩
structure WalkC (c : Channel) (n : Nat) (crs : List (List Int)) : Prop where
  len : crs.length = n + 1
  fst : crs.getD 0 [] = c.fords
  row : ∀ k, k ≤ n → rowB c (crs.getD k []) = true
  can : ∀ k, k < n → canB c.sands (crs.getD k []) (crs.getD (k + 1) []) = true
theorem getD_snoc {α : Type} {l : List α} {x d : α} {k : Nat} : (l ++ [x]).getD k d = if k < l.length then l.getD k d else if k = l.length then x else d := by
  rw [List.getD_eq_getElem?_getD, List.getD_eq_getElem?_getD]
  by_cases h : k < l.length
  · rw [if_pos h, List.getElem?_append_left h]
  · rw [if_neg h]
    by_cases h2 : k = l.length
    · rw [if_pos h2]; subst h2; simp
    · rw [if_neg h2, List.getElem?_eq_none (by simp; omega)]; rfl
theorem WalkC.snoc {c : Channel} {n : Nat} {crs : List (List Int)} (h : WalkC c n crs) {b : List Int} (hb : rowB c b = true) (hc : canB c.sands (crs.getD n []) b = true) : WalkC c (n + 1) (crs ++ [b]) := by
  have hl := h.len
  refine ⟨by simp; omega, ?_, fun k hk => ?_, fun k hk => ?_⟩
  · rw [getD_snoc, if_pos (by omega)]; exact h.fst
  · rw [getD_snoc]
    by_cases h1 : k < crs.length
    · rw [if_pos h1]; exact h.row k (by omega)
    · rw [if_neg h1, if_pos (by omega)]; exact hb
  · rw [getD_snoc, getD_snoc, if_pos (by omega)]
    by_cases h1 : k + 1 < crs.length
    · rw [if_pos h1]; exact h.can k (by omega)
    · rw [if_neg h1, if_pos (by omega)]
      obtain rfl : k = n := by omega
      exact hc
theorem walked_ok {l : List Int} (hl : l.length ≤ 9223372036854775807) {c : Channel} (r : Right c) {p q : Int} (hp : HOK l p) : ∃ x, k4 l p q c = some x ∧ HOK l x.b0_1 ∧ WalkC c c.tides.toNat x.r0 := by
  have ht := r.tides
  have hf := r.fords
  have hrow : rowB c c.fords = true := rowB_iff.2 ⟨rfl, r.up, r.fcell⟩
  unfold k4
  rw [jat (by omega), Option.bind_some]
  have key : ∃ o, iterM FU (qL c l) ⟨0, p, q, [c.fords]⟩ = some o ∧ HOK l o.b0_1 ∧ WalkC c c.tides.toNat o.out5 := by
    refine iterM_inv (f := qL c l) (fun s => (0 ≤ s.t17 ∧ s.t17 ≤ c.tides) ∧ HOK l s.b0_1 ∧ WalkC c s.t17.toNat s.out5) (fun s => (c.tides - s.t17).toNat) _ (fun s hs => ?_) FU _ (FU_lt (by simp only; omega)) ⟨by simp only; omega, hp, ⟨rfl, rfl, fun k hk => ?_, fun k hk => ?_⟩⟩
    · obtain ⟨h0, hk, hw⟩ := hs
      unfold qL
      by_cases hlt : s.t17 < c.tides
      · left
        have hlen := hw.len
        have ha := hw.row s.t17.toNat (Nat.le_refl _)
        have ha' := (rowB_iff.1 ha).1
        rw [if_pos hlt, subc_eq (by omega), Option.bind_some, ix_eq [] (by omega) (by omega), Option.bind_some, show ((s.out5.length : Int) - 1).toNat = s.t17.toNat by omega, jat (by omega), Option.bind_some, jat (by omega), Option.bind_some]
        obtain ⟨t, h1, h2, h3⟩ := order_ok (r := s.b0_2) (n := (s.out5.getD s.t17.toNat []).length) hl hk (by omega)
        rw [h1, Option.bind_some]
        obtain ⟨o, g1, g2, g3, g4⟩ := walk_L1 (q := t.h0_2) hl r ha h3 h2
        rw [g1, Option.bind_some, appc_eq (by simp; omega), Option.bind_some, addc_eq (by omega), Option.bind_some]
        refine ⟨_, rfl, ⟨by simp only; omega, g2, ?_⟩, by simp only; omega⟩
        have := hw.snoc g3 g4
        simp only
        rw [show (s.t17 + 1).toNat = s.t17.toNat + 1 by omega]
        exact this
      · right
        rw [if_neg hlt]
        refine ⟨_, rfl, hk, ?_⟩
        rw [show c.tides.toNat = s.t17.toNat by omega]
        exact hw
    · have hk0 : k = 0 := by simpa using hk
      subst hk0
      exact hrow
    · simp at hk
  obtain ⟨o, h1, h2, h3⟩ := key
  rw [h1, Option.bind_some]
  exact ⟨_, rfl, h2, h3⟩
end Go.Proofs.Wb

namespace Go.Proofs.Wb
open Go Go.Fw Go.Gx Go.Sb
set_option linter.unusedVariables false
set_option maxRecDepth 100000
structure MadeC (c : Channel) (cells fords tides : Int) : Prop where
  right : Right c
  none : c.sights = []
  cells : 3 ≤ c.cells ∧ c.cells ≤ cells
  fords : (c.fords.length : Int) ≤ fords
  tides : c.tides ≤ tides
theorem upB_snoc {f : List Int} {v : Int} (h : upB f = true) (hv : ∀ x ∈ f, x < v) : upB (f ++ [v]) = true := by
  rw [upB_ix] at *
  intro i hi
  rw [List.length_append, List.length_singleton] at hi
  rw [getD_snoc, getD_snoc, if_pos (by omega)]
  by_cases h1 : i + 1 < f.length
  · rw [if_pos h1]; exact h i h1
  · rw [if_neg h1, if_pos (by omega)]
    exact hv _ (getD_mem (by omega))
theorem made_L0 {l : List Int} (hl : l.length ≤ 9223372036854775807) {t : yK} (ht : 3 ≤ t.r0 ∧ t.r0 ≤ 9) {f : Int} (hf : 1 ≤ f ∧ f ≤ 3) {p q : Int} (hp : HOK l p) :
    ∃ o, iterM FU (q9 t f l) ⟨0, p, q, []⟩ = some o ∧ HOK l o.b0_1 ∧ upB o.c10_fords = true ∧ (∀ x ∈ o.c10_fords, 0 ≤ x ∧ x < t.r0) ∧ 1 ≤ o.c10_fords.length ∧ (o.c10_fords.length : Int) ≤ f := by
  refine iterM_inv (f := q9 t f l) (fun s => (0 ≤ s.t22 ∧ s.t22 ≤ t.r0) ∧ HOK l s.b0_1 ∧ upB s.c10_fords = true ∧ (∀ x ∈ s.c10_fords, 0 ≤ x ∧ x < s.t22) ∧ (s.c10_fords.length : Int) ≤ f ∧ (s.t22 = t.r0 → 1 ≤ s.c10_fords.length)) (fun s => (t.r0 - s.t22).toNat) _ (fun s hs => ?_) FU _ (FU_lt (by simp only; omega)) ⟨by simp only; omega, hp, rfl, by simp, by simp only; simp; omega, fun h => by simp only at h; omega⟩
  obtain ⟨h0, hk, hu, hx, hlen, hne⟩ := hs
  unfold q9
  by_cases hlt : s.t22 < t.r0
  · left
    rw [if_pos hlt, addc_eq (by omega)]
    -- with this cell
    have yes : ∀ (b1 b2 : Int), HOK l b1 → (s.c10_fords.length : Int) < f → ∃ s', ((appc 8 s.c10_fords [s.t22]).bind fun t51 => some (⟨b1, b2, t51⟩ : zr)).bind (fun o_1 => (some (s.t22 + 1)).bind fun t53 => some (Sum.inl (⟨t53, o_1.b0_1, o_1.b0_2, o_1.c10_fords⟩ : km) : km ⊕ zq)) = some (.inl s') ∧ ((0 ≤ s'.t22 ∧ s'.t22 ≤ t.r0) ∧ HOK l s'.b0_1 ∧ upB s'.c10_fords = true ∧ (∀ x ∈ s'.c10_fords, 0 ≤ x ∧ x < s'.t22) ∧ (s'.c10_fords.length : Int) ≤ f ∧ (s'.t22 = t.r0 → 1 ≤ s'.c10_fords.length)) ∧ (t.r0 - s'.t22).toNat < (t.r0 - s.t22).toNat := by
      intro b1 b2 hb hff
      rw [appc_eq (by simp; omega)]
      simp only [Option.bind_some]
      refine ⟨_, rfl, ⟨by simp only; omega, hb, upB_snoc hu (fun x hx' => (hx x hx').2), fun x hx' => ?_, by simp; omega, fun _ => by simp⟩, by simp only; omega⟩
      simp only
      rcases List.mem_append.1 hx' with h | h
      · have := hx x h; omega
      · rw [List.mem_singleton] at h; omega
    have no : ∀ (b1 b2 : Int), HOK l b1 → (s.t22 + 1 = t.r0 → 1 ≤ s.c10_fords.length) → ∃ s', (some (⟨b1, b2, s.c10_fords⟩ : zr)).bind (fun o_1 => (some (s.t22 + 1)).bind fun t53 => some (Sum.inl (⟨t53, o_1.b0_1, o_1.b0_2, o_1.c10_fords⟩ : km) : km ⊕ zq)) = some (.inl s') ∧ ((0 ≤ s'.t22 ∧ s'.t22 ≤ t.r0) ∧ HOK l s'.b0_1 ∧ upB s'.c10_fords = true ∧ (∀ x ∈ s'.c10_fords, 0 ≤ x ∧ x < s'.t22) ∧ (s'.c10_fords.length : Int) ≤ f ∧ (s'.t22 = t.r0 → 1 ≤ s'.c10_fords.length)) ∧ (t.r0 - s'.t22).toNat < (t.r0 - s.t22).toNat := by
      intro b1 b2 hb hff
      simp only [Option.bind_some]
      exact ⟨_, rfl, ⟨by simp only; omega, hb, hu, fun x hx' => by have := hx x hx'; simp only; omega, hlen, hff⟩, by simp only; omega⟩
    by_cases h1 : (s.c10_fords.length : Int) < f
    · obtain ⟨x, hx', hk2⟩ := once_ok (r := s.b0_2) (n := 3) hl hk (by omega)
      rw [if_pos h1, hx', Option.bind_some]
      by_cases h2 : x.r0 = true
      · rw [if_pos h2, Option.bind_some, if_pos rfl]
        exact yes _ _ hk2 h1
      · rw [if_neg h2, subc_eq (by omega), Option.bind_some]
        by_cases h3 : s.t22 = t.r0 - 1
        · rw [if_pos h3, Option.bind_some]
          by_cases h4 : (s.c10_fords.length : Int) = 0
          · rw [if_pos (decide_eq_true h4)]
            exact yes _ _ hk2 h1
          · rw [if_neg (by simpa using h4)]
            exact no _ _ hk2 (fun _ => by omega)
        · rw [if_neg h3, Option.bind_some, if_neg Bool.false_ne_true]
          exact no _ _ hk2 (fun q => by omega)
    · rw [if_neg h1, Option.bind_some, if_neg Bool.false_ne_true]
      exact no _ _ hk (fun _ => by omega)
  · right
    rw [if_neg hlt]
    have : s.t22 = t.r0 := by omega
    exact ⟨_, rfl, hk, hu, fun x hx' => by have := hx x hx'; omega, hne this, hlen⟩
theorem made_L1 {l : List Int} (hl : l.length ≤ 9223372036854775807) {t : yK} (ht : 3 ≤ t.r0 ∧ t.r0 ≤ 9) {u : zz} (hu : 0 ≤ u.r0 ∧ u.r0 ≤ 4) {p q : Int} (hp : HOK l p) :
    ∃ o, iterM FU (ye u t l) ⟨0, p, q, []⟩ = some o ∧ HOK l o.b0_1 ∧ o.c10_sands.length ≤ 4 ∧ ∀ s ∈ o.c10_sands, (1 ≤ s.reach ∧ s.reach ≤ 2) ∧ 0 ≤ s.span.lo ∧ s.span.hi < t.r0 ∧ s.span.lo ≤ s.span.hi := by
  refine iterM_inv (f := ye u t l) (fun s => (0 ≤ s.t56 ∧ s.t56 ≤ u.r0) ∧ HOK l s.b0_1 ∧ (s.c10_sands.length : Int) = s.t56 ∧ ∀ w ∈ s.c10_sands, (1 ≤ w.reach ∧ w.reach ≤ 2) ∧ 0 ≤ w.span.lo ∧ w.span.hi < t.r0 ∧ w.span.lo ≤ w.span.hi) (fun s => (u.r0 - s.t56).toNat) _ (fun s hs => ?_) FU _ (FU_lt (by simp only; omega)) ⟨by simp only; omega, hp, rfl, by simp⟩
  obtain ⟨h0, hk, hlen, hx⟩ := hs
  unfold ye
  by_cases hlt : s.t56 < u.r0
  · left
    rw [if_pos hlt, subc_eq (by omega), Option.bind_some]
    obtain ⟨x, hx1, hb1, hk1⟩ := upto_ok (r := s.b0_2) (n := t.r0 - 1) hl hk (by omega)
    rw [hx1, Option.bind_some, Option.bind_some]
    obtain ⟨y, hy1, hb2, hk2⟩ := upto_ok (r := x.h0_2) (n := 4) hl hk1 (by omega)
    rw [hy1, Option.bind_some, addc_eq (by omega), Option.bind_some]
    obtain ⟨z, hz1, hb3, hk3⟩ := from_ok (r := y.h0_2) (lo := 1) (hi := 2) hl hk2 (by omega)
    rw [hz1, Option.bind_some, appc_eq (by simp; omega), Option.bind_some, Option.bind_some, addc_eq (by omega), Option.bind_some]
    refine ⟨_, rfl, ⟨by simp only; omega, hk3, by simp; omega, fun w hw => ?_⟩, by simp only; omega⟩
    rcases List.mem_append.1 hw with h | h
    · exact hx w h
    · rw [List.mem_singleton] at h
      subst h
      simp only
      omega
  · right
    rw [if_neg hlt]
    exact ⟨_, rfl, hk, by simp only; omega, hx⟩
theorem made_ok {l : List Int} (hl : l.length ≤ 9223372036854775807) {p q cells fords tides : Int} (hp : HOK l p) (hc : 3 ≤ cells ∧ cells ≤ 9) (hf : 1 ≤ fords ∧ fords ≤ 3) (ht : 0 ≤ tides ∧ tides ≤ 4) : ∃ x, yi l p q cells fords tides = some x ∧ HOK l x.b0_1 ∧ MadeC x.r0 cells fords tides ∧ WalkC x.r0 x.r0.tides.toNat x.r1 := by
  unfold yi
  obtain ⟨x, hx, hb, hk⟩ := from_ok (r := q) (lo := 3) (hi := cells) hl hp (by omega)
  rw [hx, Option.bind_some]
  obtain ⟨y, hy, hb2, hk2⟩ := upto_ok (r := x.h0_2) (n := tides) hl hk (by omega)
  rw [hy, Option.bind_some]
  obtain ⟨o, ho, hk3, o1, o2, o3, o4⟩ := made_L0 (q := y.h0_2) (t := x) hl (by omega) hf hk2
  rw [ho, Option.bind_some]
  obtain ⟨u, hu, hb4, hk4⟩ := upto_ok (r := o.b0_2) (n := 4) hl hk3 (by omega)
  rw [hu, Option.bind_some]
  obtain ⟨v, hv, hk5, v1, v2⟩ := made_L1 (q := u.h0_2) (t := x) (u := u) hl (by omega) (by omega) hk4
  rw [hv, Option.bind_some]
  have r : Right ⟨x.r0, y.r0, o.c10_fords, v.c10_sands, []⟩ := ⟨by simp only; omega, by simp only; omega, by simp only; omega, v1, by simp, fun s hs => (v2 s hs).1, by simp, o2, fun s hs => (v2 s hs).2, by simp, o1⟩
  obtain ⟨w, hw, hk6, w1⟩ := walked_ok (q := v.b0_2) hl r hk5
  rw [hw, Option.bind_some]
  exact ⟨_, rfl, hk6, ⟨r, rfl, by simp only; omega, by simp only; omega, by simp only; omega⟩, w1⟩
structure SeenC (c : Channel) (crs : List (List Int)) (s : Sight) : Prop where
  after : 0 ≤ s.after ∧ s.after ≤ c.tides
  cell : 0 ≤ s.cell ∧ s.cell < c.cells
  up : s.upright = decide (s.cell ∈ crs.getD s.after.toNat [])
theorem seen_ok {l : List Int} (hl : l.length ≤ 9223372036854775807) {c : Channel} (r : Right c) {crs : List (List Int)} (hw : WalkC c c.tides.toNat crs) {p q most : Int} (hp : HOK l p) (hm : 0 ≤ most ∧ most ≤ 8) : ∃ x, yj l p q c crs most = some x ∧ HOK l x.b0_1 ∧ (x.r0.length : Int) ≤ most ∧ ∀ s ∈ x.r0, SeenC c crs s := by
  have hc := r.cells
  have hf := r.fords
  have ht := r.tides
  have hcl := hw.len
  unfold yj
  obtain ⟨u, hu, hb, hk⟩ := upto_ok (r := q) (n := most) hl hp (by omega)
  rw [hu, Option.bind_some]
  have key : ∃ o, iterM FU (yf u c l crs) ⟨0, u.h0_1, u.h0_2, []⟩ = some o ∧ HOK l o.b0_1 ∧ (o.out9.length : Int) = u.r0 ∧ ∀ s ∈ o.out9, SeenC c crs s := by
    refine iterM_inv (f := yf u c l crs) (fun s => (0 ≤ s.t14 ∧ s.t14 ≤ u.r0) ∧ HOK l s.b0_1 ∧ (s.out9.length : Int) = s.t14 ∧ ∀ w ∈ s.out9, SeenC c crs w) (fun s => (u.r0 - s.t14).toNat) _ (fun s hs => ?_) FU _ (FU_lt (by simp only; omega)) ⟨by simp only; omega, hk, rfl, by simp⟩
    obtain ⟨h0, hk0, hlen, hx⟩ := hs
    unfold yf
    by_cases hlt : s.t14 < u.r0
    · left
      rw [if_pos hlt, subc_eq (by omega), Option.bind_some]
      obtain ⟨x, hx1, hb1, hk1⟩ := upto_ok (r := s.b0_2) (n := c.tides) hl hk0 (by omega)
      rw [hx1, Option.bind_some]
      obtain ⟨y, hy1, hb2, hk2⟩ := upto_ok (r := x.h0_2) (n := c.cells - 1) hl hk1 (by omega)
      rw [hy1, Option.bind_some, Option.bind_some]
      obtain ⟨z, hz1, hk3⟩ := once_ok (r := y.h0_2) (n := 2) hl hk2 (by omega)
      have hrow := hw.row x.r0.toNat (by omega)
      obtain ⟨r1, r2, r3⟩ := rowB_iff.1 hrow
      have hixr : ix crs x.r0 = some (crs.getD x.r0.toNat []) := ix_eq [] (by omega) (by omega)
      have fin : ∀ (b1 b2 ce : Int), HOK l b1 → (0 ≤ ce ∧ ce < c.cells) → ∃ s', (ix crs x.r0).bind (fun t45 => (jC t45 ce).bind fun t49 => (appc 24 s.out9 [(⟨x.r0, ce, t49⟩ : Sight)]).bind fun t54 => (addc s.t14 1).bind fun t55 => some (Sum.inl (⟨t55, b1, b2, t54⟩ : qo) : qo ⊕ Jq)) = some (.inl s') ∧ ((0 ≤ s'.t14 ∧ s'.t14 ≤ u.r0) ∧ HOK l s'.b0_1 ∧ (s'.out9.length : Int) = s'.t14 ∧ ∀ s ∈ s'.out9, SeenC c crs s) ∧ (u.r0 - s'.t14).toNat < (u.r0 - s.t14).toNat := by
        intro b1 b2 ce hb hce
        rw [hixr, Option.bind_some, yL (by omega), Option.bind_some, appc_eq (by simp; omega), Option.bind_some, addc_eq (by omega), Option.bind_some]
        refine ⟨_, rfl, ⟨by simp only; omega, hb, by simp; omega, fun w hw' => ?_⟩, by simp only; omega⟩
        rcases List.mem_append.1 hw' with h | h
        · exact hx w h
        · rw [List.mem_singleton] at h
          subst h
          exact ⟨by simp only; omega, hce, rfl⟩
      rw [hz1, Option.bind_some]
      by_cases h2 : z.r0 = true
      · rw [if_pos h2]
        obtain ⟨v, hv1, hb4, hk4⟩ := upto_ok (r := z.h0_2) (n := (c.fords.length : Int) - 1) hl hk3 (by omega)
        have hce : ix (crs.getD x.r0.toNat []) v.r0 = some ((crs.getD x.r0.toNat []).getD v.r0.toNat 0) := ix_eq 0 (by omega) (by omega)
        have hm2 := r3 _ (getD_mem (d := 0) (l := crs.getD x.r0.toNat []) (i := v.r0.toNat) (by omega))
        simp only
        rw [hixr, Option.bind_some, subc_eq (by omega), Option.bind_some, hv1, Option.bind_some, hce, Option.bind_some, Option.bind_some, ← hixr]
        exact fin _ _ _ hk4 hm2
      · rw [if_neg h2, Option.bind_some]
        exact fin _ _ _ hk3 (by simp only; omega)
    · right
      rw [if_neg hlt]
      exact ⟨_, rfl, hk0, by simp only; omega, hx⟩
  obtain ⟨o, h1, h2, h3, h4⟩ := key
  rw [h1, Option.bind_some]
  exact ⟨_, rfl, h2, by simp only; omega, h4⟩
theorem right_sights {c : Channel} (r : Right c) {sg : List Sight} (hn : sg.length ≤ 8) (h : ∀ s ∈ sg, (0 ≤ s.after ∧ s.after ≤ c.tides) ∧ 0 ≤ s.cell ∧ s.cell < c.cells) : Right ⟨c.cells, c.tides, c.fords, c.sands, sg⟩ := ⟨r.cells, r.tides, r.fords, r.sands, by simp only; omega, r.reach, fun s hs => (h s hs).1, r.fcell, r.span, fun s hs => (h s hs).2, r.up⟩
theorem real_on {c : Channel} (r : Right c) {crs : List (List Int)} (hw : WalkC c c.tides.toNat crs) (hag : ∀ k : Nat, k ≤ c.tides.toNat → agP tt c.sights (k : Int) (crs.getD k []) = true) : ∀ k : Nat, k ≤ c.tides.toNat → onB c k (crs.getD k []) = true := by
  have hc := r.cells
  have hmem : ∀ k, k ≤ c.tides.toNat → crs.getD k [] ∈ LL c := fun k hk => (mem_LL (by omega)).2 (hw.row k hk)
  have fwd : ∀ k : Nat, k ≤ c.tides.toNat → 0 < FcL tt c k (crs.getD k []) := by
    intro k
    induction k with
    | zero => intro hk; rw [FcL, if_pos ⟨hag 0 hk, hw.fst⟩]; omega
    | succ k ih => intro hk; exact FcL_succ_pos.2 ⟨hag (k + 1) hk, _, hmem k (by omega), hw.can k (by omega), ih (by omega)⟩
  have bwd : ∀ j k : Nat, k + j = c.tides.toNat → 0 < R (nxS c) (agS tt c) j (stL k (crs.getD k [])) := by
    intro j
    induction j with
    | zero =>
      intro k hk
      rw [R, agS_stL r (hw.row k (by omega)), if_pos (hag k (by omega))]
      omega
    | succ j ih =>
      intro k hk
      refine R_succ_pos.2 ⟨?_, stL (k + 1) (crs.getD (k + 1) []), ?_, ih (k + 1) (by omega)⟩
      · rw [agS_stL r (hw.row k (by omega))]; exact hag k (by omega)
      · exact (mem_nx_stL r (hw.row k (by omega)) (hw.row (k + 1) (by omega))).2 (hw.can k (by omega))
  intro k hk
  unfold onB
  rw [decide_eq_true (fwd k hk), decide_eq_true (bwd _ k (by omega))]
  rfl
theorem on_cnt {c : Channel} (r : Right c) {l : List Int} (hl : l ∈ LL c) (h : onB c c.tides.toNat l = true) : 0 < cntS tt c := by
  unfold onB at h
  rw [Bool.and_eq_true, decide_eq_true_eq] at h
  rw [cntS_sum r]
  exact sumN_pos.2 ⟨l, hl, h.1⟩
theorem seen_ag {c : Channel} {crs : List (List Int)} {sg : List Sight} (h : ∀ s ∈ sg, SeenC c crs s) (k : Nat) : agP tt sg (k : Int) (crs.getD k []) = true := by
  rw [agP_iff]
  intro i hi _ ha
  have hm : sg.getD i default ∈ sg := by
    rw [List.getD_eq_getElem?_getD, List.getElem?_eq_getElem hi]
    exact List.getElem_mem hi
  have := (h _ hm).up
  rw [ha, Int.toNat_natCast] at this
  exact this.symm
theorem pile_eq (l : List Int) : Zq l = some ⟨0, 0⟩ := rfl
theorem HOK_zero (l : List Int) : HOK l 0 := ⟨Int.le_refl _, .inr rfl⟩
end Go.Proofs.Wb

namespace Go.Proofs.Wb
open Go Go.Fw Go.Gx Go.Sb
set_option linter.unusedVariables false
set_option maxRecDepth 100000
theorem made_seen {l : List Int} (hl : l.length ≤ 9223372036854775807) {cells fords tides most : Int} (hc : 3 ≤ cells ∧ cells ≤ 9) (hf : 1 ≤ fords ∧ fords ≤ 3) (ht : 0 ≤ tides ∧ tides ≤ 4) (hm : 0 ≤ most ∧ most ≤ 8) : ∃ x y, yi l 0 0 cells fords tides = some x ∧ yj l x.b0_1 x.b0_2 x.r0 x.r1 most = some y ∧ MadeC x.r0 cells fords tides ∧ WalkC x.r0 x.r0.tides.toNat x.r1 ∧ HOK l y.b0_1 ∧ (y.r0.length : Int) ≤ most ∧ ∀ s ∈ y.r0, SeenC x.r0 x.r1 s := by
  obtain ⟨x, h1, h2, h3, h4⟩ := made_ok hl (q := 0) (HOK_zero l) hc hf ht
  obtain ⟨y, g1, g2, g3, g4⟩ := seen_ok (q := x.b0_2) hl h3.right h4 h2 hm
  exact ⟨x, y, h1, g1, h3, h4, g2, g3, g4⟩
def cS (c : Channel) (sg : List Sight) : Channel := ⟨c.cells, c.tides, c.fords, c.sands, sg⟩
theorem cS_right {c : Channel} (r : Right c) {crs : List (List Int)} {sg : List Sight} (hn : sg.length ≤ 8) (h : ∀ s ∈ sg, SeenC c crs s) : Right (cS c sg) := right_sights r hn (fun s hs => ⟨(h s hs).after, (h s hs).cell⟩)
theorem few_right {c : Channel} (r : Right c) (h : c.sights.length ≤ 8) : Few c := by
  have hf := r.fords
  have hs := r.sands
  exact ⟨by omega, by omega, by omega⟩
theorem WalkC.sights {c : Channel} {n : Nat} {crs : List (List Int)} (h : WalkC c n crs) (sg : List Sight) : WalkC (cS c sg) n crs := ⟨h.len, h.fst, h.row, h.can⟩
theorem cS_on {c : Channel} (r : Right c) {crs : List (List Int)} (hw : WalkC c c.tides.toNat crs) {sg : List Sight} (hn : sg.length ≤ 8) (h : ∀ s ∈ sg, SeenC c crs s) (k : Nat) (hk : k ≤ c.tides.toNat) : onB (cS c sg) k (crs.getD k []) = true := real_on (cS_right r hn h) (hw.sights sg) (fun k _ => seen_ag h k) k hk
theorem cS_pos {c : Channel} (r : Right c) {crs : List (List Int)} (hw : WalkC c c.tides.toNat crs) {sg : List Sight} (hn : sg.length ≤ 8) (h : ∀ s ∈ sg, SeenC c crs s) : 0 < cntS tt (cS c sg) := by
  have hc := r.cells
  refine on_cnt (cS_right r hn h) ?_ (cS_on r hw hn h c.tides.toNat (Nat.le_refl _))
  exact (mem_LL (show 0 ≤ (cS c sg).cells from by show 0 ≤ c.cells; omega)).2 (hw.row c.tides.toNat (Nat.le_refl _))
end Go.Proofs.Wb

namespace Go.Proofs.Wb
open Go Go.Fw Go.Gx Go.Sb
set_option linter.unusedVariables false
set_option maxRecDepth 100000
theorem upB_pw {l : List Int} : upB l = true ↔ l.Pairwise (· < ·) := by
  rw [upB_ix, List.pairwise_iff_getElem]
  constructor
  · intro h i j hi hj hij
    have key : ∀ d, i + d + 1 < l.length → l.getD i (-1) < l.getD (i + d + 1) (-1) := by
      intro d
      induction d with
      | zero => intro hd; exact h i hd
      | succ d ih =>
        intro hd
        have h1 := ih (by omega)
        have h2 := h (i + d + 1) (by omega)
        rw [show i + (d + 1) + 1 = i + d + 1 + 1 by omega]
        omega
    have := key (j - i - 1) (by omega)
    rw [show i + (j - i - 1) + 1 = j by omega] at this
    simpa [List.getD_eq_getElem?_getD, hi, hj] using this
  · intro h i hi
    have := h i (i + 1) (by omega) hi (by omega)
    simpa [List.getD_eq_getElem?_getD, hi, (show i < l.length by omega)] using this
theorem pw_nodup {l : List Int} (h : l.Pairwise (· < ·)) : l.Nodup := h.imp (fun h => by omega)
theorem dup_none {l : List Int} (h : l.Nodup) : dupB l = false := by
  unfold dupB
  rw [List.any_eq_false]
  intro s hs
  have hs' : s < l.length := by simpa using hs
  rw [decide_eq_true_eq, List.mem_take_iff_getElem]
  rintro ⟨i, hi, e⟩
  rw [List.Nodup, List.pairwise_iff_getElem] at h
  have := h i s (by omega) hs' (by omega)
  apply this
  rw [e]
  simp [List.getD_eq_getElem?_getD, hs']
theorem mem_E0 {n : Nat} {l : List Int} : l ∈ E0 n ↔ l.length ≤ n ∧ l.Pairwise (· < ·) ∧ ∀ x ∈ l, 0 ≤ x ∧ x < (n : Int) := by
  unfold E0
  rw [List.mem_flatMap]
  constructor
  · rintro ⟨k, hk, h⟩
    obtain ⟨h1, h2, h3⟩ := (mem_incL _ _ _).1 h
    have : k < n + 1 := by simpa using hk
    exact ⟨by omega, upB_pw.1 h2, fun x hx => by have := h3 x hx; omega⟩
  · rintro ⟨h1, h2, h3⟩
    exact ⟨l.length, by simp; omega, (mem_incL _ _ _).2 ⟨rfl, upB_pw.2 h2, fun x hx => by have := h3 x hx; omega⟩⟩
theorem E0_cons (n : Nat) : E0 n = [] :: E1 n := by
  unfold E0 E1
  rw [List.range_succ_eq_map, List.flatMap_cons, List.flatMap_map]
  rfl
theorem E0_len (n : Nat) : (E0 n).Pairwise fun a b => a.length ≤ b.length := by
  unfold E0
  rw [List.pairwise_flatMap]
  have hl : ∀ k, ∀ x ∈ incL n k 0, x.length = k := fun k x hx => ((mem_incL _ _ _).1 hx).1
  refine ⟨fun k _ => ?_, ?_⟩
  · refine List.Pairwise.imp_of_mem (R := fun _ _ => True) (fun {a b} ha hb _ => ?_) ?_
    · rw [hl k a ha, hl k b hb]; exact Nat.le_refl _
    · exact List.pairwise_iff_getElem.2 (fun _ _ _ _ _ => trivial)
  · refine (List.pairwise_lt_range).imp ?_
    intro a b hab x hx y hy
    rw [hl a x hx, hl b y hy]
    omega
theorem find_min {n : Nat} {p : List Int → Bool} {w : List Int} (h : (E0 n).find? p = some w) {l : List Int} (hl : l ∈ E0 n) (hlt : l.length < w.length) : p l = false := by
  obtain ⟨_, pre, bs, e, h2⟩ := List.find?_eq_some_iff_append.1 h
  have hs := E0_len n
  rw [e] at hl hs
  rcases List.mem_append.1 hl with h3 | h3
  · simpa using h2 l h3
  · rcases List.mem_cons.1 h3 with h3 | h3
    · rw [h3] at hlt; omega
    · have := (List.pairwise_cons.1 (List.pairwise_append.1 hs).2.1).1 l h3
      omega
def fullL (n : Nat) : List Int := (List.range n).map fun i : Nat => (i : Int)
theorem mem_full {n : Nat} {x : Int} : x ∈ fullL n ↔ 0 ≤ x ∧ x < (n : Int) := by
  unfold fullL
  rw [List.mem_map]
  constructor
  · rintro ⟨i, hi, rfl⟩
    have : i < n := by simpa using hi
    omega
  · rintro ⟨h1, h2⟩
    exact ⟨x.toNat, by simp; omega, by omega⟩
theorem full_pw (n : Nat) : (fullL n).Pairwise (· < ·) := by
  unfold fullL
  rw [List.pairwise_map]
  exact List.pairwise_lt_range.imp (fun h => by omega)
theorem full_E0 (n : Nat) : fullL n ∈ E0 n := mem_E0.2 ⟨by unfold fullL; simp, full_pw n, fun x hx => mem_full.1 hx⟩
theorem none_pos {c : Channel} (r : Right c) : 0 < cntS (fun _ => false) c := by
  have r' : Right (cS c []) := right_sights r (by simp) (by simp)
  have h := stay_pos r' rfl
  have e : agS (fun _ => false) c = agS tt (cS c []) := by
    funext s
    unfold agS
    rw [Bool.eq_iff_iff, agP_iff, agP_iff]
    constructor
    · intro _ i hi
      exact absurd hi (by show ¬ i < ([] : List Sight).length; simp)
    · intro _ i _ hc
      exact absurd hc (by decide)
  unfold cntS at h ⊢
  rw [e]
  exact h
theorem pW_full {c : Channel} (r : Right c) : pW c (fullL c.sights.length) = true := by
  unfold pW
  rw [decide_eq_true_eq]
  have : cntS (cOut (fullL c.sights.length)) c = cntS (fun _ => false) c := cnt_congr fun i hi => by
    unfold cOut
    rw [decide_eq_true (mem_full.2 ⟨by omega, by omega⟩)]
    rfl
  rw [this]
  exact none_pos r
theorem pW_nil {c : Channel} : pW c [] = decide (0 < cntS tt c) := by
  unfold pW
  have : cntS (cOut []) c = cntS tt c := cnt_congr fun i hi => by
    unfold cOut
    simp
  rw [this]
theorem find_wrong {c : Channel} (r : Right c) : ∃ w, (E0 c.sights.length).find? (pW c) = some w ∧ pW c w = true ∧ w ∈ E0 c.sights.length := by
  cases h : (E0 c.sights.length).find? (pW c) with
  | none => exact absurd (pW_full r) (List.find?_eq_none.1 h _ (full_E0 _))
  | some w => exact ⟨w, rfl, List.find?_some h, List.mem_of_find?_eq_some h⟩
theorem agree_sub {c : Channel} (hF : Few c) (h0 : chk c = 0) {l : List Int} (h1 : l.Pairwise (· < ·)) (h2 : ∀ x ∈ l, 0 ≤ x ∧ x < (c.sights.length : Int)) (hl : l.length ≤ 1000) : Jz c l = some ⟨decide (0 < cntS (cIn l) c), 0⟩ := by
  rw [ja9 hF hl, if_pos h0, if_pos (inA_iff.2 h2), dup_none (pw_nodup h1), if_neg Bool.false_ne_true]
end Go.Proofs.Wb

namespace Go.Proofs.Wb
open Go Go.Fw Go.Gx Go.Sb
set_option linter.unusedVariables false
set_option maxRecDepth 100000
theorem where_real {c : Channel} (r : Right c) {k i : Nat} {l : List Int} (hl : l ∈ LL c) (ho : onB c k l = true) (hi : i < c.fords.length) : l.getD i (-1) ∈ whereL c k i := by
  have hc := r.cells
  obtain ⟨h1, h2, h3⟩ := rowB_iff.1 ((mem_LL (by omega)).1 hl)
  have hm := h3 _ (getD_mem (l := l) (i := i) (d := -1) (by omega))
  unfold whereL
  rw [mem_filtL]
  refine ⟨hm.1, by omega, List.any_eq_true.2 ⟨l, hl, ?_⟩⟩
  rw [ho, Bool.true_and, decide_eq_true_eq]
  omega
theorem cells_at {c : Channel} (hF : Few c) (h0 : chk c = 0) (hp : 0 < cntS tt c) {k i : Nat} (hk : (k : Int) ≤ c.tides) (hi : i < c.fords.length) : yP c (k : Int) (i : Int) = some ⟨0, whereL c k i⟩ := by
  rw [jba hF, if_pos h0, if_pos (inb_iff.2 (by omega)), if_pos (inb_iff.2 (by omega)), if_neg (by omega), Int.toNat_natCast, Int.toNat_natCast]
theorem fates_ix {c : Channel} {i : Nat} (hi : i < c.fords.length) : ix (fatesL c) (i : Int) = some (fateI c i) := by unfold fatesL; rw [range_ix hi]
end Go.Proofs.Wb

namespace Go.Gx
open Go Go.Fw
def tailA (q : Option Addr) (sz m cap : Nat) : Option Addr := q.map fun a => if cap = m then a else a.add (m * sz)
section
variable {P : Program} {e : EnvL} {w : World} {dst : Option Nat} {ty : TypeId} {pos : String} {after : Array Edge} {g : Option (Nat × Bool)}
theorem jaD {t E : TypeId} {x lo : Operand} {q : Option Addr} {len cap sz : Nat} {k : IntKind} {i : Int} (hu : (underlying t).run P w = .ok (.slice E) w) (hz : (sizeOf E).run P w = .ok sz w)
    (hx : ev e x = some (.slice q len cap)) (hlo : ev e lo = some (.int k i)) (h0 : 0 ≤ i) (h1 : i ≤ len) (hc : len ≤ cap) : Val P e w ⟨dst, .slice t x (some lo) none none, ty, pos, after, g⟩ (.slice (tailA q sz i.toNat cap) (len - i.toNat) (cap - i.toNat)) := fun n ds a he => by
  have key : (Instr.sliceBounds true len cap (some (.int k i)) none none).run P w = .ok (i.toNat, len, cap) w := by
    simp [Instr.sliceBounds, Instr.sliceBound, asIntOf, h0, h1]
  have hres : (Instr.slice t (.slice q len cap) (some (.int k i)) none none).run P w = .ok (.slice (tailA q sz i.toNat cap) (len - i.toNat) (cap - i.toNat)) w := by
    simp only [Instr.slice, Sem.run_bind, hu, Result.andThen_ok, key, hz, Sem.run_pure]
    congr 1
    cases q with
    | none => simp [tailA]
    | some p =>
      by_cases h : cap = i.toNat
      · simp [tailA, h]
      · simp [tailA, h]
  simp [execOp, he.eval hx, he.eval hlo, Instr.sliceAt, hu, hres]
end
end Go.Gx

namespace Go.Proofs.Wb
set_option maxHeartbeats 4000000
set_option maxRecDepth 100000
open Go Go.Fw Go.Gx Go.Sb
open Tryz
set_option linter.unusedVariables false

def Ja (course0 : (List (List Int))) (s1 : Sight) : Option Bool :=
 (ix course0 s1.after).bind fun t8 =>
 (jC t8 s1.cell).bind fun t12 =>
 some (t12 == s1.upright)
theorem Y3 (course0 : (List (List Int))) (s1 : Sight) (qa0 : Option Addr) (na0 ca0 : Nat) (ar0 : List AL) (w : World) (hw : HV w (keys [] []) [] [] [(aB qa0, aO qa0, RwA.enc ar0)] w) (hna0 : course0.length = na0) (hqa0 : AOK na0 qa0) (hla0 : na0 ≤ ca0) (hda0 : DRO course0 ar0) (hTa0 : ∀ t, t ∈ rsg RI course0 ar0 → segOK w t ∧ (t.2.2 ≠ [] → t.1 ∉ keys [] [])) {res : Bool} (hm : Ja course0 s1 = some res) :
    Calls Tryz.prog 152 #[.slice qa0 na0 ca0, .agg #[.int .i64 s1.after, .int .i64 s1.cell, .bool s1.upright]] w (fun en w' => ∃ l : Unit, en = .returned (.bool res) ∧ (True) ∧ HV w (keys [] []) [] [] [] w') := by
  unfold Ja at hm
  refine yk func152 Y ntmps152 Y (e := [(0, _), (1, _)]) Y hw (jr ?_)
  refine jK Y Y (fun b h1 => ?_)
  refine jo Y Y (jq (ji ?_))
  refine kE none (.free 0 (.free 1 (.hoist 2 (.free 3 (.hoist 4 (.free 5 (.hoist 6 (.free 8 (.hoist 9 (.one 7 (.free 10 (.free 11 .done)))))))))))) _ Y (by decide +kernel) (fun w k hh => hh.draw k) (fun w hh => hh) ?_
  refine zb Y Y Y (Kk 0 runUnderlying55 sizeOf3 Y Y Y Y (KW 0 isAgg3 Y Y Y Y Y ?_))
  obtain ⟨t8, h2, hm⟩ := bindO hm
  obtain ⟨A, h3, h4, h5, h6⟩ := (hda0).row h2
  refine jl Y Y Y Y (fun w _ => yX h3 (runUnderlying41 w) (sizeOf22 w) Y Y (Eq.trans (hda0).len.symm hna0) hqa0) (jy Y Y Y Y (fun w hh => k7 RwA 0 h3 (isAgg22 w) Y (hh.seg 0 Y) Y (Nat.add_zero _).symm) (Kk 1 runUnderlying55 sizeOf3 Y Y Y Y (KW 0 isAgg3 Y Y Y Y Y (Kk 2 runUnderlying55 sizeOf4 Y Y Y Y (KW 0 isAgg4 Y Y Y Y Y (jF Y ?_))))))
  obtain ⟨t12, h7, hm⟩ := bindO hm
  refine jd [] [] Y Y Y Y Y Y Y call64 (fun w hh => jY t8 s1.cell A.a A.n A.cap w (HV.callee (S0 := []) (vs0 := []) hh (roC (hh.oldsep (S0 := []) (vs0 := []) (hTa0 _ (rsg_ix h2 h3))) roN)) h4 h5 h6 h7) (fun l h8 => ?_)
  refine jm (fun w hh => hh) (jl Y Y Y Y (fun w _ => jbn (runUnderlying4 w) Y Y) (jl Y Y Y Y (fun _ _ => kl Y) (jS (jb (jx ?_)))))
  obtain rfl := sj hm
  refine jn Y (fun w hh => (.tmp Y .nil)) (fun w hh => ⟨(), rfl, trivial, hh.se [] [] 1 Y Y Y rfl⟩)
def zh (s0 : Sight) (a11 : (List (List Int))) : Option Bool :=
 (Ja a11 s0).bind fun t6 =>
 some (!t6)
theorem Zc (s0 : Sight) (a11 : (List (List Int))) (rb : Nat) (qa1 : Option Addr) (na1 ca1 : Nat) (ar1 : List AL) (w : World) (hw : HV w (keys [] []) [] [] [(rb, 0, [.slice qa1 na1 ca1]), (aB qa1, aO qa1, RwA.enc ar1)] w)  (hna1 : a11.length = na1) (hqa1 : AOK na1 qa1) (hla1 : na1 ≤ ca1) (hda1 : DRO a11 ar1) (hTa1 : ∀ t, t ∈ rsg RI a11 ar1 → segOK w t ∧ (t.2.2 ≠ [] → t.1 ∉ keys [] [])) {res : Bool} (hm : zh s0 a11 = some res) :
    Calls Tryz.prog 151 #[.agg #[.int .i64 s0.after, .int .i64 s0.cell, .bool s0.upright], ptr rb 0] w (fun en w' => ∃ l : Unit, en = .returned (.bool res) ∧ (True) ∧ HV w (keys [] []) [] [] [] w') := by
  unfold zh at hm
  refine yk func151 Y ntmps151 Y (e := [(0, _), (1, _)]) Y hw (jr ?_)
  refine jK Y Y (fun b h1 => ?_)
  refine jo Y Y (kO (jc Y Y Y (fun w hh => jD (isAgg41 w) Y (segCell (hh.seg 0 Y) 0 Y)) (z8 [_, _, _] 0 isAgg55 sizeOf55 Y Y Y Y ?_)))
  obtain ⟨t6, h2, hm⟩ := bindO hm
  refine jd [] [] Y Y Y Y Y Y Y call152 (fun w hh => Y3 a11 s0 qa1 na1 ca1 ar1 w (HV.callee (S0 := []) (vs0 := []) hh (roR hh 1 Y roN)) hna1 hqa1 hla1 hda1 (hh.oldT (S0 := []) (vs0 := []) hTa1) h2) (fun l h3 => ?_)
  refine jc Y Y Y (fun _ _ => yF Y) (jo Y Y (jq (jx ?_)))
  obtain rfl := sj hm
  refine jn Y (fun w hh => (.tmp Y .nil)) (fun w hh => ⟨(), rfl, trivial, hh.se [] [] 2 Y Y Y rfl⟩)
def kW (s0 : (List Sight)) (f1_c0 : (List (List Int))) (s : Int) : Option (Int ⊕ (Unit ⊕ Int)) :=
 if s < (s0.length : Int) then
 ((ix s0 s).bind fun t14 =>
 (zh (⟨t14.after, t14.cell, t14.upright⟩ : Sight) f1_c0).bind fun t16 =>
 if t16 = true then
 (some (.inr (.inr s))) else
 ((addc s 1).bind fun t18 =>
 some (.inl t18))) else
 (some (.inr (.inl ())))
def kp (s0 : (List Sight)) (f1_c0 : (List (List Int))) : Option Int :=
 (iterM FU (kW s0 f1_c0) 0).bind fun o =>
 oc o (fun j => some (-1)) (fun r_1 => some r_1)
theorem JS (s0 : (List Sight)) (f1_c0 : (List (List Int))) (qa0 : Option Addr) (na0 ca0 : Nat) (rb : Nat) (qa2 : Option Addr) (na2 ca2 : Nat) (ar2 : List AL) (w : World) (hw : HV w (keys [] []) [] [] [(aB qa0, aO qa0, RSi.enc s0), (rb, 0, [.slice qa2 na2 ca2]), (aB qa2, aO qa2, RwA.enc ar2)] w) (hna0 : s0.length = na0) (hqa0 : AOK na0 qa0) (hla0 : na0 ≤ ca0)  (hna2 : f1_c0.length = na2) (hqa2 : AOK na2 qa2) (hla2 : na2 ≤ ca2) (hda2 : DRO f1_c0 ar2) (hTa2 : ∀ t, t ∈ rsg RI f1_c0 ar2 → segOK w t ∧ (t.2.2 ≠ [] → t.1 ∉ keys [] [])) {res : Int} (hm : kp s0 f1_c0 = some res) :
    Calls Tryz.prog 183 #[.slice qa0 na0 ca0, .func (.func 151) #[] #[ptr rb 0]] w (fun en w' => ∃ l : Unit, en = .returned (.int .i64 res) ∧ (True) ∧ HV w (keys [] []) [] [] [] w') := by
  unfold kp at hm
  refine yk func183 Y ntmps183 Y (e := [(0, _), (1, _)]) Y hw (jr (jo Y Y (jq (ji (jr (jg Y Y (jc Y Y Y (fun w _ => kw hna0 (runUnderlying24 w) Y) ?_)))))))
  refine jg Y Y (jq ?_)
  obtain ⟨o, h1, h2⟩ := bindO hm
  refine jR (ι := Unit) (fun j => o = .inl j) (fun j => []) (fun j => []) (fun j => []) ?_ ?_
  ·replace hm := h1
   refine jp ?_
   refine jV (ι := Unit) hm (fun s l => True) (fun s l => [(0, .slice qa0 na0 ca0), (1, .func (.func 151) #[] #[ptr rb 0]), (7, .int .i64 (s0.length : Int)), (8, .int .i64 s)]) (fun s l => []) (fun s l => []) () (trivial) (sE Y) (fun w hh => hh) (fun s l r hpl hm h3 => ?_)
   unfold kW at hm
   refine jr (J6 Y Y Y (jq (ji ?_)))
   refine ju Y (fun h4 => ?_) (fun h4 => ?_)
   ·replace hm := ifD h4 hm
    refine jt (jb (ji (jp (jr (jg Y Y (jo Y Y (kO ?_)))))))
    refine jg Y Y (jg Y Y (jg Y Y ?_))
    obtain ⟨t14, h5, hm⟩ := bindO hm
    refine jc Y Y Y (fun w _ => yX h5 (runUnderlying24 w) (sizeOf55 w) Y Y hna0 hqa0) ?_
    refine jc Y Y Y (fun w hh => J5 RSi 0 [.int .i64 t14.after, .int .i64 t14.cell, .bool t14.upright] h5 (isAgg55 w) (sizeOf55 w) Y (hh.seg 0 Y) Y (Nat.add_zero _).symm) ?_
    obtain ⟨t16, h6, hm⟩ := bindO hm
    refine jd [] [] Y Y Y Y Y Y Y call151 (fun w hh => Zc (⟨t14.after, t14.cell, t14.upright⟩ : Sight) f1_c0 rb qa2 na2 ca2 ar2 w (HV.callee (S0 := []) (vs0 := []) hh (roR hh 1 Y (roR hh 2 Y roN))) hna2 hqa2 hla2 hda2 (hh.oldT (S0 := []) (vs0 := []) hTa2) h6) (fun l_1 h7 => ?_)
    refine jq ?_
    refine ju Y (fun h8 => ?_) (fun h8 => ?_)
    ·replace hm := ifT (h8) hm
     refine jr (jg Y Y (jo Y Y (jq (jx (jz (je (je ?_)))))))
     refine jz ?_
     obtain rfl := sj hm
     have hbo := h3 _ Y
     subst hbo
     refine je ?_
     replace hm := ocR h2
     refine je ?_
     obtain rfl := sj hm
     refine jn Y (fun w hh => (.tmp Y .nil)) (fun w hh => ⟨(), rfl, trivial, hh.se [] [] 3 Y Y Y rfl⟩)
    replace hm := ifN h8 hm
    refine jt (jw (jb (jh ?_)))
    obtain ⟨t18, h9, hm⟩ := bindO hm
    refine Ke h9 Y Y Y (jg Y Y (js ?_))
    obtain rfl := sj hm
    refine jb ?_
    exact jG _ () Y (trivial) (sE Y) (fun w hh => hh)
   replace hm := ifE h4 hm
   refine j8 (jk (jk (jI ?_)))
   obtain rfl := sj hm
   have hbo := h3 _ Y
   subst hbo
   exact jj () (Y) (.nil) (fun w hh => hh)
  intro j hj
  have h10 := hj
  subst h10
  replace hm := ocL h2
  refine jb (jr (jo Y Y (jq (jx ?_))))
  obtain rfl := sj hm
  refine jn Y (fun w hh => (.tmp Y .nil)) (fun w hh => ⟨(), rfl, trivial, hh.se [] [] 3 Y Y Y rfl⟩)
def j6 (s0 : (List Sight)) (f1_c0 : (List (List Int))) : Option Bool :=
 (kp s0 f1_c0).bind fun t7 =>
 some (decide (0 ≤ t7))
theorem Ju (s0 : (List Sight)) (f1_c0 : (List (List Int))) (qa0 : Option Addr) (na0 ca0 : Nat) (rb : Nat) (qa2 : Option Addr) (na2 ca2 : Nat) (ar2 : List AL) (w : World) (hw : HV w (keys [] []) [] [] [(aB qa0, aO qa0, RSi.enc s0), (rb, 0, [.slice qa2 na2 ca2]), (aB qa2, aO qa2, RwA.enc ar2)] w) (hna0 : s0.length = na0) (hqa0 : AOK na0 qa0) (hla0 : na0 ≤ ca0)  (hna2 : f1_c0.length = na2) (hqa2 : AOK na2 qa2) (hla2 : na2 ≤ ca2) (hda2 : DRO f1_c0 ar2) (hTa2 : ∀ t, t ∈ rsg RI f1_c0 ar2 → segOK w t ∧ (t.2.2 ≠ [] → t.1 ∉ keys [] [])) {res : Bool} (hm : j6 s0 f1_c0 = some res) :
    Calls Tryz.prog 150 #[.slice qa0 na0 ca0, .func (.func 151) #[] #[ptr rb 0]] w (fun en w' => ∃ l : Unit, en = .returned (.bool res) ∧ (True) ∧ HV w (keys [] []) [] [] [] w') := by
  unfold j6 at hm
  refine yk func150 Y ntmps150 Y (e := [(0, _), (1, _)]) Y hw (jr (jo Y Y (kO (jg Y Y (jg Y Y ?_)))))
  obtain ⟨t7, h1, hm⟩ := bindO hm
  refine jd [] [] Y Y Y Y Y Y Y call183 (fun w hh => JS s0 f1_c0 qa0 na0 ca0 rb qa2 na2 ca2 ar2 w (HV.callee (S0 := []) (vs0 := []) hh (roR hh 0 Y (roR hh 1 Y (roR hh 2 Y roN)))) hna0 hqa0 hla0 hna2 hqa2 hla2 hda2 (hh.oldT (S0 := []) (vs0 := []) hTa2) h1) (fun l h2 => ?_)
  refine jc Y Y Y (fun _ _ => Zf Y Y) (jo Y Y (jq (jx ?_)))
  obtain rfl := sj hm
  refine jn Y (fun w hh => (.tmp Y .nil)) (fun w hh => ⟨(), rfl, trivial, hh.se [] [] 3 Y Y Y rfl⟩)
def qz (c0 : Channel) (course1 : (List (List Int))) : Option Bool :=
 (j6 c0.sights course1).bind fun t8 =>
 some (!t8)
theorem QQ (c0 : Channel) (course1 : (List (List Int))) (qa0 : Option Addr) (na0 ca0 : Nat) (qa1 : Option Addr) (na1 ca1 : Nat) (qa2 : Option Addr) (na2 ca2 : Nat) (qa3 : Option Addr) (na3 ca3 : Nat) (ar3 : List AL) (w : World) (hw : HV w (keys [] []) [] [] [(aB qa0, aO qa0, RI.enc c0.fords), (aB qa1, aO qa1, RSa.enc c0.sands), (aB qa2, aO qa2, RSi.enc c0.sights), (aB qa3, aO qa3, RwA.enc ar3)] w) (hna0 : c0.fords.length = na0) (hqa0 : AOK na0 qa0) (hla0 : na0 ≤ ca0) (hna1 : c0.sands.length = na1) (hqa1 : AOK na1 qa1) (hla1 : na1 ≤ ca1) (hna2 : c0.sights.length = na2) (hqa2 : AOK na2 qa2) (hla2 : na2 ≤ ca2) (hna3 : course1.length = na3) (hqa3 : AOK na3 qa3) (hla3 : na3 ≤ ca3) (hda3 : DRO course1 ar3) (hTa3 : ∀ t, t ∈ rsg RI course1 ar3 → segOK w t ∧ (t.2.2 ≠ [] → t.1 ∉ keys [] [])) {res : Bool} (hm : qz c0 course1 = some res) :
    Calls Tryz.prog 79 #[.agg #[.int .i64 c0.cells, .int .i64 c0.tides, .slice qa0 na0 ca0, .slice qa1 na1 ca1, .slice qa2 na2 ca2], .slice qa3 na3 ca3] w (fun en w' => ∃ l : Unit, en = .returned (.bool res) ∧ (True) ∧ HV w (keys [] []) [] [] [] w') := by
  unfold qz at hm
  refine yk func79 Y ntmps79 Y (e := [(0, _), (1, _)]) Y hw (jr ?_)
  refine jK Y Y (fun b h1 => ?_)
  refine jK Y Y (fun b_1 h2 => ?_)
  refine jo Y Y (kO (yp 4 runUnderlying26 Y sizeOf24 Y Y (qy 1 isAgg24 Y Y Y Y (jc Y Y Y (fun _ _ => jZ (u := #[]) (u' := #[_]) Y Y) ?_))))
  obtain ⟨t8, h3, hm⟩ := bindO hm
  refine jd [] [] Y Y Y Y Y Y Y call150 (fun w hh => Ju c0.sights course1 qa2 na2 ca2 b_1 qa3 na3 ca3 ar3 w (HV.callee (S0 := []) (vs0 := []) hh (roR hh 2 Y (roC (bsep (hh.bseg 0 Y)) (roR hh 3 Y roN)))) hna2 hqa2 hla2 hna3 hqa3 hla3 hda3 (hh.oldT (S0 := []) (vs0 := []) hTa3) h3) (fun l h4 => ?_)
  refine jc Y Y Y (fun _ _ => yF Y) (jo Y Y (jq (jx ?_)))
  obtain rfl := sj hm
  refine jn Y (fun w hh => (.tmp Y .nil)) (fun w hh => ⟨(), rfl, trivial, hh.se [] [] 4 Y Y Y rfl⟩)
structure JV where
  r0 : Int
  r1 : Int
structure qE where
  n4 : Int
  t14 : Int
structure zJ where
  n4 : Int
  t22 : Int
def qF (t19 : (List Int)) (s : qE) (course0 : (List (List Int))) (s_1 : zJ) : Option (zJ ⊕ Int) :=
 if s_1.t22 < (t19.length : Int) then
 ((ix t19 s_1.t22).bind fun t25 =>
 (addc s.t14 1).bind fun t31 =>
 (ix course0 t31).bind fun t32 =>
 (ix t32 s_1.t22).bind fun t35 =>
 (subc t25 t35).bind fun t37 =>
 (addc s.t14 1).bind fun t40 =>
 (ix course0 t40).bind fun t41 =>
 (ix t41 s_1.t22).bind fun t44 =>
 (subc t44 t25).bind fun t47 =>
 (addc s_1.n4 (max t37 t47)).bind fun t49 =>
 (addc s_1.t22 1).bind fun t50 =>
 some (.inl (⟨t49, t50⟩ : zJ))) else
 (some (.inr s_1.n4))
def yz (course0 : (List (List Int))) (s : qE) : Option (qE ⊕ Int) :=
 if s.t14 < ((course0.drop (Int.toNat 1)).length : Int) then
 ((ix course0 s.t14).bind fun t19 =>
 (iterM FU (qF t19 s course0) (⟨s.n4, 0⟩ : zJ)).bind fun o_1 =>
 (addc s.t14 1).bind fun t51 =>
 some (.inl (⟨o_1, t51⟩ : qE))) else
 (some (.inr s.n4))
structure zI where
  out5 : Int
  t56 : Int
def k3 (t53 : (List Int)) (course0 : (List (List Int))) (s_2 : zI) : Option (zI ⊕ Int) :=
 if s_2.t56 < (t53.length : Int) then
 (((ix t53 s_2.t56).bind fun t59 =>
 (subc (course0.length : Int) 1).bind fun t64 =>
 (ix course0 t64).bind fun t65 =>
 (ix t65 s_2.t56).bind fun t68 =>
 if t68 = t59 then
 (some s_2.out5) else
 ((addc s_2.out5 1).bind fun t73 =>
 some t73)).bind fun o_3 =>
 (addc s_2.t56 1).bind fun t74 =>
 some (.inl (⟨o_3, t74⟩ : zI))) else
 (some (.inr s_2.out5))
def qk (course0 : (List (List Int))) : Option JV :=
 if (0 : Int) ≤ 1 ∧ 1 ≤ (course0.length : Int) then ((iterM FU (yz course0) (⟨0, 0⟩ : qE)).bind fun o =>
 (ix course0 0).bind fun t53 =>
 (iterM FU (k3 t53 course0) (⟨0, 0⟩ : zI)).bind fun o_2 =>
 some (⟨o, o_2⟩ : JV)) else none
theorem Qx (course0 : (List (List Int))) (qa0 : Option Addr) (na0 ca0 : Nat) (ar0 : List AL) (w : World) (hw : HV w (keys [] []) [] [] [(aB qa0, aO qa0, RwA.enc ar0)] w) (hna0 : course0.length = na0) (hqa0 : AOK na0 qa0) (hla0 : na0 ≤ ca0) (hda0 : DRO course0 ar0) (hTa0 : ∀ t, t ∈ rsg RI course0 ar0 → segOK w t ∧ (t.2.2 ≠ [] → t.1 ∉ keys [] [])) {res : JV} (hm : qk course0 = some res) :
    Calls Tryz.prog 80 #[.slice qa0 na0 ca0] w (fun en w' => ∃ l : Unit, en = .returned (.tuple #[.int .i64 res.r0, .int .i64 res.r1]) ∧ (True) ∧ HV w (keys [] []) [] [] [] w') := by
  unfold qk at hm
  refine yk func80 Y ntmps80 Y (e := [(0, _)]) Y hw (jr (jo Y Y (jo Y Y (kO (jo Y Y (jo Y Y (jq ?_)))))))
  refine ji (jr (jg Y Y ?_))
  obtain ⟨h1, hm⟩ := ifO hm
  refine jc Y Y Y (fun w _ => jaD (runUnderlying41 w) (sizeOf22 w) Y Y h1.1 (tail_in hna0 h1) hla0) (jc Y Y Y (fun w _ => kw (tail_hn hna0) (runUnderlying41 w) Y) (jg Y Y (jq ?_)))
  obtain ⟨o, h2, h3⟩ := bindO hm
  refine jR (ι := Unit) (fun l => True) (fun l => [(0, .slice qa0 na0 ca0), (4, .int .i64 o), (5, .int .i64 0)]) (fun l => []) (fun l => []) ?_ ?_
  ·replace hm := h2
   refine jp ?_
   refine jV (ι := Unit) hm (fun s l_1 => True) (fun s l_1 => [(0, .slice qa0 na0 ca0), (4, .int .i64 s.n4), (5, .int .i64 0), (13, .int .i64 ((course0.drop (Int.toNat 1)).length : Int)), (14, .int .i64 s.t14)]) (fun s l_1 => []) (fun s l_1 => []) () (trivial) (sE Y) (fun w hh => hh) (fun s l_1 r hpl hm h4 => ?_)
   unfold yz at hm
   refine jr (J6 Y Y Y (jq (ji ?_)))
   refine ju Y (fun h5 => ?_) (fun h5 => ?_)
   ·replace hm := ifD h5 hm
    refine jt (jb (ji (jp (jr (jg Y Y (jo Y Y (kO ?_)))))))
    refine jg Y Y (jg Y Y ?_)
    obtain ⟨t19, h6, hm⟩ := bindO hm
    obtain ⟨A, h7, h8, h9, h10⟩ := (hda0).row h6
    refine jc Y Y Y (fun w _ => yX h7 (runUnderlying41 w) (sizeOf22 w) Y Y (Eq.trans (hda0).len.symm hna0) hqa0) (jc Y Y Y (fun w hh => k7 RwA 0 h7 (isAgg22 w) Y (hh.seg 0 Y) Y (Nat.add_zero _).symm) (jc Y Y Y (fun w _ => kw h8 (runUnderlying22 w) Y) (jg Y Y (jq ?_))))
    obtain ⟨o_1, h11, h12⟩ := bindO hm
    refine jR (ι := Unit) (fun l_2 => True) (fun l_2 => [(0, .slice qa0 na0 ca0), (4, .int .i64 o_1), (5, .int .i64 0), (13, .int .i64 ((course0.drop (Int.toNat 1)).length : Int)), (14, .int .i64 s.t14)]) (fun l_2 => []) (fun l_2 => []) ?_ ?_
    ·replace hm := h11
     refine jp ?_
     refine jV (ι := Unit) hm (fun s_1 l_3 => True) (fun s_1 l_3 => [(0, .slice qa0 na0 ca0), (4, .int .i64 s_1.n4), (5, .int .i64 0), (6, .int .i64 s.t14), (13, .int .i64 ((course0.drop (Int.toNat 1)).length : Int)), (14, .int .i64 s.t14), (20, .slice A.a A.n A.cap), (21, .int .i64 (t19.length : Int)), (22, .int .i64 s_1.t22)]) (fun s_1 l_3 => []) (fun s_1 l_3 => []) () (trivial) (sE Y) (fun w hh => hh) (fun s_1 l_3 r_1 hpl hm h13 => ?_)
     unfold qF at hm
     refine jr (J6 Y Y Y (jq (ji ?_)))
     refine ju Y (fun h14 => ?_) (fun h14 => ?_)
     ·replace hm := ifD h14 hm
      refine jt (jb (ji (jp (jr (jg Y Y ?_)))))
      obtain ⟨t25, h15, hm⟩ := bindO hm
      refine jc Y Y Y (fun w _ => yX h15 (runUnderlying22 w) (sizeOf3 w) Y Y h8 h9) (jc Y Y Y (fun w hh => k7 RI 0 h15 (isAgg3 w) Y (hh.oldseg (hTa0 _ (rsg_ix h6 h7))) Y (Nat.add_zero _).symm) (jo Y Y (jo Y Y (jq ?_))))
      refine kE none (.free 0 (.free 1 (.free 2 (.free 3 (.free 4 (.free 5 (.hoist 6 (.free 7 (.free 8 (.hoist 9 (.free 10 (.free 11 (.free 12 (.free 13 (.free 14 (.hoist 15 (.free 16 (.free 17 (.hoist 18 (.free 19 (.free 20 (.free 21 (.free 22 (.free 23 .done)))))))))))))))))))))))) _ Y (by decide +kernel) (fun w k hh => hh.draw k) (fun w hh => hh) ?_
      refine zb Y Y Y (zb Y Y Y (zb Y Y Y (zb Y Y Y ?_)))
      obtain ⟨t31, h16, hm⟩ := bindO hm
      refine jl Y Y Y Y (fun _ _ => KL h16 Y Y) ?_
      obtain ⟨t32, h17, hm⟩ := bindO hm
      obtain ⟨A_1, h18, h19, h20, h21⟩ := (hda0).row h17
      refine jl Y Y Y Y (fun w _ => yX h18 (runUnderlying41 w) (sizeOf22 w) Y Y (Eq.trans (hda0).len.symm hna0) hqa0) (jy Y Y Y Y (fun w hh => k7 RwA 0 h18 (isAgg22 w) Y (hh.seg 0 Y) Y (Nat.add_zero _).symm) (zb Y Y Y ?_))
      obtain ⟨t35, h22, hm⟩ := bindO hm
      refine jl Y Y Y Y (fun w _ => yX h22 (runUnderlying22 w) (sizeOf3 w) Y Y h19 h20) (jy Y Y Y Y (fun w hh => k7 RI 0 h22 (isAgg3 w) Y (hh.oldseg (hTa0 _ (rsg_ix h17 h18))) Y (Nat.add_zero _).symm) ?_)
      obtain ⟨t37, h23, hm⟩ := bindO hm
      refine jl Y Y Y Y (fun _ _ => zu h23 Y Y) (zb Y Y Y (zb Y Y Y ?_))
      obtain ⟨t40, h24, hm⟩ := bindO hm
      refine jl Y Y Y Y (fun _ _ => KL h24 Y Y) ?_
      obtain ⟨t41, h25, hm⟩ := bindO hm
      obtain ⟨A_2, h26, h27, h28, h29⟩ := (hda0).row h25
      refine jl Y Y Y Y (fun w _ => yX h26 (runUnderlying41 w) (sizeOf22 w) Y Y (Eq.trans (hda0).len.symm hna0) hqa0) (jy Y Y Y Y (fun w hh => k7 RwA 0 h26 (isAgg22 w) Y (hh.seg 0 Y) Y (Nat.add_zero _).symm) (zb Y Y Y ?_))
      obtain ⟨t44, h30, hm⟩ := bindO hm
      refine jl Y Y Y Y (fun w _ => yX h30 (runUnderlying22 w) (sizeOf3 w) Y Y h27 h28) (jy Y Y Y Y (fun w hh => k7 RI 0 h30 (isAgg3 w) Y (hh.oldseg (hTa0 _ (rsg_ix h25 h26))) Y (Nat.add_zero _).symm) (zb Y Y Y ?_))
      obtain ⟨t47, h31, hm⟩ := bindO hm
      refine jl Y Y Y Y (fun _ _ => zu h31 Y Y) (jl Y Y Y Y (fun _ _ => Z2 Y Y) ?_)
      obtain ⟨t49, h32, hm⟩ := bindO hm
      refine jl Y Y Y Y (fun _ _ => KL h32 Y Y) (jl Y Y Y Y (fun _ _ => kl Y) (jS (jw (jb (jh ?_)))))
      obtain ⟨t50, h33, hm⟩ := bindO hm
      refine Ke h33 Y Y Y (jg Y Y (js ?_))
      obtain rfl := sj hm
      refine jb ?_
      exact jG _ () Y (trivial) (sE Y) (fun w hh => hh)
     replace hm := ifE h14 hm
     refine j8 (jk (jk (jI ?_)))
     obtain rfl := sj hm
     have hbo := h13 _ Y
     subst hbo
     exact jj () (trivial) (sE Y) (fun w hh => hh)
    intro l_2 hj
    replace hm := h12
    refine jw (jb (jh ?_))
    obtain ⟨t51, h34, hm⟩ := bindO hm
    refine Ke h34 Y Y Y (jg Y Y (js ?_))
    obtain rfl := sj hm
    refine jb ?_
    exact jG _ () Y (trivial) (sE Y) (fun w hh => hh)
   replace hm := ifE h5 hm
   refine j8 (jk (jk (jI ?_)))
   obtain rfl := sj hm
   have hbo := h4 _ Y
   subst hbo
   exact jj () (trivial) (sE Y) (fun w hh => hh)
  intro l hj
  replace hm := h3
  refine jb (ji (jr (jg Y Y ?_)))
  obtain ⟨t53, h35, hm⟩ := bindO hm
  obtain ⟨A_3, h36, h37, h38, h39⟩ := (hda0).row h35
  refine jc Y Y Y (fun w _ => yX h36 (runUnderlying41 w) (sizeOf22 w) Y Y (Eq.trans (hda0).len.symm hna0) hqa0) (jc Y Y Y (fun w hh => k7 RwA 0 h36 (isAgg22 w) Y (hh.seg 0 Y) Y (Nat.add_zero _).symm) (jc Y Y Y (fun w _ => kw h37 (runUnderlying22 w) Y) (jg Y Y (jq ?_))))
  obtain ⟨o_2, h40, h41⟩ := bindO hm
  refine jR (ι := Unit) (fun l_4 => True) (fun l_4 => [(4, .int .i64 o), (5, .int .i64 o_2)]) (fun l_4 => []) (fun l_4 => []) ?_ ?_
  ·replace hm := h40
   refine jp ?_
   refine jV (ι := Unit) hm (fun s_2 l_5 => True) (fun s_2 l_5 => [(0, .slice qa0 na0 ca0), (4, .int .i64 o), (5, .int .i64 s_2.out5), (54, .slice A_3.a A_3.n A_3.cap), (55, .int .i64 (t53.length : Int)), (56, .int .i64 s_2.t56)]) (fun s_2 l_5 => []) (fun s_2 l_5 => []) () (trivial) (sE Y) (fun w hh => hh) (fun s_2 l_5 r_2 hpl hm h42 => ?_)
   unfold k3 at hm
   refine jr (J6 Y Y Y (jq (ji ?_)))
   refine ju Y (fun h43 => ?_) (fun h43 => ?_)
   ·replace hm := ifD h43 hm
    refine jt (jb (ji ?_))
    obtain ⟨o_3, h44, h45⟩ := bindO hm
    refine jR (ι := Unit) (fun l_6 => True) (fun l_6 => [(0, .slice qa0 na0 ca0), (4, .int .i64 o), (5, .int .i64 o_3), (54, .slice A_3.a A_3.n A_3.cap), (55, .int .i64 (t53.length : Int)), (56, .int .i64 s_2.t56)]) (fun l_6 => []) (fun l_6 => []) ?_ ?_
    ·replace hm := h44
     refine jp (jr (jg Y Y ?_))
     obtain ⟨t59, h46, hm⟩ := bindO hm
     refine jc Y Y Y (fun w _ => yX h46 (runUnderlying22 w) (sizeOf3 w) Y Y h37 h38) (jc Y Y Y (fun w hh => k7 RI 0 h46 (isAgg3 w) Y (hh.oldseg (hTa0 _ (rsg_ix h35 h36))) Y (Nat.add_zero _).symm) (jo Y Y (jo Y Y (kO (jg Y Y (jg Y Y (jc Y Y Y (fun w _ => kw hna0 (runUnderlying41 w) Y) ?_)))))))
     obtain ⟨t64, h47, hm⟩ := bindO hm
     refine jc Y Y Y (fun _ _ => zu h47 Y Y) ?_
     obtain ⟨t65, h48, hm⟩ := bindO hm
     obtain ⟨A_4, h49, h50, h51, h52⟩ := (hda0).row h48
     refine jc Y Y Y (fun w _ => yX h49 (runUnderlying41 w) (sizeOf22 w) Y Y (Eq.trans (hda0).len.symm hna0) hqa0) (jc Y Y Y (fun w hh => k7 RwA 0 h49 (isAgg22 w) Y (hh.seg 0 Y) Y (Nat.add_zero _).symm) (jg Y Y ?_))
     obtain ⟨t68, h53, hm⟩ := bindO hm
     refine jc Y Y Y (fun w _ => yX h53 (runUnderlying22 w) (sizeOf3 w) Y Y h50 h51) (jc Y Y Y (fun w hh => k7 RI 0 h53 (isAgg3 w) Y (hh.oldseg (hTa0 _ (rsg_ix h48 h49))) Y (Nat.add_zero _).symm) (jg Y Y (jc Y Y Y (fun _ _ => Jk Y Y) (jq ?_))))
     refine ju Y (fun h54 => ?_) (fun h54 => ?_)
     ·replace hm := ifF (of_ndec_true h54) hm
      refine jh (jg Y Y ?_)
      obtain ⟨t73, h55, hm⟩ := bindO hm
      refine Ke h55 Y Y Y (jo Y Y (js (jw ?_)))
      obtain rfl := sj hm
      exact jj () (trivial) (sE Y) (fun w hh => hh)
     replace hm := ifT (of_ndec_false h54) hm
     refine jt (jw ?_)
     obtain rfl := sj hm
     exact jj () (trivial) (sE Y) (fun w hh => hh)
    intro l_6 hj
    replace hm := h45
    refine jb (jh ?_)
    obtain ⟨t74, h56, hm⟩ := bindO hm
    refine Ke h56 Y Y Y (jg Y Y (js ?_))
    obtain rfl := sj hm
    refine jb ?_
    exact jG _ () Y (trivial) (sE Y) (fun w hh => hh)
   replace hm := ifE h43 hm
   refine j8 (jk (jk (jI ?_)))
   obtain rfl := sj hm
   have hbo := h42 _ Y
   subst hbo
   exact jj () (trivial) (sE Y) (fun w hh => hh)
  intro l_4 hj
  replace hm := h41
  refine jb (jr (jg Y Y (jg Y Y (jo Y Y (jo Y Y (jq (jx ?_)))))))
  obtain rfl := sj hm
  refine jn Y (fun w hh => (.tmp Y (.tmp Y .nil))) (fun w hh => ⟨(), rfl, trivial, hh.se [] [] 1 Y Y Y rfl⟩)
end Go.Proofs.Wb

namespace Go.Proofs.Wb
set_option maxHeartbeats 4000000
set_option maxRecDepth 100000
open Go Go.Fw Go.Gx Go.Sb
open Tryz
set_option linter.unusedVariables false
structure qR where
  t5_1 : Int
  t5_2 : Int
structure qV where
  t92 : Int
  t5_1 : Int
  t5_2 : Int
structure jA where
  t5_1 : Int
  t5_2 : Int
def kh (t100 : kb) (t42 : jQ) (t48 : jE) (s_1 : Int) (s_2 : Int) : Option (Int ⊕ (Unit ⊕ Bool)) :=
 if s_2 < (t100.r0.length : Int) then
 ((ix t100.r0 s_2).bind fun t144 =>
 (yP (⟨t42.r0.cells, t42.r0.tides, t42.r0.fords, t42.r0.sands, t48.r0⟩ : Channel) s_2 s_1).bind fun t150 =>
 (if t150.r1 = 0 then
 ((ix t144 s_1).bind fun t159 =>
 (jC t150.r0 t159).bind fun t161 =>
 some (!t161)) else
 (some true)).bind fun o_8 =>
 if o_8 = true then
 (some (.inr (.inr false))) else
 ((addc s_2 1).bind fun t164 =>
 some (.inl t164))) else
 (some (.inr (.inl ())))
def jX (t42 : jQ) (t100 : kb) (t48 : jE) (t75 : kX) (s_1 : Int) : Option (Int ⊕ (Unit ⊕ Bool)) :=
 if s_1 < (t42.r0.fords.length : Int) then
 ((iterM FU (kh t100 t42 t48 s_1) 0).bind fun o_7 =>
 oc o_7 (fun j_3 => (ix t100.r0 t42.r0.tides).bind fun t168 =>
 (ix t168 s_1).bind fun t171 =>
 (ix t42.r0.fords s_1).bind fun t176 =>
 (zs (⟨t42.r0.cells, t42.r0.tides, t42.r0.fords, t42.r0.sands, t48.r0⟩ : Channel) s_1).bind fun t182 =>
 (ix t100.r0 t42.r0.tides).bind fun t188 =>
 (ix t188 s_1).bind fun t191 =>
 (ix t42.r0.fords s_1).bind fun t196 =>
 (subc t191 t196).bind fun t198 =>
 (if t182.r1 = 0 then
 (if t198 < t182.r0.lo then
 (some true) else
 (if t182.r0.hi < t198 then
 (some true) else
 ((ix t75.r0 s_1).bind fun t216 =>
 if t216 = 1 then
 (if t171 = t176 then
 ((ix t75.r0 s_1).bind fun t227 =>
 if t227 = 2 then
 (some (decide (t171 = t176))) else
 (some false)) else
 (some true)) else
 ((ix t75.r0 s_1).bind fun t227_1 =>
 if t227_1 = 2 then
 (some (decide (t171 = t176))) else
 (some false))))) else
 (some true)).bind fun o_9 =>
 if o_9 = true then
 (some (.inr (.inr false))) else
 ((addc s_1 1).bind fun t234 =>
 some (.inl t234))) (fun r_3 => some (.inr (.inr r_3)))) else
 (some (.inr (.inl ())))
def Jv (t42 : jQ) (t48 : jE) (s_3 : Int) (s_4 : Int) : Option (Int ⊕ (Unit ⊕ Bool)) :=
 if s_4 < (t42.r1.length : Int) then
 ((ix t42.r1 s_4).bind fun t144_1 =>
 (yP (⟨t42.r0.cells, t42.r0.tides, t42.r0.fords, t42.r0.sands, t48.r0⟩ : Channel) s_4 s_3).bind fun t150_1 =>
 (if t150_1.r1 = 0 then
 ((ix t144_1 s_3).bind fun t159_1 =>
 (jC t150_1.r0 t159_1).bind fun t161_1 =>
 some (!t161_1)) else
 (some true)).bind fun o_14 =>
 if o_14 = true then
 (some (.inr (.inr false))) else
 ((addc s_4 1).bind fun t164_1 =>
 some (.inl t164_1))) else
 (some (.inr (.inl ())))
def zc (t42 : jQ) (t48 : jE) (t75 : kX) (s_3 : Int) : Option (Int ⊕ (Unit ⊕ Bool)) :=
 if s_3 < (t42.r0.fords.length : Int) then
 ((iterM FU (Jv t42 t48 s_3) 0).bind fun o_13 =>
 oc o_13 (fun j_5 => (ix t42.r1 t42.r0.tides).bind fun t168_1 =>
 (ix t168_1 s_3).bind fun t171_1 =>
 (ix t42.r0.fords s_3).bind fun t176_1 =>
 (zs (⟨t42.r0.cells, t42.r0.tides, t42.r0.fords, t42.r0.sands, t48.r0⟩ : Channel) s_3).bind fun t182_1 =>
 (ix t42.r1 t42.r0.tides).bind fun t188_1 =>
 (ix t188_1 s_3).bind fun t191_1 =>
 (ix t42.r0.fords s_3).bind fun t196_1 =>
 (subc t191_1 t196_1).bind fun t198_1 =>
 (if t182_1.r1 = 0 then
 (if t198_1 < t182_1.r0.lo then
 (some true) else
 (if t182_1.r0.hi < t198_1 then
 (some true) else
 ((ix t75.r0 s_3).bind fun t216_1 =>
 if t216_1 = 1 then
 (if t171_1 = t176_1 then
 ((ix t75.r0 s_3).bind fun t227_2 =>
 if t227_2 = 2 then
 (some (decide (t171_1 = t176_1))) else
 (some false)) else
 (some true)) else
 ((ix t75.r0 s_3).bind fun t227_3 =>
 if t227_3 = 2 then
 (some (decide (t171_1 = t176_1))) else
 (some false))))) else
 (some true)).bind fun o_15 =>
 if o_15 = true then
 (some (.inr (.inr false))) else
 ((addc s_3 1).bind fun t234_1 =>
 some (.inl t234_1))) (fun r_7 => some (.inr (.inr r_7)))) else
 (some (.inr (.inl ())))
def kS (tries1 : (List Int)) (t42 : jQ) (t48 : jE) (t70 : yU) (t75 : kX) (s : qV) : Option (qV ⊕ (qR ⊕ Bool)) :=
 if s.t92 < 6 then
 ((if 0 < s.t92 then
 ((k4 tries1 s.t5_1 s.t5_2 (⟨t42.r0.cells, t42.r0.tides, t42.r0.fords, t42.r0.sands, t48.r0⟩ : Channel)).bind fun t100 =>
 (zY (⟨t42.r0.cells, t42.r0.tides, t42.r0.fords, t42.r0.sands, t48.r0⟩ : Channel) t100.r0).bind fun t104 =>
 (if t104.r1 = 0 then
 ((qz (⟨t42.r0.cells, t42.r0.tides, t42.r0.fords, t42.r0.sands, t48.r0⟩ : Channel) t100.r0).bind fun t113 =>
 some (!(t104.r0 == t113))) else
 (some true)).bind fun o_4 =>
 if o_4 = true then
 (some (.inr false)) else
 (if (!t104.r0) = true then
 (some (.inl (⟨t100.b0_1, t100.b0_2⟩ : jA))) else
 ((qk t100.r0).bind fun t120 =>
 (if t120.r1 < t70.r0.lo then
 (some true) else
 (some (decide (t70.r0.hi < t120.r1)))).bind fun o_5 =>
 if o_5 = true then
 (some (.inr false)) else
 ((iterM FU (jX t42 t100 t48 t75) 0).bind fun o_6 =>
 oc o_6 (fun j_2 => some (.inl (⟨t100.b0_1, t100.b0_2⟩ : jA))) (fun r_4 => some (.inr r_4)))))) else
 ((zY (⟨t42.r0.cells, t42.r0.tides, t42.r0.fords, t42.r0.sands, t48.r0⟩ : Channel) t42.r1).bind fun t104_1 =>
 (if t104_1.r1 = 0 then
 ((qz (⟨t42.r0.cells, t42.r0.tides, t42.r0.fords, t42.r0.sands, t48.r0⟩ : Channel) t42.r1).bind fun t113_1 =>
 some (!(t104_1.r0 == t113_1))) else
 (some true)).bind fun o_10 =>
 if o_10 = true then
 (some (.inr false)) else
 (if (!t104_1.r0) = true then
 (some (.inl (⟨s.t5_1, s.t5_2⟩ : jA))) else
 ((qk t42.r1).bind fun t120_1 =>
 (if t120_1.r1 < t70.r0.lo then
 (some true) else
 (some (decide (t70.r0.hi < t120_1.r1)))).bind fun o_11 =>
 if o_11 = true then
 (some (.inr false)) else
 ((iterM FU (zc t42 t48 t75) 0).bind fun o_12 =>
 oc o_12 (fun j_4 => some (.inl (⟨s.t5_1, s.t5_2⟩ : jA))) (fun r_8 => some (.inr r_8))))))).bind fun o_3 =>
 oc o_3 (fun j_1 => (addc s.t92 1).bind fun t235 =>
 some (.inl (⟨t235, j_1.t5_1, j_1.t5_2⟩ : qV))) (fun r_9 => some (.inr (.inr r_9)))) else
 (some (.inr (.inl (⟨s.t5_1, s.t5_2⟩ : qR))))
structure qB where
  wrong31 : Int
  r0 : (List Sight)
structure qW where
  wrong31 : Int
  t239 : Int
  r0 : (List Sight)
structure Jl where
  wrong31 : Int
  r0 : (List Sight)
def kT (t48 : jE) (turned2 : Int) (s_5 : qW) : Option (qW ⊕ qB) :=
 if s_5.t239 < (t48.r0.length : Int) then
 ((if (0 : Int) ≤ s_5.t239 then (if (IntKind.u8.wrap (BitVec.ofInt IntKind.u8.bits (Int.fdiv turned2 (2 ^ min (Int.toNat s_5.t239) IntKind.u8.bits)) &&& BitVec.ofInt IntKind.u8.bits 1).toNat) = 1 then
 ((ix s_5.r0 s_5.t239).bind fun t253 =>
 (ix s_5.r0 s_5.t239).bind fun t257 =>
 (some (s_5.r0.set (Int.toNat s_5.t239) (⟨t257.after, t257.cell, (!t253.upright)⟩ : Sight))).bind fun r0 =>
 (addc s_5.wrong31 1).bind fun t260 =>
 some (⟨t260, r0⟩ : Jl)) else
 (some (⟨s_5.wrong31, s_5.r0⟩ : Jl))) else none).bind fun o_17 =>
 (addc s_5.t239 1).bind fun t261 =>
 some (.inl (⟨o_17.wrong31, t261, o_17.r0⟩ : qW))) else
 (some (.inr (⟨s_5.wrong31, s_5.r0⟩ : qB)))
structure qT where
  t295 : Int
  rest35 : (List Int)
def kk (o_16 : qB) (t264 : qU) (s_6 : qT) : Option (qT ⊕ (List Int)) :=
 if s_6.t295 < (o_16.r0.length : Int) then
 (((jC t264.r0 s_6.t295).bind fun t300 =>
 if (!t300) = true then
 ((appc 8 s_6.rest35 [s_6.t295]).bind fun t305 =>
 some t305) else
 (some s_6.rest35)).bind fun o_20 =>
 (addc s_6.t295 1).bind fun t306 =>
 some (.inl (⟨t306, o_20⟩ : qT))) else
 (some (.inr s_6.rest35))
def yv (numbers0 : (List Int)) (tries1 : (List Int)) (turned2 : Int) : Option Bool :=
 (Zq numbers0).bind fun t39 =>
 (yi numbers0 t39.t5_1 t39.t5_2 9 3 4).bind fun t42 =>
 (yj numbers0 t42.b0_1 t42.b0_2 t42.r0 t42.r1 5).bind fun t48 =>
 (yQ (⟨t42.r0.cells, t42.r0.tides, t42.r0.fords, t42.r0.sands, t48.r0⟩ : Channel)).bind fun t52 =>
 ((zw (⟨t42.r0.cells, t42.r0.tides, t42.r0.fords, t42.r0.sands, t48.r0⟩ : Channel)).bind fun t56 =>
 if t56 = 0 then
 (if t52.r1 = 0 then
 (some (decide (t52.r0 < 1))) else
 (some true)) else
 (some true)).bind fun o =>
 if o = true then
 (some false) else
 ((Zq tries1).bind fun t67 =>
 (KT (⟨t42.r0.cells, t42.r0.tides, t42.r0.fords, t42.r0.sands, t48.r0⟩ : Channel)).bind fun t70 =>
 (JD (⟨t42.r0.cells, t42.r0.tides, t42.r0.fords, t42.r0.sands, t48.r0⟩ : Channel)).bind fun t75 =>
 (if t70.r1 = 0 then
 (if t75.r1 = 0 then
 (some (!decide ((t75.r0.length : Int) = (t42.r0.fords.length : Int)))) else
 (some true)) else
 (some true)).bind fun o_1 =>
 if o_1 = true then
 (some false) else
 ((iterM FU (kS tries1 t42 t48 t70 t75) (⟨0, t67.t5_1, t67.t5_2⟩ : qV)).bind fun o_2 =>
 oc o_2 (fun j => (iterM FU (kT t48 turned2) (⟨0, 0, t48.r0⟩ : qW)).bind fun o_16 =>
 (JA (⟨t42.r0.cells, t42.r0.tides, t42.r0.fords, t42.r0.sands, o_16.r0⟩ : Channel)).bind fun t264 =>
 (yQ (⟨t42.r0.cells, t42.r0.tides, t42.r0.fords, t42.r0.sands, o_16.r0⟩ : Channel)).bind fun t269 =>
 (if t264.r1 = 0 then
 (if t269.r1 = 0 then
 (if o_16.wrong31 < (t264.r0.length : Int) then
 (some true) else
 (some (!((decide ((t264.r0.length : Int) = 0)) == (decide (0 < t269.r0)))))) else
 (some true)) else
 (some true)).bind fun o_18 =>
 if o_18 = true then
 (some false) else
 ((iterM FU (kk o_16 t264) (⟨0, []⟩ : qT)).bind fun o_19 =>
 (Jz (⟨t42.r0.cells, t42.r0.tides, t42.r0.fords, t42.r0.sands, o_16.r0⟩ : Channel) o_19).bind fun t310 =>
 (if t310.r1 = 0 then
 (if t310.r0 = true then
 ((subc (o_16.r0.length : Int) (t264.r0.length : Int)).bind fun t326 =>
 if (o_19.length : Int) = t326 then
 ((Jp).bind fun t330 =>
 some t330) else
 (some false)) else
 (some false)) else
 (some false)).bind fun o_21 =>
 some o_21)) (fun r_12 => some r_12)))
theorem QJ (numbers0 : (List Int)) (tries1 : (List Int)) (turned2 : Int) (qa0 : Option Addr) (na0 ca0 : Nat) (qa1 : Option Addr) (na1 ca1 : Nat) (w : World) (hw : HV w (keys [] []) [] [] [(aB qa0, aO qa0, RU8.enc numbers0), (aB qa1, aO qa1, RU8.enc tries1)] w) (hna0 : numbers0.length = na0) (hqa0 : AOK na0 qa0) (hla0 : na0 ≤ ca0) (hna1 : tries1.length = na1) (hqa1 : AOK na1 qa1) (hla1 : na1 ≤ ca1) {res : Bool} (hm : yv numbers0 tries1 turned2 = some res) :
    Calls Tryz.prog 15 #[.slice qa0 na0 ca0, .slice qa1 na1 ca1, .int .u8 turned2] w (fun en w' => ∃ l : Unit, en = .returned (.bool res) ∧ (True) ∧ HV w (keys [] []) [] [] [] w') := by
  unfold yv at hm
  refine yk func15 Y ntmps15 Y (e := [(0, _), (1, _), (2, _)]) Y hw (jr (jo Y Y (kO (jg Y Y ?_))))
  obtain ⟨t39, h1, hm⟩ := bindO hm
  refine jd [] [] Y Y Y Y Y Y Y call62 (fun w hh => jaX numbers0 qa0 na0 ca0 w (HV.callee (S0 := []) (vs0 := []) hh (roR hh 0 Y roN)) hna0 hqa0 hla0 h1) (fun l h2 => ?_)
  refine kQ (S' := [_]) (vs' := []) [0] [] 0 Y Y Y Y (jo Y Y (kO (jg Y Y ?_)))
  obtain ⟨t42, h3, hm⟩ := bindO hm
  refine jd [_] [] Y Y Y Y Y Y Y call61 (fun w hh => Y8 numbers0 t39.t5_1 t39.t5_2 9 3 4 l qa0 na0 ca0 w (HV.callee (S0 := [_]) (vs0 := []) hh (roR hh 0 Y roN)) hna0 hqa0 hla0 h3) (fun l_1 h4 => ?_)
  obtain ⟨h5, h6, h7, h8, h9⟩ := h4
  refine kQ (S' := [_]) (vs' := [_, _, _, _]) [0] [0, 1, 2, 3] 0 Y Y Y Y (jg Y Y (yW Y Y Y (yW Y Y Y ?_)))
  refine jv (fun w => zeroValue26 w) Y (fun b h10 => ?_)
  refine j3 (us := #[_, _, _, _, _]) (cs' := [_, _, _, _, _]) (S' := [_, _]) 0 (fun w => sizeOf26 w) Y Y Y Y Y Y Y (jo Y Y (kO (jg Y Y (z8 [_, _, _, _, _] 0 isAgg26 sizeOf26 Y Y Y Y (jg Y Y ?_)))))
  obtain ⟨t48, h11, hm⟩ := bindO hm
  refine kQ (S' := [_, _]) (vs' := [_, _, _, _]) [1, 0] [0, 1, 2, 3] 0 Y Y Y Y ?_
  refine jd [_] [] Y Y Y Y Y Y Y call67 (fun w hh => Y6 numbers0 t42.b0_1 t42.b0_2 t42.r0 t42.r1 5 l qa0 na0 ca0 (qA l_1.1.q) l_1.1.n l_1.1.cap (qA l_1.2.1.q) l_1.2.1.n l_1.2.1.cap (qA l_1.2.2.1.q) l_1.2.2.1.n l_1.2.2.1.cap (qA l_1.2.2.2.v.q) l_1.2.2.2.v.n l_1.2.2.2.v.cap (toAL l_1.2.2.2.rs) w (HV.callee (S0 := [_]) (vs0 := []) hh (roR hh 0 Y (roC (hh.vsepA 0 Y h5) (roC (hh.vsepA 1 Y h6) (roC (hh.vsepA 2 Y h7) (roC (hh.vsepD 3 Y h8) roN)))))) hna0 hqa0 hla0 (vlen RI h5 Y) (AOK.q (vne h5)) (h5).hle (vlen RSa h6 Y) (AOK.q (vne h6)) (h6).hle (vlen RSi h7 Y) (AOK.q (vne h7)) (h7).hle (Eq.trans (h9).len (vlen RwH h8 Y)) (AOK.q (vne h8)) (h8).hle ((h9).toDRO Y) (hh.dsepT 3 Y h9) h11) (fun l_2 h12 => ?_)
  have h13 := h12
  refine kQ (S' := [_, _]) (vs' := [_, _, _, _, _]) [0, 1] [0, 1, 2, 3, 4] 0 Y Y Y Y (yp 4 runUnderlying26 Y sizeOf24 Y Y (yn (cs' := #[_, _, _, _, _]) (S' := [_, _]) 1 (fun w => sizeOf24 w) Y Y Y Y Y Y Y (kO (z8 [_, _, _, _, _] 1 isAgg26 sizeOf26 Y Y Y Y ?_))))
  obtain ⟨t52, h14, hm⟩ := bindO hm
  refine jd [] [] Y Y Y Y Y Y Y call26 (fun w hh => K9 (⟨t42.r0.cells, t42.r0.tides, t42.r0.fords, t42.r0.sands, t48.r0⟩ : Channel) (qA l_1.1.q) l_1.1.n l_1.1.cap (qA l_1.2.1.q) l_1.2.1.n l_1.2.1.cap (qA l_2.q) l_2.n l_2.cap w (HV.callee (S0 := []) (vs0 := []) hh (roC (hh.vsepA 1 Y h5) (roC (hh.vsepA 2 Y h6) (roC (hh.vsepA 0 Y h13) roN)))) (vlen RI h5 Y) (AOK.q (vne h5)) (h5).hle (vlen RSa h6 Y) (AOK.q (vne h6)) (h6).hle (vlen RSi h13 Y) (AOK.q (vne h13)) (h13).hle h14) (fun l_3 h15 => ?_)
  refine jg Y Y (yW Y Y Y (yW Y Y Y (jo Y Y (jo Y Y (jq (ji (ji ?_)))))))
  obtain ⟨o, h16, h17⟩ := bindO hm
  refine jR (ι := Unit) (fun l_4 => True) (fun l_4 => [(1, .slice qa1 na1 ca1), (2, .int .u8 turned2), (8, ptr b 0), (9, sL l_1.2.2.2.v), (65, .bool o)]) (fun l_4 => [kc l #[.slice qa0 na0 ca0, .int .i64 t48.b0_1, .int .u32 t48.b0_2] 199, kc b #[.int .i64 t42.r0.cells, .int .i64 t42.r0.tides, sL l_1.1, sL l_1.2.1, sL l_2] 26]) (fun l_4 => [⟨22, RwH.enc l_1.2.2.2.rs, l_1.2.2.2.v.sp, l_1.2.2.2.v.q, dbl 3 RI t42.r1 l_1.2.2.2.rs⟩, vL 3 l_1.1 (RI.enc t42.r0.fords), vL 98 l_1.2.1 (RSa.enc t42.r0.sands), vL 55 l_2 (RSi.enc t48.r0)]) ?_ ?_
  ·replace hm := h16
   refine jh (z8 [_, _, _, _, _] 1 isAgg26 sizeOf26 Y Y Y Y ?_)
   obtain ⟨t56, h18, hm⟩ := bindO hm
   refine jd [] [] Y Y Y Y Y Y Y call55 (fun w hh => K8 (⟨t42.r0.cells, t42.r0.tides, t42.r0.fords, t42.r0.sands, t48.r0⟩ : Channel) (qA l_1.1.q) l_1.1.n l_1.1.cap (qA l_1.2.1.q) l_1.2.1.n l_1.2.1.cap (qA l_2.q) l_2.n l_2.cap w (HV.callee (S0 := []) (vs0 := []) hh (roC (hh.vsepA 1 Y h5) (roC (hh.vsepA 2 Y h6) (roC (hh.vsepA 0 Y h13) roN)))) (vlen RI h5 Y) (AOK.q (vne h5)) (h5).hle (vlen RSa h6 Y) (AOK.q (vne h6)) (h6).hle (vlen RSi h13 Y) (AOK.q (vne h13)) (h13).hle h18) (fun l_5 h19 => ?_)
   refine jc Y Y Y (fun _ _ => Jk Y Y) (jg Y Y ?_)
   refine jH 58 Y (fun h20 => ?_) (fun h20 => ?_)
   ·replace hm := ifF (of_ndec_true h20) hm
    refine g_k Y Y Y Y (g_k Y Y Y Y (qY Y Y Y (jg Y Y (g_k Y Y Y Y (g_k Y Y Y Y (qY Y Y Y (js ?_)))))))
    obtain rfl := sj hm
    exact jj () (trivial) (sE Y) (hsE [0, 1] [4, 1, 2, 0] 0 Y Y Y Y)
   replace hm := ifT (of_ndec_false h20) hm
   refine ja Y Y (jg Y Y (ja Y Y (jc Y Y Y (fun _ _ => Jk Y Y) (q6 Y Y Y (jg Y Y ?_)))))
   refine jH 62 Y (fun h21 => ?_) (fun h21 => ?_)
   ·replace hm := ifF (of_ndec_true h21) hm
    refine g_k Y Y Y Y (g_k Y Y Y Y (qY Y Y Y (js ?_)))
    obtain rfl := sj hm
    exact jj () (trivial) (sE Y) (hsE [0, 1] [4, 1, 2, 0] 0 Y Y Y Y)
   replace hm := ifT (of_ndec_false h21) hm
   refine ja Y Y (jg Y Y (ja Y Y (J6 Y Y Y (q6 Y Y Y (js ?_)))))
   obtain rfl := sj hm
   exact jj () (trivial) (sE Y) (hsE [0, 1] [4, 1, 2, 0] 0 Y Y Y Y)
  intro l_4 hj
  replace hm := h17
  refine jb ?_
  refine ju Y (fun h22 => ?_) (fun h22 => ?_)
  ·replace hm := ifT (h22) hm
   refine jr (jo Y Y (jq (jx (je ?_))))
   obtain rfl := sj hm
   refine jn Y (fun w hh => (.tmp Y .nil)) (fun w hh => ⟨(), rfl, trivial, hh.se [] [] 2 Y Y Y rfl⟩)
  replace hm := ifN h22 hm
  refine jt (jb (jr (jg Y Y ?_)))
  obtain ⟨t67, h23, hm⟩ := bindO hm
  refine jd [] [] Y Y Y Y Y Y Y call62 (fun w hh => jaX tries1 qa1 na1 ca1 w (HV.callee (S0 := []) (vs0 := []) hh (roR hh 1 Y roN)) hna1 hqa1 hla1 h23) (fun l_6 h24 => ?_)
  refine kQ (S' := [_, _, _]) (vs' := [_, _, _, _]) [0, 1, 2] [0, 1, 2, 3] 0 Y Y Y Y (jo Y Y (kO (z8 [_, _, _, _, _] 2 isAgg26 sizeOf26 Y Y Y Y ?_)))
  obtain ⟨t70, h25, hm⟩ := bindO hm
  refine jd [] [] Y Y Y Y Y Y Y call38 (fun w hh => jao (⟨t42.r0.cells, t42.r0.tides, t42.r0.fords, t42.r0.sands, t48.r0⟩ : Channel) (qA l_1.1.q) l_1.1.n l_1.1.cap (qA l_1.2.1.q) l_1.2.1.n l_1.2.1.cap (qA l_2.q) l_2.n l_2.cap w (HV.callee (S0 := []) (vs0 := []) hh (roC (hh.vsepA 1 Y h5) (roC (hh.vsepA 2 Y h6) (roC (hh.vsepA 3 Y h13) roN)))) (vlen RI h5 Y) (AOK.q (vne h5)) (h5).hle (vlen RSa h6 Y) (AOK.q (vne h6)) (h6).hle (vlen RSi h13 Y) (AOK.q (vne h13)) (h13).hle h25) (fun l_7 h26 => ?_)
  refine jg Y Y (yW Y Y Y (yW Y Y Y ?_))
  refine jv (fun w => zeroValue50 w) Y (fun b_1 h27 => ?_)
  refine j3 (us := #[_, _]) (cs' := [_, _]) (S' := [_, _, _, _]) 0 (fun w => sizeOf50 w) Y Y Y Y Y Y Y (jo Y Y (kO (z8 [_, _, _, _, _] 3 isAgg26 sizeOf26 Y Y Y Y ?_)))
  obtain ⟨t75, h28, hm⟩ := bindO hm
  refine jd [] [] Y Y Y Y Y Y Y call36 (fun w hh => Zg (⟨t42.r0.cells, t42.r0.tides, t42.r0.fords, t42.r0.sands, t48.r0⟩ : Channel) (qA l_1.1.q) l_1.1.n l_1.1.cap (qA l_1.2.1.q) l_1.2.1.n l_1.2.1.cap (qA l_2.q) l_2.n l_2.cap w (HV.callee (S0 := []) (vs0 := []) hh (roC (hh.vsepA 1 Y h5) (roC (hh.vsepA 2 Y h6) (roC (hh.vsepA 3 Y h13) roN)))) (vlen RI h5 Y) (AOK.q (vne h5)) (h5).hle (vlen RSa h6 Y) (AOK.q (vne h6)) (h6).hle (vlen RSi h13 Y) (AOK.q (vne h13)) (h13).hle h28) (fun l_8 h29 => ?_)
  have h30 := h29
  refine kQ (S' := [_, _, _, _]) (vs' := [_, _, _, _, _]) [0, 1, 2, 3] [0, 1, 2, 3, 4] 0 Y Y Y Y (jg Y Y (yW Y Y Y (yW Y Y Y (jo Y Y (jo Y Y (jq (ji ?_)))))))
  refine ji ?_
  obtain ⟨o_1, h31, h32⟩ := bindO hm
  refine jR (ι := Unit) (fun l_9 => True) (fun l_9 => [(2, .int .u8 turned2), (8, ptr b 0), (9, sL l_1.2.2.2.v), (12, ptr l_6 0), (13, ptr b_1 0), (14, sL l_8), (91, .bool o_1)]) (fun l_9 => [kc b_1 #[.int .i64 t70.r0.lo, .int .i64 t70.r0.hi] 50, kc l_6 #[.slice qa1 na1 ca1, .int .i64 t67.t5_1, .int .u32 t67.t5_2] 199, kc l #[.slice qa0 na0 ca0, .int .i64 t48.b0_1, .int .u32 t48.b0_2] 199, kc b #[.int .i64 t42.r0.cells, .int .i64 t42.r0.tides, sL l_1.1, sL l_1.2.1, sL l_2] 26]) (fun l_9 => [⟨22, RwH.enc l_1.2.2.2.rs, l_1.2.2.2.v.sp, l_1.2.2.2.v.q, dbl 3 RI t42.r1 l_1.2.2.2.rs⟩, vL 66 l_8 (RI.enc t75.r0), vL 3 l_1.1 (RI.enc t42.r0.fords), vL 98 l_1.2.1 (RSa.enc t42.r0.sands), vL 55 l_2 (RSi.enc t48.r0)]) ?_ ?_
  ·replace hm := h31
   refine jh (jg Y Y (jc Y Y Y (fun _ _ => Jk Y Y) (jg Y Y ?_)))
   refine jH 80 Y (fun h33 => ?_) (fun h33 => ?_)
   ·replace hm := ifF (of_ndec_true h33) hm
    refine g_k Y Y Y Y (g_k Y Y Y Y (qY Y Y Y (jg Y Y (g_k Y Y Y Y (g_k Y Y Y Y (g_k Y Y Y Y (g_k Y Y Y Y ?_)))))))
    refine g_k Y Y Y Y (g_k Y Y Y Y (qY Y Y Y (js ?_)))
    obtain rfl := sj hm
    exact jj () (trivial) (sE Y) (hsE [0, 1, 2, 3] [1, 0, 2, 3, 4] 0 Y Y Y Y)
   replace hm := ifT (of_ndec_false h33) hm
   refine ja Y Y (jg Y Y (ja Y Y (jc Y Y Y (fun _ _ => Jk Y Y) (q6 Y Y Y (jg Y Y ?_)))))
   refine jH 84 Y (fun h34 => ?_) (fun h34 => ?_)
   ·replace hm := ifF (of_ndec_true h34) hm
    refine g_k Y Y Y Y (g_k Y Y Y Y (g_k Y Y Y Y (g_k Y Y Y Y (g_k Y Y Y Y (g_k Y Y Y Y (qY Y Y Y (js ?_)))))))
    obtain rfl := sj hm
    exact jj () (trivial) (sE Y) (hsE [0, 1, 2, 3] [1, 0, 2, 3, 4] 0 Y Y Y Y)
   replace hm := ifT (of_ndec_false h34) hm
   refine ja Y Y (jg Y Y (ja Y Y (jc Y Y Y (fun w _ => Jh (vlen RI h30 Y) (runUnderlying58 w) Y) (ja Y Y (yp 2 runUnderlying26 Y sizeOf22 Y Y (ja Y Y (qy 3 isAgg22 Y Y Y Y ?_)))))))
   refine ja Y Y (jc Y Y Y (fun w _ => Jh (vlen RI h5 Y) (runUnderlying22 w) Y) (ja Y Y (jc Y Y Y (fun _ _ => Jk Y Y) (q6 Y Y Y (js ?_)))))
   obtain rfl := sj hm
   exact jj () (trivial) (sE Y) (hsE [0, 1, 2, 3] [1, 0, 2, 3, 4] 0 Y Y Y Y)
  intro l_9 hj
  replace hm := h32
  refine jb ?_
  refine ju Y (fun h35 => ?_) (fun h35 => ?_)
  ·replace hm := ifT (h35) hm
   refine jr (jo Y Y (jq (jx (je ?_))))
   obtain rfl := sj hm
   refine jn Y (fun w hh => (.tmp Y .nil)) (fun w hh => ⟨(), rfl, trivial, hh.se [] [] 2 Y Y Y rfl⟩)
  replace hm := ifN h35 hm
  refine jt (jb (ji (jr (jg Y Y (jq ?_)))))
  obtain ⟨o_2, h36, h37⟩ := bindO hm
  refine jR (ι := qR) (fun j => o_2 = .inl j) (fun j => [(2, .int .u8 turned2), (8, ptr b 0)]) (fun j => [kc b_1 #[.int .i64 t70.r0.lo, .int .i64 t70.r0.hi] 50, kc l_6 #[.slice qa1 na1 ca1, .int .i64 j.t5_1, .int .u32 j.t5_2] 199, kc l #[.slice qa0 na0 ca0, .int .i64 t48.b0_1, .int .u32 t48.b0_2] 199, kc b #[.int .i64 t42.r0.cells, .int .i64 t42.r0.tides, sL l_1.1, sL l_1.2.1, sL l_2] 26]) (fun j => [vL 3 l_1.1 (RI.enc t42.r0.fords), vL 98 l_1.2.1 (RSa.enc t42.r0.sands), vL 55 l_2 (RSi.enc t48.r0)]) ?_ ?_
  ·replace hm := h36
   refine jp ?_
   refine jV (ι := Unit) hm (fun s l_10 => True) (fun s l_10 => [(2, .int .u8 turned2), (8, ptr b 0), (9, sL l_1.2.2.2.v), (12, ptr l_6 0), (13, ptr b_1 0), (14, sL l_8), (92, .int .i64 s.t92)]) (fun s l_10 => [kc b_1 #[.int .i64 t70.r0.lo, .int .i64 t70.r0.hi] 50, kc l_6 #[.slice qa1 na1 ca1, .int .i64 s.t5_1, .int .u32 s.t5_2] 199, kc l #[.slice qa0 na0 ca0, .int .i64 t48.b0_1, .int .u32 t48.b0_2] 199, kc b #[.int .i64 t42.r0.cells, .int .i64 t42.r0.tides, sL l_1.1, sL l_1.2.1, sL l_2] 26]) (fun s l_10 => [⟨22, RwH.enc l_1.2.2.2.rs, l_1.2.2.2.v.sp, l_1.2.2.2.v.q, dbl 3 RI t42.r1 l_1.2.2.2.rs⟩, vL 66 l_8 (RI.enc t75.r0), vL 3 l_1.1 (RI.enc t42.r0.fords), vL 98 l_1.2.1 (RSa.enc t42.r0.sands), vL 55 l_2 (RSi.enc t48.r0)]) () (trivial) (sE Y) (fun w hh => hh) (fun s l_10 r hpl hm h38 => ?_)
   unfold kS at hm
   refine jr (J6 Y Y Y (jq (ji ?_)))
   refine ju Y (fun h39 => ?_) (fun h39 => ?_)
   ·replace hm := ifD h39 hm
    refine jt (jb (ji ?_))
    obtain ⟨o_3, h40, h41⟩ := bindO hm
    refine jR (ι := jA) (fun j_1 => o_3 = .inl j_1) (fun j_1 => [(2, .int .u8 turned2), (8, ptr b 0), (9, sL l_1.2.2.2.v), (12, ptr l_6 0), (13, ptr b_1 0), (14, sL l_8), (92, .int .i64 s.t92)]) (fun j_1 => [kc b_1 #[.int .i64 t70.r0.lo, .int .i64 t70.r0.hi] 50, kc l_6 #[.slice qa1 na1 ca1, .int .i64 j_1.t5_1, .int .u32 j_1.t5_2] 199, kc l #[.slice qa0 na0 ca0, .int .i64 t48.b0_1, .int .u32 t48.b0_2] 199, kc b #[.int .i64 t42.r0.cells, .int .i64 t42.r0.tides, sL l_1.1, sL l_1.2.1, sL l_2] 26]) (fun j_1 => [⟨22, RwH.enc l_1.2.2.2.rs, l_1.2.2.2.v.sp, l_1.2.2.2.v.q, dbl 3 RI t42.r1 l_1.2.2.2.rs⟩, vL 66 l_8 (RI.enc t75.r0), vL 3 l_1.1 (RI.enc t42.r0.fords), vL 98 l_1.2.1 (RSa.enc t42.r0.sands), vL 55 l_2 (RSi.enc t48.r0)]) ?_ ?_
    ·replace hm := h40
     refine jp (jr (jg Y Y (jo Y Y (kO (jg Y Y (jo Y Y (jq ?_)))))))
     refine ji (jr (jg Y Y (jc Y Y Y (fun _ _ => Y4 Y Y) (jq ?_))))
     refine ju Y (fun h42 => ?_) (fun h42 => ?_)
     ·replace hm := ifD h42 hm
      refine jh (jg Y Y (z8 [_, _, _, _, _] 3 isAgg26 sizeOf26 Y Y Y Y ?_))
      obtain ⟨t100, h43, hm⟩ := bindO hm
      refine kQ (S' := [_, _, _, _]) (vs' := [_, _, _, _, _]) [1, 0, 2, 3] [0, 1, 2, 3, 4] 0 Y Y Y Y ?_
      refine jd [_] [] Y Y Y Y Y Y Y call78 (fun w hh => KX tries1 s.t5_1 s.t5_2 (⟨t42.r0.cells, t42.r0.tides, t42.r0.fords, t42.r0.sands, t48.r0⟩ : Channel) l_6 qa1 na1 ca1 (qA l_1.1.q) l_1.1.n l_1.1.cap (qA l_1.2.1.q) l_1.2.1.n l_1.2.1.cap (qA l_2.q) l_2.n l_2.cap w (HV.callee (S0 := [_]) (vs0 := []) hh (roR hh 1 Y (roC (hh.vsepA 2 Y h5) (roC (hh.vsepA 3 Y h6) (roC (hh.vsepA 4 Y h13) roN))))) hna1 hqa1 hla1 (vlen RI h5 Y) (AOK.q (vne h5)) (h5).hle (vlen RSa h6 Y) (AOK.q (vne h6)) (h6).hle (vlen RSi h13 Y) (AOK.q (vne h13)) (h13).hle h43) (fun l_11 h44 => ?_)
      obtain ⟨h45, h46⟩ := h44
      refine kQ (S' := [_, _, _, _]) (vs' := [_, _, _, _, _, _]) [0, 1, 2, 3] [0, 1, 2, 3, 4, 5] 0 Y Y Y Y (jo Y Y (kO (z8 [_, _, _, _, _] 3 isAgg26 sizeOf26 Y Y Y Y (jg Y Y ?_))))
      obtain ⟨t104, h47, hm⟩ := bindO hm
      refine jd [] [] Y Y Y Y Y Y Y call56 (fun w hh => Zr (⟨t42.r0.cells, t42.r0.tides, t42.r0.fords, t42.r0.sands, t48.r0⟩ : Channel) t100.r0 (qA l_1.1.q) l_1.1.n l_1.1.cap (qA l_1.2.1.q) l_1.2.1.n l_1.2.1.cap (qA l_2.q) l_2.n l_2.cap (qA l_11.v.q) l_11.v.n l_11.v.cap (toAL l_11.rs) w (HV.callee (S0 := []) (vs0 := []) hh (roC (hh.vsepA 3 Y h5) (roC (hh.vsepA 4 Y h6) (roC (hh.vsepA 5 Y h13) (roC (hh.vsepD 0 Y h45) roN))))) (vlen RI h5 Y) (AOK.q (vne h5)) (h5).hle (vlen RSa h6 Y) (AOK.q (vne h6)) (h6).hle (vlen RSi h13 Y) (AOK.q (vne h13)) (h13).hle (Eq.trans (h46).len (vlen RwH h45 Y)) (AOK.q (vne h45)) (h45).hle ((h46).toDRO Y) (hh.dsepT 0 Y h46) h47) (fun l_12 h48 => ?_)
      refine jg Y Y (yW Y Y Y (yW Y Y Y (jo Y Y (jo Y Y (jq (ji (ji ?_)))))))
      obtain ⟨o_4, h49, h50⟩ := bindO hm
      refine jR (ι := Unit) (fun l_13 => True) (fun l_13 => [(2, .int .u8 turned2), (8, ptr b 0), (9, sL l_1.2.2.2.v), (12, ptr l_6 0), (13, ptr b_1 0), (14, sL l_8), (17, sL l_11.v), (18, .bool t104.r0), (92, .int .i64 s.t92), (115, .bool o_4)]) (fun l_13 => [kc l_6 #[.slice qa1 na1 ca1, .int .i64 t100.b0_1, .int .u32 t100.b0_2] 199, kc b_1 #[.int .i64 t70.r0.lo, .int .i64 t70.r0.hi] 50, kc l #[.slice qa0 na0 ca0, .int .i64 t48.b0_1, .int .u32 t48.b0_2] 199, kc b #[.int .i64 t42.r0.cells, .int .i64 t42.r0.tides, sL l_1.1, sL l_1.2.1, sL l_2] 26]) (fun l_13 => [⟨22, RwH.enc l_1.2.2.2.rs, l_1.2.2.2.v.sp, l_1.2.2.2.v.q, dbl 3 RI t42.r1 l_1.2.2.2.rs⟩, vL 66 l_8 (RI.enc t75.r0), ⟨22, RwH.enc l_11.rs, l_11.v.sp, l_11.v.q, dbl 3 RI t100.r0 l_11.rs⟩, vL 3 l_1.1 (RI.enc t42.r0.fords), vL 98 l_1.2.1 (RSa.enc t42.r0.sands), vL 55 l_2 (RSi.enc t48.r0)]) ?_ ?_
      ·replace hm := h49
       refine jh (jg Y Y (jc Y Y Y (fun _ _ => Jk Y Y) (jg Y Y ?_)))
       refine jH 109 Y (fun h51 => ?_) (fun h51 => ?_)
       ·replace hm := ifF (of_ndec_true h51) hm
        refine g_k Y Y Y Y (g_k Y Y Y Y (g_k Y Y Y Y (g_k Y Y Y Y (g_k Y Y Y Y (qY Y Y Y (js ?_))))))
        obtain rfl := sj hm
        exact jj () (trivial) (sE Y) (hsE [0, 1, 2, 3] [1, 2, 0, 3, 4, 5] 0 Y Y Y Y)
       replace hm := ifT (of_ndec_false h51) hm
       refine ja Y Y (jg Y Y (ja Y Y (z8 [_, _, _, _, _] 3 isAgg26 sizeOf26 Y Y Y Y (ja Y Y (jg Y Y (ja Y Y ?_))))))
       obtain ⟨t113, h52, hm⟩ := bindO hm
       refine jd [] [] Y Y Y Y Y Y Y call79 (fun w hh => QQ (⟨t42.r0.cells, t42.r0.tides, t42.r0.fords, t42.r0.sands, t48.r0⟩ : Channel) t100.r0 (qA l_1.1.q) l_1.1.n l_1.1.cap (qA l_1.2.1.q) l_1.2.1.n l_1.2.1.cap (qA l_2.q) l_2.n l_2.cap (qA l_11.v.q) l_11.v.n l_11.v.cap (toAL l_11.rs) w (HV.callee (S0 := []) (vs0 := []) hh (roC (hh.vsepA 3 Y h5) (roC (hh.vsepA 4 Y h6) (roC (hh.vsepA 5 Y h13) (roC (hh.vsepD 0 Y h45) roN))))) (vlen RI h5 Y) (AOK.q (vne h5)) (h5).hle (vlen RSa h6 Y) (AOK.q (vne h6)) (h6).hle (vlen RSi h13 Y) (AOK.q (vne h13)) (h13).hle (Eq.trans (h46).len (vlen RwH h45 Y)) (AOK.q (vne h45)) (h45).hle ((h46).toDRO Y) (hh.dsepT 0 Y h46) h52) (fun l_14 h53 => ?_)
       refine ja Y Y (jc Y Y Y (fun w _ => Q8 (runUnderlying4 w) Y Y) (q6 Y Y Y (js ?_)))
       obtain rfl := sj hm
       exact jj () (trivial) (sE Y) (hsE [0, 1, 2, 3] [1, 2, 0, 3, 4, 5] 0 Y Y Y Y)
      intro l_13 hj
      replace hm := h50
      refine jb ?_
      refine ju Y (fun h54 => ?_) (fun h54 => ?_)
      ·replace hm := ifT (h54) hm
       refine jr (jo Y Y (jq (jx (je (jz ?_)))))
       obtain rfl := sj hm
       refine je ?_
       replace hm := ocR h41
       refine je (je (jz ?_))
       obtain rfl := sj hm
       have hbo := h38 _ Y
       subst hbo
       refine je ?_
       replace hm := ocR h37
       refine je ?_
       obtain rfl := sj hm
       refine jn Y (fun w hh => (.tmp Y .nil)) (fun w hh => ⟨(), rfl, trivial, hh.se [] [] 2 Y Y Y rfl⟩)
      replace hm := ifN h54 hm
      refine jt (jb (ji (jr (jg Y Y (jc Y Y Y (fun _ _ => yF Y) (jq ?_))))))
      refine ju Y (fun h55 => ?_) (fun h55 => ?_)
      ·replace hm := ifT (h55) hm
       refine j8 (jk (jI ?_))
       obtain rfl := sj hm
       exact jj (⟨t100.b0_1, t100.b0_2⟩ : jA) (Y) (sE Y) (hsE [1, 0, 2, 3] [0, 1, 3, 4, 5] 0 Y Y Y Y)
      replace hm := ifN h55 hm
      refine jt (jb (jr (jg Y Y ?_)))
      obtain ⟨t120, h56, hm⟩ := bindO hm
      refine jd [] [] Y Y Y Y Y Y Y call80 (fun w hh => Qx t100.r0 (qA l_11.v.q) l_11.v.n l_11.v.cap (toAL l_11.rs) w (HV.callee (S0 := []) (vs0 := []) hh (roC (hh.vsepD 2 Y h45) roN)) (Eq.trans (h46).len (vlen RwH h45 Y)) (AOK.q (vne h45)) (h45).hle ((h46).toDRO Y) (hh.dsepT 2 Y h46) h56) (fun l_15 h57 => ?_)
      refine jg Y Y (yW Y Y Y (yW Y Y Y (jo Y Y (jo Y Y (jq (ji (ji ?_)))))))
      obtain ⟨o_5, h58, h59⟩ := bindO hm
      refine jR (ι := Unit) (fun l_16 => True) (fun l_16 => [(2, .int .u8 turned2), (8, ptr b 0), (9, sL l_1.2.2.2.v), (12, ptr l_6 0), (13, ptr b_1 0), (14, sL l_8), (17, sL l_11.v), (92, .int .i64 s.t92), (132, .bool o_5)]) (fun l_16 => [kc l_6 #[.slice qa1 na1 ca1, .int .i64 t100.b0_1, .int .u32 t100.b0_2] 199, kc b_1 #[.int .i64 t70.r0.lo, .int .i64 t70.r0.hi] 50, kc l #[.slice qa0 na0 ca0, .int .i64 t48.b0_1, .int .u32 t48.b0_2] 199, kc b #[.int .i64 t42.r0.cells, .int .i64 t42.r0.tides, sL l_1.1, sL l_1.2.1, sL l_2] 26]) (fun l_16 => [⟨22, RwH.enc l_1.2.2.2.rs, l_1.2.2.2.v.sp, l_1.2.2.2.v.q, dbl 3 RI t42.r1 l_1.2.2.2.rs⟩, vL 66 l_8 (RI.enc t75.r0), ⟨22, RwH.enc l_11.rs, l_11.v.sp, l_11.v.q, dbl 3 RI t100.r0 l_11.rs⟩, vL 3 l_1.1 (RI.enc t42.r0.fords), vL 98 l_1.2.1 (RSa.enc t42.r0.sands), vL 55 l_2 (RSi.enc t48.r0)]) ?_ ?_
      ·replace hm := h58
       refine jh (jg Y Y (yp 0 runUnderlying50 Y sizeOf3 Y Y (qy 1 isAgg3 Y Y Y Y (J6 Y Y Y (jg Y Y ?_)))))
       refine jH 127 Y (fun h60 => ?_) (fun h60 => ?_)
       ·replace hm := ifD h60 hm
        refine g_k Y Y Y Y (g_k Y Y Y Y (g_k Y Y Y Y (g_k Y Y Y Y (qY Y Y Y (js ?_)))))
        obtain rfl := sj hm
        exact jj () (trivial) (sE Y) (fun w hh => hh)
       replace hm := ifE h60 hm
       refine ja Y Y (jg Y Y (ja Y Y (yp 1 runUnderlying50 Y sizeOf3 Y Y (ja Y Y (qy 1 isAgg3 Y Y Y Y (ja Y Y (jc Y Y Y (fun _ _ => Y4 Y Y) ?_)))))))
       refine q6 Y Y Y (js ?_)
       obtain rfl := sj hm
       exact jj () (trivial) (sE Y) (fun w hh => hh)
      intro l_16 hj
      replace hm := h59
      refine jb ?_
      refine ju Y (fun h61 => ?_) (fun h61 => ?_)
      ·replace hm := ifT (h61) hm
       refine jr (jo Y Y (jq (jx (je (jz ?_)))))
       obtain rfl := sj hm
       refine je ?_
       replace hm := ocR h41
       refine je (je (jz ?_))
       obtain rfl := sj hm
       have hbo := h38 _ Y
       subst hbo
       refine je ?_
       replace hm := ocR h37
       refine je ?_
       obtain rfl := sj hm
       refine jn Y (fun w hh => (.tmp Y .nil)) (fun w hh => ⟨(), rfl, trivial, hh.se [] [] 2 Y Y Y rfl⟩)
      replace hm := ifN h61 hm
      refine jt (jb (jr (yp 2 runUnderlying26 Y sizeOf22 Y Y (qy 3 isAgg22 Y Y Y Y (jc Y Y Y (fun w _ => Jh (vlen RI h5 Y) (runUnderlying22 w) Y) (jg Y Y (jq ?_)))))))
      obtain ⟨o_6, h62, h63⟩ := bindO hm
      refine jR (ι := Unit) (fun j_2 => o_6 = .inl j_2) (fun j_2 => [(2, .int .u8 turned2), (8, ptr b 0), (9, sL l_1.2.2.2.v), (12, ptr l_6 0), (13, ptr b_1 0), (14, sL l_8), (92, .int .i64 s.t92)]) (fun j_2 => [kc l_6 #[.slice qa1 na1 ca1, .int .i64 t100.b0_1, .int .u32 t100.b0_2] 199, kc b_1 #[.int .i64 t70.r0.lo, .int .i64 t70.r0.hi] 50, kc l #[.slice qa0 na0 ca0, .int .i64 t48.b0_1, .int .u32 t48.b0_2] 199, kc b #[.int .i64 t42.r0.cells, .int .i64 t42.r0.tides, sL l_1.1, sL l_1.2.1, sL l_2] 26]) (fun j_2 => [⟨22, RwH.enc l_1.2.2.2.rs, l_1.2.2.2.v.sp, l_1.2.2.2.v.q, dbl 3 RI t42.r1 l_1.2.2.2.rs⟩, vL 66 l_8 (RI.enc t75.r0), vL 3 l_1.1 (RI.enc t42.r0.fords), vL 98 l_1.2.1 (RSa.enc t42.r0.sands), vL 55 l_2 (RSi.enc t48.r0)]) ?_ ?_
      ·replace hm := h62
       refine jp ?_
       refine jV (ι := Unit) hm (fun s_1 l_17 => True) (fun s_1 l_17 => [(2, .int .u8 turned2), (8, ptr b 0), (9, sL l_1.2.2.2.v), (12, ptr l_6 0), (13, ptr b_1 0), (14, sL l_8), (17, sL l_11.v), (92, .int .i64 s.t92), (135, .int .i64 (t42.r0.fords.length : Int)), (136, .int .i64 s_1)]) (fun s_1 l_17 => [kc l_6 #[.slice qa1 na1 ca1, .int .i64 t100.b0_1, .int .u32 t100.b0_2] 199, kc b_1 #[.int .i64 t70.r0.lo, .int .i64 t70.r0.hi] 50, kc l #[.slice qa0 na0 ca0, .int .i64 t48.b0_1, .int .u32 t48.b0_2] 199, kc b #[.int .i64 t42.r0.cells, .int .i64 t42.r0.tides, sL l_1.1, sL l_1.2.1, sL l_2] 26]) (fun s_1 l_17 => [⟨22, RwH.enc l_1.2.2.2.rs, l_1.2.2.2.v.sp, l_1.2.2.2.v.q, dbl 3 RI t42.r1 l_1.2.2.2.rs⟩, vL 66 l_8 (RI.enc t75.r0), ⟨22, RwH.enc l_11.rs, l_11.v.sp, l_11.v.q, dbl 3 RI t100.r0 l_11.rs⟩, vL 3 l_1.1 (RI.enc t42.r0.fords), vL 98 l_1.2.1 (RSa.enc t42.r0.sands), vL 55 l_2 (RSi.enc t48.r0)]) () (trivial) (sE Y) (fun w hh => hh) (fun s_1 l_17 r_1 hpl hm h64 => ?_)
       unfold jX at hm
       refine jr (J6 Y Y Y (jq (ji ?_)))
       refine ju Y (fun h65 => ?_) (fun h65 => ?_)
       ·replace hm := ifD h65 hm
        refine jt (jb (ji (jp (jr (jg Y Y (jo Y Y (jq ?_)))))))
        refine ji (jr (jg Y Y (jc Y Y Y (fun w _ => Jh (Eq.trans (h46).len (vlen RwH h45 Y)) (runUnderlying41 w) Y) (jg Y Y (jq ?_)))))
        obtain ⟨o_7, h66, h67⟩ := bindO hm
        refine jR (ι := Unit) (fun j_3 => o_7 = .inl j_3) (fun j_3 => [(2, .int .u8 turned2), (8, ptr b 0), (9, sL l_1.2.2.2.v), (12, ptr l_6 0), (13, ptr b_1 0), (14, sL l_8), (17, sL l_11.v), (22, .int .i64 s_1), (92, .int .i64 s.t92), (135, .int .i64 (t42.r0.fords.length : Int)), (136, .int .i64 s_1)]) (fun j_3 => [kc l_6 #[.slice qa1 na1 ca1, .int .i64 t100.b0_1, .int .u32 t100.b0_2] 199, kc b_1 #[.int .i64 t70.r0.lo, .int .i64 t70.r0.hi] 50, kc l #[.slice qa0 na0 ca0, .int .i64 t48.b0_1, .int .u32 t48.b0_2] 199, kc b #[.int .i64 t42.r0.cells, .int .i64 t42.r0.tides, sL l_1.1, sL l_1.2.1, sL l_2] 26]) (fun j_3 => [⟨22, RwH.enc l_1.2.2.2.rs, l_1.2.2.2.v.sp, l_1.2.2.2.v.q, dbl 3 RI t42.r1 l_1.2.2.2.rs⟩, vL 66 l_8 (RI.enc t75.r0), ⟨22, RwH.enc l_11.rs, l_11.v.sp, l_11.v.q, dbl 3 RI t100.r0 l_11.rs⟩, vL 3 l_1.1 (RI.enc t42.r0.fords), vL 98 l_1.2.1 (RSa.enc t42.r0.sands), vL 55 l_2 (RSi.enc t48.r0)]) ?_ ?_
        ·replace hm := h66
         refine jp ?_
         refine jV (ι := Unit) hm (fun s_2 l_18 => True) (fun s_2 l_18 => [(2, .int .u8 turned2), (8, ptr b 0), (9, sL l_1.2.2.2.v), (12, ptr l_6 0), (13, ptr b_1 0), (14, sL l_8), (17, sL l_11.v), (22, .int .i64 s_1), (92, .int .i64 s.t92), (135, .int .i64 (t42.r0.fords.length : Int)), (136, .int .i64 s_1), (139, sL l_11.v), (140, .int .i64 (t100.r0.length : Int)), (141, .int .i64 s_2)]) (fun s_2 l_18 => [kc l_6 #[.slice qa1 na1 ca1, .int .i64 t100.b0_1, .int .u32 t100.b0_2] 199, kc b_1 #[.int .i64 t70.r0.lo, .int .i64 t70.r0.hi] 50, kc l #[.slice qa0 na0 ca0, .int .i64 t48.b0_1, .int .u32 t48.b0_2] 199, kc b #[.int .i64 t42.r0.cells, .int .i64 t42.r0.tides, sL l_1.1, sL l_1.2.1, sL l_2] 26]) (fun s_2 l_18 => [⟨22, RwH.enc l_1.2.2.2.rs, l_1.2.2.2.v.sp, l_1.2.2.2.v.q, dbl 3 RI t42.r1 l_1.2.2.2.rs⟩, vL 66 l_8 (RI.enc t75.r0), ⟨22, RwH.enc l_11.rs, l_11.v.sp, l_11.v.q, dbl 3 RI t100.r0 l_11.rs⟩, vL 3 l_1.1 (RI.enc t42.r0.fords), vL 98 l_1.2.1 (RSa.enc t42.r0.sands), vL 55 l_2 (RSi.enc t48.r0)]) () (trivial) (sE Y) (fun w hh => hh) (fun s_2 l_18 r_2 hpl hm h68 => ?_)
         unfold kh at hm
         refine jr (J6 Y Y Y (jq (ji ?_)))
         refine ju Y (fun h69 => ?_) (fun h69 => ?_)
         ·replace hm := ifD h69 hm
          refine jt (jb (ji (jp (jr (jg Y Y ?_)))))
          obtain ⟨t144, h70, hm⟩ := bindO hm
          obtain ⟨L, h71, h72⟩ := (h46).row h70
          refine jc Y Y Y (fun w _ => zE h71 (runUnderlying41 w) (sizeOf22 w) Y Y (vlen RwH h45 Y) (vne h45)) (jc Y Y Y (fun w hh => k7 RwH 0 h71 (isAgg22 w) Y (hh.vseg 2 Y h45) Y (Nat.add_zero _).symm) (jo Y Y (jo Y Y (kO (z8 [_, _, _, _, _] 3 isAgg26 sizeOf26 Y Y Y Y (jg Y Y (jg Y Y ?_)))))))
          obtain ⟨t150, h73, hm⟩ := bindO hm
          refine jd [] [] Y Y Y Y Y Y Y call42 (fun w hh => K6 (⟨t42.r0.cells, t42.r0.tides, t42.r0.fords, t42.r0.sands, t48.r0⟩ : Channel) s_2 s_1 (qA l_1.1.q) l_1.1.n l_1.1.cap (qA l_1.2.1.q) l_1.2.1.n l_1.2.1.cap (qA l_2.q) l_2.n l_2.cap w (HV.callee (S0 := []) (vs0 := []) hh (roC (hh.vsepA 3 Y h5) (roC (hh.vsepA 4 Y h6) (roC (hh.vsepA 5 Y h13) roN)))) (vlen RI h5 Y) (AOK.q (vne h5)) (h5).hle (vlen RSa h6 Y) (AOK.q (vne h6)) (h6).hle (vlen RSi h13 Y) (AOK.q (vne h13)) (h13).hle h73) (fun l_19 h74 => ?_)
          have h75 := h74
          refine kQ (S' := [_, _, _, _]) (vs' := [_, _, _, _, _, _, _]) [0, 1, 2, 3] [0, 1, 2, 3, 4, 5, 6] 0 Y Y Y Y (jg Y Y (yW Y Y Y (yW Y Y Y (jo Y Y (jo Y Y (jq (ji ?_)))))))
          obtain ⟨o_8, h76, h77⟩ := bindO hm
          refine jR (ι := Unit) (fun l_20 => True) (fun l_20 => [(2, .int .u8 turned2), (8, ptr b 0), (9, sL l_1.2.2.2.v), (12, ptr l_6 0), (13, ptr b_1 0), (14, sL l_8), (17, sL l_11.v), (22, .int .i64 s_1), (92, .int .i64 s.t92), (135, .int .i64 (t42.r0.fords.length : Int)), (136, .int .i64 s_1), (139, sL l_11.v), (140, .int .i64 (t100.r0.length : Int)), (141, .int .i64 s_2), (163, .bool o_8)]) (fun l_20 => [kc l_6 #[.slice qa1 na1 ca1, .int .i64 t100.b0_1, .int .u32 t100.b0_2] 199, kc b_1 #[.int .i64 t70.r0.lo, .int .i64 t70.r0.hi] 50, kc l #[.slice qa0 na0 ca0, .int .i64 t48.b0_1, .int .u32 t48.b0_2] 199, kc b #[.int .i64 t42.r0.cells, .int .i64 t42.r0.tides, sL l_1.1, sL l_1.2.1, sL l_2] 26]) (fun l_20 => [⟨22, RwH.enc l_1.2.2.2.rs, l_1.2.2.2.v.sp, l_1.2.2.2.v.q, dbl 3 RI t42.r1 l_1.2.2.2.rs⟩, vL 66 l_8 (RI.enc t75.r0), ⟨22, RwH.enc l_11.rs, l_11.v.sp, l_11.v.q, dbl 3 RI t100.r0 l_11.rs⟩, vL 3 l_1.1 (RI.enc t42.r0.fords), vL 98 l_1.2.1 (RSa.enc t42.r0.sands), vL 55 l_2 (RSi.enc t48.r0)]) ?_ ?_
          ·replace hm := h76
           refine jh (jg Y Y (jc Y Y Y (fun _ _ => Jk Y Y) (jg Y Y ?_)))
           refine jH 155 Y (fun h78 => ?_) (fun h78 => ?_)
           ·replace hm := ifF (of_ndec_true h78) hm
            refine g_k Y Y Y Y (g_k Y Y Y Y (g_k Y Y Y Y (g_k Y Y Y Y (g_k Y Y Y Y (g_k Y Y Y Y (g_k Y Y Y Y (qY Y Y Y ?_)))))))
            refine js ?_
            obtain rfl := sj hm
            exact jj () (trivial) (sE Y) (hsE [0, 1, 2, 3] [1, 2, 3, 4, 5, 6] 0 Y Y Y Y)
           replace hm := ifT (of_ndec_false h78) hm
           refine ja Y Y (jg Y Y (ja Y Y (jg Y Y (ja Y Y (jg Y Y (ja Y Y ?_))))))
           obtain ⟨t159, h79, hm⟩ := bindO hm
           refine jc Y Y Y (fun w _ => zE h79 (runUnderlying22 w) (sizeOf3 w) Y Y (vlen RI h72 Y) (vne h72)) (ja Y Y (jc Y Y Y (fun w hh => k7 RI 0 h79 (isAgg3 w) Y (hh.dseg 3 Y h70 h71 h72) Y (Nat.add_zero _).symm) (ja Y Y ?_)))
           obtain ⟨t161, h80, hm⟩ := bindO hm
           refine jd [] [] Y Y Y Y Y Y Y call64 (fun w hh => jY t150.r0 t159 (qA l_19.q) l_19.n l_19.cap w (HV.callee (S0 := []) (vs0 := []) hh (roC (hh.vsepA 0 Y h75) roN)) (vlen RI h75 Y) (AOK.q (vne h75)) (h75).hle h80) (fun l_21 h81 => ?_)
           refine ja Y Y (jc Y Y Y (fun _ _ => yF Y) (q6 Y Y Y (js ?_)))
           obtain rfl := sj hm
           exact jj () (trivial) (sE Y) (hsE [0, 1, 2, 3] [1, 2, 3, 4, 5, 6] 0 Y Y Y Y)
          intro l_20 hj
          replace hm := h77
          refine jb ?_
          refine ju Y (fun h82 => ?_) (fun h82 => ?_)
          ·replace hm := ifT (h82) hm
           refine jr (jo Y Y (jq (jx (jz (je (je (jz ?_)))))))
           obtain rfl := sj hm
           have hbo := h68 _ Y
           subst hbo
           refine je ?_
           replace hm := ocR h67
           refine je (jz (je (je (jz ?_))))
           obtain rfl := sj hm
           have hbo := h64 _ Y
           subst hbo
           refine je ?_
           replace hm := ocR h63
           refine jz ?_
           obtain rfl := sj hm
           refine je ?_
           replace hm := ocR h41
           refine je (je (jz ?_))
           obtain rfl := sj hm
           have hbo := h38 _ Y
           subst hbo
           refine je ?_
           replace hm := ocR h37
           refine je ?_
           obtain rfl := sj hm
           refine jn Y (fun w hh => (.tmp Y .nil)) (fun w hh => ⟨(), rfl, trivial, hh.se [] [] 2 Y Y Y rfl⟩)
          replace hm := ifN h82 hm
          refine jt (jw (jb (jh ?_)))
          obtain ⟨t164, h83, hm⟩ := bindO hm
          refine Ke h83 Y Y Y (jg Y Y (js ?_))
          obtain rfl := sj hm
          refine jb ?_
          exact jG _ () Y (trivial) (sE Y) (fun w hh => hh)
         replace hm := ifE h69 hm
         refine j8 (jk (jk (jI ?_)))
         obtain rfl := sj hm
         have hbo := h68 _ Y
         subst hbo
         exact jj () (Y) (sE Y) (fun w hh => hh)
        intro j_3 hj
        have h84 := hj
        subst h84
        replace hm := ocL h67
        refine jb (ji ?_)
        refine kE none (.free 0 (.free 1 (.hoist 2 (.free 3 (.hoist 4 (.free 5 (.free 6 (.hoist 7 (.free 8 (.hoist 9 (.free 10 (.free 11 (.hoist 12 (.free 13 (.free 14 .done))))))))))))))) _ Y (by decide +kernel) (fun w k hh => hh.draw k) (fun w hh => hh) ?_
        refine zb Y Y Y (Kk 1 runUnderlying26 sizeOf3 Y Y Y Y (KW 3 isAgg3 Y Y Y Y Y ?_))
        obtain ⟨t168, h85, hm⟩ := bindO hm
        obtain ⟨L_1, h86, h87⟩ := (h46).row h85
        refine jl Y Y Y Y (fun w _ => zE h86 (runUnderlying41 w) (sizeOf22 w) Y Y (vlen RwH h45 Y) (vne h45)) (jy Y Y Y Y (fun w hh => k7 RwH 0 h86 (isAgg22 w) Y (hh.vseg 2 Y h45) Y (Nat.add_zero _).symm) (zb Y Y Y ?_))
        obtain ⟨t171, h88, hm⟩ := bindO hm
        refine jl Y Y Y Y (fun w _ => zE h88 (runUnderlying22 w) (sizeOf3 w) Y Y (vlen RI h87 Y) (vne h87)) (jy Y Y Y Y (fun w hh => k7 RI 0 h88 (isAgg3 w) Y (hh.dseg 2 Y h85 h86 h87) Y (Nat.add_zero _).symm) (Kk 2 runUnderlying26 sizeOf22 Y Y Y Y (KW 3 isAgg22 Y Y Y Y Y (zb Y Y Y ?_))))
        obtain ⟨t176, h89, hm⟩ := bindO hm
        refine jl Y Y Y Y (fun w _ => zE h89 (runUnderlying22 w) (sizeOf3 w) Y Y (vlen RI h5 Y) (vne h5)) (jy Y Y Y Y (fun w hh => k7 RI 0 h89 (isAgg3 w) Y (hh.vseg 3 Y h5) Y (Nat.add_zero _).symm) (jl Y Y Y Y (fun _ _ => zS Y Y) (jl Y Y Y Y (fun _ _ => kl Y) (jS (jb (jr (z8 [_, _, _, _, _] 3 isAgg26 sizeOf26 Y Y Y Y ?_)))))))
        refine jg Y Y ?_
        obtain ⟨t182, h90, hm⟩ := bindO hm
        refine jd [] [] Y Y Y Y Y Y Y call37 (fun w hh => Q0 (⟨t42.r0.cells, t42.r0.tides, t42.r0.fords, t42.r0.sands, t48.r0⟩ : Channel) s_1 (qA l_1.1.q) l_1.1.n l_1.1.cap (qA l_1.2.1.q) l_1.2.1.n l_1.2.1.cap (qA l_2.q) l_2.n l_2.cap w (HV.callee (S0 := []) (vs0 := []) hh (roC (hh.vsepA 3 Y h5) (roC (hh.vsepA 4 Y h6) (roC (hh.vsepA 5 Y h13) roN)))) (vlen RI h5 Y) (AOK.q (vne h5)) (h5).hle (vlen RSa h6 Y) (AOK.q (vne h6)) (h6).hle (vlen RSi h13 Y) (AOK.q (vne h13)) (h13).hle h90) (fun l_22 h91 => ?_)
        refine jg Y Y (yW Y Y Y (yW Y Y Y ?_))
        refine jv (fun w => zeroValue50 w) Y (fun b_2 h92 => ?_)
        refine j3 (us := #[_, _]) (cs' := [_, _]) (S' := [_, _, _, _, _]) 0 (fun w => sizeOf50 w) Y Y Y Y Y Y Y (jo Y Y (jq (ji ?_)))
        refine kE none (.free 0 (.free 1 (.hoist 2 (.free 3 (.hoist 4 (.free 5 (.free 6 (.hoist 7 (.free 8 (.hoist 9 (.free 10 (.free 11 (.hoist 12 (.free 13 (.free 14 .done))))))))))))))) _ Y (by decide +kernel) (fun w k hh => hh.draw k) (fun w hh => hh) ?_
        refine zb Y Y Y (Kk 1 runUnderlying26 sizeOf3 Y Y Y Y (KW 4 isAgg3 Y Y Y Y Y ?_))
        obtain ⟨t188, h93, hm⟩ := bindO hm
        obtain ⟨L_2, h94, h95⟩ := (h46).row h93
        refine jl Y Y Y Y (fun w _ => zE h94 (runUnderlying41 w) (sizeOf22 w) Y Y (vlen RwH h45 Y) (vne h45)) (jy Y Y Y Y (fun w hh => k7 RwH 0 h94 (isAgg22 w) Y (hh.vseg 2 Y h45) Y (Nat.add_zero _).symm) (zb Y Y Y ?_))
        obtain ⟨t191, h96, hm⟩ := bindO hm
        refine jl Y Y Y Y (fun w _ => zE h96 (runUnderlying22 w) (sizeOf3 w) Y Y (vlen RI h95 Y) (vne h95)) (jy Y Y Y Y (fun w hh => k7 RI 0 h96 (isAgg3 w) Y (hh.dseg 2 Y h93 h94 h95) Y (Nat.add_zero _).symm) (Kk 2 runUnderlying26 sizeOf22 Y Y Y Y (KW 4 isAgg22 Y Y Y Y Y (zb Y Y Y ?_))))
        obtain ⟨t196, h97, hm⟩ := bindO hm
        refine jl Y Y Y Y (fun w _ => zE h97 (runUnderlying22 w) (sizeOf3 w) Y Y (vlen RI h5 Y) (vne h5)) (jy Y Y Y Y (fun w hh => k7 RI 0 h97 (isAgg3 w) Y (hh.vseg 3 Y h5) Y (Nat.add_zero _).symm) ?_)
        obtain ⟨t198, h98, hm⟩ := bindO hm
        refine jl Y Y Y Y (fun _ _ => zu h98 Y Y) (jl Y Y Y Y (fun _ _ => kl Y) (jS (jb (ji ?_))))
        obtain ⟨o_9, h99, h100⟩ := bindO hm
        refine jR (ι := Unit) (fun l_23 => True) (fun l_23 => [(2, .int .u8 turned2), (8, ptr b 0), (9, sL l_1.2.2.2.v), (12, ptr l_6 0), (13, ptr b_1 0), (14, sL l_8), (17, sL l_11.v), (92, .int .i64 s.t92), (135, .int .i64 (t42.r0.fords.length : Int)), (136, .int .i64 s_1), (233, .bool o_9)]) (fun l_23 => [kc b_2 #[.int .i64 t182.r0.lo, .int .i64 t182.r0.hi] 50, kc l_6 #[.slice qa1 na1 ca1, .int .i64 t100.b0_1, .int .u32 t100.b0_2] 199, kc b_1 #[.int .i64 t70.r0.lo, .int .i64 t70.r0.hi] 50, kc l #[.slice qa0 na0 ca0, .int .i64 t48.b0_1, .int .u32 t48.b0_2] 199, kc b #[.int .i64 t42.r0.cells, .int .i64 t42.r0.tides, sL l_1.1, sL l_1.2.1, sL l_2] 26]) (fun l_23 => [⟨22, RwH.enc l_1.2.2.2.rs, l_1.2.2.2.v.sp, l_1.2.2.2.v.q, dbl 3 RI t42.r1 l_1.2.2.2.rs⟩, vL 66 l_8 (RI.enc t75.r0), ⟨22, RwH.enc l_11.rs, l_11.v.sp, l_11.v.q, dbl 3 RI t100.r0 l_11.rs⟩, vL 3 l_1.1 (RI.enc t42.r0.fords), vL 98 l_1.2.1 (RSa.enc t42.r0.sands), vL 55 l_2 (RSi.enc t48.r0)]) ?_ ?_
        ·replace hm := h99
         refine jh (jg Y Y (jc Y Y Y (fun _ _ => Jk Y Y) (jg Y Y ?_)))
         refine jH 201 Y (fun h101 => ?_) (fun h101 => ?_)
         ·replace hm := ifF (of_ndec_true h101) hm
          refine g_k Y Y Y Y (g_k Y Y Y Y (g_k Y Y Y Y (g_k Y Y Y Y (qY Y Y Y (jg Y Y (g_k Y Y Y Y (g_k Y Y Y Y ?_)))))))
          refine g_k Y Y Y Y (g_k Y Y Y Y (qY Y Y Y (jg Y Y (g_k Y Y Y Y (g_k Y Y Y Y (g_k Y Y Y Y (g_k Y Y Y Y ?_)))))))
          refine g_k Y Y Y Y (g_k Y Y Y Y ?_)
          refine jB Y Y Y Y Y ?_
          refine jB Y Y Y Y Y ?_
          refine g_k Y Y Y Y (qY Y Y Y (jg Y Y (g_k Y Y Y Y (g_k Y Y Y Y (g_k Y Y Y Y (g_k Y Y Y Y (g_k Y Y Y Y ?_)))))))
          refine g_k Y Y Y Y ?_
          refine jB Y Y Y Y Y ?_
          refine g_k Y Y Y Y (qY Y Y Y (js ?_))
          obtain rfl := sj hm
          exact jj () (trivial) (sE Y) (fun w hh => hh)
         replace hm := ifT (of_ndec_false h101) hm
         refine ja Y Y (jg Y Y (ja Y Y (yp 0 runUnderlying50 Y sizeOf3 Y Y (ja Y Y (qy 0 isAgg3 Y Y Y Y (ja Y Y (J6 Y Y Y ?_)))))))
         refine q6 Y Y Y (jg Y Y ?_)
         refine jH 207 Y (fun h102 => ?_) (fun h102 => ?_)
         ·replace hm := ifD h102 hm
          refine g_k Y Y Y Y (g_k Y Y Y Y (g_k Y Y Y Y (g_k Y Y Y Y (qY Y Y Y (jg Y Y (g_k Y Y Y Y (g_k Y Y Y Y ?_)))))))
          refine g_k Y Y Y Y (g_k Y Y Y Y (g_k Y Y Y Y (g_k Y Y Y Y ?_)))
          refine jB Y Y Y Y Y ?_
          refine jB Y Y Y Y Y ?_
          refine g_k Y Y Y Y (qY Y Y Y (jg Y Y (g_k Y Y Y Y (g_k Y Y Y Y (g_k Y Y Y Y (g_k Y Y Y Y (g_k Y Y Y Y ?_)))))))
          refine g_k Y Y Y Y ?_
          refine jB Y Y Y Y Y ?_
          refine g_k Y Y Y Y (qY Y Y Y (js ?_))
          obtain rfl := sj hm
          exact jj () (trivial) (sE Y) (fun w hh => hh)
         replace hm := ifE h102 hm
         refine ja Y Y (jg Y Y (ja Y Y (yp 1 runUnderlying50 Y sizeOf3 Y Y (ja Y Y (qy 0 isAgg3 Y Y Y Y (ja Y Y (jc Y Y Y (fun _ _ => Y4 Y Y) ?_)))))))
         refine q6 Y Y Y (jg Y Y ?_)
         refine jH 213 Y (fun h103 => ?_) (fun h103 => ?_)
         ·replace hm := ifD h103 hm
          refine g_k Y Y Y Y (g_k Y Y Y Y (g_k Y Y Y Y (g_k Y Y Y Y (g_k Y Y Y Y (g_k Y Y Y Y ?_)))))
          refine jB Y Y Y Y Y ?_
          refine jB Y Y Y Y Y ?_
          refine g_k Y Y Y Y (qY Y Y Y (jg Y Y (g_k Y Y Y Y (g_k Y Y Y Y (g_k Y Y Y Y (g_k Y Y Y Y (g_k Y Y Y Y ?_)))))))
          refine g_k Y Y Y Y ?_
          refine jB Y Y Y Y Y ?_
          refine g_k Y Y Y Y (qY Y Y Y (js ?_))
          obtain rfl := sj hm
          exact jj () (trivial) (sE Y) (fun w hh => hh)
         replace hm := ifE h103 hm
         refine ja Y Y (jg Y Y (ja Y Y (jg Y Y (ja Y Y ?_))))
         obtain ⟨t216, h104, hm⟩ := bindO hm
         refine jc Y Y Y (fun w _ => zE h104 (runUnderlying58 w) (sizeOf66 w) Y Y (vlen RI h30 Y) (vne h30)) (ja Y Y (jc Y Y Y (fun w hh => k7 RI 0 h104 (isAgg66 w) Y (hh.vseg 1 Y h30) Y (Nat.add_zero _).symm) (ja Y Y (jc Y Y Y (fun _ _ => zS Y Y) (ja Y Y (jg Y Y ?_))))))
         refine jH 219 Y (fun h105 => ?_) (fun h105 => ?_)
         ·replace hm := ifD h105 hm
          refine ja Y Y (jg Y Y (ja Y Y (jc Y Y Y (fun _ _ => yF Y) (ja Y Y (qY Y Y Y (q6 Y Y Y (jg Y Y ?_)))))))
          refine jH 224 Y (fun h106 => ?_) (fun h106 => ?_)
          ·replace hm := ifF (of_ndec_true h106) hm
           refine g_k Y Y Y Y (g_k Y Y Y Y (g_k Y Y Y Y (g_k Y Y Y Y (g_k Y Y Y Y (g_k Y Y Y Y ?_)))))
           refine jB Y Y Y Y Y ?_
           refine g_k Y Y Y Y (qY Y Y Y (js ?_))
           obtain rfl := sj hm
           exact jj () (trivial) (sE Y) (fun w hh => hh)
          replace hm := ifT (of_ndec_false h106) hm
          refine ja Y Y (jg Y Y (ja Y Y (jg Y Y (ja Y Y ?_))))
          obtain ⟨t227, h107, hm⟩ := bindO hm
          refine jc Y Y Y (fun w _ => zE h107 (runUnderlying58 w) (sizeOf66 w) Y Y (vlen RI h30 Y) (vne h30)) (ja Y Y (jc Y Y Y (fun w hh => k7 RI 0 h107 (isAgg66 w) Y (hh.vseg 1 Y h30) Y (Nat.add_zero _).symm) (ja Y Y (jc Y Y Y (fun _ _ => zS Y Y) (ja Y Y (jg Y Y ?_))))))
          refine jH 230 Y (fun h108 => ?_) (fun h108 => ?_)
          ·replace hm := ifD h108 hm
           refine ja Y Y (jg Y Y (ja Y Y (qY Y Y Y (q6 Y Y Y (js ?_)))))
           obtain rfl := sj hm
           exact jj () (trivial) (sE Y) (fun w hh => hh)
          replace hm := ifE h108 hm
          refine g_k Y Y Y Y (ja Y Y (q6 Y Y Y (q6 Y Y Y (js ?_))))
          obtain rfl := sj hm
          exact jj () (trivial) (sE Y) (fun w hh => hh)
         replace hm := ifE h105 hm
         refine g_k Y Y Y Y (g_k Y Y Y Y (ja Y Y (q6 Y Y Y (q6 Y Y Y (jg Y Y (ja Y Y (jg Y Y ?_)))))))
         refine ja Y Y (jg Y Y (ja Y Y ?_))
         obtain ⟨t227_1, h109, hm⟩ := bindO hm
         refine jc Y Y Y (fun w _ => zE h109 (runUnderlying58 w) (sizeOf66 w) Y Y (vlen RI h30 Y) (vne h30)) (ja Y Y (jc Y Y Y (fun w hh => k7 RI 0 h109 (isAgg66 w) Y (hh.vseg 1 Y h30) Y (Nat.add_zero _).symm) (ja Y Y (jc Y Y Y (fun _ _ => zS Y Y) (ja Y Y (jg Y Y ?_))))))
         refine jH 230 Y (fun h110 => ?_) (fun h110 => ?_)
         ·replace hm := ifD h110 hm
          refine ja Y Y (jg Y Y (ja Y Y (qY Y Y Y (q6 Y Y Y (js ?_)))))
          obtain rfl := sj hm
          exact jj () (trivial) (sE Y) (fun w hh => hh)
         replace hm := ifE h110 hm
         refine g_k Y Y Y Y (ja Y Y (q6 Y Y Y (q6 Y Y Y (js ?_))))
         obtain rfl := sj hm
         exact jj () (trivial) (sE Y) (fun w hh => hh)
        intro l_23 hj
        replace hm := h100
        refine jb ?_
        refine ju Y (fun h111 => ?_) (fun h111 => ?_)
        ·replace hm := ifT (h111) hm
         refine jr (jo Y Y (jq (jx (jz (je (je (jz ?_)))))))
         obtain rfl := sj hm
         have hbo := h64 _ Y
         subst hbo
         refine je ?_
         replace hm := ocR h63
         refine jz ?_
         obtain rfl := sj hm
         refine je ?_
         replace hm := ocR h41
         refine je (je (jz ?_))
         obtain rfl := sj hm
         have hbo := h38 _ Y
         subst hbo
         refine je ?_
         replace hm := ocR h37
         refine je ?_
         obtain rfl := sj hm
         refine jn Y (fun w hh => (.tmp Y .nil)) (fun w hh => ⟨(), rfl, trivial, hh.se [] [] 2 Y Y Y rfl⟩)
        replace hm := ifN h111 hm
        refine jt (jw (jb (jh ?_)))
        obtain ⟨t234, h112, hm⟩ := bindO hm
        refine Ke h112 Y Y Y (jg Y Y (js ?_))
        obtain rfl := sj hm
        refine jb ?_
        exact jG _ () Y (trivial) (sE Y) (hsE [1, 2, 3, 4] [0, 1, 2, 3, 4, 5] 0 Y Y Y Y)
       replace hm := ifE h65 hm
       refine j8 (jk (jk (jI ?_)))
       obtain rfl := sj hm
       have hbo := h64 _ Y
       subst hbo
       exact jj () (Y) (sE Y) (hsE [0, 1, 2, 3] [0, 1, 3, 4, 5] 0 Y Y Y Y)
      intro j_2 hj
      have h113 := hj
      subst h113
      replace hm := ocL h63
      refine jw ?_
      obtain rfl := sj hm
      exact jj (⟨t100.b0_1, t100.b0_2⟩ : jA) (Y) (sE Y) (hsE [1, 0, 2, 3] [0, 1, 2, 3, 4] 0 Y Y Y Y)
     replace hm := ifE h42 hm
     refine jt (jb (jr (z8 [_, _, _, _, _] 3 isAgg26 sizeOf26 Y Y Y Y (jg Y Y ?_))))
     obtain ⟨t104_1, h114, hm⟩ := bindO hm
     refine jd [] [] Y Y Y Y Y Y Y call56 (fun w hh => Zr (⟨t42.r0.cells, t42.r0.tides, t42.r0.fords, t42.r0.sands, t48.r0⟩ : Channel) t42.r1 (qA l_1.1.q) l_1.1.n l_1.1.cap (qA l_1.2.1.q) l_1.2.1.n l_1.2.1.cap (qA l_2.q) l_2.n l_2.cap (qA l_1.2.2.2.v.q) l_1.2.2.2.v.n l_1.2.2.2.v.cap (toAL l_1.2.2.2.rs) w (HV.callee (S0 := []) (vs0 := []) hh (roC (hh.vsepA 2 Y h5) (roC (hh.vsepA 3 Y h6) (roC (hh.vsepA 4 Y h13) (roC (hh.vsepD 0 Y h8) roN))))) (vlen RI h5 Y) (AOK.q (vne h5)) (h5).hle (vlen RSa h6 Y) (AOK.q (vne h6)) (h6).hle (vlen RSi h13 Y) (AOK.q (vne h13)) (h13).hle (Eq.trans (h9).len (vlen RwH h8 Y)) (AOK.q (vne h8)) (h8).hle ((h9).toDRO Y) (hh.dsepT 0 Y h9) h114) (fun l_24 h115 => ?_)
     refine jg Y Y (yW Y Y Y (yW Y Y Y (jo Y Y (jo Y Y (jq (ji (ji ?_)))))))
     obtain ⟨o_10, h116, h117⟩ := bindO hm
     refine jR (ι := Unit) (fun l_25 => True) (fun l_25 => [(2, .int .u8 turned2), (8, ptr b 0), (9, sL l_1.2.2.2.v), (12, ptr l_6 0), (13, ptr b_1 0), (14, sL l_8), (17, sL l_1.2.2.2.v), (18, .bool t104_1.r0), (92, .int .i64 s.t92), (115, .bool o_10)]) (fun l_25 => [kc b_1 #[.int .i64 t70.r0.lo, .int .i64 t70.r0.hi] 50, kc l_6 #[.slice qa1 na1 ca1, .int .i64 s.t5_1, .int .u32 s.t5_2] 199, kc l #[.slice qa0 na0 ca0, .int .i64 t48.b0_1, .int .u32 t48.b0_2] 199, kc b #[.int .i64 t42.r0.cells, .int .i64 t42.r0.tides, sL l_1.1, sL l_1.2.1, sL l_2] 26]) (fun l_25 => [⟨22, RwH.enc l_1.2.2.2.rs, l_1.2.2.2.v.sp, l_1.2.2.2.v.q, dbl 3 RI t42.r1 l_1.2.2.2.rs⟩, vL 66 l_8 (RI.enc t75.r0), vL 3 l_1.1 (RI.enc t42.r0.fords), vL 98 l_1.2.1 (RSa.enc t42.r0.sands), vL 55 l_2 (RSi.enc t48.r0)]) ?_ ?_
     ·replace hm := h116
      refine jh (jg Y Y (jc Y Y Y (fun _ _ => Jk Y Y) (jg Y Y ?_)))
      refine jH 109 Y (fun h118 => ?_) (fun h118 => ?_)
      ·replace hm := ifF (of_ndec_true h118) hm
       refine g_k Y Y Y Y (g_k Y Y Y Y (g_k Y Y Y Y (g_k Y Y Y Y (g_k Y Y Y Y (qY Y Y Y (js ?_))))))
       obtain rfl := sj hm
       exact jj () (trivial) (sE Y) (fun w hh => hh)
      replace hm := ifT (of_ndec_false h118) hm
      refine ja Y Y (jg Y Y (ja Y Y (z8 [_, _, _, _, _] 3 isAgg26 sizeOf26 Y Y Y Y (ja Y Y (jg Y Y (ja Y Y ?_))))))
      obtain ⟨t113_1, h119, hm⟩ := bindO hm
      refine jd [] [] Y Y Y Y Y Y Y call79 (fun w hh => QQ (⟨t42.r0.cells, t42.r0.tides, t42.r0.fords, t42.r0.sands, t48.r0⟩ : Channel) t42.r1 (qA l_1.1.q) l_1.1.n l_1.1.cap (qA l_1.2.1.q) l_1.2.1.n l_1.2.1.cap (qA l_2.q) l_2.n l_2.cap (qA l_1.2.2.2.v.q) l_1.2.2.2.v.n l_1.2.2.2.v.cap (toAL l_1.2.2.2.rs) w (HV.callee (S0 := []) (vs0 := []) hh (roC (hh.vsepA 2 Y h5) (roC (hh.vsepA 3 Y h6) (roC (hh.vsepA 4 Y h13) (roC (hh.vsepD 0 Y h8) roN))))) (vlen RI h5 Y) (AOK.q (vne h5)) (h5).hle (vlen RSa h6 Y) (AOK.q (vne h6)) (h6).hle (vlen RSi h13 Y) (AOK.q (vne h13)) (h13).hle (Eq.trans (h9).len (vlen RwH h8 Y)) (AOK.q (vne h8)) (h8).hle ((h9).toDRO Y) (hh.dsepT 0 Y h9) h119) (fun l_26 h120 => ?_)
      refine ja Y Y (jc Y Y Y (fun w _ => Q8 (runUnderlying4 w) Y Y) (q6 Y Y Y (js ?_)))
      obtain rfl := sj hm
      exact jj () (trivial) (sE Y) (fun w hh => hh)
     intro l_25 hj
     replace hm := h117
     refine jb ?_
     refine ju Y (fun h121 => ?_) (fun h121 => ?_)
     ·replace hm := ifT (h121) hm
      refine jr (jo Y Y (jq (jx (je (jz ?_)))))
      obtain rfl := sj hm
      refine je ?_
      replace hm := ocR h41
      refine je (je (jz ?_))
      obtain rfl := sj hm
      have hbo := h38 _ Y
      subst hbo
      refine je ?_
      replace hm := ocR h37
      refine je ?_
      obtain rfl := sj hm
      refine jn Y (fun w hh => (.tmp Y .nil)) (fun w hh => ⟨(), rfl, trivial, hh.se [] [] 2 Y Y Y rfl⟩)
     replace hm := ifN h121 hm
     refine jt (jb (ji (jr (jg Y Y (jc Y Y Y (fun _ _ => yF Y) (jq ?_))))))
     refine ju Y (fun h122 => ?_) (fun h122 => ?_)
     ·replace hm := ifT (h122) hm
      refine j8 (jk (jI ?_))
      obtain rfl := sj hm
      exact jj (⟨s.t5_1, s.t5_2⟩ : jA) (Y) (sE Y) (fun w hh => hh)
     replace hm := ifN h122 hm
     refine jt (jb (jr (jg Y Y ?_)))
     obtain ⟨t120_1, h123, hm⟩ := bindO hm
     refine jd [] [] Y Y Y Y Y Y Y call80 (fun w hh => Qx t42.r1 (qA l_1.2.2.2.v.q) l_1.2.2.2.v.n l_1.2.2.2.v.cap (toAL l_1.2.2.2.rs) w (HV.callee (S0 := []) (vs0 := []) hh (roC (hh.vsepD 0 Y h8) roN)) (Eq.trans (h9).len (vlen RwH h8 Y)) (AOK.q (vne h8)) (h8).hle ((h9).toDRO Y) (hh.dsepT 0 Y h9) h123) (fun l_27 h124 => ?_)
     refine jg Y Y (yW Y Y Y (yW Y Y Y (jo Y Y (jo Y Y (jq (ji (ji ?_)))))))
     obtain ⟨o_11, h125, h126⟩ := bindO hm
     refine jR (ι := Unit) (fun l_28 => True) (fun l_28 => [(2, .int .u8 turned2), (8, ptr b 0), (9, sL l_1.2.2.2.v), (12, ptr l_6 0), (13, ptr b_1 0), (14, sL l_8), (17, sL l_1.2.2.2.v), (92, .int .i64 s.t92), (132, .bool o_11)]) (fun l_28 => [kc b_1 #[.int .i64 t70.r0.lo, .int .i64 t70.r0.hi] 50, kc l_6 #[.slice qa1 na1 ca1, .int .i64 s.t5_1, .int .u32 s.t5_2] 199, kc l #[.slice qa0 na0 ca0, .int .i64 t48.b0_1, .int .u32 t48.b0_2] 199, kc b #[.int .i64 t42.r0.cells, .int .i64 t42.r0.tides, sL l_1.1, sL l_1.2.1, sL l_2] 26]) (fun l_28 => [⟨22, RwH.enc l_1.2.2.2.rs, l_1.2.2.2.v.sp, l_1.2.2.2.v.q, dbl 3 RI t42.r1 l_1.2.2.2.rs⟩, vL 66 l_8 (RI.enc t75.r0), vL 3 l_1.1 (RI.enc t42.r0.fords), vL 98 l_1.2.1 (RSa.enc t42.r0.sands), vL 55 l_2 (RSi.enc t48.r0)]) ?_ ?_
     ·replace hm := h125
      refine jh (jg Y Y (yp 0 runUnderlying50 Y sizeOf3 Y Y (qy 0 isAgg3 Y Y Y Y (J6 Y Y Y (jg Y Y ?_)))))
      refine jH 127 Y (fun h127 => ?_) (fun h127 => ?_)
      ·replace hm := ifD h127 hm
       refine g_k Y Y Y Y (g_k Y Y Y Y (g_k Y Y Y Y (g_k Y Y Y Y (qY Y Y Y (js ?_)))))
       obtain rfl := sj hm
       exact jj () (trivial) (sE Y) (fun w hh => hh)
      replace hm := ifE h127 hm
      refine ja Y Y (jg Y Y (ja Y Y (yp 1 runUnderlying50 Y sizeOf3 Y Y (ja Y Y (qy 0 isAgg3 Y Y Y Y (ja Y Y (jc Y Y Y (fun _ _ => Y4 Y Y) ?_)))))))
      refine q6 Y Y Y (js ?_)
      obtain rfl := sj hm
      exact jj () (trivial) (sE Y) (fun w hh => hh)
     intro l_28 hj
     replace hm := h126
     refine jb ?_
     refine ju Y (fun h128 => ?_) (fun h128 => ?_)
     ·replace hm := ifT (h128) hm
      refine jr (jo Y Y (jq (jx (je (jz ?_)))))
      obtain rfl := sj hm
      refine je ?_
      replace hm := ocR h41
      refine je (je (jz ?_))
      obtain rfl := sj hm
      have hbo := h38 _ Y
      subst hbo
      refine je ?_
      replace hm := ocR h37
      refine je ?_
      obtain rfl := sj hm
      refine jn Y (fun w hh => (.tmp Y .nil)) (fun w hh => ⟨(), rfl, trivial, hh.se [] [] 2 Y Y Y rfl⟩)
     replace hm := ifN h128 hm
     refine jt (jb (jr (yp 2 runUnderlying26 Y sizeOf22 Y Y (qy 3 isAgg22 Y Y Y Y (jc Y Y Y (fun w _ => Jh (vlen RI h5 Y) (runUnderlying22 w) Y) (jg Y Y (jq ?_)))))))
     obtain ⟨o_12, h129, h130⟩ := bindO hm
     refine jR (ι := Unit) (fun j_4 => o_12 = .inl j_4) (fun j_4 => [(2, .int .u8 turned2), (8, ptr b 0), (9, sL l_1.2.2.2.v), (12, ptr l_6 0), (13, ptr b_1 0), (14, sL l_8), (92, .int .i64 s.t92)]) (fun j_4 => [kc b_1 #[.int .i64 t70.r0.lo, .int .i64 t70.r0.hi] 50, kc l_6 #[.slice qa1 na1 ca1, .int .i64 s.t5_1, .int .u32 s.t5_2] 199, kc l #[.slice qa0 na0 ca0, .int .i64 t48.b0_1, .int .u32 t48.b0_2] 199, kc b #[.int .i64 t42.r0.cells, .int .i64 t42.r0.tides, sL l_1.1, sL l_1.2.1, sL l_2] 26]) (fun j_4 => [⟨22, RwH.enc l_1.2.2.2.rs, l_1.2.2.2.v.sp, l_1.2.2.2.v.q, dbl 3 RI t42.r1 l_1.2.2.2.rs⟩, vL 66 l_8 (RI.enc t75.r0), vL 3 l_1.1 (RI.enc t42.r0.fords), vL 98 l_1.2.1 (RSa.enc t42.r0.sands), vL 55 l_2 (RSi.enc t48.r0)]) ?_ ?_
     ·replace hm := h129
      refine jp ?_
      refine jV (ι := Unit) hm (fun s_3 l_29 => True) (fun s_3 l_29 => [(2, .int .u8 turned2), (8, ptr b 0), (9, sL l_1.2.2.2.v), (12, ptr l_6 0), (13, ptr b_1 0), (14, sL l_8), (17, sL l_1.2.2.2.v), (92, .int .i64 s.t92), (135, .int .i64 (t42.r0.fords.length : Int)), (136, .int .i64 s_3)]) (fun s_3 l_29 => [kc b_1 #[.int .i64 t70.r0.lo, .int .i64 t70.r0.hi] 50, kc l_6 #[.slice qa1 na1 ca1, .int .i64 s.t5_1, .int .u32 s.t5_2] 199, kc l #[.slice qa0 na0 ca0, .int .i64 t48.b0_1, .int .u32 t48.b0_2] 199, kc b #[.int .i64 t42.r0.cells, .int .i64 t42.r0.tides, sL l_1.1, sL l_1.2.1, sL l_2] 26]) (fun s_3 l_29 => [⟨22, RwH.enc l_1.2.2.2.rs, l_1.2.2.2.v.sp, l_1.2.2.2.v.q, dbl 3 RI t42.r1 l_1.2.2.2.rs⟩, vL 66 l_8 (RI.enc t75.r0), vL 3 l_1.1 (RI.enc t42.r0.fords), vL 98 l_1.2.1 (RSa.enc t42.r0.sands), vL 55 l_2 (RSi.enc t48.r0)]) () (trivial) (sE Y) (fun w hh => hh) (fun s_3 l_29 r_5 hpl hm h131 => ?_)
      unfold zc at hm
      refine jr (J6 Y Y Y (jq (ji ?_)))
      refine ju Y (fun h132 => ?_) (fun h132 => ?_)
      ·replace hm := ifD h132 hm
       refine jt (jb (ji (jp (jr (jg Y Y (jo Y Y (jq ?_)))))))
       refine ji (jr (jg Y Y (jc Y Y Y (fun w _ => Jh (Eq.trans (h9).len (vlen RwH h8 Y)) (runUnderlying41 w) Y) (jg Y Y (jq ?_)))))
       obtain ⟨o_13, h133, h134⟩ := bindO hm
       refine jR (ι := Unit) (fun j_5 => o_13 = .inl j_5) (fun j_5 => [(2, .int .u8 turned2), (8, ptr b 0), (9, sL l_1.2.2.2.v), (12, ptr l_6 0), (13, ptr b_1 0), (14, sL l_8), (17, sL l_1.2.2.2.v), (22, .int .i64 s_3), (92, .int .i64 s.t92), (135, .int .i64 (t42.r0.fords.length : Int)), (136, .int .i64 s_3)]) (fun j_5 => [kc b_1 #[.int .i64 t70.r0.lo, .int .i64 t70.r0.hi] 50, kc l_6 #[.slice qa1 na1 ca1, .int .i64 s.t5_1, .int .u32 s.t5_2] 199, kc l #[.slice qa0 na0 ca0, .int .i64 t48.b0_1, .int .u32 t48.b0_2] 199, kc b #[.int .i64 t42.r0.cells, .int .i64 t42.r0.tides, sL l_1.1, sL l_1.2.1, sL l_2] 26]) (fun j_5 => [⟨22, RwH.enc l_1.2.2.2.rs, l_1.2.2.2.v.sp, l_1.2.2.2.v.q, dbl 3 RI t42.r1 l_1.2.2.2.rs⟩, vL 66 l_8 (RI.enc t75.r0), vL 3 l_1.1 (RI.enc t42.r0.fords), vL 98 l_1.2.1 (RSa.enc t42.r0.sands), vL 55 l_2 (RSi.enc t48.r0)]) ?_ ?_
       ·replace hm := h133
        refine jp ?_
        refine jV (ι := Unit) hm (fun s_4 l_30 => True) (fun s_4 l_30 => [(2, .int .u8 turned2), (8, ptr b 0), (9, sL l_1.2.2.2.v), (12, ptr l_6 0), (13, ptr b_1 0), (14, sL l_8), (17, sL l_1.2.2.2.v), (22, .int .i64 s_3), (92, .int .i64 s.t92), (135, .int .i64 (t42.r0.fords.length : Int)), (136, .int .i64 s_3), (139, sL l_1.2.2.2.v), (140, .int .i64 (t42.r1.length : Int)), (141, .int .i64 s_4)]) (fun s_4 l_30 => [kc b_1 #[.int .i64 t70.r0.lo, .int .i64 t70.r0.hi] 50, kc l_6 #[.slice qa1 na1 ca1, .int .i64 s.t5_1, .int .u32 s.t5_2] 199, kc l #[.slice qa0 na0 ca0, .int .i64 t48.b0_1, .int .u32 t48.b0_2] 199, kc b #[.int .i64 t42.r0.cells, .int .i64 t42.r0.tides, sL l_1.1, sL l_1.2.1, sL l_2] 26]) (fun s_4 l_30 => [⟨22, RwH.enc l_1.2.2.2.rs, l_1.2.2.2.v.sp, l_1.2.2.2.v.q, dbl 3 RI t42.r1 l_1.2.2.2.rs⟩, vL 66 l_8 (RI.enc t75.r0), vL 3 l_1.1 (RI.enc t42.r0.fords), vL 98 l_1.2.1 (RSa.enc t42.r0.sands), vL 55 l_2 (RSi.enc t48.r0)]) () (trivial) (sE Y) (fun w hh => hh) (fun s_4 l_30 r_6 hpl hm h135 => ?_)
        unfold Jv at hm
        refine jr (J6 Y Y Y (jq (ji ?_)))
        refine ju Y (fun h136 => ?_) (fun h136 => ?_)
        ·replace hm := ifD h136 hm
         refine jt (jb (ji (jp (jr (jg Y Y ?_)))))
         obtain ⟨t144_1, h137, hm⟩ := bindO hm
         obtain ⟨L_3, h138, h139⟩ := (h9).row h137
         refine jc Y Y Y (fun w _ => zE h138 (runUnderlying41 w) (sizeOf22 w) Y Y (vlen RwH h8 Y) (vne h8)) (jc Y Y Y (fun w hh => k7 RwH 0 h138 (isAgg22 w) Y (hh.vseg 0 Y h8) Y (Nat.add_zero _).symm) (jo Y Y (jo Y Y (kO (z8 [_, _, _, _, _] 3 isAgg26 sizeOf26 Y Y Y Y (jg Y Y (jg Y Y ?_)))))))
         obtain ⟨t150_1, h140, hm⟩ := bindO hm
         refine jd [] [] Y Y Y Y Y Y Y call42 (fun w hh => K6 (⟨t42.r0.cells, t42.r0.tides, t42.r0.fords, t42.r0.sands, t48.r0⟩ : Channel) s_4 s_3 (qA l_1.1.q) l_1.1.n l_1.1.cap (qA l_1.2.1.q) l_1.2.1.n l_1.2.1.cap (qA l_2.q) l_2.n l_2.cap w (HV.callee (S0 := []) (vs0 := []) hh (roC (hh.vsepA 2 Y h5) (roC (hh.vsepA 3 Y h6) (roC (hh.vsepA 4 Y h13) roN)))) (vlen RI h5 Y) (AOK.q (vne h5)) (h5).hle (vlen RSa h6 Y) (AOK.q (vne h6)) (h6).hle (vlen RSi h13 Y) (AOK.q (vne h13)) (h13).hle h140) (fun l_31 h141 => ?_)
         have h142 := h141
         refine kQ (S' := [_, _, _, _]) (vs' := [_, _, _, _, _, _]) [0, 1, 2, 3] [0, 1, 2, 3, 4, 5] 0 Y Y Y Y (jg Y Y (yW Y Y Y (yW Y Y Y (jo Y Y (jo Y Y (jq (ji ?_)))))))
         obtain ⟨o_14, h143, h144⟩ := bindO hm
         refine jR (ι := Unit) (fun l_32 => True) (fun l_32 => [(2, .int .u8 turned2), (8, ptr b 0), (9, sL l_1.2.2.2.v), (12, ptr l_6 0), (13, ptr b_1 0), (14, sL l_8), (17, sL l_1.2.2.2.v), (22, .int .i64 s_3), (92, .int .i64 s.t92), (135, .int .i64 (t42.r0.fords.length : Int)), (136, .int .i64 s_3), (139, sL l_1.2.2.2.v), (140, .int .i64 (t42.r1.length : Int)), (141, .int .i64 s_4), (163, .bool o_14)]) (fun l_32 => [kc b_1 #[.int .i64 t70.r0.lo, .int .i64 t70.r0.hi] 50, kc l_6 #[.slice qa1 na1 ca1, .int .i64 s.t5_1, .int .u32 s.t5_2] 199, kc l #[.slice qa0 na0 ca0, .int .i64 t48.b0_1, .int .u32 t48.b0_2] 199, kc b #[.int .i64 t42.r0.cells, .int .i64 t42.r0.tides, sL l_1.1, sL l_1.2.1, sL l_2] 26]) (fun l_32 => [⟨22, RwH.enc l_1.2.2.2.rs, l_1.2.2.2.v.sp, l_1.2.2.2.v.q, dbl 3 RI t42.r1 l_1.2.2.2.rs⟩, vL 66 l_8 (RI.enc t75.r0), vL 3 l_1.1 (RI.enc t42.r0.fords), vL 98 l_1.2.1 (RSa.enc t42.r0.sands), vL 55 l_2 (RSi.enc t48.r0)]) ?_ ?_
         ·replace hm := h143
          refine jh (jg Y Y (jc Y Y Y (fun _ _ => Jk Y Y) (jg Y Y ?_)))
          refine jH 155 Y (fun h145 => ?_) (fun h145 => ?_)
          ·replace hm := ifF (of_ndec_true h145) hm
           refine g_k Y Y Y Y (g_k Y Y Y Y (g_k Y Y Y Y (g_k Y Y Y Y (g_k Y Y Y Y (g_k Y Y Y Y (g_k Y Y Y Y (qY Y Y Y ?_)))))))
           refine js ?_
           obtain rfl := sj hm
           exact jj () (trivial) (sE Y) (hsE [0, 1, 2, 3] [1, 2, 3, 4, 5] 0 Y Y Y Y)
          replace hm := ifT (of_ndec_false h145) hm
          refine ja Y Y (jg Y Y (ja Y Y (jg Y Y (ja Y Y (jg Y Y (ja Y Y ?_))))))
          obtain ⟨t159_1, h146, hm⟩ := bindO hm
          refine jc Y Y Y (fun w _ => zE h146 (runUnderlying22 w) (sizeOf3 w) Y Y (vlen RI h139 Y) (vne h139)) (ja Y Y (jc Y Y Y (fun w hh => k7 RI 0 h146 (isAgg3 w) Y (hh.dseg 1 Y h137 h138 h139) Y (Nat.add_zero _).symm) (ja Y Y ?_)))
          obtain ⟨t161_1, h147, hm⟩ := bindO hm
          refine jd [] [] Y Y Y Y Y Y Y call64 (fun w hh => jY t150_1.r0 t159_1 (qA l_31.q) l_31.n l_31.cap w (HV.callee (S0 := []) (vs0 := []) hh (roC (hh.vsepA 0 Y h142) roN)) (vlen RI h142 Y) (AOK.q (vne h142)) (h142).hle h147) (fun l_33 h148 => ?_)
          refine ja Y Y (jc Y Y Y (fun _ _ => yF Y) (q6 Y Y Y (js ?_)))
          obtain rfl := sj hm
          exact jj () (trivial) (sE Y) (hsE [0, 1, 2, 3] [1, 2, 3, 4, 5] 0 Y Y Y Y)
         intro l_32 hj
         replace hm := h144
         refine jb ?_
         refine ju Y (fun h149 => ?_) (fun h149 => ?_)
         ·replace hm := ifT (h149) hm
          refine jr (jo Y Y (jq (jx (jz (je (je (jz ?_)))))))
          obtain rfl := sj hm
          have hbo := h135 _ Y
          subst hbo
          refine je ?_
          replace hm := ocR h134
          refine je (jz (je (je (jz ?_))))
          obtain rfl := sj hm
          have hbo := h131 _ Y
          subst hbo
          refine je ?_
          replace hm := ocR h130
          refine jz ?_
          obtain rfl := sj hm
          refine je ?_
          replace hm := ocR h41
          refine je (je (jz ?_))
          obtain rfl := sj hm
          have hbo := h38 _ Y
          subst hbo
          refine je ?_
          replace hm := ocR h37
          refine je ?_
          obtain rfl := sj hm
          refine jn Y (fun w hh => (.tmp Y .nil)) (fun w hh => ⟨(), rfl, trivial, hh.se [] [] 2 Y Y Y rfl⟩)
         replace hm := ifN h149 hm
         refine jt (jw (jb (jh ?_)))
         obtain ⟨t164_1, h150, hm⟩ := bindO hm
         refine Ke h150 Y Y Y (jg Y Y (js ?_))
         obtain rfl := sj hm
         refine jb ?_
         exact jG _ () Y (trivial) (sE Y) (fun w hh => hh)
        replace hm := ifE h136 hm
        refine j8 (jk (jk (jI ?_)))
        obtain rfl := sj hm
        have hbo := h135 _ Y
        subst hbo
        exact jj () (Y) (sE Y) (fun w hh => hh)
       intro j_5 hj
       have h151 := hj
       subst h151
       replace hm := ocL h134
       refine jb (ji ?_)
       refine kE none (.free 0 (.free 1 (.hoist 2 (.free 3 (.hoist 4 (.free 5 (.free 6 (.hoist 7 (.free 8 (.hoist 9 (.free 10 (.free 11 (.hoist 12 (.free 13 (.free 14 .done))))))))))))))) _ Y (by decide +kernel) (fun w k hh => hh.draw k) (fun w hh => hh) ?_
       refine zb Y Y Y (Kk 1 runUnderlying26 sizeOf3 Y Y Y Y (KW 3 isAgg3 Y Y Y Y Y ?_))
       obtain ⟨t168_1, h152, hm⟩ := bindO hm
       obtain ⟨L_4, h153, h154⟩ := (h9).row h152
       refine jl Y Y Y Y (fun w _ => zE h153 (runUnderlying41 w) (sizeOf22 w) Y Y (vlen RwH h8 Y) (vne h8)) (jy Y Y Y Y (fun w hh => k7 RwH 0 h153 (isAgg22 w) Y (hh.vseg 0 Y h8) Y (Nat.add_zero _).symm) (zb Y Y Y ?_))
       obtain ⟨t171_1, h155, hm⟩ := bindO hm
       refine jl Y Y Y Y (fun w _ => zE h155 (runUnderlying22 w) (sizeOf3 w) Y Y (vlen RI h154 Y) (vne h154)) (jy Y Y Y Y (fun w hh => k7 RI 0 h155 (isAgg3 w) Y (hh.dseg 0 Y h152 h153 h154) Y (Nat.add_zero _).symm) (Kk 2 runUnderlying26 sizeOf22 Y Y Y Y (KW 3 isAgg22 Y Y Y Y Y (zb Y Y Y ?_))))
       obtain ⟨t176_1, h156, hm⟩ := bindO hm
       refine jl Y Y Y Y (fun w _ => zE h156 (runUnderlying22 w) (sizeOf3 w) Y Y (vlen RI h5 Y) (vne h5)) (jy Y Y Y Y (fun w hh => k7 RI 0 h156 (isAgg3 w) Y (hh.vseg 2 Y h5) Y (Nat.add_zero _).symm) (jl Y Y Y Y (fun _ _ => zS Y Y) (jl Y Y Y Y (fun _ _ => kl Y) (jS (jb (jr (z8 [_, _, _, _, _] 3 isAgg26 sizeOf26 Y Y Y Y ?_)))))))
       refine jg Y Y ?_
       obtain ⟨t182_1, h157, hm⟩ := bindO hm
       refine jd [] [] Y Y Y Y Y Y Y call37 (fun w hh => Q0 (⟨t42.r0.cells, t42.r0.tides, t42.r0.fords, t42.r0.sands, t48.r0⟩ : Channel) s_3 (qA l_1.1.q) l_1.1.n l_1.1.cap (qA l_1.2.1.q) l_1.2.1.n l_1.2.1.cap (qA l_2.q) l_2.n l_2.cap w (HV.callee (S0 := []) (vs0 := []) hh (roC (hh.vsepA 2 Y h5) (roC (hh.vsepA 3 Y h6) (roC (hh.vsepA 4 Y h13) roN)))) (vlen RI h5 Y) (AOK.q (vne h5)) (h5).hle (vlen RSa h6 Y) (AOK.q (vne h6)) (h6).hle (vlen RSi h13 Y) (AOK.q (vne h13)) (h13).hle h157) (fun l_34 h158 => ?_)
       refine jg Y Y (yW Y Y Y (yW Y Y Y ?_))
       refine jv (fun w => zeroValue50 w) Y (fun b_3 h159 => ?_)
       refine j3 (us := #[_, _]) (cs' := [_, _]) (S' := [_, _, _, _, _]) 0 (fun w => sizeOf50 w) Y Y Y Y Y Y Y (jo Y Y (jq (ji ?_)))
       refine kE none (.free 0 (.free 1 (.hoist 2 (.free 3 (.hoist 4 (.free 5 (.free 6 (.hoist 7 (.free 8 (.hoist 9 (.free 10 (.free 11 (.hoist 12 (.free 13 (.free 14 .done))))))))))))))) _ Y (by decide +kernel) (fun w k hh => hh.draw k) (fun w hh => hh) ?_
       refine zb Y Y Y (Kk 1 runUnderlying26 sizeOf3 Y Y Y Y (KW 4 isAgg3 Y Y Y Y Y ?_))
       obtain ⟨t188_1, h160, hm⟩ := bindO hm
       obtain ⟨L_5, h161, h162⟩ := (h9).row h160
       refine jl Y Y Y Y (fun w _ => zE h161 (runUnderlying41 w) (sizeOf22 w) Y Y (vlen RwH h8 Y) (vne h8)) (jy Y Y Y Y (fun w hh => k7 RwH 0 h161 (isAgg22 w) Y (hh.vseg 0 Y h8) Y (Nat.add_zero _).symm) (zb Y Y Y ?_))
       obtain ⟨t191_1, h163, hm⟩ := bindO hm
       refine jl Y Y Y Y (fun w _ => zE h163 (runUnderlying22 w) (sizeOf3 w) Y Y (vlen RI h162 Y) (vne h162)) (jy Y Y Y Y (fun w hh => k7 RI 0 h163 (isAgg3 w) Y (hh.dseg 0 Y h160 h161 h162) Y (Nat.add_zero _).symm) (Kk 2 runUnderlying26 sizeOf22 Y Y Y Y (KW 4 isAgg22 Y Y Y Y Y (zb Y Y Y ?_))))
       obtain ⟨t196_1, h164, hm⟩ := bindO hm
       refine jl Y Y Y Y (fun w _ => zE h164 (runUnderlying22 w) (sizeOf3 w) Y Y (vlen RI h5 Y) (vne h5)) (jy Y Y Y Y (fun w hh => k7 RI 0 h164 (isAgg3 w) Y (hh.vseg 2 Y h5) Y (Nat.add_zero _).symm) ?_)
       obtain ⟨t198_1, h165, hm⟩ := bindO hm
       refine jl Y Y Y Y (fun _ _ => zu h165 Y Y) (jl Y Y Y Y (fun _ _ => kl Y) (jS (jb (ji ?_))))
       obtain ⟨o_15, h166, h167⟩ := bindO hm
       refine jR (ι := Unit) (fun l_35 => True) (fun l_35 => [(2, .int .u8 turned2), (8, ptr b 0), (9, sL l_1.2.2.2.v), (12, ptr l_6 0), (13, ptr b_1 0), (14, sL l_8), (17, sL l_1.2.2.2.v), (92, .int .i64 s.t92), (135, .int .i64 (t42.r0.fords.length : Int)), (136, .int .i64 s_3), (233, .bool o_15)]) (fun l_35 => [kc b_3 #[.int .i64 t182_1.r0.lo, .int .i64 t182_1.r0.hi] 50, kc b_1 #[.int .i64 t70.r0.lo, .int .i64 t70.r0.hi] 50, kc l_6 #[.slice qa1 na1 ca1, .int .i64 s.t5_1, .int .u32 s.t5_2] 199, kc l #[.slice qa0 na0 ca0, .int .i64 t48.b0_1, .int .u32 t48.b0_2] 199, kc b #[.int .i64 t42.r0.cells, .int .i64 t42.r0.tides, sL l_1.1, sL l_1.2.1, sL l_2] 26]) (fun l_35 => [⟨22, RwH.enc l_1.2.2.2.rs, l_1.2.2.2.v.sp, l_1.2.2.2.v.q, dbl 3 RI t42.r1 l_1.2.2.2.rs⟩, vL 66 l_8 (RI.enc t75.r0), vL 3 l_1.1 (RI.enc t42.r0.fords), vL 98 l_1.2.1 (RSa.enc t42.r0.sands), vL 55 l_2 (RSi.enc t48.r0)]) ?_ ?_
       ·replace hm := h166
        refine jh (jg Y Y (jc Y Y Y (fun _ _ => Jk Y Y) (jg Y Y ?_)))
        refine jH 201 Y (fun h168 => ?_) (fun h168 => ?_)
        ·replace hm := ifF (of_ndec_true h168) hm
         refine g_k Y Y Y Y (g_k Y Y Y Y (g_k Y Y Y Y (g_k Y Y Y Y (qY Y Y Y (jg Y Y (g_k Y Y Y Y (g_k Y Y Y Y ?_)))))))
         refine g_k Y Y Y Y (g_k Y Y Y Y (qY Y Y Y (jg Y Y (g_k Y Y Y Y (g_k Y Y Y Y (g_k Y Y Y Y (g_k Y Y Y Y ?_)))))))
         refine g_k Y Y Y Y (g_k Y Y Y Y ?_)
         refine jB Y Y Y Y Y ?_
         refine jB Y Y Y Y Y ?_
         refine g_k Y Y Y Y (qY Y Y Y (jg Y Y (g_k Y Y Y Y (g_k Y Y Y Y (g_k Y Y Y Y (g_k Y Y Y Y (g_k Y Y Y Y ?_)))))))
         refine g_k Y Y Y Y ?_
         refine jB Y Y Y Y Y ?_
         refine g_k Y Y Y Y (qY Y Y Y (js ?_))
         obtain rfl := sj hm
         exact jj () (trivial) (sE Y) (fun w hh => hh)
        replace hm := ifT (of_ndec_false h168) hm
        refine ja Y Y (jg Y Y (ja Y Y (yp 0 runUnderlying50 Y sizeOf3 Y Y (ja Y Y (qy 0 isAgg3 Y Y Y Y (ja Y Y (J6 Y Y Y ?_)))))))
        refine q6 Y Y Y (jg Y Y ?_)
        refine jH 207 Y (fun h169 => ?_) (fun h169 => ?_)
        ·replace hm := ifD h169 hm
         refine g_k Y Y Y Y (g_k Y Y Y Y (g_k Y Y Y Y (g_k Y Y Y Y (qY Y Y Y (jg Y Y (g_k Y Y Y Y (g_k Y Y Y Y ?_)))))))
         refine g_k Y Y Y Y (g_k Y Y Y Y (g_k Y Y Y Y (g_k Y Y Y Y ?_)))
         refine jB Y Y Y Y Y ?_
         refine jB Y Y Y Y Y ?_
         refine g_k Y Y Y Y (qY Y Y Y (jg Y Y (g_k Y Y Y Y (g_k Y Y Y Y (g_k Y Y Y Y (g_k Y Y Y Y (g_k Y Y Y Y ?_)))))))
         refine g_k Y Y Y Y ?_
         refine jB Y Y Y Y Y ?_
         refine g_k Y Y Y Y (qY Y Y Y (js ?_))
         obtain rfl := sj hm
         exact jj () (trivial) (sE Y) (fun w hh => hh)
        replace hm := ifE h169 hm
        refine ja Y Y (jg Y Y (ja Y Y (yp 1 runUnderlying50 Y sizeOf3 Y Y (ja Y Y (qy 0 isAgg3 Y Y Y Y (ja Y Y (jc Y Y Y (fun _ _ => Y4 Y Y) ?_)))))))
        refine q6 Y Y Y (jg Y Y ?_)
        refine jH 213 Y (fun h170 => ?_) (fun h170 => ?_)
        ·replace hm := ifD h170 hm
         refine g_k Y Y Y Y (g_k Y Y Y Y (g_k Y Y Y Y (g_k Y Y Y Y (g_k Y Y Y Y (g_k Y Y Y Y ?_)))))
         refine jB Y Y Y Y Y ?_
         refine jB Y Y Y Y Y ?_
         refine g_k Y Y Y Y (qY Y Y Y (jg Y Y (g_k Y Y Y Y (g_k Y Y Y Y (g_k Y Y Y Y (g_k Y Y Y Y (g_k Y Y Y Y ?_)))))))
         refine g_k Y Y Y Y ?_
         refine jB Y Y Y Y Y ?_
         refine g_k Y Y Y Y (qY Y Y Y (js ?_))
         obtain rfl := sj hm
         exact jj () (trivial) (sE Y) (fun w hh => hh)
        replace hm := ifE h170 hm
        refine ja Y Y (jg Y Y (ja Y Y (jg Y Y (ja Y Y ?_))))
        obtain ⟨t216_1, h171, hm⟩ := bindO hm
        refine jc Y Y Y (fun w _ => zE h171 (runUnderlying58 w) (sizeOf66 w) Y Y (vlen RI h30 Y) (vne h30)) (ja Y Y (jc Y Y Y (fun w hh => k7 RI 0 h171 (isAgg66 w) Y (hh.vseg 1 Y h30) Y (Nat.add_zero _).symm) (ja Y Y (jc Y Y Y (fun _ _ => zS Y Y) (ja Y Y (jg Y Y ?_))))))
        refine jH 219 Y (fun h172 => ?_) (fun h172 => ?_)
        ·replace hm := ifD h172 hm
         refine ja Y Y (jg Y Y (ja Y Y (jc Y Y Y (fun _ _ => yF Y) (ja Y Y (qY Y Y Y (q6 Y Y Y (jg Y Y ?_)))))))
         refine jH 224 Y (fun h173 => ?_) (fun h173 => ?_)
         ·replace hm := ifF (of_ndec_true h173) hm
          refine g_k Y Y Y Y (g_k Y Y Y Y (g_k Y Y Y Y (g_k Y Y Y Y (g_k Y Y Y Y (g_k Y Y Y Y ?_)))))
          refine jB Y Y Y Y Y ?_
          refine g_k Y Y Y Y (qY Y Y Y (js ?_))
          obtain rfl := sj hm
          exact jj () (trivial) (sE Y) (fun w hh => hh)
         replace hm := ifT (of_ndec_false h173) hm
         refine ja Y Y (jg Y Y (ja Y Y (jg Y Y (ja Y Y ?_))))
         obtain ⟨t227_2, h174, hm⟩ := bindO hm
         refine jc Y Y Y (fun w _ => zE h174 (runUnderlying58 w) (sizeOf66 w) Y Y (vlen RI h30 Y) (vne h30)) (ja Y Y (jc Y Y Y (fun w hh => k7 RI 0 h174 (isAgg66 w) Y (hh.vseg 1 Y h30) Y (Nat.add_zero _).symm) (ja Y Y (jc Y Y Y (fun _ _ => zS Y Y) (ja Y Y (jg Y Y ?_))))))
         refine jH 230 Y (fun h175 => ?_) (fun h175 => ?_)
         ·replace hm := ifD h175 hm
          refine ja Y Y (jg Y Y (ja Y Y (qY Y Y Y (q6 Y Y Y (js ?_)))))
          obtain rfl := sj hm
          exact jj () (trivial) (sE Y) (fun w hh => hh)
         replace hm := ifE h175 hm
         refine g_k Y Y Y Y (ja Y Y (q6 Y Y Y (q6 Y Y Y (js ?_))))
         obtain rfl := sj hm
         exact jj () (trivial) (sE Y) (fun w hh => hh)
        replace hm := ifE h172 hm
        refine g_k Y Y Y Y (g_k Y Y Y Y (ja Y Y (q6 Y Y Y (q6 Y Y Y (jg Y Y (ja Y Y (jg Y Y ?_)))))))
        refine ja Y Y (jg Y Y (ja Y Y ?_))
        obtain ⟨t227_3, h176, hm⟩ := bindO hm
        refine jc Y Y Y (fun w _ => zE h176 (runUnderlying58 w) (sizeOf66 w) Y Y (vlen RI h30 Y) (vne h30)) (ja Y Y (jc Y Y Y (fun w hh => k7 RI 0 h176 (isAgg66 w) Y (hh.vseg 1 Y h30) Y (Nat.add_zero _).symm) (ja Y Y (jc Y Y Y (fun _ _ => zS Y Y) (ja Y Y (jg Y Y ?_))))))
        refine jH 230 Y (fun h177 => ?_) (fun h177 => ?_)
        ·replace hm := ifD h177 hm
         refine ja Y Y (jg Y Y (ja Y Y (qY Y Y Y (q6 Y Y Y (js ?_)))))
         obtain rfl := sj hm
         exact jj () (trivial) (sE Y) (fun w hh => hh)
        replace hm := ifE h177 hm
        refine g_k Y Y Y Y (ja Y Y (q6 Y Y Y (q6 Y Y Y (js ?_))))
        obtain rfl := sj hm
        exact jj () (trivial) (sE Y) (fun w hh => hh)
       intro l_35 hj
       replace hm := h167
       refine jb ?_
       refine ju Y (fun h178 => ?_) (fun h178 => ?_)
       ·replace hm := ifT (h178) hm
        refine jr (jo Y Y (jq (jx (jz (je (je (jz ?_)))))))
        obtain rfl := sj hm
        have hbo := h131 _ Y
        subst hbo
        refine je ?_
        replace hm := ocR h130
        refine jz ?_
        obtain rfl := sj hm
        refine je ?_
        replace hm := ocR h41
        refine je (je (jz ?_))
        obtain rfl := sj hm
        have hbo := h38 _ Y
        subst hbo
        refine je ?_
        replace hm := ocR h37
        refine je ?_
        obtain rfl := sj hm
        refine jn Y (fun w hh => (.tmp Y .nil)) (fun w hh => ⟨(), rfl, trivial, hh.se [] [] 2 Y Y Y rfl⟩)
       replace hm := ifN h178 hm
       refine jt (jw (jb (jh ?_)))
       obtain ⟨t234_1, h179, hm⟩ := bindO hm
       refine Ke h179 Y Y Y (jg Y Y (js ?_))
       obtain rfl := sj hm
       refine jb ?_
       exact jG _ () Y (trivial) (sE Y) (hsE [1, 2, 3, 4] [0, 1, 2, 3, 4] 0 Y Y Y Y)
      replace hm := ifE h132 hm
      refine j8 (jk (jk (jI ?_)))
      obtain rfl := sj hm
      have hbo := h131 _ Y
      subst hbo
      exact jj () (Y) (sE Y) (fun w hh => hh)
     intro j_4 hj
     have h180 := hj
     subst h180
     replace hm := ocL h130
     refine jw ?_
     obtain rfl := sj hm
     exact jj (⟨s.t5_1, s.t5_2⟩ : jA) (Y) (sE Y) (fun w hh => hh)
    intro j_1 hj
    have h181 := hj
    subst h181
    replace hm := ocL h41
    refine jb (jh ?_)
    obtain ⟨t235, h182, hm⟩ := bindO hm
    refine Ke h182 Y Y Y (jg Y Y (js ?_))
    obtain rfl := sj hm
    refine jb ?_
    exact jG _ () Y (trivial) (sE Y) (fun w hh => hh)
   replace hm := ifE h39 hm
   refine j8 (jk (jk (jI ?_)))
   obtain rfl := sj hm
   have hbo := h38 _ Y
   subst hbo
   exact jj (⟨s.t5_1, s.t5_2⟩ : qR) (Y) (sE Y) (hsE [0, 1, 2, 3] [2, 3, 4] 0 Y Y Y Y)
  intro j hj
  have h183 := hj
  subst h183
  replace hm := ocL h37
  refine jb (jr (jo Y Y (jq (ji (jr (yp 4 runUnderlying26 Y sizeOf24 Y Y (qy 3 isAgg24 Y Y Y Y ?_)))))))
  refine jc Y Y Y (fun w _ => Jh (vlen RSi h13 Y) (runUnderlying24 w) Y) (jg Y Y (jq ?_))
  obtain ⟨o_16, h184, h185⟩ := bindO hm
  refine jR (ι := Unit) (fun l_36 => VOK 3 l_2.n l_2.cap (RSi.enc o_16.r0) l_2.sp l_2.q) (fun l_36 => [(8, ptr b 0), (31, .int .i64 o_16.wrong31)]) (fun l_36 => [kc b_1 #[.int .i64 t70.r0.lo, .int .i64 t70.r0.hi] 50, kc l_6 #[.slice qa1 na1 ca1, .int .i64 j.t5_1, .int .u32 j.t5_2] 199, kc l #[.slice qa0 na0 ca0, .int .i64 t48.b0_1, .int .u32 t48.b0_2] 199, kc b #[.int .i64 t42.r0.cells, .int .i64 t42.r0.tides, sL l_1.1, sL l_1.2.1, sL l_2] 26]) (fun l_36 => [vL 3 l_1.1 (RI.enc t42.r0.fords), vL 98 l_1.2.1 (RSa.enc t42.r0.sands), vL 55 l_2 (RSi.enc o_16.r0)]) ?_ ?_
  ·replace hm := h184
   refine jp ?_
   refine jV (ι := Unit) hm (fun s_5 l_37 => VOK 3 l_2.n l_2.cap (RSi.enc s_5.r0) l_2.sp l_2.q) (fun s_5 l_37 => [(2, .int .u8 turned2), (8, ptr b 0), (31, .int .i64 s_5.wrong31), (238, .int .i64 (t48.r0.length : Int)), (239, .int .i64 s_5.t239)]) (fun s_5 l_37 => [kc b_1 #[.int .i64 t70.r0.lo, .int .i64 t70.r0.hi] 50, kc l_6 #[.slice qa1 na1 ca1, .int .i64 j.t5_1, .int .u32 j.t5_2] 199, kc l #[.slice qa0 na0 ca0, .int .i64 t48.b0_1, .int .u32 t48.b0_2] 199, kc b #[.int .i64 t42.r0.cells, .int .i64 t42.r0.tides, sL l_1.1, sL l_1.2.1, sL l_2] 26]) (fun s_5 l_37 => [vL 3 l_1.1 (RI.enc t42.r0.fords), vL 98 l_1.2.1 (RSa.enc t42.r0.sands), vL 55 l_2 (RSi.enc s_5.r0)]) () (h13) (sE Y) (fun w hh => hh) (fun s_5 l_37 r_10 hpl hm h188 => ?_)
   have h187 := hpl
   unfold kT at hm
   refine jr (J6 Y Y Y (jq (ji ?_)))
   refine ju Y (fun h189 => ?_) (fun h189 => ?_)
   ·replace hm := ifD h189 hm
    refine jt (jb (ji ?_))
    obtain ⟨o_17, h190, h191⟩ := bindO hm
    refine jR (ι := Unit) (fun l_38 => VOK 3 l_2.n l_2.cap (RSi.enc o_17.r0) l_2.sp l_2.q) (fun l_38 => [(2, .int .u8 turned2), (8, ptr b 0), (31, .int .i64 o_17.wrong31), (238, .int .i64 (t48.r0.length : Int)), (239, .int .i64 s_5.t239)]) (fun l_38 => [kc b_1 #[.int .i64 t70.r0.lo, .int .i64 t70.r0.hi] 50, kc l_6 #[.slice qa1 na1 ca1, .int .i64 j.t5_1, .int .u32 j.t5_2] 199, kc l #[.slice qa0 na0 ca0, .int .i64 t48.b0_1, .int .u32 t48.b0_2] 199, kc b #[.int .i64 t42.r0.cells, .int .i64 t42.r0.tides, sL l_1.1, sL l_1.2.1, sL l_2] 26]) (fun l_38 => [vL 3 l_1.1 (RI.enc t42.r0.fords), vL 98 l_1.2.1 (RSa.enc t42.r0.sands), vL 55 l_2 (RSi.enc o_17.r0)]) ?_ ?_
    ·replace hm := h190
     refine jp (jr (jg Y Y (jo Y Y (kO (jg Y Y (jg Y Y ?_))))))
     obtain ⟨h193, hm⟩ := ifO hm
     refine jc Y Y Y (fun _ _ => jb6 Y Y h193) (jc Y Y Y (fun _ _ => jbd Y Y Y) (jc Y Y Y (fun _ _ => zS Y Y) (jq ?_)))
     refine ju Y (fun h194 => ?_) (fun h194 => ?_)
     ·replace hm := ifD h194 hm
      refine ji ?_
      refine kE (some 12) (.free 0 (.hoist 1 (.free 2 (.free 3 (.hoist 4 (.free 5 (.free 6 (.free 7 (.hoist 8 (.free 9 (.free 10 (.free 11 (.last 12 .done))))))))))))) _ Y (by decide +kernel) (fun w k hh => hh.draw k) (fun w hh => hh) ?_
      refine Kk 4 runUnderlying26 sizeOf24 Y Y Y Y (KW 3 isAgg24 Y Y Y Y Y (zb Y Y Y (Kk 4 runUnderlying26 sizeOf24 Y Y Y Y (KW 3 isAgg24 Y Y Y Y Y (zb Y Y Y ?_)))))
      obtain ⟨t253, h195, hm⟩ := bindO hm
      refine jl Y Y Y Y (fun w _ => zE h195 (runUnderlying24 w) (sizeOf55 w) Y Y (vlen RSi h187 Y) (vne h187)) (Kk 2 runUnderlying55 sizeOf4 Y Y Y Y (jy Y Y Y Y (fun w hh => k7 RSi 2 h195 (isAgg4 w) Y (hh.vseg 2 Y h187) Y Y) (jl Y Y Y Y (fun _ _ => yF Y) ?_)))
      obtain ⟨t257, h196, hm⟩ := bindO hm
      refine jl Y Y Y Y (fun w _ => zE h196 (runUnderlying24 w) (sizeOf55 w) Y Y (vlen RSi h187 Y) (vne h187)) (Kk 2 runUnderlying55 sizeOf4 Y Y Y Y (ZG Y ?_))
      obtain ⟨r0, hr0, hm⟩ := bindO hm
      refine jbK RSi 2 2 (⟨t257.after, t257.cell, (!t253.upright)⟩ : Sight) (fun w => sizeOf4 w) Y Y Y Y h187 Y Y Y h196 Y Y (Option.some.inj hr0) (fun h197 => ?_)
      refine kQ (S' := [_, _, _, _]) (vs' := [_, _, _]) [0, 1, 2, 3] [0, 1, 2] 0 Y Y Y Y (YR (jS (jb (jh (jg Y Y ?_)))))
      obtain ⟨t260, h198, hm⟩ := bindO hm
      refine Ke h198 Y Y Y (jo Y Y (js (jw ?_)))
      obtain rfl := sj hm
      exact jj () (h197) (sE Y) (fun w hh => hh)
     replace hm := ifE h194 hm
     refine jt (jw ?_)
     obtain rfl := sj hm
     exact jj () (h187) (sE Y) (fun w hh => hh)
    intro l_38 hj
    have h192 := hj
    replace hm := h191
    refine jb (jh ?_)
    obtain ⟨t261, h199, hm⟩ := bindO hm
    refine Ke h199 Y Y Y (jg Y Y (js ?_))
    obtain rfl := sj hm
    refine jb ?_
    exact jG _ () Y (h192) (sE Y) (fun w hh => hh)
   replace hm := ifE h189 hm
   refine j8 (jk (jk (jI ?_)))
   obtain rfl := sj hm
   have hbo := h188 _ Y
   subst hbo
   exact jj () (h187) (sE Y) (fun w hh => hh)
  intro l_36 hj
  have h186 := hj
  replace hm := h185
  refine jb (jr (z8 [_, _, _, _, _] 3 isAgg26 sizeOf26 Y Y Y Y ?_))
  obtain ⟨t264, h200, hm⟩ := bindO hm
  refine jd [] [] Y Y Y Y Y Y Y call52 (fun w hh => Zi (⟨t42.r0.cells, t42.r0.tides, t42.r0.fords, t42.r0.sands, o_16.r0⟩ : Channel) (qA l_1.1.q) l_1.1.n l_1.1.cap (qA l_1.2.1.q) l_1.2.1.n l_1.2.1.cap (qA l_2.q) l_2.n l_2.cap w (HV.callee (S0 := []) (vs0 := []) hh (roC (hh.vsepA 0 Y h5) (roC (hh.vsepA 1 Y h6) (roC (hh.vsepA 2 Y h186) roN)))) (vlen RI h5 Y) (AOK.q (vne h5)) (h5).hle (vlen RSa h6 Y) (AOK.q (vne h6)) (h6).hle (vlen RSi h186 Y) (AOK.q (vne h186)) (h186).hle h200) (fun l_39 h201 => ?_)
  have h202 := h201
  refine kQ (S' := [_, _, _, _]) (vs' := [_, _, _, _]) [0, 1, 2, 3] [0, 1, 2, 3] 0 Y Y Y Y (jg Y Y (yW Y Y Y (yW Y Y Y (jo Y Y (jo Y Y (kO (z8 [_, _, _, _, _] 3 isAgg26 sizeOf26 Y Y Y Y ?_)))))))
  obtain ⟨t269, h203, hm⟩ := bindO hm
  refine jd [] [] Y Y Y Y Y Y Y call26 (fun w hh => K9 (⟨t42.r0.cells, t42.r0.tides, t42.r0.fords, t42.r0.sands, o_16.r0⟩ : Channel) (qA l_1.1.q) l_1.1.n l_1.1.cap (qA l_1.2.1.q) l_1.2.1.n l_1.2.1.cap (qA l_2.q) l_2.n l_2.cap w (HV.callee (S0 := []) (vs0 := []) hh (roC (hh.vsepA 1 Y h5) (roC (hh.vsepA 2 Y h6) (roC (hh.vsepA 3 Y h186) roN)))) (vlen RI h5 Y) (AOK.q (vne h5)) (h5).hle (vlen RSa h6 Y) (AOK.q (vne h6)) (h6).hle (vlen RSi h186 Y) (AOK.q (vne h186)) (h186).hle h203) (fun l_40 h204 => ?_)
  refine jg Y Y (yW Y Y Y (yW Y Y Y (jo Y Y (jo Y Y (jq (ji (ji ?_)))))))
  obtain ⟨o_18, h205, h206⟩ := bindO hm
  refine jR (ι := Unit) (fun l_41 => True) (fun l_41 => [(8, ptr b 0), (33, sL l_39), (291, .bool o_18)]) (fun l_41 => [kc b_1 #[.int .i64 t70.r0.lo, .int .i64 t70.r0.hi] 50, kc l_6 #[.slice qa1 na1 ca1, .int .i64 j.t5_1, .int .u32 j.t5_2] 199, kc l #[.slice qa0 na0 ca0, .int .i64 t48.b0_1, .int .u32 t48.b0_2] 199, kc b #[.int .i64 t42.r0.cells, .int .i64 t42.r0.tides, sL l_1.1, sL l_1.2.1, sL l_2] 26]) (fun l_41 => [vL 3 l_39 (RI.enc t264.r0), vL 3 l_1.1 (RI.enc t42.r0.fords), vL 98 l_1.2.1 (RSa.enc t42.r0.sands), vL 55 l_2 (RSi.enc o_16.r0)]) ?_ ?_
  ·replace hm := h205
   refine jh (jg Y Y (jc Y Y Y (fun _ _ => Jk Y Y) (jg Y Y ?_)))
   refine jH 274 Y (fun h207 => ?_) (fun h207 => ?_)
   ·replace hm := ifF (of_ndec_true h207) hm
    refine g_k Y Y Y Y (g_k Y Y Y Y (qY Y Y Y (jg Y Y (g_k Y Y Y Y (g_k Y Y Y Y (g_k Y Y Y Y (g_k Y Y Y Y ?_)))))))
    refine qY Y Y Y (jg Y Y (g_k Y Y Y Y (g_k Y Y Y Y (g_k Y Y Y Y (g_k Y Y Y Y (g_k Y Y Y Y (g_k Y Y Y Y ?_)))))))
    refine qY Y Y Y (js ?_)
    obtain rfl := sj hm
    exact jj () (trivial) (sE Y) (fun w hh => hh)
   replace hm := ifT (of_ndec_false h207) hm
   refine ja Y Y (jg Y Y (ja Y Y (jc Y Y Y (fun _ _ => Jk Y Y) (q6 Y Y Y (jg Y Y ?_)))))
   refine jH 278 Y (fun h208 => ?_) (fun h208 => ?_)
   ·replace hm := ifF (of_ndec_true h208) hm
    refine g_k Y Y Y Y (g_k Y Y Y Y (g_k Y Y Y Y (g_k Y Y Y Y (qY Y Y Y (jg Y Y (g_k Y Y Y Y (g_k Y Y Y Y ?_)))))))
    refine g_k Y Y Y Y (g_k Y Y Y Y (g_k Y Y Y Y (g_k Y Y Y Y (qY Y Y Y (js ?_)))))
    obtain rfl := sj hm
    exact jj () (trivial) (sE Y) (fun w hh => hh)
   replace hm := ifT (of_ndec_false h208) hm
   refine ja Y Y (jg Y Y (ja Y Y (jc Y Y Y (fun w _ => Jh (vlen RI h202 Y) (runUnderlying22 w) Y) (ja Y Y (jg Y Y (ja Y Y (jc Y Y Y (fun _ _ => Y4 Y Y) ?_)))))))
   refine q6 Y Y Y (jg Y Y ?_)
   refine jH 284 Y (fun h209 => ?_) (fun h209 => ?_)
   ·replace hm := ifD h209 hm
    refine g_k Y Y Y Y (g_k Y Y Y Y (g_k Y Y Y Y (g_k Y Y Y Y (g_k Y Y Y Y (g_k Y Y Y Y (qY Y Y Y (js ?_)))))))
    obtain rfl := sj hm
    exact jj () (trivial) (sE Y) (fun w hh => hh)
   replace hm := ifE h209 hm
   refine ja Y Y (jg Y Y (ja Y Y (jc Y Y Y (fun w _ => Jh (vlen RI h202 Y) (runUnderlying22 w) Y) (ja Y Y (jc Y Y Y (fun _ _ => zS Y Y) (ja Y Y (jg Y Y ?_)))))))
   refine ja Y Y (jc Y Y Y (fun _ _ => Y4 Y Y) (ja Y Y (jc Y Y Y (fun w _ => Q8 (runUnderlying4 w) Y Y) (q6 Y Y Y (js ?_)))))
   obtain rfl := sj hm
   exact jj () (trivial) (sE Y) (fun w hh => hh)
  intro l_41 hj
  replace hm := h206
  refine jb ?_
  refine ju Y (fun h210 => ?_) (fun h210 => ?_)
  ·replace hm := ifT (h210) hm
   refine jr (jo Y Y (jq (jx (je ?_))))
   obtain rfl := sj hm
   refine jn Y (fun w hh => (.tmp Y .nil)) (fun w hh => ⟨(), rfl, trivial, hh.se [] [] 2 Y Y Y rfl⟩)
  replace hm := ifN h210 hm
  refine jt (jb (jr (jc Y Y Y (fun _ _ => zf Y) (jq (ji (jr (yp 4 runUnderlying26 Y sizeOf24 Y Y ?_)))))))
  refine qy 3 isAgg24 Y Y Y Y (jc Y Y Y (fun w _ => Jh (vlen RSi h186 Y) (runUnderlying24 w) Y) (jg Y Y (jq (Kq 3 ?_))))
  obtain ⟨o_19, h211, h212⟩ := bindO hm
  refine jR (ι := VL) (fun l_42 => VOK 1 l_42.n l_42.cap (RI.enc o_19) l_42.sp l_42.q) (fun l_42 => [(8, ptr b 0), (33, sL l_39), (35, sL l_42)]) (fun l_42 => [kc b_1 #[.int .i64 t70.r0.lo, .int .i64 t70.r0.hi] 50, kc l_6 #[.slice qa1 na1 ca1, .int .i64 j.t5_1, .int .u32 j.t5_2] 199, kc l #[.slice qa0 na0 ca0, .int .i64 t48.b0_1, .int .u32 t48.b0_2] 199, kc b #[.int .i64 t42.r0.cells, .int .i64 t42.r0.tides, sL l_1.1, sL l_1.2.1, sL l_2] 26]) (fun l_42 => [vL 3 l_39 (RI.enc t264.r0), vL 3 l_42 (RI.enc o_19), vL 3 l_1.1 (RI.enc t42.r0.fords), vL 98 l_1.2.1 (RSa.enc t42.r0.sands), vL 55 l_2 (RSi.enc o_16.r0)]) ?_ ?_
  ·replace hm := h211
   refine jp ?_
   refine jV (ι := VL) hm (fun s_6 l_43 => VOK 1 l_43.n l_43.cap (RI.enc s_6.rest35) l_43.sp l_43.q) (fun s_6 l_43 => [(8, ptr b 0), (33, sL l_39), (35, sL l_43), (294, .int .i64 (o_16.r0.length : Int)), (295, .int .i64 s_6.t295)]) (fun s_6 l_43 => [kc b_1 #[.int .i64 t70.r0.lo, .int .i64 t70.r0.hi] 50, kc l_6 #[.slice qa1 na1 ca1, .int .i64 j.t5_1, .int .u32 j.t5_2] 199, kc l #[.slice qa0 na0 ca0, .int .i64 t48.b0_1, .int .u32 t48.b0_2] 199, kc b #[.int .i64 t42.r0.cells, .int .i64 t42.r0.tides, sL l_1.1, sL l_1.2.1, sL l_2] 26]) (fun s_6 l_43 => [vL 3 l_39 (RI.enc t264.r0), vL 3 l_43 (RI.enc s_6.rest35), vL 3 l_1.1 (RI.enc t42.r0.fords), vL 98 l_1.2.1 (RSa.enc t42.r0.sands), vL 55 l_2 (RSi.enc o_16.r0)]) ⟨none, 0, 0, []⟩ (VOK.nil) (sE Y) (hsE [0, 1, 2, 3] [1, 0, 2, 3, 4] 0 Y Y Y Y) (fun s_6 l_43 r_11 hpl hm h215 => ?_)
   have h214 := hpl
   unfold kk at hm
   refine jr (J6 Y Y Y (jq (ji ?_)))
   refine ju Y (fun h216 => ?_) (fun h216 => ?_)
   ·replace hm := ifD h216 hm
    refine jt (jb (ji ?_))
    obtain ⟨o_20, h217, h218⟩ := bindO hm
    refine jR (ι := VL) (fun l_44 => VOK 1 l_44.n l_44.cap (RI.enc o_20) l_44.sp l_44.q) (fun l_44 => [(8, ptr b 0), (33, sL l_39), (35, sL l_44), (294, .int .i64 (o_16.r0.length : Int)), (295, .int .i64 s_6.t295)]) (fun l_44 => [kc b_1 #[.int .i64 t70.r0.lo, .int .i64 t70.r0.hi] 50, kc l_6 #[.slice qa1 na1 ca1, .int .i64 j.t5_1, .int .u32 j.t5_2] 199, kc l #[.slice qa0 na0 ca0, .int .i64 t48.b0_1, .int .u32 t48.b0_2] 199, kc b #[.int .i64 t42.r0.cells, .int .i64 t42.r0.tides, sL l_1.1, sL l_1.2.1, sL l_2] 26]) (fun l_44 => [vL 3 l_39 (RI.enc t264.r0), vL 3 l_44 (RI.enc o_20), vL 3 l_1.1 (RI.enc t42.r0.fords), vL 98 l_1.2.1 (RSa.enc t42.r0.sands), vL 55 l_2 (RSi.enc o_16.r0)]) ?_ ?_
    ·replace hm := h217
     refine jp (jr (jg Y Y (jo Y Y (kO (jg Y Y (jg Y Y ?_))))))
     obtain ⟨t300, h220, hm⟩ := bindO hm
     refine jd [] [] Y Y Y Y Y Y Y call64 (fun w hh => jY t264.r0 s_6.t295 (qA l_39.q) l_39.n l_39.cap w (HV.callee (S0 := []) (vs0 := []) hh (roC (hh.vsepA 0 Y h202) roN)) (vlen RI h202 Y) (AOK.q (vne h202)) (h202).hle h220) (fun l_45 h221 => ?_)
     refine jc Y Y Y (fun _ _ => yF Y) (jq ?_)
     refine ju Y (fun h222 => ?_) (fun h222 => ?_)
     ·replace hm := ifT (h222) hm
      refine jh (jg Y Y (jg Y Y ?_))
      refine qI RI [s_6.t295] (ps := [(0, _)]) (cells := [_]) (fun w => runUnderlying22 w) (fun w => sizeOf3 w) (fun w => zeroValue3 w) Y Y Y Y Y Y Y Y (fun L_6 h223 => ?_)
      obtain ⟨t305, h224, hm⟩ := bindO hm
      refine Ko RI 2 h224 underlying22 YE Y Y Y Y Y h214 Y Y (vlen RI h223 Y) (AOK.q (vne h223)) (fun w hh => (hh.vsegA 0 Y h223)) Y (fun L_7 h225 h225n => ?_)
      refine kQ (S' := [_, _, _, _]) (vs' := [_, _, _, _, _, _]) [0, 1, 2, 3] [0, 1, 2, 3, 4, 5] 0 Y Y Y Y (jo Y Y (js (jw ?_)))
      obtain rfl := sj hm
      exact jj L_7 (h225) (sE Y) (hsE [0, 1, 2, 3] [1, 2, 3, 4, 5] 0 Y Y Y Y)
     replace hm := ifN h222 hm
     refine jt (jw ?_)
     obtain rfl := sj hm
     exact jj l_43 (h214) (sE Y) (fun w hh => hh)
    intro l_44 hj
    have h219 := hj
    replace hm := h218
    refine jb (jh ?_)
    obtain ⟨t306, h226, hm⟩ := bindO hm
    refine Ke h226 Y Y Y (jg Y Y (js ?_))
    obtain rfl := sj hm
    refine jb ?_
    exact jG _ l_44 Y (h219) (sE Y) (fun w hh => hh)
   replace hm := ifE h216 hm
   refine j8 (jk (jk (jI ?_)))
   obtain rfl := sj hm
   have hbo := h215 _ Y
   subst hbo
   exact jj l_43 (h214) (sE Y) (fun w hh => hh)
  intro l_42 hj
  have h213 := hj
  replace hm := h212
  refine jb (jr (z8 [_, _, _, _, _] 3 isAgg26 sizeOf26 Y Y Y Y (jg Y Y ?_)))
  obtain ⟨t310, h227, hm⟩ := bindO hm
  refine jd [] [] Y Y Y Y Y Y Y call47 (fun w hh => Z7 (⟨t42.r0.cells, t42.r0.tides, t42.r0.fords, t42.r0.sands, o_16.r0⟩ : Channel) o_19 (qA l_1.1.q) l_1.1.n l_1.1.cap (qA l_1.2.1.q) l_1.2.1.n l_1.2.1.cap (qA l_2.q) l_2.n l_2.cap (qA l_42.q) l_42.n l_42.cap w (HV.callee (S0 := []) (vs0 := []) hh (roC (hh.vsepA 2 Y h5) (roC (hh.vsepA 3 Y h6) (roC (hh.vsepA 4 Y h186) (roC (hh.vsepA 1 Y h213) roN))))) (vlen RI h5 Y) (AOK.q (vne h5)) (h5).hle (vlen RSa h6 Y) (AOK.q (vne h6)) (h6).hle (vlen RSi h186 Y) (AOK.q (vne h186)) (h186).hle (vlen RI h213 Y) (AOK.q (vne h213)) (h213).hle h227) (fun l_46 h228 => ?_)
  refine jg Y Y (yW Y Y Y (yW Y Y Y (jo Y Y (jo Y Y (jq (ji ?_))))))
  obtain ⟨o_21, h229, h230⟩ := bindO hm
  refine jR (ι := Unit) (fun l_47 => True) (fun l_47 => [(6, .bool o_21)]) (fun l_47 => [kc b_1 #[.int .i64 t70.r0.lo, .int .i64 t70.r0.hi] 50, kc l_6 #[.slice qa1 na1 ca1, .int .i64 j.t5_1, .int .u32 j.t5_2] 199, kc l #[.slice qa0 na0 ca0, .int .i64 t48.b0_1, .int .u32 t48.b0_2] 199, kc b #[.int .i64 t42.r0.cells, .int .i64 t42.r0.tides, sL l_1.1, sL l_1.2.1, sL l_2] 26]) (fun l_47 => [vL 3 l_1.1 (RI.enc t42.r0.fords), vL 98 l_1.2.1 (RSa.enc t42.r0.sands), vL 55 l_2 (RSi.enc o_16.r0)]) ?_ ?_
  ·replace hm := h229
   refine jh (jg Y Y (jc Y Y Y (fun _ _ => zS Y Y) (jg Y Y ?_)))
   refine jH 315 Y (fun h231 => ?_) (fun h231 => ?_)
   ·replace hm := ifD h231 hm
    refine ja Y Y (jg Y Y (qY Y Y Y (jg Y Y ?_)))
    refine jH 318 Y (fun h232 => ?_) (fun h232 => ?_)
    ·replace hm := ifT (h232) hm
     refine ja Y Y (jg Y Y (ja Y Y (jc Y Y Y (fun w _ => Jh (vlen RI h213 Y) (runUnderlying22 w) Y) (ja Y Y (yp 4 runUnderlying26 Y sizeOf24 Y Y (ja Y Y (qy 3 isAgg24 Y Y Y Y ?_)))))))
     refine ja Y Y (jc Y Y Y (fun w _ => Jh (vlen RSi h186 Y) (runUnderlying24 w) Y) (ja Y Y (jg Y Y (ja Y Y (jc Y Y Y (fun w _ => Jh (vlen RI h202 Y) (runUnderlying22 w) Y) (ja Y Y ?_))))))
     obtain ⟨t326, h233, hm⟩ := bindO hm
     refine jc Y Y Y (fun _ _ => zu h233 Y Y) (ja Y Y (jc Y Y Y (fun _ _ => zS Y Y) (qY Y Y Y (jg Y Y ?_))))
     refine jH 329 Y (fun h234 => ?_) (fun h234 => ?_)
     ·replace hm := ifD h234 hm
      refine ja Y Y ?_
      obtain ⟨t330, h235, hm⟩ := bindO hm
      refine jd [] [] Y Y Y Y Y Y Y call19 (fun w hh => Zo  w (HV.callee (S0 := []) (vs0 := []) hh roN)  h235) (fun l_48 h236 => ?_)
      refine qY Y Y Y (jo Y Y (js ?_))
      obtain rfl := sj hm
      exact jj () (trivial) (sE Y) (hsE [0, 1, 2, 3] [2, 3, 4] 0 Y Y Y Y)
     replace hm := ifE h234 hm
     refine g_k Y Y Y Y (q6 Y Y Y (jo Y Y (js ?_)))
     obtain rfl := sj hm
     exact jj () (trivial) (sE Y) (hsE [0, 1, 2, 3] [2, 3, 4] 0 Y Y Y Y)
    replace hm := ifN h232 hm
    refine g_k Y Y Y Y (g_k Y Y Y Y (g_k Y Y Y Y (g_k Y Y Y Y (g_k Y Y Y Y (g_k Y Y Y Y (g_k Y Y Y Y (g_k Y Y Y Y ?_)))))))
    refine g_k Y Y Y Y (q6 Y Y Y (jg Y Y (g_k Y Y Y Y (q6 Y Y Y (jo Y Y (js ?_))))))
    obtain rfl := sj hm
    exact jj () (trivial) (sE Y) (hsE [0, 1, 2, 3] [2, 3, 4] 0 Y Y Y Y)
   replace hm := ifE h231 hm
   refine g_k Y Y Y Y (q6 Y Y Y (jg Y Y (g_k Y Y Y Y (g_k Y Y Y Y (g_k Y Y Y Y (g_k Y Y Y Y (g_k Y Y Y Y ?_)))))))
   refine g_k Y Y Y Y (g_k Y Y Y Y (g_k Y Y Y Y (g_k Y Y Y Y (q6 Y Y Y (jg Y Y (g_k Y Y Y Y (q6 Y Y Y ?_)))))))
   refine jo Y Y (js ?_)
   obtain rfl := sj hm
   exact jj () (trivial) (sE Y) (hsE [0, 1, 2, 3] [2, 3, 4] 0 Y Y Y Y)
  intro l_47 hj
  replace hm := h230
  refine jb (jx ?_)
  obtain rfl := sj hm
  refine jn Y (fun w hh => (.tmp Y .nil)) (fun w hh => ⟨(), rfl, trivial, hh.se [] [] 2 Y Y Y rfl⟩)
end Go.Proofs.Wb

