/- What the functions that the law StripTaken reaches come to, and why it holds: part 7. -/
import Derived.Test.YtnkphlgohnlooaaGreatStripTaken6
namespace Go.Proofs.Ws
set_option maxHeartbeats 4000000
set_option maxRecDepth 100000
open Go Go.Fw Go.Gx Go.Sp
set_option linter.unusedVariables false
def yM (a0 : (List Span)) (b1 : (List Span)) : Option Bool :=
 (Jp a0 b1).bind fun t7 =>
 some t7
theorem YF (a0 : (List Span)) (b1 : (List Span)) (qa0 : Option Addr) (na0 ca0 : Nat) (qa1 : Option Addr) (na1 ca1 : Nat) (w : World) (hw : HV w (keys [] []) [] [] [(aB qa0, aO qa0, RSp.enc a0), (aB qa1, aO qa1, RSp.enc b1)] w) (hna0 : a0.length = na0) (hqa0 : AOK na0 qa0) (hla0 : na0 ≤ ca0) (hna1 : b1.length = na1) (hqa1 : AOK na1 qa1) (hla1 : na1 ≤ ca1) {res : Bool} (hm : yM a0 b1 = some res) :
    Calls Tryz.prog 77 #[.slice qa0 na0 ca0, .slice qa1 na1 ca1] w (fun en w' => ∃ l : Unit, en = .returned (.bool res) ∧ (True) ∧ HV w (keys [] []) [] [] [] w') := by
  unfold yM at hm
  refine j5 Tryz.func77 rfl Tryz.ntmps77 rfl (e := [(0, _), (1, _)]) rfl hw (jq (jk rfl rfl (j0 (je rfl rfl (je rfl rfl ?_)))))
  obtain ⟨t7, h1, hm⟩ := bindO hm
  refine jd [] [] rfl rfl rfl rfl rfl rfl rfl Tryz.call118 (fun w hh => YW a0 b1 qa0 na0 ca0 qa1 na1 ca1 w (HV.callee (S0 := []) (vs0 := []) hh (roR hh 0 rfl (roR hh 1 rfl roN))) hna0 hqa0 hla0 hna1 hqa1 hla1 h1) (fun l h2 => ?_)
  refine jk rfl rfl (jp (jw ?_))
  obtain rfl := sj hm
  refine jm rfl (fun w hh => (.tmp rfl .nil)) (fun w hh => ⟨(), rfl, trivial, hh.se [] [] 2 rfl rfl rfl rfl⟩)
def QC (a0 : Scalps) (b1 : Scalps) : Option Bool :=
 ((qk a0.strips b1.strips).bind fun t9 =>
 if t9 = true then
 ((yM a0.carried b1.carried).bind fun t15 =>
 some t15) else
 (some false)).bind fun o =>
 some o
theorem jaF (a0 : Scalps) (b1 : Scalps) (qa0 : Option Addr) (na0 ca0 : Nat) (qa1 : Option Addr) (na1 ca1 : Nat) (qa2 : Option Addr) (na2 ca2 : Nat) (qa3 : Option Addr) (na3 ca3 : Nat) (w : World) (hw : HV w (keys [] []) [] [] [(aB qa0, aO qa0, RSt.enc a0.strips), (aB qa1, aO qa1, RSp.enc a0.carried), (aB qa2, aO qa2, RSt.enc b1.strips), (aB qa3, aO qa3, RSp.enc b1.carried)] w) (hna0 : a0.strips.length = na0) (hqa0 : AOK na0 qa0) (hla0 : na0 ≤ ca0) (hna1 : a0.carried.length = na1) (hqa1 : AOK na1 qa1) (hla1 : na1 ≤ ca1) (hna2 : b1.strips.length = na2) (hqa2 : AOK na2 qa2) (hla2 : na2 ≤ ca2) (hna3 : b1.carried.length = na3) (hqa3 : AOK na3 qa3) (hla3 : na3 ≤ ca3) {res : Bool} (hm : QC a0 b1 = some res) :
    Calls Tryz.prog 21 #[.agg #[.slice qa0 na0 ca0, .slice qa1 na1 ca1], .agg #[.slice qa2 na2 ca2, .slice qa3 na3 ca3]] w (fun en w' => ∃ l : Unit, en = .returned (.bool res) ∧ (True) ∧ HV w (keys [] []) [] [] [] w') := by
  unfold QC at hm
  refine j5 Tryz.func21 rfl Tryz.ntmps21 rfl (e := [(0, _), (1, _)]) rfl hw (jq ?_)
  refine jC rfl rfl (fun b h1 => ?_)
  refine jC rfl rfl (fun b_1 h2 => ?_)
  refine jk rfl rfl (jp (jj ?_))
  obtain ⟨o, h3, h4⟩ := bindO hm
  refine jF (ι := Unit) (fun l => True) (fun l => [(4, .bool o)]) (fun l => [(b_1, .cells #[.slice qa2 na2 ca2, .slice qa3 na3 ca3] 25 (0, 0)), (b, .cells #[.slice qa0 na0 ca0, .slice qa1 na1 ca1] 25 (0, 0))]) (fun l => []) ?_ ?_
  ·replace hm := h3
   refine jh (jP 0 Tryz.runUnderlying25 rfl Tryz.sizeOf22 rfl rfl (jY 1 Tryz.isAgg22 rfl rfl rfl rfl (jP 0 Tryz.runUnderlying25 rfl Tryz.sizeOf22 rfl rfl (jY 0 Tryz.isAgg22 rfl rfl rfl rfl ?_))))
   obtain ⟨t9, h5, hm⟩ := bindO hm
   refine jd [] [] rfl rfl rfl rfl rfl rfl rfl Tryz.call76 (fun w hh => QS a0.strips b1.strips qa0 na0 ca0 qa2 na2 ca2 w (HV.callee (S0 := []) (vs0 := []) hh (roR hh 0 rfl (roR hh 2 rfl roN))) hna0 hqa0 hla0 hna2 hqa2 hla2 h5) (fun l_1 h6 => ?_)
   refine je rfl rfl ?_
   refine jJ 10 rfl (fun h7 => ?_) (fun h7 => ?_)
   ·replace hm := ifT (h7) hm
    refine jb rfl rfl (jP 1 Tryz.runUnderlying25 rfl Tryz.sizeOf23 rfl rfl (jb rfl rfl (jY 1 Tryz.isAgg23 rfl rfl rfl rfl (jb rfl rfl (jP 1 Tryz.runUnderlying25 rfl Tryz.sizeOf23 rfl rfl (jb rfl rfl (jY 0 Tryz.isAgg23 rfl rfl rfl rfl ?_)))))))
    refine jb rfl rfl ?_
    obtain ⟨t15, h8, hm⟩ := bindO hm
    refine jd [] [] rfl rfl rfl rfl rfl rfl rfl Tryz.call77 (fun w hh => YF a0.carried b1.carried qa1 na1 ca1 qa3 na3 ca3 w (HV.callee (S0 := []) (vs0 := []) hh (roR hh 1 rfl (roR hh 3 rfl roN))) hna1 hqa1 hla1 hna3 hqa3 hla3 h8) (fun l_2 h9 => ?_)
    refine kx rfl rfl rfl (jk rfl rfl (jv ?_))
    obtain rfl := sj hm
    exact jg () (trivial) (sE rfl) (fun w hh => hh)
   ·replace hm := ifN h7 hm
    refine g_k rfl rfl rfl rfl (g_k rfl rfl rfl rfl (g_k rfl rfl rfl rfl (g_k rfl rfl rfl rfl (g_k rfl rfl rfl rfl (j3 rfl rfl rfl (jk rfl rfl (jv ?_)))))))
    obtain rfl := sj hm
    exact jg () (trivial) (sE rfl) (fun w hh => hh)
  ·intro l hj
   replace hm := h4
   refine ja (jw ?_)
   obtain rfl := sj hm
   refine jm rfl (fun w hh => (.tmp rfl .nil)) (fun w hh => ⟨(), rfl, trivial, hh.se [] [] 4 rfl rfl rfl rfl⟩)
end Go.Proofs.Ws

namespace Go.Proofs.Ws
set_option maxHeartbeats 4000000
set_option maxRecDepth 100000
open Go Go.Fw Go.Gx Go.Sp
set_option linter.unusedVariables false

def jB (missing0 : Bool) (a11 : Bool) : Option Int :=
 if missing0 = true then
 (some 1) else
 (if (!a11) = true then
 (some 7) else
 (some 0))
theorem kj (missing0 : Bool) (a11 : Bool) (rb : Nat) (w : World) (hw : HV w (keys [] []) [] [] [(rb, 0, [.bool a11])] w)  {res : Int} (hm : jB missing0 a11 = some res) :
    Calls Tryz.prog 23 #[.bool missing0, ptr rb 0] w (fun en w' => ∃ l : Unit, en = .returned (.int .i64 res) ∧ (True) ∧ HV w (keys [] []) [] [] [] w') := by
  unfold jB at hm
  refine j5 Tryz.func23 rfl Tryz.ntmps23 rfl (e := [(0, _), (1, _)]) rfl hw (jq (jk rfl rfl (jp (jj (jn (jq (je rfl rfl ?_)))))))
  refine jk rfl rfl (jp ?_)
  refine js rfl (fun h1 => ?_) (fun h1 => ?_)
  ·replace hm := ifT (h1) hm
   refine jq (jk rfl rfl (jp (jw (jx (jf ?_)))))
   obtain rfl := sj hm
   refine jm rfl (fun w hh => (.tmp rfl .nil)) (fun w hh => ⟨(), rfl, trivial, hh.se [] [] 1 rfl rfl rfl rfl⟩)
  ·replace hm := ifN h1 hm
   refine jq (jc rfl rfl rfl (fun w hh => jR (Tryz.isAgg4 w) rfl (segCell (hh.seg 0 rfl) 0 rfl)) (jc rfl rfl rfl (fun _ _ => kE rfl) (jk rfl rfl (jp ?_))))
   refine js rfl (fun h2 => ?_) (fun h2 => ?_)
   ·replace hm := ifT (h2) hm
    refine jq (jk rfl rfl (jp (jw (jx (jf ?_)))))
    obtain rfl := sj hm
    refine jm rfl (fun w hh => (.tmp rfl .nil)) (fun w hh => ⟨(), rfl, trivial, hh.se [] [] 1 rfl rfl rfl rfl⟩)
   ·replace hm := ifN h2 hm
    refine ju (jt (ja (jq (jk rfl rfl (jp (jw ?_))))))
    obtain rfl := sj hm
    refine jm rfl (fun w hh => (.tmp rfl .nil)) (fun w hh => ⟨(), rfl, trivial, hh.se [] [] 1 rfl rfl rfl rfl⟩)
structure JF where
  t8 : Int
  out7 : (List (List Bool))
def JG (s0 : Scalps) (tenant1 : Int) (strip2 : Int) (s : JF) : Option (JF ⊕ (List (List Bool))) :=
 if s.t8 < (s0.carried.length : Int) then
 ((makec 1 false (s0.strips.length : Int) (s0.strips.length : Int)).bind fun t20 =>
 (if s.t8 = tenant1 then
 ((ix t20 strip2).bind fun t26 =>
 (some (t20.set (Int.toNat strip2) true)).bind fun t20_1 =>
 some t20_1) else
 (some t20)).bind fun o_1 =>
 (appc 24 s.out7 [o_1]).bind fun t30 =>
 (addc s.t8 1).bind fun t16 =>
 some (.inl (⟨t16, t30⟩ : JF))) else
 (some (.inr s.out7))
def Qg (s0 : Scalps) (tenant1 : Int) (strip2 : Int) : Option (List (List Bool)) :=
 (iterM FU (JG s0 tenant1 strip2) (⟨0, ([] : List (List Bool))⟩ : JF)).bind fun o =>
 some o
theorem jat (s0 : Scalps) (tenant1 : Int) (strip2 : Int) (qa0 : Option Addr) (na0 ca0 : Nat) (qa1 : Option Addr) (na1 ca1 : Nat) (w : World) (hw : HV w (keys [] []) [] [] [(aB qa0, aO qa0, RSt.enc s0.strips), (aB qa1, aO qa1, RSp.enc s0.carried)] w) (hna0 : s0.strips.length = na0) (hqa0 : AOK na0 qa0) (hla0 : na0 ≤ ca0) (hna1 : s0.carried.length = na1) (hqa1 : AOK na1 qa1) (hla1 : na1 ≤ ca1) {res : (List (List Bool))} (hm : Qg s0 tenant1 strip2 = some res) :
    Calls Tryz.prog 24 #[.agg #[.slice qa0 na0 ca0, .slice qa1 na1 ca1], .int .i64 tenant1, .int .i64 strip2] w (fun en w' => ∃ l : DL, en = .returned (slv l.v.q l.v.n l.v.cap) ∧ (VOK 1 l.v.n l.v.cap (RwH.enc l.rs) l.v.sp l.v.q ∧ DOK RB res l.rs) ∧ HV w (keys [] []) [] [⟨93, RwH.enc l.rs, l.v.sp, l.v.q, dbl 4 RB res l.rs⟩] [] w') := by
  unfold Qg at hm
  refine j5 Tryz.func24 rfl Tryz.ntmps24 rfl (e := [(0, _), (1, _), (2, _)]) rfl hw (jq ?_)
  refine jC rfl rfl (fun b h3 => ?_)
  refine jc rfl rfl rfl (fun _ _ => kX rfl) (j0 (jc rfl rfl rfl (fun _ _ => kX rfl) (jp (jj (jq (jk rfl rfl (jp ?_)))))))
  refine kC 93 ?_
  obtain ⟨o, h4, h5⟩ := bindO hm
  refine jF (ι := DL) (fun l => VOK 1 l.v.n l.v.cap (RwH.enc l.rs) l.v.sp l.v.q ∧ DOK RB o l.rs) (fun l => [(7, slv l.v.q l.v.n l.v.cap)]) (fun l => [(b, .cells #[.slice qa0 na0 ca0, .slice qa1 na1 ca1] 38 (0, 0))]) (fun l => [⟨93, RwH.enc l.rs, l.v.sp, l.v.q, dbl 4 RB o l.rs⟩]) ?_ ?_
  ·replace hm := h4
   refine jn ?_
   refine jL (ι := DL) hm (fun s l_1 => VOK 1 l_1.v.n l_1.v.cap (RwH.enc l_1.rs) l_1.v.sp l_1.v.q ∧ DOK RB s.out7 l_1.rs) (fun s l_1 => [(1, .int .i64 tenant1), (2, .int .i64 strip2), (3, ptr b 0), (7, slv l_1.v.q l_1.v.n l_1.v.cap), (8, .int .i64 s.t8)]) (fun s l_1 => [(b, .cells #[.slice qa0 na0 ca0, .slice qa1 na1 ca1] 38 (0, 0))]) (fun s l_1 => [⟨93, RwH.enc l_1.rs, l_1.v.sp, l_1.v.q, dbl 4 RB s.out7 l_1.rs⟩]) (⟨⟨none, 0, 0, []⟩, []⟩) (⟨VOK.nil, DOK.nil⟩) (sE rfl) (fun w hh => hh) (fun s l_1 r hpl hm h10 => ?_)
   obtain ⟨h8, h9⟩ := hpl
   unfold JG at hm
   refine jj (jq (je rfl rfl (jP 1 Tryz.runUnderlying38 rfl Tryz.sizeOf23 rfl rfl (jY 0 Tryz.isAgg23 rfl rfl rfl rfl (jc rfl rfl rfl (fun w _ => jI hna1 (Tryz.runUnderlying23 w) rfl) (yY rfl rfl rfl (jp ?_)))))))
   refine js rfl (fun h11 => ?_) (fun h11 => ?_)
   ·replace hm := ifD h11 hm
    refine ju (ja (jj (jn (jq (jP 0 Tryz.runUnderlying38 rfl Tryz.sizeOf36 rfl rfl (jY 0 Tryz.isAgg36 rfl rfl rfl rfl (jc rfl rfl rfl (fun w _ => jI hna0 (Tryz.runUnderlying36 w) rfl) ?_)))))))
    obtain ⟨t20, h12, hm⟩ := bindO hm
    refine ks RB false h12 Tryz.underlying93 Yg rfl rfl rfl rfl rfl (fun L h13 => ?_)
    refine jk rfl rfl (jp (jj ?_))
    obtain ⟨o_1, h14, h15⟩ := bindO hm
    refine jF (ι := Unit) (fun l_2 => VOK 1 L.n L.cap (RB.enc o_1) L.sp L.q) (fun l_2 => [(1, .int .i64 tenant1), (2, .int .i64 strip2), (3, ptr b 0), (7, slv l_1.v.q l_1.v.n l_1.v.cap), (8, .int .i64 s.t8), (9, slv L.q L.n L.cap)]) (fun l_2 => [(b, .cells #[.slice qa0 na0 ca0, .slice qa1 na1 ca1] 38 (0, 0))]) (fun l_2 => [⟨93, RwH.enc l_1.rs, l_1.v.sp, l_1.v.q, dbl 4 RB s.out7 l_1.rs⟩, ⟨4, RB.enc o_1, L.sp, L.q, []⟩]) ?_ ?_
    ·replace hm := h14
     refine jq (je rfl rfl (je rfl rfl (jc rfl rfl rfl (fun _ _ => yD rfl rfl) (jp ?_))))
     refine js rfl (fun h17 => ?_) (fun h17 => ?_)
     ·replace hm := ifD h17 hm
      refine jh (je rfl rfl (je rfl rfl ?_))
      obtain ⟨t26, h18, hm⟩ := bindO hm
      refine jc rfl rfl rfl (fun w _ => qx h18 (Tryz.runUnderlying93 w) (Tryz.sizeOf4 w) rfl rfl (vlen RB h13 rfl) (vne h13)) ?_
      obtain ⟨t20_1, ht20_1, hm⟩ := bindO hm
      refine KO RB 0 0 true (fun w => Tryz.sizeOf4 w) rfl rfl rfl rfl h13 rfl (Nat.add_zero _).symm rfl h18 rfl rfl (Option.some.inj ht20_1) (fun h19 => ?_)
      refine jT (S' := [_]) (vs' := [_, _]) [0] [0, 1] 0 rfl rfl rfl rfl (jv ?_)
      obtain rfl := sj hm
      exact jg () (h19) (sE rfl) (hsE [0] [1, 0] 0 rfl rfl rfl rfl)
     ·replace hm := ifE h17 hm
      refine ju ?_
      obtain rfl := sj hm
      exact jg () (h13) (sE rfl) (hsE [0] [1, 0] 0 rfl rfl rfl rfl)
    ·intro l_2 hj
     have h16 := hj
     replace hm := h15
     refine ja (jh (je rfl rfl (je rfl rfl ?_)))
     refine kG RwH [(⟨L.q, L.n, L.cap, L.sp⟩ : VL)] (ps := [(0, _)]) (cells := [_]) (fun w => Tryz.runUnderlying46 w) (fun w => Tryz.sizeOf93 w) (fun w => Tryz.zeroValue93 w) rfl rfl rfl rfl rfl rfl rfl rfl (fun L_1 h20 => ?_)
     refine jal (E2 := 4) RB 1 (rfl : _ = ([[]] : List (List Bool))) (fun h21 => ?_)
     refine jT (S' := [_]) (vs' := [_, _, _]) [0] [0, 2, 1] 0 rfl rfl rfl rfl ?_
     refine jah RB (l' := [o_1]) 0 L.n L.cap h21 h16 rfl rfl (fun h22 => ?_)
     have h23 : DOK RB [o_1] [(⟨L.q, L.n, L.cap, L.sp⟩ : VL)] := h22
     refine jbb (S' := [_]) (vs' := [⟨93, RwH.enc [(⟨L.q, L.n, L.cap, L.sp⟩ : VL)], L_1.sp, L_1.q, dbl 4 RB [o_1] [(⟨L.q, L.n, L.cap, L.sp⟩ : VL)]⟩, ⟨93, RwH.enc l_1.rs, l_1.v.sp, l_1.v.q, dbl 4 RB s.out7 l_1.rs⟩]) [0] [0, 1] 0 (by decide) (by decide) rfl rfl rfl ?_
     obtain ⟨t30, h24, hm⟩ := bindO hm
     refine yh RwH 1 (appcL h24 (h9).len (h23).len) Tryz.underlying46 jac rfl rfl rfl rfl rfl h8 rfl rfl (vlen RwH h20 rfl) (AOK.q (vne h20)) (fun w hh => (hh.vsegA 0 rfl h20)) rfl (fun L_2 h25 _ => ?_)
     refine jT (S' := [_]) (vs' := [_, _]) [0] [0, 1] 0 rfl rfl rfl rfl (jT (S' := [_]) (vs' := [_, _]) [0] [1, 0] 0 rfl rfl rfl rfl ?_)
     refine Z8 RB h9 h23 (appcO h24).1.symm (fun h26 => ?_)
     refine jk rfl rfl (jv (jt (ja (jh (je rfl rfl ?_)))))
     obtain ⟨t16, h27, hm⟩ := bindO hm
     refine qs h27 rfl rfl rfl (jk rfl rfl (jv ?_))
     obtain rfl := sj hm
     refine ja ?_
     exact jA _ (⟨⟨L_2.q, L_2.n, L_2.cap, L_2.sp⟩, (l_1.rs ++ [(⟨L.q, L.n, L.cap, L.sp⟩ : VL)])⟩) rfl (⟨h25, h26⟩) (sE rfl) (fun w hh => hh)
   ·replace hm := ifE h11 hm
    refine jS (jl (jl (jG ?_)))
    obtain rfl := sj hm
    have hbo := h10 _ rfl
    subst hbo
    exact jg l_1 (⟨h8, h9⟩) (sE rfl) (fun w hh => hh)
  ·intro l hj
   obtain ⟨h6, h7⟩ := hj
   replace hm := h5
   refine ja (jq (je rfl rfl (jk rfl rfl (jp (jw ?_)))))
   obtain rfl := sj hm
   refine jm rfl (fun w hh => (.tmp rfl .nil)) (fun w hh => ⟨l, rfl, ⟨h6, h7⟩, hh.se [] [0] 2 rfl rfl rfl rfl⟩)
def Qn (holds0_c0 : Int) (holds0_c1 : Int) : Option Unit :=
 some ()
theorem ZZ (holds0_c0 : Int) (holds0_c1 : Int) (rb : Nat) (rb_1 : Nat) (w : World) (hw : HV w (keys [] []) [] [] [(rb, 0, [.int .i64 holds0_c0]), (rb_1, 0, [.int .i64 holds0_c1])] w)   {res : Unit} (hm : Qn holds0_c0 holds0_c1 = some res) :
    Calls Tryz.prog 80 #[.func (.func 81) #[] #[ptr rb 0, ptr rb_1 0]] w (fun en w' => ∃ l : Nat, en = .returned (.agg #[.func (.func 120) #[] #[ptr l 0]]) ∧ (True) ∧ HV w (keys [] []) [(l, .cells #[.func (.func 81) #[] #[ptr rb 0, ptr rb_1 0]] 135 (0, 0))] [] [] w') := by
  unfold Qn at hm
  refine j5 Tryz.func80 rfl Tryz.ntmps80 rfl (e := [(0, _)]) rfl hw (jq ?_)
  refine jC rfl rfl (fun b h1 => ?_)
  refine jo (fun w => Tryz.zeroValue115 w) rfl (fun b_1 h2 => ?_)
  refine j0 (jc rfl rfl rfl (fun _ _ => jK (u := #[]) (u' := #[_]) rfl rfl) (jc rfl rfl rfl (fun _ _ => jz (vs := [(0, _)]) (cells := [_]) rfl rfl) (jy (us := #[_]) (cs' := [_]) (S' := [_, _]) 0 (fun w => Tryz.sizeOf115 w) rfl rfl rfl rfl rfl rfl rfl (jp (jw ?_)))))
  obtain rfl := sj hm
  refine jm rfl (fun w hh => (.cell rfl (loadVar_agg (vs := [_]) (Tryz.isAgg115 _) (Tryz.sizeOf115 _) (hh.cells 0 rfl rfl)) .nil)) (fun w hh => ⟨b, rfl, trivial, hh.se [1] [] 2 rfl rfl rfl rfl⟩)
def Ku (p0 : Pair) (a11 : Int) (a22 : Int) : Option Bool :=
 some (decide (p0 = (⟨a11, a22⟩ : Pair)))
theorem ZH (p0 : Pair) (a11 : Int) (a22 : Int) (rb : Nat) (rb_1 : Nat) (w : World) (hw : HV w (keys [] []) [] [] [(rb, 0, [.int .i64 a11]), (rb_1, 0, [.int .i64 a22])] w)   {res : Bool} (hm : Ku p0 a11 a22 = some res) :
    Calls Tryz.prog 81 #[.agg #[.int .i64 p0.tenant, .int .i64 p0.strip], ptr rb 0, ptr rb_1 0] w (fun en w' => ∃ l : Unit, en = .returned (.bool res) ∧ (True) ∧ HV w (keys [] []) [] [] [] w') := by
  unfold Ku at hm
  refine j5 Tryz.func81 rfl Tryz.ntmps81 rfl (e := [(0, _), (1, _), (2, _)]) rfl hw (jq ?_)
  refine jC rfl rfl (fun b h1 => ?_)
  refine jk rfl rfl (j0 (kD [_, _] 0 Tryz.isAgg126 Tryz.sizeOf126 rfl rfl rfl rfl (jc rfl rfl rfl (fun w hh => jR (Tryz.isAgg3 w) rfl (segCell (hh.seg 0 rfl) 0 rfl)) (jc rfl rfl rfl (fun w hh => jR (Tryz.isAgg3 w) rfl (segCell (hh.seg 1 rfl) 0 rfl)) (jc rfl rfl rfl (fun _ _ => jz (vs := [(0, _), (1, _)]) (cells := [_, _]) rfl rfl) (jc rfl rfl rfl (fun w _ => Qi (jam p0 (⟨a11, a22⟩ : Pair) w) jaD rfl rfl) (jk rfl rfl ?_)))))))
  refine jp (jw ?_)
  obtain rfl := sj hm
  refine jm rfl (fun w hh => (.tmp rfl .nil)) (fun w hh => ⟨(), rfl, trivial, hh.se [] [] 2 rfl rfl rfl rfl⟩)
def yd (p0 : Pair) (a11_c0 : Int) (a11_c1 : Int) : Option Int :=
 (Ku p0 a11_c0 a11_c1).bind fun t6 =>
 if t6 = true then
 (some 1) else
 (some 0)
theorem Zp (p0 : Pair) (a11_c0 : Int) (a11_c1 : Int) (rb : Nat) (rb_1 : Nat) (rb_2 : Nat) (w : World) (hw : HV w (keys [] []) [] [] [(rb, 0, [.func (.func 81) #[] #[ptr rb_1 0, ptr rb_2 0]]), (rb_1, 0, [.int .i64 a11_c0]), (rb_2, 0, [.int .i64 a11_c1])] w)    {res : Int} (hm : yd p0 a11_c0 a11_c1 = some res) :
    Calls Tryz.prog 120 #[.agg #[.int .i64 p0.tenant, .int .i64 p0.strip], ptr rb 0] w (fun en w' => ∃ l : Unit, en = .returned (.int .i64 res) ∧ (True) ∧ HV w (keys [] []) [] [] [] w') := by
  unfold yd at hm
  refine j5 Tryz.func120 rfl Tryz.ntmps120 rfl (e := [(0, _), (1, _)]) rfl hw (jq ?_)
  refine jC rfl rfl (fun b h1 => ?_)
  refine jk rfl rfl (jp (jj (jq (jc rfl rfl rfl (fun w hh => jR (Tryz.isAgg135 w) rfl (segCell (hh.seg 0 rfl) 0 rfl)) (kD [_, _] 0 Tryz.isAgg126 Tryz.sizeOf126 rfl rfl rfl rfl ?_)))))
  obtain ⟨t6, h2, hm⟩ := bindO hm
  refine jd [] [] rfl rfl rfl rfl rfl rfl rfl Tryz.call81 (fun w hh => ZH p0 a11_c0 a11_c1 rb_1 rb_2 w (HV.callee (S0 := []) (vs0 := []) hh (roR hh 1 rfl (roR hh 2 rfl roN)))  h2) (fun l h3 => ?_)
  refine jp ?_
  refine js rfl (fun h4 => ?_) (fun h4 => ?_)
  ·replace hm := ifT (h4) hm
   refine jq (jk rfl rfl (jp (jw (jf ?_))))
   obtain rfl := sj hm
   refine jm rfl (fun w hh => (.tmp rfl .nil)) (fun w hh => ⟨(), rfl, trivial, hh.se [] [] 3 rfl rfl rfl rfl⟩)
  ·replace hm := ifN h4 hm
   refine ju (ja (jq (jk rfl rfl (jp (jw ?_)))))
   obtain rfl := sj hm
   refine jm rfl (fun w hh => (.tmp rfl .nil)) (fun w hh => ⟨(), rfl, trivial, hh.se [] [] 3 rfl rfl rfl rfl⟩)
structure JD where
  r0 : Span
  r1 : Int
def q7 (s0 : Scalps) (tenant1 : Int) (strip2 : Int) : Option JD :=
 (kv s0).bind fun t12 =>
 oc t12 (fun t12a => some (⟨(⟨0, 0⟩ : Span), t12a⟩ : JD)) (fun t12b => ((jZ s0 tenant1).bind fun t23 =>
 if (!t23) = true then
 (some true) else
 ((kk s0 strip2).bind fun t28 =>
 some (!t28))).bind fun o =>
 if o = true then
 (some (⟨(⟨0, 0⟩ : Span), 1⟩ : JD)) else
 ((Qn tenant1 strip2).bind fun t34 =>
 (kg s0.strips s0.carried t12b (fun p_1 : Pair => yd p_1 tenant1 strip2)).bind fun t35 =>
 some (⟨t35.r0, t35.r1⟩ : JD)))
theorem jaq (s0 : Scalps) (tenant1 : Int) (strip2 : Int) (qa0 : Option Addr) (na0 ca0 : Nat) (qa1 : Option Addr) (na1 ca1 : Nat) (w : World) (hw : HV w (keys [] []) [] [] [(aB qa0, aO qa0, RSt.enc s0.strips), (aB qa1, aO qa1, RSp.enc s0.carried)] w) (hna0 : s0.strips.length = na0) (hqa0 : AOK na0 qa0) (hla0 : na0 ≤ ca0) (hna1 : s0.carried.length = na1) (hqa1 : AOK na1 qa1) (hla1 : na1 ≤ ca1) {res : JD} (hm : q7 s0 tenant1 strip2 = some res) :
    Calls Tryz.prog 25 #[.agg #[.slice qa0 na0 ca0, .slice qa1 na1 ca1], .int .i64 tenant1, .int .i64 strip2] w (fun en w' => ∃ l : Unit, en = .returned (.tuple #[.agg #[.int .i64 res.r0.lo, .int .i64 res.r0.hi], .int .i64 res.r1]) ∧ (True) ∧ HV w (keys [] []) [] [] [] w') := by
  unfold q7 at hm
  refine j5 Tryz.func25 rfl Tryz.ntmps25 rfl (e := [(0, _), (1, _), (2, _)]) rfl hw (jq ?_)
  refine jC rfl rfl (fun b h1 => ?_)
  refine jC rfl rfl (fun b_1 h2 => ?_)
  refine jC rfl rfl (fun b_2 h3 => ?_)
  refine jo (fun w => Tryz.zeroValue32 w) rfl (fun b_3 h4 => ?_)
  refine jk rfl rfl (j0 (kD [_, _] 3 Tryz.isAgg25 Tryz.sizeOf25 rfl rfl rfl rfl ?_))
  obtain ⟨t12, h5, hm⟩ := bindO hm
  rcases t12 with t12a | t12b
  ·replace hm := ocL hm
   refine jd [] [] rfl rfl rfl rfl rfl rfl rfl Tryz.call57 (fun w hh => kh s0 qa0 na0 ca0 qa1 na1 ca1 w (HV.callee (S0 := []) (vs0 := []) hh (roR hh 0 rfl (roR hh 1 rfl roN))) hna0 hqa0 hla0 hna1 hqa1 hla1 h5) (fun l h6 => ?_)
   have h7 := h6
   refine je rfl rfl (kp rfl rfl rfl (kp rfl rfl rfl (jk rfl rfl (jk rfl rfl (jp (jj (jn ?_)))))))
   refine jq (je rfl rfl (jc rfl rfl rfl (fun _ _ => QI h7 rfl rfl) (jk rfl rfl (jp (zd rfl rfl (jq (jc rfl rfl rfl (fun _ _ => jz (vs := []) (cells := [_, _]) rfl rfl) ?_)))))))
   refine je rfl rfl (jy (us := #[_, _]) (cs' := [_, _]) (S' := [_, _, _, _]) 0 (fun w => Tryz.sizeOf32 w) rfl rfl rfl rfl rfl rfl rfl (jk rfl rfl (jp (jw (jx (jf ?_))))))
   obtain rfl := sj hm
   refine jm rfl (fun w hh => (.cell rfl (loadVar_agg (vs := [_, _]) (Tryz.isAgg32 _) (Tryz.sizeOf32 _) (hh.cells 0 rfl rfl)) (.tmp rfl .nil))) (fun w hh => ⟨(), rfl, trivial, hh.se [] [] 2 rfl rfl rfl rfl⟩)
  ·replace hm := ocR hm
   refine jd [] [] rfl rfl rfl rfl rfl rfl rfl Tryz.call57 (fun w hh => kh s0 qa0 na0 ca0 qa1 na1 ca1 w (HV.callee (S0 := []) (vs0 := []) hh (roR hh 0 rfl (roR hh 1 rfl roN))) hna0 hqa0 hla0 hna1 hqa1 hla1 h5) (fun l_1 h8 => ?_)
   refine jT (S' := [_, _, _, _, _, _]) (vs' := []) [0, 1, 2, 3, 4, 5] [] 0 rfl rfl rfl rfl (je rfl rfl (kp rfl rfl rfl (kp rfl rfl rfl (jk rfl rfl (jk rfl rfl (jp (jj ?_)))))))
   refine jn (jq (je rfl rfl (jc rfl rfl rfl (fun _ _ => q8 rfl rfl) (jk rfl rfl (jp (qW rfl rfl (jj ?_)))))))
   obtain ⟨o, h9, h10⟩ := bindO hm
   refine jF (ι := Unit) (fun l_2 => True) (fun l_2 => [(4, ptr b_1 0), (5, ptr b_2 0), (6, ptr b_3 0), (8, ptr l_1.1 0), (20, .bool o)]) (fun l_2 => [(l_1.1, .cells #[.slice qa0 na0 ca0, .slice qa1 na1 ca1, .map (some l_1.2)] 144 (0, 0)), (l_1.2, gobj (kR RPr) kB t12b), (b_3, .cells #[.int .i64 0, .int .i64 0] 32 (0, 0)), (b_2, .cells #[.int .i64 strip2] 3 (0, 0)), (b_1, .cells #[.int .i64 tenant1] 3 (0, 0)), (b, .cells #[.slice qa0 na0 ca0, .slice qa1 na1 ca1] 25 (0, 0))]) (fun l_2 => []) ?_ ?_
   ·replace hm := h9
    refine jh (kD [_, _] 5 Tryz.isAgg25 Tryz.sizeOf25 rfl rfl rfl rfl (jY 4 Tryz.isAgg3 rfl rfl rfl rfl ?_))
    obtain ⟨t23, h11, hm⟩ := bindO hm
    refine jd [] [] rfl rfl rfl rfl rfl rfl rfl Tryz.call68 (fun w hh => qq s0 tenant1 qa0 na0 ca0 qa1 na1 ca1 w (HV.callee (S0 := []) (vs0 := []) hh (roR hh 0 rfl (roR hh 1 rfl roN))) hna0 hqa0 hla0 hna1 hqa1 hla1 h11) (fun l_3 h12 => ?_)
    refine jc rfl rfl rfl (fun _ _ => kE rfl) (je rfl rfl ?_)
    refine jJ 25 rfl (fun h13 => ?_) (fun h13 => ?_)
    ·replace hm := ifT (h13) hm
     refine g_k rfl rfl rfl rfl (g_k rfl rfl rfl rfl (g_k rfl rfl rfl rfl (g_k rfl rfl rfl rfl (kx rfl rfl rfl (jk rfl rfl (jv ?_))))))
     obtain rfl := sj hm
     exact jg () (trivial) (sE rfl) (fun w hh => hh)
    ·replace hm := ifN h13 hm
     refine jb rfl rfl (kD [_, _] 5 Tryz.isAgg25 Tryz.sizeOf25 rfl rfl rfl rfl (jb rfl rfl (jY 3 Tryz.isAgg3 rfl rfl rfl rfl (jb rfl rfl ?_))))
     obtain ⟨t28, h14, hm⟩ := bindO hm
     refine jd [] [] rfl rfl rfl rfl rfl rfl rfl Tryz.call67 (fun w hh => yO s0 strip2 qa0 na0 ca0 qa1 na1 ca1 w (HV.callee (S0 := []) (vs0 := []) hh (roR hh 0 rfl (roR hh 1 rfl roN))) hna0 hqa0 hla0 hna1 hqa1 hla1 h14) (fun l_4 h15 => ?_)
     refine jb rfl rfl (jc rfl rfl rfl (fun _ _ => kE rfl) (j3 rfl rfl rfl (jk rfl rfl (jv ?_))))
     obtain rfl := sj hm
     exact jg () (trivial) (sE rfl) (fun w hh => hh)
   ·intro l_2 hj
    replace hm := h10
    refine ja ?_
    refine js rfl (fun h16 => ?_) (fun h16 => ?_)
    ·replace hm := ifT (h16) hm
     refine jq (jc rfl rfl rfl (fun _ _ => jz (vs := []) (cells := [_, _]) rfl rfl) (jy (us := #[_, _]) (cs' := [_, _]) (S' := [_, _, _, _, _, _]) 2 (fun w => Tryz.sizeOf32 w) rfl rfl rfl rfl rfl rfl rfl (jk rfl rfl (jp (jw (jx (jf ?_)))))))
     obtain rfl := sj hm
     refine jm rfl (fun w hh => (.cell rfl (loadVar_agg (vs := [_, _]) (Tryz.isAgg32 _) (Tryz.sizeOf32 _) (hh.cells 2 rfl rfl)) (.tmp rfl .nil))) (fun w hh => ⟨(), rfl, trivial, hh.se [] [] 2 rfl rfl rfl rfl⟩)
    ·replace hm := ifN h16 hm
     refine ju (jt (ja (jq (je rfl rfl (jc rfl rfl rfl (fun _ _ => jK (u := #[]) (u' := #[_, _]) rfl rfl) ?_)))))
     obtain ⟨t34, h17, hm⟩ := bindO hm
     refine jd [] [] rfl rfl rfl rfl rfl rfl rfl Tryz.call80 (fun w hh => ZZ tenant1 strip2 b_1 b_2 w (HV.callee (S0 := []) (vs0 := []) hh (roC (bsep (hh.bseg 4 rfl)) (roC (bsep (hh.bseg 3 rfl)) roN)))  h17) (fun l_5 h18 => ?_)
     refine jT (S' := [_, _, _, _, _, _, _]) (vs' := []) [0, 1, 2, 3, 4, 5, 6] [] 0 rfl rfl rfl rfl ?_
     obtain ⟨t35, h19, hm⟩ := bindO hm
     refine jT (S' := [_, _, _, _, _, _, _]) (vs' := []) [2, 0, 1, 3, 4, 5, 6] [] 0 rfl rfl rfl rfl ?_
     refine jd [_] [] rfl rfl rfl rfl rfl rfl rfl Tryz.call79 (fun w hh => yj s0.strips s0.carried t12b (fun p_1 : Pair => yd p_1 tenant1 strip2) l_1.1 qa0 na0 ca0 qa1 na1 ca1 l_1.2 120 (#[]) (#[ptr l_5 0]) ([(l_5, 0, [.func (.func 81) #[] #[ptr b_1 0, ptr b_2 0]]), (b_1, 0, [.int .i64 tenant1]), (b_2, 0, [.int .i64 strip2])]) w (HV.callee (S0 := [_]) (vs0 := []) hh (roA (roC (hh.bsepH 1 rfl) (roR hh 0 rfl (roR hh 1 rfl roN))) (roC (hh.bsepH 0 rfl) (roC (hh.bsepH 4 rfl) (roC (hh.bsepH 3 rfl) roN))))) hna0 hqa0 hla0 hna1 hqa1 hla1 (⟨fun a w => Tryz.call120 a w, (fun p_1 r hr w hT => clRet (Zp p_1 tenant1 strip2 l_5 b_1 b_2 w (HVstart hT)  hr))⟩ : ClOK Tryz.prog 120 #[] #[ptr l_5 0] ([(l_5, 0, [.func (.func 81) #[] #[ptr b_1 0, ptr b_2 0]]), (b_1, 0, [.int .i64 tenant1]), (b_2, 0, [.int .i64 strip2])]) (fun x : Pair => [.agg #[.int .i64 x.tenant, .int .i64 x.strip]]) (fun x : Int => .int .i64 x) (fun p_1 : Pair => yd p_1 tenant1 strip2)) h19) (fun l_6 h20 => ?_)
     refine jT (S' := [_, _, _, _, _, _, _]) (vs' := []) [0, 1, 2, 3, 4, 5, 6] [] 0 rfl rfl rfl rfl (kp rfl rfl rfl (kp rfl rfl rfl (jy (us := #[_, _]) (cs' := [_, _]) (S' := [_, _, _, _, _, _, _]) 3 (fun w => Tryz.sizeOf32 w) rfl rfl rfl rfl rfl rfl rfl (jk rfl rfl (jp (jw ?_))))))
     obtain rfl := sj hm
     refine jm rfl (fun w hh => (.cell rfl (loadVar_agg (vs := [_, _]) (Tryz.isAgg32 _) (Tryz.sizeOf32 _) (hh.cells 3 rfl rfl)) (.tmp rfl .nil))) (fun w hh => ⟨(), rfl, trivial, hh.se [] [] 2 rfl rfl rfl rfl⟩)
def Qk (holds0_c0 : Int) (holds0_c10 : (List Strip)) (holds0_c11 : (List Span)) : Option Unit :=
 some ()
theorem ZY (holds0_c0 : Int) (holds0_c10 : (List Strip)) (holds0_c11 : (List Span)) (rb : Nat) (rb_1 : Nat) (rb_2 : Nat) (qa3 : Option Addr) (na3 ca3 : Nat) (qa4 : Option Addr) (na4 ca4 : Nat) (mv : Value) (w : World) (hw : HV w (keys [] []) [] [] [(rb, 0, [.int .i64 holds0_c0]), (rb_1, 0, [ptr rb_2 0]), (rb_2, 0, [.slice qa3 na3 ca3, .slice qa4 na4 ca4, mv]), (aB qa3, aO qa3, RSt.enc holds0_c10), (aB qa4, aO qa4, RSp.enc holds0_c11)] w)    (hna3 : holds0_c10.length = na3) (hqa3 : AOK na3 qa3) (hla3 : na3 ≤ ca3) (hna4 : holds0_c11.length = na4) (hqa4 : AOK na4 qa4) (hla4 : na4 ≤ ca4) {res : Unit} (hm : Qk holds0_c0 holds0_c10 holds0_c11 = some res) :
    Calls Tryz.prog 80 #[.func (.func 82) #[] #[ptr rb 0, ptr rb_1 0]] w (fun en w' => ∃ l : Nat, en = .returned (.agg #[.func (.func 120) #[] #[ptr l 0]]) ∧ (True) ∧ HV w (keys [] []) [(l, .cells #[.func (.func 82) #[] #[ptr rb 0, ptr rb_1 0]] 135 (0, 0))] [] [] w') := by
  unfold Qk at hm
  refine j5 Tryz.func80 rfl Tryz.ntmps80 rfl (e := [(0, _)]) rfl hw (jq ?_)
  refine jC rfl rfl (fun b h1 => ?_)
  refine jo (fun w => Tryz.zeroValue115 w) rfl (fun b_1 h2 => ?_)
  refine j0 (jc rfl rfl rfl (fun _ _ => jK (u := #[]) (u' := #[_]) rfl rfl) (jc rfl rfl rfl (fun _ _ => jz (vs := [(0, _)]) (cells := [_]) rfl rfl) (jy (us := #[_]) (cs' := [_]) (S' := [_, _]) 0 (fun w => Tryz.sizeOf115 w) rfl rfl rfl rfl rfl rfl rfl (jp (jw ?_)))))
  obtain rfl := sj hm
  refine jm rfl (fun w hh => (.cell rfl (loadVar_agg (vs := [_]) (Tryz.isAgg115 _) (Tryz.sizeOf115 _) (hh.cells 0 rfl rfl)) .nil)) (fun w hh => ⟨b, rfl, trivial, hh.se [1] [] 5 rfl rfl rfl rfl⟩)
def KZ (p0 : Pair) (a11 : Int) (a220 : (List Strip)) (a221 : (List Span)) : Option Bool :=
 (if p0.tenant = a11 then
 ((yV a220 a221 p0).bind fun t12 =>
 some t12) else
 (some false)).bind fun o =>
 some o
theorem Zd (p0 : Pair) (a11 : Int) (a220 : (List Strip)) (a221 : (List Span)) (rb : Nat) (rb_1 : Nat) (rb_2 : Nat) (qa3 : Option Addr) (na3 ca3 : Nat) (qa4 : Option Addr) (na4 ca4 : Nat) (mv : Value) (w : World) (hw : HV w (keys [] []) [] [] [(rb, 0, [.int .i64 a11]), (rb_1, 0, [ptr rb_2 0]), (rb_2, 0, [.slice qa3 na3 ca3, .slice qa4 na4 ca4, mv]), (aB qa3, aO qa3, RSt.enc a220), (aB qa4, aO qa4, RSp.enc a221)] w)    (hna3 : a220.length = na3) (hqa3 : AOK na3 qa3) (hla3 : na3 ≤ ca3) (hna4 : a221.length = na4) (hqa4 : AOK na4 qa4) (hla4 : na4 ≤ ca4) {res : Bool} (hm : KZ p0 a11 a220 a221 = some res) :
    Calls Tryz.prog 82 #[.agg #[.int .i64 p0.tenant, .int .i64 p0.strip], ptr rb 0, ptr rb_1 0] w (fun en w' => ∃ l : Unit, en = .returned (.bool res) ∧ (True) ∧ HV w (keys [] []) [] [] [] w') := by
  unfold KZ at hm
  refine j5 Tryz.func82 rfl Tryz.ntmps82 rfl (e := [(0, _), (1, _), (2, _)]) rfl hw (jq ?_)
  refine jC rfl rfl (fun b h1 => ?_)
  refine jk rfl rfl (jp (jj ?_))
  obtain ⟨o, h2, h3⟩ := bindO hm
  refine jF (ι := Unit) (fun l => True) (fun l => [(4, .bool o)]) (fun l => [(b, .cells #[.int .i64 p0.tenant, .int .i64 p0.strip] 126 (0, 0))]) (fun l => []) ?_ ?_
  ·replace hm := h2
   refine jh (jP 0 Tryz.runUnderlying126 rfl Tryz.sizeOf3 rfl rfl (jY 0 Tryz.isAgg3 rfl rfl rfl rfl (jc rfl rfl rfl (fun w hh => jR (Tryz.isAgg3 w) rfl (segCell (hh.seg 0 rfl) 0 rfl)) (jc rfl rfl rfl (fun _ _ => yD rfl rfl) (je rfl rfl ?_)))))
   refine jJ 9 rfl (fun h4 => ?_) (fun h4 => ?_)
   ·replace hm := ifD h4 hm
    refine jb rfl rfl (jc rfl rfl rfl (fun w hh => jR (Tryz.isAgg107 w) rfl (segCell (hh.seg 1 rfl) 0 rfl)) (jb rfl rfl (kD [_, _] 0 Tryz.isAgg126 Tryz.sizeOf126 rfl rfl rfl rfl (jb rfl rfl ?_))))
    obtain ⟨t12, h5, hm⟩ := bindO hm
    refine jd [] [] rfl rfl rfl rfl rfl rfl rfl Tryz.call83 (fun w hh => Ql a220 a221 p0 rb_2 qa3 na3 ca3 qa4 na4 ca4 mv w (HV.callee (S0 := []) (vs0 := []) hh (roR hh 2 rfl (roR hh 3 rfl (roR hh 4 rfl roN)))) hna3 hqa3 hla3 hna4 hqa4 hla4 h5) (fun l_1 h6 => ?_)
    refine kx rfl rfl rfl (jk rfl rfl (jv ?_))
    obtain rfl := sj hm
    exact jg () (trivial) (sE rfl) (fun w hh => hh)
   ·replace hm := ifE h4 hm
    refine g_k rfl rfl rfl rfl (g_k rfl rfl rfl rfl (g_k rfl rfl rfl rfl (j3 rfl rfl rfl (jk rfl rfl (jv ?_)))))
    obtain rfl := sj hm
    exact jg () (trivial) (sE rfl) (fun w hh => hh)
  ·intro l hj
   replace hm := h3
   refine ja (jw ?_)
   obtain rfl := sj hm
   refine jm rfl (fun w hh => (.tmp rfl .nil)) (fun w hh => ⟨(), rfl, trivial, hh.se [] [] 5 rfl rfl rfl rfl⟩)
def yT (p0 : Pair) (a11_c0 : Int) (a11_c10 : (List Strip)) (a11_c11 : (List Span)) : Option Int :=
 (KZ p0 a11_c0 a11_c10 a11_c11).bind fun t6 =>
 if t6 = true then
 (some 1) else
 (some 0)
theorem Zh (p0 : Pair) (a11_c0 : Int) (a11_c10 : (List Strip)) (a11_c11 : (List Span)) (rb : Nat) (rb_1 : Nat) (rb_2 : Nat) (rb_3 : Nat) (qa4 : Option Addr) (na4 ca4 : Nat) (qa5 : Option Addr) (na5 ca5 : Nat) (mv : Value) (w : World) (hw : HV w (keys [] []) [] [] [(rb, 0, [.func (.func 82) #[] #[ptr rb_1 0, ptr rb_2 0]]), (rb_1, 0, [.int .i64 a11_c0]), (rb_2, 0, [ptr rb_3 0]), (rb_3, 0, [.slice qa4 na4 ca4, .slice qa5 na5 ca5, mv]), (aB qa4, aO qa4, RSt.enc a11_c10), (aB qa5, aO qa5, RSp.enc a11_c11)] w)     (hna4 : a11_c10.length = na4) (hqa4 : AOK na4 qa4) (hla4 : na4 ≤ ca4) (hna5 : a11_c11.length = na5) (hqa5 : AOK na5 qa5) (hla5 : na5 ≤ ca5) {res : Int} (hm : yT p0 a11_c0 a11_c10 a11_c11 = some res) :
    Calls Tryz.prog 120 #[.agg #[.int .i64 p0.tenant, .int .i64 p0.strip], ptr rb 0] w (fun en w' => ∃ l : Unit, en = .returned (.int .i64 res) ∧ (True) ∧ HV w (keys [] []) [] [] [] w') := by
  unfold yT at hm
  refine j5 Tryz.func120 rfl Tryz.ntmps120 rfl (e := [(0, _), (1, _)]) rfl hw (jq ?_)
  refine jC rfl rfl (fun b h1 => ?_)
  refine jk rfl rfl (jp (jj (jq (jc rfl rfl rfl (fun w hh => jR (Tryz.isAgg135 w) rfl (segCell (hh.seg 0 rfl) 0 rfl)) (kD [_, _] 0 Tryz.isAgg126 Tryz.sizeOf126 rfl rfl rfl rfl ?_)))))
  obtain ⟨t6, h2, hm⟩ := bindO hm
  refine jd [] [] rfl rfl rfl rfl rfl rfl rfl Tryz.call82 (fun w hh => Zd p0 a11_c0 a11_c10 a11_c11 rb_1 rb_2 rb_3 qa4 na4 ca4 qa5 na5 ca5 mv w (HV.callee (S0 := []) (vs0 := []) hh (roR hh 1 rfl (roR hh 2 rfl (roR hh 3 rfl (roR hh 4 rfl (roR hh 5 rfl roN)))))) hna4 hqa4 hla4 hna5 hqa5 hla5 h2) (fun l h3 => ?_)
  refine jp ?_
  refine js rfl (fun h4 => ?_) (fun h4 => ?_)
  ·replace hm := ifT (h4) hm
   refine jq (jk rfl rfl (jp (jw (jf ?_))))
   obtain rfl := sj hm
   refine jm rfl (fun w hh => (.tmp rfl .nil)) (fun w hh => ⟨(), rfl, trivial, hh.se [] [] 6 rfl rfl rfl rfl⟩)
  ·replace hm := ifN h4 hm
   refine ju (ja (jq (jk rfl rfl (jp (jw ?_)))))
   obtain rfl := sj hm
   refine jm rfl (fun w hh => (.tmp rfl .nil)) (fun w hh => ⟨(), rfl, trivial, hh.se [] [] 6 rfl rfl rfl rfl⟩)
structure zU where
  r0 : Span
  r1 : Int
def qS (s0 : Scalps) (tenant1 : Int) : Option zU :=
 (kv s0).bind fun t10 =>
 oc t10 (fun t10a => some (⟨(⟨0, 0⟩ : Span), t10a⟩ : zU)) (fun t10b => (jZ s0 tenant1).bind fun t21 =>
 if (!t21) = true then
 (some (⟨(⟨0, 0⟩ : Span), 1⟩ : zU)) else
 ((Qk tenant1 s0.strips s0.carried).bind fun t26 =>
 (kg s0.strips s0.carried t10b (fun p_1 : Pair => yT p_1 tenant1 s0.strips s0.carried)).bind fun t27 =>
 some (⟨t27.r0, t27.r1⟩ : zU)))
theorem Z2 (s0 : Scalps) (tenant1 : Int) (qa0 : Option Addr) (na0 ca0 : Nat) (qa1 : Option Addr) (na1 ca1 : Nat) (w : World) (hw : HV w (keys [] []) [] [] [(aB qa0, aO qa0, RSt.enc s0.strips), (aB qa1, aO qa1, RSp.enc s0.carried)] w) (hna0 : s0.strips.length = na0) (hqa0 : AOK na0 qa0) (hla0 : na0 ≤ ca0) (hna1 : s0.carried.length = na1) (hqa1 : AOK na1 qa1) (hla1 : na1 ≤ ca1) {res : zU} (hm : qS s0 tenant1 = some res) :
    Calls Tryz.prog 26 #[.agg #[.slice qa0 na0 ca0, .slice qa1 na1 ca1], .int .i64 tenant1] w (fun en w' => ∃ l : Unit, en = .returned (.tuple #[.agg #[.int .i64 res.r0.lo, .int .i64 res.r0.hi], .int .i64 res.r1]) ∧ (True) ∧ HV w (keys [] []) [] [] [] w') := by
  unfold qS at hm
  refine j5 Tryz.func26 rfl Tryz.ntmps26 rfl (e := [(0, _), (1, _)]) rfl hw (jq ?_)
  refine jC rfl rfl (fun b h1 => ?_)
  refine jC rfl rfl (fun b_1 h2 => ?_)
  refine jo (fun w => Tryz.zeroValue32 w) rfl (fun b_2 h3 => ?_)
  refine jk rfl rfl (j0 (kD [_, _] 2 Tryz.isAgg25 Tryz.sizeOf25 rfl rfl rfl rfl ?_))
  obtain ⟨t10, h4, hm⟩ := bindO hm
  rcases t10 with t10a | t10b
  ·replace hm := ocL hm
   refine jd [] [] rfl rfl rfl rfl rfl rfl rfl Tryz.call57 (fun w hh => kh s0 qa0 na0 ca0 qa1 na1 ca1 w (HV.callee (S0 := []) (vs0 := []) hh (roR hh 0 rfl (roR hh 1 rfl roN))) hna0 hqa0 hla0 hna1 hqa1 hla1 h4) (fun l h5 => ?_)
   have h6 := h5
   refine je rfl rfl (kp rfl rfl rfl (kp rfl rfl rfl ?_))
   refine jo (fun w => Tryz.zeroValue107 w) rfl (fun b_3 h7 => ?_)
   refine kY (cs' := #[_]) (S' := [_, _, _, _]) 0 (fun w => Tryz.sizeOf107 w) rfl rfl rfl rfl rfl rfl rfl (jk rfl rfl (jp (jj (jn (jq (je rfl rfl (jc rfl rfl rfl (fun _ _ => QI h6 rfl rfl) ?_)))))))
   refine jk rfl rfl (jp (zd rfl rfl (jq (jc rfl rfl rfl (fun _ _ => jz (vs := []) (cells := [_, _]) rfl rfl) (je rfl rfl (jy (us := #[_, _]) (cs' := [_, _]) (S' := [_, _, _, _]) 1 (fun w => Tryz.sizeOf32 w) rfl rfl rfl rfl rfl rfl rfl (jk rfl rfl ?_)))))))
   refine jp (jw (jx (jf ?_)))
   obtain rfl := sj hm
   refine jm rfl (fun w hh => (.cell rfl (loadVar_agg (vs := [_, _]) (Tryz.isAgg32 _) (Tryz.sizeOf32 _) (hh.cells 1 rfl rfl)) (.tmp rfl .nil))) (fun w hh => ⟨(), rfl, trivial, hh.se [] [] 2 rfl rfl rfl rfl⟩)
  ·replace hm := ocR hm
   refine jd [] [] rfl rfl rfl rfl rfl rfl rfl Tryz.call57 (fun w hh => kh s0 qa0 na0 ca0 qa1 na1 ca1 w (HV.callee (S0 := []) (vs0 := []) hh (roR hh 0 rfl (roR hh 1 rfl roN))) hna0 hqa0 hla0 hna1 hqa1 hla1 h4) (fun l_1 h8 => ?_)
   refine jT (S' := [_, _, _, _, _]) (vs' := []) [0, 1, 2, 3, 4] [] 0 rfl rfl rfl rfl (je rfl rfl (kp rfl rfl rfl (kp rfl rfl rfl ?_)))
   refine jo (fun w => Tryz.zeroValue107 w) rfl (fun b_4 h9 => ?_)
   refine kY (cs' := #[_]) (S' := [_, _, _, _, _, _]) 0 (fun w => Tryz.sizeOf107 w) rfl rfl rfl rfl rfl rfl rfl (jk rfl rfl (jp (jj (jn (jq (je rfl rfl (jc rfl rfl rfl (fun _ _ => q8 rfl rfl) ?_)))))))
   refine jk rfl rfl (jp (qW rfl rfl (jq (kD [_, _] 5 Tryz.isAgg25 Tryz.sizeOf25 rfl rfl rfl rfl (jY 4 Tryz.isAgg3 rfl rfl rfl rfl ?_)))))
   obtain ⟨t21, h10, hm⟩ := bindO hm
   refine jd [] [] rfl rfl rfl rfl rfl rfl rfl Tryz.call68 (fun w hh => qq s0 tenant1 qa0 na0 ca0 qa1 na1 ca1 w (HV.callee (S0 := []) (vs0 := []) hh (roR hh 0 rfl (roR hh 1 rfl roN))) hna0 hqa0 hla0 hna1 hqa1 hla1 h10) (fun l_2 h11 => ?_)
   refine jc rfl rfl rfl (fun _ _ => kE rfl) (jk rfl rfl (jp ?_))
   refine js rfl (fun h12 => ?_) (fun h12 => ?_)
   ·replace hm := ifT (h12) hm
    refine jq (jc rfl rfl rfl (fun _ _ => jz (vs := []) (cells := [_, _]) rfl rfl) (jy (us := #[_, _]) (cs' := [_, _]) (S' := [_, _, _, _, _, _]) 3 (fun w => Tryz.sizeOf32 w) rfl rfl rfl rfl rfl rfl rfl (jk rfl rfl (jp (jw (jx (jf ?_)))))))
    obtain rfl := sj hm
    refine jm rfl (fun w hh => (.cell rfl (loadVar_agg (vs := [_, _]) (Tryz.isAgg32 _) (Tryz.sizeOf32 _) (hh.cells 3 rfl rfl)) (.tmp rfl .nil))) (fun w hh => ⟨(), rfl, trivial, hh.se [] [] 2 rfl rfl rfl rfl⟩)
   ·replace hm := ifN h12 hm
    refine ju (jt (ja (jj ?_)))
    refine jX none (.hoist 0 (.free 1 (.one 2 (.one 3 (.free 4 (.free 5 (.one 6 (.free 7 .done)))))))) (HV _ _ [(b_4, .cells #[ptr l_1.1 0] 107 (0, 0)), (l_1.1, .cells #[.slice qa0 na0 ca0, .slice qa1 na1 ca1, .map (some l_1.2)] 144 (0, 0)), (l_1.2, gobj (kR RPr) kB t10b), (b_1, .cells #[.int .i64 tenant1] 3 (0, 0)), (b, .cells #[.slice qa0 na0 ca0, .slice qa1 na1 ca1] 25 (0, 0))] [] _) rfl (by decide +kernel) (fun w k hh => hh.draw k) (hsE [0, 1, 2, 4, 5] [] 0 rfl rfl rfl rfl) ?_
    refine qY 0 Tryz.isAgg107 rfl rfl rfl rfl rfl (ji rfl rfl rfl rfl (fun _ _ => jK (u := #[]) (u' := #[_, _]) rfl rfl) (jE rfl ?_))
    obtain ⟨t26, h13, hm⟩ := bindO hm
    refine jd [] [] rfl rfl rfl rfl rfl rfl rfl Tryz.call80 (fun w hh => ZY tenant1 s0.strips s0.carried b_1 b_4 l_1.1 qa0 na0 ca0 qa1 na1 ca1 (.map (some l_1.2)) w (HV.callee (S0 := []) (vs0 := []) hh (roC (bsep (hh.bseg 4 rfl)) (roC (bsep (hh.bseg 0 rfl)) (roC (bsep (hh.bseg 1 rfl)) (roR hh 0 rfl (roR hh 1 rfl roN)))))) hna0 hqa0 hla0 hna1 hqa1 hla1 h13) (fun l_3 h14 => ?_)
    refine jT (S' := [_, _, _, _, _, _, _]) (vs' := []) [0, 1, 2, 3, 4, 5, 6] [] 0 rfl rfl rfl rfl (jr (hsE [1, 2, 3, 5, 6] [] 0 rfl rfl rfl rfl) (jE rfl ?_))
    obtain ⟨t27, h15, hm⟩ := bindO hm
    refine jT (S' := [_, _, _, _, _, _, _]) (vs' := []) [3, 0, 1, 2, 4, 5, 6] [] 0 rfl rfl rfl rfl ?_
    refine jd [_] [] rfl rfl rfl rfl rfl rfl rfl Tryz.call79 (fun w hh => yj s0.strips s0.carried t10b (fun p_1 : Pair => yT p_1 tenant1 s0.strips s0.carried) l_1.1 qa0 na0 ca0 qa1 na1 ca1 l_1.2 120 (#[]) (#[ptr l_3 0]) ([(l_3, 0, [.func (.func 82) #[] #[ptr b_1 0, ptr b_4 0]]), (b_1, 0, [.int .i64 tenant1]), (b_4, 0, [ptr l_1.1 0]), (l_1.1, 0, [.slice qa0 na0 ca0, .slice qa1 na1 ca1, .map (some l_1.2)]), (aB qa0, aO qa0, RSt.enc s0.strips), (aB qa1, aO qa1, RSp.enc s0.carried)]) w (HV.callee (S0 := [_]) (vs0 := []) hh (roA (roC (hh.bsepH 2 rfl) (roR hh 0 rfl (roR hh 1 rfl roN))) (roC (hh.bsepH 0 rfl) (roC (hh.bsepH 4 rfl) (roC (hh.bsepH 1 rfl) (roC (hh.bsepH 2 rfl) (roR hh 0 rfl (roR hh 1 rfl roN)))))))) hna0 hqa0 hla0 hna1 hqa1 hla1 (⟨fun a w => Tryz.call120 a w, (fun p_1 r hr w hT => clRet (Zh p_1 tenant1 s0.strips s0.carried l_3 b_1 b_4 l_1.1 qa0 na0 ca0 qa1 na1 ca1 (.map (some l_1.2)) w (HVstart hT) hna0 hqa0 hla0 hna1 hqa1 hla1 hr))⟩ : ClOK Tryz.prog 120 #[] #[ptr l_3 0] ([(l_3, 0, [.func (.func 82) #[] #[ptr b_1 0, ptr b_4 0]]), (b_1, 0, [.int .i64 tenant1]), (b_4, 0, [ptr l_1.1 0]), (l_1.1, 0, [.slice qa0 na0 ca0, .slice qa1 na1 ca1, .map (some l_1.2)]), (aB qa0, aO qa0, RSt.enc s0.strips), (aB qa1, aO qa1, RSp.enc s0.carried)]) (fun x : Pair => [.agg #[.int .i64 x.tenant, .int .i64 x.strip]]) (fun x : Int => .int .i64 x) (fun p_1 : Pair => yT p_1 tenant1 s0.strips s0.carried)) h15) (fun l_4 h16 => ?_)
    refine jT (S' := [_, _, _, _, _, _, _]) (vs' := []) [0, 1, 2, 3, 4, 5, 6] [] 0 rfl rfl rfl rfl (jr (hsE [2, 3, 0, 5, 6] [] 0 rfl rfl rfl rfl) (ji rfl rfl rfl rfl (fun _ _ => jQ rfl rfl) (ji rfl rfl rfl rfl (fun _ _ => jQ rfl rfl) (jE rfl (jy (us := #[_, _]) (cs' := [_, _]) (S' := [_, _, _, _, _, _, _]) 4 (fun w => Tryz.sizeOf32 w) rfl rfl rfl rfl rfl rfl rfl (jr (hsE [2, 3, 0, 5, 6] [] 0 rfl rfl rfl rfl) (ji rfl rfl rfl rfl (fun _ _ => jH rfl) ?_)))))))
    refine jM (ja (jw ?_))
    obtain rfl := sj hm
    refine jm rfl (fun w hh => (.cell rfl (loadVar_agg (vs := [_, _]) (Tryz.isAgg32 _) (Tryz.sizeOf32 _) (hh.cells 4 rfl rfl)) (.tmp rfl .nil))) (fun w hh => ⟨(), rfl, trivial, hh.se [] [] 2 rfl rfl rfl rfl⟩)
def Qm (holds0_c0 : Int) (holds0_c10 : (List Strip)) (holds0_c11 : (List Span)) : Option Unit :=
 some ()
theorem Z1 (holds0_c0 : Int) (holds0_c10 : (List Strip)) (holds0_c11 : (List Span)) (rb : Nat) (rb_1 : Nat) (rb_2 : Nat) (qa3 : Option Addr) (na3 ca3 : Nat) (qa4 : Option Addr) (na4 ca4 : Nat) (mv : Value) (w : World) (hw : HV w (keys [] []) [] [] [(rb, 0, [.int .i64 holds0_c0]), (rb_1, 0, [ptr rb_2 0]), (rb_2, 0, [.slice qa3 na3 ca3, .slice qa4 na4 ca4, mv]), (aB qa3, aO qa3, RSt.enc holds0_c10), (aB qa4, aO qa4, RSp.enc holds0_c11)] w)    (hna3 : holds0_c10.length = na3) (hqa3 : AOK na3 qa3) (hla3 : na3 ≤ ca3) (hna4 : holds0_c11.length = na4) (hqa4 : AOK na4 qa4) (hla4 : na4 ≤ ca4) {res : Unit} (hm : Qm holds0_c0 holds0_c10 holds0_c11 = some res) :
    Calls Tryz.prog 80 #[.func (.func 84) #[] #[ptr rb 0, ptr rb_1 0]] w (fun en w' => ∃ l : Nat, en = .returned (.agg #[.func (.func 120) #[] #[ptr l 0]]) ∧ (True) ∧ HV w (keys [] []) [(l, .cells #[.func (.func 84) #[] #[ptr rb 0, ptr rb_1 0]] 135 (0, 0))] [] [] w') := by
  unfold Qm at hm
  refine j5 Tryz.func80 rfl Tryz.ntmps80 rfl (e := [(0, _)]) rfl hw (jq ?_)
  refine jC rfl rfl (fun b h1 => ?_)
  refine jo (fun w => Tryz.zeroValue115 w) rfl (fun b_1 h2 => ?_)
  refine j0 (jc rfl rfl rfl (fun _ _ => jK (u := #[]) (u' := #[_]) rfl rfl) (jc rfl rfl rfl (fun _ _ => jz (vs := [(0, _)]) (cells := [_]) rfl rfl) (jy (us := #[_]) (cs' := [_]) (S' := [_, _]) 0 (fun w => Tryz.sizeOf115 w) rfl rfl rfl rfl rfl rfl rfl (jp (jw ?_)))))
  obtain rfl := sj hm
  refine jm rfl (fun w hh => (.cell rfl (loadVar_agg (vs := [_]) (Tryz.isAgg115 _) (Tryz.sizeOf115 _) (hh.cells 0 rfl rfl)) .nil)) (fun w hh => ⟨b, rfl, trivial, hh.se [1] [] 5 rfl rfl rfl rfl⟩)
def JL (p0 : Pair) (a11 : Int) (a220 : (List Strip)) (a221 : (List Span)) : Option Bool :=
 (if p0.strip = a11 then
 ((yV a220 a221 p0).bind fun t12 =>
 some t12) else
 (some false)).bind fun o =>
 some o
theorem Zc (p0 : Pair) (a11 : Int) (a220 : (List Strip)) (a221 : (List Span)) (rb : Nat) (rb_1 : Nat) (rb_2 : Nat) (qa3 : Option Addr) (na3 ca3 : Nat) (qa4 : Option Addr) (na4 ca4 : Nat) (mv : Value) (w : World) (hw : HV w (keys [] []) [] [] [(rb, 0, [.int .i64 a11]), (rb_1, 0, [ptr rb_2 0]), (rb_2, 0, [.slice qa3 na3 ca3, .slice qa4 na4 ca4, mv]), (aB qa3, aO qa3, RSt.enc a220), (aB qa4, aO qa4, RSp.enc a221)] w)    (hna3 : a220.length = na3) (hqa3 : AOK na3 qa3) (hla3 : na3 ≤ ca3) (hna4 : a221.length = na4) (hqa4 : AOK na4 qa4) (hla4 : na4 ≤ ca4) {res : Bool} (hm : JL p0 a11 a220 a221 = some res) :
    Calls Tryz.prog 84 #[.agg #[.int .i64 p0.tenant, .int .i64 p0.strip], ptr rb 0, ptr rb_1 0] w (fun en w' => ∃ l : Unit, en = .returned (.bool res) ∧ (True) ∧ HV w (keys [] []) [] [] [] w') := by
  unfold JL at hm
  refine j5 Tryz.func84 rfl Tryz.ntmps84 rfl (e := [(0, _), (1, _), (2, _)]) rfl hw (jq ?_)
  refine jC rfl rfl (fun b h1 => ?_)
  refine jk rfl rfl (jp (jj ?_))
  obtain ⟨o, h2, h3⟩ := bindO hm
  refine jF (ι := Unit) (fun l => True) (fun l => [(4, .bool o)]) (fun l => [(b, .cells #[.int .i64 p0.tenant, .int .i64 p0.strip] 126 (0, 0))]) (fun l => []) ?_ ?_
  ·replace hm := h2
   refine jh (jP 1 Tryz.runUnderlying126 rfl Tryz.sizeOf3 rfl rfl (jY 0 Tryz.isAgg3 rfl rfl rfl rfl (jc rfl rfl rfl (fun w hh => jR (Tryz.isAgg3 w) rfl (segCell (hh.seg 0 rfl) 0 rfl)) (jc rfl rfl rfl (fun _ _ => yD rfl rfl) (je rfl rfl ?_)))))
   refine jJ 9 rfl (fun h4 => ?_) (fun h4 => ?_)
   ·replace hm := ifD h4 hm
    refine jb rfl rfl (jc rfl rfl rfl (fun w hh => jR (Tryz.isAgg107 w) rfl (segCell (hh.seg 1 rfl) 0 rfl)) (jb rfl rfl (kD [_, _] 0 Tryz.isAgg126 Tryz.sizeOf126 rfl rfl rfl rfl (jb rfl rfl ?_))))
    obtain ⟨t12, h5, hm⟩ := bindO hm
    refine jd [] [] rfl rfl rfl rfl rfl rfl rfl Tryz.call83 (fun w hh => Ql a220 a221 p0 rb_2 qa3 na3 ca3 qa4 na4 ca4 mv w (HV.callee (S0 := []) (vs0 := []) hh (roR hh 2 rfl (roR hh 3 rfl (roR hh 4 rfl roN)))) hna3 hqa3 hla3 hna4 hqa4 hla4 h5) (fun l_1 h6 => ?_)
    refine kx rfl rfl rfl (jk rfl rfl (jv ?_))
    obtain rfl := sj hm
    exact jg () (trivial) (sE rfl) (fun w hh => hh)
   ·replace hm := ifE h4 hm
    refine g_k rfl rfl rfl rfl (g_k rfl rfl rfl rfl (g_k rfl rfl rfl rfl (j3 rfl rfl rfl (jk rfl rfl (jv ?_)))))
    obtain rfl := sj hm
    exact jg () (trivial) (sE rfl) (fun w hh => hh)
  ·intro l hj
   replace hm := h3
   refine ja (jw ?_)
   obtain rfl := sj hm
   refine jm rfl (fun w hh => (.tmp rfl .nil)) (fun w hh => ⟨(), rfl, trivial, hh.se [] [] 5 rfl rfl rfl rfl⟩)
def q6 (p0 : Pair) (a11_c0 : Int) (a11_c10 : (List Strip)) (a11_c11 : (List Span)) : Option Int :=
 (JL p0 a11_c0 a11_c10 a11_c11).bind fun t6 =>
 if t6 = true then
 (some 1) else
 (some 0)
theorem Zn (p0 : Pair) (a11_c0 : Int) (a11_c10 : (List Strip)) (a11_c11 : (List Span)) (rb : Nat) (rb_1 : Nat) (rb_2 : Nat) (rb_3 : Nat) (qa4 : Option Addr) (na4 ca4 : Nat) (qa5 : Option Addr) (na5 ca5 : Nat) (mv : Value) (w : World) (hw : HV w (keys [] []) [] [] [(rb, 0, [.func (.func 84) #[] #[ptr rb_1 0, ptr rb_2 0]]), (rb_1, 0, [.int .i64 a11_c0]), (rb_2, 0, [ptr rb_3 0]), (rb_3, 0, [.slice qa4 na4 ca4, .slice qa5 na5 ca5, mv]), (aB qa4, aO qa4, RSt.enc a11_c10), (aB qa5, aO qa5, RSp.enc a11_c11)] w)     (hna4 : a11_c10.length = na4) (hqa4 : AOK na4 qa4) (hla4 : na4 ≤ ca4) (hna5 : a11_c11.length = na5) (hqa5 : AOK na5 qa5) (hla5 : na5 ≤ ca5) {res : Int} (hm : q6 p0 a11_c0 a11_c10 a11_c11 = some res) :
    Calls Tryz.prog 120 #[.agg #[.int .i64 p0.tenant, .int .i64 p0.strip], ptr rb 0] w (fun en w' => ∃ l : Unit, en = .returned (.int .i64 res) ∧ (True) ∧ HV w (keys [] []) [] [] [] w') := by
  unfold q6 at hm
  refine j5 Tryz.func120 rfl Tryz.ntmps120 rfl (e := [(0, _), (1, _)]) rfl hw (jq ?_)
  refine jC rfl rfl (fun b h1 => ?_)
  refine jk rfl rfl (jp (jj (jq (jc rfl rfl rfl (fun w hh => jR (Tryz.isAgg135 w) rfl (segCell (hh.seg 0 rfl) 0 rfl)) (kD [_, _] 0 Tryz.isAgg126 Tryz.sizeOf126 rfl rfl rfl rfl ?_)))))
  obtain ⟨t6, h2, hm⟩ := bindO hm
  refine jd [] [] rfl rfl rfl rfl rfl rfl rfl Tryz.call84 (fun w hh => Zc p0 a11_c0 a11_c10 a11_c11 rb_1 rb_2 rb_3 qa4 na4 ca4 qa5 na5 ca5 mv w (HV.callee (S0 := []) (vs0 := []) hh (roR hh 1 rfl (roR hh 2 rfl (roR hh 3 rfl (roR hh 4 rfl (roR hh 5 rfl roN)))))) hna4 hqa4 hla4 hna5 hqa5 hla5 h2) (fun l h3 => ?_)
  refine jp ?_
  refine js rfl (fun h4 => ?_) (fun h4 => ?_)
  ·replace hm := ifT (h4) hm
   refine jq (jk rfl rfl (jp (jw (jf ?_))))
   obtain rfl := sj hm
   refine jm rfl (fun w hh => (.tmp rfl .nil)) (fun w hh => ⟨(), rfl, trivial, hh.se [] [] 6 rfl rfl rfl rfl⟩)
  ·replace hm := ifN h4 hm
   refine ju (ja (jq (jk rfl rfl (jp (jw ?_)))))
   obtain rfl := sj hm
   refine jm rfl (fun w hh => (.tmp rfl .nil)) (fun w hh => ⟨(), rfl, trivial, hh.se [] [] 6 rfl rfl rfl rfl⟩)
structure zQ where
  r0 : Span
  r1 : Int
def qQ (s0 : Scalps) (strip1 : Int) : Option zQ :=
 (kv s0).bind fun t10 =>
 oc t10 (fun t10a => some (⟨(⟨0, 0⟩ : Span), t10a⟩ : zQ)) (fun t10b => (kk s0 strip1).bind fun t21 =>
 if (!t21) = true then
 (some (⟨(⟨0, 0⟩ : Span), 1⟩ : zQ)) else
 ((Qm strip1 s0.strips s0.carried).bind fun t26 =>
 (kg s0.strips s0.carried t10b (fun p_1 : Pair => q6 p_1 strip1 s0.strips s0.carried)).bind fun t27 =>
 some (⟨t27.r0, t27.r1⟩ : zQ)))
theorem Z6 (s0 : Scalps) (strip1 : Int) (qa0 : Option Addr) (na0 ca0 : Nat) (qa1 : Option Addr) (na1 ca1 : Nat) (w : World) (hw : HV w (keys [] []) [] [] [(aB qa0, aO qa0, RSt.enc s0.strips), (aB qa1, aO qa1, RSp.enc s0.carried)] w) (hna0 : s0.strips.length = na0) (hqa0 : AOK na0 qa0) (hla0 : na0 ≤ ca0) (hna1 : s0.carried.length = na1) (hqa1 : AOK na1 qa1) (hla1 : na1 ≤ ca1) {res : zQ} (hm : qQ s0 strip1 = some res) :
    Calls Tryz.prog 27 #[.agg #[.slice qa0 na0 ca0, .slice qa1 na1 ca1], .int .i64 strip1] w (fun en w' => ∃ l : Unit, en = .returned (.tuple #[.agg #[.int .i64 res.r0.lo, .int .i64 res.r0.hi], .int .i64 res.r1]) ∧ (True) ∧ HV w (keys [] []) [] [] [] w') := by
  unfold qQ at hm
  refine j5 Tryz.func27 rfl Tryz.ntmps27 rfl (e := [(0, _), (1, _)]) rfl hw (jq ?_)
  refine jC rfl rfl (fun b h1 => ?_)
  refine jC rfl rfl (fun b_1 h2 => ?_)
  refine jo (fun w => Tryz.zeroValue32 w) rfl (fun b_2 h3 => ?_)
  refine jk rfl rfl (j0 (kD [_, _] 2 Tryz.isAgg25 Tryz.sizeOf25 rfl rfl rfl rfl ?_))
  obtain ⟨t10, h4, hm⟩ := bindO hm
  rcases t10 with t10a | t10b
  ·replace hm := ocL hm
   refine jd [] [] rfl rfl rfl rfl rfl rfl rfl Tryz.call57 (fun w hh => kh s0 qa0 na0 ca0 qa1 na1 ca1 w (HV.callee (S0 := []) (vs0 := []) hh (roR hh 0 rfl (roR hh 1 rfl roN))) hna0 hqa0 hla0 hna1 hqa1 hla1 h4) (fun l h5 => ?_)
   have h6 := h5
   refine je rfl rfl (kp rfl rfl rfl (kp rfl rfl rfl ?_))
   refine jo (fun w => Tryz.zeroValue107 w) rfl (fun b_3 h7 => ?_)
   refine kY (cs' := #[_]) (S' := [_, _, _, _]) 0 (fun w => Tryz.sizeOf107 w) rfl rfl rfl rfl rfl rfl rfl (jk rfl rfl (jp (jj (jn (jq (je rfl rfl (jc rfl rfl rfl (fun _ _ => QI h6 rfl rfl) ?_)))))))
   refine jk rfl rfl (jp (zd rfl rfl (jq (jc rfl rfl rfl (fun _ _ => jz (vs := []) (cells := [_, _]) rfl rfl) (je rfl rfl (jy (us := #[_, _]) (cs' := [_, _]) (S' := [_, _, _, _]) 1 (fun w => Tryz.sizeOf32 w) rfl rfl rfl rfl rfl rfl rfl (jk rfl rfl ?_)))))))
   refine jp (jw (jx (jf ?_)))
   obtain rfl := sj hm
   refine jm rfl (fun w hh => (.cell rfl (loadVar_agg (vs := [_, _]) (Tryz.isAgg32 _) (Tryz.sizeOf32 _) (hh.cells 1 rfl rfl)) (.tmp rfl .nil))) (fun w hh => ⟨(), rfl, trivial, hh.se [] [] 2 rfl rfl rfl rfl⟩)
  ·replace hm := ocR hm
   refine jd [] [] rfl rfl rfl rfl rfl rfl rfl Tryz.call57 (fun w hh => kh s0 qa0 na0 ca0 qa1 na1 ca1 w (HV.callee (S0 := []) (vs0 := []) hh (roR hh 0 rfl (roR hh 1 rfl roN))) hna0 hqa0 hla0 hna1 hqa1 hla1 h4) (fun l_1 h8 => ?_)
   refine jT (S' := [_, _, _, _, _]) (vs' := []) [0, 1, 2, 3, 4] [] 0 rfl rfl rfl rfl (je rfl rfl (kp rfl rfl rfl (kp rfl rfl rfl ?_)))
   refine jo (fun w => Tryz.zeroValue107 w) rfl (fun b_4 h9 => ?_)
   refine kY (cs' := #[_]) (S' := [_, _, _, _, _, _]) 0 (fun w => Tryz.sizeOf107 w) rfl rfl rfl rfl rfl rfl rfl (jk rfl rfl (jp (jj (jn (jq (je rfl rfl (jc rfl rfl rfl (fun _ _ => q8 rfl rfl) ?_)))))))
   refine jk rfl rfl (jp (qW rfl rfl (jq (kD [_, _] 5 Tryz.isAgg25 Tryz.sizeOf25 rfl rfl rfl rfl (jY 4 Tryz.isAgg3 rfl rfl rfl rfl ?_)))))
   obtain ⟨t21, h10, hm⟩ := bindO hm
   refine jd [] [] rfl rfl rfl rfl rfl rfl rfl Tryz.call67 (fun w hh => yO s0 strip1 qa0 na0 ca0 qa1 na1 ca1 w (HV.callee (S0 := []) (vs0 := []) hh (roR hh 0 rfl (roR hh 1 rfl roN))) hna0 hqa0 hla0 hna1 hqa1 hla1 h10) (fun l_2 h11 => ?_)
   refine jc rfl rfl rfl (fun _ _ => kE rfl) (jk rfl rfl (jp ?_))
   refine js rfl (fun h12 => ?_) (fun h12 => ?_)
   ·replace hm := ifT (h12) hm
    refine jq (jc rfl rfl rfl (fun _ _ => jz (vs := []) (cells := [_, _]) rfl rfl) (jy (us := #[_, _]) (cs' := [_, _]) (S' := [_, _, _, _, _, _]) 3 (fun w => Tryz.sizeOf32 w) rfl rfl rfl rfl rfl rfl rfl (jk rfl rfl (jp (jw (jx (jf ?_)))))))
    obtain rfl := sj hm
    refine jm rfl (fun w hh => (.cell rfl (loadVar_agg (vs := [_, _]) (Tryz.isAgg32 _) (Tryz.sizeOf32 _) (hh.cells 3 rfl rfl)) (.tmp rfl .nil))) (fun w hh => ⟨(), rfl, trivial, hh.se [] [] 2 rfl rfl rfl rfl⟩)
   ·replace hm := ifN h12 hm
    refine ju (jt (ja (jj ?_)))
    refine jX none (.hoist 0 (.free 1 (.one 2 (.one 3 (.free 4 (.free 5 (.one 6 (.free 7 .done)))))))) (HV _ _ [(b_4, .cells #[ptr l_1.1 0] 107 (0, 0)), (l_1.1, .cells #[.slice qa0 na0 ca0, .slice qa1 na1 ca1, .map (some l_1.2)] 144 (0, 0)), (l_1.2, gobj (kR RPr) kB t10b), (b_1, .cells #[.int .i64 strip1] 3 (0, 0)), (b, .cells #[.slice qa0 na0 ca0, .slice qa1 na1 ca1] 25 (0, 0))] [] _) rfl (by decide +kernel) (fun w k hh => hh.draw k) (hsE [0, 1, 2, 4, 5] [] 0 rfl rfl rfl rfl) ?_
    refine qY 0 Tryz.isAgg107 rfl rfl rfl rfl rfl (ji rfl rfl rfl rfl (fun _ _ => jK (u := #[]) (u' := #[_, _]) rfl rfl) (jE rfl ?_))
    obtain ⟨t26, h13, hm⟩ := bindO hm
    refine jd [] [] rfl rfl rfl rfl rfl rfl rfl Tryz.call80 (fun w hh => Z1 strip1 s0.strips s0.carried b_1 b_4 l_1.1 qa0 na0 ca0 qa1 na1 ca1 (.map (some l_1.2)) w (HV.callee (S0 := []) (vs0 := []) hh (roC (bsep (hh.bseg 4 rfl)) (roC (bsep (hh.bseg 0 rfl)) (roC (bsep (hh.bseg 1 rfl)) (roR hh 0 rfl (roR hh 1 rfl roN)))))) hna0 hqa0 hla0 hna1 hqa1 hla1 h13) (fun l_3 h14 => ?_)
    refine jT (S' := [_, _, _, _, _, _, _]) (vs' := []) [0, 1, 2, 3, 4, 5, 6] [] 0 rfl rfl rfl rfl (jr (hsE [1, 2, 3, 5, 6] [] 0 rfl rfl rfl rfl) (jE rfl ?_))
    obtain ⟨t27, h15, hm⟩ := bindO hm
    refine jT (S' := [_, _, _, _, _, _, _]) (vs' := []) [3, 0, 1, 2, 4, 5, 6] [] 0 rfl rfl rfl rfl ?_
    refine jd [_] [] rfl rfl rfl rfl rfl rfl rfl Tryz.call79 (fun w hh => yj s0.strips s0.carried t10b (fun p_1 : Pair => q6 p_1 strip1 s0.strips s0.carried) l_1.1 qa0 na0 ca0 qa1 na1 ca1 l_1.2 120 (#[]) (#[ptr l_3 0]) ([(l_3, 0, [.func (.func 84) #[] #[ptr b_1 0, ptr b_4 0]]), (b_1, 0, [.int .i64 strip1]), (b_4, 0, [ptr l_1.1 0]), (l_1.1, 0, [.slice qa0 na0 ca0, .slice qa1 na1 ca1, .map (some l_1.2)]), (aB qa0, aO qa0, RSt.enc s0.strips), (aB qa1, aO qa1, RSp.enc s0.carried)]) w (HV.callee (S0 := [_]) (vs0 := []) hh (roA (roC (hh.bsepH 2 rfl) (roR hh 0 rfl (roR hh 1 rfl roN))) (roC (hh.bsepH 0 rfl) (roC (hh.bsepH 4 rfl) (roC (hh.bsepH 1 rfl) (roC (hh.bsepH 2 rfl) (roR hh 0 rfl (roR hh 1 rfl roN)))))))) hna0 hqa0 hla0 hna1 hqa1 hla1 (⟨fun a w => Tryz.call120 a w, (fun p_1 r hr w hT => clRet (Zn p_1 strip1 s0.strips s0.carried l_3 b_1 b_4 l_1.1 qa0 na0 ca0 qa1 na1 ca1 (.map (some l_1.2)) w (HVstart hT) hna0 hqa0 hla0 hna1 hqa1 hla1 hr))⟩ : ClOK Tryz.prog 120 #[] #[ptr l_3 0] ([(l_3, 0, [.func (.func 84) #[] #[ptr b_1 0, ptr b_4 0]]), (b_1, 0, [.int .i64 strip1]), (b_4, 0, [ptr l_1.1 0]), (l_1.1, 0, [.slice qa0 na0 ca0, .slice qa1 na1 ca1, .map (some l_1.2)]), (aB qa0, aO qa0, RSt.enc s0.strips), (aB qa1, aO qa1, RSp.enc s0.carried)]) (fun x : Pair => [.agg #[.int .i64 x.tenant, .int .i64 x.strip]]) (fun x : Int => .int .i64 x) (fun p_1 : Pair => q6 p_1 strip1 s0.strips s0.carried)) h15) (fun l_4 h16 => ?_)
    refine jT (S' := [_, _, _, _, _, _, _]) (vs' := []) [0, 1, 2, 3, 4, 5, 6] [] 0 rfl rfl rfl rfl (jr (hsE [2, 3, 0, 5, 6] [] 0 rfl rfl rfl rfl) (ji rfl rfl rfl rfl (fun _ _ => jQ rfl rfl) (ji rfl rfl rfl rfl (fun _ _ => jQ rfl rfl) (jE rfl (jy (us := #[_, _]) (cs' := [_, _]) (S' := [_, _, _, _, _, _, _]) 4 (fun w => Tryz.sizeOf32 w) rfl rfl rfl rfl rfl rfl rfl (jr (hsE [2, 3, 0, 5, 6] [] 0 rfl rfl rfl rfl) (ji rfl rfl rfl rfl (fun _ _ => jH rfl) ?_)))))))
    refine jM (ja (jw ?_))
    obtain rfl := sj hm
    refine jm rfl (fun w hh => (.cell rfl (loadVar_agg (vs := [_, _]) (Tryz.isAgg32 _) (Tryz.sizeOf32 _) (hh.cells 4 rfl rfl)) (.tmp rfl .nil))) (fun w hh => ⟨(), rfl, trivial, hh.se [] [] 2 rfl rfl rfl rfl⟩)
end Go.Proofs.Ws

namespace Go.Proofs.Ws
set_option maxHeartbeats 4000000
set_option maxRecDepth 100000
open Go Go.Fw Go.Gx Go.Sp
set_option linter.unusedVariables false
structure Ki where
  own7 : Scalps
  x8 : Scalps
def zr : Plan := (.one 1 (.one 3 (.one 6 (.one 7 .done))))
def zD : Plan := (.br (.alt 3 (.one 4 (.one 6 (.one 7 .done))) (.alt 4 (.one 3 (.one 6 (.one 7 .done))) .nil)))
def QW : Plan := (.br (.alt 1 zD (.alt 4 zr .nil)))
def zB : Plan := (.br (.alt 3 (.one 5 (.one 6 (.one 7 .done))) (.alt 5 (.one 3 (.one 6 (.one 7 .done))) .nil)))
def QV : Plan := (.br (.alt 1 zB (.alt 5 zr .nil)))
def QM : Plan := (.br (.alt 4 (.one 5 (.one 6 (.one 7 .done))) (.alt 5 (.one 4 (.one 6 (.one 7 .done))) .nil)))
def QR : Plan := (.br (.alt 3 QM (.alt 4 zB (.alt 5 zD .nil))))
structure Kb where
  w9 : Int
  a10 : Int
  b11 : Int
  c12 : Int
  missed15_lo : Int
  missed15_hi : Int
  stolen14_lo : Int
  stolen14_hi : Int
  taken13_lo : Int
  taken13_hi : Int
  verdicts16 : (List Int)
structure qc where
  noTenant20 : Bool
  noStrip21 : Bool
structure yt where
  w9 : Int
  a10 : Int
  b11 : Int
  c12 : Int
structure zC where
  taken13_lo : Int
  taken13_hi : Int
structure zE where
  stolen14_lo : Int
  stolen14_hi : Int
structure zp where
  missed15_lo : Int
  missed15_hi : Int
structure yk where
  t23 : Int
  verdicts16 : (List Int)
def ka (s0 : Scalps) (o_4 : yt) (o : Ki) (s : yk) : Option (yk ⊕ (List Int)) :=
 (if s.t23 < (s0.carried.length : Int) then
 (some (decide (o_4.w9 = 0))) else
 (some false)).bind fun o_9 =>
 if o_9 = true then
 (((qm o.x8 s.t23 (-1)).bind fun t145 =>
 (kr o.x8 t145).bind fun t146 =>
 if t146.r1 = 0 then
 ((appc 8 s.verdicts16 [1]).bind fun t158 =>
 some t158) else
 (if 0 < t146.r0 then
 ((appc 8 s.verdicts16 [2]).bind fun t164 =>
 some t164) else
 ((appc 8 s.verdicts16 [0]).bind fun t152 =>
 some t152))).bind fun o_10 =>
 (addc s.t23 1).bind fun t140 =>
 some (.inl (⟨t140, o_10⟩ : yk))) else
 (some (.inr s.verdicts16))
def zL (s0 : Scalps) (tenant1 : Int) (which2 : Int) : Option Bool :=
 (QD s0).bind fun t36 =>
 if t36 = true then
 ((Qa).bind fun t37 =>
 some t37) else
 (((Yl s0).bind fun t39 =>
 (Kn s0).bind fun t41 =>
 some (⟨t39, t41⟩ : Ki)).bind fun o =>
 (K6 o.x8).bind fun t43 =>
 (if t43 = 0 then
 (((qm o.x8 (-1) (-1)).bind fun t52 =>
 (kr o.x8 t52).bind fun t53 =>
 some t53.r2).bind fun o_2 =>
 (if tenant1 < 0 then
 (if which2 < 0 then
 (some (⟨true, true⟩ : qc)) else
 (some (⟨true, (decide ((s0.strips.length : Int) ≤ which2))⟩ : qc))) else
 (if which2 < 0 then
 (some (⟨(decide ((s0.carried.length : Int) ≤ tenant1)), true⟩ : qc)) else
 (some (⟨(decide ((s0.carried.length : Int) ≤ tenant1)), (decide ((s0.strips.length : Int) ≤ which2))⟩ : qc)))).bind fun o_3 =>
 (if o_3.noTenant20 = true then
 ((jB true o_2).bind fun t81 =>
 (jB o_3.noTenant20 o_2).bind fun t84 =>
 (jB o_3.noStrip21 o_2).bind fun t87 =>
 (jB false o_2).bind fun t89 =>
 some (⟨t89, t81, t84, t87⟩ : yt)) else
 ((jB o_3.noStrip21 o_2).bind fun t81_1 =>
 (jB o_3.noTenant20 o_2).bind fun t84_1 =>
 (jB o_3.noStrip21 o_2).bind fun t87_1 =>
 (jB false o_2).bind fun t89_1 =>
 some (⟨t89_1, t81_1, t84_1, t87_1⟩ : yt))).bind fun o_4 =>
 (if o_4.a10 = 0 then
 ((Qg o.x8 tenant1 which2).bind fun t97 =>
 (kr o.x8 t97).bind fun t98 =>
 some (⟨t98.r0, t98.r1⟩ : zC)) else
 (some (⟨0, 0⟩ : zC))).bind fun o_5 =>
 (if o_4.b11 = 0 then
 ((qm o.x8 tenant1 (-1)).bind fun t110 =>
 (kr o.x8 t110).bind fun t111 =>
 some (⟨t111.r0, t111.r1⟩ : zE)) else
 (some (⟨0, 0⟩ : zE))).bind fun o_6 =>
 (if o_4.c12 = 0 then
 ((qm o.x8 (-1) which2).bind fun t123 =>
 (kr o.x8 t123).bind fun t124 =>
 some (⟨t124.r0, t124.r1⟩ : zp)) else
 (some (⟨0, 0⟩ : zp))).bind fun o_7 =>
 (iterM FU (ka s0 o_4 o) (⟨0, []⟩ : yk)).bind fun o_8 =>
 some (⟨o_4.w9, o_4.a10, o_4.b11, o_4.c12, o_7.missed15_lo, o_7.missed15_hi, o_6.stolen14_lo, o_6.stolen14_hi, o_5.taken13_lo, o_5.taken13_hi, o_8⟩ : Kb)) else
 (some (⟨t43, t43, t43, t43, 0, 0, 0, 0, 0, 0, []⟩ : Kb))).bind fun o_1 =>
 (q7 o.own7 tenant1 which2).bind fun t169 =>
 (qS o.own7 tenant1).bind fun t175 =>
 (qQ o.own7 which2).bind fun t181 =>
 (kA o.own7).bind fun t186 =>
 (if t169.r1 = o_1.a10 then
 (if t175.r1 = o_1.b11 then
 (if t181.r1 = o_1.c12 then
 (if t186.r1 = o_1.w9 then
 (if t169.r0 = (⟨o_1.taken13_lo, o_1.taken13_hi⟩ : Span) then
 (if t175.r0 = (⟨o_1.stolen14_lo, o_1.stolen14_hi⟩ : Span) then
 (if t181.r0 = (⟨o_1.missed15_lo, o_1.missed15_hi⟩ : Span) then
 ((ko t186.r0 o_1.verdicts16).bind fun t225 =>
 if t225 = true then
 ((QC o.own7 s0).bind fun t230 =>
 if t230 = true then
 ((Qa).bind fun t233 =>
 some t233) else
 (some false)) else
 (some false)) else
 (some false)) else
 (some false)) else
 (some false)) else
 (some false)) else
 (some false)) else
 (some false)) else
 (some false)).bind fun o_11 =>
 some o_11)
theorem Yz (s0 : Scalps) (tenant1 : Int) (which2 : Int) (qa0 : Option Addr) (na0 ca0 : Nat) (qa1 : Option Addr) (na1 ca1 : Nat) (w : World) (hw : HV w (keys [] []) [] [] [(aB qa0, aO qa0, RSt.enc s0.strips), (aB qa1, aO qa1, RSp.enc s0.carried)] w) (hna0 : s0.strips.length = na0) (hqa0 : AOK na0 qa0) (hla0 : na0 ≤ ca0) (hna1 : s0.carried.length = na1) (hqa1 : AOK na1 qa1) (hla1 : na1 ≤ ca1) {res : Bool} (hm : zL s0 tenant1 which2 = some res) :
    Calls Tryz.prog 4 #[.agg #[.slice qa0 na0 ca0, .slice qa1 na1 ca1], .int .i64 tenant1, .int .i64 which2] w (fun en w' => ∃ l : Unit, en = .returned (.bool res) ∧ (True) ∧ HV w (keys [] []) [] [] [] w') := by
  unfold zL at hm
  refine j5 Tryz.func4 rfl Tryz.ntmps4 rfl (e := [(0, _), (1, _), (2, _)]) rfl hw (jq ?_)
  refine jC rfl rfl (fun b h1 => ?_)
  refine jk rfl rfl (jp (jj (jq (kD [_, _] 0 Tryz.isAgg25 Tryz.sizeOf25 rfl rfl rfl rfl ?_))))
  obtain ⟨t36, h2, hm⟩ := bindO hm
  refine jd [] [] rfl rfl rfl rfl rfl rfl rfl Tryz.call7 (fun w hh => jaE s0 qa0 na0 ca0 qa1 na1 ca1 w (HV.callee (S0 := []) (vs0 := []) hh (roR hh 0 rfl (roR hh 1 rfl roN))) hna0 hqa0 hla0 hna1 hqa1 hla1 h2) (fun l h3 => ?_)
  refine jp ?_
  refine js rfl (fun h4 => ?_) (fun h4 => ?_)
  ·replace hm := ifT (h4) hm
   refine jq ?_
   obtain ⟨t37, h5, hm⟩ := bindO hm
   refine jd [] [] rfl rfl rfl rfl rfl rfl rfl Tryz.call8 (fun w hh => Zj  w (HV.callee (S0 := []) (vs0 := []) hh roN)  h5) (fun l_1 h6 => ?_)
   refine jk rfl rfl (jp (jw (jf ?_)))
   obtain rfl := sj hm
   refine jm rfl (fun w hh => (.tmp rfl .nil)) (fun w hh => ⟨(), rfl, trivial, hh.se [] [] 2 rfl rfl rfl rfl⟩)
  ·replace hm := ifN h4 hm
   refine ju (ja (jj ?_))
   obtain ⟨o, h7, h8⟩ := bindO hm
   refine jF (ι := Nat × Nat × VL × VL × VL × VL) (fun l_2 => VOK 7 l_2.2.2.1.n l_2.2.2.1.cap (RSt.enc o.own7.strips) l_2.2.2.1.sp l_2.2.2.1.q ∧ VOK 2 l_2.2.2.2.1.n l_2.2.2.2.1.cap (RSp.enc o.own7.carried) l_2.2.2.2.1.sp l_2.2.2.2.1.q ∧ VOK 7 l_2.2.2.2.2.1.n l_2.2.2.2.2.1.cap (RSt.enc o.x8.strips) l_2.2.2.2.2.1.sp l_2.2.2.2.2.1.q ∧ VOK 2 l_2.2.2.2.2.2.n l_2.2.2.2.2.2.cap (RSp.enc o.x8.carried) l_2.2.2.2.2.2.sp l_2.2.2.2.2.2.q) (fun l_2 => [(1, .int .i64 tenant1), (2, .int .i64 which2), (3, ptr b 0), (7, ptr l_2.1 0), (8, ptr l_2.2.1 0)]) (fun l_2 => [(b, .cells #[.slice qa0 na0 ca0, .slice qa1 na1 ca1] 25 (0, 0)), (l_2.1, .cells #[slv l_2.2.2.1.q l_2.2.2.1.n l_2.2.2.1.cap, slv l_2.2.2.2.1.q l_2.2.2.2.1.n l_2.2.2.2.1.cap] 25 (0, 0)), (l_2.2.1, .cells #[slv l_2.2.2.2.2.1.q l_2.2.2.2.2.1.n l_2.2.2.2.2.1.cap, slv l_2.2.2.2.2.2.q l_2.2.2.2.2.2.n l_2.2.2.2.2.2.cap] 38 (0, 0))]) (fun l_2 => [⟨85, RSt.enc o.own7.strips, l_2.2.2.1.sp, l_2.2.2.1.q, []⟩, ⟨32, RSp.enc o.own7.carried, l_2.2.2.2.1.sp, l_2.2.2.2.1.q, []⟩, ⟨98, RSt.enc o.x8.strips, l_2.2.2.2.2.1.sp, l_2.2.2.2.2.1.q, []⟩, ⟨32, RSp.enc o.x8.carried, l_2.2.2.2.2.2.sp, l_2.2.2.2.2.2.q, []⟩]) ?_ ?_
   ·replace hm := h7
    obtain ⟨t39, h13, hm⟩ := bindO hm
    obtain ⟨t41, h14, hm⟩ := bindO hm
    refine jX none (.hoist 0 (.hoist 2 (.br (.alt 1 QR (.alt 4 QV (.alt 5 QW .nil)))))) _ rfl (by decide +kernel) (fun w k hh => hh.draw k) (fun w hh => hh) ?_
    refine jD rfl rfl rfl rfl (fun w hh => j1 (vs := [_, _]) (Tryz.isAgg25 w) (Tryz.sizeOf25 w) rfl (hh.cells 0 rfl rfl)) (jD rfl rfl rfl rfl (fun w hh => j1 (vs := [_, _]) (Tryz.isAgg25 w) (Tryz.sizeOf25 w) rfl (hh.cells 0 rfl rfl)) ?_)
    refine KU (.one 7 .done) (fun g => ∀ (b_1 : Nat) (b_2 : Nat) (L : VL) (L_1 : VL) (L_2 : VL) (L_3 : VL), vk 7 L (RSt.enc t41.strips) → vk 2 L_1 (RSp.enc t41.carried) → vk 7 L_2 (RSt.enc t39.strips) → vk 2 L_3 (RSp.enc t39.carried) → g [(1, .int .i64 tenant1), (2, .int .i64 which2), (3, ptr b 0), (7, ptr b_1 0), (8, ptr b_2 0), (41, .agg #[sL L, sL L_1])] [(b, .cells #[.slice qa0 na0 ca0, .slice qa1 na1 ca1] 25 (0, 0)), (b_1, .cells #[sL L_2, sL L_3] 25 (0, 0)), (b_2, .cells #[slv none 0 0, slv none 0 0] 38 (0, 0))] [vL 98 L (RSt.enc t41.strips), vL 32 L_1 (RSp.enc t41.carried), vL 85 L_2 (RSt.enc t39.strips), vL 32 L_3 (RSp.enc t39.carried)]) ?_ (fun h19 => ?_)
    ·intro b_1 b_2 L L_1 L_2 L_3 h15 h16 h17 h18
     refine jE rfl (jy (us := #[_, _]) (cs' := [_, _]) (S' := [_, _, _]) 2 (fun w => Tryz.sizeOf38 w) rfl rfl rfl rfl rfl rfl rfl (jr (hsE [0] [] 0 rfl rfl rfl rfl) (jM ?_)))
     obtain rfl := sj hm
     exact jg (b_1, b_2, L_2, L_3, L, L_1) (⟨h17, h18, h15, h16⟩) (sE rfl) (hsE [0, 1, 2] [2, 3, 0, 1] 0 rfl rfl rfl rfl)
    refine KU (.one 6 (.one 7 .done)) (fun g => ∀ (b_3 : Nat) (b_4 : Nat) (L_4 : VL) (L_5 : VL) (L_6 : VL) (L_7 : VL), vk 7 L_4 (RSt.enc t39.strips) → vk 2 L_5 (RSp.enc t39.carried) → vk 7 L_6 (RSt.enc t41.strips) → vk 2 L_7 (RSp.enc t41.carried) → g [(1, .int .i64 tenant1), (2, .int .i64 which2), (3, ptr b 0), (7, ptr b_3 0), (8, ptr b_4 0), (39, .agg #[sL L_4, sL L_5]), (41, .agg #[sL L_6, sL L_7])] [(b, .cells #[.slice qa0 na0 ca0, .slice qa1 na1 ca1] 25 (0, 0)), (b_3, .cells #[slv none 0 0, slv none 0 0] 25 (0, 0)), (b_4, .cells #[slv none 0 0, slv none 0 0] 38 (0, 0))] [vL 85 L_4 (RSt.enc t39.strips), vL 32 L_5 (RSp.enc t39.carried), vL 98 L_6 (RSt.enc t41.strips), vL 32 L_7 (RSp.enc t41.carried)]) ?_ (fun h24 => ?_)
    ·intro b_3 b_4 L_4 L_5 L_6 L_7 h20 h21 h22 h23
     refine jE rfl (jy (us := #[_, _]) (cs' := [_, _]) (S' := [_, _, _]) 1 (fun w => Tryz.sizeOf25 w) rfl rfl rfl rfl rfl rfl rfl (jr (hsE [0] [] 0 rfl rfl rfl rfl) ?_))
     exact K2 (h19 b_3 b_4 L_6 L_7 L_4 L_5 h22 h23 h20 h21) (sE rfl) (hsE [0, 1, 2] [2, 3, 0, 1] 0 rfl rfl rfl rfl)
    refine KU (.one 3 (.one 6 (.one 7 .done))) (fun g => ∀ (b_5 : Nat) (b_6 : Nat) (L_8 : VL) (L_9 : VL), vk 7 L_8 (RSt.enc t39.strips) → vk 2 L_9 (RSp.enc t39.carried) → g [(1, .int .i64 tenant1), (2, .int .i64 which2), (3, ptr b 0), (7, ptr b_5 0), (8, ptr b_6 0), (39, .agg #[sL L_8, sL L_9]), (40, .agg #[.slice qa0 na0 ca0, .slice qa1 na1 ca1])] [(b, .cells #[.slice qa0 na0 ca0, .slice qa1 na1 ca1] 25 (0, 0)), (b_5, .cells #[slv none 0 0, slv none 0 0] 25 (0, 0)), (b_6, .cells #[slv none 0 0, slv none 0 0] 38 (0, 0))] [vL 85 L_8 (RSt.enc t39.strips), vL 32 L_9 (RSp.enc t39.carried)]) ?_ (fun h27 => ?_)
    ·intro b_5 b_6 L_8 L_9 h25 h26
     refine jE rfl ?_
     refine jd [] [] rfl rfl rfl rfl rfl rfl rfl Tryz.call10 (fun w hh => Qh s0 qa0 na0 ca0 qa1 na1 ca1 w (HV.callee (S0 := []) (vs0 := []) hh (roR hh 0 rfl (roR hh 1 rfl roN))) hna0 hqa0 hla0 hna1 hqa1 hla1 h14) (fun l_3 h28 => ?_)
     obtain ⟨h29, h30⟩ := h28
     refine jT (S' := [_, _, _]) (vs' := [_, _, _, _]) [0, 1, 2] [0, 1, 2, 3] 0 rfl rfl rfl rfl (jr (hsE [0] [] 0 rfl rfl rfl rfl) ?_)
     exact K2 (h24 b_5 b_6 L_8 L_9 l_3.1 l_3.2 h25 h26 h29 h30) (sE rfl) (hsE [0, 1, 2] [2, 3, 0, 1] 0 rfl rfl rfl rfl)
    refine KU (.one 4 (.one 6 (.one 7 .done))) (fun g => ∀ (b_7 : Nat) (L_10 : VL) (L_11 : VL) (L_12 : VL) (L_13 : VL), vk 7 L_10 (RSt.enc t39.strips) → vk 2 L_11 (RSp.enc t39.carried) → vk 7 L_12 (RSt.enc t41.strips) → vk 2 L_13 (RSp.enc t41.carried) → g [(1, .int .i64 tenant1), (2, .int .i64 which2), (3, ptr b 0), (8, ptr b_7 0), (39, .agg #[sL L_10, sL L_11]), (41, .agg #[sL L_12, sL L_13])] [(b, .cells #[.slice qa0 na0 ca0, .slice qa1 na1 ca1] 25 (0, 0)), (b_7, .cells #[slv none 0 0, slv none 0 0] 38 (0, 0))] [vL 85 L_10 (RSt.enc t39.strips), vL 32 L_11 (RSp.enc t39.carried), vL 98 L_12 (RSt.enc t41.strips), vL 32 L_13 (RSp.enc t41.carried)]) ?_ (fun h35 => ?_)
    ·intro b_7 L_10 L_11 L_12 L_13 h31 h32 h33 h34
     refine jE rfl ?_
     refine jo (fun w => Tryz.zeroValue25 w) rfl (fun b_8 h36 => ?_)
     refine jr (hsE [1] [] 0 rfl rfl rfl rfl) ?_
     exact K2 (h24 b_8 b_7 L_10 L_11 L_12 L_13 h31 h32 h33 h34) (sE rfl) (hsE [1, 0, 2] [0, 1, 2, 3] 0 rfl rfl rfl rfl)
    refine KU (.one 5 (.one 6 (.one 7 .done))) (fun g => ∀ (b_9 : Nat) (L_14 : VL) (L_15 : VL) (L_16 : VL) (L_17 : VL), vk 7 L_14 (RSt.enc t39.strips) → vk 2 L_15 (RSp.enc t39.carried) → vk 7 L_16 (RSt.enc t41.strips) → vk 2 L_17 (RSp.enc t41.carried) → g [(1, .int .i64 tenant1), (2, .int .i64 which2), (3, ptr b 0), (7, ptr b_9 0), (39, .agg #[sL L_14, sL L_15]), (41, .agg #[sL L_16, sL L_17])] [(b, .cells #[.slice qa0 na0 ca0, .slice qa1 na1 ca1] 25 (0, 0)), (b_9, .cells #[slv none 0 0, slv none 0 0] 25 (0, 0))] [vL 85 L_14 (RSt.enc t39.strips), vL 32 L_15 (RSp.enc t39.carried), vL 98 L_16 (RSt.enc t41.strips), vL 32 L_17 (RSp.enc t41.carried)]) ?_ (fun h41 => ?_)
    ·intro b_9 L_14 L_15 L_16 L_17 h37 h38 h39 h40
     refine jE rfl ?_
     refine jo (fun w => Tryz.zeroValue38 w) rfl (fun b_10 h42 => ?_)
     refine jr (hsE [1] [] 0 rfl rfl rfl rfl) ?_
     exact K2 (h24 b_9 b_10 L_14 L_15 L_16 L_17 h37 h38 h39 h40) (sE rfl) (hsE [1, 2, 0] [0, 1, 2, 3] 0 rfl rfl rfl rfl)
    refine KU zr (fun g => ∀ (b_11 : Nat) (b_12 : Nat), g [(1, .int .i64 tenant1), (2, .int .i64 which2), (3, ptr b 0), (7, ptr b_11 0), (8, ptr b_12 0), (38, .agg #[.slice qa0 na0 ca0, .slice qa1 na1 ca1]), (40, .agg #[.slice qa0 na0 ca0, .slice qa1 na1 ca1])] [(b, .cells #[.slice qa0 na0 ca0, .slice qa1 na1 ca1] 25 (0, 0)), (b_11, .cells #[slv none 0 0, slv none 0 0] 25 (0, 0)), (b_12, .cells #[slv none 0 0, slv none 0 0] 38 (0, 0))] []) ?_ (fun h43 => ?_)
    ·intro b_11 b_12
     refine jE rfl ?_
     refine jd [] [] rfl rfl rfl rfl rfl rfl rfl Tryz.call9 (fun w hh => YR s0 qa0 na0 ca0 qa1 na1 ca1 w (HV.callee (S0 := []) (vs0 := []) hh (roR hh 0 rfl (roR hh 1 rfl roN))) hna0 hqa0 hla0 hna1 hqa1 hla1 h13) (fun l_4 h44 => ?_)
     obtain ⟨h45, h46⟩ := h44
     refine jT (S' := [_, _, _]) (vs' := [_, _]) [0, 1, 2] [0, 1] 0 rfl rfl rfl rfl (jr (hsE [0] [] 0 rfl rfl rfl rfl) ?_)
     exact K2 (h27 b_11 b_12 l_4.1 l_4.2 h45 h46) (sE rfl) (fun w hh => hh)
    refine KU zD (fun g => ∀ (b_13 : Nat) (L_18 : VL) (L_19 : VL), vk 7 L_18 (RSt.enc t39.strips) → vk 2 L_19 (RSp.enc t39.carried) → g [(1, .int .i64 tenant1), (2, .int .i64 which2), (3, ptr b 0), (8, ptr b_13 0), (39, .agg #[sL L_18, sL L_19]), (40, .agg #[.slice qa0 na0 ca0, .slice qa1 na1 ca1])] [(b, .cells #[.slice qa0 na0 ca0, .slice qa1 na1 ca1] 25 (0, 0)), (b_13, .cells #[slv none 0 0, slv none 0 0] 38 (0, 0))] [vL 85 L_18 (RSt.enc t39.strips), vL 32 L_19 (RSp.enc t39.carried)]) ?_ (fun h49 => ?_)
    ·intro b_13 L_18 L_19 h47 h48
     refine YH ?_
     refine kN rfl ?_ ?_
     ·refine jd [] [] rfl rfl rfl rfl rfl rfl rfl Tryz.call10 (fun w hh => Qh s0 qa0 na0 ca0 qa1 na1 ca1 w (HV.callee (S0 := []) (vs0 := []) hh (roR hh 0 rfl (roR hh 1 rfl roN))) hna0 hqa0 hla0 hna1 hqa1 hla1 h14) (fun l_5 h50 => ?_)
      obtain ⟨h51, h52⟩ := h50
      refine jT (S' := [_, _]) (vs' := [_, _, _, _]) [0, 1] [0, 1, 2, 3] 0 rfl rfl rfl rfl (jr (hsE [0] [] 0 rfl rfl rfl rfl) ?_)
      exact K2 (h35 b_13 L_18 L_19 l_5.1 l_5.2 h47 h48 h51 h52) (sE rfl) (hsE [0, 1] [2, 3, 0, 1] 0 rfl rfl rfl rfl)
     refine kN rfl ?_ ?_
     ·refine jo (fun w => Tryz.zeroValue25 w) rfl (fun b_14 h53 => ?_)
      refine jr (hsE [1] [] 0 rfl rfl rfl rfl) ?_
      exact K2 (h27 b_14 b_13 L_18 L_19 h47 h48) (sE rfl) (hsE [1, 0, 2] [0, 1] 0 rfl rfl rfl rfl)
     exact JU
    refine KU zB (fun g => ∀ (b_15 : Nat) (L_20 : VL) (L_21 : VL), vk 7 L_20 (RSt.enc t39.strips) → vk 2 L_21 (RSp.enc t39.carried) → g [(1, .int .i64 tenant1), (2, .int .i64 which2), (3, ptr b 0), (7, ptr b_15 0), (39, .agg #[sL L_20, sL L_21]), (40, .agg #[.slice qa0 na0 ca0, .slice qa1 na1 ca1])] [(b, .cells #[.slice qa0 na0 ca0, .slice qa1 na1 ca1] 25 (0, 0)), (b_15, .cells #[slv none 0 0, slv none 0 0] 25 (0, 0))] [vL 85 L_20 (RSt.enc t39.strips), vL 32 L_21 (RSp.enc t39.carried)]) ?_ (fun h56 => ?_)
    ·intro b_15 L_20 L_21 h54 h55
     refine YH ?_
     refine kN rfl ?_ ?_
     ·refine jd [] [] rfl rfl rfl rfl rfl rfl rfl Tryz.call10 (fun w hh => Qh s0 qa0 na0 ca0 qa1 na1 ca1 w (HV.callee (S0 := []) (vs0 := []) hh (roR hh 0 rfl (roR hh 1 rfl roN))) hna0 hqa0 hla0 hna1 hqa1 hla1 h14) (fun l_6 h57 => ?_)
      obtain ⟨h58, h59⟩ := h57
      refine jT (S' := [_, _]) (vs' := [_, _, _, _]) [0, 1] [0, 1, 2, 3] 0 rfl rfl rfl rfl (jr (hsE [0] [] 0 rfl rfl rfl rfl) ?_)
      exact K2 (h41 b_15 L_20 L_21 l_6.1 l_6.2 h54 h55 h58 h59) (sE rfl) (hsE [0, 1] [2, 3, 0, 1] 0 rfl rfl rfl rfl)
     refine kN rfl ?_ ?_
     ·refine jo (fun w => Tryz.zeroValue38 w) rfl (fun b_16 h60 => ?_)
      refine jr (hsE [1] [] 0 rfl rfl rfl rfl) ?_
      exact K2 (h27 b_15 b_16 L_20 L_21 h54 h55) (sE rfl) (hsE [1, 2, 0] [0, 1] 0 rfl rfl rfl rfl)
     exact JU
    refine YH ?_
    refine kN rfl ?_ ?_
    ·refine jd [] [] rfl rfl rfl rfl rfl rfl rfl Tryz.call9 (fun w hh => YR s0 qa0 na0 ca0 qa1 na1 ca1 w (HV.callee (S0 := []) (vs0 := []) hh (roR hh 0 rfl (roR hh 1 rfl roN))) hna0 hqa0 hla0 hna1 hqa1 hla1 h13) (fun l_7 h61 => ?_)
     obtain ⟨h62, h63⟩ := h61
     refine jT (S' := [_]) (vs' := [_, _]) [0] [0, 1] 0 rfl rfl rfl rfl (jr (hsE [0] [] 0 rfl rfl rfl rfl) (YH ?_))
     refine kN rfl ?_ ?_
     ·refine jd [] [] rfl rfl rfl rfl rfl rfl rfl Tryz.call10 (fun w hh => Qh s0 qa0 na0 ca0 qa1 na1 ca1 w (HV.callee (S0 := []) (vs0 := []) hh (roR hh 0 rfl (roR hh 1 rfl roN))) hna0 hqa0 hla0 hna1 hqa1 hla1 h14) (fun l_8 h64 => ?_)
      obtain ⟨h65, h66⟩ := h64
      refine jT (S' := [_]) (vs' := [_, _, _, _]) [0] [0, 1, 2, 3] 0 rfl rfl rfl rfl (jr (hsE [0] [] 0 rfl rfl rfl rfl) (YH ?_))
      refine kN rfl ?_ ?_
      ·refine jo (fun w => Tryz.zeroValue25 w) rfl (fun b_17 h67 => ?_)
       refine jr (hsE [1] [] 0 rfl rfl rfl rfl) ?_
       exact K2 (h41 b_17 l_7.1 l_7.2 l_8.1 l_8.2 h62 h63 h65 h66) (sE rfl) (hsE [1, 0] [2, 3, 0, 1] 0 rfl rfl rfl rfl)
      refine kN rfl ?_ ?_
      ·refine jo (fun w => Tryz.zeroValue38 w) rfl (fun b_18 h68 => ?_)
       refine jr (hsE [1] [] 0 rfl rfl rfl rfl) ?_
       exact K2 (h35 b_18 l_7.1 l_7.2 l_8.1 l_8.2 h62 h63 h65 h66) (sE rfl) (hsE [1, 0] [2, 3, 0, 1] 0 rfl rfl rfl rfl)
      exact JU
     refine kN rfl ?_ ?_
     ·refine jo (fun w => Tryz.zeroValue25 w) rfl (fun b_19 h69 => ?_)
      refine jr (hsE [1] [] 0 rfl rfl rfl rfl) ?_
      exact K2 (h56 b_19 l_7.1 l_7.2 h62 h63) (sE rfl) (hsE [1, 0] [0, 1] 0 rfl rfl rfl rfl)
     refine kN rfl ?_ ?_
     ·refine jo (fun w => Tryz.zeroValue38 w) rfl (fun b_20 h70 => ?_)
      refine jr (hsE [1] [] 0 rfl rfl rfl rfl) ?_
      exact K2 (h49 b_20 l_7.1 l_7.2 h62 h63) (sE rfl) (hsE [1, 0] [0, 1] 0 rfl rfl rfl rfl)
     exact JU
    refine kN rfl ?_ ?_
    ·refine jo (fun w => Tryz.zeroValue25 w) rfl (fun b_21 h71 => ?_)
     refine jr (hsE [1] [] 0 rfl rfl rfl rfl) (YH ?_)
     refine kN rfl ?_ ?_
     ·refine jd [] [] rfl rfl rfl rfl rfl rfl rfl Tryz.call9 (fun w hh => YR s0 qa0 na0 ca0 qa1 na1 ca1 w (HV.callee (S0 := []) (vs0 := []) hh (roR hh 0 rfl (roR hh 1 rfl roN))) hna0 hqa0 hla0 hna1 hqa1 hla1 h13) (fun l_9 h72 => ?_)
      obtain ⟨h73, h74⟩ := h72
      refine jT (S' := [_, _]) (vs' := [_, _]) [0, 1] [0, 1] 0 rfl rfl rfl rfl (jr (hsE [1] [] 0 rfl rfl rfl rfl) ?_)
      exact K2 (h56 b_21 l_9.1 l_9.2 h73 h74) (sE rfl) (hsE [1, 0] [0, 1] 0 rfl rfl rfl rfl)
     refine kN rfl ?_ ?_
     ·refine jo (fun w => Tryz.zeroValue38 w) rfl (fun b_22 h75 => ?_)
      refine jr (hsE [2] [] 0 rfl rfl rfl rfl) ?_
      exact K2 (h43 b_21 b_22) (sE rfl) (hsE [2, 1, 0] [] 0 rfl rfl rfl rfl)
     exact JU
    refine kN rfl ?_ ?_
    ·refine jo (fun w => Tryz.zeroValue38 w) rfl (fun b_23 h76 => ?_)
     refine jr (hsE [1] [] 0 rfl rfl rfl rfl) (YH ?_)
     refine kN rfl ?_ ?_
     ·refine jd [] [] rfl rfl rfl rfl rfl rfl rfl Tryz.call9 (fun w hh => YR s0 qa0 na0 ca0 qa1 na1 ca1 w (HV.callee (S0 := []) (vs0 := []) hh (roR hh 0 rfl (roR hh 1 rfl roN))) hna0 hqa0 hla0 hna1 hqa1 hla1 h13) (fun l_10 h77 => ?_)
      obtain ⟨h78, h79⟩ := h77
      refine jT (S' := [_, _]) (vs' := [_, _]) [0, 1] [0, 1] 0 rfl rfl rfl rfl (jr (hsE [1] [] 0 rfl rfl rfl rfl) ?_)
      exact K2 (h49 b_23 l_10.1 l_10.2 h78 h79) (sE rfl) (hsE [1, 0] [0, 1] 0 rfl rfl rfl rfl)
     refine kN rfl ?_ ?_
     ·refine jo (fun w => Tryz.zeroValue25 w) rfl (fun b_24 h80 => ?_)
      refine jr (hsE [2] [] 0 rfl rfl rfl rfl) ?_
      exact K2 (h43 b_24 b_23) (sE rfl) (hsE [2, 0, 1] [] 0 rfl rfl rfl rfl)
     exact JU
    exact JU
   ·intro l_2 hj
    obtain ⟨h9, h10, h11, h12⟩ := hj
    replace hm := h8
    refine ja (jq (kD [_, _] 2 Tryz.isAgg38 Tryz.sizeOf38 rfl rfl rfl rfl ?_))
    obtain ⟨t43, h81, hm⟩ := bindO hm
    refine jd [] [] rfl rfl rfl rfl rfl rfl rfl Tryz.call12 (fun w hh => jaf o.x8 (qA l_2.2.2.2.2.1.q) l_2.2.2.2.2.1.n l_2.2.2.2.2.1.cap (qA l_2.2.2.2.2.2.q) l_2.2.2.2.2.2.n l_2.2.2.2.2.2.cap w (HV.callee (S0 := []) (vs0 := []) hh (roC (hh.vsepA 2 rfl h11) (roC (hh.vsepA 3 rfl h12) roN))) (vlen RSt h11 rfl) (AOK.q (vne h11)) (h11).hle (vlen RSp h12 rfl) (AOK.q (vne h12)) (h12).hle h81) (fun l_11 h82 => ?_)
    refine jk rfl rfl (j0 (je rfl rfl (je rfl rfl (je rfl rfl (jk rfl rfl (jk rfl rfl (jk rfl rfl ?_)))))))
    refine j0 ?_
    refine jo (fun w => Tryz.zeroValue32 w) rfl (fun b_25 h83 => ?_)
    refine jo (fun w => Tryz.zeroValue32 w) rfl (fun b_26 h84 => ?_)
    refine jo (fun w => Tryz.zeroValue32 w) rfl (fun b_27 h85 => ?_)
    refine j0 (jc rfl rfl rfl (fun _ _ => kX rfl) (jp (jj (kC 62 ?_))))
    obtain ⟨o_1, h86, h87⟩ := bindO hm
    refine jF (ι := VL) (fun l_12 => VOK 1 l_12.n l_12.cap (RI.enc o_1.verdicts16) l_12.sp l_12.q) (fun l_12 => [(1, .int .i64 tenant1), (2, .int .i64 which2), (3, ptr b 0), (7, ptr l_2.1 0), (9, .int .i64 o_1.w9), (10, .int .i64 o_1.a10), (11, .int .i64 o_1.b11), (12, .int .i64 o_1.c12), (13, ptr b_25 0), (14, ptr b_26 0), (15, ptr b_27 0), (16, slv l_12.q l_12.n l_12.cap)]) (fun l_12 => [(b_27, .cells #[.int .i64 o_1.missed15_lo, .int .i64 o_1.missed15_hi] 32 (0, 0)), (b_26, .cells #[.int .i64 o_1.stolen14_lo, .int .i64 o_1.stolen14_hi] 32 (0, 0)), (b_25, .cells #[.int .i64 o_1.taken13_lo, .int .i64 o_1.taken13_hi] 32 (0, 0)), (b, .cells #[.slice qa0 na0 ca0, .slice qa1 na1 ca1] 25 (0, 0)), (l_2.1, .cells #[slv l_2.2.2.1.q l_2.2.2.1.n l_2.2.2.1.cap, slv l_2.2.2.2.1.q l_2.2.2.2.1.n l_2.2.2.2.1.cap] 25 (0, 0)), (l_2.2.1, .cells #[slv l_2.2.2.2.2.1.q l_2.2.2.2.2.1.n l_2.2.2.2.2.1.cap, slv l_2.2.2.2.2.2.q l_2.2.2.2.2.2.n l_2.2.2.2.2.2.cap] 38 (0, 0))]) (fun l_12 => [⟨62, RI.enc o_1.verdicts16, l_12.sp, l_12.q, []⟩, ⟨85, RSt.enc o.own7.strips, l_2.2.2.1.sp, l_2.2.2.1.q, []⟩, ⟨32, RSp.enc o.own7.carried, l_2.2.2.2.1.sp, l_2.2.2.2.1.q, []⟩, ⟨98, RSt.enc o.x8.strips, l_2.2.2.2.2.1.sp, l_2.2.2.2.2.1.q, []⟩, ⟨32, RSp.enc o.x8.carried, l_2.2.2.2.2.2.sp, l_2.2.2.2.2.2.q, []⟩]) ?_ ?_
    ·replace hm := h86
     refine jq (je rfl rfl (jc rfl rfl rfl (fun _ _ => yD rfl rfl) (jp ?_)))
     refine js rfl (fun h89 => ?_) (fun h89 => ?_)
     ·replace hm := ifD h89 hm
      refine jj ?_
      obtain ⟨o_2, h90, h91⟩ := bindO hm
      refine jF (ι := Nat) (fun l_13 => True) (fun l_13 => [(1, .int .i64 tenant1), (2, .int .i64 which2), (3, ptr b 0), (7, ptr l_2.1 0), (8, ptr l_2.2.1 0), (13, ptr b_25 0), (14, ptr b_26 0), (15, ptr b_27 0), (16, slv none 0 0), (19, ptr l_13 0)]) (fun l_13 => [(b_27, .cells #[.int .i64 0, .int .i64 0] 32 (0, 0)), (b_26, .cells #[.int .i64 0, .int .i64 0] 32 (0, 0)), (b_25, .cells #[.int .i64 0, .int .i64 0] 32 (0, 0)), (b, .cells #[.slice qa0 na0 ca0, .slice qa1 na1 ca1] 25 (0, 0)), (l_2.1, .cells #[slv l_2.2.2.1.q l_2.2.2.1.n l_2.2.2.1.cap, slv l_2.2.2.2.1.q l_2.2.2.2.1.n l_2.2.2.2.1.cap] 25 (0, 0)), (l_2.2.1, .cells #[slv l_2.2.2.2.2.1.q l_2.2.2.2.2.1.n l_2.2.2.2.2.1.cap, slv l_2.2.2.2.2.2.q l_2.2.2.2.2.2.n l_2.2.2.2.2.2.cap] 38 (0, 0)), (l_13, .cells #[.bool o_2] 4 (0, 0))]) (fun l_13 => [⟨62, RI.enc [], [], none, []⟩, ⟨85, RSt.enc o.own7.strips, l_2.2.2.1.sp, l_2.2.2.1.q, []⟩, ⟨32, RSp.enc o.own7.carried, l_2.2.2.2.1.sp, l_2.2.2.2.1.q, []⟩, ⟨98, RSt.enc o.x8.strips, l_2.2.2.2.2.1.sp, l_2.2.2.2.2.1.q, []⟩, ⟨32, RSp.enc o.x8.carried, l_2.2.2.2.2.2.sp, l_2.2.2.2.2.2.q, []⟩]) ?_ ?_
      ·replace hm := h90
       obtain ⟨t52, h92, hm⟩ := bindO hm
       obtain ⟨t53, h93, hm⟩ := bindO hm
       refine jX none (.hoist 0 (.hoist 1 (.br (.alt 2 (.br (.alt 3 (.free 4 (.free 5 (.free 6 (.free 7 (.one 8 (.free 9 (.free 10 (.one 11 .done)))))))) (.alt 8 (.one 3 (.free 4 (.free 5 (.free 6 (.free 7 (.free 9 (.free 10 (.one 11 .done)))))))) .nil))) (.alt 8 (.one 2 (.one 3 (.free 4 (.free 5 (.free 6 (.free 7 (.free 9 (.free 10 (.one 11 .done))))))))) .nil))))) _ rfl (by decide +kernel) (fun w k hh => hh.draw k) (fun w hh => hh) ?_
       refine jD rfl rfl rfl rfl (fun w hh => j1 (vs := [_, _]) (Tryz.isAgg38 w) (Tryz.sizeOf38 w) rfl (hh.cells 5 rfl rfl)) (jD rfl rfl rfl rfl (fun w hh => j1 (vs := [_, _]) (Tryz.isAgg38 w) (Tryz.sizeOf38 w) rfl (hh.cells 5 rfl rfl)) (YH ?_))
       refine kN rfl ?_ ?_
       ·refine jd [] [] rfl rfl rfl rfl rfl rfl rfl Tryz.call14 (fun w hh => Kf o.x8 (-1) (-1) (qA l_2.2.2.2.2.1.q) l_2.2.2.2.2.1.n l_2.2.2.2.2.1.cap (qA l_2.2.2.2.2.2.q) l_2.2.2.2.2.2.n l_2.2.2.2.2.2.cap w (HV.callee (S0 := []) (vs0 := []) hh (roC (hh.vsepA 3 rfl h11) (roC (hh.vsepA 4 rfl h12) roN))) (vlen RSt h11 rfl) (AOK.q (vne h11)) (h11).hle (vlen RSp h12 rfl) (AOK.q (vne h12)) (h12).hle h92) (fun l_14 h94 => ?_)
        obtain ⟨h95, h96⟩ := h94
        refine jT (S' := [_, _, _, _, _, _]) (vs' := [_, _, _, _, _, _]) [0, 1, 2, 3, 4, 5] [0, 1, 2, 3, 4, 5] 0 rfl rfl rfl rfl (jr (hsE [0, 1, 2, 3, 4, 5] [1, 2, 3, 4, 5] 0 rfl rfl rfl rfl) (YH ?_))
        refine kN rfl ?_ ?_
        ·refine jd [] [] rfl rfl rfl rfl rfl rfl rfl Tryz.call13 (fun w hh => Jz o.x8 t52 (qA l_2.2.2.2.2.1.q) l_2.2.2.2.2.1.n l_2.2.2.2.2.1.cap (qA l_2.2.2.2.2.2.q) l_2.2.2.2.2.2.n l_2.2.2.2.2.2.cap (qA l_14.v.q) l_14.v.n l_14.v.cap (toAL l_14.rs) w (HV.callee (S0 := []) (vs0 := []) hh (roC (hh.vsepA 4 rfl h11) (roC (hh.vsepA 5 rfl h12) (roC (hh.vsepD 0 rfl h95) roN)))) (vlen RSt h11 rfl) (AOK.q (vne h11)) (h11).hle (vlen RSp h12 rfl) (AOK.q (vne h12)) (h12).hle (Eq.trans (h96).len (vlen RwH h95 rfl)) (AOK.q (vne h95)) (h95).hle ((h96).toDRO rfl) (hh.dsepT 0 rfl h96) h93) (fun l_15 h97 => ?_)
         refine jr (hsE [0, 1, 2, 3, 4, 5] [1, 2, 3, 4, 5] 0 rfl rfl rfl rfl) (ku rfl rfl rfl (ji rfl rfl rfl rfl (fun _ _ => jQ rfl rfl) (ji rfl rfl rfl rfl (fun _ _ => jQ rfl rfl) (ji rfl rfl rfl rfl (fun _ _ => jQ rfl rfl) (jE rfl ?_)))))
         refine jo (fun w => Tryz.zeroValue4 w) rfl (fun b_28 h98 => ?_)
         refine jr (hsE [1, 2, 3, 4, 5, 6] [1, 2, 3, 4, 5] 0 rfl rfl rfl rfl) (ji rfl rfl rfl rfl (fun _ _ => jH rfl) (ji rfl rfl rfl rfl (fun _ _ => jH rfl) (jE rfl (kY (cs' := #[_]) (S' := [_, _, _, _, _, _, _]) 0 (fun w => Tryz.sizeOf4 w) rfl rfl rfl rfl rfl rfl rfl (jr (hsE [1, 2, 3, 4, 5, 6] [1, 2, 3, 4, 5] 0 rfl rfl rfl rfl) (jM ?_))))))
         obtain rfl := sj hm
         exact jg b_28 (trivial) (sE rfl) (hsE [1, 2, 3, 4, 5, 6, 0] [1, 2, 3, 4, 5] 0 rfl rfl rfl rfl)
        refine kN rfl ?_ ?_
        ·refine jo (fun w => Tryz.zeroValue4 w) rfl (fun b_29 h99 => ?_)
         refine jr (hsE [1, 2, 3, 4, 5, 6] [1, 2, 3, 4, 5] 0 rfl rfl rfl rfl) (jE rfl ?_)
         refine jd [] [] rfl rfl rfl rfl rfl rfl rfl Tryz.call13 (fun w hh => Jz o.x8 t52 (qA l_2.2.2.2.2.1.q) l_2.2.2.2.2.1.n l_2.2.2.2.2.1.cap (qA l_2.2.2.2.2.2.q) l_2.2.2.2.2.2.n l_2.2.2.2.2.2.cap (qA l_14.v.q) l_14.v.n l_14.v.cap (toAL l_14.rs) w (HV.callee (S0 := []) (vs0 := []) hh (roC (hh.vsepA 4 rfl h11) (roC (hh.vsepA 5 rfl h12) (roC (hh.vsepD 0 rfl h95) roN)))) (vlen RSt h11 rfl) (AOK.q (vne h11)) (h11).hle (vlen RSp h12 rfl) (AOK.q (vne h12)) (h12).hle (Eq.trans (h96).len (vlen RwH h95 rfl)) (AOK.q (vne h95)) (h95).hle ((h96).toDRO rfl) (hh.dsepT 0 rfl h96) h93) (fun l_16 h100 => ?_)
         refine jr (hsE [1, 2, 3, 4, 5, 6] [1, 2, 3, 4, 5] 0 rfl rfl rfl rfl) (ku rfl rfl rfl (ji rfl rfl rfl rfl (fun _ _ => jQ rfl rfl) (ji rfl rfl rfl rfl (fun _ _ => jQ rfl rfl) (ji rfl rfl rfl rfl (fun _ _ => jQ rfl rfl) (ji rfl rfl rfl rfl (fun _ _ => jH rfl) (ji rfl rfl rfl rfl (fun _ _ => jH rfl) (jE rfl ?_)))))))
         refine kY (cs' := #[_]) (S' := [_, _, _, _, _, _, _]) 0 (fun w => Tryz.sizeOf4 w) rfl rfl rfl rfl rfl rfl rfl (jr (hsE [1, 2, 3, 4, 5, 6] [1, 2, 3, 4, 5] 0 rfl rfl rfl rfl) (jM ?_))
         obtain rfl := sj hm
         exact jg b_29 (trivial) (sE rfl) (hsE [1, 2, 3, 4, 5, 6, 0] [1, 2, 3, 4, 5] 0 rfl rfl rfl rfl)
        exact JU
       refine kN rfl ?_ ?_
       ·refine jo (fun w => Tryz.zeroValue4 w) rfl (fun b_30 h101 => ?_)
        refine jr (hsE [1, 2, 3, 4, 5, 6] [0, 1, 2, 3, 4] 0 rfl rfl rfl rfl) (jE rfl ?_)
        refine jd [] [] rfl rfl rfl rfl rfl rfl rfl Tryz.call14 (fun w hh => Kf o.x8 (-1) (-1) (qA l_2.2.2.2.2.1.q) l_2.2.2.2.2.1.n l_2.2.2.2.2.1.cap (qA l_2.2.2.2.2.2.q) l_2.2.2.2.2.2.n l_2.2.2.2.2.2.cap w (HV.callee (S0 := []) (vs0 := []) hh (roC (hh.vsepA 3 rfl h11) (roC (hh.vsepA 4 rfl h12) roN))) (vlen RSt h11 rfl) (AOK.q (vne h11)) (h11).hle (vlen RSp h12 rfl) (AOK.q (vne h12)) (h12).hle h92) (fun l_17 h102 => ?_)
        obtain ⟨h103, h104⟩ := h102
        refine jT (S' := [_, _, _, _, _, _, _]) (vs' := [_, _, _, _, _, _]) [0, 1, 2, 3, 4, 5, 6] [0, 1, 2, 3, 4, 5] 0 rfl rfl rfl rfl (jr (hsE [1, 2, 3, 4, 5, 6] [1, 2, 3, 4, 5] 0 rfl rfl rfl rfl) (jE rfl ?_))
        refine jd [] [] rfl rfl rfl rfl rfl rfl rfl Tryz.call13 (fun w hh => Jz o.x8 t52 (qA l_2.2.2.2.2.1.q) l_2.2.2.2.2.1.n l_2.2.2.2.2.1.cap (qA l_2.2.2.2.2.2.q) l_2.2.2.2.2.2.n l_2.2.2.2.2.2.cap (qA l_17.v.q) l_17.v.n l_17.v.cap (toAL l_17.rs) w (HV.callee (S0 := []) (vs0 := []) hh (roC (hh.vsepA 4 rfl h11) (roC (hh.vsepA 5 rfl h12) (roC (hh.vsepD 0 rfl h103) roN)))) (vlen RSt h11 rfl) (AOK.q (vne h11)) (h11).hle (vlen RSp h12 rfl) (AOK.q (vne h12)) (h12).hle (Eq.trans (h104).len (vlen RwH h103 rfl)) (AOK.q (vne h103)) (h103).hle ((h104).toDRO rfl) (hh.dsepT 0 rfl h104) h93) (fun l_18 h105 => ?_)
        refine jr (hsE [1, 2, 3, 4, 5, 6] [1, 2, 3, 4, 5] 0 rfl rfl rfl rfl) (ku rfl rfl rfl (ji rfl rfl rfl rfl (fun _ _ => jQ rfl rfl) (ji rfl rfl rfl rfl (fun _ _ => jQ rfl rfl) (ji rfl rfl rfl rfl (fun _ _ => jQ rfl rfl) (ji rfl rfl rfl rfl (fun _ _ => jH rfl) (ji rfl rfl rfl rfl (fun _ _ => jH rfl) (jE rfl ?_)))))))
        refine kY (cs' := #[_]) (S' := [_, _, _, _, _, _, _]) 0 (fun w => Tryz.sizeOf4 w) rfl rfl rfl rfl rfl rfl rfl (jr (hsE [1, 2, 3, 4, 5, 6] [1, 2, 3, 4, 5] 0 rfl rfl rfl rfl) (jM ?_))
        obtain rfl := sj hm
        exact jg b_30 (trivial) (sE rfl) (hsE [1, 2, 3, 4, 5, 6, 0] [1, 2, 3, 4, 5] 0 rfl rfl rfl rfl)
       exact JU
      ·intro l_13 hj
       replace hm := h91
       refine ja (jj ?_)
       obtain ⟨o_3, h106, h107⟩ := bindO hm
       refine jF (ι := Unit) (fun l_19 => True) (fun l_19 => [(1, .int .i64 tenant1), (2, .int .i64 which2), (3, ptr b 0), (7, ptr l_2.1 0), (8, ptr l_2.2.1 0), (13, ptr b_25 0), (14, ptr b_26 0), (15, ptr b_27 0), (16, slv none 0 0), (19, ptr l_13 0), (20, .bool o_3.noTenant20), (21, .bool o_3.noStrip21)]) (fun l_19 => [(b_27, .cells #[.int .i64 0, .int .i64 0] 32 (0, 0)), (b_26, .cells #[.int .i64 0, .int .i64 0] 32 (0, 0)), (b_25, .cells #[.int .i64 0, .int .i64 0] 32 (0, 0)), (b, .cells #[.slice qa0 na0 ca0, .slice qa1 na1 ca1] 25 (0, 0)), (l_2.1, .cells #[slv l_2.2.2.1.q l_2.2.2.1.n l_2.2.2.1.cap, slv l_2.2.2.2.1.q l_2.2.2.2.1.n l_2.2.2.2.1.cap] 25 (0, 0)), (l_2.2.1, .cells #[slv l_2.2.2.2.2.1.q l_2.2.2.2.2.1.n l_2.2.2.2.2.1.cap, slv l_2.2.2.2.2.2.q l_2.2.2.2.2.2.n l_2.2.2.2.2.2.cap] 38 (0, 0)), (l_13, .cells #[.bool o_2] 4 (0, 0))]) (fun l_19 => [⟨62, RI.enc [], [], none, []⟩, ⟨85, RSt.enc o.own7.strips, l_2.2.2.1.sp, l_2.2.2.1.q, []⟩, ⟨32, RSp.enc o.own7.carried, l_2.2.2.2.1.sp, l_2.2.2.2.1.q, []⟩, ⟨98, RSt.enc o.x8.strips, l_2.2.2.2.2.1.sp, l_2.2.2.2.2.1.q, []⟩, ⟨32, RSp.enc o.x8.carried, l_2.2.2.2.2.2.sp, l_2.2.2.2.2.2.q, []⟩]) ?_ ?_
       ·replace hm := h106
        refine jX none (.free 0 (.free 1 (.free 2 (.free 3 (.free 4 (.hoist 5 (.free 6 (.free 7 (.free 8 (.free 9 (.free 10 (.free 11 (.free 12 (.free 13 (.hoist 14 (.free 15 (.free 16 (.free 17 (.free 18 (.free 19 .done)))))))))))))))))))) _ rfl (by decide +kernel) (fun w k hh => hh.draw k) (fun w hh => hh) ?_
        refine ku rfl rfl rfl (ji rfl rfl rfl rfl (fun _ _ => YE rfl rfl) (ku rfl rfl rfl ?_))
        refine jJ 59 rfl (fun h108 => ?_) (fun h108 => ?_)
        ·replace hm := ifD h108 hm
         refine jV rfl rfl rfl rfl rfl rfl rfl (jV rfl rfl rfl rfl rfl rfl rfl (J0 rfl rfl rfl rfl rfl rfl rfl (jV rfl rfl rfl rfl rfl rfl rfl (jV rfl rfl rfl rfl rfl rfl rfl (ji rfl rfl rfl rfl (fun _ _ => Jd rfl rfl) (ku rfl rfl rfl (ji rfl rfl rfl rfl (fun _ _ => YE rfl rfl) ?_)))))))
         refine ku rfl rfl rfl ?_
         refine jJ 68 rfl (fun h109 => ?_) (fun h109 => ?_)
         ·replace hm := ifD h109 hm
          refine jV rfl rfl rfl rfl rfl rfl rfl (jV rfl rfl rfl rfl rfl rfl rfl (J0 rfl rfl rfl rfl rfl rfl rfl (jV rfl rfl rfl rfl rfl rfl rfl (jV rfl rfl rfl rfl rfl rfl rfl (ji rfl rfl rfl rfl (fun _ _ => Jd rfl rfl) (ji rfl rfl rfl rfl (fun _ _ => jH rfl) (ji rfl rfl rfl rfl (fun _ _ => jH rfl) ?_)))))))
          refine jM ?_
          obtain rfl := sj hm
          exact jg () (trivial) (sE rfl) (fun w hh => hh)
         ·replace hm := ifE h109 hm
          refine kb rfl rfl rfl rfl rfl rfl (fun _ _ => J5 rfl) (kb rfl rfl rfl rfl rfl rfl (fun w _ => kf 0 (Tryz.runUnderlying25 w) rfl (Tryz.sizeOf22 w) rfl) (Jm rfl rfl rfl rfl rfl rfl (fun w hh => jR (Tryz.isAgg22 w) rfl (hh.cell 3 rfl rfl)) (kb rfl rfl rfl rfl rfl rfl (fun w _ => jI hna0 (Tryz.runUnderlying22 w) rfl) (kb rfl rfl rfl rfl rfl rfl (fun _ _ => K1 rfl rfl) (ji rfl rfl rfl rfl (fun _ _ => KG rfl rfl) (ji rfl rfl rfl rfl (fun _ _ => jH rfl) (ji rfl rfl rfl rfl (fun _ _ => jH rfl) ?_)))))))
          refine jM ?_
          obtain rfl := sj hm
          exact jg () (trivial) (sE rfl) (fun w hh => hh)
        ·replace hm := ifE h108 hm
         refine kb rfl rfl rfl rfl rfl rfl (fun _ _ => J5 rfl) (kb rfl rfl rfl rfl rfl rfl (fun w _ => kf 1 (Tryz.runUnderlying25 w) rfl (Tryz.sizeOf23 w) rfl) (Jm rfl rfl rfl rfl rfl rfl (fun w hh => jR (Tryz.isAgg23 w) rfl (hh.cell 3 rfl rfl)) (kb rfl rfl rfl rfl rfl rfl (fun w _ => jI hna1 (Tryz.runUnderlying23 w) rfl) (kb rfl rfl rfl rfl rfl rfl (fun _ _ => K1 rfl rfl) (ji rfl rfl rfl rfl (fun _ _ => KG rfl rfl) (ku rfl rfl rfl (ji rfl rfl rfl rfl (fun _ _ => YE rfl rfl) ?_)))))))
         refine ku rfl rfl rfl ?_
         refine jJ 68 rfl (fun h110 => ?_) (fun h110 => ?_)
         ·replace hm := ifD h110 hm
          refine jV rfl rfl rfl rfl rfl rfl rfl (jV rfl rfl rfl rfl rfl rfl rfl (J0 rfl rfl rfl rfl rfl rfl rfl (jV rfl rfl rfl rfl rfl rfl rfl (jV rfl rfl rfl rfl rfl rfl rfl (ji rfl rfl rfl rfl (fun _ _ => Jd rfl rfl) (ji rfl rfl rfl rfl (fun _ _ => jH rfl) (ji rfl rfl rfl rfl (fun _ _ => jH rfl) ?_)))))))
          refine jM ?_
          obtain rfl := sj hm
          exact jg () (trivial) (sE rfl) (fun w hh => hh)
         ·replace hm := ifE h110 hm
          refine kb rfl rfl rfl rfl rfl rfl (fun _ _ => J5 rfl) (kb rfl rfl rfl rfl rfl rfl (fun w _ => kf 0 (Tryz.runUnderlying25 w) rfl (Tryz.sizeOf22 w) rfl) (Jm rfl rfl rfl rfl rfl rfl (fun w hh => jR (Tryz.isAgg22 w) rfl (hh.cell 3 rfl rfl)) (kb rfl rfl rfl rfl rfl rfl (fun w _ => jI hna0 (Tryz.runUnderlying22 w) rfl) (kb rfl rfl rfl rfl rfl rfl (fun _ _ => K1 rfl rfl) (ji rfl rfl rfl rfl (fun _ _ => KG rfl rfl) (ji rfl rfl rfl rfl (fun _ _ => jH rfl) (ji rfl rfl rfl rfl (fun _ _ => jH rfl) ?_)))))))
          refine jM ?_
          obtain rfl := sj hm
          exact jg () (trivial) (sE rfl) (fun w hh => hh)
       ·intro l_19 hj
        replace hm := h107
        refine ja (jq (jc rfl rfl rfl (fun _ _ => jK (u := #[]) (u' := #[_]) rfl rfl) (jk rfl rfl (jp (jj ?_)))))
        obtain ⟨o_4, h111, h112⟩ := bindO hm
        refine jF (ι := Unit) (fun l_20 => True) (fun l_20 => [(1, .int .i64 tenant1), (2, .int .i64 which2), (3, ptr b 0), (7, ptr l_2.1 0), (8, ptr l_2.2.1 0), (9, .int .i64 o_4.w9), (10, .int .i64 o_4.a10), (11, .int .i64 o_4.b11), (12, .int .i64 o_4.c12), (13, ptr b_25 0), (14, ptr b_26 0), (15, ptr b_27 0), (16, slv none 0 0)]) (fun l_20 => [(b_27, .cells #[.int .i64 0, .int .i64 0] 32 (0, 0)), (b_26, .cells #[.int .i64 0, .int .i64 0] 32 (0, 0)), (b_25, .cells #[.int .i64 0, .int .i64 0] 32 (0, 0)), (b, .cells #[.slice qa0 na0 ca0, .slice qa1 na1 ca1] 25 (0, 0)), (l_2.1, .cells #[slv l_2.2.2.1.q l_2.2.2.1.n l_2.2.2.1.cap, slv l_2.2.2.2.1.q l_2.2.2.2.1.n l_2.2.2.2.1.cap] 25 (0, 0)), (l_2.2.1, .cells #[slv l_2.2.2.2.2.1.q l_2.2.2.2.2.1.n l_2.2.2.2.2.1.cap, slv l_2.2.2.2.2.2.q l_2.2.2.2.2.2.n l_2.2.2.2.2.2.cap] 38 (0, 0)), (l_13, .cells #[.bool o_2] 4 (0, 0))]) (fun l_20 => [⟨62, RI.enc [], [], none, []⟩, ⟨85, RSt.enc o.own7.strips, l_2.2.2.1.sp, l_2.2.2.1.q, []⟩, ⟨32, RSp.enc o.own7.carried, l_2.2.2.2.1.sp, l_2.2.2.2.1.q, []⟩, ⟨98, RSt.enc o.x8.strips, l_2.2.2.2.2.1.sp, l_2.2.2.2.2.1.q, []⟩, ⟨32, RSp.enc o.x8.carried, l_2.2.2.2.2.2.sp, l_2.2.2.2.2.2.q, []⟩]) ?_ ?_
        ·replace hm := h111
         refine jh (je rfl rfl (je rfl rfl (je rfl rfl ?_)))
         refine jJ 78 rfl (fun h113 => ?_) (fun h113 => ?_)
         ·replace hm := ifT (h113) hm
          refine g_k rfl rfl rfl rfl (kx rfl rfl rfl ?_)
          obtain ⟨t81, h114, hm⟩ := bindO hm
          refine jd [] [] rfl rfl rfl rfl rfl rfl rfl Tryz.call23 (fun w hh => kj true o_2 l_13 w (HV.callee (S0 := []) (vs0 := []) hh (roC (bsep (hh.bseg 6 rfl)) roN))  h114) (fun l_21 h115 => ?_)
          refine je rfl rfl (je rfl rfl ?_)
          obtain ⟨t84, h116, hm⟩ := bindO hm
          refine jd [] [] rfl rfl rfl rfl rfl rfl rfl Tryz.call23 (fun w hh => kj o_3.noTenant20 o_2 l_13 w (HV.callee (S0 := []) (vs0 := []) hh (roC (bsep (hh.bseg 6 rfl)) roN))  h116) (fun l_22 h117 => ?_)
          refine je rfl rfl (je rfl rfl ?_)
          obtain ⟨t87, h118, hm⟩ := bindO hm
          refine jd [] [] rfl rfl rfl rfl rfl rfl rfl Tryz.call23 (fun w hh => kj o_3.noStrip21 o_2 l_13 w (HV.callee (S0 := []) (vs0 := []) hh (roC (bsep (hh.bseg 6 rfl)) roN))  h118) (fun l_23 h119 => ?_)
          refine je rfl rfl ?_
          obtain ⟨t89, h120, hm⟩ := bindO hm
          refine jd [] [] rfl rfl rfl rfl rfl rfl rfl Tryz.call23 (fun w hh => kj false o_2 l_13 w (HV.callee (S0 := []) (vs0 := []) hh (roC (bsep (hh.bseg 6 rfl)) roN))  h120) (fun l_24 h121 => ?_)
          refine jk rfl rfl (jk rfl rfl (jk rfl rfl (jk rfl rfl (jv ?_))))
          obtain rfl := sj hm
          exact jg () (trivial) (sE rfl) (fun w hh => hh)
         ·replace hm := ifN h113 hm
          refine jb rfl rfl (je rfl rfl (j3 rfl rfl rfl ?_))
          obtain ⟨t81_1, h122, hm⟩ := bindO hm
          refine jd [] [] rfl rfl rfl rfl rfl rfl rfl Tryz.call23 (fun w hh => kj o_3.noStrip21 o_2 l_13 w (HV.callee (S0 := []) (vs0 := []) hh (roC (bsep (hh.bseg 6 rfl)) roN))  h122) (fun l_25 h123 => ?_)
          refine je rfl rfl (je rfl rfl ?_)
          obtain ⟨t84_1, h124, hm⟩ := bindO hm
          refine jd [] [] rfl rfl rfl rfl rfl rfl rfl Tryz.call23 (fun w hh => kj o_3.noTenant20 o_2 l_13 w (HV.callee (S0 := []) (vs0 := []) hh (roC (bsep (hh.bseg 6 rfl)) roN))  h124) (fun l_26 h125 => ?_)
          refine je rfl rfl (je rfl rfl ?_)
          obtain ⟨t87_1, h126, hm⟩ := bindO hm
          refine jd [] [] rfl rfl rfl rfl rfl rfl rfl Tryz.call23 (fun w hh => kj o_3.noStrip21 o_2 l_13 w (HV.callee (S0 := []) (vs0 := []) hh (roC (bsep (hh.bseg 6 rfl)) roN))  h126) (fun l_27 h127 => ?_)
          refine je rfl rfl ?_
          obtain ⟨t89_1, h128, hm⟩ := bindO hm
          refine jd [] [] rfl rfl rfl rfl rfl rfl rfl Tryz.call23 (fun w hh => kj false o_2 l_13 w (HV.callee (S0 := []) (vs0 := []) hh (roC (bsep (hh.bseg 6 rfl)) roN))  h128) (fun l_28 h129 => ?_)
          refine jk rfl rfl (jk rfl rfl (jk rfl rfl (jk rfl rfl (jv ?_))))
          obtain rfl := sj hm
          exact jg () (trivial) (sE rfl) (fun w hh => hh)
        ·intro l_20 hj
         replace hm := h112
         refine ja (jj ?_)
         obtain ⟨o_5, h130, h131⟩ := bindO hm
         refine jF (ι := Unit) (fun l_29 => True) (fun l_29 => [(1, .int .i64 tenant1), (2, .int .i64 which2), (3, ptr b 0), (7, ptr l_2.1 0), (8, ptr l_2.2.1 0), (9, .int .i64 o_4.w9), (10, .int .i64 o_4.a10), (11, .int .i64 o_4.b11), (12, .int .i64 o_4.c12), (13, ptr b_25 0), (14, ptr b_26 0), (15, ptr b_27 0), (16, slv none 0 0)]) (fun l_29 => [(b_27, .cells #[.int .i64 0, .int .i64 0] 32 (0, 0)), (b_26, .cells #[.int .i64 0, .int .i64 0] 32 (0, 0)), (b_25, .cells #[.int .i64 o_5.taken13_lo, .int .i64 o_5.taken13_hi] 32 (0, 0)), (b, .cells #[.slice qa0 na0 ca0, .slice qa1 na1 ca1] 25 (0, 0)), (l_2.1, .cells #[slv l_2.2.2.1.q l_2.2.2.1.n l_2.2.2.1.cap, slv l_2.2.2.2.1.q l_2.2.2.2.1.n l_2.2.2.2.1.cap] 25 (0, 0)), (l_2.2.1, .cells #[slv l_2.2.2.2.2.1.q l_2.2.2.2.2.1.n l_2.2.2.2.2.1.cap, slv l_2.2.2.2.2.2.q l_2.2.2.2.2.2.n l_2.2.2.2.2.2.cap] 38 (0, 0)), (l_13, .cells #[.bool o_2] 4 (0, 0))]) (fun l_29 => [⟨62, RI.enc [], [], none, []⟩, ⟨85, RSt.enc o.own7.strips, l_2.2.2.1.sp, l_2.2.2.1.q, []⟩, ⟨32, RSp.enc o.own7.carried, l_2.2.2.2.1.sp, l_2.2.2.2.1.q, []⟩, ⟨98, RSt.enc o.x8.strips, l_2.2.2.2.2.1.sp, l_2.2.2.2.2.1.q, []⟩, ⟨32, RSp.enc o.x8.carried, l_2.2.2.2.2.2.sp, l_2.2.2.2.2.2.q, []⟩]) ?_ ?_
         ·replace hm := h130
          refine jq (je rfl rfl (jc rfl rfl rfl (fun _ _ => yD rfl rfl) (jp ?_)))
          refine js rfl (fun h132 => ?_) (fun h132 => ?_)
          ·replace hm := ifD h132 hm
           refine jX none (.hoist 0 (.hoist 1 (.free 2 (.free 3 (.one 4 (.one 5 (.free 6 (.free 7 (.free 8 (.free 9 (.free 10 (.one 11 (.free 12 (.one 13 .done)))))))))))))) (HV _ _ [(b_27, .cells #[.int .i64 0, .int .i64 0] 32 (0, 0)), (b_26, .cells #[.int .i64 0, .int .i64 0] 32 (0, 0)), (b, .cells #[.slice qa0 na0 ca0, .slice qa1 na1 ca1] 25 (0, 0)), (l_2.1, .cells #[slv l_2.2.2.1.q l_2.2.2.1.n l_2.2.2.1.cap, slv l_2.2.2.2.1.q l_2.2.2.2.1.n l_2.2.2.2.1.cap] 25 (0, 0)), (l_2.2.1, .cells #[slv l_2.2.2.2.2.1.q l_2.2.2.2.2.1.n l_2.2.2.2.2.1.cap, slv l_2.2.2.2.2.2.q l_2.2.2.2.2.2.n l_2.2.2.2.2.2.cap] 38 (0, 0)), (l_13, .cells #[.bool o_2] 4 (0, 0))] [⟨62, RI.enc [], [], none, []⟩, ⟨85, RSt.enc o.own7.strips, l_2.2.2.1.sp, l_2.2.2.1.q, []⟩, ⟨32, RSp.enc o.own7.carried, l_2.2.2.2.1.sp, l_2.2.2.2.1.q, []⟩, ⟨98, RSt.enc o.x8.strips, l_2.2.2.2.2.1.sp, l_2.2.2.2.2.1.q, []⟩, ⟨32, RSp.enc o.x8.carried, l_2.2.2.2.2.2.sp, l_2.2.2.2.2.2.q, []⟩] _) rfl (by decide +kernel) (fun w k hh => hh.draw k) (hsE [0, 1, 3, 4, 5, 6] [0, 1, 2, 3, 4] 0 rfl rfl rfl rfl) ?_
           refine jD rfl rfl rfl rfl (fun w hh => j1 (vs := [_, _]) (Tryz.isAgg38 w) (Tryz.sizeOf38 w) rfl (hh.cells 4 rfl rfl)) (jD rfl rfl rfl rfl (fun w hh => j1 (vs := [_, _]) (Tryz.isAgg38 w) (Tryz.sizeOf38 w) rfl (hh.cells 4 rfl rfl)) (ku rfl rfl rfl (ku rfl rfl rfl (jE rfl ?_))))
           obtain ⟨t97, h133, hm⟩ := bindO hm
           refine jd [] [] rfl rfl rfl rfl rfl rfl rfl Tryz.call24 (fun w hh => jat o.x8 tenant1 which2 (qA l_2.2.2.2.2.1.q) l_2.2.2.2.2.1.n l_2.2.2.2.2.1.cap (qA l_2.2.2.2.2.2.q) l_2.2.2.2.2.2.n l_2.2.2.2.2.2.cap w (HV.callee (S0 := []) (vs0 := []) hh (roC (hh.vsepA 3 rfl h11) (roC (hh.vsepA 4 rfl h12) roN))) (vlen RSt h11 rfl) (AOK.q (vne h11)) (h11).hle (vlen RSp h12 rfl) (AOK.q (vne h12)) (h12).hle h133) (fun l_30 h134 => ?_)
           obtain ⟨h135, h136⟩ := h134
           refine jT (S' := [_, _, _, _, _, _, _]) (vs' := [_, _, _, _, _, _]) [0, 1, 2, 3, 4, 5, 6] [0, 1, 2, 3, 4, 5] 0 rfl rfl rfl rfl (jr (hsE [0, 1, 3, 4, 5, 6] [1, 2, 3, 4, 5] 0 rfl rfl rfl rfl) (jE rfl ?_))
           obtain ⟨t98, h137, hm⟩ := bindO hm
           refine jd [] [] rfl rfl rfl rfl rfl rfl rfl Tryz.call13 (fun w hh => Jz o.x8 t97 (qA l_2.2.2.2.2.1.q) l_2.2.2.2.2.1.n l_2.2.2.2.2.1.cap (qA l_2.2.2.2.2.2.q) l_2.2.2.2.2.2.n l_2.2.2.2.2.2.cap (qA l_30.v.q) l_30.v.n l_30.v.cap (toAL l_30.rs) w (HV.callee (S0 := []) (vs0 := []) hh (roC (hh.vsepA 4 rfl h11) (roC (hh.vsepA 5 rfl h12) (roC (hh.vsepD 0 rfl h135) roN)))) (vlen RSt h11 rfl) (AOK.q (vne h11)) (h11).hle (vlen RSp h12 rfl) (AOK.q (vne h12)) (h12).hle (Eq.trans (h136).len (vlen RwH h135 rfl)) (AOK.q (vne h135)) (h135).hle ((h136).toDRO rfl) (hh.dsepT 0 rfl h136) h137) (fun l_31 h138 => ?_)
           refine jr (hsE [0, 1, 3, 4, 5, 6] [1, 2, 3, 4, 5] 0 rfl rfl rfl rfl) (ku rfl rfl rfl (ji rfl rfl rfl rfl (fun _ _ => jQ rfl rfl) (ji rfl rfl rfl rfl (fun _ _ => jQ rfl rfl) (ji rfl rfl rfl rfl (fun _ _ => jQ rfl rfl) (k5 0 Tryz.runUnderlying32 Tryz.sizeOf3 rfl rfl rfl rfl (jE rfl (kY (cs' := #[_, _]) (S' := [_, _, _, _, _, _, _]) 2 (fun w => Tryz.sizeOf3 w) rfl rfl rfl rfl rfl rfl rfl ?_)))))))
           refine jr (hsE [0, 1, 3, 4, 5, 6] [1, 2, 3, 4, 5] 0 rfl rfl rfl rfl) (k5 1 Tryz.runUnderlying32 Tryz.sizeOf3 rfl rfl rfl rfl (jE rfl (kY (cs' := #[_, _]) (S' := [_, _, _, _, _, _, _]) 2 (fun w => Tryz.sizeOf3 w) rfl rfl rfl rfl rfl rfl rfl (jr (hsE [0, 1, 3, 4, 5, 6] [1, 2, 3, 4, 5] 0 rfl rfl rfl rfl) (jM ?_)))))
           obtain rfl := sj hm
           exact jg () (trivial) (sE rfl) (hsE [0, 1, 2, 3, 4, 5, 6] [1, 2, 3, 4, 5] 0 rfl rfl rfl rfl)
          ·replace hm := ifE h132 hm
           refine ju ?_
           obtain rfl := sj hm
           exact jg () (trivial) (sE rfl) (fun w hh => hh)
         ·intro l_29 hj
          replace hm := h131
          refine ja (jj ?_)
          obtain ⟨o_6, h139, h140⟩ := bindO hm
          refine jF (ι := Unit) (fun l_32 => True) (fun l_32 => [(1, .int .i64 tenant1), (2, .int .i64 which2), (3, ptr b 0), (7, ptr l_2.1 0), (8, ptr l_2.2.1 0), (9, .int .i64 o_4.w9), (10, .int .i64 o_4.a10), (11, .int .i64 o_4.b11), (12, .int .i64 o_4.c12), (13, ptr b_25 0), (14, ptr b_26 0), (15, ptr b_27 0), (16, slv none 0 0)]) (fun l_32 => [(b_27, .cells #[.int .i64 0, .int .i64 0] 32 (0, 0)), (b_26, .cells #[.int .i64 o_6.stolen14_lo, .int .i64 o_6.stolen14_hi] 32 (0, 0)), (b_25, .cells #[.int .i64 o_5.taken13_lo, .int .i64 o_5.taken13_hi] 32 (0, 0)), (b, .cells #[.slice qa0 na0 ca0, .slice qa1 na1 ca1] 25 (0, 0)), (l_2.1, .cells #[slv l_2.2.2.1.q l_2.2.2.1.n l_2.2.2.1.cap, slv l_2.2.2.2.1.q l_2.2.2.2.1.n l_2.2.2.2.1.cap] 25 (0, 0)), (l_2.2.1, .cells #[slv l_2.2.2.2.2.1.q l_2.2.2.2.2.1.n l_2.2.2.2.2.1.cap, slv l_2.2.2.2.2.2.q l_2.2.2.2.2.2.n l_2.2.2.2.2.2.cap] 38 (0, 0)), (l_13, .cells #[.bool o_2] 4 (0, 0))]) (fun l_32 => [⟨62, RI.enc [], [], none, []⟩, ⟨85, RSt.enc o.own7.strips, l_2.2.2.1.sp, l_2.2.2.1.q, []⟩, ⟨32, RSp.enc o.own7.carried, l_2.2.2.2.1.sp, l_2.2.2.2.1.q, []⟩, ⟨98, RSt.enc o.x8.strips, l_2.2.2.2.2.1.sp, l_2.2.2.2.2.1.q, []⟩, ⟨32, RSp.enc o.x8.carried, l_2.2.2.2.2.2.sp, l_2.2.2.2.2.2.q, []⟩]) ?_ ?_
          ·replace hm := h139
           refine jq (je rfl rfl (jc rfl rfl rfl (fun _ _ => yD rfl rfl) (jp ?_)))
           refine js rfl (fun h141 => ?_) (fun h141 => ?_)
           ·replace hm := ifD h141 hm
            refine jX none (.hoist 0 (.hoist 1 (.free 2 (.one 3 (.one 4 (.free 5 (.free 6 (.free 7 (.free 8 (.free 9 (.one 10 (.free 11 (.one 12 .done))))))))))))) (HV _ _ [(b_27, .cells #[.int .i64 0, .int .i64 0] 32 (0, 0)), (b_25, .cells #[.int .i64 o_5.taken13_lo, .int .i64 o_5.taken13_hi] 32 (0, 0)), (b, .cells #[.slice qa0 na0 ca0, .slice qa1 na1 ca1] 25 (0, 0)), (l_2.1, .cells #[slv l_2.2.2.1.q l_2.2.2.1.n l_2.2.2.1.cap, slv l_2.2.2.2.1.q l_2.2.2.2.1.n l_2.2.2.2.1.cap] 25 (0, 0)), (l_2.2.1, .cells #[slv l_2.2.2.2.2.1.q l_2.2.2.2.2.1.n l_2.2.2.2.2.1.cap, slv l_2.2.2.2.2.2.q l_2.2.2.2.2.2.n l_2.2.2.2.2.2.cap] 38 (0, 0)), (l_13, .cells #[.bool o_2] 4 (0, 0))] [⟨62, RI.enc [], [], none, []⟩, ⟨85, RSt.enc o.own7.strips, l_2.2.2.1.sp, l_2.2.2.1.q, []⟩, ⟨32, RSp.enc o.own7.carried, l_2.2.2.2.1.sp, l_2.2.2.2.1.q, []⟩, ⟨98, RSt.enc o.x8.strips, l_2.2.2.2.2.1.sp, l_2.2.2.2.2.1.q, []⟩, ⟨32, RSp.enc o.x8.carried, l_2.2.2.2.2.2.sp, l_2.2.2.2.2.2.q, []⟩] _) rfl (by decide +kernel) (fun w k hh => hh.draw k) (hsE [0, 2, 3, 4, 5, 6] [0, 1, 2, 3, 4] 0 rfl rfl rfl rfl) ?_
            refine jD rfl rfl rfl rfl (fun w hh => j1 (vs := [_, _]) (Tryz.isAgg38 w) (Tryz.sizeOf38 w) rfl (hh.cells 4 rfl rfl)) (jD rfl rfl rfl rfl (fun w hh => j1 (vs := [_, _]) (Tryz.isAgg38 w) (Tryz.sizeOf38 w) rfl (hh.cells 4 rfl rfl)) (ku rfl rfl rfl (jE rfl ?_)))
            obtain ⟨t110, h142, hm⟩ := bindO hm
            refine jd [] [] rfl rfl rfl rfl rfl rfl rfl Tryz.call14 (fun w hh => Kf o.x8 tenant1 (-1) (qA l_2.2.2.2.2.1.q) l_2.2.2.2.2.1.n l_2.2.2.2.2.1.cap (qA l_2.2.2.2.2.2.q) l_2.2.2.2.2.2.n l_2.2.2.2.2.2.cap w (HV.callee (S0 := []) (vs0 := []) hh (roC (hh.vsepA 3 rfl h11) (roC (hh.vsepA 4 rfl h12) roN))) (vlen RSt h11 rfl) (AOK.q (vne h11)) (h11).hle (vlen RSp h12 rfl) (AOK.q (vne h12)) (h12).hle h142) (fun l_33 h143 => ?_)
            obtain ⟨h144, h145⟩ := h143
            refine jT (S' := [_, _, _, _, _, _, _]) (vs' := [_, _, _, _, _, _]) [0, 1, 2, 3, 4, 5, 6] [0, 1, 2, 3, 4, 5] 0 rfl rfl rfl rfl (jr (hsE [0, 2, 3, 4, 5, 6] [1, 2, 3, 4, 5] 0 rfl rfl rfl rfl) (jE rfl ?_))
            obtain ⟨t111, h146, hm⟩ := bindO hm
            refine jd [] [] rfl rfl rfl rfl rfl rfl rfl Tryz.call13 (fun w hh => Jz o.x8 t110 (qA l_2.2.2.2.2.1.q) l_2.2.2.2.2.1.n l_2.2.2.2.2.1.cap (qA l_2.2.2.2.2.2.q) l_2.2.2.2.2.2.n l_2.2.2.2.2.2.cap (qA l_33.v.q) l_33.v.n l_33.v.cap (toAL l_33.rs) w (HV.callee (S0 := []) (vs0 := []) hh (roC (hh.vsepA 4 rfl h11) (roC (hh.vsepA 5 rfl h12) (roC (hh.vsepD 0 rfl h144) roN)))) (vlen RSt h11 rfl) (AOK.q (vne h11)) (h11).hle (vlen RSp h12 rfl) (AOK.q (vne h12)) (h12).hle (Eq.trans (h145).len (vlen RwH h144 rfl)) (AOK.q (vne h144)) (h144).hle ((h145).toDRO rfl) (hh.dsepT 0 rfl h145) h146) (fun l_34 h147 => ?_)
            refine jr (hsE [0, 2, 3, 4, 5, 6] [1, 2, 3, 4, 5] 0 rfl rfl rfl rfl) (ku rfl rfl rfl (ji rfl rfl rfl rfl (fun _ _ => jQ rfl rfl) (ji rfl rfl rfl rfl (fun _ _ => jQ rfl rfl) (ji rfl rfl rfl rfl (fun _ _ => jQ rfl rfl) (k5 0 Tryz.runUnderlying32 Tryz.sizeOf3 rfl rfl rfl rfl (jE rfl (kY (cs' := #[_, _]) (S' := [_, _, _, _, _, _, _]) 1 (fun w => Tryz.sizeOf3 w) rfl rfl rfl rfl rfl rfl rfl ?_)))))))
            refine jr (hsE [0, 2, 3, 4, 5, 6] [1, 2, 3, 4, 5] 0 rfl rfl rfl rfl) (k5 1 Tryz.runUnderlying32 Tryz.sizeOf3 rfl rfl rfl rfl (jE rfl (kY (cs' := #[_, _]) (S' := [_, _, _, _, _, _, _]) 1 (fun w => Tryz.sizeOf3 w) rfl rfl rfl rfl rfl rfl rfl (jr (hsE [0, 2, 3, 4, 5, 6] [1, 2, 3, 4, 5] 0 rfl rfl rfl rfl) (jM ?_)))))
            obtain rfl := sj hm
            exact jg () (trivial) (sE rfl) (hsE [0, 1, 2, 3, 4, 5, 6] [1, 2, 3, 4, 5] 0 rfl rfl rfl rfl)
           ·replace hm := ifE h141 hm
            refine ju ?_
            obtain rfl := sj hm
            exact jg () (trivial) (sE rfl) (fun w hh => hh)
          ·intro l_32 hj
           replace hm := h140
           refine ja (jj ?_)
           obtain ⟨o_7, h148, h149⟩ := bindO hm
           refine jF (ι := Unit) (fun l_35 => True) (fun l_35 => [(1, .int .i64 tenant1), (2, .int .i64 which2), (3, ptr b 0), (7, ptr l_2.1 0), (8, ptr l_2.2.1 0), (9, .int .i64 o_4.w9), (10, .int .i64 o_4.a10), (11, .int .i64 o_4.b11), (12, .int .i64 o_4.c12), (13, ptr b_25 0), (14, ptr b_26 0), (15, ptr b_27 0), (16, slv none 0 0)]) (fun l_35 => [(b_27, .cells #[.int .i64 o_7.missed15_lo, .int .i64 o_7.missed15_hi] 32 (0, 0)), (b_26, .cells #[.int .i64 o_6.stolen14_lo, .int .i64 o_6.stolen14_hi] 32 (0, 0)), (b_25, .cells #[.int .i64 o_5.taken13_lo, .int .i64 o_5.taken13_hi] 32 (0, 0)), (b, .cells #[.slice qa0 na0 ca0, .slice qa1 na1 ca1] 25 (0, 0)), (l_2.1, .cells #[slv l_2.2.2.1.q l_2.2.2.1.n l_2.2.2.1.cap, slv l_2.2.2.2.1.q l_2.2.2.2.1.n l_2.2.2.2.1.cap] 25 (0, 0)), (l_2.2.1, .cells #[slv l_2.2.2.2.2.1.q l_2.2.2.2.2.1.n l_2.2.2.2.2.1.cap, slv l_2.2.2.2.2.2.q l_2.2.2.2.2.2.n l_2.2.2.2.2.2.cap] 38 (0, 0)), (l_13, .cells #[.bool o_2] 4 (0, 0))]) (fun l_35 => [⟨62, RI.enc [], [], none, []⟩, ⟨85, RSt.enc o.own7.strips, l_2.2.2.1.sp, l_2.2.2.1.q, []⟩, ⟨32, RSp.enc o.own7.carried, l_2.2.2.2.1.sp, l_2.2.2.2.1.q, []⟩, ⟨98, RSt.enc o.x8.strips, l_2.2.2.2.2.1.sp, l_2.2.2.2.2.1.q, []⟩, ⟨32, RSp.enc o.x8.carried, l_2.2.2.2.2.2.sp, l_2.2.2.2.2.2.q, []⟩]) ?_ ?_
           ·replace hm := h148
            refine jq (je rfl rfl (jc rfl rfl rfl (fun _ _ => yD rfl rfl) (jp ?_)))
            refine js rfl (fun h150 => ?_) (fun h150 => ?_)
            ·replace hm := ifD h150 hm
             refine jX none (.hoist 0 (.hoist 1 (.free 2 (.one 3 (.one 4 (.free 5 (.free 6 (.free 7 (.free 8 (.free 9 (.one 10 (.free 11 (.one 12 .done))))))))))))) (HV _ _ [(b_26, .cells #[.int .i64 o_6.stolen14_lo, .int .i64 o_6.stolen14_hi] 32 (0, 0)), (b_25, .cells #[.int .i64 o_5.taken13_lo, .int .i64 o_5.taken13_hi] 32 (0, 0)), (b, .cells #[.slice qa0 na0 ca0, .slice qa1 na1 ca1] 25 (0, 0)), (l_2.1, .cells #[slv l_2.2.2.1.q l_2.2.2.1.n l_2.2.2.1.cap, slv l_2.2.2.2.1.q l_2.2.2.2.1.n l_2.2.2.2.1.cap] 25 (0, 0)), (l_2.2.1, .cells #[slv l_2.2.2.2.2.1.q l_2.2.2.2.2.1.n l_2.2.2.2.2.1.cap, slv l_2.2.2.2.2.2.q l_2.2.2.2.2.2.n l_2.2.2.2.2.2.cap] 38 (0, 0)), (l_13, .cells #[.bool o_2] 4 (0, 0))] [⟨62, RI.enc [], [], none, []⟩, ⟨85, RSt.enc o.own7.strips, l_2.2.2.1.sp, l_2.2.2.1.q, []⟩, ⟨32, RSp.enc o.own7.carried, l_2.2.2.2.1.sp, l_2.2.2.2.1.q, []⟩, ⟨98, RSt.enc o.x8.strips, l_2.2.2.2.2.1.sp, l_2.2.2.2.2.1.q, []⟩, ⟨32, RSp.enc o.x8.carried, l_2.2.2.2.2.2.sp, l_2.2.2.2.2.2.q, []⟩] _) rfl (by decide +kernel) (fun w k hh => hh.draw k) (hsE [1, 2, 3, 4, 5, 6] [0, 1, 2, 3, 4] 0 rfl rfl rfl rfl) ?_
             refine jD rfl rfl rfl rfl (fun w hh => j1 (vs := [_, _]) (Tryz.isAgg38 w) (Tryz.sizeOf38 w) rfl (hh.cells 4 rfl rfl)) (jD rfl rfl rfl rfl (fun w hh => j1 (vs := [_, _]) (Tryz.isAgg38 w) (Tryz.sizeOf38 w) rfl (hh.cells 4 rfl rfl)) (ku rfl rfl rfl (jE rfl ?_)))
             obtain ⟨t123, h151, hm⟩ := bindO hm
             refine jd [] [] rfl rfl rfl rfl rfl rfl rfl Tryz.call14 (fun w hh => Kf o.x8 (-1) which2 (qA l_2.2.2.2.2.1.q) l_2.2.2.2.2.1.n l_2.2.2.2.2.1.cap (qA l_2.2.2.2.2.2.q) l_2.2.2.2.2.2.n l_2.2.2.2.2.2.cap w (HV.callee (S0 := []) (vs0 := []) hh (roC (hh.vsepA 3 rfl h11) (roC (hh.vsepA 4 rfl h12) roN))) (vlen RSt h11 rfl) (AOK.q (vne h11)) (h11).hle (vlen RSp h12 rfl) (AOK.q (vne h12)) (h12).hle h151) (fun l_36 h152 => ?_)
             obtain ⟨h153, h154⟩ := h152
             refine jT (S' := [_, _, _, _, _, _, _]) (vs' := [_, _, _, _, _, _]) [0, 1, 2, 3, 4, 5, 6] [0, 1, 2, 3, 4, 5] 0 rfl rfl rfl rfl (jr (hsE [1, 2, 3, 4, 5, 6] [1, 2, 3, 4, 5] 0 rfl rfl rfl rfl) (jE rfl ?_))
             obtain ⟨t124, h155, hm⟩ := bindO hm
             refine jd [] [] rfl rfl rfl rfl rfl rfl rfl Tryz.call13 (fun w hh => Jz o.x8 t123 (qA l_2.2.2.2.2.1.q) l_2.2.2.2.2.1.n l_2.2.2.2.2.1.cap (qA l_2.2.2.2.2.2.q) l_2.2.2.2.2.2.n l_2.2.2.2.2.2.cap (qA l_36.v.q) l_36.v.n l_36.v.cap (toAL l_36.rs) w (HV.callee (S0 := []) (vs0 := []) hh (roC (hh.vsepA 4 rfl h11) (roC (hh.vsepA 5 rfl h12) (roC (hh.vsepD 0 rfl h153) roN)))) (vlen RSt h11 rfl) (AOK.q (vne h11)) (h11).hle (vlen RSp h12 rfl) (AOK.q (vne h12)) (h12).hle (Eq.trans (h154).len (vlen RwH h153 rfl)) (AOK.q (vne h153)) (h153).hle ((h154).toDRO rfl) (hh.dsepT 0 rfl h154) h155) (fun l_37 h156 => ?_)
             refine jr (hsE [1, 2, 3, 4, 5, 6] [1, 2, 3, 4, 5] 0 rfl rfl rfl rfl) (ku rfl rfl rfl (ji rfl rfl rfl rfl (fun _ _ => jQ rfl rfl) (ji rfl rfl rfl rfl (fun _ _ => jQ rfl rfl) (ji rfl rfl rfl rfl (fun _ _ => jQ rfl rfl) (k5 0 Tryz.runUnderlying32 Tryz.sizeOf3 rfl rfl rfl rfl (jE rfl (kY (cs' := #[_, _]) (S' := [_, _, _, _, _, _, _]) 0 (fun w => Tryz.sizeOf3 w) rfl rfl rfl rfl rfl rfl rfl ?_)))))))
             refine jr (hsE [1, 2, 3, 4, 5, 6] [1, 2, 3, 4, 5] 0 rfl rfl rfl rfl) (k5 1 Tryz.runUnderlying32 Tryz.sizeOf3 rfl rfl rfl rfl (jE rfl (kY (cs' := #[_, _]) (S' := [_, _, _, _, _, _, _]) 0 (fun w => Tryz.sizeOf3 w) rfl rfl rfl rfl rfl rfl rfl (jr (hsE [1, 2, 3, 4, 5, 6] [1, 2, 3, 4, 5] 0 rfl rfl rfl rfl) (jM ?_)))))
             obtain rfl := sj hm
             exact jg () (trivial) (sE rfl) (hsE [0, 1, 2, 3, 4, 5, 6] [1, 2, 3, 4, 5] 0 rfl rfl rfl rfl)
            ·replace hm := ifE h150 hm
             refine ju ?_
             obtain rfl := sj hm
             exact jg () (trivial) (sE rfl) (fun w hh => hh)
           ·intro l_35 hj
            replace hm := h149
            refine ja (jq (jk rfl rfl (jp ?_)))
            obtain ⟨o_8, h157, h158⟩ := bindO hm
            refine jF (ι := VL) (fun l_38 => VOK 1 l_38.n l_38.cap (RI.enc o_8) l_38.sp l_38.q) (fun l_38 => [(1, .int .i64 tenant1), (2, .int .i64 which2), (3, ptr b 0), (7, ptr l_2.1 0), (9, .int .i64 o_4.w9), (10, .int .i64 o_4.a10), (11, .int .i64 o_4.b11), (12, .int .i64 o_4.c12), (13, ptr b_25 0), (14, ptr b_26 0), (15, ptr b_27 0), (16, slv l_38.q l_38.n l_38.cap)]) (fun l_38 => [(b_27, .cells #[.int .i64 o_7.missed15_lo, .int .i64 o_7.missed15_hi] 32 (0, 0)), (b_26, .cells #[.int .i64 o_6.stolen14_lo, .int .i64 o_6.stolen14_hi] 32 (0, 0)), (b_25, .cells #[.int .i64 o_5.taken13_lo, .int .i64 o_5.taken13_hi] 32 (0, 0)), (b, .cells #[.slice qa0 na0 ca0, .slice qa1 na1 ca1] 25 (0, 0)), (l_2.1, .cells #[slv l_2.2.2.1.q l_2.2.2.1.n l_2.2.2.1.cap, slv l_2.2.2.2.1.q l_2.2.2.2.1.n l_2.2.2.2.1.cap] 25 (0, 0)), (l_2.2.1, .cells #[slv l_2.2.2.2.2.1.q l_2.2.2.2.2.1.n l_2.2.2.2.2.1.cap, slv l_2.2.2.2.2.2.q l_2.2.2.2.2.2.n l_2.2.2.2.2.2.cap] 38 (0, 0)), (l_13, .cells #[.bool o_2] 4 (0, 0))]) (fun l_38 => [⟨62, RI.enc o_8, l_38.sp, l_38.q, []⟩, ⟨85, RSt.enc o.own7.strips, l_2.2.2.1.sp, l_2.2.2.1.q, []⟩, ⟨32, RSp.enc o.own7.carried, l_2.2.2.2.1.sp, l_2.2.2.2.1.q, []⟩, ⟨98, RSt.enc o.x8.strips, l_2.2.2.2.2.1.sp, l_2.2.2.2.2.1.q, []⟩, ⟨32, RSp.enc o.x8.carried, l_2.2.2.2.2.2.sp, l_2.2.2.2.2.2.q, []⟩]) ?_ ?_
            ·replace hm := h157
             refine jn ?_
             refine jL (ι := VL) hm (fun s l_39 => VOK 1 l_39.n l_39.cap (RI.enc s.verdicts16) l_39.sp l_39.q) (fun s l_39 => [(1, .int .i64 tenant1), (2, .int .i64 which2), (3, ptr b 0), (7, ptr l_2.1 0), (8, ptr l_2.2.1 0), (9, .int .i64 o_4.w9), (10, .int .i64 o_4.a10), (11, .int .i64 o_4.b11), (12, .int .i64 o_4.c12), (13, ptr b_25 0), (14, ptr b_26 0), (15, ptr b_27 0), (16, slv l_39.q l_39.n l_39.cap), (23, .int .i64 s.t23)]) (fun s l_39 => [(b_27, .cells #[.int .i64 o_7.missed15_lo, .int .i64 o_7.missed15_hi] 32 (0, 0)), (b_26, .cells #[.int .i64 o_6.stolen14_lo, .int .i64 o_6.stolen14_hi] 32 (0, 0)), (b_25, .cells #[.int .i64 o_5.taken13_lo, .int .i64 o_5.taken13_hi] 32 (0, 0)), (b, .cells #[.slice qa0 na0 ca0, .slice qa1 na1 ca1] 25 (0, 0)), (l_2.1, .cells #[slv l_2.2.2.1.q l_2.2.2.1.n l_2.2.2.1.cap, slv l_2.2.2.2.1.q l_2.2.2.2.1.n l_2.2.2.2.1.cap] 25 (0, 0)), (l_2.2.1, .cells #[slv l_2.2.2.2.2.1.q l_2.2.2.2.2.1.n l_2.2.2.2.2.1.cap, slv l_2.2.2.2.2.2.q l_2.2.2.2.2.2.n l_2.2.2.2.2.2.cap] 38 (0, 0)), (l_13, .cells #[.bool o_2] 4 (0, 0))]) (fun s l_39 => [⟨62, RI.enc s.verdicts16, l_39.sp, l_39.q, []⟩, ⟨85, RSt.enc o.own7.strips, l_2.2.2.1.sp, l_2.2.2.1.q, []⟩, ⟨32, RSp.enc o.own7.carried, l_2.2.2.2.1.sp, l_2.2.2.2.1.q, []⟩, ⟨98, RSt.enc o.x8.strips, l_2.2.2.2.2.1.sp, l_2.2.2.2.2.1.q, []⟩, ⟨32, RSp.enc o.x8.carried, l_2.2.2.2.2.2.sp, l_2.2.2.2.2.2.q, []⟩]) ⟨none, 0, 0, []⟩ (VOK.nil) (sE rfl) (fun w hh => hh) (fun s l_39 r hpl hm h161 => ?_)
             have h160 := hpl
             unfold ka at hm
             refine jj (jj ?_)
             obtain ⟨o_9, h162, h163⟩ := bindO hm
             refine jF (ι := Unit) (fun l_40 => True) (fun l_40 => [(1, .int .i64 tenant1), (2, .int .i64 which2), (3, ptr b 0), (7, ptr l_2.1 0), (8, ptr l_2.2.1 0), (9, .int .i64 o_4.w9), (10, .int .i64 o_4.a10), (11, .int .i64 o_4.b11), (12, .int .i64 o_4.c12), (13, ptr b_25 0), (14, ptr b_26 0), (15, ptr b_27 0), (16, slv l_39.q l_39.n l_39.cap), (23, .int .i64 s.t23), (138, .bool o_9)]) (fun l_40 => [(b_27, .cells #[.int .i64 o_7.missed15_lo, .int .i64 o_7.missed15_hi] 32 (0, 0)), (b_26, .cells #[.int .i64 o_6.stolen14_lo, .int .i64 o_6.stolen14_hi] 32 (0, 0)), (b_25, .cells #[.int .i64 o_5.taken13_lo, .int .i64 o_5.taken13_hi] 32 (0, 0)), (b, .cells #[.slice qa0 na0 ca0, .slice qa1 na1 ca1] 25 (0, 0)), (l_2.1, .cells #[slv l_2.2.2.1.q l_2.2.2.1.n l_2.2.2.1.cap, slv l_2.2.2.2.1.q l_2.2.2.2.1.n l_2.2.2.2.1.cap] 25 (0, 0)), (l_2.2.1, .cells #[slv l_2.2.2.2.2.1.q l_2.2.2.2.2.1.n l_2.2.2.2.2.1.cap, slv l_2.2.2.2.2.2.q l_2.2.2.2.2.2.n l_2.2.2.2.2.2.cap] 38 (0, 0)), (l_13, .cells #[.bool o_2] 4 (0, 0))]) (fun l_40 => [⟨62, RI.enc s.verdicts16, l_39.sp, l_39.q, []⟩, ⟨85, RSt.enc o.own7.strips, l_2.2.2.1.sp, l_2.2.2.1.q, []⟩, ⟨32, RSp.enc o.own7.carried, l_2.2.2.2.1.sp, l_2.2.2.2.1.q, []⟩, ⟨98, RSt.enc o.x8.strips, l_2.2.2.2.2.1.sp, l_2.2.2.2.2.1.q, []⟩, ⟨32, RSp.enc o.x8.carried, l_2.2.2.2.2.2.sp, l_2.2.2.2.2.2.q, []⟩]) ?_ ?_
             ·replace hm := h162
              refine jh (je rfl rfl (jP 1 Tryz.runUnderlying25 rfl Tryz.sizeOf23 rfl rfl (jY 3 Tryz.isAgg23 rfl rfl rfl rfl (jc rfl rfl rfl (fun w _ => jI hna1 (Tryz.runUnderlying23 w) rfl) (yY rfl rfl rfl (je rfl rfl ?_))))))
              refine jJ 135 rfl (fun h164 => ?_) (fun h164 => ?_)
              ·replace hm := ifD h164 hm
               refine jb rfl rfl (je rfl rfl (jb rfl rfl (jc rfl rfl rfl (fun _ _ => yD rfl rfl) (kx rfl rfl rfl (jv ?_)))))
               obtain rfl := sj hm
               exact jg () (trivial) (sE rfl) (fun w hh => hh)
              ·replace hm := ifE h164 hm
               refine g_k rfl rfl rfl rfl (g_k rfl rfl rfl rfl (j3 rfl rfl rfl (jv ?_)))
               obtain rfl := sj hm
               exact jg () (trivial) (sE rfl) (fun w hh => hh)
             ·intro l_40 hj
              replace hm := h163
              refine ja ?_
              refine js rfl (fun h165 => ?_) (fun h165 => ?_)
              ·replace hm := ifT (h165) hm
               refine ju (ja (jj ?_))
               obtain ⟨o_10, h166, h167⟩ := bindO hm
               refine jF (ι := VL) (fun l_41 => VOK 1 l_41.n l_41.cap (RI.enc o_10) l_41.sp l_41.q) (fun l_41 => [(1, .int .i64 tenant1), (2, .int .i64 which2), (3, ptr b 0), (7, ptr l_2.1 0), (8, ptr l_2.2.1 0), (9, .int .i64 o_4.w9), (10, .int .i64 o_4.a10), (11, .int .i64 o_4.b11), (12, .int .i64 o_4.c12), (13, ptr b_25 0), (14, ptr b_26 0), (15, ptr b_27 0), (16, slv l_41.q l_41.n l_41.cap), (23, .int .i64 s.t23)]) (fun l_41 => [(b_27, .cells #[.int .i64 o_7.missed15_lo, .int .i64 o_7.missed15_hi] 32 (0, 0)), (b_26, .cells #[.int .i64 o_6.stolen14_lo, .int .i64 o_6.stolen14_hi] 32 (0, 0)), (b_25, .cells #[.int .i64 o_5.taken13_lo, .int .i64 o_5.taken13_hi] 32 (0, 0)), (b, .cells #[.slice qa0 na0 ca0, .slice qa1 na1 ca1] 25 (0, 0)), (l_2.1, .cells #[slv l_2.2.2.1.q l_2.2.2.1.n l_2.2.2.1.cap, slv l_2.2.2.2.1.q l_2.2.2.2.1.n l_2.2.2.2.1.cap] 25 (0, 0)), (l_2.2.1, .cells #[slv l_2.2.2.2.2.1.q l_2.2.2.2.2.1.n l_2.2.2.2.2.1.cap, slv l_2.2.2.2.2.2.q l_2.2.2.2.2.2.n l_2.2.2.2.2.2.cap] 38 (0, 0)), (l_13, .cells #[.bool o_2] 4 (0, 0))]) (fun l_41 => [⟨62, RI.enc o_10, l_41.sp, l_41.q, []⟩, ⟨85, RSt.enc o.own7.strips, l_2.2.2.1.sp, l_2.2.2.1.q, []⟩, ⟨32, RSp.enc o.own7.carried, l_2.2.2.2.1.sp, l_2.2.2.2.1.q, []⟩, ⟨98, RSt.enc o.x8.strips, l_2.2.2.2.2.1.sp, l_2.2.2.2.2.1.q, []⟩, ⟨32, RSp.enc o.x8.carried, l_2.2.2.2.2.2.sp, l_2.2.2.2.2.2.q, []⟩]) ?_ ?_
               ·replace hm := h166
                refine jn (jj ?_)
                refine jX none (.hoist 0 (.hoist 1 (.free 2 (.one 3 (.one 4 (.free 5 (.free 6 (.free 7 (.free 8 (.free 9 (.free 10 (.free 11 .done)))))))))))) _ rfl (by decide +kernel) (fun w k hh => hh.draw k) (fun w hh => hh) ?_
                refine jD rfl rfl rfl rfl (fun w hh => j1 (vs := [_, _]) (Tryz.isAgg38 w) (Tryz.sizeOf38 w) rfl (hh.cells 5 rfl rfl)) (jD rfl rfl rfl rfl (fun w hh => j1 (vs := [_, _]) (Tryz.isAgg38 w) (Tryz.sizeOf38 w) rfl (hh.cells 5 rfl rfl)) (ku rfl rfl rfl (jE rfl ?_)))
                obtain ⟨t145, h169, hm⟩ := bindO hm
                refine jd [] [] rfl rfl rfl rfl rfl rfl rfl Tryz.call14 (fun w hh => Kf o.x8 s.t23 (-1) (qA l_2.2.2.2.2.1.q) l_2.2.2.2.2.1.n l_2.2.2.2.2.1.cap (qA l_2.2.2.2.2.2.q) l_2.2.2.2.2.2.n l_2.2.2.2.2.2.cap w (HV.callee (S0 := []) (vs0 := []) hh (roC (hh.vsepA 3 rfl h11) (roC (hh.vsepA 4 rfl h12) roN))) (vlen RSt h11 rfl) (AOK.q (vne h11)) (h11).hle (vlen RSp h12 rfl) (AOK.q (vne h12)) (h12).hle h169) (fun l_42 h170 => ?_)
                obtain ⟨h171, h172⟩ := h170
                refine jT (S' := [_, _, _, _, _, _, _]) (vs' := [_, _, _, _, _, _]) [0, 1, 2, 3, 4, 5, 6] [0, 1, 2, 3, 4, 5] 0 rfl rfl rfl rfl (jr (hsE [0, 1, 2, 3, 4, 5, 6] [1, 2, 3, 4, 5] 0 rfl rfl rfl rfl) (jE rfl ?_))
                obtain ⟨t146, h173, hm⟩ := bindO hm
                refine jd [] [] rfl rfl rfl rfl rfl rfl rfl Tryz.call13 (fun w hh => Jz o.x8 t145 (qA l_2.2.2.2.2.1.q) l_2.2.2.2.2.1.n l_2.2.2.2.2.1.cap (qA l_2.2.2.2.2.2.q) l_2.2.2.2.2.2.n l_2.2.2.2.2.2.cap (qA l_42.v.q) l_42.v.n l_42.v.cap (toAL l_42.rs) w (HV.callee (S0 := []) (vs0 := []) hh (roC (hh.vsepA 4 rfl h11) (roC (hh.vsepA 5 rfl h12) (roC (hh.vsepD 0 rfl h171) roN)))) (vlen RSt h11 rfl) (AOK.q (vne h11)) (h11).hle (vlen RSp h12 rfl) (AOK.q (vne h12)) (h12).hle (Eq.trans (h172).len (vlen RwH h171 rfl)) (AOK.q (vne h171)) (h171).hle ((h172).toDRO rfl) (hh.dsepT 0 rfl h172) h173) (fun l_43 h174 => ?_)
                refine jr (hsE [0, 1, 2, 3, 4, 5, 6] [1, 2, 3, 4, 5] 0 rfl rfl rfl rfl) (ku rfl rfl rfl (ji rfl rfl rfl rfl (fun _ _ => jQ rfl rfl) (ji rfl rfl rfl rfl (fun _ _ => jQ rfl rfl) (ji rfl rfl rfl rfl (fun _ _ => jQ rfl rfl) (ji rfl rfl rfl rfl (fun _ _ => jH rfl) (ji rfl rfl rfl rfl (fun _ _ => jH rfl) (ji rfl rfl rfl rfl (fun _ _ => jH rfl) ?_)))))))
                refine jM (ja (jn (jq (je rfl rfl (jc rfl rfl rfl (fun _ _ => yD rfl rfl) (jk rfl rfl (jp ?_)))))))
                refine js rfl (fun h175 => ?_) (fun h175 => ?_)
                ·replace hm := ifD h175 hm
                 refine jh (je rfl rfl ?_)
                 refine kG RI [1] (ps := [(0, _)]) (cells := [_]) (fun w => Tryz.runUnderlying60 w) (fun w => Tryz.sizeOf62 w) (fun w => Tryz.zeroValue62 w) rfl rfl rfl rfl rfl rfl rfl rfl (fun L_22 h176 => ?_)
                 obtain ⟨t158, h177, hm⟩ := bindO hm
                 refine yh RI 2 h177 Tryz.underlying60 QT rfl rfl rfl rfl rfl h160 rfl rfl (vlen RI h176 rfl) (AOK.q (vne h176)) (fun w hh => (hh.vsegA 0 rfl h176)) rfl (fun L_23 h178 h178n => ?_)
                 refine jT (S' := [_, _, _, _, _, _, _]) (vs' := [_, _, _, _, _, _, _]) [0, 1, 2, 3, 4, 5, 6] [0, 1, 2, 3, 4, 5, 6] 0 rfl rfl rfl rfl (jk rfl rfl (jv (jt (jt ?_))))
                 obtain rfl := sj hm
                 exact jg L_23 (h178) (sE rfl) (hsE [0, 1, 2, 3, 4, 5, 6] [2, 3, 4, 5, 6] 0 rfl rfl rfl rfl)
                ·replace hm := ifE h175 hm
                 refine jq (je rfl rfl (jc rfl rfl rfl (fun _ _ => Qy rfl rfl) (jk rfl rfl (jp ?_))))
                 refine js rfl (fun h179 => ?_) (fun h179 => ?_)
                 ·replace hm := ifD h179 hm
                  refine jh (je rfl rfl ?_)
                  refine kG RI [2] (ps := [(0, _)]) (cells := [_]) (fun w => Tryz.runUnderlying60 w) (fun w => Tryz.sizeOf62 w) (fun w => Tryz.zeroValue62 w) rfl rfl rfl rfl rfl rfl rfl rfl (fun L_24 h180 => ?_)
                  obtain ⟨t164, h181, hm⟩ := bindO hm
                  refine yh RI 2 h181 Tryz.underlying60 QT rfl rfl rfl rfl rfl h160 rfl rfl (vlen RI h180 rfl) (AOK.q (vne h180)) (fun w hh => (hh.vsegA 0 rfl h180)) rfl (fun L_25 h182 h182n => ?_)
                  refine jT (S' := [_, _, _, _, _, _, _]) (vs' := [_, _, _, _, _, _, _]) [0, 1, 2, 3, 4, 5, 6] [0, 1, 2, 3, 4, 5, 6] 0 rfl rfl rfl rfl (jk rfl rfl (jv (jt (jt ?_))))
                  obtain rfl := sj hm
                  exact jg L_25 (h182) (sE rfl) (hsE [0, 1, 2, 3, 4, 5, 6] [2, 3, 4, 5, 6] 0 rfl rfl rfl rfl)
                 ·replace hm := ifE h179 hm
                  refine jh (je rfl rfl ?_)
                  refine kG RI [0] (ps := [(0, _)]) (cells := [_]) (fun w => Tryz.runUnderlying60 w) (fun w => Tryz.sizeOf62 w) (fun w => Tryz.zeroValue62 w) rfl rfl rfl rfl rfl rfl rfl rfl (fun L_26 h183 => ?_)
                  obtain ⟨t152, h184, hm⟩ := bindO hm
                  refine yh RI 2 h184 Tryz.underlying60 QT rfl rfl rfl rfl rfl h160 rfl rfl (vlen RI h183 rfl) (AOK.q (vne h183)) (fun w hh => (hh.vsegA 0 rfl h183)) rfl (fun L_27 h185 h185n => ?_)
                  refine jT (S' := [_, _, _, _, _, _, _]) (vs' := [_, _, _, _, _, _, _]) [0, 1, 2, 3, 4, 5, 6] [0, 1, 2, 3, 4, 5, 6] 0 rfl rfl rfl rfl (jk rfl rfl (jv (jt (jt ?_))))
                  obtain rfl := sj hm
                  exact jg L_27 (h185) (sE rfl) (hsE [0, 1, 2, 3, 4, 5, 6] [2, 3, 4, 5, 6] 0 rfl rfl rfl rfl)
               ·intro l_41 hj
                have h168 := hj
                replace hm := h167
                refine ja (jh (je rfl rfl ?_))
                obtain ⟨t140, h186, hm⟩ := bindO hm
                refine qs h186 rfl rfl rfl (jk rfl rfl (jv ?_))
                obtain rfl := sj hm
                refine ja ?_
                exact jA _ l_41 rfl (h168) (sE rfl) (fun w hh => hh)
              ·replace hm := ifN h165 hm
               refine jS (jl (jl (jG ?_)))
               obtain rfl := sj hm
               have hbo := h161 _ rfl
               subst hbo
               exact jg l_39 (h160) (sE rfl) (fun w hh => hh)
            ·intro l_38 hj
             have h159 := hj
             replace hm := h158
             obtain rfl := sj hm
             exact jg l_38 (h159) (sE rfl) (hsE [0, 1, 2, 3, 4, 5] [0, 1, 2, 3, 4] 0 rfl rfl rfl rfl)
     ·replace hm := ifE h89 hm
      refine ju ?_
      obtain rfl := sj hm
      exact jg ⟨none, 0, 0, []⟩ (VOK.nil) (sE rfl) (fun w hh => hh)
    ·intro l_12 hj
     have h88 := hj
     replace hm := h87
     refine ja (jq (kD [_, _] 4 Tryz.isAgg25 Tryz.sizeOf25 rfl rfl rfl rfl (je rfl rfl (je rfl rfl ?_))))
     obtain ⟨t169, h187, hm⟩ := bindO hm
     refine jd [] [] rfl rfl rfl rfl rfl rfl rfl Tryz.call25 (fun w hh => jaq o.own7 tenant1 which2 (qA l_2.2.2.1.q) l_2.2.2.1.n l_2.2.2.1.cap (qA l_2.2.2.2.1.q) l_2.2.2.2.1.n l_2.2.2.2.1.cap w (HV.callee (S0 := []) (vs0 := []) hh (roC (hh.vsepA 1 rfl h9) (roC (hh.vsepA 2 rfl h10) roN))) (vlen RSt h9 rfl) (AOK.q (vne h9)) (h9).hle (vlen RSp h10 rfl) (AOK.q (vne h10)) (h10).hle h187) (fun l_44 h188 => ?_)
     refine je rfl rfl (kp rfl rfl rfl (kp rfl rfl rfl ?_))
     refine jo (fun w => Tryz.zeroValue32 w) rfl (fun b_31 h189 => ?_)
     refine jy (us := #[_, _]) (cs' := [_, _]) (S' := [_, _, _, _, _, _, _]) 0 (fun w => Tryz.sizeOf32 w) rfl rfl rfl rfl rfl rfl rfl (jk rfl rfl (j0 (kD [_, _] 5 Tryz.isAgg25 Tryz.sizeOf25 rfl rfl rfl rfl (je rfl rfl ?_))))
     obtain ⟨t175, h190, hm⟩ := bindO hm
     refine jd [] [] rfl rfl rfl rfl rfl rfl rfl Tryz.call26 (fun w hh => Z2 o.own7 tenant1 (qA l_2.2.2.1.q) l_2.2.2.1.n l_2.2.2.1.cap (qA l_2.2.2.2.1.q) l_2.2.2.2.1.n l_2.2.2.2.1.cap w (HV.callee (S0 := []) (vs0 := []) hh (roC (hh.vsepA 1 rfl h9) (roC (hh.vsepA 2 rfl h10) roN))) (vlen RSt h9 rfl) (AOK.q (vne h9)) (h9).hle (vlen RSp h10 rfl) (AOK.q (vne h10)) (h10).hle h190) (fun l_45 h191 => ?_)
     refine je rfl rfl (kp rfl rfl rfl (kp rfl rfl rfl ?_))
     refine jo (fun w => Tryz.zeroValue32 w) rfl (fun b_32 h192 => ?_)
     refine jy (us := #[_, _]) (cs' := [_, _]) (S' := [_, _, _, _, _, _, _, _]) 0 (fun w => Tryz.sizeOf32 w) rfl rfl rfl rfl rfl rfl rfl (jk rfl rfl (j0 (kD [_, _] 6 Tryz.isAgg25 Tryz.sizeOf25 rfl rfl rfl rfl (je rfl rfl ?_))))
     obtain ⟨t181, h193, hm⟩ := bindO hm
     refine jd [] [] rfl rfl rfl rfl rfl rfl rfl Tryz.call27 (fun w hh => Z6 o.own7 which2 (qA l_2.2.2.1.q) l_2.2.2.1.n l_2.2.2.1.cap (qA l_2.2.2.2.1.q) l_2.2.2.2.1.n l_2.2.2.2.1.cap w (HV.callee (S0 := []) (vs0 := []) hh (roC (hh.vsepA 1 rfl h9) (roC (hh.vsepA 2 rfl h10) roN))) (vlen RSt h9 rfl) (AOK.q (vne h9)) (h9).hle (vlen RSp h10 rfl) (AOK.q (vne h10)) (h10).hle h193) (fun l_46 h194 => ?_)
     refine je rfl rfl (kp rfl rfl rfl (kp rfl rfl rfl ?_))
     refine jo (fun w => Tryz.zeroValue32 w) rfl (fun b_33 h195 => ?_)
     refine jy (us := #[_, _]) (cs' := [_, _]) (S' := [_, _, _, _, _, _, _, _, _]) 0 (fun w => Tryz.sizeOf32 w) rfl rfl rfl rfl rfl rfl rfl (jk rfl rfl (j0 (kD [_, _] 7 Tryz.isAgg25 Tryz.sizeOf25 rfl rfl rfl rfl ?_)))
     obtain ⟨t186, h196, hm⟩ := bindO hm
     refine jd [] [] rfl rfl rfl rfl rfl rfl rfl Tryz.call28 (fun w hh => Q7 o.own7 (qA l_2.2.2.1.q) l_2.2.2.1.n l_2.2.2.1.cap (qA l_2.2.2.2.1.q) l_2.2.2.2.1.n l_2.2.2.2.1.cap w (HV.callee (S0 := []) (vs0 := []) hh (roC (hh.vsepA 1 rfl h9) (roC (hh.vsepA 2 rfl h10) roN))) (vlen RSt h9 rfl) (AOK.q (vne h9)) (h9).hle (vlen RSp h10 rfl) (AOK.q (vne h10)) (h10).hle h196) (fun l_47 h197 => ?_)
     have h198 := h197
     refine jT (S' := [_, _, _, _, _, _, _, _, _]) (vs' := [_, _, _, _, _, _]) [0, 1, 2, 3, 4, 5, 6, 7, 8] [0, 1, 2, 3, 4, 5] 0 rfl rfl rfl rfl (je rfl rfl (kp rfl rfl rfl (kp rfl rfl rfl (jk rfl rfl (jk rfl rfl (jp (jj ?_)))))))
     obtain ⟨o_11, h199, h200⟩ := bindO hm
     refine jF (ι := Unit) (fun l_48 => True) (fun l_48 => [(6, .bool o_11)]) (fun l_48 => [(b_33, .cells #[.int .i64 t181.r0.lo, .int .i64 t181.r0.hi] 32 (0, 0)), (b_32, .cells #[.int .i64 t175.r0.lo, .int .i64 t175.r0.hi] 32 (0, 0)), (b_31, .cells #[.int .i64 t169.r0.lo, .int .i64 t169.r0.hi] 32 (0, 0)), (b_27, .cells #[.int .i64 o_1.missed15_lo, .int .i64 o_1.missed15_hi] 32 (0, 0)), (b_26, .cells #[.int .i64 o_1.stolen14_lo, .int .i64 o_1.stolen14_hi] 32 (0, 0)), (b_25, .cells #[.int .i64 o_1.taken13_lo, .int .i64 o_1.taken13_hi] 32 (0, 0)), (b, .cells #[.slice qa0 na0 ca0, .slice qa1 na1 ca1] 25 (0, 0)), (l_2.1, .cells #[slv l_2.2.2.1.q l_2.2.2.1.n l_2.2.2.1.cap, slv l_2.2.2.2.1.q l_2.2.2.2.1.n l_2.2.2.2.1.cap] 25 (0, 0)), (l_2.2.1, .cells #[slv l_2.2.2.2.2.1.q l_2.2.2.2.2.1.n l_2.2.2.2.2.1.cap, slv l_2.2.2.2.2.2.q l_2.2.2.2.2.2.n l_2.2.2.2.2.2.cap] 38 (0, 0))]) (fun l_48 => [⟨85, RSt.enc o.own7.strips, l_2.2.2.1.sp, l_2.2.2.1.q, []⟩, ⟨32, RSp.enc o.own7.carried, l_2.2.2.2.1.sp, l_2.2.2.2.1.q, []⟩, ⟨98, RSt.enc o.x8.strips, l_2.2.2.2.2.1.sp, l_2.2.2.2.2.1.q, []⟩, ⟨32, RSp.enc o.x8.carried, l_2.2.2.2.2.2.sp, l_2.2.2.2.2.2.q, []⟩]) ?_ ?_
     ·replace hm := h199
      refine jh (je rfl rfl (je rfl rfl (jc rfl rfl rfl (fun _ _ => yD rfl rfl) (je rfl rfl ?_))))
      refine jJ 192 rfl (fun h201 => ?_) (fun h201 => ?_)
      ·replace hm := ifD h201 hm
       refine jb rfl rfl (je rfl rfl (jb rfl rfl (je rfl rfl (jb rfl rfl (jc rfl rfl rfl (fun _ _ => yD rfl rfl) (kx rfl rfl rfl (je rfl rfl ?_)))))))
       refine jJ 197 rfl (fun h202 => ?_) (fun h202 => ?_)
       ·replace hm := ifD h202 hm
        refine jb rfl rfl (je rfl rfl (jb rfl rfl (je rfl rfl (jb rfl rfl (jc rfl rfl rfl (fun _ _ => yD rfl rfl) (kx rfl rfl rfl (je rfl rfl ?_)))))))
        refine jJ 202 rfl (fun h203 => ?_) (fun h203 => ?_)
        ·replace hm := ifD h203 hm
         refine jb rfl rfl (je rfl rfl (jb rfl rfl (je rfl rfl (jb rfl rfl (jc rfl rfl rfl (fun _ _ => yD rfl rfl) (kx rfl rfl rfl (je rfl rfl ?_)))))))
         refine jJ 207 rfl (fun h204 => ?_) (fun h204 => ?_)
         ·replace hm := ifD h204 hm
          refine jb rfl rfl (kD [_, _] 2 Tryz.isAgg32 Tryz.sizeOf32 rfl rfl rfl rfl (jb rfl rfl (kD [_, _] 5 Tryz.isAgg32 Tryz.sizeOf32 rfl rfl rfl rfl (jb rfl rfl (jc rfl rfl rfl (fun w _ => Qi (Zi t169.r0 (⟨o_1.taken13_lo, o_1.taken13_hi⟩ : Span) w) Ye rfl rfl) (kx rfl rfl rfl (je rfl rfl ?_)))))))
          refine jJ 212 rfl (fun h205 => ?_) (fun h205 => ?_)
          ·replace hm := ifD h205 hm
           refine jb rfl rfl (kD [_, _] 1 Tryz.isAgg32 Tryz.sizeOf32 rfl rfl rfl rfl (jb rfl rfl (kD [_, _] 4 Tryz.isAgg32 Tryz.sizeOf32 rfl rfl rfl rfl (jb rfl rfl (jc rfl rfl rfl (fun w _ => Qi (Zi t175.r0 (⟨o_1.stolen14_lo, o_1.stolen14_hi⟩ : Span) w) Ye rfl rfl) (kx rfl rfl rfl (je rfl rfl ?_)))))))
           refine jJ 217 rfl (fun h206 => ?_) (fun h206 => ?_)
           ·replace hm := ifD h206 hm
            refine jb rfl rfl (kD [_, _] 0 Tryz.isAgg32 Tryz.sizeOf32 rfl rfl rfl rfl (jb rfl rfl (kD [_, _] 3 Tryz.isAgg32 Tryz.sizeOf32 rfl rfl rfl rfl (jb rfl rfl (jc rfl rfl rfl (fun w _ => Qi (Zi t181.r0 (⟨o_1.missed15_lo, o_1.missed15_hi⟩ : Span) w) Ye rfl rfl) (kx rfl rfl rfl (je rfl rfl ?_)))))))
            refine jJ 222 rfl (fun h207 => ?_) (fun h207 => ?_)
            ·replace hm := ifD h207 hm
             refine jb rfl rfl (je rfl rfl (jb rfl rfl (je rfl rfl (jb rfl rfl ?_))))
             obtain ⟨t225, h208, hm⟩ := bindO hm
             refine jd [] [] rfl rfl rfl rfl rfl rfl rfl Tryz.call29 (fun w hh => JE t186.r0 o_1.verdicts16 (qA l_47.q) l_47.n l_47.cap (qA l_12.q) l_12.n l_12.cap w (HV.callee (S0 := []) (vs0 := []) hh (roC (hh.vsepA 0 rfl h198) (roC (hh.vsepA 1 rfl h88) roN))) (vlen RI h198 rfl) (AOK.q (vne h198)) (h198).hle (vlen RI h88 rfl) (AOK.q (vne h88)) (h88).hle h208) (fun l_49 h209 => ?_)
             refine kx rfl rfl rfl (je rfl rfl ?_)
             refine jJ 227 rfl (fun h210 => ?_) (fun h210 => ?_)
             ·replace hm := ifT (h210) hm
              refine jb rfl rfl (kD [_, _] 7 Tryz.isAgg25 Tryz.sizeOf25 rfl rfl rfl rfl (jb rfl rfl (kD [_, _] 6 Tryz.isAgg25 Tryz.sizeOf25 rfl rfl rfl rfl (jb rfl rfl ?_))))
              obtain ⟨t230, h211, hm⟩ := bindO hm
              refine jd [] [] rfl rfl rfl rfl rfl rfl rfl Tryz.call21 (fun w hh => jaF o.own7 s0 (qA l_2.2.2.1.q) l_2.2.2.1.n l_2.2.2.1.cap (qA l_2.2.2.2.1.q) l_2.2.2.2.1.n l_2.2.2.2.1.cap qa0 na0 ca0 qa1 na1 ca1 w (HV.callee (S0 := []) (vs0 := []) hh (roC (hh.vsepA 2 rfl h9) (roC (hh.vsepA 3 rfl h10) (roR hh 0 rfl (roR hh 1 rfl roN))))) (vlen RSt h9 rfl) (AOK.q (vne h9)) (h9).hle (vlen RSp h10 rfl) (AOK.q (vne h10)) (h10).hle hna0 hqa0 hla0 hna1 hqa1 hla1 h211) (fun l_50 h212 => ?_)
              refine kx rfl rfl rfl (je rfl rfl ?_)
              refine jJ 232 rfl (fun h213 => ?_) (fun h213 => ?_)
              ·replace hm := ifT (h213) hm
               refine jb rfl rfl ?_
               obtain ⟨t233, h214, hm⟩ := bindO hm
               refine jd [] [] rfl rfl rfl rfl rfl rfl rfl Tryz.call8 (fun w hh => Zj  w (HV.callee (S0 := []) (vs0 := []) hh roN)  h214) (fun l_51 h215 => ?_)
               refine kx rfl rfl rfl (jk rfl rfl (jv ?_))
               obtain rfl := sj hm
               exact jg () (trivial) (sE rfl) (hsE [0, 1, 2, 3, 4, 5, 6, 7, 8] [2, 3, 4, 5] 0 rfl rfl rfl rfl)
              ·replace hm := ifN h213 hm
               refine g_k rfl rfl rfl rfl (j3 rfl rfl rfl (jk rfl rfl (jv ?_)))
               obtain rfl := sj hm
               exact jg () (trivial) (sE rfl) (hsE [0, 1, 2, 3, 4, 5, 6, 7, 8] [2, 3, 4, 5] 0 rfl rfl rfl rfl)
             ·replace hm := ifN h210 hm
              refine g_k rfl rfl rfl rfl (g_k rfl rfl rfl rfl (g_k rfl rfl rfl rfl (j3 rfl rfl rfl (je rfl rfl (g_k rfl rfl rfl rfl (j3 rfl rfl rfl (jk rfl rfl ?_)))))))
              refine jv ?_
              obtain rfl := sj hm
              exact jg () (trivial) (sE rfl) (hsE [0, 1, 2, 3, 4, 5, 6, 7, 8] [2, 3, 4, 5] 0 rfl rfl rfl rfl)
            ·replace hm := ifE h207 hm
             refine g_k rfl rfl rfl rfl (g_k rfl rfl rfl rfl (g_k rfl rfl rfl rfl (j3 rfl rfl rfl (je rfl rfl (g_k rfl rfl rfl rfl (g_k rfl rfl rfl rfl (g_k rfl rfl rfl rfl ?_)))))))
             refine j3 rfl rfl rfl (je rfl rfl (g_k rfl rfl rfl rfl (j3 rfl rfl rfl (jk rfl rfl (jv ?_)))))
             obtain rfl := sj hm
             exact jg () (trivial) (sE rfl) (hsE [0, 1, 2, 3, 4, 5, 6, 7, 8] [2, 3, 4, 5] 0 rfl rfl rfl rfl)
           ·replace hm := ifE h206 hm
            refine g_k rfl rfl rfl rfl (g_k rfl rfl rfl rfl (g_k rfl rfl rfl rfl (j3 rfl rfl rfl (je rfl rfl (g_k rfl rfl rfl rfl (g_k rfl rfl rfl rfl (g_k rfl rfl rfl rfl ?_)))))))
            refine j3 rfl rfl rfl (je rfl rfl (g_k rfl rfl rfl rfl (g_k rfl rfl rfl rfl (g_k rfl rfl rfl rfl (j3 rfl rfl rfl (je rfl rfl (g_k rfl rfl rfl rfl ?_)))))))
            refine j3 rfl rfl rfl (jk rfl rfl (jv ?_))
            obtain rfl := sj hm
            exact jg () (trivial) (sE rfl) (hsE [0, 1, 2, 3, 4, 5, 6, 7, 8] [2, 3, 4, 5] 0 rfl rfl rfl rfl)
          ·replace hm := ifE h205 hm
           refine g_k rfl rfl rfl rfl (g_k rfl rfl rfl rfl (g_k rfl rfl rfl rfl (j3 rfl rfl rfl (je rfl rfl (g_k rfl rfl rfl rfl (g_k rfl rfl rfl rfl (g_k rfl rfl rfl rfl ?_)))))))
           refine j3 rfl rfl rfl (je rfl rfl (g_k rfl rfl rfl rfl (g_k rfl rfl rfl rfl (g_k rfl rfl rfl rfl (j3 rfl rfl rfl (je rfl rfl (g_k rfl rfl rfl rfl ?_)))))))
           refine g_k rfl rfl rfl rfl (g_k rfl rfl rfl rfl (j3 rfl rfl rfl (je rfl rfl (g_k rfl rfl rfl rfl (j3 rfl rfl rfl (jk rfl rfl (jv ?_)))))))
           obtain rfl := sj hm
           exact jg () (trivial) (sE rfl) (hsE [0, 1, 2, 3, 4, 5, 6, 7, 8] [2, 3, 4, 5] 0 rfl rfl rfl rfl)
         ·replace hm := ifE h204 hm
          refine g_k rfl rfl rfl rfl (g_k rfl rfl rfl rfl (g_k rfl rfl rfl rfl (j3 rfl rfl rfl (je rfl rfl (g_k rfl rfl rfl rfl (g_k rfl rfl rfl rfl (g_k rfl rfl rfl rfl ?_)))))))
          refine j3 rfl rfl rfl (je rfl rfl (g_k rfl rfl rfl rfl (g_k rfl rfl rfl rfl (g_k rfl rfl rfl rfl (j3 rfl rfl rfl (je rfl rfl (g_k rfl rfl rfl rfl ?_)))))))
          refine g_k rfl rfl rfl rfl (g_k rfl rfl rfl rfl (j3 rfl rfl rfl (je rfl rfl (g_k rfl rfl rfl rfl (g_k rfl rfl rfl rfl (g_k rfl rfl rfl rfl (j3 rfl rfl rfl ?_)))))))
          refine je rfl rfl (g_k rfl rfl rfl rfl (j3 rfl rfl rfl (jk rfl rfl (jv ?_))))
          obtain rfl := sj hm
          exact jg () (trivial) (sE rfl) (hsE [0, 1, 2, 3, 4, 5, 6, 7, 8] [2, 3, 4, 5] 0 rfl rfl rfl rfl)
        ·replace hm := ifE h203 hm
         refine g_k rfl rfl rfl rfl (g_k rfl rfl rfl rfl (g_k rfl rfl rfl rfl (j3 rfl rfl rfl (je rfl rfl (g_k rfl rfl rfl rfl (g_k rfl rfl rfl rfl (g_k rfl rfl rfl rfl ?_)))))))
         refine j3 rfl rfl rfl (je rfl rfl (g_k rfl rfl rfl rfl (g_k rfl rfl rfl rfl (g_k rfl rfl rfl rfl (j3 rfl rfl rfl (je rfl rfl (g_k rfl rfl rfl rfl ?_)))))))
         refine g_k rfl rfl rfl rfl (g_k rfl rfl rfl rfl (j3 rfl rfl rfl (je rfl rfl (g_k rfl rfl rfl rfl (g_k rfl rfl rfl rfl (g_k rfl rfl rfl rfl (j3 rfl rfl rfl ?_)))))))
         refine je rfl rfl (g_k rfl rfl rfl rfl (g_k rfl rfl rfl rfl (g_k rfl rfl rfl rfl (j3 rfl rfl rfl (je rfl rfl (g_k rfl rfl rfl rfl (j3 rfl rfl rfl ?_)))))))
         refine jk rfl rfl (jv ?_)
         obtain rfl := sj hm
         exact jg () (trivial) (sE rfl) (hsE [0, 1, 2, 3, 4, 5, 6, 7, 8] [2, 3, 4, 5] 0 rfl rfl rfl rfl)
       ·replace hm := ifE h202 hm
        refine g_k rfl rfl rfl rfl (g_k rfl rfl rfl rfl (g_k rfl rfl rfl rfl (j3 rfl rfl rfl (je rfl rfl (g_k rfl rfl rfl rfl (g_k rfl rfl rfl rfl (g_k rfl rfl rfl rfl ?_)))))))
        refine j3 rfl rfl rfl (je rfl rfl (g_k rfl rfl rfl rfl (g_k rfl rfl rfl rfl (g_k rfl rfl rfl rfl (j3 rfl rfl rfl (je rfl rfl (g_k rfl rfl rfl rfl ?_)))))))
        refine g_k rfl rfl rfl rfl (g_k rfl rfl rfl rfl (j3 rfl rfl rfl (je rfl rfl (g_k rfl rfl rfl rfl (g_k rfl rfl rfl rfl (g_k rfl rfl rfl rfl (j3 rfl rfl rfl ?_)))))))
        refine je rfl rfl (g_k rfl rfl rfl rfl (g_k rfl rfl rfl rfl (g_k rfl rfl rfl rfl (j3 rfl rfl rfl (je rfl rfl (g_k rfl rfl rfl rfl (g_k rfl rfl rfl rfl ?_)))))))
        refine g_k rfl rfl rfl rfl (j3 rfl rfl rfl (je rfl rfl (g_k rfl rfl rfl rfl (j3 rfl rfl rfl (jk rfl rfl (jv ?_))))))
        obtain rfl := sj hm
        exact jg () (trivial) (sE rfl) (hsE [0, 1, 2, 3, 4, 5, 6, 7, 8] [2, 3, 4, 5] 0 rfl rfl rfl rfl)
      ·replace hm := ifE h201 hm
       refine g_k rfl rfl rfl rfl (g_k rfl rfl rfl rfl (g_k rfl rfl rfl rfl (j3 rfl rfl rfl (je rfl rfl (g_k rfl rfl rfl rfl (g_k rfl rfl rfl rfl (g_k rfl rfl rfl rfl ?_)))))))
       refine j3 rfl rfl rfl (je rfl rfl (g_k rfl rfl rfl rfl (g_k rfl rfl rfl rfl (g_k rfl rfl rfl rfl (j3 rfl rfl rfl (je rfl rfl (g_k rfl rfl rfl rfl ?_)))))))
       refine g_k rfl rfl rfl rfl (g_k rfl rfl rfl rfl (j3 rfl rfl rfl (je rfl rfl (g_k rfl rfl rfl rfl (g_k rfl rfl rfl rfl (g_k rfl rfl rfl rfl (j3 rfl rfl rfl ?_)))))))
       refine je rfl rfl (g_k rfl rfl rfl rfl (g_k rfl rfl rfl rfl (g_k rfl rfl rfl rfl (j3 rfl rfl rfl (je rfl rfl (g_k rfl rfl rfl rfl (g_k rfl rfl rfl rfl ?_)))))))
       refine g_k rfl rfl rfl rfl (j3 rfl rfl rfl (je rfl rfl (g_k rfl rfl rfl rfl (g_k rfl rfl rfl rfl (g_k rfl rfl rfl rfl (j3 rfl rfl rfl (je rfl rfl ?_)))))))
       refine g_k rfl rfl rfl rfl (j3 rfl rfl rfl (jk rfl rfl (jv ?_)))
       obtain rfl := sj hm
       exact jg () (trivial) (sE rfl) (hsE [0, 1, 2, 3, 4, 5, 6, 7, 8] [2, 3, 4, 5] 0 rfl rfl rfl rfl)
     ·intro l_48 hj
      replace hm := h200
      refine ja (jw ?_)
      obtain rfl := sj hm
      refine jm rfl (fun w hh => (.tmp rfl .nil)) (fun w hh => ⟨(), rfl, trivial, hh.se [] [] 2 rfl rfl rfl rfl⟩)
end Go.Proofs.Ws

namespace Go.Proofs.Ws
open Go Go.Fw Go.Gx Go.Sp
set_option linter.unusedVariables false
theorem all_find {n : Nat} {p : Nat → Bool} : (List.range n).all p = ((List.range n).find? fun k => !p k).isNone := by
  rw [Bool.eq_iff_iff, List.all_eq_true, Option.isNone_iff_eq_none, List.find?_eq_none]
  constructor
  · intro h x hx; simp [h x hx]
  · intro h x hx; simpa using h x hx
end Go.Proofs.Ws

namespace Go.Proofs.Ws
open Go Go.Fw Go.Gx Go.Sp
set_option maxRecDepth 100000 in
theorem awake_eq : Qa = some true := by decide +kernel
end Go.Proofs.Ws

namespace Go.Proofs.Ws
open Go Go.Fw Go.Gx Go.Sp
set_option linter.unusedVariables false
def jsC (t0 k0 t k : Nat) : Int := cnt (decide (t = t0 ∧ k = k0))
def msC (s : Scalps) (k0 t k : Nat) : Int := cnt (decide (k = k0) && othB s t k)
theorem cf_stolen (s : Scalps) (t0 : Nat) : CfIs s (fun p => yT p (t0 : Int) s.strips s.carried) (stC s t0) := cf_verd s t0
theorem cf_taken (s : Scalps) (t0 k0 : Nat) : CfIs s (fun p => yd p (t0 : Int) (k0 : Int)) (jsC t0 k0) := fun t k _ _ => by
  refine ⟨?_, (cnt_range _).1, (cnt_range _).2.1⟩
  unfold yd Ku jsC cnt
  simp only [Option.bind_some]
  by_cases h : t = t0 ∧ k = k0
  · obtain ⟨rfl, rfl⟩ := h
    rw [if_pos (decide_eq_true rfl), if_pos (decide_eq_true ⟨rfl, rfl⟩)]
  · rw [if_neg (fun hh => h (of_decide_eq_true hh)), if_neg]
    intro hh
    have := of_decide_eq_true hh
    simp only [Pair.mk.injEq] at this
    exact h ⟨by omega, by omega⟩
theorem cf_missed (s : Scalps) (k0 : Nat) : CfIs s (fun p => q6 p (k0 : Int) s.strips s.carried) (msC s k0) := fun t k _ hk => by
  refine ⟨?_, (cnt_range _).1, (cnt_range _).2.1⟩
  unfold q6 JL msC cnt
  simp only
  by_cases ht : k = k0
  · subst ht
    rw [if_pos rfl, YO hk, Option.bind_some, Option.bind_some, Option.bind_some, decide_eq_true rfl, Bool.true_and]
    split <;> rfl
  · rw [if_neg (by omega), Option.bind_some, Option.bind_some, decide_eq_false ht]; rfl
theorem inb_nat {n : Nat} {t : Nat} : inb (t : Int) 0 ((n : Int) - 1) = decide (t < n) := by
  rw [Bool.eq_iff_iff, inb_iff, decide_eq_true_iff]; omega
theorem Stolen_spec {s : Scalps} (h : Right s) {t : Nat} (ht : t < s.carried.length) : (∃ lo hi, qS s (t : Int) = some ⟨⟨lo, hi⟩, 0⟩ ∧ IsRange s (stC s t) lo hi) ∨ (qS s (t : Int) = some ⟨⟨0, 0⟩, 7⟩ ∧ NoFit s) := by
  obtain ⟨mp, hmp, hm⟩ := k4 h
  have h5 := h.net.c5
  unfold qS Qk
  rw [hmp, Option.bind_some, oc_inr, zy (by omega), Option.bind_some, inb_nat, decide_eq_true ht]
  simp only [Bool.not_true, Bool.false_eq_true, if_false]
  rw [Option.bind_some]
  rcases spread_spec h hm (cf_stolen s t) with ⟨lo, hi, h1, hr⟩ | ⟨h1, hn⟩
  · rw [h1, Option.bind_some]; exact .inl ⟨lo, hi, rfl, hr⟩
  · rw [h1, Option.bind_some]; exact .inr ⟨rfl, hn⟩
theorem Taken_spec {s : Scalps} (h : Right s) {t k : Nat} (ht : t < s.carried.length) (hk : k < s.strips.length) : (∃ lo hi, q7 s (t : Int) (k : Int) = some ⟨⟨lo, hi⟩, 0⟩ ∧ IsRange s (jsC t k) lo hi) ∨ (q7 s (t : Int) (k : Int) = some ⟨⟨0, 0⟩, 7⟩ ∧ NoFit s) := by
  obtain ⟨mp, hmp, hm⟩ := k4 h
  have h5 := h.net.c5; have h6 := h.net.s6
  unfold q7 Qn
  rw [hmp, Option.bind_some, oc_inr, zy (by omega), Option.bind_some, inb_nat, decide_eq_true ht]
  simp only [Bool.not_true, Bool.false_eq_true, if_false]
  rw [Zt (by omega), Option.bind_some, Option.bind_some, inb_nat, decide_eq_true hk]
  simp only [Bool.not_true, Bool.false_eq_true, if_false]
  rw [Option.bind_some]
  rcases spread_spec h hm (cf_taken s t k) with ⟨lo, hi, h1, hr⟩ | ⟨h1, hn⟩
  · rw [h1, Option.bind_some]; exact .inl ⟨lo, hi, rfl, hr⟩
  · rw [h1, Option.bind_some]; exact .inr ⟨rfl, hn⟩
theorem Missed_spec {s : Scalps} (h : Right s) {k : Nat} (hk : k < s.strips.length) : (∃ lo hi, qQ s (k : Int) = some ⟨⟨lo, hi⟩, 0⟩ ∧ IsRange s (msC s k) lo hi) ∨ (qQ s (k : Int) = some ⟨⟨0, 0⟩, 7⟩ ∧ NoFit s) := by
  obtain ⟨mp, hmp, hm⟩ := k4 h
  have h6 := h.net.s6
  unfold qQ Qm
  rw [hmp, Option.bind_some, oc_inr, Zt (by omega), Option.bind_some, inb_nat, decide_eq_true hk]
  simp only [Bool.not_true, Bool.false_eq_true, if_false]
  rw [Option.bind_some]
  rcases spread_spec h hm (cf_missed s k) with ⟨lo, hi, h1, hr⟩ | ⟨h1, hn⟩
  · rw [h1, Option.bind_some]; exact .inl ⟨lo, hi, rfl, hr⟩
  · rw [h1, Option.bind_some]; exact .inr ⟨rfl, hn⟩
end Go.Proofs.Ws

namespace Go.Proofs.Ws
open Go Go.Fw Go.Gx Go.Sp
set_option linter.unusedVariables false
def slack (π : Int → Int) (s : List Int) : Int := sumTo (fun v => gI 0 s (v : Int) - π (v : Int)) 12
end Go.Proofs.Ws

namespace Go.Proofs.Ws
open Go Go.Fw Go.Gx Go.Sp
set_option linter.unusedVariables false
def bsN (ca : List Span) (t : Nat) : Nat := (hOf ca t).hi.toNat + 1
def stepN (ca : List Span) : Nat → Nat
  | 0 => 1
  | t + 1 => stepN ca t * bsN ca t
def digN (ca : List Span) (a t : Nat) : Nat := a / stepN ca t % bsN ca t
theorem stepN_pos (ca : List Span) : ∀ t, 0 < stepN ca t
  | 0 => Nat.one_pos
  | t + 1 => Nat.mul_pos (stepN_pos ca t) (Nat.succ_pos _)
theorem stepN_dvd (ca : List Span) {t : Nat} : ∀ {t'}, t < t' → ∃ m, stepN ca t' = stepN ca t * bsN ca t * m
  | 0, h => by omega
  | t' + 1, h => by
    by_cases he : t = t'
    · subst he; exact ⟨1, by simp [stepN]⟩
    · obtain ⟨m, hm⟩ := stepN_dvd ca (t := t) (t' := t') (by omega)
      exact ⟨m * bsN ca t', by simp only [stepN]; rw [hm, Nat.mul_assoc]⟩
theorem digN_lt (ca : List Span) (a t : Nat) : digN ca a t < bsN ca t := Nat.mod_lt _ (Nat.succ_pos _)
theorem div_add_digit {q n b : Nat} (h : q % b + n < b) : (q + n) / b = q / b ∧ (q + n) % b = q % b + n := by
  have h0 : 0 < b := by omega
  have e : q + n = (q % b + n) + b * (q / b) := by have := Nat.mod_add_div q b; omega
  constructor
  · rw [e, Nat.add_mul_div_left _ _ h0, Nat.div_eq_of_lt h, Nat.zero_add]
  · rw [e, Nat.add_mul_mod_self_left, Nat.mod_eq_of_lt h]
theorem div_up (ca : List Span) {a n t t' : Nat} (ht : t < t') (h : digN ca a t + n < bsN ca t) : (a + n * stepN ca t) / stepN ca t' = a / stepN ca t' := by
  obtain ⟨m, hm⟩ := stepN_dvd ca ht
  unfold digN at h
  rw [hm, ← Nat.div_div_eq_div_mul, ← Nat.div_div_eq_div_mul, Nat.add_mul_div_right _ _ (stepN_pos ca t), (div_add_digit h).1, Nat.div_div_eq_div_mul, Nat.div_div_eq_div_mul, Nat.mul_assoc]
theorem dig_add (ca : List Span) {a n t : Nat} (h : digN ca a t + n < bsN ca t) (t' : Nat) : digN ca (a + n * stepN ca t) t' = if t' = t then digN ca a t + n else digN ca a t' := by
  by_cases he : t' = t
  · subst he
    rw [if_pos rfl]
    unfold digN at h ⊢
    rw [Nat.add_mul_div_right _ _ (stepN_pos ca t'), (div_add_digit h).2]
  · rw [if_neg he]
    unfold digN
    by_cases hlt : t' < t
    · obtain ⟨m, hm⟩ := stepN_dvd ca hlt
      have e : a + n * stepN ca t = a + (n * (bsN ca t' * m)) * stepN ca t' := by
        rw [hm]
        congr 1
        rw [Nat.mul_assoc (stepN ca t'), Nat.mul_comm (stepN ca t'), ← Nat.mul_assoc]
      rw [e, Nat.add_mul_div_right _ _ (stepN_pos ca t'), show n * (bsN ca t' * m) = bsN ca t' * (n * m) by rw [Nat.mul_left_comm], Nat.add_mul_mod_self_left]
    · rw [div_up ca (by omega) h]
theorem at_up (ca : List Span) {a n t T : Nat} (hT : t < T) (ha : a < stepN ca T) (h : digN ca a t + n < bsN ca t) : a + n * stepN ca t < stepN ca T := by
  have h1 := div_up ca hT h
  rw [Nat.div_eq_of_lt ha] at h1
  exact (Nat.div_eq_zero_iff.1 h1).resolve_left (by have := stepN_pos ca T; omega)
theorem dig_zero (ca : List Span) (t : Nat) : digN ca 0 t = 0 := by unfold digN; simp
end Go.Proofs.Ws

namespace Go.Proofs.Ws
open Go Go.Fw Go.Gx Go.Sp
set_option linter.unusedVariables false
def gtB (l : List Bool) (j : Nat) : Bool := l.getD j false
structure BookOK (P : Nat → Int → Prop) (N : Nat) (b : Book) : Prop where
  l1 : b.can.length = N
  l2 : b.least.length = N
  l3 : b.most.length = N
  can : ∀ a, a < N → (gtB b.can a = true ↔ ∃ v, P a v)
  bd : ∀ a v, a < N → P a v → gtI b.least a ≤ v ∧ v ≤ gtI b.most a
  ends : ∀ a, a < N → gtB b.can a = true → P a (gtI b.least a) ∧ P a (gtI b.most a)
theorem BookOK.congr {P P' : Nat → Int → Prop} {N : Nat} {b : Book} (h : BookOK P N b) (hp : ∀ a v, a < N → (P a v ↔ P' a v)) : BookOK P' N b :=
  ⟨h.l1, h.l2, h.l3, fun a ha => (h.can a ha).trans ⟨fun ⟨v, hv⟩ => ⟨v, (hp a v ha).1 hv⟩, fun ⟨v, hv⟩ => ⟨v, (hp a v ha).2 hv⟩⟩, fun a v ha hv => h.bd a v ha ((hp a v ha).2 hv), fun a ha hc => ⟨(hp a _ ha).1 (h.ends a ha hc).1, (hp a _ ha).1 (h.ends a ha hc).2⟩⟩
theorem gtB_set {l : List Bool} {a x : Nat} {v : Bool} (ha : a < l.length) : gtB (l.set a v) x = if x = a then v else gtB l x := by
  unfold gtB
  rw [List.getD_eq_getElem?_getD, List.getD_eq_getElem?_getD, List.getElem?_set]
  by_cases h : a = x
  · subst h; rw [if_pos rfl, if_pos ha, if_pos rfl]; rfl
  · rw [if_neg h, if_neg (fun e => h e.symm)]
theorem gtI_set {l : List Int} {a x : Nat} {v : Int} (ha : a < l.length) : gtI (l.set a v) x = if x = a then v else gtI l x := by
  unfold gtI
  rw [List.getD_eq_getElem?_getD, List.getD_eq_getElem?_getD, List.getElem?_set]
  by_cases h : a = x
  · subst h; rw [if_pos rfl, if_pos ha, if_pos rfl]; rfl
  · rw [if_neg h, if_neg (fun e => h e.symm)]
theorem enter_spec {P : Nat → Int → Prop} {N : Nat} {b : Book} (h : BookOK P N b) {a : Nat} (ha : a < N) {lo hi : Int} {Q : Int → Prop} (q1 : Q lo) (q2 : Q hi) (q3 : ∀ v, Q v → lo ≤ v ∧ v ≤ hi) :
    ∃ r, Jt b (a : Int) lo hi = some r ∧ BookOK (fun x v => P x v ∨ (x = a ∧ Q v)) N ⟨r.b0_can, r.b0_least, r.b0_most⟩ := by
  have l1 := h.l1; have l2 := h.l2; have l3 := h.l3
  unfold Jt
  rw [ix_nat false (by omega), Option.bind_some, show Int.toNat (a : Int) = a by omega]
  by_cases hc : gtB b.can a = true
  · have hc' : b.can.getD a false = true := hc
    rw [hc', if_neg (by simp), Option.bind_some]
    dsimp only
    rw [ix_nat 0 (by omega), Option.bind_some, Option.bind_some, Option.bind_some, ix_nat 0 (by omega), Option.bind_some, Option.bind_some, Option.bind_some]
    obtain ⟨e1, e2⟩ := h.ends a ha hc
    refine ⟨_, rfl, ⟨l1, by simp only; rw [List.length_set]; exact l2, by simp only; rw [List.length_set]; exact l3, fun x hx => ?_, fun x v hx hv => ?_, fun x hx hxc => ?_⟩⟩
    · simp only
      rw [h.can x hx]
      constructor
      · rintro ⟨v, hv⟩; exact ⟨v, .inl hv⟩
      · rintro ⟨v, hv | ⟨rfl, hv⟩⟩
        · exact ⟨v, hv⟩
        · exact (h.can x hx).1 hc
    · simp only
      rw [gtI_set (by omega), gtI_set (by omega)]
      by_cases hxa : x = a
      · subst hxa
        rw [if_pos rfl, if_pos rfl]
        show min (gtI b.least x) lo ≤ v ∧ v ≤ max (gtI b.most x) hi
        rcases hv with hv | ⟨_, hv⟩
        · have := h.bd x v hx hv; omega
        · have := q3 v hv; omega
      · rw [if_neg hxa, if_neg hxa]
        rcases hv with hv | ⟨rfl, _⟩
        · exact h.bd x v hx hv
        · exact absurd rfl hxa
    · simp only at hxc ⊢
      rw [gtI_set (by omega), gtI_set (by omega)]
      by_cases hxa : x = a
      · subst hxa
        rw [if_pos rfl, if_pos rfl]
        show (P x (min (gtI b.least x) lo) ∨ (x = x ∧ Q (min (gtI b.least x) lo))) ∧ (P x (max (gtI b.most x) hi) ∨ (x = x ∧ Q (max (gtI b.most x) hi)))
        constructor
        · by_cases hm : gtI b.least x ≤ lo
          · rw [Int.min_eq_left hm]; exact .inl e1
          · rw [Int.min_eq_right (by omega)]; exact .inr ⟨rfl, q1⟩
        · by_cases hm : hi ≤ gtI b.most x
          · rw [Int.max_eq_left hm]; exact .inl e2
          · rw [Int.max_eq_right (by omega)]; exact .inr ⟨rfl, q2⟩
      · rw [if_neg hxa, if_neg hxa]
        obtain ⟨f1, f2⟩ := h.ends x hx hxc
        exact ⟨.inl f1, .inl f2⟩
  · have hc' : b.can.getD a false = false := by
      cases hg : b.can.getD a false with
      | false => rfl
      | true => exact absurd hg hc
    have hnP : ∀ v, ¬ P a v := fun v hv => hc ((h.can a ha).2 ⟨v, hv⟩)
    rw [hc', if_pos (show (!false) = true from rfl), Option.bind_some, Option.bind_some, ix_nat 0 (by omega), Option.bind_some, Option.bind_some, ix_nat 0 (by omega), Option.bind_some, Option.bind_some, Option.bind_some]
    dsimp only
    rw [ix_nat 0 (by rw [List.length_set]; omega), Option.bind_some, Option.bind_some, Option.bind_some, ix_nat 0 (by rw [List.length_set]; omega), Option.bind_some, Option.bind_some, Option.bind_some]
    have g1 : (b.least.set a lo).getD a 0 = lo := by
      have := gtI_set (l := b.least) (a := a) (x := a) (v := lo) (by omega)
      rw [if_pos rfl] at this; exact this
    have g2 : (b.most.set a hi).getD a 0 = hi := by
      have := gtI_set (l := b.most) (a := a) (x := a) (v := hi) (by omega)
      rw [if_pos rfl] at this; exact this
    have m1 : min lo lo = lo := by omega
    have m2 : max hi hi = hi := by omega
    rw [g1, g2, List.set_set, List.set_set, m1, m2]
    refine ⟨_, rfl, ⟨by simp only; rw [List.length_set]; exact l1, by simp only; rw [List.length_set]; exact l2, by simp only; rw [List.length_set]; exact l3, fun x hx => ?_, fun x v hx hv => ?_, fun x hx hxc => ?_⟩⟩
    · simp only
      rw [gtB_set (by omega)]
      by_cases hxa : x = a
      · subst hxa
        rw [if_pos rfl]
        exact ⟨fun _ => ⟨lo, .inr ⟨rfl, q1⟩⟩, fun _ => rfl⟩
      · rw [if_neg hxa, h.can x hx]
        constructor
        · rintro ⟨v, hv⟩; exact ⟨v, .inl hv⟩
        · rintro ⟨v, hv | ⟨rfl, hv⟩⟩
          · exact ⟨v, hv⟩
          · exact absurd rfl hxa
    · simp only
      rw [gtI_set (by omega), gtI_set (by omega)]
      by_cases hxa : x = a
      · subst hxa
        rw [if_pos rfl, if_pos rfl]
        rcases hv with hv | ⟨_, hv⟩
        · exact absurd hv (hnP v)
        · exact q3 v hv
      · rw [if_neg hxa, if_neg hxa]
        rcases hv with hv | ⟨rfl, _⟩
        · exact h.bd x v hx hv
        · exact absurd rfl hxa
    · simp only at hxc ⊢
      rw [gtI_set (by omega), gtI_set (by omega)]
      rw [gtB_set (by omega)] at hxc
      by_cases hxa : x = a
      · subst hxa
        rw [if_pos rfl, if_pos rfl]
        exact ⟨.inr ⟨rfl, q1⟩, .inr ⟨rfl, q2⟩⟩
      · rw [if_neg hxa] at hxc
        rw [if_neg hxa, if_neg hxa]
        obtain ⟨f1, f2⟩ := h.ends x hx hxc
        exact ⟨.inl f1, .inl f2⟩
end Go.Proofs.Ws

namespace Go.Proofs.Ws
open Go Go.Fw Go.Gx Go.Sp
set_option linter.unusedVariables false
def sFrom (f : Nat → Int) : Nat → Nat → Int
  | _, 0 => 0
  | t, d + 1 => f t + sFrom f (t + 1) d
theorem sFrom_congr {f g : Nat → Int} : ∀ {d t : Nat}, (∀ i, t ≤ i → i < t + d → f i = g i) → sFrom f t d = sFrom g t d
  | 0, t, _ => rfl
  | d + 1, t, h => by
    simp only [sFrom]
    rw [h t (Nat.le_refl _) (by omega), sFrom_congr (d := d) (t := t + 1) (fun i h1 h2 => h i (by omega) (by omega))]
theorem sFrom_nonneg {f : Nat → Int} : ∀ {d t : Nat}, (∀ i, t ≤ i → i < t + d → 0 ≤ f i) → 0 ≤ sFrom f t d
  | 0, t, _ => Int.le_refl _
  | d + 1, t, h => by
    simp only [sFrom]
    have := h t (Nat.le_refl _) (by omega)
    have := sFrom_nonneg (f := f) (d := d) (t := t + 1) (fun i h1 h2 => h i (by omega) (by omega))
    omega
theorem refGone_eq {s : Scalps} (h : Right s) {k : Nat} (hk : k < s.strips.length) : QA s (k : Int) = some (gOf s.strips k) := by
  have hx : s.strips.getD k default = s.strips[k] := by simp [List.getD_eq_getElem?_getD, hk]
  obtain ⟨b1, b2, b3, b4⟩ := h.net.sp _ (List.getElem_mem hk)
  unfold QA gOf goneP
  unfold In30 at *
  rw [ix_nat default hk, Option.bind_some, hx, addc_eq (by omega), Option.bind_some, subc_eq (by omega), Option.bind_some, addc_eq (by omega), Option.bind_some, subc_eq (by omega), Option.bind_some]
theorem refReaches_eq {s : Scalps} (h6 : s.strips.length ≤ 1000) {t k : Nat} (hk : k < s.strips.length) : JC s (t : Int) (k : Int) = some (reachB s.strips t k) := by
  unfold JC
  rw [subc_eq (by omega), Option.bind_some]
  have hst : max (0 : Int) ((k : Int) - 1) = ((k - 1 : Nat) : Int) := by omega
  rw [hst]
  generalize hlo : k - 1 = lo
  have key := iterM_any (f := yL (k : Int) s (t : Int)) (lo : Int) (min (k + 1) (s.strips.length - 1) + 1 - lo) (fun j => decide ((s.strips.getD (lo + j) default).tenant = (t : Int))) (fun _ => true) (fun j hj => ?_) ?_ (N := FU) (FU_lt (by omega))
  · rw [key, Option.bind_some]
    have hany : reachB s.strips t k = ((List.range (min (k + 1) (s.strips.length - 1) + 1 - lo)).find? fun j => decide ((s.strips.getD (lo + j) default).tenant = (t : Int))).isSome := by
      unfold reachB
      rw [Bool.eq_iff_iff, List.any_eq_true, List.find?_isSome]
      constructor
      · rintro ⟨j, hj, hb⟩
        have hj' := List.mem_range.1 hj
        obtain ⟨b1, b2, b3⟩ := of_decide_eq_true hb
        refine ⟨j - lo, List.mem_range.2 (by omega), decide_eq_true ?_⟩
        rw [show lo + (j - lo) = j by omega]; exact b3
      · rintro ⟨j, hj, hb⟩
        have hj' := List.mem_range.1 hj
        exact ⟨lo + j, List.mem_range.2 (by omega), decide_eq_true ⟨by omega, by omega, of_decide_eq_true hb⟩⟩
    rw [hany]
    cases (List.range (min (k + 1) (s.strips.length - 1) + 1 - lo)).find? (fun j => decide ((s.strips.getD (lo + j) default).tenant = (t : Int))) <;> rfl
  · unfold yL
    rw [addc_eq (by omega), Option.bind_some, subc_eq (by omega), Option.bind_some, if_pos (by omega), show (lo : Int) + (j : Int) = ((lo + j : Nat) : Int) by omega, ix_nat default (by omega), Option.bind_some]
    by_cases ht : (s.strips.getD (lo + j) default).tenant = (t : Int)
    · rw [if_pos ht, if_pos (decide_eq_true ht)]
    · rw [if_neg ht, if_neg (fun hh => ht (of_decide_eq_true hh)), addc_eq (by omega), Option.bind_some]
  · unfold yL
    rw [addc_eq (by omega), Option.bind_some, subc_eq (by omega), Option.bind_some, if_neg (by omega)]
structure ColOK (s : Scalps) (k src t d : Nat) (taken : Int) (n : Nat → Int) : Prop where
  each : ∀ i, t ≤ i → i < t + d → 0 ≤ n i ∧ (0 < n i → reachB s.strips i k = true) ∧ (digN s.carried src i : Int) + n i ≤ (hOf s.carried i).hi
  lo : (gOf s.strips k).lo ≤ taken + sFrom n t d
  hi : taken + sFrom n t d ≤ (gOf s.strips k).hi
def TakeP (P : Nat → Int → Prop) (s : Scalps) (k src t d a : Nat) (taken : Int) (cS : Nat → Int) (Q : Int → Prop) (x : Nat) (v : Int) : Prop :=
  P x v ∨ ∃ n, ColOK s k src t d taken n ∧ (x : Int) = (a : Int) + sFrom (fun i => n i * (stepN s.carried i : Int)) t d ∧ ∃ v0, Q v0 ∧ v = v0 + sFrom (fun i => cS i * n i) t d
theorem bs_eq {s : Scalps} (h : Right s) {t : Nat} (ht : t < s.carried.length) : (hOf s.carried t).hi + 1 = (bsN s.carried t : Int) := by
  have := hOf_ok h.net ht
  unfold bsN; omega
theorem take_spec {s : Scalps} (h : Right s) {k : Nat} (hk : k < s.strips.length) {N : Nat} (hN : N = stepN s.carried s.carried.length) (hN5 : N ≤ 100000) {cb : List (List Bool)} {bt : Nat → Bool} (hcb : ∀ t, t < s.carried.length → ∃ row, ix cb (t : Int) = some row ∧ ix row (k : Int) = some (bt t)) {src : Nat} (hsrc : src < N) :
    ∀ (d t fuel a : Nat) (rest taken lo hi : Int) (Q : Int → Prop) (P : Nat → Int → Prop) (nb : Book), t + d = s.carried.length → d < fuel → a < N → (∀ i, t ≤ i → digN s.carried a i = digN s.carried src i) → rest = ((src / stepN s.carried t : Nat) : Int) → 0 ≤ taken → taken ≤ (gOf s.strips k).hi → Q lo → Q hi → (∀ v, Q v → lo ≤ v ∧ v ≤ hi) → 0 ≤ lo → hi + 100 * (d : Int) ≤ 1000000 → BookOK P N nb →
      ∃ r, kW fuel s cb (k : Int) (t : Int) (a : Int) rest taken lo hi nb = some r ∧ BookOK (TakeP P s k src t d a taken (fun i => cnt (bt i)) Q) N ⟨r.next9_can, r.next9_least, r.next9_most⟩
  | 0, t, fuel, a, rest, taken, lo, hi, Q, P, nb, htd, hf, ha, hdig, hrest, ht0, hth, q1, q2, q3, hlo, hhi, hB => by
    obtain ⟨fu, rfl⟩ : ∃ fu, fuel = fu + 1 := ⟨fuel - 1, by omega⟩
    unfold kW z9
    rw [refGone_eq h hk, Option.bind_some, if_pos (by omega)]
    have hcol : ∀ x v, x < N → ((P x v ∨ ((gOf s.strips k).lo ≤ taken ∧ x = a ∧ Q v)) ↔ TakeP P s k src t 0 a taken (fun i => cnt (bt i)) Q x v) := fun x v hx => by
      unfold TakeP
      constructor
      · rintro (hp | ⟨h1, rfl, hq⟩)
        · exact .inl hp
        · exact .inr ⟨fun _ => 0, ⟨fun i h2 h3 => by omega, by simp only [sFrom]; omega, by simp only [sFrom]; omega⟩, by simp [sFrom], v, hq, by simp [sFrom]⟩
      · rintro (hp | ⟨n, hc, hx2, v0, hq, hv⟩)
        · exact .inl hp
        · have c1 := hc.lo
          simp only [sFrom] at c1 hx2 hv
          refine .inr ⟨by omega, by omega, ?_⟩
          rw [show v = v0 by omega]; exact hq
    by_cases hg : (gOf s.strips k).lo ≤ taken
    · rw [if_pos hg]
      obtain ⟨r, hr, hb⟩ := enter_spec hB ha q1 q2 q3
      rw [hr, Option.bind_some, Option.bind_some]
      refine ⟨_, rfl, hb.congr fun x v hx => ?_⟩
      rw [← hcol x v hx]
      exact ⟨fun hh => hh.elim .inl (fun ⟨a1, a2⟩ => .inr ⟨hg, a1, a2⟩), fun hh => hh.elim .inl (fun ⟨_, a1, a2⟩ => .inr ⟨a1, a2⟩)⟩
    · rw [if_neg hg, Option.bind_some]
      refine ⟨_, rfl, hB.congr fun x v hx => ?_⟩
      rw [← hcol x v hx]
      exact ⟨.inl, fun hh => hh.elim id (fun ⟨a1, _⟩ => absurd a1 hg)⟩
  | d + 1, t, fuel, a, rest, taken, lo, hi, Q, P, nb, htd, hf, ha, hdig, hrest, ht0, hth, q1, q2, q3, hlo, hhi, hB => by
    obtain ⟨fu, rfl⟩ : ∃ fu, fuel = fu + 1 := ⟨fuel - 1, by omega⟩
    have ht : t < s.carried.length := by omega
    have h5 := h.net.c5; have h6 := h.net.s6
    have hho := hOf_ok h.net ht
    have hgo := gOf_ok h.net hk
    have hbs := bs_eq h ht
    have hbp := stepN_pos s.carried t
    have hlh := q3 lo q1
    have hlh2 := q3 hi q2
    unfold kW z9
    rw [refGone_eq h hk, Option.bind_some, if_neg (by omega)]
    have hstepN : ∀ i, i ≤ s.carried.length → stepN s.carried i ≤ N := fun i hi => by
      by_cases he : i = s.carried.length
      · rw [he, hN]; exact Nat.le_refl _
      · obtain ⟨m, hm⟩ := stepN_dvd s.carried (show i < s.carried.length by omega)
        have hm0 : 0 < m := by
          rcases Nat.eq_zero_or_pos m with hz | hz
          · have := stepN_pos s.carried s.carried.length
            rw [hm, hz] at this; simp at this
          · exact hz
        rw [hN, hm, Nat.mul_assoc]
        exact Nat.le_mul_of_pos_right _ (Nat.mul_pos (Nat.succ_pos _) hm0)
    have k0 : iterM FU (ym (t : Int) s) ⟨1, 0⟩ = some (stepN s.carried t : Int) := by
      have key := iterM_run (f := ym (t : Int) s) (fun i => ⟨(stepN s.carried i : Int), (i : Int)⟩) t (b := (stepN s.carried t : Int)) (fun i hi => ?_) ?_ FU (FU_lt (by omega))
      · exact key
      · unfold ym
        have hit : i < s.carried.length := by omega
        have hb2 := bs_eq h hit
        have hoi := hOf_ok h.net hit
        have hle := hstepN (i + 1) (by omega)
        have e : (stepN s.carried i : Int) * (bsN s.carried i : Int) = (stepN s.carried (i + 1) : Int) := by simp [stepN]
        simp only
        unfold hOf at hb2 hoi
        rw [if_pos (by omega), ix_nat default hit, Option.bind_some, addc_eq (by omega), Option.bind_some, hb2, mulc_eq (by rw [e]; omega), Option.bind_some, addc_eq (by omega), Option.bind_some, e]
        rfl
      · unfold ym
        simp
    rw [k0, Option.bind_some]
    have hca : ix s.carried (t : Int) = some (hOf s.carried t) := ix_nat default ht
    have hsrcq : src / stepN s.carried t ≤ src := Nat.div_le_self _ _
    have hrem : (((src / stepN s.carried t : Nat) : Int)).tmod (bsN s.carried t : Int) = (digN s.carried src t : Int) := by
      unfold digN; rw [Int.ofNat_tmod]
    have hquo : (((src / stepN s.carried t : Nat) : Int)).tdiv (bsN s.carried t : Int) = ((src / stepN s.carried (t + 1) : Nat) : Int) := by
      rw [show stepN s.carried (t + 1) = stepN s.carried t * bsN s.carried t from rfl, ← Nat.div_div_eq_div_mul]; exact (Int.ofNat_tdiv _ _).symm
    have hqle : src / stepN s.carried (t + 1) ≤ src := Nat.div_le_self _ _
    have hbpos : 0 < bsN s.carried t := Nat.succ_pos _
    have hq0 : (0 : Int) ≤ ((src / stepN s.carried (t + 1) : Nat) : Int) := Int.natCast_nonneg _
    have hq1 : ((src / stepN s.carried (t + 1) : Nat) : Int) ≤ (src : Int) := Int.ofNat_le.2 hqle
    rw [hca, Option.bind_some, addc_eq (by omega), Option.bind_some, hrest, hbs, remc_eq (by omega), Option.bind_some, Option.bind_some, addc_eq (by omega), Option.bind_some, hbs, quoc_eq (by omega) (by rw [hquo]; omega), Option.bind_some, hrem, hquo, refReaches_eq (by omega) hk, Option.bind_some]
    have hdl := digN_lt s.carried src t
    obtain ⟨room, hroom, hr0, hr1, hr2⟩ : ∃ room : Int, (if reachB s.strips t k = true then ((some (hOf s.carried t) : Option Span).bind fun t83 => (subc t83.hi (digN s.carried src t : Int)).bind fun t87 => (subc (gOf s.strips k).hi taken).bind fun t91 => some (min t87 t91)) else some 0) = some room ∧ 0 ≤ room ∧ (room ≤ 30 ∧ (digN s.carried src t : Int) + room ≤ (hOf s.carried t).hi ∧ taken + room ≤ (gOf s.strips k).hi) ∧ ∀ n : Int, 0 ≤ n → (0 < n → reachB s.strips t k = true) → (digN s.carried src t : Int) + n ≤ (hOf s.carried t).hi → taken + n ≤ (gOf s.strips k).hi → n ≤ room := by
      by_cases hre : reachB s.strips t k = true
      · rw [if_pos hre, Option.bind_some, subc_eq (by omega), Option.bind_some, subc_eq (by omega), Option.bind_some]
        exact ⟨_, rfl, by omega, by omega, fun n _ _ _ _ => by omega⟩
      · rw [if_neg hre]
        exact ⟨0, rfl, by omega, by omega, fun n h1 h2 _ _ => by
          by_cases h3 : 0 < n
          · exact absurd (h2 h3) hre
          · omega⟩
    rw [hroom, Option.bind_some]
    have hreach0 : ∀ n : Int, 0 < n → n ≤ room → reachB s.strips t k = true := fun n h1 h2 => by
      by_cases hre : reachB s.strips t k = true
      · exact hre
      · rw [if_neg hre] at hroom
        have := Option.some.inj hroom
        omega
    have key : ∃ o, iterM FU (zb room cb (t : Int) (k : Int) (stepN s.carried t : Int) (a : Int) taken lo hi (kW fu) s ((src / stepN s.carried (t + 1) : Nat) : Int)) ⟨0, nb.can, nb.least, nb.most⟩ = some o ∧ BookOK (TakeP P s k src t (d + 1) a taken (fun i => cnt (bt i)) Q) N ⟨o.next9_can, o.next9_least, o.next9_most⟩ := by
      refine iterM_inv (f := zb room cb (t : Int) (k : Int) (stepN s.carried t : Int) (a : Int) taken lo hi (kW fu) s ((src / stepN s.carried (t + 1) : Nat) : Int)) (fun z => ∃ j : Nat, z.n25 = (j : Int) ∧ (j : Int) ≤ room + 1 ∧ BookOK (fun x v => P x v ∨ ∃ n, (ColOK s k src t (d + 1) taken n ∧ n t < (j : Int)) ∧ (x : Int) = (a : Int) + sFrom (fun i => n i * (stepN s.carried i : Int)) t (d + 1) ∧ ∃ v0, Q v0 ∧ v = v0 + sFrom (fun i => cnt (bt i) * n i) t (d + 1)) N ⟨z.next9_can, z.next9_least, z.next9_most⟩) (fun z => (room + 1 - z.n25).toNat) _ (fun z hz => ?_) FU _ (FU_lt (by simp only; omega)) ⟨0, rfl, by omega, hB.congr fun x v hx => ⟨.inl, fun hh => hh.elim id (fun ⟨n, ⟨hc, hn⟩, _⟩ => by have := (hc.each t (Nat.le_refl _) (by omega)).1; omega)⟩⟩
      obtain ⟨j, hj, hjr, hbk⟩ := hz
      unfold zb
      rw [hj]
      by_cases hlt : (j : Int) ≤ room
      · left
        rw [if_pos hlt]
        obtain ⟨row, e1, e2⟩ := hcb t ht
        have hone : (if bt t = true then (some (j : Int) : Option Int) else some 0) = some (cnt (bt t) * (j : Int)) := by
          unfold cnt; split <;> simp
        have hc01 := cnt_range (bt t)
        have hcj : 0 ≤ cnt (bt t) * (j : Int) ∧ cnt (bt t) * (j : Int) ≤ 30 := by unfold cnt; split <;> omega
        have hdj : digN s.carried a t + j < bsN s.carried t := by
          rw [hdig t (Nat.le_refl _)]
          omega
        have hup := at_up s.carried (T := s.carried.length) ht (by rw [← hN]; exact ha) hdj
        rw [← hN] at hup
        have hmul : (j : Int) * (stepN s.carried t : Int) = ((j * stepN s.carried t : Nat) : Int) := by push_cast; rfl
        rw [e1, Option.bind_some, e2, Option.bind_some, hone, Option.bind_some, addc_eq (by omega), Option.bind_some, mulc_eq (by rw [hmul]; omega), Option.bind_some, hmul, addc_eq (by omega), Option.bind_some, addc_eq (by omega), Option.bind_some, addc_eq (by omega), Option.bind_some, addc_eq (by omega), Option.bind_some]
        have hrec := take_spec h hk hN hN5 hcb hsrc d (t + 1) fu (a + j * stepN s.carried t) ((src / stepN s.carried (t + 1) : Nat) : Int) (taken + (j : Int)) (lo + cnt (bt t) * (j : Int)) (hi + cnt (bt t) * (j : Int)) (fun v => ∃ v0, Q v0 ∧ v = v0 + cnt (bt t) * (j : Int)) _ ⟨z.next9_can, z.next9_least, z.next9_most⟩ (by omega) (by omega) hup (fun i hi => by
          rw [dig_add s.carried hdj, if_neg (by omega)]; exact hdig i (by omega)) rfl (by omega) (by omega) ⟨lo, q1, rfl⟩ ⟨hi, q2, rfl⟩ (fun v ⟨v0, hv0, hv⟩ => by have := q3 v0 hv0; omega) (by omega) (by push_cast at hhi; omega) hbk
        obtain ⟨r, hr, hb⟩ := hrec
        have hr' : kW fu s cb (k : Int) ((t : Int) + 1) ((a : Int) + ((j * stepN s.carried t : Nat) : Int)) ((src / stepN s.carried (t + 1) : Nat) : Int) (taken + (j : Int)) (lo + cnt (bt t) * (j : Int)) (hi + cnt (bt t) * (j : Int)) ⟨z.next9_can, z.next9_least, z.next9_most⟩ = some r := by
          rw [← hr]; push_cast; rfl
        rw [hr', Option.bind_some, addc_eq (by omega), Option.bind_some]
        refine ⟨_, rfl, ⟨j + 1, by push_cast; rfl, by push_cast; omega, hb.congr fun x v hx => ?_⟩, by simp only; omega⟩
        unfold TakeP
        constructor
        · rintro ((hp | ⟨n, ⟨hc, hn⟩, hrst⟩) | ⟨n, hc, hx2, v1, ⟨v0, hq, hv1⟩, hv⟩)
          · exact .inl hp
          · exact .inr ⟨n, ⟨hc, by push_cast; omega⟩, hrst⟩
          · refine .inr ⟨fun i => if i = t then (j : Int) else n i, ⟨⟨fun i h1 h2 => ?_, ?_, ?_⟩, ?_⟩, ?_, v0, hq, ?_⟩
            · by_cases hit : i = t
              · subst hit
                simp only [if_true]
                refine ⟨by omega, fun h3 => hreach0 _ h3 hlt, by omega⟩
              · simp only [hit, if_false]
                exact hc.each i (by omega) (by omega)
            · have e : sFrom (fun i => if i = t then (j : Int) else n i) (t + 1) d = sFrom n (t + 1) d := sFrom_congr fun i h1 _ => by rw [if_neg (by omega)]
              have := hc.lo
              simp only [sFrom, if_true]
              rw [e]; omega
            · have e : sFrom (fun i => if i = t then (j : Int) else n i) (t + 1) d = sFrom n (t + 1) d := sFrom_congr fun i h1 _ => by rw [if_neg (by omega)]
              have := hc.hi
              simp only [sFrom, if_true]
              rw [e]; omega
            · simp only [if_true]; push_cast; omega
            · have e : sFrom (fun i => (if i = t then (j : Int) else n i) * (stepN s.carried i : Int)) (t + 1) d = sFrom (fun i => n i * (stepN s.carried i : Int)) (t + 1) d := sFrom_congr fun i h1 _ => by rw [if_neg (by omega)]
              simp only [sFrom, if_true]
              rw [e, hx2]; push_cast; omega
            · have e : sFrom (fun i => cnt (bt i) * (if i = t then (j : Int) else n i)) (t + 1) d = sFrom (fun i => cnt (bt i) * n i) (t + 1) d := sFrom_congr fun i h1 _ => by rw [if_neg (by omega)]
              simp only [sFrom, if_true]
              try dsimp only at hv hv1
              rw [e, hv, hv1]; omega
        · rintro (hp | ⟨n, ⟨hc, hn⟩, hx2, v0, hq, hv⟩)
          · exact .inl (.inl hp)
          · by_cases hnj : n t < (j : Int)
            · exact .inl (.inr ⟨n, ⟨hc, hnj⟩, hx2, v0, hq, hv⟩)
            · have hne : n t = (j : Int) := by push_cast at hn; omega
              simp only [sFrom] at hx2 hv
              have c1 := hc.lo
              have c2 := hc.hi
              simp only [sFrom] at c1 c2
              rw [hne] at hx2 hv c1 c2
              refine .inr ⟨n, ⟨fun i h1 h2 => hc.each i (by omega) (by omega), by omega, by omega⟩, ?_, v0 + cnt (bt t) * (j : Int), ⟨v0, hq, rfl⟩, ?_⟩
              · rw [hx2]; push_cast; omega
              · try dsimp only
                try dsimp only at hv
                rw [hv]; omega
      · right
        rw [if_neg hlt]
        refine ⟨_, rfl, hbk.congr fun x v hx => ?_⟩
        unfold TakeP
        constructor
        · rintro (hp | ⟨n, ⟨hc, _⟩, hrst⟩)
          · exact .inl hp
          · exact .inr ⟨n, hc, hrst⟩
        · rintro (hp | ⟨n, hc, hrst⟩)
          · exact .inl hp
          · refine .inr ⟨n, ⟨hc, ?_⟩, hrst⟩
            have e := hc.each t (Nat.le_refl _) (by omega)
            have hnn : 0 ≤ sFrom n (t + 1) d := sFrom_nonneg fun i h1 h2 => (hc.each i (by omega) (by omega)).1
            have c2 := hc.hi
            simp only [sFrom] at c2
            have := hr2 (n t) e.1 e.2.1 e.2.2 (by omega)
            omega
    obtain ⟨o, ho, hb⟩ := key
    rw [ho, Option.bind_some]
    exact ⟨_, rfl, hb⟩
end Go.Proofs.Ws

namespace Go.Proofs.Ws
open Go Go.Fw Go.Gx Go.Sp
set_option linter.unusedVariables false
def valN (ca : List Span) (f : Nat → Nat) : Nat → Nat
  | 0 => 0
  | t + 1 => valN ca f t + f t * stepN ca t
theorem stepN_mono (ca : List Span) {t T : Nat} (h : t ≤ T) : stepN ca t ≤ stepN ca T := by
  by_cases he : t = T
  · rw [he]; exact Nat.le_refl _
  · obtain ⟨m, hm⟩ := stepN_dvd ca (show t < T by omega)
    have hm0 : 0 < m := by
      rcases Nat.eq_zero_or_pos m with hz | hz
      · have := stepN_pos ca T
        rw [hm, hz] at this; simp at this
      · exact hz
    rw [hm, Nat.mul_assoc]
    exact Nat.le_mul_of_pos_right _ (Nat.mul_pos (Nat.succ_pos _) hm0)
theorem dig_big (ca : List Span) {a t : Nat} (h : a < stepN ca t) : digN ca a t = 0 := by
  unfold digN
  rw [Nat.div_eq_of_lt h, Nat.zero_mod]
theorem valN_lt (ca : List Span) {f : Nat → Nat} : ∀ {T : Nat}, (∀ i, i < T → f i < bsN ca i) → valN ca f T < stepN ca T
  | 0, _ => by simp [valN, stepN]
  | T + 1, h => by
    have ih := valN_lt ca (f := f) (T := T) (fun i hi => h i (by omega))
    have hT := h T (Nat.lt_succ_self _)
    simp only [valN, stepN]
    have h1 : f T * stepN ca T + stepN ca T ≤ bsN ca T * stepN ca T := by
      rw [← Nat.succ_mul]; exact Nat.mul_le_mul_right _ hT
    rw [Nat.mul_comm (stepN ca T)]
    omega
theorem valN_dig (ca : List Span) {f : Nat → Nat} : ∀ {T : Nat}, (∀ i, i < T → f i < bsN ca i) → ∀ i, i < T → digN ca (valN ca f T) i = f i
  | 0, _, i, hi => by omega
  | T + 1, h, i, hi => by
    have hb := valN_lt ca (f := f) (T := T) (fun i hi => h i (by omega))
    have h0 := dig_big ca hb
    have hd : digN ca (valN ca f T) T + f T < bsN ca T := by rw [h0, Nat.zero_add]; exact h T (Nat.lt_succ_self _)
    simp only [valN]
    rw [dig_add ca hd]
    by_cases he : i = T
    · subst he; rw [if_pos rfl, h0, Nat.zero_add]
    · rw [if_neg he]
      exact valN_dig ca (fun i hi => h i (by omega)) i (by omega)
theorem dig_val (ca : List Span) {a : Nat} : ∀ {T : Nat}, a % stepN ca T = valN ca (digN ca a) T
  | 0 => by simp [stepN, valN, Nat.mod_one]
  | T + 1 => by
    simp only [stepN, valN]
    rw [Nat.mod_mul, dig_val (T := T)]
    unfold digN
    rw [Nat.mul_comm (stepN ca T)]
theorem dig_val_lt (ca : List Span) {a T : Nat} (h : a < stepN ca T) : a = valN ca (digN ca a) T := by
  rw [← dig_val, Nat.mod_eq_of_lt h]
theorem valN_congr (ca : List Span) {f g : Nat → Nat} : ∀ {T : Nat}, (∀ i, i < T → f i = g i) → valN ca f T = valN ca g T
  | 0, _ => rfl
  | T + 1, h => by
    simp only [valN]
    rw [h T (Nat.lt_succ_self _), valN_congr ca (fun i hi => h i (by omega))]
theorem valN_add (ca : List Span) (f g : Nat → Nat) : ∀ T, valN ca (fun i => f i + g i) T = valN ca f T + valN ca g T
  | 0 => rfl
  | T + 1 => by simp only [valN]; rw [valN_add ca f g T, Nat.add_mul]; omega
theorem sFrom_sumTo (f : Nat → Int) : ∀ d t, sFrom f t d = sumTo f (t + d) - sumTo f t
  | 0, t => by simp [sFrom]
  | d + 1, t => by
    simp only [sFrom]
    rw [sFrom_sumTo f d (t + 1), show t + 1 + d = t + (d + 1) by omega]
    simp only [sumTo]
    omega
theorem sFrom0 (f : Nat → Int) (d : Nat) : sFrom f 0 d = sumTo f d := by
  rw [sFrom_sumTo, Nat.zero_add]; simp [sumTo]
theorem sum_valN (ca : List Span) {n : Nat → Int} : ∀ {T : Nat}, (∀ i, i < T → 0 ≤ n i) → sumTo (fun i => n i * (stepN ca i : Int)) T = (valN ca (fun i => (n i).toNat) T : Int)
  | 0, _ => rfl
  | T + 1, h => by
    simp only [sumTo, valN]
    have := h T (Nat.lt_succ_self _)
    rw [sum_valN ca (fun i hi => h i (by omega))]
    push_cast
    rw [Int.toNat_of_nonneg this]
structure PartP (s : Scalps) (c : Nat → Nat → Int) (k : Nat) (a : Nat) (v : Int) (y : Nat → Nat → Int) : Prop where
  pos : ∀ t j, t < s.carried.length → j < k → 0 ≤ y t j ∧ (0 < y t j → reachB s.strips t j = true)
  row : ∀ t, t < s.carried.length → sumTo (fun j => y t j) k = (digN s.carried a t : Int)
  str : ∀ j, j < k → (gOf s.strips j).lo ≤ sumTo (fun t => y t j) s.carried.length ∧ sumTo (fun t => y t j) s.carried.length ≤ (gOf s.strips j).hi
  val : v = sumTo (fun j => sumTo (fun t => c t j * y t j) s.carried.length) k
theorem part_zero {s : Scalps} {c : Nat → Nat → Int} {a : Nat} {v : Int} (ha : a < stepN s.carried s.carried.length) : (∃ y, PartP s c 0 a v y) ↔ a = 0 ∧ v = 0 := by
  constructor
  · rintro ⟨y, h⟩
    refine ⟨?_, by simpa [sumTo] using h.val⟩
    rw [dig_val_lt s.carried ha]
    have : ∀ T, T ≤ s.carried.length → valN s.carried (digN s.carried a) T = 0 := by
      intro T
      induction T with
      | zero => intro _; rfl
      | succ T ih =>
        intro hT
        simp only [valN]
        have := h.row T (by omega)
        simp only [sumTo] at this
        rw [ih (by omega), show digN s.carried a T = 0 by omega]
        simp
    exact this _ (Nat.le_refl _)
  · rintro ⟨rfl, rfl⟩
    exact ⟨fun _ _ => 0, fun t j _ hj => by omega, fun t _ => by rw [dig_zero]; rfl, fun j hj => by omega, rfl⟩
theorem part_succ {s : Scalps} (h : Right s) {c : Nat → Nat → Int} {k : Nat} (hk : k < s.strips.length) {x : Nat} (hx : x < stepN s.carried s.carried.length) {v : Int} :
    (∃ y, PartP s c (k + 1) x v y) ↔ ∃ src, src < stepN s.carried s.carried.length ∧ ∃ n, ColOK s k src 0 s.carried.length 0 n ∧ (x : Int) = (src : Int) + sFrom (fun i => n i * (stepN s.carried i : Int)) 0 s.carried.length ∧ ∃ v0, (∃ y, PartP s c k src v0 y) ∧ v = v0 + sFrom (fun i => c i k * n i) 0 s.carried.length := by
  constructor
  · rintro ⟨y, hy⟩
    have hrow : ∀ t, t < s.carried.length → 0 ≤ sumTo (fun j => y t j) k ∧ sumTo (fun j => y t j) k + y t k = (digN s.carried x t : Int) := fun t ht => by
      have := hy.row t ht
      simp only [sumTo] at this
      exact ⟨sumTo_nonneg fun j hj => (hy.pos t j ht (by omega)).1, this⟩
    have hp : ∀ t, t < s.carried.length → 0 ≤ y t k := fun t ht => (hy.pos t k ht (Nat.lt_succ_self _)).1
    have hf : ∀ t, t < s.carried.length → (sumTo (fun j => y t j) k).toNat < bsN s.carried t := fun t ht => by
      have := hrow t ht; have := hp t ht
      have := digN_lt s.carried x t
      omega
    have hd := valN_dig s.carried hf
    refine ⟨valN s.carried (fun t => (sumTo (fun j => y t j) k).toNat) s.carried.length, valN_lt s.carried hf, fun t => y t k, ⟨fun i _ hi => ?_, ?_, ?_⟩, ?_, sumTo (fun j => sumTo (fun t => c t j * y t j) s.carried.length) k, ⟨y, ⟨fun t j ht hj => hy.pos t j ht (by omega), fun t ht => ?_, fun j hj => hy.str j (by omega), rfl⟩⟩, ?_⟩
    · have hi' : i < s.carried.length := by omega
      refine ⟨hp i hi', (hy.pos i k hi' (Nat.lt_succ_self _)).2, ?_⟩
      rw [hd i hi']
      have := hrow i hi'
      have := digN_lt s.carried x i
      have := bs_eq h hi'
      omega
    · rw [sFrom0, Int.zero_add]; exact (hy.str k (Nat.lt_succ_self _)).1
    · rw [sFrom0, Int.zero_add]; exact (hy.str k (Nat.lt_succ_self _)).2
    · rw [sFrom0, sum_valN s.carried (fun i hi => hp i hi), ← Int.natCast_add, ← valN_add]
      congr 1
      refine (dig_val_lt s.carried hx).trans (valN_congr s.carried fun i hi => ?_)
      have := hrow i hi; have := hp i hi
      omega
    · rw [hd t ht]
      have := (hrow t ht).1
      omega
    · rw [sFrom0, hy.val]; rfl
  · rintro ⟨src, hsrc, n, hc, hx2, v0, ⟨y, hy⟩, hv⟩
    have hn : ∀ i, i < s.carried.length → 0 ≤ n i := fun i hi => (hc.each i (Nat.zero_le _) (by omega)).1
    have hb : ∀ i, i < s.carried.length → digN s.carried src i + (n i).toNat < bsN s.carried i := fun i hi => by
      have := hc.each i (Nat.zero_le _) (by omega)
      have := bs_eq h hi
      omega
    have hxe : x = valN s.carried (fun i => digN s.carried src i + (n i).toNat) s.carried.length := by
      rw [valN_add, ← dig_val_lt s.carried hsrc]
      rw [sFrom0, sum_valN s.carried hn] at hx2
      omega
    have hdx : ∀ i, i < s.carried.length → digN s.carried x i = digN s.carried src i + (n i).toNat := fun i hi => by
      rw [hxe]; exact valN_dig s.carried hb i hi
    refine ⟨fun t j => if j = k then n t else y t j, ⟨fun t j ht hj => ?_, fun t ht => ?_, fun j hj => ?_, ?_⟩⟩
    · by_cases he : j = k
      · subst he
        simp only [if_true]
        have := hc.each t (Nat.zero_le _) (by omega)
        exact ⟨this.1, this.2.1⟩
      · simp only [he, if_false]
        exact hy.pos t j ht (by omega)
    · simp only [sumTo, if_true]
      rw [sumTo_congr (g := fun j => y t j) (fun j hj => by rw [if_neg (by omega)]), hy.row t ht, hdx t ht]
      have := hn t ht
      omega
    · by_cases he : j = k
      · subst he
        simp only [if_true]
        have h1 := hc.lo; have h2 := hc.hi
        rw [sFrom0, Int.zero_add] at h1 h2
        exact ⟨h1, h2⟩
      · simp only [he, if_false]
        exact hy.str j (by omega)
    · simp only [sumTo, if_true]
      rw [sumTo_congr (g := fun j => sumTo (fun t => c t j * y t j) s.carried.length) (fun j hj => sumTo_congr fun t _ => by rw [if_neg (by omega)]), hv, hy.val, sFrom0]
end Go.Proofs.Ws

namespace Go.Proofs.Ws
open Go Go.Fw Go.Gx Go.Sp
set_option linter.unusedVariables false
theorem part_bd {s : Scalps} (h : Right s) {bt : Nat → Nat → Bool} {k a : Nat} {v : Int} {y : Nat → Nat → Int} (hp : PartP s (fun t j => cnt (bt t j)) k a v y) : 0 ≤ v ∧ v ≤ 150 := by
  have h5 := h.net.c5
  rw [hp.val]
  constructor
  · exact sumTo_nonneg fun j hj => sumTo_nonneg fun t ht => Int.mul_nonneg (cnt_range _).2.2 (hp.pos t j ht hj).1
  · have e : sumTo (fun j => sumTo (fun t => cnt (bt t j) * y t j) s.carried.length) k ≤ sumTo (fun j => sumTo (fun t => y t j) s.carried.length) k := by
      refine sumTo_le fun j hj => sumTo_le fun t ht => ?_
      have h1 := (hp.pos t j ht hj).1
      unfold cnt
      split <;> omega
    have e2 : sumTo (fun j => sumTo (fun t => y t j) s.carried.length) k = sumTo (fun t => (digN s.carried a t : Int)) s.carried.length := by
      rw [sumTo_comm (fun j t => y t j)]
      exact sumTo_congr fun t ht => hp.row t ht
    have e3 : sumTo (fun t => (digN s.carried a t : Int)) s.carried.length ≤ sumTo (fun _ => 30) s.carried.length := by
      refine sumTo_le fun t ht => ?_
      have := digN_lt s.carried a t
      have := bs_eq h ht
      have := hOf_ok h.net ht
      omega
    have e4 : sumTo (fun _ => (30 : Int)) s.carried.length ≤ 150 := by
      have : ∀ n : Nat, sumTo (fun _ => (30 : Int)) n = 30 * (n : Int) := by
        intro n
        induction n with
        | zero => rfl
        | succ n ih => simp only [sumTo]; rw [ih]; omega
      rw [this]; omega
    omega
theorem blank_eq {N : Nat} (hN : N ≤ 100000) : J6 (N : Int) = some ⟨List.replicate N false, List.replicate N 0, List.replicate N 0⟩ := by
  unfold J6
  rw [makec_eq ⟨by omega, by omega, by omega, by omega⟩, Option.bind_some, makec_eq ⟨by omega, by omega, by omega, by omega⟩, Option.bind_some, Option.bind_some, Option.bind_some, Int.toNat_natCast]
theorem gtB_rep {N a : Nat} : gtB (List.replicate N false) a = false := by
  unfold gtB
  rw [List.getD_eq_getElem?_getD, List.getElem?_replicate]
  split <;> rfl
theorem gtI_rep {N a : Nat} : gtI (List.replicate N 0) a = 0 := by
  unfold gtI
  rw [List.getD_eq_getElem?_getD, List.getElem?_replicate]
  split <;> rfl
theorem blank_ok {N : Nat} : BookOK (fun _ _ => False) N ⟨List.replicate N false, List.replicate N 0, List.replicate N 0⟩ :=
  ⟨by simp, by simp, by simp, fun a ha => by simp only; rw [gtB_rep]; simp, fun a v ha h => h.elim, fun a ha hc => by simp only at hc; rw [gtB_rep] at hc; cases hc⟩
theorem first_ok {N : Nat} (hN : 0 < N) : BookOK (fun a v => a = 0 ∧ v = 0) N ⟨(List.replicate N false).set 0 true, List.replicate N 0, List.replicate N 0⟩ := by
  refine ⟨by simp, by simp, by simp, fun a ha => ?_, fun a v ha h => ?_, fun a ha hc => ?_⟩
  · simp only
    rw [gtB_set (by simp; omega), gtB_rep]
    by_cases h0 : a = 0
    · rw [if_pos h0]; exact ⟨fun _ => ⟨0, h0, rfl⟩, fun _ => rfl⟩
    · rw [if_neg h0]; exact ⟨fun h => (by cases h), fun ⟨v, h, _⟩ => absurd h h0⟩
  · simp only
    rw [gtI_rep]; omega
  · simp only at hc ⊢
    rw [gtB_set (by simp; omega), gtB_rep] at hc
    by_cases h0 : a = 0
    · rw [gtI_rep]; exact ⟨⟨h0, rfl⟩, h0, rfl⟩
    · rw [if_neg h0] at hc; cases hc
def enB (s : Scalps) (a : Nat) : Bool := (List.range s.carried.length).all fun t => decide ((hOf s.carried t).lo ≤ (digN s.carried a t : Int))
theorem enB_iff {s : Scalps} {a : Nat} : enB s a = true ↔ ∀ t, t < s.carried.length → (hOf s.carried t).lo ≤ (digN s.carried a t : Int) := by
  unfold enB
  rw [List.all_eq_true]
  exact ⟨fun h t ht => of_decide_eq_true (h t (List.mem_range.2 ht)), fun h t ht => decide_eq_true (h t (List.mem_range.1 ht))⟩
theorem enough_eq {s : Scalps} (h : Right s) {a : Nat} (ha : a ≤ 100000) : Kk s (a : Int) = some (enB s a) := by
  have h5 := h.net.c5
  unfold Kk
  have key := iterM_find (f := zh s) (fun t => ⟨((a / stepN s.carried t : Nat) : Int), (t : Int)⟩) s.carried.length (fun t => !decide ((hOf s.carried t).lo ≤ (digN s.carried a t : Int))) (fun _ => .inr false) (.inl ()) (fun t ht _ => ?_) ?_ (N := FU) (FU_lt (by omega))
  · have e0 : (⟨(a : Int), 0⟩ : y8) = ⟨((a / stepN s.carried 0 : Nat) : Int), ((0 : Nat) : Int)⟩ := by simp [stepN]
    rw [e0, key, Option.bind_some]
    have e : enB s a = ((List.range s.carried.length).find? fun t => !decide ((hOf s.carried t).lo ≤ (digN s.carried a t : Int))).isNone := by
      unfold enB
      exact all_find
    rw [e]
    cases (List.range s.carried.length).find? fun t => !decide ((hOf s.carried t).lo ≤ (digN s.carried a t : Int)) <;> rfl
  · unfold zh
    have hb2 := bs_eq h ht
    have hoi := hOf_ok h.net ht
    have hq : a / stepN s.carried t ≤ a := Nat.div_le_self _ _
    have hq2 : a / stepN s.carried (t + 1) ≤ a := Nat.div_le_self _ _
    have hlt : (t : Int) < (s.carried.length : Int) := by omega
    have hbpos : 0 < bsN s.carried t := Nat.succ_pos _
    have hq0 : (0 : Int) ≤ ((a / stepN s.carried (t + 1) : Nat) : Int) := Int.natCast_nonneg _
    have hq1 : ((a / stepN s.carried (t + 1) : Nat) : Int) ≤ (a : Int) := Int.ofNat_le.2 hq2
    have hca : ix s.carried (t : Int) = some (hOf s.carried t) := ix_nat default ht
    have hrem : (((a / stepN s.carried t : Nat) : Int)).tmod (bsN s.carried t : Int) = (digN s.carried a t : Int) := by
      unfold digN; rw [Int.ofNat_tmod]
    have hquo : (((a / stepN s.carried t : Nat) : Int)).tdiv (bsN s.carried t : Int) = ((a / stepN s.carried (t + 1) : Nat) : Int) := by
      rw [show stepN s.carried (t + 1) = stepN s.carried t * bsN s.carried t from rfl, ← Nat.div_div_eq_div_mul]; exact (Int.ofNat_tdiv _ _).symm
    simp only [hlt, if_true]
    rw [hca, Option.bind_some, addc_eq (by omega), Option.bind_some, hb2, remc_eq (by omega), Option.bind_some, hrem, Option.bind_some]
    by_cases hd : (hOf s.carried t).lo ≤ (digN s.carried a t : Int)
    · rw [if_neg (by omega), Option.bind_some, addc_eq (by omega), Option.bind_some, hb2, quoc_eq (by omega) (by rw [hquo]; omega), Option.bind_some, addc_eq (by omega), Option.bind_some, hquo, decide_eq_true hd]
      rfl
    · rw [if_pos (by omega), decide_eq_false hd]
      rfl
  · unfold zh
    simp
theorem strip_L2 {s : Scalps} (h : Right s) {k : Nat} (hk : k < s.strips.length) {N : Nat} (hN : N = stepN s.carried s.carried.length) (hN5 : N ≤ 100000) {cb : List (List Bool)} {bt : Nat → Nat → Bool} (hcb : ∀ t k, t < s.carried.length → k < s.strips.length → ∃ row, ix cb (t : Int) = some row ∧ ix row (k : Int) = some (bt t k)) {z : yS} (hz : z.k10 = (k : Int)) (hB : BookOK (fun a v => ∃ y, PartP s (fun t j => cnt (bt t j)) k a v y) N ⟨z.now9_can, z.now9_least, z.now9_most⟩) :
    ∃ o, iterM FU (zT (N : Int) z s cb) ⟨0, List.replicate N false, List.replicate N 0, List.replicate N 0⟩ = some o ∧ BookOK (fun a v => ∃ y, PartP s (fun t j => cnt (bt t j)) (k + 1) a v y) N ⟨o.r0_can, o.r0_least, o.r0_most⟩ := by
  have h5 := h.net.c5
  have hgo := gOf_ok h.net hk
  have key := iterM_inv (f := zT (N : Int) z s cb) (fun u => ∃ j : Nat, u.at12 = (j : Int) ∧ j ≤ N ∧ BookOK (fun x v => ∃ src, src < j ∧ ∃ n, ColOK s k src 0 s.carried.length 0 n ∧ (x : Int) = (src : Int) + sFrom (fun i => n i * (stepN s.carried i : Int)) 0 s.carried.length ∧ ∃ v0, (∃ y, PartP s (fun t j => cnt (bt t j)) k src v0 y) ∧ v = v0 + sFrom (fun i => cnt (bt i k) * n i) 0 s.carried.length) N ⟨u.r0_can, u.r0_least, u.r0_most⟩) (fun u => ((N : Int) - u.at12).toNat) (fun o => BookOK (fun a v => ∃ y, PartP s (fun t j => cnt (bt t j)) (k + 1) a v y) N ⟨o.r0_can, o.r0_least, o.r0_most⟩) (fun u hu => ?_) FU ⟨0, List.replicate N false, List.replicate N 0, List.replicate N 0⟩ (FU_lt (by simp only; omega)) ⟨0, rfl, by omega, blank_ok.congr fun x v hx => ⟨fun hf => hf.elim, fun ⟨src, hs, _⟩ => absurd hs (by omega)⟩⟩
  · exact key
  obtain ⟨j, hj, hjN, hbk⟩ := hu
  unfold zT
  rw [hj]
  by_cases hlt : j < N
  · left
    rw [if_pos (by omega), ix_nat false (by rw [show z.now9_can.length = N from hB.l1]; exact hlt), Option.bind_some]
    have hcj : z.now9_can.getD j false = gtB z.now9_can j := rfl
    rw [hcj]
    by_cases hc : gtB z.now9_can j = true
    · obtain ⟨e1, e2⟩ := hB.ends j hlt hc
      obtain ⟨y1, p1⟩ := e1
      obtain ⟨y2, p2⟩ := e2
      have b1 := part_bd h p1
      have b2 := part_bd h p2
      obtain ⟨r, hr, hb⟩ := take_spec h hk hN hN5 (cb := cb) (bt := fun t => bt t k) (fun t ht => hcb t k ht hk) (src := j) hlt s.carried.length 0 FU j (j : Int) 0 (gtI z.now9_least j) (gtI z.now9_most j) (fun v => ∃ y, PartP s (fun t j => cnt (bt t j)) k j v y) _ ⟨u.r0_can, u.r0_least, u.r0_most⟩ (by omega) (FU_lt (by omega)) hlt (fun _ _ => rfl) (by simp [stepN]) (Int.le_refl _) (by omega) ⟨y1, p1⟩ ⟨y2, p2⟩ (fun v hv => hB.bd j v hlt hv) b1.1 (by simp only at b2; omega) hbk
      rw [if_pos hc, ix_nat 0 (by rw [show z.now9_least.length = N from hB.l2]; exact hlt), Option.bind_some, ix_nat 0 (by rw [show z.now9_most.length = N from hB.l3]; exact hlt), Option.bind_some, hz]
      have hr' : kW FU s cb (k : Int) 0 (j : Int) (j : Int) 0 (z.now9_least.getD j 0) (z.now9_most.getD j 0) ⟨u.r0_can, u.r0_least, u.r0_most⟩ = some r := hr
      rw [hr', Option.bind_some, Option.bind_some, addc_eq (by omega), Option.bind_some]
      refine ⟨_, rfl, ⟨j + 1, by push_cast; rfl, hlt, hb.congr fun x v hx => ?_⟩, by simp only; omega⟩
      unfold TakeP
      constructor
      · rintro (⟨src, hs, hrst⟩ | ⟨n, c1, c2, v0, c3, c4⟩)
        · exact ⟨src, by omega, hrst⟩
        · exact ⟨j, by omega, n, c1, c2, v0, c3, c4⟩
      · rintro ⟨src, hs, n, c1, c2, v0, c3, c4⟩
        by_cases he : src = j
        · subst he; exact .inr ⟨n, c1, c2, v0, c3, c4⟩
        · exact .inl ⟨src, by omega, n, c1, c2, v0, c3, c4⟩
    · rw [if_neg hc, Option.bind_some, addc_eq (by omega), Option.bind_some]
      refine ⟨_, rfl, ⟨j + 1, by push_cast; rfl, hlt, hbk.congr fun x v hx => ?_⟩, by simp only; omega⟩
      constructor
      · rintro ⟨src, hs, hrst⟩; exact ⟨src, by omega, hrst⟩
      · rintro ⟨src, hs, n, c1, c2, v0, c3, c4⟩
        by_cases he : src = j
        · subst he; exact absurd ((hB.can src hlt).2 ⟨v0, c3⟩) hc
        · exact ⟨src, by omega, n, c1, c2, v0, c3, c4⟩
  · right
    rw [if_neg (by omega)]
    have hjn : j = N := by omega
    subst hjn
    refine ⟨_, rfl, hbk.congr fun x v hx => ?_⟩
    rw [hN] at hx
    rw [part_succ h hk hx, hN]
theorem fits_part {s : Scalps} (h : Right s) {c : Nat → Nat → Int} {y : Nat → Nat → Int} : FitsS s y ↔ ∃ a, a < stepN s.carried s.carried.length ∧ enB s a = true ∧ PartP s c s.strips.length a (countS s c y) y := by
  have hcnt : countS s c y = sumTo (fun j => sumTo (fun t => c t j * y t j) s.carried.length) s.strips.length := by
    unfold countS countY
    exact sumTo_comm (fun t k => c t k * y t k) _ _
  constructor
  · intro hy
    have hp : ∀ t, t < s.carried.length → 0 ≤ sumTo (fun k => y t k) s.strips.length := fun t ht => sumTo_nonneg fun k hk => (hy.pos t k ht hk).1
    have hf : ∀ t, t < s.carried.length → (sumTo (fun k => y t k) s.strips.length).toNat < bsN s.carried t := fun t ht => by
      have := (hy.ten t ht).2
      have := hp t ht
      have := bs_eq h ht
      omega
    have hd := valN_dig s.carried hf
    refine ⟨valN s.carried (fun t => (sumTo (fun k => y t k) s.strips.length).toNat) s.carried.length, valN_lt s.carried hf, enB_iff.2 fun t ht => ?_, ⟨fun t j ht hj => hy.pos t j ht hj, fun t ht => ?_, hy.str, hcnt⟩⟩
    · rw [hd t ht]
      have := (hy.ten t ht).1
      omega
    · rw [hd t ht]
      have := hp t ht
      omega
  · rintro ⟨a, ha, he, hp⟩
    refine ⟨hp.pos, fun t ht => ?_, hp.str⟩
    rw [hp.row t ht]
    have := enB_iff.1 he t ht
    have := digN_lt s.carried a t
    have := bs_eq h ht
    omega
structure RgInv (ok : Nat → Prop) (P : Nat → Int → Prop) (j : Nat) (f : Bool) (lo hi : Int) : Prop where
  no : f = false → lo = 0 ∧ hi = 0 ∧ ∀ a, a < j → ¬ ok a
  yes : f = true → (∃ a, a < j ∧ ok a ∧ P a lo) ∧ (∃ a, a < j ∧ ok a ∧ P a hi) ∧ ∀ a v, a < j → ok a → P a v → lo ≤ v ∧ v ≤ hi
theorem Range_spec {s : Scalps} (h : Right s) (hN5 : stepN s.carried s.carried.length ≤ 100000) {cb : List (List Bool)} {bt : Nat → Nat → Bool} (hcb : ∀ t k, t < s.carried.length → k < s.strips.length → ∃ row, ix cb (t : Int) = some row ∧ ix row (k : Int) = some (bt t k)) :
    (∃ lo hi, kr s cb = some ⟨lo, hi, true⟩ ∧ IsRange s (fun t k => cnt (bt t k)) lo hi) ∨ (kr s cb = some ⟨0, 0, false⟩ ∧ NoFit s) := by
  have h5 := h.net.c5; have h6 := h.net.s6
  generalize hN : stepN s.carried s.carried.length = N at hN5
  have hNp : 0 < N := by rw [← hN]; exact stepN_pos _ _
  have k0 : iterM FU (yZ s) ⟨1, 0⟩ = some (N : Int) := by
    have key := iterM_run (f := yZ s) (fun i => ⟨(stepN s.carried i : Int), (i : Int)⟩) s.carried.length (b := (N : Int)) (fun i hi => ?_) ?_ FU (FU_lt (by omega))
    · exact key
    · unfold yZ
      have hb2 := bs_eq h hi
      have hoi := hOf_ok h.net hi
      have hle := stepN_mono s.carried (show i + 1 ≤ s.carried.length by omega)
      have e : (stepN s.carried i : Int) * (bsN s.carried i : Int) = (stepN s.carried (i + 1) : Int) := by simp [stepN]
      have hca : ix s.carried (i : Int) = some (hOf s.carried i) := ix_nat default hi
      simp only
      rw [if_pos (by omega), hca, Option.bind_some, addc_eq (by omega), Option.bind_some, hb2, mulc_eq (by rw [e]; omega), Option.bind_some, addc_eq (by omega), Option.bind_some, e]
      rfl
    · unfold yZ
      simp [hN]
  unfold kr
  rw [k0, Option.bind_some, blank_eq hN5, Option.bind_some]
  dsimp only
  have hix : ix (List.replicate N false) 0 = some ((List.replicate N false).getD 0 false) := ix_nat (k := 0) false (by simp; omega)
  rw [hix, Option.bind_some, Option.bind_some, Int.toNat_zero]
  have k1 : ∃ o, iterM FU (z8 s (N : Int) cb) ⟨0, (List.replicate N false).set 0 true, List.replicate N 0, List.replicate N 0⟩ = some o ∧ BookOK (fun a v => ∃ y, PartP s (fun t j => cnt (bt t j)) s.strips.length a v y) N ⟨o.now9_can, o.now9_least, o.now9_most⟩ := by
    refine iterM_inv (f := z8 s (N : Int) cb) (fun z => ∃ k : Nat, z.k10 = (k : Int) ∧ k ≤ s.strips.length ∧ BookOK (fun a v => ∃ y, PartP s (fun t j => cnt (bt t j)) k a v y) N ⟨z.now9_can, z.now9_least, z.now9_most⟩) (fun z => ((s.strips.length : Int) - z.k10).toNat) _ (fun z hz => ?_) FU _ (FU_lt (by simp only; omega)) ⟨0, rfl, by omega, (first_ok hNp).congr fun a v ha => (part_zero (by rw [hN]; exact ha)).symm⟩
    obtain ⟨k, hk, hkS, hB⟩ := hz
    unfold z8
    by_cases hlt : k < s.strips.length
    · left
      obtain ⟨o, ho, hb⟩ := strip_L2 h hlt hN.symm hN5 hcb hk hB
      rw [hk, if_pos (by omega), blank_eq hN5, Option.bind_some]
      dsimp only
      rw [ho, Option.bind_some, addc_eq (by omega), Option.bind_some]
      exact ⟨_, rfl, ⟨k + 1, by push_cast; rfl, hlt, hb⟩, by simp only; omega⟩
    · right
      rw [hk, if_neg (by omega)]
      have : k = s.strips.length := by omega
      subst this
      exact ⟨_, rfl, hB⟩
  obtain ⟨o1, ho1, hB⟩ := k1
  rw [ho1, Option.bind_some]
  have k3 : ∃ o, iterM FU (zO (N : Int) o1 s) ⟨false, 0, 0, 0⟩ = some o ∧ RgInv (fun a => gtB o1.now9_can a = true ∧ enB s a = true) (fun a v => ∃ y, PartP s (fun t j => cnt (bt t j)) s.strips.length a v y) N o.found13 o.least14 o.most15 := by
    refine iterM_inv (f := zO (N : Int) o1 s) (fun z => ∃ j : Nat, z.at16 = (j : Int) ∧ j ≤ N ∧ RgInv (fun a => gtB o1.now9_can a = true ∧ enB s a = true) (fun a v => ∃ y, PartP s (fun t j => cnt (bt t j)) s.strips.length a v y) j z.found13 z.least14 z.most15) (fun z => ((N : Int) - z.at16).toNat) _ (fun z hz => ?_) FU _ (FU_lt (by simp only; omega)) ⟨0, rfl, by omega, ⟨fun _ => ⟨rfl, rfl, fun a ha => absurd ha (by omega)⟩, fun hf => (by cases hf)⟩⟩
    obtain ⟨j, hj, hjN, hI⟩ := hz
    unfold zO
    rw [hj]
    by_cases hlt : j < N
    · left
      have e1 : ix o1.now9_can (j : Int) = some (gtB o1.now9_can j) := ix_nat false (by rw [show o1.now9_can.length = N from hB.l1]; exact hlt)
      have e2 : ix o1.now9_least (j : Int) = some (gtI o1.now9_least j) := ix_nat 0 (by rw [show o1.now9_least.length = N from hB.l2]; exact hlt)
      have e3 : ix o1.now9_most (j : Int) = some (gtI o1.now9_most j) := ix_nat 0 (by rw [show o1.now9_most.length = N from hB.l3]; exact hlt)
      rw [if_pos (by omega), e1, e2, e3, Option.bind_some, enough_eq h (by omega)]
      have e4 : (if (!gtB o1.now9_can j) = true then (some true : Option Bool) else (some (enB s j)).bind fun t89 => some (!t89)) = some (!(gtB o1.now9_can j && enB s j)) := by
        cases gtB o1.now9_can j <;> simp
      rw [e4, Option.bind_some]
      by_cases hok : (gtB o1.now9_can j && enB s j) = true
      · have hok2 : gtB o1.now9_can j = true ∧ enB s j = true := by simpa using hok
        obtain ⟨p1, p2⟩ := hB.ends j hlt hok2.1
        have hbd := hB.bd j
        rw [hok, Bool.not_true, if_neg (by simp)]
        by_cases hf : z.found13 = true
        · rw [hf, Bool.not_true, if_neg (by simp), Option.bind_some]
          dsimp only
          rw [Option.bind_some, Option.bind_some, Option.bind_some, addc_eq (by omega), Option.bind_some]
          refine ⟨_, rfl, ⟨j + 1, by push_cast; rfl, hlt, ⟨fun hff => (by cases hff), fun _ => ?_⟩⟩, by simp only; omega⟩
          obtain ⟨⟨a1, b1, c1, d1⟩, ⟨a2, b2, c2, d2⟩, hall⟩ := hI.yes hf
          refine ⟨?_, ?_, fun a v ha hoa hv => ?_⟩
          · simp only
            by_cases hm : z.least14 ≤ gtI o1.now9_least j
            · rw [Int.min_eq_left hm]; exact ⟨a1, by omega, c1, d1⟩
            · rw [Int.min_eq_right (by omega)]; exact ⟨j, by omega, hok2, p1⟩
          · simp only
            by_cases hm : gtI o1.now9_most j ≤ z.most15
            · rw [Int.max_eq_left hm]; exact ⟨a2, by omega, c2, d2⟩
            · rw [Int.max_eq_right (by omega)]; exact ⟨j, by omega, hok2, p2⟩
          · simp only
            by_cases haj : a = j
            · subst haj
              have := hbd v hlt hv
              simp only at this
              omega
            · have := hall a v (by omega) hoa hv
              omega
        · have hff : z.found13 = false := by simpa using hf
          rw [hff, if_pos (by simp), Option.bind_some, Option.bind_some, Option.bind_some]
          dsimp only
          rw [Option.bind_some, Option.bind_some, Option.bind_some, addc_eq (by omega), Option.bind_some]
          refine ⟨_, rfl, ⟨j + 1, by push_cast; rfl, hlt, ⟨fun hx => (by cases hx), fun _ => ?_⟩⟩, by simp only; omega⟩
          obtain ⟨_, _, hno⟩ := hI.no hff
          simp only
          rw [show min (gtI o1.now9_least j) (gtI o1.now9_least j) = gtI o1.now9_least j by omega, show max (gtI o1.now9_most j) (gtI o1.now9_most j) = gtI o1.now9_most j by omega]
          refine ⟨⟨j, by omega, hok2, p1⟩, ⟨j, by omega, hok2, p2⟩, fun a v ha hoa hv => ?_⟩
          by_cases haj : a = j
          · subst haj; exact hbd v hlt hv
          · exact absurd hoa (hno a (by omega))
      · have hok2 : ¬ (gtB o1.now9_can j = true ∧ enB s j = true) := fun hh => hok (by rw [hh.1, hh.2]; rfl)
        have hokf : (gtB o1.now9_can j && enB s j) = false := by simpa using hok
        rw [hokf, Bool.not_false, if_pos rfl, Option.bind_some, addc_eq (by omega), Option.bind_some]
        refine ⟨_, rfl, ⟨j + 1, by push_cast; rfl, hlt, ⟨fun hff => ?_, fun hff => ?_⟩⟩, by simp only; omega⟩
        · obtain ⟨a1, a2, hno⟩ := hI.no hff
          refine ⟨a1, a2, fun a ha => ?_⟩
          by_cases haj : a = j
          · subst haj; exact hok2
          · exact hno a (by omega)
        · obtain ⟨⟨a1, b1, c1, d1⟩, ⟨a2, b2, c2, d2⟩, hall⟩ := hI.yes hff
          refine ⟨⟨a1, by omega, c1, d1⟩, ⟨a2, by omega, c2, d2⟩, fun a v ha hoa hv => ?_⟩
          by_cases haj : a = j
          · subst haj; exact absurd hoa hok2
          · exact hall a v (by omega) hoa hv
    · right
      rw [if_neg (by omega)]
      have : j = N := by omega
      subst this
      exact ⟨_, rfl, hI⟩
  obtain ⟨o3, ho3, hI⟩ := k3
  rw [ho3, Option.bind_some]
  by_cases hf : o3.found13 = true
  · left
    obtain ⟨⟨a1, b1, ⟨c1, c1'⟩, y1, d1⟩, ⟨a2, b2, ⟨c2, c2'⟩, y2, d2⟩, hall⟩ := hI.yes hf
    have hval : ∀ {a : Nat} {v : Int} {y : Nat → Nat → Int}, PartP s (fun t j => cnt (bt t j)) s.strips.length a v y → v = countS s (fun t k => cnt (bt t k)) y := fun {a v y} hp => by
      rw [hp.val]
      unfold countS countY
      exact (sumTo_comm (fun t k => cnt (bt t k) * y t k) _ _).symm
    refine ⟨o3.least14, o3.most15, by rw [hf], ⟨y1, ?_, (hval d1).symm⟩, ⟨y2, ?_, (hval d2).symm⟩, fun y hy => ?_⟩
    · exact (fits_part h (c := fun t k => cnt (bt t k))).2 ⟨a1, by omega, c1', hval d1 ▸ d1⟩
    · exact (fits_part h (c := fun t k => cnt (bt t k))).2 ⟨a2, by omega, c2', hval d2 ▸ d2⟩
    · obtain ⟨a, ha, he, hp⟩ := (fits_part h (c := fun t k => cnt (bt t k))).1 hy
      rw [hN] at ha
      exact hall a _ ha ⟨(hB.can a ha).2 ⟨_, _, hp⟩, he⟩ ⟨_, hp⟩
  · right
    have hff : o3.found13 = false := by simpa using hf
    obtain ⟨a1, a2, hno⟩ := hI.no hff
    refine ⟨by rw [hff, a1, a2], fun y hy => ?_⟩
    obtain ⟨a, ha, he, hp⟩ := (fits_part h (c := fun t k => cnt (bt t k))).1 hy
    rw [hN] at ha
    exact hno a ha ⟨(hB.can a ha).2 ⟨_, _, hp⟩, he⟩
end Go.Proofs.Ws

namespace Go.Proofs.Ws
open Go Go.Fw Go.Gx Go.Sp
set_option linter.unusedVariables false
theorem refOff_eq (n lo hi : Int) : KA n lo hi = some (!inb n lo hi) := by
  unfold KA inb
  by_cases h : n < lo
  · rw [if_pos h, Option.bind_some, decide_eq_false (show ¬ lo ≤ n by omega)]; rfl
  · rw [if_neg h, Option.bind_some, decide_eq_true (show lo ≤ n by omega), Bool.true_and]
    by_cases h2 : n ≤ hi
    · rw [decide_eq_true h2, decide_eq_false (by omega)]; rfl
    · rw [decide_eq_false h2, decide_eq_true (by omega)]; rfl
theorem orO {b v : Bool} {o : Option Bool} (h : o = some v) : (if b = true then (some true : Option Bool) else o) = some (b || v) := by cases b <;> simp [h]
theorem refStrange_eq (x : Span) : q5 x = some (!okSp x) := by
  unfold q5 okSp
  rw [refOff_eq, Option.bind_some, refOff_eq, Option.bind_some, orO rfl, Option.bind_some]
  congr 1
  cases inb x.lo 0 30 <;> cases inb x.hi 0 30 <;> rfl
def tuB (x : Span) : Bool := decide (x.hi < x.lo)
theorem refTurned_eq (x : Span) : zA x = some (tuB x) := rfl
def badL (x : Strip) : Bool := !okSp x.lay || (!okSp x.seeded || !okSp x.left)
def badO (x : Strip) : Bool := tuB x.lay || (tuB x.seeded || tuB x.left)
def limA (s : Scalps) (j : Nat) : Bool := (s.carried.any fun x => !okSp x) || (s.strips.take j).any badL
def ordA (s : Scalps) (j : Nat) : Bool := s.carried.any tuB || (s.strips.take j).any badO
def misA (s : Scalps) (j : Nat) : Bool := (s.strips.take j).any fun x => !inb x.tenant 0 ((s.carried.length : Int) - 1)
def wrX (x : Strip) : Bool := decide (x.lay.hi + x.seeded.hi < x.left.lo)
def wrA (s : Scalps) : Nat → Bool
  | 0 => false
  | j + 1 => wrA s j || (!limA s (j + 1) && wrX (s.strips.getD j default))
theorem wrA_succ (s : Scalps) (j : Nat) : wrA s (j + 1) = (wrA s j || (!limA s (j + 1) && wrX (s.strips.getD j default))) := rfl
theorem take_any {α : Type} {l : List α} {p : α → Bool} (d : α) {j : Nat} (hj : j < l.length) : (l.take (j + 1)).any p = ((l.take j).any p || p (l.getD j d)) := by
  rw [List.take_succ_eq_append_getElem hj, List.any_append]
  simp [List.getD_eq_getElem?_getD, hj]
theorem limA_succ {s : Scalps} {j : Nat} (hj : j < s.strips.length) : limA s (j + 1) = (limA s j || badL (s.strips.getD j default)) := by
  unfold limA
  rw [take_any default hj, Bool.or_assoc]
theorem ordA_succ {s : Scalps} {j : Nat} (hj : j < s.strips.length) : ordA s (j + 1) = (ordA s j || badO (s.strips.getD j default)) := by
  unfold ordA
  rw [take_any default hj, Bool.or_assoc]
theorem misA_succ {s : Scalps} {j : Nat} (hj : j < s.strips.length) : misA s (j + 1) = (misA s j || !inb (s.strips.getD j default).tenant 0 ((s.carried.length : Int) - 1)) := by
  unfold misA
  rw [take_any default hj]
theorem limA_mono {s : Scalps} : ∀ {j k : Nat}, j ≤ k → k ≤ s.strips.length → limA s k = false → limA s j = false
  | j, 0, h, _, hk => by have : j = 0 := by omega
                         subst this; exact hk
  | j, k + 1, h, hl, hk => by
    by_cases he : j = k + 1
    · subst he; exact hk
    · rw [limA_succ (by omega)] at hk
      exact limA_mono (k := k) (by omega) (by omega) (Bool.or_eq_false_iff.1 hk).1
theorem refCheck_L0 {s : Scalps} (hT : s.carried.length ≤ 1000) : iterM FU (yR s) ⟨false, false, 0⟩ = some ⟨s.carried.any fun x => !okSp x, s.carried.any tuB⟩ := by
  have key := iterM_run (f := yR s) (fun j => ⟨(s.carried.take j).any fun x => !okSp x, (s.carried.take j).any tuB, (j : Int)⟩) s.carried.length (b := ⟨s.carried.any fun x => !okSp x, s.carried.any tuB⟩) (fun j hj => ?_) ?_ FU (FU_lt (by omega))
  · exact key
  · unfold yR
    have hlt : (j : Int) < (s.carried.length : Int) := by omega
    simp only [hlt, if_true]
    rw [ix_nat default hj, Option.bind_some, refStrange_eq, Option.bind_some, orO rfl, Option.bind_some, take_any default hj, take_any default hj]
    cases (List.take j s.carried).any tuB with
    | true =>
      rw [if_pos rfl, Option.bind_some, addc_eq (by omega), Option.bind_some]
      rfl
    | false =>
      rw [if_neg (by simp), Option.bind_some, refTurned_eq, Option.bind_some, Option.bind_some, addc_eq (by omega), Option.bind_some]
      rfl
  · unfold yR
    simp
theorem refCheck_L1 {s : Scalps} (hS : s.strips.length ≤ 1000) (hT : s.carried.length ≤ 1000) : iterM FU (yW s) ⟨limA s 0, ordA s 0, false, false, 0⟩ = some ⟨limA s s.strips.length, ordA s s.strips.length, misA s s.strips.length, wrA s s.strips.length⟩ := by
  have key := iterM_run (f := yW s) (fun j => ⟨limA s j, ordA s j, misA s j, wrA s j, (j : Int)⟩) s.strips.length (b := ⟨limA s s.strips.length, ordA s s.strips.length, misA s s.strips.length, wrA s s.strips.length⟩) (fun j hj => ?_) ?_ FU (FU_lt (by omega))
  · exact key
  · unfold yW
    have hlt : (j : Int) < (s.strips.length : Int) := by omega
    simp only [hlt, if_true]
    rw [ix_nat default hj, Option.bind_some, refStrange_eq, Option.bind_some, refStrange_eq, Option.bind_some, refStrange_eq, Option.bind_some, orO (orO (orO rfl)), Option.bind_some, refTurned_eq, Option.bind_some, refTurned_eq, Option.bind_some, refTurned_eq, Option.bind_some, orO (orO (orO rfl)), Option.bind_some, subc_eq (by omega), Option.bind_some, refOff_eq, Option.bind_some, orO rfl, Option.bind_some]
    have h1 : (limA s j || (!okSp (s.strips.getD j default).lay || (!okSp (s.strips.getD j default).seeded || !okSp (s.strips.getD j default).left))) = limA s (j + 1) := (limA_succ hj).symm
    have h2 : (ordA s j || (tuB (s.strips.getD j default).lay || (tuB (s.strips.getD j default).seeded || tuB (s.strips.getD j default).left))) = ordA s (j + 1) := (ordA_succ hj).symm
    have h3 : (misA s j || !inb (s.strips.getD j default).tenant 0 ((s.carried.length : Int) - 1)) = misA s (j + 1) := (misA_succ hj).symm
    have e : (if wrA s j = true then (some ⟨limA s (j + 1), ordA s (j + 1), misA s (j + 1), true⟩ : Option zP) else if (!limA s (j + 1)) = true then (addc (s.strips.getD j default).lay.hi (s.strips.getD j default).seeded.hi).bind fun t110 => some ⟨limA s (j + 1), ordA s (j + 1), misA s (j + 1), decide (t110 < (s.strips.getD j default).left.lo)⟩ else some ⟨limA s (j + 1), ordA s (j + 1), misA s (j + 1), false⟩) = some ⟨limA s (j + 1), ordA s (j + 1), misA s (j + 1), wrA s (j + 1)⟩ := by
      rw [wrA_succ]
      cases hw : wrA s j with
      | true => rfl
      | false =>
        rw [if_neg (by simp), Bool.false_or]
        cases hl : limA s (j + 1) with
        | true => rfl
        | false =>
          rw [limA_succ hj] at hl
          have hb := (Bool.or_eq_false_iff.1 hl).2
          unfold badL at hb
          obtain ⟨b1, b2⟩ := Bool.or_eq_false_iff.1 hb
          obtain ⟨b2, b3⟩ := Bool.or_eq_false_iff.1 b2
          have c1 := okSp_iff.1 (by rw [Bool.not_eq_false'] at b1; exact b1)
          have c2 := okSp_iff.1 (by rw [Bool.not_eq_false'] at b2; exact b2)
          unfold In30 at c1 c2
          rw [if_pos (by simp), addc_eq (by omega), Option.bind_some]
          rfl
    have e2 : ∀ (a b c : Bool), a = limA s (j + 1) → b = ordA s (j + 1) → c = misA s (j + 1) → ((if wrA s j = true then (some ⟨a, b, c, true⟩ : Option zP) else if (!a) = true then (addc (s.strips.getD j default).lay.hi (s.strips.getD j default).seeded.hi).bind fun t110 => some ⟨a, b, c, decide (t110 < (s.strips.getD j default).left.lo)⟩ else some ⟨a, b, c, false⟩).bind fun o_5 => (addc (j : Int) 1).bind fun t51 => some (.inl (⟨o_5.limit3, o_5.order4, o_5.missing5, o_5.wrong6, t51⟩ : qu))) = (some (.inl (⟨limA s (j + 1), ordA s (j + 1), misA s (j + 1), wrA s (j + 1), ((j + 1 : Nat) : Int)⟩ : qu)) : Option (qu ⊕ KY)) := by
      rintro a b c rfl rfl rfl
      rw [e, Option.bind_some, addc_eq (by omega), Option.bind_some]
      rfl
    exact e2 _ _ _ h1 h2 h3
  · unfold yW
    simp
theorem limA_end {s : Scalps} : limA s s.strips.length = !(spansOf s).all okSp := by
  unfold limA spansOf
  rw [List.take_length, List.all_append, List.all_flatMap, Bool.not_and, List.not_all_eq_any_not, List.not_all_eq_any_not]
  congr 2
  funext x
  unfold badL
  simp only [List.all_cons, List.all_nil, Bool.and_true]
  cases okSp x.lay <;> cases okSp x.seeded <;> cases okSp x.left <;> rfl
theorem tuB_not (x : Span) : tuB x = !decide (x.lo ≤ x.hi) := by
  unfold tuB
  by_cases h : x.lo ≤ x.hi
  · rw [decide_eq_true h, decide_eq_false (by omega)]; rfl
  · rw [decide_eq_false h, decide_eq_true (by omega)]; rfl
theorem ordA_end {s : Scalps} : ordA s s.strips.length = !(spansOf s).all fun x => decide (x.lo ≤ x.hi) := by
  unfold ordA spansOf
  rw [List.take_length, List.all_append, List.all_flatMap, Bool.not_and, List.not_all_eq_any_not, List.not_all_eq_any_not]
  have e : (fun x : Span => !decide (x.lo ≤ x.hi)) = tuB := by funext x; exact (tuB_not x).symm
  rw [e]
  congr 2
  funext x
  unfold badO
  rw [tuB_not, tuB_not, tuB_not]
  simp only [List.all_cons, List.all_nil, Bool.and_true]
  cases decide (x.lay.lo ≤ x.lay.hi) <;> cases decide (x.seeded.lo ≤ x.seeded.hi) <;> cases decide (x.left.lo ≤ x.left.hi) <;> rfl
theorem misA_end {s : Scalps} : misA s s.strips.length = !(s.strips.all fun x => inb x.tenant 0 ((s.carried.length : Int) - 1)) := by
  unfold misA
  rw [List.take_length, List.not_all_eq_any_not]
theorem wrA_eq {s : Scalps} (hl : limA s s.strips.length = false) : ∀ j, j ≤ s.strips.length → wrA s j = (s.strips.take j).any wrX
  | 0, _ => rfl
  | j + 1, hj => by
    rw [wrA_succ, wrA_eq hl j (by omega), limA_mono hj (Nat.le_refl _) hl, take_any default (by omega)]
    rfl
theorem wrA_end {s : Scalps} (hl : limA s s.strips.length = false) : wrA s s.strips.length = !(s.strips.all fun x => decide (0 ≤ (goneP x).hi)) := by
  rw [wrA_eq hl _ (Nat.le_refl _), List.take_length, List.not_all_eq_any_not]
  congr 1
  funext x
  unfold wrX goneP
  simp only
  by_cases h : x.lay.hi + x.seeded.hi < x.left.lo
  · rw [decide_eq_true h, decide_eq_false (by omega)]; rfl
  · rw [decide_eq_false h, decide_eq_true (by omega)]; rfl
theorem refCheck_eq {s : Scalps} (hS : s.strips.length ≤ 1000) (hT : s.carried.length ≤ 1000) : K6 s = some (chk s) := by
  unfold K6 chk
  rw [refOff_eq, Option.bind_some, refOff_eq, Option.bind_some, orO rfl, Option.bind_some]
  by_cases hin : inb (s.strips.length : Int) 1 6 = true ∧ inb (s.carried.length : Int) 1 5 = true
  · rw [if_pos hin, hin.1, hin.2, if_neg (by simp), refCheck_L0 hT, Option.bind_some]
    have e : (⟨s.carried.any fun x => !okSp x, s.carried.any tuB, false, false, 0⟩ : qu) = ⟨limA s 0, ordA s 0, false, false, 0⟩ := by
      simp [limA, ordA]
    dsimp only
    rw [e, refCheck_L1 hS hT, Option.bind_some]
    dsimp only
    rw [limA_end, misA_end, ordA_end]
    cases h1 : (spansOf s).all okSp with
    | false => rfl
    | true =>
      rw [if_neg (by simp), if_pos rfl, wrA_end (by rw [limA_end, h1]; rfl)]
      cases (s.strips.all fun x => inb x.tenant 0 ((s.carried.length : Int) - 1)) <;> cases ((spansOf s).all fun x => decide (x.lo ≤ x.hi)) <;> cases (s.strips.all fun x => decide (0 ≤ (goneP x).hi)) <;> rfl
  · rw [if_neg hin, if_pos]
    cases h1 : inb (s.strips.length : Int) 1 6 with
    | false => rfl
    | true =>
      cases h2 : inb (s.carried.length : Int) 1 5 with
      | false => rfl
      | true => exact absurd ⟨h1, h2⟩ hin
theorem wide_spec {s : Scalps} (hl : s.carried.length ≤ 9223372036854775807) : ∃ b, QD s = some b ∧ (b = false → s.strips.length ≤ 12 ∧ s.carried.length ≤ 10 ∧ (Right s → stepN s.carried s.carried.length ≤ 500)) := by
  have key : ∃ o, iterM FU (Jv s) ⟨1, 0⟩ = some o ∧ (Right s → o = (stepN s.carried s.carried.length : Int) ∨ 1000 ≤ o) := by
    refine iterM_inv (f := Jv s) (fun z => ∃ j : Nat, z.t9 = (j : Int) ∧ j ≤ s.carried.length ∧ 1 ≤ z.n3 ∧ z.n3 ≤ 31000 ∧ (Right s → z.n3 = (stepN s.carried j : Int) ∨ 1000 ≤ z.n3)) (fun z => ((s.carried.length : Int) - z.t9).toNat) _ (fun z hz => ?_) FU _ (FU_lt2 (by simp only; omega)) ⟨0, rfl, by omega, by simp, by simp, fun _ => .inl rfl⟩
    obtain ⟨j, hj, hjl, h1, h2, h3⟩ := hz
    unfold Jv
    rw [hj]
    by_cases hlt : j < s.carried.length
    · left
      rw [if_pos (by omega), ix_nat default hlt, Option.bind_some]
      have hx : s.carried.getD j default = hOf s.carried j := rfl
      rw [hx]
      by_cases hc : 0 ≤ (hOf s.carried j).hi ∧ (hOf s.carried j).hi ≤ 30 ∧ z.n3 < 1000
      · have hm1 : z.n3 * ((hOf s.carried j).hi + 1) ≤ 1000 * 31 := Int.mul_le_mul (by omega) (by omega) (by omega) (by omega)
        have hm2 : 1 * 1 ≤ z.n3 * ((hOf s.carried j).hi + 1) := Int.mul_le_mul (by omega) (by omega) (by omega) (by omega)
        rw [if_pos hc.1, if_pos hc.2.1, decide_eq_true hc.2.2, Option.bind_some, if_pos rfl, addc_eq (by omega), Option.bind_some, mulc_eq (by omega), Option.bind_some, Option.bind_some, addc_eq (by omega), Option.bind_some]
        refine ⟨_, rfl, ⟨j + 1, by push_cast; rfl, hlt, by simp only; omega, by simp only; omega, fun hR => ?_⟩, by simp only; omega⟩
        simp only
        rcases h3 hR with h4 | h4
        · left
          rw [h4, bs_eq hR hlt]
          simp [stepN]
        · omega
      · have hcf : (if 0 ≤ (hOf s.carried j).hi then if (hOf s.carried j).hi ≤ 30 then (some (decide (z.n3 < 1000)) : Option Bool) else some false else some false) = some false := by
          by_cases a : 0 ≤ (hOf s.carried j).hi
          · by_cases b : (hOf s.carried j).hi ≤ 30
            · rw [if_pos a, if_pos b, decide_eq_false (fun c => hc ⟨a, b, c⟩)]
            · rw [if_pos a, if_neg b]
          · rw [if_neg a]
        rw [hcf, Option.bind_some, if_neg (by simp), Option.bind_some, addc_eq (by omega), Option.bind_some]
        refine ⟨_, rfl, ⟨j + 1, by push_cast; rfl, hlt, by simp only; omega, by simp only; omega, fun hR => ?_⟩, by simp only; omega⟩
        simp only
        right
        have := hOf_ok hR.net hlt
        rcases h3 hR with h4 | h4 <;> omega
    · right
      rw [if_neg (by omega)]
      have : j = s.carried.length := by omega
      subst this
      exact ⟨_, rfl, h3⟩
  obtain ⟨o, ho, h3⟩ := key
  have hg : K8 s = some (decide (12 < s.strips.length ∨ 10 < s.carried.length)) := by
    unfold K8
    by_cases h1 : 12 < s.strips.length
    · rw [if_pos (by omega), Option.bind_some, decide_eq_true (.inl h1)]
    · rw [if_neg (by omega), Option.bind_some]
      congr 1
      exact decide_eq_decide.2 ⟨fun h => .inr (by omega), fun h => by omega⟩
  unfold QD
  rw [ho, Option.bind_some, hg, Option.bind_some]
  by_cases h1 : 12 < s.strips.length ∨ 10 < s.carried.length
  · rw [decide_eq_true h1, if_pos rfl, Option.bind_some]
    exact ⟨_, rfl, fun h => by cases h⟩
  · rw [decide_eq_false h1, if_neg (by simp)]
    by_cases h2 : 500 < o
    · rw [if_pos h2, Option.bind_some]
      refine ⟨_, rfl, fun h => ⟨by omega, by omega, fun hR => ?_⟩⟩
      have := hR.net.c5
      have := of_decide_eq_false h
      omega
    · rw [if_neg h2, Option.bind_some]
      refine ⟨_, rfl, fun _ => ⟨by omega, by omega, fun hR => ?_⟩⟩
      rcases h3 hR with h4 | h4 <;> omega
theorem own_eq {s : Scalps} (hS : s.strips.length ≤ 1000) (hT : s.carried.length ≤ 1000) : Yl s = some s := by
  unfold Yl qZ qg
  rw [makec_eq ⟨by omega, by omega, by omega, by omega⟩, Option.bind_some, appc_eq (by simp; omega), Option.bind_some, Option.bind_some, makec_eq ⟨by omega, by omega, by omega, by omega⟩, Option.bind_some, appc_eq (by simp; omega), Option.bind_some, Option.bind_some]
  simp
theorem theirs_eq {s : Scalps} (hS : s.strips.length ≤ 1000) (hT : s.carried.length ≤ 1000) : Kn s = some s := by
  unfold Kn qg
  rw [makec_eq ⟨by omega, by omega, by omega, by omega⟩, Option.bind_some, appc_eq (by simp; omega), Option.bind_some, Option.bind_some]
  have key := iterM_run (f := y4 s) (fun j => ⟨(j : Int), s.strips.take j⟩) s.strips.length (b := s.strips) (fun j hj => ?_) ?_ FU (FU_lt (by omega))
  · have e : (⟨0, []⟩ : y9) = ⟨((0 : Nat) : Int), s.strips.take 0⟩ := rfl
    rw [e, key, Option.bind_some]
    simp
  · unfold y4
    have hlt : (j : Int) < (s.strips.length : Int) := by omega
    simp only [hlt, if_true]
    rw [ix_nat default hj, Option.bind_some, appc_eq (by simp [List.length_take]; omega), Option.bind_some, addc_eq (by omega), Option.bind_some]
    have e : s.strips.take (j + 1) = s.strips.take j ++ [s.strips.getD j default] := by
      rw [List.take_succ_eq_append_getElem hj]
      simp [List.getD_eq_getElem?_getD, hj]
    rw [e]
    rfl
  · unfold y4
    simp
theorem eqStrip {l : List Strip} (h : l.length ≤ 1000) : qk l l = some true := by
  unfold qk Ji
  rw [if_pos rfl]
  have key := iterM_any0 (f := qL l l) l.length (fun _ => false) false (fun k hk => ?_) ?_ (N := FU) (FU_lt (by omega))
  · rw [key]
    have : (List.range l.length).any (fun _ => false) = false := by simp
    rw [this]; rfl
  · unfold qL
    rw [if_pos (by omega), ix_nat default hk, Option.bind_some, Option.bind_some, if_pos rfl, addc_eq (by omega), Option.bind_some]
    rfl
  · unfold qL
    rw [if_neg (by omega)]
theorem eqSpan {l : List Span} (h : l.length ≤ 1000) : yM l l = some true := by
  unfold yM Jp
  rw [if_pos rfl]
  have key := iterM_any0 (f := qH l l) l.length (fun _ => false) false (fun k hk => ?_) ?_ (N := FU) (FU_lt (by omega))
  · rw [key]
    have : (List.range l.length).any (fun _ => false) = false := by simp
    rw [this]; rfl
  · unfold qH
    rw [if_pos (by omega), ix_nat default hk, Option.bind_some, Option.bind_some, if_pos rfl, addc_eq (by omega), Option.bind_some]
    rfl
  · unfold qH
    rw [if_neg (by omega)]
theorem same_self {s : Scalps} (hS : s.strips.length ≤ 1000) (hT : s.carried.length ≤ 1000) : QC s s = some true := by
  unfold QC
  rw [eqStrip hS, Option.bind_some, if_pos rfl, eqSpan hT]; rfl
def stB (s : Scalps) (t0 k0 : Int) (t k : Nat) : Bool := (decide (t0 < 0) || decide ((t : Int) = t0)) && ((decide (k0 < 0) || decide ((k : Int) = k0)) && othB s t k)
theorem stolen_L1 {s : Scalps} (h6 : s.strips.length ≤ 1000) (t0 k0 : Int) {t : Nat} {z : qy} (hz : z.t8 = (t : Int)) :
    iterM FU (yv t0 k0 s z) ⟨0, List.replicate s.strips.length false⟩ = some ((List.range s.strips.length).map (stB s t0 k0 t)) := by
  have key := iterM_run (f := yv t0 k0 s z) (fun k => ⟨(k : Int), (List.range s.strips.length).map fun i => if i < k then stB s t0 k0 t i else false⟩) s.strips.length (b := (List.range s.strips.length).map (stB s t0 k0 t)) (fun k hk => ?_) ?_ FU (FU_lt (by omega))
  · have e : (⟨0, List.replicate s.strips.length false⟩ : ze) = ⟨((0 : Nat) : Int), (List.range s.strips.length).map fun i => if i < 0 then stB s t0 k0 t i else false⟩ := by
      congr 1
      symm
      rw [List.eq_replicate_iff]
      refine ⟨by simp, fun b hb => ?_⟩
      obtain ⟨i, _, rfl⟩ := List.mem_map.1 hb
      rw [if_neg (by omega)]
    rw [e, key]
  · unfold yv
    have hlt : (k : Int) < (((List.range s.strips.length).map fun i => if i < k then stB s t0 k0 t i else false).length : Int) := by simp; omega
    simp only
    rw [if_pos hlt]
    have hth : (!decide ((s.strips.getD k default).tenant = z.t8)) = othB s t k := by rw [hz]; rfl
    have hend : ∀ v, v = stB s t0 k0 t k → ((List.range s.strips.length).map fun i => if i < k then stB s t0 k0 t i else false).set (Int.toNat (k : Int)) v = (List.range s.strips.length).map fun i => if i < k + 1 then stB s t0 k0 t i else false := fun v hv => by
      rw [Int.toNat_natCast, range_set]
      refine List.map_congr_left fun i _ => ?_
      by_cases hik : i = k
      · subst hik; rw [if_pos rfl, if_pos (by omega), hv]
      · rw [if_neg hik]
        by_cases h2 : i < k
        · rw [if_pos h2, if_pos (by omega)]
        · rw [if_neg h2, if_neg (by omega)]
    have hbody : (if t0 < 0 then if k0 < 0 then (ix s.strips (k : Int)).bind fun t50 => (ix ((List.range s.strips.length).map fun i => if i < k then stB s t0 k0 t i else false) (k : Int)).bind fun t56 => (some (((List.range s.strips.length).map fun i => if i < k then stB s t0 k0 t i else false).set (Int.toNat (k : Int)) (!decide (t50.tenant = z.t8)))).bind fun t21_1 => some t21_1 else if (k : Int) = k0 then (ix s.strips (k : Int)).bind fun t50 => (ix ((List.range s.strips.length).map fun i => if i < k then stB s t0 k0 t i else false) (k : Int)).bind fun t56 => (some (((List.range s.strips.length).map fun i => if i < k then stB s t0 k0 t i else false).set (Int.toNat (k : Int)) (!decide (t50.tenant = z.t8)))).bind fun t21_1 => some t21_1 else (ix ((List.range s.strips.length).map fun i => if i < k then stB s t0 k0 t i else false) (k : Int)).bind fun t56 => (some (((List.range s.strips.length).map fun i => if i < k then stB s t0 k0 t i else false).set (Int.toNat (k : Int)) false)).bind fun t21_1 => some t21_1 else if z.t8 = t0 then if k0 < 0 then (ix s.strips (k : Int)).bind fun t50 => (ix ((List.range s.strips.length).map fun i => if i < k then stB s t0 k0 t i else false) (k : Int)).bind fun t56 => (some (((List.range s.strips.length).map fun i => if i < k then stB s t0 k0 t i else false).set (Int.toNat (k : Int)) (!decide (t50.tenant = z.t8)))).bind fun t21_1 => some t21_1 else if (k : Int) = k0 then (ix s.strips (k : Int)).bind fun t50 => (ix ((List.range s.strips.length).map fun i => if i < k then stB s t0 k0 t i else false) (k : Int)).bind fun t56 => (some (((List.range s.strips.length).map fun i => if i < k then stB s t0 k0 t i else false).set (Int.toNat (k : Int)) (!decide (t50.tenant = z.t8)))).bind fun t21_1 => some t21_1 else (ix ((List.range s.strips.length).map fun i => if i < k then stB s t0 k0 t i else false) (k : Int)).bind fun t56 => (some (((List.range s.strips.length).map fun i => if i < k then stB s t0 k0 t i else false).set (Int.toNat (k : Int)) false)).bind fun t21_1 => some t21_1 else (ix ((List.range s.strips.length).map fun i => if i < k then stB s t0 k0 t i else false) (k : Int)).bind fun t56 => (some (((List.range s.strips.length).map fun i => if i < k then stB s t0 k0 t i else false).set (Int.toNat (k : Int)) false)).bind fun t21_1 => some t21_1) = some ((List.range s.strips.length).map fun i => if i < k + 1 then stB s t0 k0 t i else false) := by
      have g1 : (ix s.strips (k : Int)).bind (fun t50 => (ix ((List.range s.strips.length).map fun i => if i < k then stB s t0 k0 t i else false) (k : Int)).bind fun t56 => (some (((List.range s.strips.length).map fun i => if i < k then stB s t0 k0 t i else false).set (Int.toNat (k : Int)) (!decide (t50.tenant = z.t8)))).bind fun t21_1 => some t21_1) = some (((List.range s.strips.length).map fun i => if i < k then stB s t0 k0 t i else false).set (Int.toNat (k : Int)) (othB s t k)) := by
        rw [ix_nat default hk, Option.bind_some, range_ix hk, Option.bind_some, Option.bind_some, hth]
      have g2 : (ix ((List.range s.strips.length).map fun i => if i < k then stB s t0 k0 t i else false) (k : Int)).bind (fun t56 => (some (((List.range s.strips.length).map fun i => if i < k then stB s t0 k0 t i else false).set (Int.toNat (k : Int)) false)).bind fun t21_1 => some t21_1) = some (((List.range s.strips.length).map fun i => if i < k then stB s t0 k0 t i else false).set (Int.toNat (k : Int)) false) := by
        rw [range_ix hk, Option.bind_some, Option.bind_some]
      rw [g1, g2, hz]
      by_cases a1 : t0 < 0
      · rw [if_pos a1]
        by_cases a2 : k0 < 0
        · rw [if_pos a2, hend]; simp [stB, a1, a2]
        · rw [if_neg a2]
          by_cases a3 : (k : Int) = k0
          · rw [if_pos a3, hend]; simp [stB, a1, a3]
          · rw [if_neg a3, hend]; simp [stB, a2, a3]
      · rw [if_neg a1]
        by_cases a4 : (t : Int) = t0
        · rw [if_pos a4]
          by_cases a2 : k0 < 0
          · rw [if_pos a2, hend]; simp [stB, a4, a2]
          · rw [if_neg a2]
            by_cases a3 : (k : Int) = k0
            · rw [if_pos a3, hend]; simp [stB, a4, a3]
            · rw [if_neg a3, hend]; simp [stB, a2, a3]
        · rw [if_neg a4, hend]; simp [stB, a1, a4]
    rw [hbody, Option.bind_some, addc_eq (by omega), Option.bind_some]
    rfl
  · unfold yv
    simp only
    rw [if_neg (by simp)]
    congr 2
    refine List.map_congr_left fun i hi => ?_
    rw [if_pos (List.mem_range.1 hi)]
theorem refStolen_eq {s : Scalps} (h6 : s.strips.length ≤ 1000) (h5 : s.carried.length ≤ 1000) (t0 k0 : Int) : qm s t0 k0 = some ((List.range s.carried.length).map fun t => (List.range s.strips.length).map (stB s t0 k0 t)) := by
  unfold qm
  have key := iterM_run (f := zc s t0 k0) (fun t => ⟨(t : Int), (List.range t).map fun t => (List.range s.strips.length).map (stB s t0 k0 t)⟩) s.carried.length (b := (List.range s.carried.length).map fun t => (List.range s.strips.length).map (stB s t0 k0 t)) (fun t ht => ?_) ?_ FU (FU_lt (by omega))
  · have e : (⟨0, []⟩ : qy) = ⟨((0 : Nat) : Int), (List.range 0).map fun t => (List.range s.strips.length).map (stB s t0 k0 t)⟩ := rfl
    rw [e, key]; rfl
  · unfold zc
    have hlt : (t : Int) < (s.carried.length : Int) := by omega
    simp only
    rw [if_pos hlt, makec_eq ⟨by omega, by omega, by omega, by omega⟩, Option.bind_some, Int.toNat_natCast, stolen_L1 h6 t0 k0 rfl, Option.bind_some, appc_eq (by simp; omega), Option.bind_some, addc_eq (by omega), Option.bind_some, List.range_succ, List.map_append]
    rfl
  · unfold zc
    simp
theorem rows_ix {T S : Nat} {b : Nat → Nat → Bool} {t k : Nat} (ht : t < T) (hk : k < S) : ∃ row, ix ((List.range T).map fun t => (List.range S).map (b t)) (t : Int) = some row ∧ ix row (k : Int) = some (b t k) :=
  ⟨_, range_ix ht, range_ix hk⟩
end Go.Proofs.Ws

namespace Go.Proofs.Ws
open Go Go.Fw Go.Gx Go.Sp
set_option linter.unusedVariables false
theorem stB_all (s : Scalps) : (fun t k => cnt (stB s (-1) (-1) t k)) = thC s := by
  funext t k
  unfold thC stB
  rfl
theorem range_theft {s : Scalps} (h : Right s) (hN : stepN s.carried s.carried.length ≤ 500) : ∃ cb, qm s (-1) (-1) = some cb ∧ ((∃ lo hi, kr s cb = some ⟨lo, hi, true⟩ ∧ IsRange s (thC s) lo hi) ∨ (kr s cb = some ⟨0, 0, false⟩ ∧ NoFit s)) := by
  have h6 := h.net.s6; have h5 := h.net.c5
  refine ⟨_, refStolen_eq (by omega) (by omega) (-1) (-1), ?_⟩
  have := Range_spec h (by omega) (bt := stB s (-1) (-1)) (fun t k ht hk => rows_ix (b := stB s (-1) (-1)) ht hk)
  rw [stB_all] at this
  exact this
end Go.Proofs.Ws

namespace Go.Proofs.Ws
open Go Go.Fw Go.Gx Go.Sp
set_option linter.unusedVariables false
theorem eq_loop {n : Nat} (hl : n ≤ 1000) {f : Int → Option (Int ⊕ (Unit ⊕ Bool))} (h1 : ∀ k : Nat, k < n → f (k : Int) = some (.inl ((k : Int) + 1))) (h2 : f (n : Int) = some (.inr (.inl ()))) : iterM FU f 0 = some (.inl ()) := by
  have key := iterM_any0 (f := f) n (fun _ => false) false (fun k hk => by rw [h1 k hk]; rfl) h2 (N := FU) (FU_lt (by omega))
  rw [key]
  have : (List.range n).any (fun _ => false) = false := by simp
  rw [this]; rfl
theorem eqVerdict {l : List Int} (h : l.length ≤ 1000) : ko l l = some true := by
  have hloop := eq_loop (f := jO l l) h (fun k hk => by
    unfold jO
    rw [if_pos (by omega), ix_nat 0 hk, Option.bind_some, Option.bind_some, if_pos rfl, addc_eq (by omega), Option.bind_some]) (by
    unfold jO
    rw [if_neg (by omega)])
  unfold ko jW
  rw [if_pos rfl, hloop]
  rfl
theorem refJust_eq {s : Scalps} (h6 : s.strips.length ≤ 1000) (h5 : s.carried.length ≤ 1000) {t0 k0 : Nat} (hk : k0 < s.strips.length) : Qg s (t0 : Int) (k0 : Int) = some ((List.range s.carried.length).map fun t => (List.range s.strips.length).map fun k => decide (t = t0 ∧ k = k0)) := by
  unfold Qg
  have key := iterM_run (f := JG s (t0 : Int) (k0 : Int)) (fun t => ⟨(t : Int), (List.range t).map fun t => (List.range s.strips.length).map fun k => decide (t = t0 ∧ k = k0)⟩) s.carried.length (b := (List.range s.carried.length).map fun t => (List.range s.strips.length).map fun k => decide (t = t0 ∧ k = k0)) (fun t ht => ?_) ?_ FU (FU_lt (by omega))
  · have e : (⟨0, []⟩ : JF) = ⟨((0 : Nat) : Int), (List.range 0).map fun t => (List.range s.strips.length).map fun k => decide (t = t0 ∧ k = k0)⟩ := rfl
    rw [e, key]; rfl
  · unfold JG
    have hlt : (t : Int) < (s.carried.length : Int) := by omega
    have hrep : List.replicate s.strips.length false = (List.range s.strips.length).map fun _ => false := by
      symm
      rw [List.eq_replicate_iff]
      exact ⟨by simp, fun b hb => by obtain ⟨i, _, rfl⟩ := List.mem_map.1 hb; rfl⟩
    have hrow : (if (t : Int) = (t0 : Int) then (ix (List.replicate s.strips.length false) (k0 : Int)).bind fun t26 => (some ((List.replicate s.strips.length false).set (Int.toNat (k0 : Int)) true)).bind fun t20_1 => some t20_1 else some (List.replicate s.strips.length false)) = some ((List.range s.strips.length).map fun k => decide (t = t0 ∧ k = k0)) := by
      by_cases he : t = t0
      · rw [if_pos (by omega), hrep, range_ix hk, Option.bind_some, Option.bind_some, Int.toNat_natCast, range_set]
        congr 1
        refine List.map_congr_left fun i _ => ?_
        by_cases hi : i = k0
        · rw [if_pos hi, decide_eq_true ⟨he, hi⟩]
        · rw [if_neg hi, decide_eq_false (fun hh => hi hh.2)]
      · rw [if_neg (by omega), hrep]
        congr 1
        refine List.map_congr_left fun i _ => ?_
        rw [decide_eq_false (fun hh => he hh.1)]
    simp only
    rw [if_pos hlt, makec_eq ⟨by omega, by omega, by omega, by omega⟩, Option.bind_some, Int.toNat_natCast, hrow, Option.bind_some, appc_eq (by simp; omega), Option.bind_some, addc_eq (by omega), Option.bind_some, List.range_succ, List.map_append]
    rfl
  · unfold JG
    simp
def RgS (s : Scalps) (c : Nat → Nat → Int) (o : Option Ju) : Prop := (∃ lo hi, o = some ⟨lo, hi, true⟩ ∧ IsRange s c lo hi) ∨ (o = some ⟨0, 0, false⟩ ∧ NoFit s)
theorem rg_bool {s : Scalps} (h : Right s) (hN : stepN s.carried s.carried.length ≤ 500) (b : Nat → Nat → Bool) : RgS s (fun t k => cnt (b t k)) (kr s ((List.range s.carried.length).map fun t => (List.range s.strips.length).map (b t))) :=
  Range_spec h (by omega) (bt := b) (fun t k ht hk => rows_ix (b := b) ht hk)
theorem stB_ten (s : Scalps) (t0 : Nat) : (fun t k => cnt (stB s (t0 : Int) (-1) t k)) = stC s t0 := by
  funext t k
  unfold stC stB
  congr 1
  rw [decide_eq_false (show ¬ (t0 : Int) < 0 by omega), decide_eq_true (show (-1 : Int) < 0 by omega), Bool.true_or, Bool.false_or, Bool.true_and]
  congr 1
  exact decide_eq_decide.2 (by omega)
theorem stB_strip (s : Scalps) (k0 : Nat) : (fun t k => cnt (stB s (-1) (k0 : Int) t k)) = msC s k0 := by
  funext t k
  unfold msC stB
  congr 1
  rw [decide_eq_false (show ¬ (k0 : Int) < 0 by omega), decide_eq_true (show (-1 : Int) < 0 by omega), Bool.true_or, Bool.false_or, Bool.true_and]
  congr 1
  exact decide_eq_decide.2 (by omega)
def lostV (missing found : Bool) : Int := if missing = true then 1 else if found = true then 0 else 7
theorem lost_eq (a b : Bool) : jB a b = some (lostV a b) := by
  unfold jB lostV
  cases a <;> cases b <;> rfl
def outB (n : Int) (l : Nat) : Bool := decide (n < 0 ∨ (l : Int) ≤ n)
theorem outB_not {n : Int} {l : Nat} (h : outB n l = false) : ∃ k : Nat, n = (k : Int) ∧ k < l := by
  have := of_decide_eq_false h
  exact ⟨n.toNat, by omega, by omega⟩
theorem outB_inb {n : Int} {l : Nat} : inb n 0 ((l : Int) - 1) = !outB n l := by
  unfold inb outB
  by_cases h1 : 0 ≤ n
  · by_cases h2 : n ≤ (l : Int) - 1
    · rw [decide_eq_true h1, decide_eq_true h2, decide_eq_false (by omega)]; rfl
    · rw [decide_eq_true h1, decide_eq_false h2, decide_eq_true (show n < 0 ∨ (l : Int) ≤ n by omega)]; rfl
  · rw [decide_eq_false h1, decide_eq_true (show n < 0 ∨ (l : Int) ≤ n by omega)]; rfl
structure Agr (s : Scalps) (c : Nat → Nat → Int) (out found : Bool) (lo hi : Int) : Prop where
  zero : lostV out found ≠ 0 → lo = 0 ∧ hi = 0
  is : lostV out found = 0 → IsRange s c lo hi
theorem Agr.uniq {s : Scalps} {c : Nat → Nat → Int} {out found : Bool} {lo hi lo' hi' : Int} (h : Agr s c out found lo hi) (h' : Agr s c out found lo' hi') : lo = lo' ∧ hi = hi' := by
  by_cases h0 : lostV out found = 0
  · exact (h.is h0).uniq (h'.is h0)
  · obtain ⟨a, b⟩ := h.zero h0
    obtain ⟨c, d⟩ := h'.zero h0
    omega
def Fnd (s : Scalps) (found : Bool) : Prop := (found = true → ∃ y, FitsS s y) ∧ (found = false → NoFit s)
theorem lost_out {found : Bool} : lostV true found = 1 := rfl
theorem agr_out {s : Scalps} {c : Nat → Nat → Int} {found : Bool} : Agr s c true found 0 0 := ⟨fun _ => ⟨rfl, rfl⟩, fun h => by rw [lost_out] at h; omega⟩
theorem agr_no {s : Scalps} {c : Nat → Nat → Int} {out : Bool} : Agr s c out false 0 0 := ⟨fun _ => ⟨rfl, rfl⟩, fun h => by cases out <;> simp [lostV] at h⟩
theorem takenP {s : Scalps} (h : Right s) {found : Bool} (hf : Fnd s found) (tn wh : Int) : ∃ lo hi, q7 s tn wh = some ⟨⟨lo, hi⟩, lostV (outB tn s.carried.length || outB wh s.strips.length) found⟩ ∧ Agr s (jsC tn.toNat wh.toNat) (outB tn s.carried.length || outB wh s.strips.length) found lo hi := by
  obtain ⟨mp, hmp, hm⟩ := k4 h
  have h5 := h.net.c5; have h6 := h.net.s6
  cases ht : outB tn s.carried.length with
  | true =>
    refine ⟨0, 0, ?_, agr_out⟩
    unfold q7
    rw [hmp, Option.bind_some, oc_inr, zy (by omega), Option.bind_some, outB_inb, ht]
    rfl
  | false =>
    cases hk : outB wh s.strips.length with
    | true =>
      refine ⟨0, 0, ?_, agr_out⟩
      unfold q7
      rw [hmp, Option.bind_some, oc_inr, zy (by omega), Option.bind_some, outB_inb, ht, Zt (by omega), Option.bind_some, outB_inb, hk]
      rfl
    | false =>
      obtain ⟨t, rfl, ht'⟩ := outB_not ht
      obtain ⟨k, rfl, hk'⟩ := outB_not hk
      rw [Int.toNat_natCast, Int.toNat_natCast]
      rcases Taken_spec h ht' hk' with ⟨lo, hi, h1, hr⟩ | ⟨h1, hn⟩
      · cases found with
        | true => exact ⟨lo, hi, h1, fun hh => absurd rfl hh, fun _ => hr⟩
        | false => obtain ⟨⟨y, hy, _⟩, _⟩ := hr; exact absurd hy (hf.2 rfl y)
      · cases found with
        | true => obtain ⟨y, hy⟩ := hf.1 rfl; exact absurd hy (hn y)
        | false => exact ⟨0, 0, h1, agr_no⟩
theorem stolenP {s : Scalps} (h : Right s) {found : Bool} (hf : Fnd s found) (tn : Int) : ∃ lo hi, qS s tn = some ⟨⟨lo, hi⟩, lostV (outB tn s.carried.length) found⟩ ∧ Agr s (stC s tn.toNat) (outB tn s.carried.length) found lo hi := by
  obtain ⟨mp, hmp, hm⟩ := k4 h
  have h5 := h.net.c5
  cases ht : outB tn s.carried.length with
  | true =>
    refine ⟨0, 0, ?_, agr_out⟩
    unfold qS
    rw [hmp, Option.bind_some, oc_inr, zy (by omega), Option.bind_some, outB_inb, ht]
    rfl
  | false =>
    obtain ⟨t, rfl, ht'⟩ := outB_not ht
    rw [Int.toNat_natCast]
    rcases Stolen_spec h ht' with ⟨lo, hi, h1, hr⟩ | ⟨h1, hn⟩
    · cases found with
      | true => exact ⟨lo, hi, h1, fun hh => absurd rfl hh, fun _ => hr⟩
      | false => obtain ⟨⟨y, hy, _⟩, _⟩ := hr; exact absurd hy (hf.2 rfl y)
    · cases found with
      | true => obtain ⟨y, hy⟩ := hf.1 rfl; exact absurd hy (hn y)
      | false => exact ⟨0, 0, h1, agr_no⟩
theorem missedP {s : Scalps} (h : Right s) {found : Bool} (hf : Fnd s found) (wh : Int) : ∃ lo hi, qQ s wh = some ⟨⟨lo, hi⟩, lostV (outB wh s.strips.length) found⟩ ∧ Agr s (msC s wh.toNat) (outB wh s.strips.length) found lo hi := by
  obtain ⟨mp, hmp, hm⟩ := k4 h
  have h6 := h.net.s6
  cases ht : outB wh s.strips.length with
  | true =>
    refine ⟨0, 0, ?_, agr_out⟩
    unfold qQ
    rw [hmp, Option.bind_some, oc_inr, Zt (by omega), Option.bind_some, outB_inb, ht]
    rfl
  | false =>
    obtain ⟨t, rfl, ht'⟩ := outB_not ht
    rw [Int.toNat_natCast]
    rcases Missed_spec h ht' with ⟨lo, hi, h1, hr⟩ | ⟨h1, hn⟩
    · cases found with
      | true => exact ⟨lo, hi, h1, fun hh => absurd rfl hh, fun _ => hr⟩
      | false => obtain ⟨⟨y, hy, _⟩, _⟩ := hr; exact absurd hy (hf.2 rfl y)
    · cases found with
      | true => obtain ⟨y, hy⟩ := hf.1 rfl; exact absurd hy (hn y)
      | false => exact ⟨0, 0, h1, agr_no⟩
theorem rg_agr {s : Scalps} {c : Nat → Nat → Int} {out found : Bool} (hf : Fnd s found) {o : Option Ju} (ho : RgS s c o) (h0 : lostV out found = 0) : ∃ lo hi, o = some ⟨lo, hi, true⟩ ∧ Agr s c out found lo hi := by
  rcases ho with ⟨lo, hi, h1, hr⟩ | ⟨_, hn⟩
  · exact ⟨lo, hi, h1, fun hh => absurd h0 hh, fun _ => hr⟩
  · cases found with
    | true => obtain ⟨y, hy⟩ := hf.1 rfl; exact absurd hy (hn y)
    | false => cases out <;> simp [lostV] at h0
theorem outs_eq (tn wh : Int) (T S : Nat) : (if tn < 0 then if wh < 0 then (some ⟨true, true⟩ : Option qc) else some ⟨true, decide ((S : Int) ≤ wh)⟩ else if wh < 0 then some ⟨decide ((T : Int) ≤ tn), true⟩ else some ⟨decide ((T : Int) ≤ tn), decide ((S : Int) ≤ wh)⟩) = some ⟨outB tn T, outB wh S⟩ := by
  unfold outB
  by_cases h1 : tn < 0
  · have e1 : decide (tn < 0 ∨ (T : Int) ≤ tn) = true := decide_eq_true (.inl h1)
    rw [if_pos h1, e1]
    by_cases h2 : wh < 0
    · rw [if_pos h2, decide_eq_true (show wh < 0 ∨ (S : Int) ≤ wh from .inl h2)]
    · rw [if_neg h2]
      congr 2
      exact decide_eq_decide.2 (by omega)
  · have e1 : decide (tn < 0 ∨ (T : Int) ≤ tn) = decide ((T : Int) ≤ tn) := decide_eq_decide.2 (by omega)
    rw [if_neg h1, e1]
    by_cases h2 : wh < 0
    · rw [if_pos h2, decide_eq_true (show wh < 0 ∨ (S : Int) ≤ wh from .inl h2)]
    · rw [if_neg h2]
      congr 2
      exact decide_eq_decide.2 (by omega)
theorem losts_eq (a b f : Bool) : (if a = true then (jB true f).bind fun t81 => (jB a f).bind fun t84 => (jB b f).bind fun t87 => (jB false f).bind fun t89 => (some ⟨t89, t81, t84, t87⟩ : Option yt) else (jB b f).bind fun t81 => (jB a f).bind fun t84 => (jB b f).bind fun t87 => (jB false f).bind fun t89 => some ⟨t89, t81, t84, t87⟩) = some ⟨lostV false f, lostV (a || b) f, lostV a f, lostV b f⟩ := by
  rw [lost_eq, lost_eq, lost_eq, lost_eq]
  cases a <;> rfl
theorem Taken_wrong {s : Scalps} (h : chk s ≠ 0) (a b : Int) : q7 s a b = some ⟨⟨0, 0⟩, chk s⟩ := by
  unfold q7; rw [zN h]; rfl
theorem Stolen_wrong {s : Scalps} (h : chk s ≠ 0) (a : Int) : qS s a = some ⟨⟨0, 0⟩, chk s⟩ := by
  unfold qS; rw [zN h]; rfl
theorem Missed_wrong {s : Scalps} (h : chk s ≠ 0) (a : Int) : qQ s a = some ⟨⟨0, 0⟩, chk s⟩ := by
  unfold qQ; rw [zN h]; rfl
theorem taken_L0 {s : Scalps} (h : Right s) (hN : stepN s.carried s.carried.length ≤ 500) {found : Bool} (hf : Fnd s found) (a b c : Int) (own : Scalps) : ∃ v, iterM FU (ka s ⟨lostV false found, a, b, c⟩ ⟨own, s⟩) ⟨0, []⟩ = some v ∧ kA s = some ⟨lostV false found, v⟩ ∧ v.length ≤ 5 := by
  have h5 := h.net.c5; have h6 := h.net.s6
  cases found with
  | false =>
    rcases Verdicts_spec h with ⟨lo, hi, h1, hr⟩ | ⟨h1, hn⟩
    · obtain ⟨⟨y, hy, _⟩, _⟩ := hr 0 h.c1
      exact absurd hy (hf.2 rfl y)
    · refine ⟨[], ?_, h1, by simp⟩
      obtain ⟨N, hNN⟩ : ∃ N, FU = N + 1 := ⟨FU - 1, by unfold FU; omega⟩
      have h0 : ka s ⟨lostV false false, a, b, c⟩ ⟨own, s⟩ ⟨0, []⟩ = some (.inr []) := by
        unfold ka
        have hc1 := h.c1
        rw [if_pos (by simp only; omega)]
        rfl
      rw [hNN, iterM_done h0]
  | true =>
    rcases Verdicts_spec h with ⟨lo, hi, h1, hr⟩ | ⟨h1, hn⟩
    · refine ⟨_, ?_, h1, by simp; omega⟩
      have key := iterM_run (f := ka s ⟨lostV false true, a, b, c⟩ ⟨own, s⟩) (fun j => ⟨(j : Int), (List.range j).map fun t => verd (lo t) (hi t)⟩) s.carried.length (b := (List.range s.carried.length).map fun t => verd (lo t) (hi t)) (fun j hj => ?_) ?_ FU (FU_lt (by omega))
      · exact key
      · unfold ka
        simp only
        rw [if_pos (by omega), Option.bind_some, if_pos (by rfl), refStolen_eq (by omega) (by omega), Option.bind_some]
        have hrg := rg_bool h hN (stB s (j : Int) (-1))
        rw [stB_ten] at hrg
        obtain ⟨lo', hi', h2, ha⟩ := rg_agr (out := false) hf hrg rfl
        obtain ⟨rfl, rfl⟩ := (ha.is rfl).uniq (hr j hj)
        have hap : ∀ v : Int, appc 8 ((List.range j).map fun t => verd (lo t) (hi t)) [v] = some ((List.range j).map (fun t => verd (lo t) (hi t)) ++ [v]) := fun v => appc_eq (by simp only [List.length_map, List.length_range, List.length_cons, List.length_nil]; omega)
        rw [h2, Option.bind_some]
        dsimp only
        rw [hap, hap, hap, Option.bind_some, Option.bind_some, Option.bind_some]
        have hv : (if hi j = 0 then (some ((List.range j).map (fun t => verd (lo t) (hi t)) ++ [1]) : Option (List Int)) else if 0 < lo j then some ((List.range j).map (fun t => verd (lo t) (hi t)) ++ [2]) else some ((List.range j).map (fun t => verd (lo t) (hi t)) ++ [0])) = some ((List.range (j + 1)).map fun t => verd (lo t) (hi t)) := by
          rw [List.range_succ, List.map_append]
          simp only [List.map_cons, List.map_nil]
          rw [show verd (lo j) (hi j) = if hi j = 0 then 1 else if 0 < lo j then 2 else 0 from rfl]
          split
          · rfl
          · split <;> rfl
        rw [hv, Option.bind_some, addc_eq (by omega), Option.bind_some]
        rfl
      · unfold ka
        simp
    · obtain ⟨y, hy⟩ := hf.1 rfl
      exact absurd hy (hn y)
theorem StripTaken_true {s : Scalps} (hs : s.strips.length ≤ 9223372036854775807) (hc : s.carried.length ≤ 9223372036854775807) (tn wh : Int) : zL s tn wh = some true := by
  unfold zL
  obtain ⟨b, hb, hw⟩ := wide_spec hc
  rw [hb, Option.bind_some]
  cases b with
  | true => rw [if_pos rfl, awake_eq]; rfl
  | false =>
    obtain ⟨hS, hT, hN⟩ := hw rfl
    rw [if_neg (by simp), own_eq (by omega) (by omega), Option.bind_some, theirs_eq (by omega) (by omega), Option.bind_some, Option.bind_some]
    dsimp only
    rw [refCheck_eq (by omega) (by omega), Option.bind_some]
    by_cases hk : chk s = 0
    · have hR := right_of hk
      have h5 := hR.net.c5; have h6 := hR.net.s6
      obtain ⟨cb, hcb, hrg⟩ := range_theft hR (hN hR)
      have hfnd : ∃ found lo hi, kr s cb = some ⟨lo, hi, found⟩ ∧ Fnd s found := by
        rcases hrg with ⟨lo, hi, h1, ⟨y, hy, _⟩, _⟩ | ⟨h1, hn⟩
        · exact ⟨true, lo, hi, h1, fun _ => ⟨y, hy⟩, fun h => by cases h⟩
        · exact ⟨false, 0, 0, h1, fun h => (by cases h), fun _ => hn⟩
      obtain ⟨found, lo0, hi0, hr0, hf⟩ := hfnd
      rw [hk, if_pos rfl, hcb, Option.bind_some, hr0, Option.bind_some, Option.bind_some, outs_eq, Option.bind_some]
      dsimp only
      rw [losts_eq, Option.bind_some]
      dsimp only
      obtain ⟨ta, tb, hta, hag⟩ := takenP hR hf tn wh
      obtain ⟨sa, sb, hsa, hsg⟩ := stolenP hR hf tn
      obtain ⟨ma, mb, hma, hmg⟩ := missedP hR hf wh
      obtain ⟨v, hv, hvd, hvl⟩ := taken_L0 hR (hN hR) hf (lostV (outB tn s.carried.length || outB wh s.strips.length) found) (lostV (outB tn s.carried.length) found) (lostV (outB wh s.strips.length) found) s
      have e5 : (if lostV (outB tn s.carried.length || outB wh s.strips.length) found = 0 then (Qg s tn wh).bind fun t97 => (kr s t97).bind fun t98 => (some ⟨t98.r0, t98.r1⟩ : Option zC) else some ⟨0, 0⟩) = some ⟨ta, tb⟩ := by
        by_cases h0 : lostV (outB tn s.carried.length || outB wh s.strips.length) found = 0
        · rw [if_pos h0]
          have ho : (outB tn s.carried.length || outB wh s.strips.length) = false := by
            cases hh : (outB tn s.carried.length || outB wh s.strips.length) with
            | false => rfl
            | true => rw [hh, lost_out] at h0; omega
          obtain ⟨o1, o2⟩ := Bool.or_eq_false_iff.1 ho
          obtain ⟨t, rfl, ht'⟩ := outB_not o1
          obtain ⟨k, rfl, hk'⟩ := outB_not o2
          rw [refJust_eq (by omega) (by omega) hk', Option.bind_some]
          have hrg := rg_bool hR (hN hR) (fun t' k' => decide (t' = t ∧ k' = k))
          obtain ⟨lo', hi', h2, ha⟩ := rg_agr (out := (outB (t : Int) s.carried.length || outB (k : Int) s.strips.length)) hf hrg h0
          obtain ⟨rfl, rfl⟩ := ha.uniq hag
          rw [h2]; rfl
        · rw [if_neg h0]
          obtain ⟨rfl, rfl⟩ := hag.zero h0
          rfl
      have e6 : (if lostV (outB tn s.carried.length) found = 0 then (qm s tn (-1)).bind fun t110 => (kr s t110).bind fun t111 => (some ⟨t111.r0, t111.r1⟩ : Option zE) else some ⟨0, 0⟩) = some ⟨sa, sb⟩ := by
        by_cases h0 : lostV (outB tn s.carried.length) found = 0
        · rw [if_pos h0]
          have o1 : outB tn s.carried.length = false := by
            cases hh : outB tn s.carried.length with
            | false => rfl
            | true => rw [hh, lost_out] at h0; omega
          obtain ⟨t, rfl, ht'⟩ := outB_not o1
          rw [refStolen_eq (by omega) (by omega), Option.bind_some]
          have hrg := rg_bool hR (hN hR) (stB s (t : Int) (-1))
          rw [stB_ten] at hrg
          obtain ⟨lo', hi', h2, ha⟩ := rg_agr (out := outB (t : Int) s.carried.length) hf hrg h0
          obtain ⟨rfl, rfl⟩ := ha.uniq hsg
          rw [h2]; rfl
        · rw [if_neg h0]
          obtain ⟨rfl, rfl⟩ := hsg.zero h0
          rfl
      have e7 : (if lostV (outB wh s.strips.length) found = 0 then (qm s (-1) wh).bind fun t123 => (kr s t123).bind fun t124 => (some ⟨t124.r0, t124.r1⟩ : Option zp) else some ⟨0, 0⟩) = some ⟨ma, mb⟩ := by
        by_cases h0 : lostV (outB wh s.strips.length) found = 0
        · rw [if_pos h0]
          have o1 : outB wh s.strips.length = false := by
            cases hh : outB wh s.strips.length with
            | false => rfl
            | true => rw [hh, lost_out] at h0; omega
          obtain ⟨k, rfl, hk'⟩ := outB_not o1
          rw [refStolen_eq (by omega) (by omega), Option.bind_some]
          have hrg := rg_bool hR (hN hR) (stB s (-1) (k : Int))
          rw [stB_strip] at hrg
          obtain ⟨lo', hi', h2, ha⟩ := rg_agr (out := outB (k : Int) s.strips.length) hf hrg h0
          obtain ⟨rfl, rfl⟩ := ha.uniq hmg
          rw [h2]; rfl
        · rw [if_neg h0]
          obtain ⟨rfl, rfl⟩ := hmg.zero h0
          rfl
      rw [e5, Option.bind_some, e6, Option.bind_some, e7, Option.bind_some, hv, Option.bind_some, Option.bind_some, hta, Option.bind_some, hsa, Option.bind_some, hma, Option.bind_some, hvd, Option.bind_some]
      dsimp only
      rw [if_pos rfl, if_pos rfl, if_pos rfl, if_pos rfl, if_pos rfl, if_pos rfl, if_pos rfl, eqVerdict (by omega), Option.bind_some, if_pos rfl, same_self (by omega) (by omega), Option.bind_some, if_pos rfl, awake_eq]
      rfl
    · rw [if_neg hk, Option.bind_some, Taken_wrong hk, Option.bind_some, Stolen_wrong hk, Option.bind_some, Missed_wrong hk, Option.bind_some, Verdicts_wrong hk, Option.bind_some]
      dsimp only
      rw [if_pos rfl, if_pos rfl, if_pos rfl, if_pos rfl, if_pos rfl, if_pos rfl, if_pos rfl, eqVerdict (by simp), Option.bind_some, if_pos rfl, same_self (by omega) (by omega), Option.bind_some, if_pos rfl, awake_eq]
      rfl
end Go.Proofs.Ws

