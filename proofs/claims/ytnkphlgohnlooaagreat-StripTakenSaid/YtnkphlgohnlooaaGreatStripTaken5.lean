/- What the functions that the law StripTaken reaches come to, and why it holds: part 5. -/
import Derived.Test.YtnkphlgohnlooaaGreatStripTaken4
namespace Go.Proofs.Ws
set_option maxHeartbeats 4000000
set_option maxRecDepth 100000
open Go Go.Fw Go.Gx Go.Sp
set_option linter.unusedVariables false
def kQ (s0 : (List Int)) (f1_c0_f0 : Scalps) : Option Bool :=
 (qw s0 f1_c0_f0).bind fun t7 =>
 some (decide (0 ≤ t7))
theorem JH (s0 : (List Int)) (f1_c0_f0 : Scalps) (qa0 : Option Addr) (na0 ca0 : Nat) (rb : Nat) (qa2 : Option Addr) (na2 ca2 : Nat) (qa3 : Option Addr) (na3 ca3 : Nat) (w : World) (hw : HV w (keys [] []) [] [] [(aB qa0, aO qa0, RI.enc s0), (rb, 0, [.func (.func 68) #[.agg #[.slice qa2 na2 ca2, .slice qa3 na3 ca3]] #[]]), (aB qa2, aO qa2, RSt.enc f1_c0_f0.strips), (aB qa3, aO qa3, RSp.enc f1_c0_f0.carried)] w) (hna0 : s0.length = na0) (hqa0 : AOK na0 qa0) (hla0 : na0 ≤ ca0)  (hna2 : f1_c0_f0.strips.length = na2) (hqa2 : AOK na2 qa2) (hla2 : na2 ≤ ca2) (hna3 : f1_c0_f0.carried.length = na3) (hqa3 : AOK na3 qa3) (hla3 : na3 ≤ ca3) {res : Bool} (hm : kQ s0 f1_c0_f0 = some res) :
    Calls Tryz.prog 110 #[.slice qa0 na0 ca0, .func (.func 111) #[] #[ptr rb 0]] w (fun en w' => ∃ l : Unit, en = .returned (.bool res) ∧ (True) ∧ HV w (keys [] []) [] [] [] w') := by
  unfold kQ at hm
  refine j5 Tryz.func110 rfl Tryz.ntmps110 rfl (e := [(0, _), (1, _)]) rfl hw (jq (jk rfl rfl (j0 (je rfl rfl (je rfl rfl ?_)))))
  obtain ⟨t7, h1, hm⟩ := bindO hm
  refine jd [] [] rfl rfl rfl rfl rfl rfl rfl Tryz.call132 (fun w hh => Kq s0 f1_c0_f0 qa0 na0 ca0 rb qa2 na2 ca2 qa3 na3 ca3 w (HV.callee (S0 := []) (vs0 := []) hh (roR hh 0 rfl (roR hh 1 rfl (roR hh 2 rfl (roR hh 3 rfl roN))))) hna0 hqa0 hla0 hna2 hqa2 hla2 hna3 hqa3 hla3 h1) (fun l h2 => ?_)
  refine jc rfl rfl rfl (fun _ _ => K1 rfl rfl) (jk rfl rfl (jp (jw ?_)))
  obtain rfl := sj hm
  refine jm rfl (fun w hh => (.tmp rfl .nil)) (fun w hh => ⟨(), rfl, trivial, hh.se [] [] 4 rfl rfl rfl rfl⟩)
def JA (l0 : (List Int)) (holds1_f0 : Scalps) : Option Bool :=
 (kQ l0 holds1_f0).bind fun t7 =>
 some (!t7)
theorem Yo (l0 : (List Int)) (holds1_f0 : Scalps) (qa0 : Option Addr) (na0 ca0 : Nat) (qa1 : Option Addr) (na1 ca1 : Nat) (qa2 : Option Addr) (na2 ca2 : Nat) (w : World) (hw : HV w (keys [] []) [] [] [(aB qa0, aO qa0, RI.enc l0), (aB qa1, aO qa1, RSt.enc holds1_f0.strips), (aB qa2, aO qa2, RSp.enc holds1_f0.carried)] w) (hna0 : l0.length = na0) (hqa0 : AOK na0 qa0) (hla0 : na0 ≤ ca0) (hna1 : holds1_f0.strips.length = na1) (hqa1 : AOK na1 qa1) (hla1 : na1 ≤ ca1) (hna2 : holds1_f0.carried.length = na2) (hqa2 : AOK na2 qa2) (hla2 : na2 ≤ ca2) {res : Bool} (hm : JA l0 holds1_f0 = some res) :
    Calls Tryz.prog 63 #[.slice qa0 na0 ca0, .func (.func 68) #[.agg #[.slice qa1 na1 ca1, .slice qa2 na2 ca2]] #[]] w (fun en w' => ∃ l : Unit, en = .returned (.bool res) ∧ (True) ∧ HV w (keys [] []) [] [] [] w') := by
  unfold JA at hm
  refine j5 Tryz.func63 rfl Tryz.ntmps63 rfl (e := [(0, _), (1, _)]) rfl hw (jq ?_)
  refine jC rfl rfl (fun b h1 => ?_)
  refine jk rfl rfl (j0 (je rfl rfl (jc rfl rfl rfl (fun _ _ => jK (u := #[]) (u' := #[_]) rfl rfl) ?_)))
  obtain ⟨t7, h2, hm⟩ := bindO hm
  refine jd [] [] rfl rfl rfl rfl rfl rfl rfl Tryz.call110 (fun w hh => JH l0 holds1_f0 qa0 na0 ca0 b qa1 na1 ca1 qa2 na2 ca2 w (HV.callee (S0 := []) (vs0 := []) hh (roR hh 0 rfl (roC (bsep (hh.bseg 0 rfl)) (roR hh 1 rfl (roR hh 2 rfl roN))))) hna0 hqa0 hla0 hna1 hqa1 hla1 hna2 hqa2 hla2 h2) (fun l h3 => ?_)
  refine jc rfl rfl rfl (fun _ _ => kE rfl) (jk rfl rfl (jp (jw ?_)))
  obtain rfl := sj hm
  refine jm rfl (fun w hh => (.tmp rfl .nil)) (fun w hh => ⟨(), rfl, trivial, hh.se [] [] 3 rfl rfl rfl rfl⟩)
def zj (x0 : Int) : Option Bool :=
 some (!decide (x0 = x0))
theorem KR (x0 : Int)  (w : World) (hw : HV w (keys [] []) [] [] [] w)  {res : Bool} (hm : zj x0 = some res) :
    Calls Tryz.prog 133 #[.int .i64 x0] w (fun en w' => ∃ l : Unit, en = .returned (.bool res) ∧ (True) ∧ HV w (keys [] []) [] [] [] w') := by
  unfold zj at hm
  refine j5 Tryz.func133 rfl Tryz.ntmps133 rfl (e := [(0, _)]) rfl hw (jq (jk rfl rfl (j0 (je rfl rfl (je rfl rfl (jc rfl rfl rfl (fun _ _ => q8 rfl rfl) (jk rfl rfl ?_)))))))
  refine jp (jw ?_)
  obtain rfl := sj hm
  refine jm rfl (fun w hh => (.tmp rfl .nil)) (fun w hh => ⟨(), rfl, trivial, hh⟩)
def JV (x0 : Int) (y1 : Int) : Option Bool :=
 ((zj x0).bind fun t6 =>
 if t6 = true then
 ((zj y1).bind fun t9 =>
 if (!t9) = true then
 (some true) else
 (some (decide (x0 < y1)))) else
 (some (decide (x0 < y1)))).bind fun o =>
 some o
theorem Yy (x0 : Int) (y1 : Int)  (w : World) (hw : HV w (keys [] []) [] [] [] w)  {res : Bool} (hm : JV x0 y1 = some res) :
    Calls Tryz.prog 113 #[.int .i64 x0, .int .i64 y1] w (fun en w' => ∃ l : Unit, en = .returned (.bool res) ∧ (True) ∧ HV w (keys [] []) [] [] [] w') := by
  unfold JV at hm
  refine j5 Tryz.func113 rfl Tryz.ntmps113 rfl (e := [(0, _), (1, _)]) rfl hw (jq (jk rfl rfl (jp (jj ?_))))
  obtain ⟨o, h1, h2⟩ := bindO hm
  refine jF (ι := Unit) (fun l => True) (fun l => [(4, .bool o)]) (fun l => []) (fun l => []) ?_ ?_
  ·replace hm := h1
   refine jh (je rfl rfl ?_)
   obtain ⟨t6, h3, hm⟩ := bindO hm
   refine jd [] [] rfl rfl rfl rfl rfl rfl rfl Tryz.call133 (fun w hh => KR x0 w (HV.callee (S0 := []) (vs0 := []) hh roN)  h3) (fun l_1 h4 => ?_)
   refine je rfl rfl ?_
   refine jJ 7 rfl (fun h5 => ?_) (fun h5 => ?_)
   ·replace hm := ifT (h5) hm
    refine jb rfl rfl (je rfl rfl (jb rfl rfl ?_))
    obtain ⟨t9, h6, hm⟩ := bindO hm
    refine jd [] [] rfl rfl rfl rfl rfl rfl rfl Tryz.call133 (fun w hh => KR y1 w (HV.callee (S0 := []) (vs0 := []) hh roN)  h6) (fun l_2 h7 => ?_)
    refine jb rfl rfl (jc rfl rfl rfl (fun _ _ => kE rfl) (kx rfl rfl rfl (je rfl rfl ?_)))
    refine jJ 12 rfl (fun h8 => ?_) (fun h8 => ?_)
    ·replace hm := ifT (h8) hm
     refine g_k rfl rfl rfl rfl (g_k rfl rfl rfl rfl (g_k rfl rfl rfl rfl (kx rfl rfl rfl (jk rfl rfl (jv ?_)))))
     obtain rfl := sj hm
     exact jg () (trivial) (sE rfl) (fun w hh => hh)
    ·replace hm := ifN h8 hm
     refine jb rfl rfl (je rfl rfl (jb rfl rfl (je rfl rfl (jb rfl rfl (yY rfl rfl rfl (j3 rfl rfl rfl (jk rfl rfl ?_)))))))
     refine jv ?_
     obtain rfl := sj hm
     exact jg () (trivial) (sE rfl) (fun w hh => hh)
   ·replace hm := ifN h5 hm
    refine g_k rfl rfl rfl rfl (g_k rfl rfl rfl rfl (g_k rfl rfl rfl rfl (j3 rfl rfl rfl (je rfl rfl (jb rfl rfl (je rfl rfl (jb rfl rfl ?_)))))))
    refine je rfl rfl (jb rfl rfl (yY rfl rfl rfl (j3 rfl rfl rfl (jk rfl rfl (jv ?_)))))
    obtain rfl := sj hm
    exact jg () (trivial) (sE rfl) (fun w hh => hh)
  ·intro l hj
   replace hm := h2
   refine ja (jw ?_)
   obtain rfl := sj hm
   refine jm rfl (fun w hh => (.tmp rfl .nil)) (fun w hh => ⟨(), rfl, trivial, hh⟩)
def zg (x0 : (List Int)) (s : Int) : Option (Int ⊕ (Unit ⊕ Bool)) :=
 if 0 < s then
 ((ix x0 s).bind fun t13 =>
 (subc s 1).bind fun t17 =>
 (ix x0 t17).bind fun t18 =>
 (JV t13 t18).bind fun t20 =>
 if t20 = true then
 (some (.inr (.inr false))) else
 ((subc s 1).bind fun t10 =>
 some (.inl t10))) else
 (some (.inr (.inl ())))
def qa (x0 : (List Int)) : Option Bool :=
 (subc (x0.length : Int) 1).bind fun t6 =>
 (iterM FU (zg x0) t6).bind fun o =>
 oc o (fun j => some true) (fun r_1 => some r_1)
theorem Jg (x0 : (List Int)) (qa0 : Option Addr) (na0 ca0 : Nat) (w : World) (hw : HV w (keys [] []) [] [] [(aB qa0, aO qa0, RI.enc x0)] w) (hna0 : x0.length = na0) (hqa0 : AOK na0 qa0) (hla0 : na0 ≤ ca0) {res : Bool} (hm : qa x0 = some res) :
    Calls Tryz.prog 69 #[.slice qa0 na0 ca0] w (fun en w' => ∃ l : Unit, en = .returned (.bool res) ∧ (True) ∧ HV w (keys [] []) [] [] [] w') := by
  unfold qa at hm
  refine j5 Tryz.func69 rfl Tryz.ntmps69 rfl (e := [(0, _)]) rfl hw (jq (jk rfl rfl (jp (jj (jq (je rfl rfl (jc rfl rfl rfl (fun w _ => jI hna0 (Tryz.runUnderlying26 w) rfl) ?_)))))))
  obtain ⟨t6, h1, hm⟩ := bindO hm
  refine jc rfl rfl rfl (fun _ _ => yb h1 rfl rfl) (jk rfl rfl (jp ?_))
  obtain ⟨o, h2, h3⟩ := bindO hm
  refine jF (ι := Unit) (fun j => o = .inl j) (fun j => []) (fun j => []) (fun j => []) ?_ ?_
  ·replace hm := h2
   refine jn ?_
   refine jL (ι := Unit) hm (fun s l => True) (fun s l => [(0, .slice qa0 na0 ca0), (3, .int .i64 s)]) (fun s l => []) (fun s l => []) () (trivial) (sE rfl) (fun w hh => hh) (fun s l r hpl hm h4 => ?_)
   unfold zg at hm
   refine jj (jq (je rfl rfl (jc rfl rfl rfl (fun _ _ => Qy rfl rfl) (jp ?_))))
   refine js rfl (fun h5 => ?_) (fun h5 => ?_)
   ·replace hm := ifD h5 hm
    refine ju (ja (jj (jn (jj ?_))))
    refine jX none (.free 0 (.free 1 (.free 2 (.hoist 3 (.free 4 (.free 5 (.free 6 (.free 7 (.hoist 8 (.one 9 .done)))))))))) _ rfl (by decide +kernel) (fun w k hh => hh.draw k) (fun w hh => hh) ?_
    refine ku rfl rfl rfl (ku rfl rfl rfl ?_)
    obtain ⟨t13, h6, hm⟩ := bindO hm
    refine ji rfl rfl rfl rfl (fun w _ => ki h6 (Tryz.runUnderlying26 w) (Tryz.sizeOf3 w) rfl rfl hna0 hqa0) (jD rfl rfl rfl rfl (fun w hh => kl RI 0 h6 (Tryz.isAgg3 w) rfl (hh.seg 0 rfl) rfl (Nat.add_zero _).symm) (ku rfl rfl rfl (ku rfl rfl rfl ?_)))
    obtain ⟨t17, h7, hm⟩ := bindO hm
    refine ji rfl rfl rfl rfl (fun _ _ => yb h7 rfl rfl) ?_
    obtain ⟨t18, h8, hm⟩ := bindO hm
    refine ji rfl rfl rfl rfl (fun w _ => ki h8 (Tryz.runUnderlying26 w) (Tryz.sizeOf3 w) rfl rfl hna0 hqa0) (jD rfl rfl rfl rfl (fun w hh => kl RI 0 h8 (Tryz.isAgg3 w) rfl (hh.seg 0 rfl) rfl (Nat.add_zero _).symm) (jE rfl ?_))
    obtain ⟨t20, h9, hm⟩ := bindO hm
    refine jd [] [] rfl rfl rfl rfl rfl rfl rfl Tryz.call113 (fun w hh => Yy t13 t18 w (HV.callee (S0 := []) (vs0 := []) hh roN)  h9) (fun l_1 h10 => ?_)
    refine jr (fun w hh => hh) (jM (ja ?_))
    refine js rfl (fun h11 => ?_) (fun h11 => ?_)
    ·replace hm := ifT (h11) hm
     refine jq (jk rfl rfl (jp (jw (jx (jf (jf (jx ?_)))))))
     obtain rfl := sj hm
     have hbo := h4 _ rfl
     subst hbo
     refine jf ?_
     replace hm := ocR h3
     refine jf ?_
     obtain rfl := sj hm
     refine jm rfl (fun w hh => (.tmp rfl .nil)) (fun w hh => ⟨(), rfl, trivial, hh.se [] [] 1 rfl rfl rfl rfl⟩)
    ·replace hm := ifN h11 hm
     refine ju (jt (ja (jh (je rfl rfl ?_))))
     obtain ⟨t10, h12, hm⟩ := bindO hm
     refine jc rfl rfl rfl (fun _ _ => yb h12 rfl rfl) (jk rfl rfl (jv ?_))
     obtain rfl := sj hm
     refine ja ?_
     exact jA _ () rfl (trivial) (sE rfl) (fun w hh => hh)
   ·replace hm := ifE h5 hm
    refine jS (jl (jl (jG ?_)))
    obtain rfl := sj hm
    have hbo := h4 _ rfl
    subst hbo
    exact jg () (rfl) (.nil) (fun w hh => hh)
  ·intro j hj
   have h13 := hj
   subst h13
   replace hm := ocL h3
   refine ja (jq (jk rfl rfl (jp (jw ?_))))
   obtain rfl := sj hm
   refine jm rfl (fun w hh => (.tmp rfl .nil)) (fun w hh => ⟨(), rfl, trivial, hh.se [] [] 1 rfl rfl rfl rfl⟩)
def yq (s0 : (List Int)) : Option (List Int) :=
 if 0 < (s0.length : Int) then ((appc 8 [] s0).bind fun t7 =>
 some t7) else none
theorem Kj (s0 : (List Int)) (qa0 : Option Addr) (na0 ca0 : Nat) (w : World) (hw : HV w (keys [] []) [] [] [(aB qa0, aO qa0, RI.enc s0)] w) (hna0 : s0.length = na0) (hqa0 : AOK na0 qa0) (hla0 : na0 ≤ ca0) {res : (List Int)} (hm : yq s0 = some res) :
    Calls Tryz.prog 71 #[.slice qa0 na0 ca0] w (fun en w' => ∃ l : VL, en = .returned (slv l.q l.n l.cap) ∧ (VOK 1 l.n l.cap (RI.enc res) l.sp l.q) ∧ HV w (keys [] []) [] [⟨3, RI.enc res, l.sp, l.q, []⟩] [] w') := by
  unfold yq at hm
  refine j5 Tryz.func71 rfl Tryz.ntmps71 rfl (e := [(0, _)]) rfl hw (jq (jc rfl rfl rfl (fun _ _ => kX rfl) (jp (jj (jq (je rfl rfl ?_))))))
  obtain ⟨h2, hm⟩ := ifO hm
  refine jc rfl rfl rfl (fun w _ => ZK hqa0 (len_posN hna0 h2) (Tryz.runUnderlying26 w) rfl rfl) (jp (qW rfl rfl (ju (ja (jq ?_)))))
  refine ZJ RI (fun w => Tryz.runUnderlying26 w) (fun w => Tryz.sizeOf3 w) rfl rfl (fun L h3 => ?_)
  refine je rfl rfl ?_
  obtain ⟨t7, h4, hm⟩ := bindO hm
  refine yh RI 0 h4 Tryz.underlying26 JM rfl rfl rfl rfl rfl h3 rfl rfl hna0 hqa0 (fun w hh => (hh.seg 0 rfl)) rfl (fun L_1 h5 h5n => ?_)
  refine jT (S' := []) (vs' := [_]) [] [0] 0 rfl rfl rfl rfl (jk rfl rfl (jp (jw ?_)))
  obtain rfl := sj hm
  refine jm rfl (fun w hh => (.tmp rfl .nil)) (fun w hh => ⟨L_1, rfl, h5, hh.se [] [0] 1 rfl rfl rfl rfl⟩)
def Jh (s0 : (List Int)) (v1 : Int) (s : Int) : Option (Int ⊕ (Unit ⊕ Int)) :=
 if s < (s0.length : Int) then
 ((ix s0 s).bind fun t14 =>
 if v1 = t14 then
 (some (.inr (.inr s))) else
 ((addc s 1).bind fun t18 =>
 some (.inl t18))) else
 (some (.inr (.inl ())))
def zu (s0 : (List Int)) (v1 : Int) : Option Int :=
 (iterM FU (Jh s0 v1) 0).bind fun o =>
 oc o (fun j => some (-1)) (fun r_1 => some r_1)
theorem QZ (s0 : (List Int)) (v1 : Int) (qa0 : Option Addr) (na0 ca0 : Nat) (w : World) (hw : HV w (keys [] []) [] [] [(aB qa0, aO qa0, RI.enc s0)] w) (hna0 : s0.length = na0) (hqa0 : AOK na0 qa0) (hla0 : na0 ≤ ca0) {res : Int} (hm : zu s0 v1 = some res) :
    Calls Tryz.prog 134 #[.slice qa0 na0 ca0, .int .i64 v1] w (fun en w' => ∃ l : Unit, en = .returned (.int .i64 res) ∧ (True) ∧ HV w (keys [] []) [] [] [] w') := by
  unfold zu at hm
  refine j5 Tryz.func134 rfl Tryz.ntmps134 rfl (e := [(0, _), (1, _)]) rfl hw (jq (jk rfl rfl (jp (jj (jq (je rfl rfl (jc rfl rfl rfl (fun w _ => jI hna0 (Tryz.runUnderlying26 w) rfl) ?_)))))))
  refine je rfl rfl (jp ?_)
  obtain ⟨o, h1, h2⟩ := bindO hm
  refine jF (ι := Unit) (fun j => o = .inl j) (fun j => []) (fun j => []) (fun j => []) ?_ ?_
  ·replace hm := h1
   refine jn ?_
   refine jL (ι := Unit) hm (fun s l => True) (fun s l => [(0, .slice qa0 na0 ca0), (1, .int .i64 v1), (7, .int .i64 (s0.length : Int)), (8, .int .i64 s)]) (fun s l => []) (fun s l => []) () (trivial) (sE rfl) (fun w hh => hh) (fun s l r hpl hm h3 => ?_)
   unfold Jh at hm
   refine jq (yY rfl rfl rfl (jp (jj ?_)))
   refine js rfl (fun h4 => ?_) (fun h4 => ?_)
   ·replace hm := ifD h4 hm
    refine ju (ja (jj (jn (jq (je rfl rfl (jk rfl rfl (j0 ?_)))))))
    refine je rfl rfl (je rfl rfl (je rfl rfl ?_))
    obtain ⟨t14, h5, hm⟩ := bindO hm
    refine jc rfl rfl rfl (fun w _ => ki h5 (Tryz.runUnderlying26 w) (Tryz.sizeOf3 w) rfl rfl hna0 hqa0) (jc rfl rfl rfl (fun w hh => kl RI 0 h5 (Tryz.isAgg3 w) rfl (hh.seg 0 rfl) rfl (Nat.add_zero _).symm) (jc rfl rfl rfl (fun _ _ => yD rfl rfl) (jp ?_)))
    refine js rfl (fun h6 => ?_) (fun h6 => ?_)
    ·replace hm := ifD h6 hm
     refine jq (je rfl rfl (jk rfl rfl (jp (jw (jx (jf (jf ?_)))))))
     refine jx ?_
     obtain rfl := sj hm
     have hbo := h3 _ rfl
     subst hbo
     refine jf ?_
     replace hm := ocR h2
     refine jf ?_
     obtain rfl := sj hm
     refine jm rfl (fun w hh => (.tmp rfl .nil)) (fun w hh => ⟨(), rfl, trivial, hh.se [] [] 1 rfl rfl rfl rfl⟩)
    ·replace hm := ifE h6 hm
     refine ju (jt (ja (jh ?_)))
     obtain ⟨t18, h7, hm⟩ := bindO hm
     refine qs h7 rfl rfl rfl (je rfl rfl (jv ?_))
     obtain rfl := sj hm
     refine ja ?_
     exact jA _ () rfl (trivial) (sE rfl) (fun w hh => hh)
   ·replace hm := ifE h4 hm
    refine jS (jl (jl (jG ?_)))
    obtain rfl := sj hm
    have hbo := h3 _ rfl
    subst hbo
    exact jg () (rfl) (.nil) (fun w hh => hh)
  ·intro j hj
   have h8 := hj
   subst h8
   replace hm := ocL h2
   refine ja (jq (jk rfl rfl (jp (jw ?_))))
   obtain rfl := sj hm
   refine jm rfl (fun w hh => (.tmp rfl .nil)) (fun w hh => ⟨(), rfl, trivial, hh.se [] [] 1 rfl rfl rfl rfl⟩)
def k7 (s0 : (List Int)) (v1 : Int) : Option Bool :=
 (zu s0 v1).bind fun t7 =>
 some (decide (0 ≤ t7))
theorem Jf (s0 : (List Int)) (v1 : Int) (qa0 : Option Addr) (na0 ca0 : Nat) (w : World) (hw : HV w (keys [] []) [] [] [(aB qa0, aO qa0, RI.enc s0)] w) (hna0 : s0.length = na0) (hqa0 : AOK na0 qa0) (hla0 : na0 ≤ ca0) {res : Bool} (hm : k7 s0 v1 = some res) :
    Calls Tryz.prog 114 #[.slice qa0 na0 ca0, .int .i64 v1] w (fun en w' => ∃ l : Unit, en = .returned (.bool res) ∧ (True) ∧ HV w (keys [] []) [] [] [] w') := by
  unfold k7 at hm
  refine j5 Tryz.func114 rfl Tryz.ntmps114 rfl (e := [(0, _), (1, _)]) rfl hw (jq (jk rfl rfl (j0 (je rfl rfl (je rfl rfl ?_)))))
  obtain ⟨t7, h1, hm⟩ := bindO hm
  refine jd [] [] rfl rfl rfl rfl rfl rfl rfl Tryz.call134 (fun w hh => QZ s0 v1 qa0 na0 ca0 w (HV.callee (S0 := []) (vs0 := []) hh (roR hh 0 rfl roN)) hna0 hqa0 hla0 h1) (fun l h2 => ?_)
  refine jc rfl rfl rfl (fun _ _ => K1 rfl rfl) (jk rfl rfl (jp (jw ?_)))
  obtain rfl := sj hm
  refine jm rfl (fun w hh => (.tmp rfl .nil)) (fun w hh => ⟨(), rfl, trivial, hh.se [] [] 1 rfl rfl rfl rfl⟩)
def Je (k0 : Int) (a110 : (List Strip)) (a111 : (List Span)) (a112 : (List (Pair × Bool))) (a22 : Int) : Option Bool :=
 some ((aget a112 (⟨a22, k0⟩ : Pair)).getD false)
theorem Ya (k0 : Int) (a110 : (List Strip)) (a111 : (List Span)) (a112 : (List (Pair × Bool))) (a22 : Int) (rb : Nat) (rb_1 : Nat) (qa2 : Option Addr) (na2 ca2 : Nat) (qa3 : Option Addr) (na3 ca3 : Nat) (pb : Nat) (rb_2 : Nat) (w : World) (hw : HV w (keys [(pb, gobj (kR RPr) kB a112)] []) [(pb, gobj (kR RPr) kB a112)] [] [(rb, 0, [ptr rb_1 0]), (rb_1, 0, [.slice qa2 na2 ca2, .slice qa3 na3 ca3, .map (some pb)]), (aB qa2, aO qa2, RSt.enc a110), (aB qa3, aO qa3, RSp.enc a111), (rb_2, 0, [.int .i64 a22])] w)   (hna2 : a110.length = na2) (hqa2 : AOK na2 qa2) (hla2 : na2 ≤ ca2) (hna3 : a111.length = na3) (hqa3 : AOK na3 qa3) (hla3 : na3 ≤ ca3)  {res : Bool} (hm : Je k0 a110 a111 a112 a22 = some res) :
    Calls Tryz.prog 115 #[.int .i64 k0, ptr rb 0, ptr rb_2 0] w (fun en w' => ∃ l : Unit, en = .returned (.bool res) ∧ (True) ∧ HV w (keys [(pb, gobj (kR RPr) kB a112)] []) [(pb, gobj (kR RPr) kB a112)] [] [] w') := by
  unfold Je at hm
  refine j5 Tryz.func115 rfl Tryz.ntmps115 rfl (e := [(0, _), (1, _), (2, _)]) rfl hw (jq (jk rfl rfl (jp (jj ?_))))
  refine jX none (.hoist 0 (.free 1 (.free 2 (.hoist 3 (.hoist 4 (.free 5 (.free 6 (.hoist 7 (.free 8 .done))))))))) _ rfl (by decide +kernel) (fun w k hh => hh.draw k) (fun w hh => hh) ?_
  refine jD rfl rfl rfl rfl (fun w hh => jR (Tryz.isAgg107 w) rfl (segCell (hh.seg 0 rfl) 0 rfl)) (ji rfl rfl rfl rfl (fun _ _ => jN rfl) (k5 2 Tryz.runUnderlying144 Tryz.sizeOf142 rfl rfl rfl rfl (jD rfl rfl rfl rfl (fun w hh => jR (Tryz.isAgg142 w) rfl (segCell (hh.seg 1 rfl) 2 rfl)) (jD rfl rfl rfl rfl (fun w hh => jR (Tryz.isAgg3 w) rfl (segCell (hh.seg 4 rfl) 0 rfl)) (ku rfl rfl rfl (ji rfl rfl rfl rfl (fun _ _ => jz (vs := [(0, _), (1, _)]) (cells := [_, _]) rfl rfl) ?_))))))
  refine jD rfl rfl rfl rfl (fun w hh => ZI (k := (⟨a22, k0⟩ : Pair)) (z := false) (Tryz.runUnderlying142 w) YV (Tryz.zeroValue4 w) rfl rfl (hh.mget 0 rfl)) ?_
  refine ji rfl rfl rfl rfl (fun _ _ => jH rfl) (jM (ja (jw ?_)))
  obtain rfl := sj hm
  refine jm rfl (fun w hh => (.tmp rfl .nil)) (fun w hh => ⟨(), rfl, trivial, hh.se [0] [] 5 rfl rfl rfl rfl⟩)
def yz (s0 : (List Int)) (f1_c00 : (List Strip)) (f1_c01 : (List Span)) (f1_c02 : (List (Pair × Bool))) (f1_c1 : Int) (s : Int) : Option (Int ⊕ (Unit ⊕ Int)) :=
 if s < (s0.length : Int) then
 ((ix s0 s).bind fun t14 =>
 (Je t14 f1_c00 f1_c01 f1_c02 f1_c1).bind fun t16 =>
 if t16 = true then
 (some (.inr (.inr s))) else
 ((addc s 1).bind fun t18 =>
 some (.inl t18))) else
 (some (.inr (.inl ())))
def qv (s0 : (List Int)) (f1_c00 : (List Strip)) (f1_c01 : (List Span)) (f1_c02 : (List (Pair × Bool))) (f1_c1 : Int) : Option Int :=
 (iterM FU (yz s0 f1_c00 f1_c01 f1_c02 f1_c1) 0).bind fun o =>
 oc o (fun j => some (-1)) (fun r_1 => some r_1)
theorem KI (s0 : (List Int)) (f1_c00 : (List Strip)) (f1_c01 : (List Span)) (f1_c02 : (List (Pair × Bool))) (f1_c1 : Int) (qa0 : Option Addr) (na0 ca0 : Nat) (rb : Nat) (rb_1 : Nat) (qa3 : Option Addr) (na3 ca3 : Nat) (qa4 : Option Addr) (na4 ca4 : Nat) (pb : Nat) (rb_2 : Nat) (w : World) (hw : HV w (keys [(pb, gobj (kR RPr) kB f1_c02)] []) [(pb, gobj (kR RPr) kB f1_c02)] [] [(aB qa0, aO qa0, RI.enc s0), (rb, 0, [ptr rb_1 0]), (rb_1, 0, [.slice qa3 na3 ca3, .slice qa4 na4 ca4, .map (some pb)]), (aB qa3, aO qa3, RSt.enc f1_c00), (aB qa4, aO qa4, RSp.enc f1_c01), (rb_2, 0, [.int .i64 f1_c1])] w) (hna0 : s0.length = na0) (hqa0 : AOK na0 qa0) (hla0 : na0 ≤ ca0)   (hna3 : f1_c00.length = na3) (hqa3 : AOK na3 qa3) (hla3 : na3 ≤ ca3) (hna4 : f1_c01.length = na4) (hqa4 : AOK na4 qa4) (hla4 : na4 ≤ ca4)  {res : Int} (hm : qv s0 f1_c00 f1_c01 f1_c02 f1_c1 = some res) :
    Calls Tryz.prog 132 #[.slice qa0 na0 ca0, .func (.func 115) #[] #[ptr rb 0, ptr rb_2 0]] w (fun en w' => ∃ l : Unit, en = .returned (.int .i64 res) ∧ (True) ∧ HV w (keys [(pb, gobj (kR RPr) kB f1_c02)] []) [(pb, gobj (kR RPr) kB f1_c02)] [] [] w') := by
  unfold qv at hm
  refine j5 Tryz.func132 rfl Tryz.ntmps132 rfl (e := [(0, _), (1, _)]) rfl hw (jq (jk rfl rfl (jp (jj (jq (je rfl rfl (jc rfl rfl rfl (fun w _ => jI hna0 (Tryz.runUnderlying26 w) rfl) ?_)))))))
  refine je rfl rfl (jp ?_)
  obtain ⟨o, h1, h2⟩ := bindO hm
  refine jF (ι := Unit) (fun j => o = .inl j) (fun j => []) (fun j => [(pb, gobj (kR RPr) kB f1_c02)]) (fun j => []) ?_ ?_
  ·replace hm := h1
   refine jn ?_
   refine jL (ι := Unit) hm (fun s l => True) (fun s l => [(0, .slice qa0 na0 ca0), (1, .func (.func 115) #[] #[ptr rb 0, ptr rb_2 0]), (7, .int .i64 (s0.length : Int)), (8, .int .i64 s)]) (fun s l => [(pb, gobj (kR RPr) kB f1_c02)]) (fun s l => []) () (trivial) (sE rfl) (fun w hh => hh) (fun s l r hpl hm h3 => ?_)
   unfold yz at hm
   refine jq (yY rfl rfl rfl (jp (jj ?_)))
   refine js rfl (fun h4 => ?_) (fun h4 => ?_)
   ·replace hm := ifD h4 hm
    refine ju (ja (jj (jn (jq (je rfl rfl (jk rfl rfl (j0 ?_)))))))
    refine je rfl rfl (je rfl rfl (je rfl rfl ?_))
    obtain ⟨t14, h5, hm⟩ := bindO hm
    refine jc rfl rfl rfl (fun w _ => ki h5 (Tryz.runUnderlying26 w) (Tryz.sizeOf3 w) rfl rfl hna0 hqa0) (jc rfl rfl rfl (fun w hh => kl RI 0 h5 (Tryz.isAgg3 w) rfl (hh.seg 0 rfl) rfl (Nat.add_zero _).symm) ?_)
    obtain ⟨t16, h6, hm⟩ := bindO hm
    refine jd [_] [] rfl rfl rfl rfl rfl rfl rfl Tryz.call115 (fun w hh => Ya t14 f1_c00 f1_c01 f1_c02 f1_c1 rb rb_1 qa3 na3 ca3 qa4 na4 ca4 pb rb_2 w (HV.callee (S0 := [_]) (vs0 := []) hh (roR hh 1 rfl (roR hh 2 rfl (roR hh 3 rfl (roR hh 4 rfl (roR hh 5 rfl roN)))))) hna3 hqa3 hla3 hna4 hqa4 hla4 h6) (fun l_1 h7 => ?_)
    refine jT (S' := [_]) (vs' := []) [0] [] 0 rfl rfl rfl rfl (jp ?_)
    refine js rfl (fun h8 => ?_) (fun h8 => ?_)
    ·replace hm := ifT (h8) hm
     refine jq (je rfl rfl (jk rfl rfl (jp (jw (jx (jf (jf ?_)))))))
     refine jx ?_
     obtain rfl := sj hm
     have hbo := h3 _ rfl
     subst hbo
     refine jf ?_
     replace hm := ocR h2
     refine jf ?_
     obtain rfl := sj hm
     refine jm rfl (fun w hh => (.tmp rfl .nil)) (fun w hh => ⟨(), rfl, trivial, hh.se [0] [] 6 rfl rfl rfl rfl⟩)
    ·replace hm := ifN h8 hm
     refine ju (jt (ja (jh ?_)))
     obtain ⟨t18, h9, hm⟩ := bindO hm
     refine qs h9 rfl rfl rfl (je rfl rfl (jv ?_))
     obtain rfl := sj hm
     refine ja ?_
     exact jA _ () rfl (trivial) (sE rfl) (fun w hh => hh)
   ·replace hm := ifE h4 hm
    refine jS (jl (jl (jG ?_)))
    obtain rfl := sj hm
    have hbo := h3 _ rfl
    subst hbo
    exact jg () (rfl) (.nil) (fun w hh => hh)
  ·intro j hj
   have h10 := hj
   subst h10
   replace hm := ocL h2
   refine ja (jq (jk rfl rfl (jp (jw ?_))))
   obtain rfl := sj hm
   refine jm rfl (fun w hh => (.tmp rfl .nil)) (fun w hh => ⟨(), rfl, trivial, hh.se [0] [] 6 rfl rfl rfl rfl⟩)
def kS (s0 : (List Int)) (f1_c00 : (List Strip)) (f1_c01 : (List Span)) (f1_c02 : (List (Pair × Bool))) (f1_c1 : Int) : Option Bool :=
 (qv s0 f1_c00 f1_c01 f1_c02 f1_c1).bind fun t7 =>
 some (decide (0 ≤ t7))
theorem JI (s0 : (List Int)) (f1_c00 : (List Strip)) (f1_c01 : (List Span)) (f1_c02 : (List (Pair × Bool))) (f1_c1 : Int) (qa0 : Option Addr) (na0 ca0 : Nat) (rb : Nat) (rb_1 : Nat) (qa3 : Option Addr) (na3 ca3 : Nat) (qa4 : Option Addr) (na4 ca4 : Nat) (pb : Nat) (rb_2 : Nat) (w : World) (hw : HV w (keys [(pb, gobj (kR RPr) kB f1_c02)] []) [(pb, gobj (kR RPr) kB f1_c02)] [] [(aB qa0, aO qa0, RI.enc s0), (rb, 0, [ptr rb_1 0]), (rb_1, 0, [.slice qa3 na3 ca3, .slice qa4 na4 ca4, .map (some pb)]), (aB qa3, aO qa3, RSt.enc f1_c00), (aB qa4, aO qa4, RSp.enc f1_c01), (rb_2, 0, [.int .i64 f1_c1])] w) (hna0 : s0.length = na0) (hqa0 : AOK na0 qa0) (hla0 : na0 ≤ ca0)   (hna3 : f1_c00.length = na3) (hqa3 : AOK na3 qa3) (hla3 : na3 ≤ ca3) (hna4 : f1_c01.length = na4) (hqa4 : AOK na4 qa4) (hla4 : na4 ≤ ca4)  {res : Bool} (hm : kS s0 f1_c00 f1_c01 f1_c02 f1_c1 = some res) :
    Calls Tryz.prog 110 #[.slice qa0 na0 ca0, .func (.func 115) #[] #[ptr rb 0, ptr rb_2 0]] w (fun en w' => ∃ l : Unit, en = .returned (.bool res) ∧ (True) ∧ HV w (keys [(pb, gobj (kR RPr) kB f1_c02)] []) [(pb, gobj (kR RPr) kB f1_c02)] [] [] w') := by
  unfold kS at hm
  refine j5 Tryz.func110 rfl Tryz.ntmps110 rfl (e := [(0, _), (1, _)]) rfl hw (jq (jk rfl rfl (j0 (je rfl rfl (je rfl rfl ?_)))))
  obtain ⟨t7, h1, hm⟩ := bindO hm
  refine jd [_] [] rfl rfl rfl rfl rfl rfl rfl Tryz.call132 (fun w hh => KI s0 f1_c00 f1_c01 f1_c02 f1_c1 qa0 na0 ca0 rb rb_1 qa3 na3 ca3 qa4 na4 ca4 pb rb_2 w (HV.callee (S0 := [_]) (vs0 := []) hh (roR hh 0 rfl (roR hh 1 rfl (roR hh 2 rfl (roR hh 3 rfl (roR hh 4 rfl (roR hh 5 rfl roN))))))) hna0 hqa0 hla0 hna3 hqa3 hla3 hna4 hqa4 hla4 h1) (fun l h2 => ?_)
  refine jT (S' := [_]) (vs' := []) [0] [] 0 rfl rfl rfl rfl (jc rfl rfl rfl (fun _ _ => K1 rfl rfl) (jk rfl rfl (jp (jw ?_))))
  obtain rfl := sj hm
  refine jm rfl (fun w hh => (.tmp rfl .nil)) (fun w hh => ⟨(), rfl, trivial, hh.se [0] [] 6 rfl rfl rfl rfl⟩)
def Jb (t0 : Int) (a110 : (List Strip)) (a111 : (List Span)) (a112 : (List (Pair × Bool))) (a22 : Int) : Option Bool :=
 some ((aget a112 (⟨t0, a22⟩ : Pair)).getD false)
theorem Yb (t0 : Int) (a110 : (List Strip)) (a111 : (List Span)) (a112 : (List (Pair × Bool))) (a22 : Int) (rb : Nat) (rb_1 : Nat) (qa2 : Option Addr) (na2 ca2 : Nat) (qa3 : Option Addr) (na3 ca3 : Nat) (pb : Nat) (rb_2 : Nat) (w : World) (hw : HV w (keys [(pb, gobj (kR RPr) kB a112)] []) [(pb, gobj (kR RPr) kB a112)] [] [(rb, 0, [ptr rb_1 0]), (rb_1, 0, [.slice qa2 na2 ca2, .slice qa3 na3 ca3, .map (some pb)]), (aB qa2, aO qa2, RSt.enc a110), (aB qa3, aO qa3, RSp.enc a111), (rb_2, 0, [.int .i64 a22])] w)   (hna2 : a110.length = na2) (hqa2 : AOK na2 qa2) (hla2 : na2 ≤ ca2) (hna3 : a111.length = na3) (hqa3 : AOK na3 qa3) (hla3 : na3 ≤ ca3)  {res : Bool} (hm : Jb t0 a110 a111 a112 a22 = some res) :
    Calls Tryz.prog 116 #[.int .i64 t0, ptr rb 0, ptr rb_2 0] w (fun en w' => ∃ l : Unit, en = .returned (.bool res) ∧ (True) ∧ HV w (keys [(pb, gobj (kR RPr) kB a112)] []) [(pb, gobj (kR RPr) kB a112)] [] [] w') := by
  unfold Jb at hm
  refine j5 Tryz.func116 rfl Tryz.ntmps116 rfl (e := [(0, _), (1, _), (2, _)]) rfl hw (jq (jk rfl rfl (jp (jj ?_))))
  refine jX none (.hoist 0 (.free 1 (.free 2 (.hoist 3 (.free 4 (.hoist 5 (.free 6 (.hoist 7 (.free 8 .done))))))))) _ rfl (by decide +kernel) (fun w k hh => hh.draw k) (fun w hh => hh) ?_
  refine jD rfl rfl rfl rfl (fun w hh => jR (Tryz.isAgg107 w) rfl (segCell (hh.seg 0 rfl) 0 rfl)) (ji rfl rfl rfl rfl (fun _ _ => jN rfl) (k5 2 Tryz.runUnderlying144 Tryz.sizeOf142 rfl rfl rfl rfl (jD rfl rfl rfl rfl (fun w hh => jR (Tryz.isAgg142 w) rfl (segCell (hh.seg 1 rfl) 2 rfl)) (ku rfl rfl rfl (jD rfl rfl rfl rfl (fun w hh => jR (Tryz.isAgg3 w) rfl (segCell (hh.seg 4 rfl) 0 rfl)) (ji rfl rfl rfl rfl (fun _ _ => jz (vs := [(0, _), (1, _)]) (cells := [_, _]) rfl rfl) ?_))))))
  refine jD rfl rfl rfl rfl (fun w hh => ZI (k := (⟨t0, a22⟩ : Pair)) (z := false) (Tryz.runUnderlying142 w) YV (Tryz.zeroValue4 w) rfl rfl (hh.mget 0 rfl)) ?_
  refine ji rfl rfl rfl rfl (fun _ _ => jH rfl) (jM (ja (jw ?_)))
  obtain rfl := sj hm
  refine jm rfl (fun w hh => (.tmp rfl .nil)) (fun w hh => ⟨(), rfl, trivial, hh.se [0] [] 5 rfl rfl rfl rfl⟩)
def yy (s0 : (List Int)) (f1_c00 : (List Strip)) (f1_c01 : (List Span)) (f1_c02 : (List (Pair × Bool))) (f1_c1 : Int) (s : Int) : Option (Int ⊕ (Unit ⊕ Int)) :=
 if s < (s0.length : Int) then
 ((ix s0 s).bind fun t14 =>
 (Jb t14 f1_c00 f1_c01 f1_c02 f1_c1).bind fun t16 =>
 if t16 = true then
 (some (.inr (.inr s))) else
 ((addc s 1).bind fun t18 =>
 some (.inl t18))) else
 (some (.inr (.inl ())))
def qz (s0 : (List Int)) (f1_c00 : (List Strip)) (f1_c01 : (List Span)) (f1_c02 : (List (Pair × Bool))) (f1_c1 : Int) : Option Int :=
 (iterM FU (yy s0 f1_c00 f1_c01 f1_c02 f1_c1) 0).bind fun o =>
 oc o (fun j => some (-1)) (fun r_1 => some r_1)
theorem KF (s0 : (List Int)) (f1_c00 : (List Strip)) (f1_c01 : (List Span)) (f1_c02 : (List (Pair × Bool))) (f1_c1 : Int) (qa0 : Option Addr) (na0 ca0 : Nat) (rb : Nat) (rb_1 : Nat) (qa3 : Option Addr) (na3 ca3 : Nat) (qa4 : Option Addr) (na4 ca4 : Nat) (pb : Nat) (rb_2 : Nat) (w : World) (hw : HV w (keys [(pb, gobj (kR RPr) kB f1_c02)] []) [(pb, gobj (kR RPr) kB f1_c02)] [] [(aB qa0, aO qa0, RI.enc s0), (rb, 0, [ptr rb_1 0]), (rb_1, 0, [.slice qa3 na3 ca3, .slice qa4 na4 ca4, .map (some pb)]), (aB qa3, aO qa3, RSt.enc f1_c00), (aB qa4, aO qa4, RSp.enc f1_c01), (rb_2, 0, [.int .i64 f1_c1])] w) (hna0 : s0.length = na0) (hqa0 : AOK na0 qa0) (hla0 : na0 ≤ ca0)   (hna3 : f1_c00.length = na3) (hqa3 : AOK na3 qa3) (hla3 : na3 ≤ ca3) (hna4 : f1_c01.length = na4) (hqa4 : AOK na4 qa4) (hla4 : na4 ≤ ca4)  {res : Int} (hm : qz s0 f1_c00 f1_c01 f1_c02 f1_c1 = some res) :
    Calls Tryz.prog 132 #[.slice qa0 na0 ca0, .func (.func 116) #[] #[ptr rb 0, ptr rb_2 0]] w (fun en w' => ∃ l : Unit, en = .returned (.int .i64 res) ∧ (True) ∧ HV w (keys [(pb, gobj (kR RPr) kB f1_c02)] []) [(pb, gobj (kR RPr) kB f1_c02)] [] [] w') := by
  unfold qz at hm
  refine j5 Tryz.func132 rfl Tryz.ntmps132 rfl (e := [(0, _), (1, _)]) rfl hw (jq (jk rfl rfl (jp (jj (jq (je rfl rfl (jc rfl rfl rfl (fun w _ => jI hna0 (Tryz.runUnderlying26 w) rfl) ?_)))))))
  refine je rfl rfl (jp ?_)
  obtain ⟨o, h1, h2⟩ := bindO hm
  refine jF (ι := Unit) (fun j => o = .inl j) (fun j => []) (fun j => [(pb, gobj (kR RPr) kB f1_c02)]) (fun j => []) ?_ ?_
  ·replace hm := h1
   refine jn ?_
   refine jL (ι := Unit) hm (fun s l => True) (fun s l => [(0, .slice qa0 na0 ca0), (1, .func (.func 116) #[] #[ptr rb 0, ptr rb_2 0]), (7, .int .i64 (s0.length : Int)), (8, .int .i64 s)]) (fun s l => [(pb, gobj (kR RPr) kB f1_c02)]) (fun s l => []) () (trivial) (sE rfl) (fun w hh => hh) (fun s l r hpl hm h3 => ?_)
   unfold yy at hm
   refine jq (yY rfl rfl rfl (jp (jj ?_)))
   refine js rfl (fun h4 => ?_) (fun h4 => ?_)
   ·replace hm := ifD h4 hm
    refine ju (ja (jj (jn (jq (je rfl rfl (jk rfl rfl (j0 ?_)))))))
    refine je rfl rfl (je rfl rfl (je rfl rfl ?_))
    obtain ⟨t14, h5, hm⟩ := bindO hm
    refine jc rfl rfl rfl (fun w _ => ki h5 (Tryz.runUnderlying26 w) (Tryz.sizeOf3 w) rfl rfl hna0 hqa0) (jc rfl rfl rfl (fun w hh => kl RI 0 h5 (Tryz.isAgg3 w) rfl (hh.seg 0 rfl) rfl (Nat.add_zero _).symm) ?_)
    obtain ⟨t16, h6, hm⟩ := bindO hm
    refine jd [_] [] rfl rfl rfl rfl rfl rfl rfl Tryz.call116 (fun w hh => Yb t14 f1_c00 f1_c01 f1_c02 f1_c1 rb rb_1 qa3 na3 ca3 qa4 na4 ca4 pb rb_2 w (HV.callee (S0 := [_]) (vs0 := []) hh (roR hh 1 rfl (roR hh 2 rfl (roR hh 3 rfl (roR hh 4 rfl (roR hh 5 rfl roN)))))) hna3 hqa3 hla3 hna4 hqa4 hla4 h6) (fun l_1 h7 => ?_)
    refine jT (S' := [_]) (vs' := []) [0] [] 0 rfl rfl rfl rfl (jp ?_)
    refine js rfl (fun h8 => ?_) (fun h8 => ?_)
    ·replace hm := ifT (h8) hm
     refine jq (je rfl rfl (jk rfl rfl (jp (jw (jx (jf (jf ?_)))))))
     refine jx ?_
     obtain rfl := sj hm
     have hbo := h3 _ rfl
     subst hbo
     refine jf ?_
     replace hm := ocR h2
     refine jf ?_
     obtain rfl := sj hm
     refine jm rfl (fun w hh => (.tmp rfl .nil)) (fun w hh => ⟨(), rfl, trivial, hh.se [0] [] 6 rfl rfl rfl rfl⟩)
    ·replace hm := ifN h8 hm
     refine ju (jt (ja (jh ?_)))
     obtain ⟨t18, h9, hm⟩ := bindO hm
     refine qs h9 rfl rfl rfl (je rfl rfl (jv ?_))
     obtain rfl := sj hm
     refine ja ?_
     exact jA _ () rfl (trivial) (sE rfl) (fun w hh => hh)
   ·replace hm := ifE h4 hm
    refine jS (jl (jl (jG ?_)))
    obtain rfl := sj hm
    have hbo := h3 _ rfl
    subst hbo
    exact jg () (rfl) (.nil) (fun w hh => hh)
  ·intro j hj
   have h10 := hj
   subst h10
   replace hm := ocL h2
   refine ja (jq (jk rfl rfl (jp (jw ?_))))
   obtain rfl := sj hm
   refine jm rfl (fun w hh => (.tmp rfl .nil)) (fun w hh => ⟨(), rfl, trivial, hh.se [0] [] 6 rfl rfl rfl rfl⟩)
def kP (s0 : (List Int)) (f1_c00 : (List Strip)) (f1_c01 : (List Span)) (f1_c02 : (List (Pair × Bool))) (f1_c1 : Int) : Option Bool :=
 (qz s0 f1_c00 f1_c01 f1_c02 f1_c1).bind fun t7 =>
 some (decide (0 ≤ t7))
theorem JK (s0 : (List Int)) (f1_c00 : (List Strip)) (f1_c01 : (List Span)) (f1_c02 : (List (Pair × Bool))) (f1_c1 : Int) (qa0 : Option Addr) (na0 ca0 : Nat) (rb : Nat) (rb_1 : Nat) (qa3 : Option Addr) (na3 ca3 : Nat) (qa4 : Option Addr) (na4 ca4 : Nat) (pb : Nat) (rb_2 : Nat) (w : World) (hw : HV w (keys [(pb, gobj (kR RPr) kB f1_c02)] []) [(pb, gobj (kR RPr) kB f1_c02)] [] [(aB qa0, aO qa0, RI.enc s0), (rb, 0, [ptr rb_1 0]), (rb_1, 0, [.slice qa3 na3 ca3, .slice qa4 na4 ca4, .map (some pb)]), (aB qa3, aO qa3, RSt.enc f1_c00), (aB qa4, aO qa4, RSp.enc f1_c01), (rb_2, 0, [.int .i64 f1_c1])] w) (hna0 : s0.length = na0) (hqa0 : AOK na0 qa0) (hla0 : na0 ≤ ca0)   (hna3 : f1_c00.length = na3) (hqa3 : AOK na3 qa3) (hla3 : na3 ≤ ca3) (hna4 : f1_c01.length = na4) (hqa4 : AOK na4 qa4) (hla4 : na4 ≤ ca4)  {res : Bool} (hm : kP s0 f1_c00 f1_c01 f1_c02 f1_c1 = some res) :
    Calls Tryz.prog 110 #[.slice qa0 na0 ca0, .func (.func 116) #[] #[ptr rb 0, ptr rb_2 0]] w (fun en w' => ∃ l : Unit, en = .returned (.bool res) ∧ (True) ∧ HV w (keys [(pb, gobj (kR RPr) kB f1_c02)] []) [(pb, gobj (kR RPr) kB f1_c02)] [] [] w') := by
  unfold kP at hm
  refine j5 Tryz.func110 rfl Tryz.ntmps110 rfl (e := [(0, _), (1, _)]) rfl hw (jq (jk rfl rfl (j0 (je rfl rfl (je rfl rfl ?_)))))
  obtain ⟨t7, h1, hm⟩ := bindO hm
  refine jd [_] [] rfl rfl rfl rfl rfl rfl rfl Tryz.call132 (fun w hh => KF s0 f1_c00 f1_c01 f1_c02 f1_c1 qa0 na0 ca0 rb rb_1 qa3 na3 ca3 qa4 na4 ca4 pb rb_2 w (HV.callee (S0 := [_]) (vs0 := []) hh (roR hh 0 rfl (roR hh 1 rfl (roR hh 2 rfl (roR hh 3 rfl (roR hh 4 rfl (roR hh 5 rfl roN))))))) hna0 hqa0 hla0 hna3 hqa3 hla3 hna4 hqa4 hla4 h1) (fun l h2 => ?_)
  refine jT (S' := [_]) (vs' := []) [0] [] 0 rfl rfl rfl rfl (jc rfl rfl rfl (fun _ _ => K1 rfl rfl) (jk rfl rfl (jp (jw ?_))))
  obtain rfl := sj hm
  refine jm rfl (fun w hh => (.tmp rfl .nil)) (fun w hh => ⟨(), rfl, trivial, hh.se [0] [] 6 rfl rfl rfl rfl⟩)
structure Kp where
  need5 : Int
  can6 : Int
structure yp where
  need5 : Int
  can6 : Int
  t17 : Int
structure zo where
  need5 : Int
  can6 : Int
def Ko (d01 : (List Span)) (l1 : Lack) (d00 : (List Strip)) (d02 : (List (Pair × Bool))) (s : yp) : Option (yp ⊕ Kp) :=
 if s.t17 < (d01.length : Int) then
 (((ix d01 s.t17).bind fun t20 =>
 (if l1.tenants = true then
 ((k7 l1.of_ s.t17).bind fun t29 =>
 some t29) else
 (some false)).bind fun o_2 =>
 if o_2 = true then
 ((addc s.need5 t20.lo).bind fun t34 =>
 some (⟨t34, s.can6⟩ : zo)) else
 ((if (!l1.tenants) = true then
 ((kS l1.of_ d00 d01 d02 s.t17).bind fun t43 =>
 some t43) else
 (some false)).bind fun o_3 =>
 if o_3 = true then
 ((addc s.can6 t20.hi).bind fun t48 =>
 some (⟨s.need5, t48⟩ : zo)) else
 (some (⟨s.need5, s.can6⟩ : zo)))).bind fun o_1 =>
 (addc s.t17 1).bind fun t49 =>
 some (.inl (⟨o_1.need5, o_1.can6, t49⟩ : yp))) else
 (some (.inr (⟨s.need5, s.can6⟩ : Kp)))
structure Ka where
  need5 : Int
  can6 : Int
structure yu where
  need5 : Int
  can6 : Int
  t56 : Int
structure zx where
  need5 : Int
  can6 : Int
def J3 (d00 : (List Strip)) (l1 : Lack) (d01 : (List Span)) (d02 : (List (Pair × Bool))) (s_1 : yu) : Option (yu ⊕ Ka) :=
 if s_1.t56 < (d00.length : Int) then
 (((ix d00 s_1.t56).bind fun t59 =>
 (if (!l1.tenants) = true then
 ((k7 l1.of_ s_1.t56).bind fun t69 =>
 some t69) else
 (some false)).bind fun o_6 =>
 if o_6 = true then
 ((kc (⟨t59.tenant, (⟨t59.lay.lo, t59.lay.hi⟩ : Span), (⟨t59.seeded.lo, t59.seeded.hi⟩ : Span), (⟨t59.left.lo, t59.left.hi⟩ : Span)⟩ : Strip)).bind fun t73 =>
 (addc s_1.need5 t73.lo).bind fun t75 =>
 some (⟨t75, s_1.can6⟩ : zx)) else
 ((if l1.tenants = true then
 ((kP l1.of_ d00 d01 d02 s_1.t56).bind fun t83 =>
 some t83) else
 (some false)).bind fun o_7 =>
 if o_7 = true then
 ((kc (⟨t59.tenant, (⟨t59.lay.lo, t59.lay.hi⟩ : Span), (⟨t59.seeded.lo, t59.seeded.hi⟩ : Span), (⟨t59.left.lo, t59.left.hi⟩ : Span)⟩ : Strip)).bind fun t87 =>
 (addc s_1.can6 t87.hi).bind fun t89 =>
 some (⟨s_1.need5, t89⟩ : zx)) else
 (some (⟨s_1.need5, s_1.can6⟩ : zx)))).bind fun o_5 =>
 (addc s_1.t56 1).bind fun t90 =>
 some (.inl (⟨o_5.need5, o_5.can6, t90⟩ : yu))) else
 (some (.inr (⟨s_1.need5, s_1.can6⟩ : Ka)))
def qT (d00 : (List Strip)) (d01 : (List Span)) (d02 : (List (Pair × Bool))) (l1 : Lack) : Option Int :=
 (iterM FU (Ko d01 l1 d00 d02) (⟨0, 0, 0⟩ : yp)).bind fun o =>
 (iterM FU (J3 d00 l1 d01 d02) (⟨o.need5, o.can6, 0⟩ : yu)).bind fun o_4 =>
 (subc o_4.need5 o_4.can6).bind fun t93 =>
 some t93
theorem zG (d00 : (List Strip)) (d01 : (List Span)) (d02 : (List (Pair × Bool))) (l1 : Lack) (rb : Nat) (qa1 : Option Addr) (na1 ca1 : Nat) (qa2 : Option Addr) (na2 ca2 : Nat) (pb : Nat) (qa3 : Option Addr) (na3 ca3 : Nat) (w : World) (hw : HV w (keys [(pb, gobj (kR RPr) kB d02)] []) [(pb, gobj (kR RPr) kB d02)] [] [(rb, 0, [.slice qa1 na1 ca1, .slice qa2 na2 ca2, .map (some pb)]), (aB qa1, aO qa1, RSt.enc d00), (aB qa2, aO qa2, RSp.enc d01), (aB qa3, aO qa3, RI.enc l1.of_)] w)  (hna1 : d00.length = na1) (hqa1 : AOK na1 qa1) (hla1 : na1 ≤ ca1) (hna2 : d01.length = na2) (hqa2 : AOK na2 qa2) (hla2 : na2 ≤ ca2) (hna3 : l1.of_.length = na3) (hqa3 : AOK na3 qa3) (hla3 : na3 ≤ ca3) {res : Int} (hm : qT d00 d01 d02 l1 = some res) :
    Calls Tryz.prog 72 #[ptr rb 0, .agg #[.bool l1.tenants, .slice qa3 na3 ca3]] w (fun en w' => ∃ l : Unit, en = .returned (.int .i64 res) ∧ (True) ∧ HV w (keys [(pb, gobj (kR RPr) kB d02)] []) [(pb, gobj (kR RPr) kB d02)] [] [] w') := by
  unfold qT at hm
  refine j5 Tryz.func72 rfl Tryz.ntmps72 rfl (e := [(0, _), (1, _)]) rfl hw (jq ?_)
  refine jC rfl rfl (fun b h1 => ?_)
  refine jC rfl rfl (fun b_1 h2 => ?_)
  refine jk rfl rfl (j0 (jk rfl rfl (jk rfl rfl (jp (jj (jq (jY 1 Tryz.isAgg107 rfl rfl rfl rfl ?_)))))))
  refine jc rfl rfl rfl (fun _ _ => jN rfl) (jP 0 Tryz.runUnderlying144 rfl Tryz.sizeOf25 rfl rfl (jP 1 Tryz.runUnderlying25 rfl Tryz.sizeOf23 rfl rfl (jc rfl rfl rfl (fun w hh => jR (Tryz.isAgg23 w) rfl (segCell (hh.seg 0 rfl) 1 rfl)) (jc rfl rfl rfl (fun w _ => jI hna2 (Tryz.runUnderlying23 w) rfl) (je rfl rfl (jp ?_))))))
  obtain ⟨o, h3, h4⟩ := bindO hm
  refine jF (ι := Unit) (fun l => True) (fun l => [(2, ptr b 0), (3, ptr b_1 0), (5, .int .i64 o.need5), (6, .int .i64 o.can6)]) (fun l => [(b_1, .cells #[.bool l1.tenants, .slice qa3 na3 ca3] 30 (0, 0)), (b, .cells #[ptr rb 0] 107 (0, 0)), (pb, gobj (kR RPr) kB d02)]) (fun l => []) ?_ ?_
  ·replace hm := h3
   refine jn ?_
   refine jL (ι := Unit) hm (fun s l_1 => True) (fun s l_1 => [(2, ptr b 0), (3, ptr b_1 0), (5, .int .i64 s.need5), (6, .int .i64 s.can6), (15, .slice qa2 na2 ca2), (16, .int .i64 (d01.length : Int)), (17, .int .i64 s.t17)]) (fun s l_1 => [(b_1, .cells #[.bool l1.tenants, .slice qa3 na3 ca3] 30 (0, 0)), (b, .cells #[ptr rb 0] 107 (0, 0)), (pb, gobj (kR RPr) kB d02)]) (fun s l_1 => []) () (trivial) (sE rfl) (fun w hh => hh) (fun s l_1 r hpl hm h5 => ?_)
   unfold Ko at hm
   refine jq (yY rfl rfl rfl (jp (jj ?_)))
   refine js rfl (fun h6 => ?_) (fun h6 => ?_)
   ·replace hm := ifD h6 hm
    refine ju (ja (jj ?_))
    obtain ⟨o_1, h7, h8⟩ := bindO hm
    refine jF (ι := Unit) (fun l_2 => True) (fun l_2 => [(2, ptr b 0), (3, ptr b_1 0), (5, .int .i64 o_1.need5), (6, .int .i64 o_1.can6), (15, .slice qa2 na2 ca2), (16, .int .i64 (d01.length : Int)), (17, .int .i64 s.t17)]) (fun l_2 => [(b_1, .cells #[.bool l1.tenants, .slice qa3 na3 ca3] 30 (0, 0)), (b, .cells #[ptr rb 0] 107 (0, 0)), (pb, gobj (kR RPr) kB d02)]) (fun l_2 => []) ?_ ?_
    ·replace hm := h7
     refine jn (jq (je rfl rfl ?_))
     obtain ⟨t20, h9, hm⟩ := bindO hm
     refine jc rfl rfl rfl (fun w _ => ki h9 (Tryz.runUnderlying23 w) (Tryz.sizeOf32 w) rfl rfl hna2 hqa2) ?_
     refine jc rfl rfl rfl (fun w hh => kt RSp 0 [.int .i64 t20.lo, .int .i64 t20.hi] h9 (Tryz.isAgg32 w) (Tryz.sizeOf32 w) rfl (hh.seg 2 rfl) rfl (Nat.add_zero _).symm) ?_
     refine jo (fun w => Tryz.zeroValue3 w) rfl (fun b_2 h10 => ?_)
     refine jo (fun w => Tryz.zeroValue32 w) rfl (fun b_3 h11 => ?_)
     refine kY (cs' := #[_]) (S' := [_, _, _, _, _]) 1 (fun w => Tryz.sizeOf3 w) rfl rfl rfl rfl rfl rfl rfl (jy (us := #[_, _]) (cs' := [_, _]) (S' := [_, _, _, _, _]) 0 (fun w => Tryz.sizeOf32 w) rfl rfl rfl rfl rfl rfl rfl (jp (jn (jj ?_))))
     obtain ⟨o_2, h12, h13⟩ := bindO hm
     refine jF (ι := Unit) (fun l_3 => True) (fun l_3 => [(2, ptr b 0), (3, ptr b_1 0), (5, .int .i64 s.need5), (6, .int .i64 s.can6), (7, ptr b_2 0), (8, ptr b_3 0), (15, .slice qa2 na2 ca2), (16, .int .i64 (d01.length : Int)), (17, .int .i64 s.t17), (22, .bool o_2)]) (fun l_3 => [(b_3, .cells #[.int .i64 t20.lo, .int .i64 t20.hi] 32 (0, 0)), (b_2, .cells #[.int .i64 s.t17] 3 (0, 0)), (b_1, .cells #[.bool l1.tenants, .slice qa3 na3 ca3] 30 (0, 0)), (b, .cells #[ptr rb 0] 107 (0, 0)), (pb, gobj (kR RPr) kB d02)]) (fun l_3 => []) ?_ ?_
     ·replace hm := h12
      refine jh (jP 0 Tryz.runUnderlying30 rfl Tryz.sizeOf4 rfl rfl (jY 2 Tryz.isAgg4 rfl rfl rfl rfl (je rfl rfl ?_)))
      refine jJ 25 rfl (fun h14 => ?_) (fun h14 => ?_)
      ·replace hm := ifT (h14) hm
       refine jb rfl rfl (jP 1 Tryz.runUnderlying30 rfl Tryz.sizeOf26 rfl rfl (jb rfl rfl (jY 2 Tryz.isAgg26 rfl rfl rfl rfl (jb rfl rfl (jY 1 Tryz.isAgg3 rfl rfl rfl rfl (jb rfl rfl ?_))))))
       obtain ⟨t29, h15, hm⟩ := bindO hm
       refine jd [] [] rfl rfl rfl rfl rfl rfl rfl Tryz.call114 (fun w hh => Jf l1.of_ s.t17 qa3 na3 ca3 w (HV.callee (S0 := []) (vs0 := []) hh (roR hh 3 rfl roN)) hna3 hqa3 hla3 h15) (fun l_4 h16 => ?_)
       refine kx rfl rfl rfl (jk rfl rfl (jv ?_))
       obtain rfl := sj hm
       exact jg () (trivial) (sE rfl) (fun w hh => hh)
      ·replace hm := ifN h14 hm
       refine g_k rfl rfl rfl rfl (g_k rfl rfl rfl rfl (g_k rfl rfl rfl rfl (g_k rfl rfl rfl rfl (j3 rfl rfl rfl (jk rfl rfl (jv ?_))))))
       obtain rfl := sj hm
       exact jg () (trivial) (sE rfl) (fun w hh => hh)
     ·intro l_3 hj
      replace hm := h13
      refine ja ?_
      refine js rfl (fun h17 => ?_) (fun h17 => ?_)
      ·replace hm := ifT (h17) hm
       refine jh (je rfl rfl (jP 0 Tryz.runUnderlying32 rfl Tryz.sizeOf3 rfl rfl (jY 0 Tryz.isAgg3 rfl rfl rfl rfl ?_)))
       obtain ⟨t34, h18, hm⟩ := bindO hm
       refine qs h18 rfl rfl rfl (jk rfl rfl (jv (jt (jt ?_))))
       obtain rfl := sj hm
       exact jg () (trivial) (sE rfl) (hsE [2, 3, 4] [] 0 rfl rfl rfl rfl)
      ·replace hm := ifN h17 hm
       refine jj ?_
       obtain ⟨o_3, h19, h20⟩ := bindO hm
       refine jF (ι := Unit) (fun l_5 => True) (fun l_5 => [(2, ptr b 0), (3, ptr b_1 0), (5, .int .i64 s.need5), (6, .int .i64 s.can6), (8, ptr b_3 0), (15, .slice qa2 na2 ca2), (16, .int .i64 (d01.length : Int)), (17, .int .i64 s.t17), (35, .bool o_3)]) (fun l_5 => [(b_3, .cells #[.int .i64 t20.lo, .int .i64 t20.hi] 32 (0, 0)), (b_2, .cells #[.int .i64 s.t17] 3 (0, 0)), (b_1, .cells #[.bool l1.tenants, .slice qa3 na3 ca3] 30 (0, 0)), (b, .cells #[ptr rb 0] 107 (0, 0)), (pb, gobj (kR RPr) kB d02)]) (fun l_5 => []) ?_ ?_
       ·replace hm := h19
        refine jh (jP 0 Tryz.runUnderlying30 rfl Tryz.sizeOf4 rfl rfl (jY 2 Tryz.isAgg4 rfl rfl rfl rfl (jc rfl rfl rfl (fun _ _ => kE rfl) (je rfl rfl ?_))))
        refine jJ 39 rfl (fun h21 => ?_) (fun h21 => ?_)
        ·replace hm := ifT (h21) hm
         refine jb rfl rfl (jP 1 Tryz.runUnderlying30 rfl Tryz.sizeOf26 rfl rfl (jb rfl rfl (jY 2 Tryz.isAgg26 rfl rfl rfl rfl (jb rfl rfl (jc rfl rfl rfl (fun _ _ => jK (u := #[]) (u' := #[_, _]) rfl rfl) (jb rfl rfl ?_))))))
         obtain ⟨t43, h22, hm⟩ := bindO hm
         refine jT (S' := [_, _, _, _, _]) (vs' := []) [4, 0, 1, 2, 3] [] 0 rfl rfl rfl rfl ?_
         refine jd [_] [] rfl rfl rfl rfl rfl rfl rfl Tryz.call110 (fun w hh => JI l1.of_ d00 d01 d02 s.t17 qa3 na3 ca3 b rb qa1 na1 ca1 qa2 na2 ca2 pb b_2 w (HV.callee (S0 := [_]) (vs0 := []) hh (roR hh 3 rfl (roC (hh.bsepH 3 rfl) (roR hh 0 rfl (roR hh 1 rfl (roR hh 2 rfl (roC (hh.bsepH 1 rfl) roN))))))) hna3 hqa3 hla3 hna1 hqa1 hla1 hna2 hqa2 hla2 h22) (fun l_6 h23 => ?_)
         refine jT (S' := [_, _, _, _, _]) (vs' := []) [0, 1, 2, 3, 4] [] 0 rfl rfl rfl rfl (kx rfl rfl rfl (jk rfl rfl (jv ?_)))
         obtain rfl := sj hm
         exact jg () (trivial) (sE rfl) (hsE [1, 2, 3, 4, 0] [] 0 rfl rfl rfl rfl)
        ·replace hm := ifN h21 hm
         refine g_k rfl rfl rfl rfl (g_k rfl rfl rfl rfl (g_k rfl rfl rfl rfl (g_k rfl rfl rfl rfl (j3 rfl rfl rfl (jk rfl rfl (jv ?_))))))
         obtain rfl := sj hm
         exact jg () (trivial) (sE rfl) (fun w hh => hh)
       ·intro l_5 hj
        replace hm := h20
        refine ja ?_
        refine js rfl (fun h24 => ?_) (fun h24 => ?_)
        ·replace hm := ifT (h24) hm
         refine jh (je rfl rfl (jP 1 Tryz.runUnderlying32 rfl Tryz.sizeOf3 rfl rfl (jY 0 Tryz.isAgg3 rfl rfl rfl rfl ?_)))
         obtain ⟨t48, h25, hm⟩ := bindO hm
         refine qs h25 rfl rfl rfl (jk rfl rfl (jv (jt (jt ?_))))
         obtain rfl := sj hm
         exact jg () (trivial) (sE rfl) (hsE [2, 3, 4] [] 0 rfl rfl rfl rfl)
        ·replace hm := ifN h24 hm
         refine ju (jt (jt ?_))
         obtain rfl := sj hm
         exact jg () (trivial) (sE rfl) (hsE [2, 3, 4] [] 0 rfl rfl rfl rfl)
    ·intro l_2 hj
     replace hm := h8
     refine ja (jh ?_)
     obtain ⟨t49, h26, hm⟩ := bindO hm
     refine qs h26 rfl rfl rfl (je rfl rfl (jv ?_))
     obtain rfl := sj hm
     refine ja ?_
     exact jA _ () rfl (trivial) (sE rfl) (fun w hh => hh)
   ·replace hm := ifE h6 hm
    refine jS (jl (jl (jG ?_)))
    obtain rfl := sj hm
    have hbo := h5 _ rfl
    subst hbo
    exact jg () (trivial) (sE rfl) (fun w hh => hh)
  ·intro l hj
   replace hm := h4
   refine ja (jj (jq (jY 1 Tryz.isAgg107 rfl rfl rfl rfl (jc rfl rfl rfl (fun _ _ => jN rfl) (jP 0 Tryz.runUnderlying144 rfl Tryz.sizeOf25 rfl rfl (jP 0 Tryz.runUnderlying25 rfl Tryz.sizeOf22 rfl rfl (jc rfl rfl rfl (fun w hh => jR (Tryz.isAgg22 w) rfl (segCell (hh.seg 0 rfl) 0 rfl)) ?_)))))))
   refine jc rfl rfl rfl (fun w _ => jI hna1 (Tryz.runUnderlying22 w) rfl) (je rfl rfl (jp ?_))
   obtain ⟨o_4, h27, h28⟩ := bindO hm
   refine jF (ι := Unit) (fun l_7 => True) (fun l_7 => [(5, .int .i64 o_4.need5), (6, .int .i64 o_4.can6)]) (fun l_7 => [(b_1, .cells #[.bool l1.tenants, .slice qa3 na3 ca3] 30 (0, 0)), (b, .cells #[ptr rb 0] 107 (0, 0)), (pb, gobj (kR RPr) kB d02)]) (fun l_7 => []) ?_ ?_
   ·replace hm := h27
    refine jn ?_
    refine jL (ι := Unit) hm (fun s_1 l_8 => True) (fun s_1 l_8 => [(2, ptr b 0), (3, ptr b_1 0), (5, .int .i64 s_1.need5), (6, .int .i64 s_1.can6), (54, .slice qa1 na1 ca1), (55, .int .i64 (d00.length : Int)), (56, .int .i64 s_1.t56)]) (fun s_1 l_8 => [(b_1, .cells #[.bool l1.tenants, .slice qa3 na3 ca3] 30 (0, 0)), (b, .cells #[ptr rb 0] 107 (0, 0)), (pb, gobj (kR RPr) kB d02)]) (fun s_1 l_8 => []) () (trivial) (sE rfl) (fun w hh => hh) (fun s_1 l_8 r_1 hpl hm h29 => ?_)
    unfold J3 at hm
    refine jq (yY rfl rfl rfl (jp (jj ?_)))
    refine js rfl (fun h30 => ?_) (fun h30 => ?_)
    ·replace hm := ifD h30 hm
     refine ju (ja (jj ?_))
     obtain ⟨o_5, h31, h32⟩ := bindO hm
     refine jF (ι := Unit) (fun l_9 => True) (fun l_9 => [(2, ptr b 0), (3, ptr b_1 0), (5, .int .i64 o_5.need5), (6, .int .i64 o_5.can6), (54, .slice qa1 na1 ca1), (55, .int .i64 (d00.length : Int)), (56, .int .i64 s_1.t56)]) (fun l_9 => [(b_1, .cells #[.bool l1.tenants, .slice qa3 na3 ca3] 30 (0, 0)), (b, .cells #[ptr rb 0] 107 (0, 0)), (pb, gobj (kR RPr) kB d02)]) (fun l_9 => []) ?_ ?_
     ·replace hm := h31
      refine jn (jq (je rfl rfl ?_))
      obtain ⟨t59, h33, hm⟩ := bindO hm
      refine jc rfl rfl rfl (fun w _ => ki h33 (Tryz.runUnderlying22 w) (Tryz.sizeOf85 w) rfl rfl hna1 hqa1) ?_
      refine jc rfl rfl rfl (fun w hh => kt RSt 0 [.int .i64 t59.tenant, .int .i64 t59.lay.lo, .int .i64 t59.lay.hi, .int .i64 t59.seeded.lo, .int .i64 t59.seeded.hi, .int .i64 t59.left.lo, .int .i64 t59.left.hi] h33 (Tryz.isAgg85 w) (Tryz.sizeOf85 w) rfl (hh.seg 1 rfl) rfl (Nat.add_zero _).symm) ?_
      refine jo (fun w => Tryz.zeroValue3 w) rfl (fun b_4 h34 => ?_)
      refine jo (fun w => Tryz.zeroValue85 w) rfl (fun b_5 h35 => ?_)
      refine kY (cs' := #[_]) (S' := [_, _, _, _, _]) 1 (fun w => Tryz.sizeOf3 w) rfl rfl rfl rfl rfl rfl rfl (jy (us := #[_, _, _, _, _, _, _]) (cs' := [_, _, _, _, _, _, _]) (S' := [_, _, _, _, _]) 0 (fun w => Tryz.sizeOf85 w) rfl rfl rfl rfl rfl rfl rfl (jp (jn (jj ?_))))
      obtain ⟨o_6, h36, h37⟩ := bindO hm
      refine jF (ι := Unit) (fun l_10 => True) (fun l_10 => [(2, ptr b 0), (3, ptr b_1 0), (5, .int .i64 s_1.need5), (6, .int .i64 s_1.can6), (9, ptr b_4 0), (10, ptr b_5 0), (54, .slice qa1 na1 ca1), (55, .int .i64 (d00.length : Int)), (56, .int .i64 s_1.t56), (61, .bool o_6)]) (fun l_10 => [(b_5, .cells #[.int .i64 t59.tenant, .int .i64 t59.lay.lo, .int .i64 t59.lay.hi, .int .i64 t59.seeded.lo, .int .i64 t59.seeded.hi, .int .i64 t59.left.lo, .int .i64 t59.left.hi] 85 (0, 0)), (b_4, .cells #[.int .i64 s_1.t56] 3 (0, 0)), (b_1, .cells #[.bool l1.tenants, .slice qa3 na3 ca3] 30 (0, 0)), (b, .cells #[ptr rb 0] 107 (0, 0)), (pb, gobj (kR RPr) kB d02)]) (fun l_10 => []) ?_ ?_
      ·replace hm := h36
       refine jh (jP 0 Tryz.runUnderlying30 rfl Tryz.sizeOf4 rfl rfl (jY 2 Tryz.isAgg4 rfl rfl rfl rfl (jc rfl rfl rfl (fun _ _ => kE rfl) (je rfl rfl ?_))))
       refine jJ 65 rfl (fun h38 => ?_) (fun h38 => ?_)
       ·replace hm := ifT (h38) hm
        refine jb rfl rfl (jP 1 Tryz.runUnderlying30 rfl Tryz.sizeOf26 rfl rfl (jb rfl rfl (jY 2 Tryz.isAgg26 rfl rfl rfl rfl (jb rfl rfl (jY 1 Tryz.isAgg3 rfl rfl rfl rfl (jb rfl rfl ?_))))))
        obtain ⟨t69, h39, hm⟩ := bindO hm
        refine jd [] [] rfl rfl rfl rfl rfl rfl rfl Tryz.call114 (fun w hh => Jf l1.of_ s_1.t56 qa3 na3 ca3 w (HV.callee (S0 := []) (vs0 := []) hh (roR hh 3 rfl roN)) hna3 hqa3 hla3 h39) (fun l_11 h40 => ?_)
        refine kx rfl rfl rfl (jk rfl rfl (jv ?_))
        obtain rfl := sj hm
        exact jg () (trivial) (sE rfl) (fun w hh => hh)
       ·replace hm := ifN h38 hm
        refine g_k rfl rfl rfl rfl (g_k rfl rfl rfl rfl (g_k rfl rfl rfl rfl (g_k rfl rfl rfl rfl (j3 rfl rfl rfl (jk rfl rfl (jv ?_))))))
        obtain rfl := sj hm
        exact jg () (trivial) (sE rfl) (fun w hh => hh)
      ·intro l_10 hj
       replace hm := h37
       refine ja ?_
       refine js rfl (fun h41 => ?_) (fun h41 => ?_)
       ·replace hm := ifT (h41) hm
        refine jh (je rfl rfl (kD [_, _, _, _, _, _, _] 0 Tryz.isAgg85 Tryz.sizeOf85 rfl rfl rfl rfl ?_))
        obtain ⟨t73, h42, hm⟩ := bindO hm
        refine jd [] [] rfl rfl rfl rfl rfl rfl rfl Tryz.call66 (fun w hh => qM (⟨t59.tenant, (⟨t59.lay.lo, t59.lay.hi⟩ : Span), (⟨t59.seeded.lo, t59.seeded.hi⟩ : Span), (⟨t59.left.lo, t59.left.hi⟩ : Span)⟩ : Strip) w (HV.callee (S0 := []) (vs0 := []) hh roN)  h42) (fun l_12 h43 => ?_)
        refine jc rfl rfl rfl (fun w _ => Zg 3 0 (Tryz.runUnderlying32 w) rfl (Tryz.isAgg3 w) rfl rfl) ?_
        obtain ⟨t75, h44, hm⟩ := bindO hm
        refine qs h44 rfl rfl rfl (jk rfl rfl (jv (jt (jt ?_))))
        obtain rfl := sj hm
        exact jg () (trivial) (sE rfl) (hsE [2, 3, 4] [] 0 rfl rfl rfl rfl)
       ·replace hm := ifN h41 hm
        refine jj ?_
        obtain ⟨o_7, h45, h46⟩ := bindO hm
        refine jF (ι := Unit) (fun l_13 => True) (fun l_13 => [(2, ptr b 0), (3, ptr b_1 0), (5, .int .i64 s_1.need5), (6, .int .i64 s_1.can6), (10, ptr b_5 0), (54, .slice qa1 na1 ca1), (55, .int .i64 (d00.length : Int)), (56, .int .i64 s_1.t56), (76, .bool o_7)]) (fun l_13 => [(b_5, .cells #[.int .i64 t59.tenant, .int .i64 t59.lay.lo, .int .i64 t59.lay.hi, .int .i64 t59.seeded.lo, .int .i64 t59.seeded.hi, .int .i64 t59.left.lo, .int .i64 t59.left.hi] 85 (0, 0)), (b_4, .cells #[.int .i64 s_1.t56] 3 (0, 0)), (b_1, .cells #[.bool l1.tenants, .slice qa3 na3 ca3] 30 (0, 0)), (b, .cells #[ptr rb 0] 107 (0, 0)), (pb, gobj (kR RPr) kB d02)]) (fun l_13 => []) ?_ ?_
        ·replace hm := h45
         refine jh (jP 0 Tryz.runUnderlying30 rfl Tryz.sizeOf4 rfl rfl (jY 2 Tryz.isAgg4 rfl rfl rfl rfl (je rfl rfl ?_)))
         refine jJ 79 rfl (fun h47 => ?_) (fun h47 => ?_)
         ·replace hm := ifT (h47) hm
          refine jb rfl rfl (jP 1 Tryz.runUnderlying30 rfl Tryz.sizeOf26 rfl rfl (jb rfl rfl (jY 2 Tryz.isAgg26 rfl rfl rfl rfl (jb rfl rfl (jc rfl rfl rfl (fun _ _ => jK (u := #[]) (u' := #[_, _]) rfl rfl) (jb rfl rfl ?_))))))
          obtain ⟨t83, h48, hm⟩ := bindO hm
          refine jT (S' := [_, _, _, _, _]) (vs' := []) [4, 0, 1, 2, 3] [] 0 rfl rfl rfl rfl ?_
          refine jd [_] [] rfl rfl rfl rfl rfl rfl rfl Tryz.call110 (fun w hh => JK l1.of_ d00 d01 d02 s_1.t56 qa3 na3 ca3 b rb qa1 na1 ca1 qa2 na2 ca2 pb b_4 w (HV.callee (S0 := [_]) (vs0 := []) hh (roR hh 3 rfl (roC (hh.bsepH 3 rfl) (roR hh 0 rfl (roR hh 1 rfl (roR hh 2 rfl (roC (hh.bsepH 1 rfl) roN))))))) hna3 hqa3 hla3 hna1 hqa1 hla1 hna2 hqa2 hla2 h48) (fun l_14 h49 => ?_)
          refine jT (S' := [_, _, _, _, _]) (vs' := []) [0, 1, 2, 3, 4] [] 0 rfl rfl rfl rfl (kx rfl rfl rfl (jk rfl rfl (jv ?_)))
          obtain rfl := sj hm
          exact jg () (trivial) (sE rfl) (hsE [1, 2, 3, 4, 0] [] 0 rfl rfl rfl rfl)
         ·replace hm := ifN h47 hm
          refine g_k rfl rfl rfl rfl (g_k rfl rfl rfl rfl (g_k rfl rfl rfl rfl (g_k rfl rfl rfl rfl (j3 rfl rfl rfl (jk rfl rfl (jv ?_))))))
          obtain rfl := sj hm
          exact jg () (trivial) (sE rfl) (fun w hh => hh)
        ·intro l_13 hj
         replace hm := h46
         refine ja ?_
         refine js rfl (fun h50 => ?_) (fun h50 => ?_)
         ·replace hm := ifT (h50) hm
          refine jh (je rfl rfl (kD [_, _, _, _, _, _, _] 0 Tryz.isAgg85 Tryz.sizeOf85 rfl rfl rfl rfl ?_))
          obtain ⟨t87, h51, hm⟩ := bindO hm
          refine jd [] [] rfl rfl rfl rfl rfl rfl rfl Tryz.call66 (fun w hh => qM (⟨t59.tenant, (⟨t59.lay.lo, t59.lay.hi⟩ : Span), (⟨t59.seeded.lo, t59.seeded.hi⟩ : Span), (⟨t59.left.lo, t59.left.hi⟩ : Span)⟩ : Strip) w (HV.callee (S0 := []) (vs0 := []) hh roN)  h51) (fun l_15 h52 => ?_)
          refine jc rfl rfl rfl (fun w _ => Zg 3 1 (Tryz.runUnderlying32 w) rfl (Tryz.isAgg3 w) rfl rfl) ?_
          obtain ⟨t89, h53, hm⟩ := bindO hm
          refine qs h53 rfl rfl rfl (jk rfl rfl (jv (jt (jt ?_))))
          obtain rfl := sj hm
          exact jg () (trivial) (sE rfl) (hsE [2, 3, 4] [] 0 rfl rfl rfl rfl)
         ·replace hm := ifN h50 hm
          refine ju (jt (jt ?_))
          obtain rfl := sj hm
          exact jg () (trivial) (sE rfl) (hsE [2, 3, 4] [] 0 rfl rfl rfl rfl)
     ·intro l_9 hj
      replace hm := h32
      refine ja (jh ?_)
      obtain ⟨t90, h54, hm⟩ := bindO hm
      refine qs h54 rfl rfl rfl (je rfl rfl (jv ?_))
      obtain rfl := sj hm
      refine ja ?_
      exact jA _ () rfl (trivial) (sE rfl) (fun w hh => hh)
    ·replace hm := ifE h30 hm
     refine jS (jl (jl (jG ?_)))
     obtain rfl := sj hm
     have hbo := h29 _ rfl
     subst hbo
     exact jg () (trivial) (sE rfl) (fun w hh => hh)
   ·intro l_7 hj
    replace hm := h28
    refine ja (jq (je rfl rfl (je rfl rfl ?_)))
    obtain ⟨t93, h55, hm⟩ := bindO hm
    refine jc rfl rfl rfl (fun _ _ => yb h55 rfl rfl) (jk rfl rfl (jp (jw ?_)))
    obtain rfl := sj hm
    refine jm rfl (fun w hh => (.tmp rfl .nil)) (fun w hh => ⟨(), rfl, trivial, hh.se [2] [] 4 rfl rfl rfl rfl⟩)
def zq (x0 : Int) (a11_f0 : Scalps) : Option Bool :=
 (kk a11_f0 x0).bind fun t6 =>
 some (!t6)
theorem QL (x0 : Int) (a11_f0 : Scalps) (rb : Nat) (qa1 : Option Addr) (na1 ca1 : Nat) (qa2 : Option Addr) (na2 ca2 : Nat) (w : World) (hw : HV w (keys [] []) [] [] [(rb, 0, [.func (.func 67) #[.agg #[.slice qa1 na1 ca1, .slice qa2 na2 ca2]] #[]]), (aB qa1, aO qa1, RSt.enc a11_f0.strips), (aB qa2, aO qa2, RSp.enc a11_f0.carried)] w)  (hna1 : a11_f0.strips.length = na1) (hqa1 : AOK na1 qa1) (hla1 : na1 ≤ ca1) (hna2 : a11_f0.carried.length = na2) (hqa2 : AOK na2 qa2) (hla2 : na2 ≤ ca2) {res : Bool} (hm : zq x0 a11_f0 = some res) :
    Calls Tryz.prog 111 #[.int .i64 x0, ptr rb 0] w (fun en w' => ∃ l : Unit, en = .returned (.bool res) ∧ (True) ∧ HV w (keys [] []) [] [] [] w') := by
  unfold zq at hm
  refine j5 Tryz.func111 rfl Tryz.ntmps111 rfl (e := [(0, _), (1, _)]) rfl hw (jq (jk rfl rfl (j0 (jc rfl rfl rfl (fun w hh => jR (Tryz.isAgg120 w) rfl (segCell (hh.seg 0 rfl) 0 rfl)) (je rfl rfl ?_)))))
  obtain ⟨t6, h1, hm⟩ := bindO hm
  refine jd [] [] rfl rfl rfl rfl rfl rfl rfl Tryz.call67 (fun w hh => yO a11_f0 x0 qa1 na1 ca1 qa2 na2 ca2 w (HV.callee (S0 := []) (vs0 := []) hh (roR hh 1 rfl (roR hh 2 rfl roN))) hna1 hqa1 hla1 hna2 hqa2 hla2 h1) (fun l h2 => ?_)
  refine jc rfl rfl rfl (fun _ _ => kE rfl) (jk rfl rfl (jp (jw ?_)))
  obtain rfl := sj hm
  refine jm rfl (fun w hh => (.tmp rfl .nil)) (fun w hh => ⟨(), rfl, trivial, hh.se [] [] 3 rfl rfl rfl rfl⟩)
def yw (s0 : (List Int)) (f1_c0_f0 : Scalps) (s : Int) : Option (Int ⊕ (Unit ⊕ Int)) :=
 if s < (s0.length : Int) then
 ((ix s0 s).bind fun t14 =>
 (zq t14 f1_c0_f0).bind fun t16 =>
 if t16 = true then
 (some (.inr (.inr s))) else
 ((addc s 1).bind fun t18 =>
 some (.inl t18))) else
 (some (.inr (.inl ())))
def qE (s0 : (List Int)) (f1_c0_f0 : Scalps) : Option Int :=
 (iterM FU (yw s0 f1_c0_f0) 0).bind fun o =>
 oc o (fun j => some (-1)) (fun r_1 => some r_1)
theorem KB (s0 : (List Int)) (f1_c0_f0 : Scalps) (qa0 : Option Addr) (na0 ca0 : Nat) (rb : Nat) (qa2 : Option Addr) (na2 ca2 : Nat) (qa3 : Option Addr) (na3 ca3 : Nat) (w : World) (hw : HV w (keys [] []) [] [] [(aB qa0, aO qa0, RI.enc s0), (rb, 0, [.func (.func 67) #[.agg #[.slice qa2 na2 ca2, .slice qa3 na3 ca3]] #[]]), (aB qa2, aO qa2, RSt.enc f1_c0_f0.strips), (aB qa3, aO qa3, RSp.enc f1_c0_f0.carried)] w) (hna0 : s0.length = na0) (hqa0 : AOK na0 qa0) (hla0 : na0 ≤ ca0)  (hna2 : f1_c0_f0.strips.length = na2) (hqa2 : AOK na2 qa2) (hla2 : na2 ≤ ca2) (hna3 : f1_c0_f0.carried.length = na3) (hqa3 : AOK na3 qa3) (hla3 : na3 ≤ ca3) {res : Int} (hm : qE s0 f1_c0_f0 = some res) :
    Calls Tryz.prog 132 #[.slice qa0 na0 ca0, .func (.func 111) #[] #[ptr rb 0]] w (fun en w' => ∃ l : Unit, en = .returned (.int .i64 res) ∧ (True) ∧ HV w (keys [] []) [] [] [] w') := by
  unfold qE at hm
  refine j5 Tryz.func132 rfl Tryz.ntmps132 rfl (e := [(0, _), (1, _)]) rfl hw (jq (jk rfl rfl (jp (jj (jq (je rfl rfl (jc rfl rfl rfl (fun w _ => jI hna0 (Tryz.runUnderlying26 w) rfl) ?_)))))))
  refine je rfl rfl (jp ?_)
  obtain ⟨o, h1, h2⟩ := bindO hm
  refine jF (ι := Unit) (fun j => o = .inl j) (fun j => []) (fun j => []) (fun j => []) ?_ ?_
  ·replace hm := h1
   refine jn ?_
   refine jL (ι := Unit) hm (fun s l => True) (fun s l => [(0, .slice qa0 na0 ca0), (1, .func (.func 111) #[] #[ptr rb 0]), (7, .int .i64 (s0.length : Int)), (8, .int .i64 s)]) (fun s l => []) (fun s l => []) () (trivial) (sE rfl) (fun w hh => hh) (fun s l r hpl hm h3 => ?_)
   unfold yw at hm
   refine jq (yY rfl rfl rfl (jp (jj ?_)))
   refine js rfl (fun h4 => ?_) (fun h4 => ?_)
   ·replace hm := ifD h4 hm
    refine ju (ja (jj (jn (jq (je rfl rfl (jk rfl rfl (j0 ?_)))))))
    refine je rfl rfl (je rfl rfl (je rfl rfl ?_))
    obtain ⟨t14, h5, hm⟩ := bindO hm
    refine jc rfl rfl rfl (fun w _ => ki h5 (Tryz.runUnderlying26 w) (Tryz.sizeOf3 w) rfl rfl hna0 hqa0) (jc rfl rfl rfl (fun w hh => kl RI 0 h5 (Tryz.isAgg3 w) rfl (hh.seg 0 rfl) rfl (Nat.add_zero _).symm) ?_)
    obtain ⟨t16, h6, hm⟩ := bindO hm
    refine jd [] [] rfl rfl rfl rfl rfl rfl rfl Tryz.call111 (fun w hh => QL t14 f1_c0_f0 rb qa2 na2 ca2 qa3 na3 ca3 w (HV.callee (S0 := []) (vs0 := []) hh (roR hh 1 rfl (roR hh 2 rfl (roR hh 3 rfl roN)))) hna2 hqa2 hla2 hna3 hqa3 hla3 h6) (fun l_1 h7 => ?_)
    refine jp ?_
    refine js rfl (fun h8 => ?_) (fun h8 => ?_)
    ·replace hm := ifT (h8) hm
     refine jq (je rfl rfl (jk rfl rfl (jp (jw (jx (jf (jf ?_)))))))
     refine jx ?_
     obtain rfl := sj hm
     have hbo := h3 _ rfl
     subst hbo
     refine jf ?_
     replace hm := ocR h2
     refine jf ?_
     obtain rfl := sj hm
     refine jm rfl (fun w hh => (.tmp rfl .nil)) (fun w hh => ⟨(), rfl, trivial, hh.se [] [] 4 rfl rfl rfl rfl⟩)
    ·replace hm := ifN h8 hm
     refine ju (jt (ja (jh ?_)))
     obtain ⟨t18, h9, hm⟩ := bindO hm
     refine qs h9 rfl rfl rfl (je rfl rfl (jv ?_))
     obtain rfl := sj hm
     refine ja ?_
     exact jA _ () rfl (trivial) (sE rfl) (fun w hh => hh)
   ·replace hm := ifE h4 hm
    refine jS (jl (jl (jG ?_)))
    obtain rfl := sj hm
    have hbo := h3 _ rfl
    subst hbo
    exact jg () (rfl) (.nil) (fun w hh => hh)
  ·intro j hj
   have h10 := hj
   subst h10
   replace hm := ocL h2
   refine ja (jq (jk rfl rfl (jp (jw ?_))))
   obtain rfl := sj hm
   refine jm rfl (fun w hh => (.tmp rfl .nil)) (fun w hh => ⟨(), rfl, trivial, hh.se [] [] 4 rfl rfl rfl rfl⟩)
def kO (s0 : (List Int)) (f1_c0_f0 : Scalps) : Option Bool :=
 (qE s0 f1_c0_f0).bind fun t7 =>
 some (decide (0 ≤ t7))
theorem JJ (s0 : (List Int)) (f1_c0_f0 : Scalps) (qa0 : Option Addr) (na0 ca0 : Nat) (rb : Nat) (qa2 : Option Addr) (na2 ca2 : Nat) (qa3 : Option Addr) (na3 ca3 : Nat) (w : World) (hw : HV w (keys [] []) [] [] [(aB qa0, aO qa0, RI.enc s0), (rb, 0, [.func (.func 67) #[.agg #[.slice qa2 na2 ca2, .slice qa3 na3 ca3]] #[]]), (aB qa2, aO qa2, RSt.enc f1_c0_f0.strips), (aB qa3, aO qa3, RSp.enc f1_c0_f0.carried)] w) (hna0 : s0.length = na0) (hqa0 : AOK na0 qa0) (hla0 : na0 ≤ ca0)  (hna2 : f1_c0_f0.strips.length = na2) (hqa2 : AOK na2 qa2) (hla2 : na2 ≤ ca2) (hna3 : f1_c0_f0.carried.length = na3) (hqa3 : AOK na3 qa3) (hla3 : na3 ≤ ca3) {res : Bool} (hm : kO s0 f1_c0_f0 = some res) :
    Calls Tryz.prog 110 #[.slice qa0 na0 ca0, .func (.func 111) #[] #[ptr rb 0]] w (fun en w' => ∃ l : Unit, en = .returned (.bool res) ∧ (True) ∧ HV w (keys [] []) [] [] [] w') := by
  unfold kO at hm
  refine j5 Tryz.func110 rfl Tryz.ntmps110 rfl (e := [(0, _), (1, _)]) rfl hw (jq (jk rfl rfl (j0 (je rfl rfl (je rfl rfl ?_)))))
  obtain ⟨t7, h1, hm⟩ := bindO hm
  refine jd [] [] rfl rfl rfl rfl rfl rfl rfl Tryz.call132 (fun w hh => KB s0 f1_c0_f0 qa0 na0 ca0 rb qa2 na2 ca2 qa3 na3 ca3 w (HV.callee (S0 := []) (vs0 := []) hh (roR hh 0 rfl (roR hh 1 rfl (roR hh 2 rfl (roR hh 3 rfl roN))))) hna0 hqa0 hla0 hna2 hqa2 hla2 hna3 hqa3 hla3 h1) (fun l h2 => ?_)
  refine jc rfl rfl rfl (fun _ _ => K1 rfl rfl) (jk rfl rfl (jp (jw ?_)))
  obtain rfl := sj hm
  refine jm rfl (fun w hh => (.tmp rfl .nil)) (fun w hh => ⟨(), rfl, trivial, hh.se [] [] 4 rfl rfl rfl rfl⟩)
def Jy (l0 : (List Int)) (holds1_f0 : Scalps) : Option Bool :=
 (kO l0 holds1_f0).bind fun t7 =>
 some (!t7)
theorem Ys (l0 : (List Int)) (holds1_f0 : Scalps) (qa0 : Option Addr) (na0 ca0 : Nat) (qa1 : Option Addr) (na1 ca1 : Nat) (qa2 : Option Addr) (na2 ca2 : Nat) (w : World) (hw : HV w (keys [] []) [] [] [(aB qa0, aO qa0, RI.enc l0), (aB qa1, aO qa1, RSt.enc holds1_f0.strips), (aB qa2, aO qa2, RSp.enc holds1_f0.carried)] w) (hna0 : l0.length = na0) (hqa0 : AOK na0 qa0) (hla0 : na0 ≤ ca0) (hna1 : holds1_f0.strips.length = na1) (hqa1 : AOK na1 qa1) (hla1 : na1 ≤ ca1) (hna2 : holds1_f0.carried.length = na2) (hqa2 : AOK na2 qa2) (hla2 : na2 ≤ ca2) {res : Bool} (hm : Jy l0 holds1_f0 = some res) :
    Calls Tryz.prog 63 #[.slice qa0 na0 ca0, .func (.func 67) #[.agg #[.slice qa1 na1 ca1, .slice qa2 na2 ca2]] #[]] w (fun en w' => ∃ l : Unit, en = .returned (.bool res) ∧ (True) ∧ HV w (keys [] []) [] [] [] w') := by
  unfold Jy at hm
  refine j5 Tryz.func63 rfl Tryz.ntmps63 rfl (e := [(0, _), (1, _)]) rfl hw (jq ?_)
  refine jC rfl rfl (fun b h1 => ?_)
  refine jk rfl rfl (j0 (je rfl rfl (jc rfl rfl rfl (fun _ _ => jK (u := #[]) (u' := #[_]) rfl rfl) ?_)))
  obtain ⟨t7, h2, hm⟩ := bindO hm
  refine jd [] [] rfl rfl rfl rfl rfl rfl rfl Tryz.call110 (fun w hh => JJ l0 holds1_f0 qa0 na0 ca0 b qa1 na1 ca1 qa2 na2 ca2 w (HV.callee (S0 := []) (vs0 := []) hh (roR hh 0 rfl (roC (bsep (hh.bseg 0 rfl)) (roR hh 1 rfl (roR hh 2 rfl roN))))) hna0 hqa0 hla0 hna1 hqa1 hla1 hna2 hqa2 hla2 h2) (fun l h3 => ?_)
  refine jc rfl rfl rfl (fun _ _ => kE rfl) (jk rfl rfl (jp (jw ?_)))
  obtain rfl := sj hm
  refine jm rfl (fun w hh => (.tmp rfl .nil)) (fun w hh => ⟨(), rfl, trivial, hh.se [] [] 3 rfl rfl rfl rfl⟩)
structure kw where
  r0 : Int
  r1 : Int
def Qw (s0 : Scalps) (l1 : Lack) : Option kw :=
 (kv s0).bind fun t11 =>
 oc t11 (fun t11a => if l1.tenants = true then
 (some (⟨0, t11a⟩ : kw)) else
 (some (⟨0, t11a⟩ : kw))) (fun t11b => if l1.tenants = true then
 ((JA l1.of_ s0).bind fun t28 =>
 if (!t28) = true then
 (some (⟨0, 1⟩ : kw)) else
 ((if (l1.of_.length : Int) = 0 then
 (some true) else
 ((qa l1.of_).bind fun t38 =>
 if (!t38) = true then
 (some true) else
 ((yq l1.of_).bind fun t44 =>
 (yN t44).bind fun t45 =>
 some (decide ((t45.length : Int) < (l1.of_.length : Int)))))).bind fun o =>
 if o = true then
 (some (⟨0, 4⟩ : kw)) else
 ((qT s0.strips s0.carried t11b l1).bind fun t55 =>
 if t55 < 1 then
 (some (⟨0, 8⟩ : kw)) else
 ((qT s0.strips s0.carried t11b l1).bind fun t59 =>
 some (⟨t59, 0⟩ : kw))))) else
 ((Jy l1.of_ s0).bind fun t28_1 =>
 if (!t28_1) = true then
 (some (⟨0, 1⟩ : kw)) else
 ((if (l1.of_.length : Int) = 0 then
 (some true) else
 ((qa l1.of_).bind fun t38_1 =>
 if (!t38_1) = true then
 (some true) else
 ((yq l1.of_).bind fun t44_1 =>
 (yN t44_1).bind fun t45_1 =>
 some (decide ((t45_1.length : Int) < (l1.of_.length : Int)))))).bind fun o_1 =>
 if o_1 = true then
 (some (⟨0, 4⟩ : kw)) else
 ((qT s0.strips s0.carried t11b l1).bind fun t55_1 =>
 if t55_1 < 1 then
 (some (⟨0, 8⟩ : kw)) else
 ((qT s0.strips s0.carried t11b l1).bind fun t59_1 =>
 some (⟨t59_1, 0⟩ : kw))))))
theorem Ze (s0 : Scalps) (l1 : Lack) (qa0 : Option Addr) (na0 ca0 : Nat) (qa1 : Option Addr) (na1 ca1 : Nat) (qa2 : Option Addr) (na2 ca2 : Nat) (w : World) (hw : HV w (keys [] []) [] [] [(aB qa0, aO qa0, RSt.enc s0.strips), (aB qa1, aO qa1, RSp.enc s0.carried), (aB qa2, aO qa2, RI.enc l1.of_)] w) (hna0 : s0.strips.length = na0) (hqa0 : AOK na0 qa0) (hla0 : na0 ≤ ca0) (hna1 : s0.carried.length = na1) (hqa1 : AOK na1 qa1) (hla1 : na1 ≤ ca1) (hna2 : l1.of_.length = na2) (hqa2 : AOK na2 qa2) (hla2 : na2 ≤ ca2) {res : kw} (hm : Qw s0 l1 = some res) :
    Calls Tryz.prog 19 #[.agg #[.slice qa0 na0 ca0, .slice qa1 na1 ca1], .agg #[.bool l1.tenants, .slice qa2 na2 ca2]] w (fun en w' => ∃ l : Unit, en = .returned (.tuple #[.int .i64 res.r0, .int .i64 res.r1]) ∧ (True) ∧ HV w (keys [] []) [] [] [] w') := by
  unfold Qw at hm
  refine j5 Tryz.func19 rfl Tryz.ntmps19 rfl (e := [(0, _), (1, _)]) rfl hw (jq ?_)
  refine jC rfl rfl (fun b h1 => ?_)
  refine jC rfl rfl (fun b_1 h2 => ?_)
  refine jk rfl rfl (jk rfl rfl (j0 (kD [_, _] 1 Tryz.isAgg25 Tryz.sizeOf25 rfl rfl rfl rfl ?_)))
  obtain ⟨t11, h3, hm⟩ := bindO hm
  rcases t11 with t11a | t11b
  ·replace hm := ocL hm
   refine jd [] [] rfl rfl rfl rfl rfl rfl rfl Tryz.call57 (fun w hh => kh s0 qa0 na0 ca0 qa1 na1 ca1 w (HV.callee (S0 := []) (vs0 := []) hh (roR hh 0 rfl (roR hh 1 rfl roN))) hna0 hqa0 hla0 hna1 hqa1 hla1 h3) (fun l h4 => ?_)
   have h5 := h4
   refine je rfl rfl (kp rfl rfl rfl (kp rfl rfl rfl (jk rfl rfl (jk rfl rfl (j0 (kD [_, _] 1 Tryz.isAgg25 Tryz.sizeOf25 rfl rfl rfl rfl (jc rfl rfl rfl (fun _ _ => jK (u := #[_]) (u' := #[]) rfl rfl) ?_)))))))
   refine jk rfl rfl (jp (jj (jq (jP 0 Tryz.runUnderlying30 rfl Tryz.sizeOf4 rfl rfl (jY 0 Tryz.isAgg4 rfl rfl rfl rfl (jp ?_))))))
   refine js rfl (fun h6 => ?_) (fun h6 => ?_)
   ·replace hm := ifT (h6) hm
    refine jh (kD [_, _] 1 Tryz.isAgg25 Tryz.sizeOf25 rfl rfl rfl rfl (jc rfl rfl rfl (fun _ _ => jK (u := #[_]) (u' := #[]) rfl rfl) (jk rfl rfl (jp (jj (jn (jq ?_)))))))
    refine je rfl rfl (jc rfl rfl rfl (fun _ _ => QI h5 rfl rfl) (jk rfl rfl (jp (zd rfl rfl (jq (je rfl rfl (jk rfl rfl ?_)))))))
    refine jk rfl rfl (jp (jw (jx (jf ?_))))
    obtain rfl := sj hm
    refine jm rfl (fun w hh => (.tmp rfl (.tmp rfl .nil))) (fun w hh => ⟨(), rfl, trivial, hh.se [] [] 3 rfl rfl rfl rfl⟩)
   ·replace hm := ifN h6 hm
    refine ju (ja (jj (jn (jq (je rfl rfl (jc rfl rfl rfl (fun _ _ => QI h5 rfl rfl) (jk rfl rfl ?_)))))))
    refine jp (zd rfl rfl (jq (je rfl rfl (jk rfl rfl (jk rfl rfl (jp (jw ?_)))))))
    refine jx (jf ?_)
    obtain rfl := sj hm
    refine jm rfl (fun w hh => (.tmp rfl (.tmp rfl .nil))) (fun w hh => ⟨(), rfl, trivial, hh.se [] [] 3 rfl rfl rfl rfl⟩)
  ·replace hm := ocR hm
   refine jd [] [] rfl rfl rfl rfl rfl rfl rfl Tryz.call57 (fun w hh => kh s0 qa0 na0 ca0 qa1 na1 ca1 w (HV.callee (S0 := []) (vs0 := []) hh (roR hh 0 rfl (roR hh 1 rfl roN))) hna0 hqa0 hla0 hna1 hqa1 hla1 h3) (fun l_1 h7 => ?_)
   refine jT (S' := [_, _, _, _]) (vs' := []) [0, 1, 2, 3] [] 0 rfl rfl rfl rfl (je rfl rfl (kp rfl rfl rfl (kp rfl rfl rfl (jk rfl rfl (jk rfl rfl (j0 (kD [_, _] 3 Tryz.isAgg25 Tryz.sizeOf25 rfl rfl rfl rfl ?_)))))))
   refine jc rfl rfl rfl (fun _ _ => jK (u := #[_]) (u' := #[]) rfl rfl) (jk rfl rfl (jp (jj (jq (jP 0 Tryz.runUnderlying30 rfl Tryz.sizeOf4 rfl rfl (jY 2 Tryz.isAgg4 rfl rfl rfl rfl (jp ?_)))))))
   refine js rfl (fun h8 => ?_) (fun h8 => ?_)
   ·replace hm := ifT (h8) hm
    refine jh (kD [_, _] 3 Tryz.isAgg25 Tryz.sizeOf25 rfl rfl rfl rfl (jc rfl rfl rfl (fun _ _ => jK (u := #[_]) (u' := #[]) rfl rfl) (jk rfl rfl (jp (jj (jn (jq ?_)))))))
    refine je rfl rfl (jc rfl rfl rfl (fun _ _ => q8 rfl rfl) (jk rfl rfl (jp (qW rfl rfl (jq (jP 1 Tryz.runUnderlying30 rfl Tryz.sizeOf26 rfl rfl (jY 2 Tryz.isAgg26 rfl rfl rfl rfl ?_)))))))
    refine je rfl rfl ?_
    obtain ⟨t28, h9, hm⟩ := bindO hm
    refine jd [] [] rfl rfl rfl rfl rfl rfl rfl Tryz.call63 (fun w hh => Yo l1.of_ s0 qa2 na2 ca2 qa0 na0 ca0 qa1 na1 ca1 w (HV.callee (S0 := []) (vs0 := []) hh (roR hh 2 rfl (roR hh 0 rfl (roR hh 1 rfl roN)))) hna2 hqa2 hla2 hna0 hqa0 hla0 hna1 hqa1 hla1 h9) (fun l_2 h10 => ?_)
    refine jc rfl rfl rfl (fun _ _ => kE rfl) (jk rfl rfl (jp ?_))
    refine js rfl (fun h11 => ?_) (fun h11 => ?_)
    ·replace hm := ifT (h11) hm
     refine jq (jk rfl rfl (jk rfl rfl (jp (jw (jx (jf ?_))))))
     obtain rfl := sj hm
     refine jm rfl (fun w hh => (.tmp rfl (.tmp rfl .nil))) (fun w hh => ⟨(), rfl, trivial, hh.se [] [] 3 rfl rfl rfl rfl⟩)
    ·replace hm := ifN h11 hm
     refine jj ?_
     obtain ⟨o, h12, h13⟩ := bindO hm
     refine jF (ι := Unit) (fun l_3 => True) (fun l_3 => [(3, ptr b_1 0), (6, ptr l_1.1 0), (30, .bool o)]) (fun l_3 => [(l_1.1, .cells #[.slice qa0 na0 ca0, .slice qa1 na1 ca1, .map (some l_1.2)] 144 (0, 0)), (l_1.2, gobj (kR RPr) kB t11b), (b_1, .cells #[.bool l1.tenants, .slice qa2 na2 ca2] 30 (0, 0)), (b, .cells #[.slice qa0 na0 ca0, .slice qa1 na1 ca1] 25 (0, 0))]) (fun l_3 => []) ?_ ?_
     ·replace hm := h12
      refine jX none (.free 0 (.hoist 1 (.free 2 (.free 3 (.free 4 (.free 5 (.hoist 6 (.one 7 (.free 8 (.free 9 (.free 10 (.free 11 (.hoist 12 (.free 16 (.hoist 17 (.free 18 (.one 13 (.one 14 (.free 15 (.free 19 (.free 20 (.free 21 .done)))))))))))))))))))))) _ rfl (by decide +kernel) (fun w k hh => hh.draw k) (fun w hh => hh) ?_
      refine k5 1 Tryz.runUnderlying30 Tryz.sizeOf26 rfl rfl rfl rfl (qY 2 Tryz.isAgg26 rfl rfl rfl rfl rfl (ji rfl rfl rfl rfl (fun w _ => jI hna2 (Tryz.runUnderlying26 w) rfl) (ji rfl rfl rfl rfl (fun _ _ => yD rfl rfl) (ku rfl rfl rfl ?_))))
      refine jJ 35 rfl (fun h14 => ?_) (fun h14 => ?_)
      ·replace hm := ifD h14 hm
       refine jV rfl rfl rfl rfl rfl rfl rfl (J0 rfl rfl rfl rfl rfl rfl rfl (jE rfl (g_k rfl rfl rfl rfl (jr (fun w hh => hh) (jV rfl rfl rfl rfl rfl rfl rfl (ji rfl rfl rfl rfl (fun _ _ => Jd rfl rfl) (ku rfl rfl rfl ?_)))))))
       refine jV rfl rfl rfl rfl rfl rfl rfl (J0 rfl rfl rfl rfl rfl rfl rfl (jV rfl rfl rfl rfl rfl rfl rfl (J0 rfl rfl rfl rfl rfl rfl rfl (jV rfl rfl rfl rfl rfl rfl rfl (jE rfl (g_k rfl rfl rfl rfl (jr (fun w hh => hh) ?_)))))))
       refine jE rfl (g_k rfl rfl rfl rfl (jr (fun w hh => hh) (jV rfl rfl rfl rfl rfl rfl rfl (jV rfl rfl rfl rfl rfl rfl rfl (ji rfl rfl rfl rfl (fun _ _ => Jd rfl rfl) (ji rfl rfl rfl rfl (fun _ _ => jH rfl) (jM ?_)))))))
       obtain rfl := sj hm
       exact jg () (trivial) (sE rfl) (fun w hh => hh)
      ·replace hm := ifE h14 hm
       refine kb rfl rfl rfl rfl rfl rfl (fun w _ => kf 1 (Tryz.runUnderlying30 w) rfl (Tryz.sizeOf26 w) rfl) (Jm rfl rfl rfl rfl rfl rfl (fun w hh => jR (Tryz.isAgg26 w) rfl (hh.cell 2 rfl rfl)) (jE rfl (jb rfl rfl ?_)))
       obtain ⟨t38, h15, hm⟩ := bindO hm
       refine jd [] [] rfl rfl rfl rfl rfl rfl rfl Tryz.call69 (fun w hh => Jg l1.of_ qa2 na2 ca2 w (HV.callee (S0 := []) (vs0 := []) hh (roR hh 2 rfl roN)) hna2 hqa2 hla2 h15) (fun l_4 h16 => ?_)
       refine jr (fun w hh => hh) (kb rfl rfl rfl rfl rfl rfl (fun _ _ => kE rfl) (ji rfl rfl rfl rfl (fun _ _ => KG rfl rfl) (ku rfl rfl rfl ?_)))
       refine jJ 41 rfl (fun h17 => ?_) (fun h17 => ?_)
       ·replace hm := ifT (h17) hm
        refine jV rfl rfl rfl rfl rfl rfl rfl (J0 rfl rfl rfl rfl rfl rfl rfl (jV rfl rfl rfl rfl rfl rfl rfl (J0 rfl rfl rfl rfl rfl rfl rfl (jV rfl rfl rfl rfl rfl rfl rfl (jE rfl (g_k rfl rfl rfl rfl (jr (fun w hh => hh) ?_)))))))
        refine jE rfl (g_k rfl rfl rfl rfl (jr (fun w hh => hh) (jV rfl rfl rfl rfl rfl rfl rfl (jV rfl rfl rfl rfl rfl rfl rfl (ji rfl rfl rfl rfl (fun _ _ => Jd rfl rfl) (ji rfl rfl rfl rfl (fun _ _ => jH rfl) (jM ?_)))))))
        obtain rfl := sj hm
        exact jg () (trivial) (sE rfl) (fun w hh => hh)
       ·replace hm := ifN h17 hm
        refine kb rfl rfl rfl rfl rfl rfl (fun w _ => kf 1 (Tryz.runUnderlying30 w) rfl (Tryz.sizeOf26 w) rfl) (Jm rfl rfl rfl rfl rfl rfl (fun w hh => jR (Tryz.isAgg26 w) rfl (hh.cell 2 rfl rfl)) (kb rfl rfl rfl rfl rfl rfl (fun w _ => kf 1 (Tryz.runUnderlying30 w) rfl (Tryz.sizeOf26 w) rfl) (Jm rfl rfl rfl rfl rfl rfl (fun w hh => jR (Tryz.isAgg26 w) rfl (hh.cell 2 rfl rfl)) (kb rfl rfl rfl rfl rfl rfl (fun w _ => jI hna2 (Tryz.runUnderlying26 w) rfl) (jE rfl (jb rfl rfl ?_))))))
        obtain ⟨t44, h18, hm⟩ := bindO hm
        refine jd [] [] rfl rfl rfl rfl rfl rfl rfl Tryz.call71 (fun w hh => Kj l1.of_ qa2 na2 ca2 w (HV.callee (S0 := []) (vs0 := []) hh (roR hh 2 rfl roN)) hna2 hqa2 hla2 h18) (fun l_5 h19 => ?_)
        have h20 := h19
        refine jT (S' := [_, _, _, _]) (vs' := [_]) [0, 1, 2, 3] [0] 0 rfl rfl rfl rfl (jr (hsE [0, 1, 2, 3] [] 0 rfl rfl rfl rfl) (jE rfl (jb rfl rfl ?_)))
        obtain ⟨t45, h21, hm⟩ := bindO hm
        refine jd [] [_] rfl rfl rfl rfl rfl rfl rfl Tryz.call70 (fun w hh => J1 t44 ⟨l_5.q, l_5.n, l_5.cap, l_5.sp⟩ w (HV.callee (S0 := []) (vs0 := [_]) hh roN) h20 h21) (fun l_6 h22 => ?_)
        have h23 := h22
        refine jT (S' := [_, _, _, _]) (vs' := [_]) [0, 1, 2, 3] [0] 0 rfl rfl rfl rfl (jr (hsE [0, 1, 2, 3] [] 0 rfl rfl rfl rfl) (kb rfl rfl rfl rfl rfl rfl (fun w _ => Q1 (vlen RI h23 rfl) (Tryz.runUnderlying26 w) rfl) (kb rfl rfl rfl rfl rfl rfl (fun _ _ => YE rfl rfl) (ji rfl rfl rfl rfl (fun _ _ => KG rfl rfl) (ji rfl rfl rfl rfl (fun _ _ => jH rfl) (jM ?_))))))
        obtain rfl := sj hm
        exact jg () (trivial) (sE rfl) (hsE [0, 1, 2, 3] [] 0 rfl rfl rfl rfl)
     ·intro l_3 hj
      replace hm := h13
      refine ja ?_
      refine js rfl (fun h24 => ?_) (fun h24 => ?_)
      ·replace hm := ifT (h24) hm
       refine jq (jk rfl rfl (jk rfl rfl (jp (jw (jx (jf ?_))))))
       obtain rfl := sj hm
       refine jm rfl (fun w hh => (.tmp rfl (.tmp rfl .nil))) (fun w hh => ⟨(), rfl, trivial, hh.se [] [] 3 rfl rfl rfl rfl⟩)
      ·replace hm := ifN h24 hm
       refine jq (je rfl rfl (kD [_, _] 2 Tryz.isAgg30 Tryz.sizeOf30 rfl rfl rfl rfl ?_))
       obtain ⟨t55, h25, hm⟩ := bindO hm
       refine jT (S' := [_, _, _, _]) (vs' := []) [1, 0, 2, 3] [] 0 rfl rfl rfl rfl ?_
       refine jd [_] [] rfl rfl rfl rfl rfl rfl rfl Tryz.call72 (fun w hh => zG s0.strips s0.carried t11b l1 l_1.1 qa0 na0 ca0 qa1 na1 ca1 l_1.2 qa2 na2 ca2 w (HV.callee (S0 := [_]) (vs0 := []) hh (roC (hh.bsepH 0 rfl) (roR hh 0 rfl (roR hh 1 rfl (roR hh 2 rfl roN))))) hna0 hqa0 hla0 hna1 hqa1 hla1 hna2 hqa2 hla2 h25) (fun l_7 h26 => ?_)
       refine jT (S' := [_, _, _, _]) (vs' := []) [0, 1, 2, 3] [] 0 rfl rfl rfl rfl (yY rfl rfl rfl (jk rfl rfl (jp ?_)))
       refine js rfl (fun h27 => ?_) (fun h27 => ?_)
       ·replace hm := ifD h27 hm
        refine jq (jk rfl rfl (jk rfl rfl (jp (jw (jx (jf ?_))))))
        obtain rfl := sj hm
        refine jm rfl (fun w hh => (.tmp rfl (.tmp rfl .nil))) (fun w hh => ⟨(), rfl, trivial, hh.se [] [] 3 rfl rfl rfl rfl⟩)
       ·replace hm := ifE h27 hm
        refine ju (jt (ja (jq (je rfl rfl (kD [_, _] 2 Tryz.isAgg30 Tryz.sizeOf30 rfl rfl rfl rfl ?_)))))
        obtain ⟨t59, h28, hm⟩ := bindO hm
        refine jd [_] [] rfl rfl rfl rfl rfl rfl rfl Tryz.call72 (fun w hh => zG s0.strips s0.carried t11b l1 l_1.1 qa0 na0 ca0 qa1 na1 ca1 l_1.2 qa2 na2 ca2 w (HV.callee (S0 := [_]) (vs0 := []) hh (roC (hh.bsepH 0 rfl) (roR hh 0 rfl (roR hh 1 rfl (roR hh 2 rfl roN))))) hna0 hqa0 hla0 hna1 hqa1 hla1 hna2 hqa2 hla2 h28) (fun l_8 h29 => ?_)
        refine jT (S' := [_, _, _, _]) (vs' := []) [0, 1, 2, 3] [] 0 rfl rfl rfl rfl (jk rfl rfl (jk rfl rfl (jp (jw ?_))))
        obtain rfl := sj hm
        refine jm rfl (fun w hh => (.tmp rfl (.tmp rfl .nil))) (fun w hh => ⟨(), rfl, trivial, hh.se [] [] 3 rfl rfl rfl rfl⟩)
   ·replace hm := ifN h8 hm
    refine ju (ja (jj (jn (jq (je rfl rfl (jc rfl rfl rfl (fun _ _ => q8 rfl rfl) (jk rfl rfl ?_)))))))
    refine jp (qW rfl rfl (jq (jP 1 Tryz.runUnderlying30 rfl Tryz.sizeOf26 rfl rfl (jY 2 Tryz.isAgg26 rfl rfl rfl rfl (je rfl rfl ?_)))))
    obtain ⟨t28_1, h30, hm⟩ := bindO hm
    refine jd [] [] rfl rfl rfl rfl rfl rfl rfl Tryz.call63 (fun w hh => Ys l1.of_ s0 qa2 na2 ca2 qa0 na0 ca0 qa1 na1 ca1 w (HV.callee (S0 := []) (vs0 := []) hh (roR hh 2 rfl (roR hh 0 rfl (roR hh 1 rfl roN)))) hna2 hqa2 hla2 hna0 hqa0 hla0 hna1 hqa1 hla1 h30) (fun l_9 h31 => ?_)
    refine jc rfl rfl rfl (fun _ _ => kE rfl) (jk rfl rfl (jp ?_))
    refine js rfl (fun h32 => ?_) (fun h32 => ?_)
    ·replace hm := ifT (h32) hm
     refine jq (jk rfl rfl (jk rfl rfl (jp (jw (jx (jf ?_))))))
     obtain rfl := sj hm
     refine jm rfl (fun w hh => (.tmp rfl (.tmp rfl .nil))) (fun w hh => ⟨(), rfl, trivial, hh.se [] [] 3 rfl rfl rfl rfl⟩)
    ·replace hm := ifN h32 hm
     refine jj ?_
     obtain ⟨o_1, h33, h34⟩ := bindO hm
     refine jF (ι := Unit) (fun l_10 => True) (fun l_10 => [(3, ptr b_1 0), (6, ptr l_1.1 0), (30, .bool o_1)]) (fun l_10 => [(l_1.1, .cells #[.slice qa0 na0 ca0, .slice qa1 na1 ca1, .map (some l_1.2)] 144 (0, 0)), (l_1.2, gobj (kR RPr) kB t11b), (b_1, .cells #[.bool l1.tenants, .slice qa2 na2 ca2] 30 (0, 0)), (b, .cells #[.slice qa0 na0 ca0, .slice qa1 na1 ca1] 25 (0, 0))]) (fun l_10 => []) ?_ ?_
     ·replace hm := h33
      refine jX none (.free 0 (.hoist 1 (.free 2 (.free 3 (.free 4 (.free 5 (.hoist 6 (.one 7 (.free 8 (.free 9 (.free 10 (.free 11 (.hoist 12 (.free 16 (.hoist 17 (.free 18 (.one 13 (.one 14 (.free 15 (.free 19 (.free 20 (.free 21 .done)))))))))))))))))))))) _ rfl (by decide +kernel) (fun w k hh => hh.draw k) (fun w hh => hh) ?_
      refine k5 1 Tryz.runUnderlying30 Tryz.sizeOf26 rfl rfl rfl rfl (qY 2 Tryz.isAgg26 rfl rfl rfl rfl rfl (ji rfl rfl rfl rfl (fun w _ => jI hna2 (Tryz.runUnderlying26 w) rfl) (ji rfl rfl rfl rfl (fun _ _ => yD rfl rfl) (ku rfl rfl rfl ?_))))
      refine jJ 35 rfl (fun h35 => ?_) (fun h35 => ?_)
      ·replace hm := ifD h35 hm
       refine jV rfl rfl rfl rfl rfl rfl rfl (J0 rfl rfl rfl rfl rfl rfl rfl (jE rfl (g_k rfl rfl rfl rfl (jr (fun w hh => hh) (jV rfl rfl rfl rfl rfl rfl rfl (ji rfl rfl rfl rfl (fun _ _ => Jd rfl rfl) (ku rfl rfl rfl ?_)))))))
       refine jV rfl rfl rfl rfl rfl rfl rfl (J0 rfl rfl rfl rfl rfl rfl rfl (jV rfl rfl rfl rfl rfl rfl rfl (J0 rfl rfl rfl rfl rfl rfl rfl (jV rfl rfl rfl rfl rfl rfl rfl (jE rfl (g_k rfl rfl rfl rfl (jr (fun w hh => hh) ?_)))))))
       refine jE rfl (g_k rfl rfl rfl rfl (jr (fun w hh => hh) (jV rfl rfl rfl rfl rfl rfl rfl (jV rfl rfl rfl rfl rfl rfl rfl (ji rfl rfl rfl rfl (fun _ _ => Jd rfl rfl) (ji rfl rfl rfl rfl (fun _ _ => jH rfl) (jM ?_)))))))
       obtain rfl := sj hm
       exact jg () (trivial) (sE rfl) (fun w hh => hh)
      ·replace hm := ifE h35 hm
       refine kb rfl rfl rfl rfl rfl rfl (fun w _ => kf 1 (Tryz.runUnderlying30 w) rfl (Tryz.sizeOf26 w) rfl) (Jm rfl rfl rfl rfl rfl rfl (fun w hh => jR (Tryz.isAgg26 w) rfl (hh.cell 2 rfl rfl)) (jE rfl (jb rfl rfl ?_)))
       obtain ⟨t38_1, h36, hm⟩ := bindO hm
       refine jd [] [] rfl rfl rfl rfl rfl rfl rfl Tryz.call69 (fun w hh => Jg l1.of_ qa2 na2 ca2 w (HV.callee (S0 := []) (vs0 := []) hh (roR hh 2 rfl roN)) hna2 hqa2 hla2 h36) (fun l_11 h37 => ?_)
       refine jr (fun w hh => hh) (kb rfl rfl rfl rfl rfl rfl (fun _ _ => kE rfl) (ji rfl rfl rfl rfl (fun _ _ => KG rfl rfl) (ku rfl rfl rfl ?_)))
       refine jJ 41 rfl (fun h38 => ?_) (fun h38 => ?_)
       ·replace hm := ifT (h38) hm
        refine jV rfl rfl rfl rfl rfl rfl rfl (J0 rfl rfl rfl rfl rfl rfl rfl (jV rfl rfl rfl rfl rfl rfl rfl (J0 rfl rfl rfl rfl rfl rfl rfl (jV rfl rfl rfl rfl rfl rfl rfl (jE rfl (g_k rfl rfl rfl rfl (jr (fun w hh => hh) ?_)))))))
        refine jE rfl (g_k rfl rfl rfl rfl (jr (fun w hh => hh) (jV rfl rfl rfl rfl rfl rfl rfl (jV rfl rfl rfl rfl rfl rfl rfl (ji rfl rfl rfl rfl (fun _ _ => Jd rfl rfl) (ji rfl rfl rfl rfl (fun _ _ => jH rfl) (jM ?_)))))))
        obtain rfl := sj hm
        exact jg () (trivial) (sE rfl) (fun w hh => hh)
       ·replace hm := ifN h38 hm
        refine kb rfl rfl rfl rfl rfl rfl (fun w _ => kf 1 (Tryz.runUnderlying30 w) rfl (Tryz.sizeOf26 w) rfl) (Jm rfl rfl rfl rfl rfl rfl (fun w hh => jR (Tryz.isAgg26 w) rfl (hh.cell 2 rfl rfl)) (kb rfl rfl rfl rfl rfl rfl (fun w _ => kf 1 (Tryz.runUnderlying30 w) rfl (Tryz.sizeOf26 w) rfl) (Jm rfl rfl rfl rfl rfl rfl (fun w hh => jR (Tryz.isAgg26 w) rfl (hh.cell 2 rfl rfl)) (kb rfl rfl rfl rfl rfl rfl (fun w _ => jI hna2 (Tryz.runUnderlying26 w) rfl) (jE rfl (jb rfl rfl ?_))))))
        obtain ⟨t44_1, h39, hm⟩ := bindO hm
        refine jd [] [] rfl rfl rfl rfl rfl rfl rfl Tryz.call71 (fun w hh => Kj l1.of_ qa2 na2 ca2 w (HV.callee (S0 := []) (vs0 := []) hh (roR hh 2 rfl roN)) hna2 hqa2 hla2 h39) (fun l_12 h40 => ?_)
        have h41 := h40
        refine jT (S' := [_, _, _, _]) (vs' := [_]) [0, 1, 2, 3] [0] 0 rfl rfl rfl rfl (jr (hsE [0, 1, 2, 3] [] 0 rfl rfl rfl rfl) (jE rfl (jb rfl rfl ?_)))
        obtain ⟨t45_1, h42, hm⟩ := bindO hm
        refine jd [] [_] rfl rfl rfl rfl rfl rfl rfl Tryz.call70 (fun w hh => J1 t44_1 ⟨l_12.q, l_12.n, l_12.cap, l_12.sp⟩ w (HV.callee (S0 := []) (vs0 := [_]) hh roN) h41 h42) (fun l_13 h43 => ?_)
        have h44 := h43
        refine jT (S' := [_, _, _, _]) (vs' := [_]) [0, 1, 2, 3] [0] 0 rfl rfl rfl rfl (jr (hsE [0, 1, 2, 3] [] 0 rfl rfl rfl rfl) (kb rfl rfl rfl rfl rfl rfl (fun w _ => Q1 (vlen RI h44 rfl) (Tryz.runUnderlying26 w) rfl) (kb rfl rfl rfl rfl rfl rfl (fun _ _ => YE rfl rfl) (ji rfl rfl rfl rfl (fun _ _ => KG rfl rfl) (ji rfl rfl rfl rfl (fun _ _ => jH rfl) (jM ?_))))))
        obtain rfl := sj hm
        exact jg () (trivial) (sE rfl) (hsE [0, 1, 2, 3] [] 0 rfl rfl rfl rfl)
     ·intro l_10 hj
      replace hm := h34
      refine ja ?_
      refine js rfl (fun h45 => ?_) (fun h45 => ?_)
      ·replace hm := ifT (h45) hm
       refine jq (jk rfl rfl (jk rfl rfl (jp (jw (jx (jf ?_))))))
       obtain rfl := sj hm
       refine jm rfl (fun w hh => (.tmp rfl (.tmp rfl .nil))) (fun w hh => ⟨(), rfl, trivial, hh.se [] [] 3 rfl rfl rfl rfl⟩)
      ·replace hm := ifN h45 hm
       refine jq (je rfl rfl (kD [_, _] 2 Tryz.isAgg30 Tryz.sizeOf30 rfl rfl rfl rfl ?_))
       obtain ⟨t55_1, h46, hm⟩ := bindO hm
       refine jT (S' := [_, _, _, _]) (vs' := []) [1, 0, 2, 3] [] 0 rfl rfl rfl rfl ?_
       refine jd [_] [] rfl rfl rfl rfl rfl rfl rfl Tryz.call72 (fun w hh => zG s0.strips s0.carried t11b l1 l_1.1 qa0 na0 ca0 qa1 na1 ca1 l_1.2 qa2 na2 ca2 w (HV.callee (S0 := [_]) (vs0 := []) hh (roC (hh.bsepH 0 rfl) (roR hh 0 rfl (roR hh 1 rfl (roR hh 2 rfl roN))))) hna0 hqa0 hla0 hna1 hqa1 hla1 hna2 hqa2 hla2 h46) (fun l_14 h47 => ?_)
       refine jT (S' := [_, _, _, _]) (vs' := []) [0, 1, 2, 3] [] 0 rfl rfl rfl rfl (yY rfl rfl rfl (jk rfl rfl (jp ?_)))
       refine js rfl (fun h48 => ?_) (fun h48 => ?_)
       ·replace hm := ifD h48 hm
        refine jq (jk rfl rfl (jk rfl rfl (jp (jw (jx (jf ?_))))))
        obtain rfl := sj hm
        refine jm rfl (fun w hh => (.tmp rfl (.tmp rfl .nil))) (fun w hh => ⟨(), rfl, trivial, hh.se [] [] 3 rfl rfl rfl rfl⟩)
       ·replace hm := ifE h48 hm
        refine ju (jt (ja (jq (je rfl rfl (kD [_, _] 2 Tryz.isAgg30 Tryz.sizeOf30 rfl rfl rfl rfl ?_)))))
        obtain ⟨t59_1, h49, hm⟩ := bindO hm
        refine jd [_] [] rfl rfl rfl rfl rfl rfl rfl Tryz.call72 (fun w hh => zG s0.strips s0.carried t11b l1 l_1.1 qa0 na0 ca0 qa1 na1 ca1 l_1.2 qa2 na2 ca2 w (HV.callee (S0 := [_]) (vs0 := []) hh (roC (hh.bsepH 0 rfl) (roR hh 0 rfl (roR hh 1 rfl (roR hh 2 rfl roN))))) hna0 hqa0 hla0 hna1 hqa1 hla1 hna2 hqa2 hla2 h49) (fun l_15 h50 => ?_)
        refine jT (S' := [_, _, _, _]) (vs' := []) [0, 1, 2, 3] [] 0 rfl rfl rfl rfl (jk rfl rfl (jk rfl rfl (jp (jw ?_))))
        obtain rfl := sj hm
        refine jm rfl (fun w hh => (.tmp rfl (.tmp rfl .nil))) (fun w hh => ⟨(), rfl, trivial, hh.se [] [] 3 rfl rfl rfl rfl⟩)
structure K7 where
  r1 : Int
  r0 : (List (List Int))
def QP (s0 : Scalps) : Option K7 :=
 (QB s0).bind fun t9 =>
 some (⟨t9.r2, t9.r0⟩ : K7)
theorem ZT (s0 : Scalps) (qa0 : Option Addr) (na0 ca0 : Nat) (qa1 : Option Addr) (na1 ca1 : Nat) (w : World) (hw : HV w (keys [] []) [] [] [(aB qa0, aO qa0, RSt.enc s0.strips), (aB qa1, aO qa1, RSp.enc s0.carried)] w) (hna0 : s0.strips.length = na0) (hqa0 : AOK na0 qa0) (hla0 : na0 ≤ ca0) (hna1 : s0.carried.length = na1) (hqa1 : AOK na1 qa1) (hla1 : na1 ≤ ca1) {res : K7} (hm : QP s0 = some res) :
    Calls Tryz.prog 42 #[.agg #[.slice qa0 na0 ca0, .slice qa1 na1 ca1]] w (fun en w' => ∃ l : DL, en = .returned (.tuple #[slv l.v.q l.v.n l.v.cap, .int .i64 res.r1]) ∧ (VOK 1 l.v.n l.v.cap (RwH.enc l.rs) l.v.sp l.v.q ∧ DOK RI res.r0 l.rs) ∧ HV w (keys [] []) [] [⟨26, RwH.enc l.rs, l.v.sp, l.v.q, dbl 3 RI res.r0 l.rs⟩] [] w') := by
  unfold QP at hm
  refine j5 Tryz.func42 rfl Tryz.ntmps42 rfl (e := [(0, _)]) rfl hw (jq ?_)
  refine jC rfl rfl (fun b h3 => ?_)
  refine jc rfl rfl rfl (fun _ _ => kX rfl) (jk rfl rfl (j0 (kD [_, _] 0 Tryz.isAgg25 Tryz.sizeOf25 rfl rfl rfl rfl ?_)))
  obtain ⟨t9, h4, hm⟩ := bindO hm
  refine jd [] [] rfl rfl rfl rfl rfl rfl rfl Tryz.call45 (fun w hh => Zr s0 qa0 na0 ca0 qa1 na1 ca1 w (HV.callee (S0 := []) (vs0 := []) hh (roR hh 0 rfl (roR hh 1 rfl roN))) hna0 hqa0 hla0 hna1 hqa1 hla1 h4) (fun l h5 => ?_)
  obtain ⟨h6, h7⟩ := h5
  refine jT (S' := [_]) (vs' := [_]) [0] [0] 0 rfl rfl rfl rfl (je rfl rfl (kp rfl rfl rfl (kp rfl rfl rfl (kp rfl rfl rfl (jk rfl rfl (jk rfl rfl (jk rfl rfl ?_)))))))
  refine j0 (je rfl rfl (je rfl rfl (jk rfl rfl (jk rfl rfl (jp (jw ?_))))))
  obtain rfl := sj hm
  refine jm rfl (fun w hh => (.tmp rfl (.tmp rfl .nil))) (fun w hh => ⟨l, rfl, ⟨h6, h7⟩, hh.se [] [0] 2 rfl rfl rfl rfl⟩)
def Kz (s0 : (List Strip)) : Option (List Strip) :=
 if 0 < (s0.length : Int) then ((appc 56 [] s0).bind fun t7 =>
 some t7) else none
theorem y7 (s0 : (List Strip)) (qa0 : Option Addr) (na0 ca0 : Nat) (w : World) (hw : HV w (keys [] []) [] [] [(aB qa0, aO qa0, RSt.enc s0)] w) (hna0 : s0.length = na0) (hqa0 : AOK na0 qa0) (hla0 : na0 ≤ ca0) {res : (List Strip)} (hm : Kz s0 = some res) :
    Calls Tryz.prog 75 #[.slice qa0 na0 ca0] w (fun en w' => ∃ l : VL, en = .returned (slv l.q l.n l.cap) ∧ (VOK 7 l.n l.cap (RSt.enc res) l.sp l.q) ∧ HV w (keys [] []) [] [⟨85, RSt.enc res, l.sp, l.q, []⟩] [] w') := by
  unfold Kz at hm
  refine j5 Tryz.func75 rfl Tryz.ntmps75 rfl (e := [(0, _)]) rfl hw (jq (jc rfl rfl rfl (fun _ _ => kX rfl) (jp (jj (jq (je rfl rfl ?_))))))
  obtain ⟨h2, hm⟩ := ifO hm
  refine jc rfl rfl rfl (fun w _ => ZK hqa0 (len_posN hna0 h2) (Tryz.runUnderlying22 w) rfl rfl) (jp (qW rfl rfl (ju (ja (jq ?_)))))
  refine ZJ RSt (fun w => Tryz.runUnderlying22 w) (fun w => Tryz.sizeOf85 w) rfl rfl (fun L h3 => ?_)
  refine je rfl rfl ?_
  obtain ⟨t7, h4, hm⟩ := bindO hm
  refine yh RSt 0 h4 Tryz.underlying22 Zz rfl rfl rfl rfl rfl h3 rfl rfl hna0 hqa0 (fun w hh => (hh.seg 0 rfl)) rfl (fun L_1 h5 h5n => ?_)
  refine jT (S' := []) (vs' := [_]) [] [0] 0 rfl rfl rfl rfl (jk rfl rfl (jp (jw ?_)))
  obtain rfl := sj hm
  refine jm rfl (fun w hh => (.tmp rfl .nil)) (fun w hh => ⟨L_1, rfl, h5, hh.se [] [0] 1 rfl rfl rfl rfl⟩)
end Go.Proofs.Ws

namespace Go.Proofs.Ws
set_option maxHeartbeats 4000000
set_option maxRecDepth 100000
open Go Go.Fw Go.Gx Go.Sp
set_option linter.unusedVariables false
structure ya where
  r0 : Scalps
  r1 : Int
def Yf (s0 : Scalps) (tenant1 : Int) (carried2 : Span) : Option ya :=
 (J7 s0).bind fun t13 =>
 if t13 = 0 then
 ((jZ s0 tenant1).bind fun t22 =>
 if (!t22) = true then
 (some (⟨(⟨[], []⟩ : Scalps), 1⟩ : ya)) else
 ((zw carried2).bind fun t27 =>
 if (!t27) = true then
 (some (⟨(⟨[], []⟩ : Scalps), 3⟩ : ya)) else
 (if carried2.hi < carried2.lo then
 (some (⟨(⟨[], []⟩ : Scalps), 4⟩ : ya)) else
 ((ix s0.carried tenant1).bind fun t40 =>
 ((Js t40.hi [carried2.hi]).bind fun t52 =>
 some (⟨(max t40.lo carried2.lo), t52⟩ : Span)).bind fun o =>
 if o.hi < o.lo then
 (some (⟨(⟨[], []⟩ : Scalps), 7⟩ : ya)) else
 (((Kz s0.strips).bind fun t62 =>
 (makec 16 (⟨0, 0⟩ : Span) (s0.carried.length : Int) (s0.carried.length : Int)).bind fun t66 =>
 some (⟨t62, t66⟩ : Scalps)).bind fun o_1 =>
 if (s0.carried.length : Int) ≤ (o_1.carried.length : Int) then ((some (s0.carried ++ o_1.carried.drop s0.carried.length)).bind fun out11_carried =>
 (ix out11_carried tenant1).bind fun t77 =>
 (some (out11_carried.set (Int.toNat tenant1) o)).bind fun out11_carried_1 =>
 some (⟨(⟨o_1.strips, out11_carried_1⟩ : Scalps), 0⟩ : ya)) else none))))) else
 (some (⟨(⟨[], []⟩ : Scalps), t13⟩ : ya))
theorem jap (s0 : Scalps) (tenant1 : Int) (carried2 : Span) (qa0 : Option Addr) (na0 ca0 : Nat) (qa1 : Option Addr) (na1 ca1 : Nat) (w : World) (hw : HV w (keys [] []) [] [] [(aB qa0, aO qa0, RSt.enc s0.strips), (aB qa1, aO qa1, RSp.enc s0.carried)] w) (hna0 : s0.strips.length = na0) (hqa0 : AOK na0 qa0) (hla0 : na0 ≤ ca0) (hna1 : s0.carried.length = na1) (hqa1 : AOK na1 qa1) (hla1 : na1 ≤ ca1) {res : ya} (hm : Yf s0 tenant1 carried2 = some res) :
    Calls Tryz.prog 20 #[.agg #[.slice qa0 na0 ca0, .slice qa1 na1 ca1], .int .i64 tenant1, .agg #[.int .i64 carried2.lo, .int .i64 carried2.hi]] w (fun en w' => ∃ l : VL × VL, en = .returned (.tuple #[.agg #[slv l.1.q l.1.n l.1.cap, slv l.2.q l.2.n l.2.cap], .int .i64 res.r1]) ∧ (VOK 7 l.1.n l.1.cap (RSt.enc res.r0.strips) l.1.sp l.1.q ∧ VOK 2 l.2.n l.2.cap (RSp.enc res.r0.carried) l.2.sp l.2.q) ∧ HV w (keys [] []) [] [⟨85, RSt.enc res.r0.strips, l.1.sp, l.1.q, []⟩, ⟨32, RSp.enc res.r0.carried, l.2.sp, l.2.q, []⟩] [] w') := by
  unfold Yf at hm
  refine j5 Tryz.func20 rfl Tryz.ntmps20 rfl (e := [(0, _), (1, _), (2, _)]) rfl hw (jq ?_)
  refine jC rfl rfl (fun b h3 => ?_)
  refine jC rfl rfl (fun b_1 h4 => ?_)
  refine jo (fun w => Tryz.zeroValue25 w) rfl (fun b_2 h5 => ?_)
  refine jk rfl rfl (j0 (kD [_, _] 2 Tryz.isAgg25 Tryz.sizeOf25 rfl rfl rfl rfl ?_))
  obtain ⟨t13, h6, hm⟩ := bindO hm
  refine jd [] [] rfl rfl rfl rfl rfl rfl rfl Tryz.call32 (fun w hh => Zl s0 qa0 na0 ca0 qa1 na1 ca1 w (HV.callee (S0 := []) (vs0 := []) hh (roR hh 0 rfl (roR hh 1 rfl roN))) hna0 hqa0 hla0 hna1 hqa1 hla1 h6) (fun l h7 => ?_)
  refine jk rfl rfl (jp (jj (jn (jq (je rfl rfl (jc rfl rfl rfl (fun _ _ => q8 rfl rfl) (jk rfl rfl ?_)))))))
  refine jp ?_
  refine js rfl (fun h8 => ?_) (fun h8 => ?_)
  ·replace hm := ifF (of_ndec_true h8) hm
   refine jq (jc rfl rfl rfl (fun _ _ => jz (vs := []) (cells := [_, _]) rfl rfl) (je rfl rfl (jy (us := #[_, _]) (cs' := [_, _]) (S' := [_, _, _]) 0 (fun w => Tryz.sizeOf25 w) rfl rfl rfl rfl rfl rfl rfl (jk rfl rfl (jp (jw (jx ?_)))))))
   refine jf (kC 85 (kC 32 ?_))
   obtain rfl := sj hm
   refine jm rfl (fun w hh => (.cell rfl (loadVar_agg (vs := [_, _]) (Tryz.isAgg25 _) (Tryz.sizeOf25 _) (hh.cells 0 rfl rfl)) (.tmp rfl .nil))) (fun w hh => ⟨(⟨none, 0, 0, []⟩, ⟨none, 0, 0, []⟩), rfl, ⟨VOK.nil, VOK.nil⟩, hh.se [] [1, 0] 2 rfl rfl rfl rfl⟩)
  ·replace hm := ifT (of_ndec_false h8) hm
   refine jq (kD [_, _] 2 Tryz.isAgg25 Tryz.sizeOf25 rfl rfl rfl rfl (je rfl rfl ?_))
   obtain ⟨t22, h9, hm⟩ := bindO hm
   refine jd [] [] rfl rfl rfl rfl rfl rfl rfl Tryz.call68 (fun w hh => qq s0 tenant1 qa0 na0 ca0 qa1 na1 ca1 w (HV.callee (S0 := []) (vs0 := []) hh (roR hh 0 rfl (roR hh 1 rfl roN))) hna0 hqa0 hla0 hna1 hqa1 hla1 h9) (fun l_1 h10 => ?_)
   refine jc rfl rfl rfl (fun _ _ => kE rfl) (jk rfl rfl (jp ?_))
   refine js rfl (fun h11 => ?_) (fun h11 => ?_)
   ·replace hm := ifT (h11) hm
    refine jq (jc rfl rfl rfl (fun _ _ => jz (vs := []) (cells := [_, _]) rfl rfl) (jy (us := #[_, _]) (cs' := [_, _]) (S' := [_, _, _]) 0 (fun w => Tryz.sizeOf25 w) rfl rfl rfl rfl rfl rfl rfl (jk rfl rfl (jp (jw (jx (jf ?_)))))))
    refine kC 85 (kC 32 ?_)
    obtain rfl := sj hm
    refine jm rfl (fun w hh => (.cell rfl (loadVar_agg (vs := [_, _]) (Tryz.isAgg25 _) (Tryz.sizeOf25 _) (hh.cells 0 rfl rfl)) (.tmp rfl .nil))) (fun w hh => ⟨(⟨none, 0, 0, []⟩, ⟨none, 0, 0, []⟩), rfl, ⟨VOK.nil, VOK.nil⟩, hh.se [] [1, 0] 2 rfl rfl rfl rfl⟩)
   ·replace hm := ifN h11 hm
    refine jq (kD [_, _] 1 Tryz.isAgg32 Tryz.sizeOf32 rfl rfl rfl rfl ?_)
    obtain ⟨t27, h12, hm⟩ := bindO hm
    refine jd [] [] rfl rfl rfl rfl rfl rfl rfl Tryz.call73 (fun w hh => Ym carried2 w (HV.callee (S0 := []) (vs0 := []) hh roN)  h12) (fun l_2 h13 => ?_)
    refine jc rfl rfl rfl (fun _ _ => kE rfl) (jk rfl rfl (jp ?_))
    refine js rfl (fun h14 => ?_) (fun h14 => ?_)
    ·replace hm := ifT (h14) hm
     refine jq (jc rfl rfl rfl (fun _ _ => jz (vs := []) (cells := [_, _]) rfl rfl) (jy (us := #[_, _]) (cs' := [_, _]) (S' := [_, _, _]) 0 (fun w => Tryz.sizeOf25 w) rfl rfl rfl rfl rfl rfl rfl (jk rfl rfl (jp (jw (jx (jf ?_)))))))
     refine kC 85 (kC 32 ?_)
     obtain rfl := sj hm
     refine jm rfl (fun w hh => (.cell rfl (loadVar_agg (vs := [_, _]) (Tryz.isAgg25 _) (Tryz.sizeOf25 _) (hh.cells 0 rfl rfl)) (.tmp rfl .nil))) (fun w hh => ⟨(⟨none, 0, 0, []⟩, ⟨none, 0, 0, []⟩), rfl, ⟨VOK.nil, VOK.nil⟩, hh.se [] [1, 0] 2 rfl rfl rfl rfl⟩)
    ·replace hm := ifN h14 hm
     refine jq (jP 0 Tryz.runUnderlying32 rfl Tryz.sizeOf3 rfl rfl (jY 1 Tryz.isAgg3 rfl rfl rfl rfl (jP 1 Tryz.runUnderlying32 rfl Tryz.sizeOf3 rfl rfl (jY 1 Tryz.isAgg3 rfl rfl rfl rfl (jc rfl rfl rfl (fun _ _ => Qy rfl rfl) (jk rfl rfl (jp ?_)))))))
     refine js rfl (fun h15 => ?_) (fun h15 => ?_)
     ·replace hm := ifD h15 hm
      refine jq (jc rfl rfl rfl (fun _ _ => jz (vs := []) (cells := [_, _]) rfl rfl) (jy (us := #[_, _]) (cs' := [_, _]) (S' := [_, _, _]) 0 (fun w => Tryz.sizeOf25 w) rfl rfl rfl rfl rfl rfl rfl (jk rfl rfl (jp (jw (jx (jf ?_)))))))
      refine kC 85 (kC 32 ?_)
      obtain rfl := sj hm
      refine jm rfl (fun w hh => (.cell rfl (loadVar_agg (vs := [_, _]) (Tryz.isAgg25 _) (Tryz.sizeOf25 _) (hh.cells 0 rfl rfl)) (.tmp rfl .nil))) (fun w hh => ⟨(⟨none, 0, 0, []⟩, ⟨none, 0, 0, []⟩), rfl, ⟨VOK.nil, VOK.nil⟩, hh.se [] [1, 0] 2 rfl rfl rfl rfl⟩)
     ·replace hm := ifE h15 hm
      refine ju (jt (ja (jq (jP 1 Tryz.runUnderlying25 rfl Tryz.sizeOf23 rfl rfl (jY 2 Tryz.isAgg23 rfl rfl rfl rfl (je rfl rfl ?_))))))
      obtain ⟨t40, h16, hm⟩ := bindO hm
      refine jc rfl rfl rfl (fun w _ => ki h16 (Tryz.runUnderlying23 w) (Tryz.sizeOf32 w) rfl rfl hna1 hqa1) ?_
      refine jc rfl rfl rfl (fun w hh => kt RSp 0 [.int .i64 t40.lo, .int .i64 t40.hi] h16 (Tryz.isAgg32 w) (Tryz.sizeOf32 w) rfl (hh.seg 1 rfl) rfl (Nat.add_zero _).symm) ?_
      refine jo (fun w => Tryz.zeroValue32 w) rfl (fun b_3 h17 => ?_)
      refine jy (us := #[_, _]) (cs' := [_, _]) (S' := [_, _, _, _]) 0 (fun w => Tryz.sizeOf32 w) rfl rfl rfl rfl rfl rfl rfl (jp (jj ?_))
      obtain ⟨o, h18, h19⟩ := bindO hm
      refine jF (ι := Nat) (fun l_3 => True) (fun l_3 => [(1, .int .i64 tenant1), (3, ptr b 0), (6, ptr b_2 0), (10, ptr l_3 0)]) (fun l_3 => [(b_3, .cells #[.int .i64 t40.lo, .int .i64 t40.hi] 32 (0, 0)), (b_2, .cells #[slv none 0 0, slv none 0 0] 25 (0, 0)), (b_1, .cells #[.int .i64 carried2.lo, .int .i64 carried2.hi] 32 (0, 0)), (b, .cells #[.slice qa0 na0 ca0, .slice qa1 na1 ca1] 25 (0, 0)), (l_3, .cells #[.int .i64 o.lo, .int .i64 o.hi] 32 (0, 0))]) (fun l_3 => []) ?_ ?_
      ·replace hm := h18
       obtain ⟨t52, h20, hm⟩ := bindO hm
       refine jX none (.free 0 (.hoist 1 (.free 2 (.hoist 3 (.free 4 (.free 5 (.hoist 6 (.free 7 (.hoist 8 (.br (.alt 9 (.br (.alt 10 (.free 11 (.one 12 (.one 13 .done))) (.alt 12 (.one 10 (.free 11 (.one 13 .done))) .nil))) (.alt 12 (.one 9 (.one 10 (.free 11 (.one 13 .done)))) .nil)))))))))))) _ rfl (by decide +kernel) (fun w k hh => hh.draw k) (fun w hh => hh) ?_
       refine k5 0 Tryz.runUnderlying32 Tryz.sizeOf3 rfl rfl rfl rfl (qY 0 Tryz.isAgg3 rfl rfl rfl rfl rfl (k5 0 Tryz.runUnderlying32 Tryz.sizeOf3 rfl rfl rfl rfl (qY 2 Tryz.isAgg3 rfl rfl rfl rfl rfl (ji rfl rfl rfl rfl (fun _ _ => Z5 rfl rfl) (k5 1 Tryz.runUnderlying32 Tryz.sizeOf3 rfl rfl rfl rfl (qY 0 Tryz.isAgg3 rfl rfl rfl rfl rfl (k5 1 Tryz.runUnderlying32 Tryz.sizeOf3 rfl rfl rfl rfl ?_)))))))
       refine qY 2 Tryz.isAgg3 rfl rfl rfl rfl rfl (YH ?_)
       refine kN rfl ?_ ?_
       ·refine kG RI [carried2.hi] (ps := [(0, _)]) (cells := [_]) (fun w => Tryz.runUnderlying26 w) (fun w => Tryz.sizeOf3 w) (fun w => Tryz.zeroValue3 w) rfl rfl rfl rfl rfl rfl rfl rfl (fun L h21 => ?_)
        refine jr (hsE [0, 1, 2, 3] [] 0 rfl rfl rfl rfl) (YH ?_)
        refine kN rfl ?_ ?_
        ·refine jd [] [] rfl rfl rfl rfl rfl rfl rfl Tryz.call74 (fun w hh => KT t40.hi [carried2.hi] (qA L.q) L.n L.cap w (HV.callee (S0 := []) (vs0 := []) hh (roC (hh.vsepA 0 rfl h21) roN)) (vlen RI h21 rfl) (AOK.q (vne h21)) (h21).hle h20) (fun l_4 h22 => ?_)
         refine jr (hsE [0, 1, 2, 3] [] 0 rfl rfl rfl rfl) (ji rfl rfl rfl rfl (fun _ _ => jz (vs := [(0, _), (1, _)]) (cells := [_, _]) rfl rfl) (jE rfl ?_))
         refine jo (fun w => Tryz.zeroValue32 w) rfl (fun b_4 h23 => ?_)
         refine jr (hsE [1, 2, 3, 4] [] 0 rfl rfl rfl rfl) (jE rfl (jy (us := #[_, _]) (cs' := [_, _]) (S' := [_, _, _, _, _]) 0 (fun w => Tryz.sizeOf32 w) rfl rfl rfl rfl rfl rfl rfl (jr (hsE [1, 2, 3, 4] [] 0 rfl rfl rfl rfl) (jM ?_))))
         obtain rfl := sj hm
         exact jg b_4 (trivial) (sE rfl) (hsE [1, 2, 3, 4, 0] [] 0 rfl rfl rfl rfl)
        refine kN rfl ?_ ?_
        ·refine jo (fun w => Tryz.zeroValue32 w) rfl (fun b_5 h24 => ?_)
         refine jr (hsE [1, 2, 3, 4] [] 0 rfl rfl rfl rfl) (jE rfl ?_)
         refine jd [] [] rfl rfl rfl rfl rfl rfl rfl Tryz.call74 (fun w hh => KT t40.hi [carried2.hi] (qA L.q) L.n L.cap w (HV.callee (S0 := []) (vs0 := []) hh (roC (hh.vsepA 0 rfl h21) roN)) (vlen RI h21 rfl) (AOK.q (vne h21)) (h21).hle h20) (fun l_5 h25 => ?_)
         refine jr (hsE [1, 2, 3, 4] [] 0 rfl rfl rfl rfl) (ji rfl rfl rfl rfl (fun _ _ => jz (vs := [(0, _), (1, _)]) (cells := [_, _]) rfl rfl) (jE rfl (jy (us := #[_, _]) (cs' := [_, _]) (S' := [_, _, _, _, _]) 0 (fun w => Tryz.sizeOf32 w) rfl rfl rfl rfl rfl rfl rfl (jr (hsE [1, 2, 3, 4] [] 0 rfl rfl rfl rfl) (jM ?_)))))
         obtain rfl := sj hm
         exact jg b_5 (trivial) (sE rfl) (hsE [1, 2, 3, 4, 0] [] 0 rfl rfl rfl rfl)
        exact JU
       refine kN rfl ?_ ?_
       ·refine jo (fun w => Tryz.zeroValue32 w) rfl (fun b_6 h26 => ?_)
        refine jr (hsE [1, 2, 3, 4] [] 0 rfl rfl rfl rfl) (jE rfl ?_)
        refine kG RI [carried2.hi] (ps := [(0, _)]) (cells := [_]) (fun w => Tryz.runUnderlying26 w) (fun w => Tryz.sizeOf3 w) (fun w => Tryz.zeroValue3 w) rfl rfl rfl rfl rfl rfl rfl rfl (fun L_1 h27 => ?_)
        refine jr (hsE [1, 2, 3, 4] [] 0 rfl rfl rfl rfl) (jE rfl ?_)
        refine jd [] [] rfl rfl rfl rfl rfl rfl rfl Tryz.call74 (fun w hh => KT t40.hi [carried2.hi] (qA L_1.q) L_1.n L_1.cap w (HV.callee (S0 := []) (vs0 := []) hh (roC (hh.vsepA 0 rfl h27) roN)) (vlen RI h27 rfl) (AOK.q (vne h27)) (h27).hle h20) (fun l_6 h28 => ?_)
        refine jr (hsE [1, 2, 3, 4] [] 0 rfl rfl rfl rfl) (ji rfl rfl rfl rfl (fun _ _ => jz (vs := [(0, _), (1, _)]) (cells := [_, _]) rfl rfl) (jE rfl (jy (us := #[_, _]) (cs' := [_, _]) (S' := [_, _, _, _, _]) 0 (fun w => Tryz.sizeOf32 w) rfl rfl rfl rfl rfl rfl rfl (jr (hsE [1, 2, 3, 4] [] 0 rfl rfl rfl rfl) (jM ?_)))))
        obtain rfl := sj hm
        exact jg b_6 (trivial) (sE rfl) (hsE [1, 2, 3, 4, 0] [] 0 rfl rfl rfl rfl)
       exact JU
      ·intro l_3 hj
       replace hm := h19
       refine ja (jj (jq (jP 0 Tryz.runUnderlying32 rfl Tryz.sizeOf3 rfl rfl (jY 4 Tryz.isAgg3 rfl rfl rfl rfl (jP 1 Tryz.runUnderlying32 rfl Tryz.sizeOf3 rfl rfl (jY 4 Tryz.isAgg3 rfl rfl rfl rfl (jc rfl rfl rfl (fun _ _ => Qy rfl rfl) ?_)))))))
       refine jp ?_
       refine js rfl (fun h29 => ?_) (fun h29 => ?_)
       ·replace hm := ifD h29 hm
        refine jq (jc rfl rfl rfl (fun _ _ => jz (vs := []) (cells := [_, _]) rfl rfl) (jy (us := #[_, _]) (cs' := [_, _]) (S' := [_, _, _, _, _]) 1 (fun w => Tryz.sizeOf25 w) rfl rfl rfl rfl rfl rfl rfl (jk rfl rfl (jp (jw (jf (kC 85 ?_)))))))
        refine kC 32 ?_
        obtain rfl := sj hm
        refine jm rfl (fun w hh => (.cell rfl (loadVar_agg (vs := [_, _]) (Tryz.isAgg25 _) (Tryz.sizeOf25 _) (hh.cells 1 rfl rfl)) (.tmp rfl .nil))) (fun w hh => ⟨(⟨none, 0, 0, []⟩, ⟨none, 0, 0, []⟩), rfl, ⟨VOK.nil, VOK.nil⟩, hh.se [] [1, 0] 2 rfl rfl rfl rfl⟩)
       ·replace hm := ifE h29 hm
        refine ju (ja (jj ?_))
        obtain ⟨o_1, h30, h31⟩ := bindO hm
        refine jF (ι := Nat × VL × VL) (fun l_7 => VOK 7 l_7.2.1.n l_7.2.1.cap (RSt.enc o_1.strips) l_7.2.1.sp l_7.2.1.q ∧ VOK 2 l_7.2.2.n l_7.2.2.cap (RSp.enc o_1.carried) l_7.2.2.sp l_7.2.2.q) (fun l_7 => [(1, .int .i64 tenant1), (3, ptr b 0), (6, ptr b_2 0), (10, ptr l_3 0), (11, ptr l_7.1 0)]) (fun l_7 => [(b_3, .cells #[.int .i64 t40.lo, .int .i64 t40.hi] 32 (0, 0)), (b_2, .cells #[slv none 0 0, slv none 0 0] 25 (0, 0)), (b_1, .cells #[.int .i64 carried2.lo, .int .i64 carried2.hi] 32 (0, 0)), (b, .cells #[.slice qa0 na0 ca0, .slice qa1 na1 ca1] 25 (0, 0)), (l_3, .cells #[.int .i64 o.lo, .int .i64 o.hi] 32 (0, 0)), (l_7.1, .cells #[slv l_7.2.1.q l_7.2.1.n l_7.2.1.cap, slv l_7.2.2.q l_7.2.2.n l_7.2.2.cap] 25 (0, 0))]) (fun l_7 => [⟨85, RSt.enc o_1.strips, l_7.2.1.sp, l_7.2.1.q, []⟩, ⟨32, RSp.enc o_1.carried, l_7.2.2.sp, l_7.2.2.q, []⟩]) ?_ ?_
        ·replace hm := h30
         obtain ⟨t62, h34, hm⟩ := bindO hm
         obtain ⟨t66, h35, hm⟩ := bindO hm
         refine jX none (.free 0 (.hoist 1 (.free 3 (.hoist 4 (.free 5 (.br (.alt 2 (.br (.alt 6 (.free 7 (.one 8 (.one 9 .done))) (.alt 8 (.one 6 (.free 7 (.one 9 .done))) .nil))) (.alt 6 (.br (.alt 2 (.free 7 (.one 8 (.one 9 .done))) (.alt 8 (.one 2 (.free 7 (.one 9 .done))) .nil))) (.alt 8 (.br (.alt 2 (.one 6 (.free 7 (.one 9 .done))) (.alt 6 (.one 2 (.free 7 (.one 9 .done))) .nil))) .nil))))))))) _ rfl (by decide +kernel) (fun w k hh => hh.draw k) (fun w hh => hh) ?_
         refine k5 0 Tryz.runUnderlying25 Tryz.sizeOf22 rfl rfl rfl rfl (qY 3 Tryz.isAgg22 rfl rfl rfl rfl rfl (k5 1 Tryz.runUnderlying25 Tryz.sizeOf23 rfl rfl rfl rfl (qY 3 Tryz.isAgg23 rfl rfl rfl rfl rfl (ji rfl rfl rfl rfl (fun w _ => jI hna1 (Tryz.runUnderlying23 w) rfl) (YH ?_)))))
         refine kN rfl ?_ ?_
         ·refine jd [] [] rfl rfl rfl rfl rfl rfl rfl Tryz.call75 (fun w hh => y7 s0.strips qa0 na0 ca0 w (HV.callee (S0 := []) (vs0 := []) hh (roR hh 0 rfl roN)) hna0 hqa0 hla0 h34) (fun l_8 h36 => ?_)
          have h37 := h36
          refine jT (S' := [_, _, _, _, _]) (vs' := [_]) [0, 1, 2, 3, 4] [0] 0 rfl rfl rfl rfl (jr (hsE [0, 1, 2, 3, 4] [] 0 rfl rfl rfl rfl) (YH ?_))
          refine kN rfl ?_ ?_
          ·refine ks RSp (⟨0, 0⟩ : Span) h35 Tryz.underlying23 Kw rfl rfl rfl rfl rfl (fun L_2 h38 => ?_)
           refine jr (hsE [0, 1, 2, 3, 4] [] 0 rfl rfl rfl rfl) (ji rfl rfl rfl rfl (fun _ _ => jz (vs := [(0, _), (1, _)]) (cells := [_, _]) rfl rfl) (jE rfl ?_))
           refine jo (fun w => Tryz.zeroValue25 w) rfl (fun b_7 h39 => ?_)
           refine jr (hsE [1, 2, 3, 4, 5] [] 0 rfl rfl rfl rfl) (jE rfl (jy (us := #[_, _]) (cs' := [_, _]) (S' := [_, _, _, _, _, _]) 0 (fun w => Tryz.sizeOf25 w) rfl rfl rfl rfl rfl rfl rfl (jr (hsE [1, 2, 3, 4, 5] [] 0 rfl rfl rfl rfl) (jM ?_))))
           obtain rfl := sj hm
           exact jg (b_7, l_8, L_2) (⟨h37, h38⟩) (sE rfl) (hsE [1, 2, 3, 4, 5, 0] [1, 0] 0 rfl rfl rfl rfl)
          refine kN rfl ?_ ?_
          ·refine jo (fun w => Tryz.zeroValue25 w) rfl (fun b_8 h40 => ?_)
           refine jr (hsE [1, 2, 3, 4, 5] [] 0 rfl rfl rfl rfl) (jE rfl ?_)
           refine ks RSp (⟨0, 0⟩ : Span) h35 Tryz.underlying23 Kw rfl rfl rfl rfl rfl (fun L_3 h41 => ?_)
           refine jr (hsE [1, 2, 3, 4, 5] [] 0 rfl rfl rfl rfl) (ji rfl rfl rfl rfl (fun _ _ => jz (vs := [(0, _), (1, _)]) (cells := [_, _]) rfl rfl) (jE rfl (jy (us := #[_, _]) (cs' := [_, _]) (S' := [_, _, _, _, _, _]) 0 (fun w => Tryz.sizeOf25 w) rfl rfl rfl rfl rfl rfl rfl (jr (hsE [1, 2, 3, 4, 5] [] 0 rfl rfl rfl rfl) (jM ?_)))))
           obtain rfl := sj hm
           exact jg (b_8, l_8, L_3) (⟨h37, h41⟩) (sE rfl) (hsE [1, 2, 3, 4, 5, 0] [1, 0] 0 rfl rfl rfl rfl)
          exact JU
         refine kN rfl ?_ ?_
         ·refine ks RSp (⟨0, 0⟩ : Span) h35 Tryz.underlying23 Kw rfl rfl rfl rfl rfl (fun L_4 h42 => ?_)
          refine jr (hsE [0, 1, 2, 3, 4] [] 0 rfl rfl rfl rfl) (YH ?_)
          refine kN rfl ?_ ?_
          ·refine jd [] [] rfl rfl rfl rfl rfl rfl rfl Tryz.call75 (fun w hh => y7 s0.strips qa0 na0 ca0 w (HV.callee (S0 := []) (vs0 := []) hh (roR hh 0 rfl roN)) hna0 hqa0 hla0 h34) (fun l_9 h43 => ?_)
           have h44 := h43
           refine jT (S' := [_, _, _, _, _]) (vs' := [_, _]) [0, 1, 2, 3, 4] [0, 1] 0 rfl rfl rfl rfl (jr (hsE [0, 1, 2, 3, 4] [] 0 rfl rfl rfl rfl) (ji rfl rfl rfl rfl (fun _ _ => jz (vs := [(0, _), (1, _)]) (cells := [_, _]) rfl rfl) (jE rfl ?_)))
           refine jo (fun w => Tryz.zeroValue25 w) rfl (fun b_9 h45 => ?_)
           refine jr (hsE [1, 2, 3, 4, 5] [] 0 rfl rfl rfl rfl) (jE rfl (jy (us := #[_, _]) (cs' := [_, _]) (S' := [_, _, _, _, _, _]) 0 (fun w => Tryz.sizeOf25 w) rfl rfl rfl rfl rfl rfl rfl (jr (hsE [1, 2, 3, 4, 5] [] 0 rfl rfl rfl rfl) (jM ?_))))
           obtain rfl := sj hm
           exact jg (b_9, l_9, L_4) (⟨h44, h42⟩) (sE rfl) (hsE [1, 2, 3, 4, 5, 0] [0, 1] 0 rfl rfl rfl rfl)
          refine kN rfl ?_ ?_
          ·refine jo (fun w => Tryz.zeroValue25 w) rfl (fun b_10 h46 => ?_)
           refine jr (hsE [1, 2, 3, 4, 5] [] 0 rfl rfl rfl rfl) (jE rfl ?_)
           refine jd [] [] rfl rfl rfl rfl rfl rfl rfl Tryz.call75 (fun w hh => y7 s0.strips qa0 na0 ca0 w (HV.callee (S0 := []) (vs0 := []) hh (roR hh 0 rfl roN)) hna0 hqa0 hla0 h34) (fun l_10 h47 => ?_)
           have h48 := h47
           refine jT (S' := [_, _, _, _, _, _]) (vs' := [_, _]) [0, 1, 2, 3, 4, 5] [0, 1] 0 rfl rfl rfl rfl (jr (hsE [1, 2, 3, 4, 5] [] 0 rfl rfl rfl rfl) (ji rfl rfl rfl rfl (fun _ _ => jz (vs := [(0, _), (1, _)]) (cells := [_, _]) rfl rfl) (jE rfl (jy (us := #[_, _]) (cs' := [_, _]) (S' := [_, _, _, _, _, _]) 0 (fun w => Tryz.sizeOf25 w) rfl rfl rfl rfl rfl rfl rfl (jr (hsE [1, 2, 3, 4, 5] [] 0 rfl rfl rfl rfl) (jM ?_))))))
           obtain rfl := sj hm
           exact jg (b_10, l_10, L_4) (⟨h48, h42⟩) (sE rfl) (hsE [1, 2, 3, 4, 5, 0] [0, 1] 0 rfl rfl rfl rfl)
          exact JU
         refine kN rfl ?_ ?_
         ·refine jo (fun w => Tryz.zeroValue25 w) rfl (fun b_11 h49 => ?_)
          refine jr (hsE [1, 2, 3, 4, 5] [] 0 rfl rfl rfl rfl) (YH ?_)
          refine kN rfl ?_ ?_
          ·refine jd [] [] rfl rfl rfl rfl rfl rfl rfl Tryz.call75 (fun w hh => y7 s0.strips qa0 na0 ca0 w (HV.callee (S0 := []) (vs0 := []) hh (roR hh 0 rfl roN)) hna0 hqa0 hla0 h34) (fun l_11 h50 => ?_)
           have h51 := h50
           refine jT (S' := [_, _, _, _, _, _]) (vs' := [_]) [0, 1, 2, 3, 4, 5] [0] 0 rfl rfl rfl rfl (jr (hsE [1, 2, 3, 4, 5] [] 0 rfl rfl rfl rfl) (jE rfl ?_))
           refine ks RSp (⟨0, 0⟩ : Span) h35 Tryz.underlying23 Kw rfl rfl rfl rfl rfl (fun L_5 h52 => ?_)
           refine jr (hsE [1, 2, 3, 4, 5] [] 0 rfl rfl rfl rfl) (ji rfl rfl rfl rfl (fun _ _ => jz (vs := [(0, _), (1, _)]) (cells := [_, _]) rfl rfl) (jE rfl (jy (us := #[_, _]) (cs' := [_, _]) (S' := [_, _, _, _, _, _]) 0 (fun w => Tryz.sizeOf25 w) rfl rfl rfl rfl rfl rfl rfl (jr (hsE [1, 2, 3, 4, 5] [] 0 rfl rfl rfl rfl) (jM ?_)))))
           obtain rfl := sj hm
           exact jg (b_11, l_11, L_5) (⟨h51, h52⟩) (sE rfl) (hsE [1, 2, 3, 4, 5, 0] [1, 0] 0 rfl rfl rfl rfl)
          refine kN rfl ?_ ?_
          ·refine ks RSp (⟨0, 0⟩ : Span) h35 Tryz.underlying23 Kw rfl rfl rfl rfl rfl (fun L_6 h53 => ?_)
           refine jr (hsE [1, 2, 3, 4, 5] [] 0 rfl rfl rfl rfl) (jE rfl ?_)
           refine jd [] [] rfl rfl rfl rfl rfl rfl rfl Tryz.call75 (fun w hh => y7 s0.strips qa0 na0 ca0 w (HV.callee (S0 := []) (vs0 := []) hh (roR hh 0 rfl roN)) hna0 hqa0 hla0 h34) (fun l_12 h54 => ?_)
           have h55 := h54
           refine jT (S' := [_, _, _, _, _, _]) (vs' := [_, _]) [0, 1, 2, 3, 4, 5] [0, 1] 0 rfl rfl rfl rfl (jr (hsE [1, 2, 3, 4, 5] [] 0 rfl rfl rfl rfl) (ji rfl rfl rfl rfl (fun _ _ => jz (vs := [(0, _), (1, _)]) (cells := [_, _]) rfl rfl) (jE rfl (jy (us := #[_, _]) (cs' := [_, _]) (S' := [_, _, _, _, _, _]) 0 (fun w => Tryz.sizeOf25 w) rfl rfl rfl rfl rfl rfl rfl (jr (hsE [1, 2, 3, 4, 5] [] 0 rfl rfl rfl rfl) (jM ?_))))))
           obtain rfl := sj hm
           exact jg (b_11, l_12, L_6) (⟨h55, h53⟩) (sE rfl) (hsE [1, 2, 3, 4, 5, 0] [0, 1] 0 rfl rfl rfl rfl)
          exact JU
         exact JU
        ·intro l_7 hj
         obtain ⟨h32, h33⟩ := hj
         replace hm := h31
         refine ja (jq (jP 1 Tryz.runUnderlying25 rfl Tryz.sizeOf23 rfl rfl (jY 5 Tryz.isAgg23 rfl rfl rfl rfl (jP 1 Tryz.runUnderlying25 rfl Tryz.sizeOf23 rfl rfl (jY 3 Tryz.isAgg23 rfl rfl rfl rfl ?_)))))
         obtain ⟨h56, hm⟩ := ifO hm
         obtain ⟨out11_carried, hout11_carried, hm⟩ := bindO hm
         refine jaX RSp 1 Tryz.underlying23 jba rfl rfl rfl rfl rfl h33 hna1 hqa1 (fun w hh => (hh.seg 1 rfl)) (Int.ofNat_le.1 h56) (Option.some.inj hout11_carried) rfl (fun h57 => ?_)
         refine jT (S' := [_, _, _, _, _, _]) (vs' := [_, _]) [0, 1, 2, 3, 4, 5] [0, 1] 0 rfl rfl rfl rfl (j0 (jP 1 Tryz.runUnderlying25 rfl Tryz.sizeOf23 rfl rfl (jY 5 Tryz.isAgg23 rfl rfl rfl rfl (je rfl rfl (kD [_, _] 4 Tryz.isAgg32 Tryz.sizeOf32 rfl rfl rfl rfl ?_)))))
         obtain ⟨t77, h58, hm⟩ := bindO hm
         refine jc rfl rfl rfl (fun w _ => qx h58 (Tryz.runUnderlying23 w) (Tryz.sizeOf32 w) rfl rfl (vlen RSp h57 rfl) (vne h57)) ?_
         obtain ⟨out11_carried_1, hout11_carried_1, hm⟩ := bindO hm
         refine jbg (us := #[_, _]) RSp 1 o (fun w => Tryz.sizeOf32 w) rfl rfl rfl h57 rfl rfl rfl rfl h58 rfl (Option.some.inj hout11_carried_1) (fun h59 => ?_)
         refine jT (S' := [_, _, _, _, _, _]) (vs' := [_, _]) [0, 1, 2, 3, 4, 5] [0, 1] 0 rfl rfl rfl rfl (j0 (kD [_, _] 5 Tryz.isAgg25 Tryz.sizeOf25 rfl rfl rfl rfl (jy (us := #[_, _]) (cs' := [_, _]) (S' := [_, _, _, _, _, _]) 1 (fun w => Tryz.sizeOf25 w) rfl rfl rfl rfl rfl rfl rfl (jk rfl rfl (jp (jw ?_))))))
         obtain rfl := sj hm
         refine jm rfl (fun w hh => (.cell rfl (loadVar_agg (vs := [_, _]) (Tryz.isAgg25 _) (Tryz.sizeOf25 _) (hh.cells 1 rfl rfl)) (.tmp rfl .nil))) (fun w hh => ⟨(l_7.2.1, l_7.2.2), rfl, ⟨h32, h59⟩, hh.se [] [0, 1] 2 rfl rfl rfl rfl⟩)
def Qa  : Option Bool :=
 (yF 22 25).bind fun t15 =>
 (QB t15).bind fun t16 =>
 (yF 22 25).bind fun t21 =>
 (Y0 t21).bind fun t22 =>
 (yF 22 25).bind fun t27 =>
 (kA t27).bind fun t28 =>
 (yF 22 25).bind fun t32 =>
 (QY t32 (⟨[-1, 0, -1], [1, 0]⟩ : Marks)).bind fun t36 =>
 (if t16.r2 = 0 then
 (if t22.r2 = 0 then
 (if t28.r1 = 0 then
 (if t36.r1 = 0 then
 (if t16.r1 = 2 then
 (if t22.r1 = 9 then
 (if t36.r0 = 2 then
 ((ko t28.r0 [2, 0]).bind fun t68 =>
 some (!t68)) else
 (some true)) else
 (some true)) else
 (some true)) else
 (some true)) else
 (some true)) else
 (some true)) else
 (some true)).bind fun o =>
 if o = true then
 (some false) else
 ((yF 10 15).bind fun t72 =>
 (Qw t72 (⟨false, [0, 1, 2]⟩ : Lack)).bind fun t75 =>
 (yF 10 15).bind fun t79 =>
 (Qw t79 (⟨false, [0, 2]⟩ : Lack)).bind fun t82 =>
 (yF 10 15).bind fun t86 =>
 (QP t86).bind fun t87 =>
 (yF 22 25).bind fun t91 =>
 (Yf t91 0 (⟨24, 30⟩ : Span)).bind fun t93 =>
 (if t75.r1 = 0 then
 (if t82.r1 = 0 then
 (if t87.r1 = 7 then
 (if t93.r1 = 0 then
 (if t75.r0 = 6 then
 (if t82.r0 = 2 then
 (if (t93.r0.carried.length : Int) = 2 then
 ((ix t93.r0.carried 0).bind fun t127 =>
 some (decide (t127 = (⟨24, 25⟩ : Span)))) else
 (some false)) else
 (some false)) else
 (some false)) else
 (some false)) else
 (some false)) else
 (some false)) else
 (some false)).bind fun o_1 =>
 some o_1)
theorem Zj   (w : World) (hw : HV w (keys [] []) [] [] [] w)  {res : Bool} (hm : Qa  = some res) :
    Calls Tryz.prog 8 #[] w (fun en w' => ∃ l : Unit, en = .returned (.bool res) ∧ (True) ∧ HV w (keys [] []) [] [] [] w') := by
  unfold Qa at hm
  refine j5 Tryz.func8 rfl Tryz.ntmps8 rfl (e := []) rfl hw (jq (jk rfl rfl (j0 ?_)))
  obtain ⟨t15, h1, hm⟩ := bindO hm
  refine jd [] [] rfl rfl rfl rfl rfl rfl rfl Tryz.call46 (fun w hh => z5 22 25 w (HV.callee (S0 := []) (vs0 := []) hh roN)  h1) (fun l h2 => ?_)
  obtain ⟨h3, h4⟩ := h2
  refine jT (S' := []) (vs' := [_, _]) [] [0, 1] 0 rfl rfl rfl rfl ?_
  obtain ⟨t16, h5, hm⟩ := bindO hm
  refine jd [] [] rfl rfl rfl rfl rfl rfl rfl Tryz.call45 (fun w hh => Zr t15 (qA l.1.q) l.1.n l.1.cap (qA l.2.q) l.2.n l.2.cap w (HV.callee (S0 := []) (vs0 := []) hh (roC (hh.vsepA 0 rfl h3) (roC (hh.vsepA 1 rfl h4) roN))) (vlen RSt h3 rfl) (AOK.q (vne h3)) (h3).hle (vlen RSp h4 rfl) (AOK.q (vne h4)) (h4).hle h5) (fun l_1 h6 => ?_)
  obtain ⟨h7, h8⟩ := h6
  refine jT (S' := []) (vs' := [_, _, _]) [] [0, 1, 2] 0 rfl rfl rfl rfl (je rfl rfl (kp rfl rfl rfl (kp rfl rfl rfl (kp rfl rfl rfl (jk rfl rfl (jk rfl rfl (jk rfl rfl ?_)))))))
  refine j0 ?_
  obtain ⟨t21, h9, hm⟩ := bindO hm
  refine jd [] [] rfl rfl rfl rfl rfl rfl rfl Tryz.call46 (fun w hh => z5 22 25 w (HV.callee (S0 := []) (vs0 := []) hh roN)  h9) (fun l_2 h10 => ?_)
  obtain ⟨h11, h12⟩ := h10
  refine jT (S' := []) (vs' := [_, _, _, _, _]) [] [0, 1, 2, 3, 4] 0 rfl rfl rfl rfl ?_
  obtain ⟨t22, h13, hm⟩ := bindO hm
  refine jd [] [] rfl rfl rfl rfl rfl rfl rfl Tryz.call47 (fun w hh => jay t21 (qA l_2.1.q) l_2.1.n l_2.1.cap (qA l_2.2.q) l_2.2.n l_2.2.cap w (HV.callee (S0 := []) (vs0 := []) hh (roC (hh.vsepA 0 rfl h11) (roC (hh.vsepA 1 rfl h12) roN))) (vlen RSt h11 rfl) (AOK.q (vne h11)) (h11).hle (vlen RSp h12 rfl) (AOK.q (vne h12)) (h12).hle h13) (fun l_3 h14 => ?_)
  obtain ⟨h15, h16⟩ := h14
  refine jT (S' := []) (vs' := [_, _, _, _, _, _]) [] [0, 1, 2, 3, 4, 5] 0 rfl rfl rfl rfl (je rfl rfl (kp rfl rfl rfl (kp rfl rfl rfl (kp rfl rfl rfl (jk rfl rfl (jk rfl rfl (jk rfl rfl ?_)))))))
  refine j0 ?_
  obtain ⟨t27, h17, hm⟩ := bindO hm
  refine jd [] [] rfl rfl rfl rfl rfl rfl rfl Tryz.call46 (fun w hh => z5 22 25 w (HV.callee (S0 := []) (vs0 := []) hh roN)  h17) (fun l_4 h18 => ?_)
  obtain ⟨h19, h20⟩ := h18
  refine jT (S' := []) (vs' := [_, _, _, _, _, _, _, _]) [] [0, 1, 2, 3, 4, 5, 6, 7] 0 rfl rfl rfl rfl ?_
  obtain ⟨t28, h21, hm⟩ := bindO hm
  refine jd [] [] rfl rfl rfl rfl rfl rfl rfl Tryz.call28 (fun w hh => Q7 t27 (qA l_4.1.q) l_4.1.n l_4.1.cap (qA l_4.2.q) l_4.2.n l_4.2.cap w (HV.callee (S0 := []) (vs0 := []) hh (roC (hh.vsepA 0 rfl h19) (roC (hh.vsepA 1 rfl h20) roN))) (vlen RSt h19 rfl) (AOK.q (vne h19)) (h19).hle (vlen RSp h20 rfl) (AOK.q (vne h20)) (h20).hle h21) (fun l_5 h22 => ?_)
  have h23 := h22
  refine jT (S' := []) (vs' := [_, _, _, _, _, _, _, _, _]) [] [0, 1, 2, 3, 4, 5, 6, 7, 8] 0 rfl rfl rfl rfl (je rfl rfl (kp rfl rfl rfl (kp rfl rfl rfl (jk rfl rfl (jk rfl rfl (j0 ?_))))))
  obtain ⟨t32, h24, hm⟩ := bindO hm
  refine jd [] [] rfl rfl rfl rfl rfl rfl rfl Tryz.call46 (fun w hh => z5 22 25 w (HV.callee (S0 := []) (vs0 := []) hh roN)  h24) (fun l_6 h25 => ?_)
  obtain ⟨h26, h27⟩ := h25
  refine jT (S' := []) (vs' := [_, _, _, _, _, _, _, _, _, _, _]) [] [0, 1, 2, 3, 4, 5, 6, 7, 8, 9, 10] 0 rfl rfl rfl rfl ?_
  refine kG RI [-1, 0, -1] (ps := [(0, _), (1, _), (2, _)]) (cells := [_, _, _]) (fun w => Tryz.runUnderlying26 w) (fun w => Tryz.sizeOf3 w) (fun w => Tryz.zeroValue3 w) rfl rfl rfl rfl rfl rfl rfl rfl (fun L h28 => ?_)
  refine kG RI [1, 0] (ps := [(0, _), (1, _)]) (cells := [_, _]) (fun w => Tryz.runUnderlying26 w) (fun w => Tryz.sizeOf3 w) (fun w => Tryz.zeroValue3 w) rfl rfl rfl rfl rfl rfl rfl rfl (fun L_1 h29 => ?_)
  refine jc rfl rfl rfl (fun _ _ => jz (vs := [(0, _), (1, _)]) (cells := [_, _]) rfl rfl) ?_
  obtain ⟨t36, h30, hm⟩ := bindO hm
  refine jd [] [] rfl rfl rfl rfl rfl rfl rfl Tryz.call18 (fun w hh => ZS t32 (⟨[-1, 0, -1], [1, 0]⟩ : Marks) (qA l_6.1.q) l_6.1.n l_6.1.cap (qA l_6.2.q) l_6.2.n l_6.2.cap (qA L.q) L.n L.cap (qA L_1.q) L_1.n L_1.cap w (HV.callee (S0 := []) (vs0 := []) hh (roC (hh.vsepA 2 rfl h26) (roC (hh.vsepA 3 rfl h27) (roC (hh.vsepA 1 rfl h28) (roC (hh.vsepA 0 rfl h29) roN))))) (vlen RSt h26 rfl) (AOK.q (vne h26)) (h26).hle (vlen RSp h27 rfl) (AOK.q (vne h27)) (h27).hle (vlen RI h28 rfl) (AOK.q (vne h28)) (h28).hle (vlen RI h29 rfl) (AOK.q (vne h29)) (h29).hle h30) (fun l_7 h31 => ?_)
  refine je rfl rfl (kp rfl rfl rfl (kp rfl rfl rfl (jk rfl rfl (jk rfl rfl (jp (jj (jj ?_)))))))
  obtain ⟨o, h32, h33⟩ := bindO hm
  refine jF (ι := Unit) (fun l_8 => True) (fun l_8 => [(70, .bool o)]) (fun l_8 => []) (fun l_8 => []) ?_ ?_
  ·replace hm := h32
   refine jh (je rfl rfl (jc rfl rfl rfl (fun _ _ => q8 rfl rfl) (je rfl rfl ?_)))
   refine jJ 41 rfl (fun h34 => ?_) (fun h34 => ?_)
   ·replace hm := ifF (of_ndec_true h34) hm
    refine g_k rfl rfl rfl rfl (g_k rfl rfl rfl rfl (kx rfl rfl rfl (je rfl rfl (g_k rfl rfl rfl rfl (g_k rfl rfl rfl rfl (kx rfl rfl rfl (je rfl rfl ?_)))))))
    refine g_k rfl rfl rfl rfl (g_k rfl rfl rfl rfl (kx rfl rfl rfl (je rfl rfl (g_k rfl rfl rfl rfl (g_k rfl rfl rfl rfl (kx rfl rfl rfl (je rfl rfl ?_)))))))
    refine g_k rfl rfl rfl rfl (g_k rfl rfl rfl rfl (kx rfl rfl rfl (je rfl rfl (g_k rfl rfl rfl rfl (g_k rfl rfl rfl rfl (kx rfl rfl rfl (je rfl rfl ?_)))))))
    refine g_k rfl rfl rfl rfl (g_k rfl rfl rfl rfl (g_k rfl rfl rfl rfl (g_k rfl rfl rfl rfl (kx rfl rfl rfl (jv ?_)))))
    obtain rfl := sj hm
    exact jg () (trivial) (sE rfl) (hsE [] [] 0 rfl rfl rfl rfl)
   ·replace hm := ifT (of_ndec_false h34) hm
    refine jb rfl rfl (je rfl rfl (jb rfl rfl (jc rfl rfl rfl (fun _ _ => q8 rfl rfl) (j3 rfl rfl rfl (je rfl rfl ?_)))))
    refine jJ 45 rfl (fun h35 => ?_) (fun h35 => ?_)
    ·replace hm := ifF (of_ndec_true h35) hm
     refine g_k rfl rfl rfl rfl (g_k rfl rfl rfl rfl (kx rfl rfl rfl (je rfl rfl (g_k rfl rfl rfl rfl (g_k rfl rfl rfl rfl (kx rfl rfl rfl (je rfl rfl ?_)))))))
     refine g_k rfl rfl rfl rfl (g_k rfl rfl rfl rfl (kx rfl rfl rfl (je rfl rfl (g_k rfl rfl rfl rfl (g_k rfl rfl rfl rfl (kx rfl rfl rfl (je rfl rfl ?_)))))))
     refine g_k rfl rfl rfl rfl (g_k rfl rfl rfl rfl (kx rfl rfl rfl (je rfl rfl (g_k rfl rfl rfl rfl (g_k rfl rfl rfl rfl (g_k rfl rfl rfl rfl (g_k rfl rfl rfl rfl ?_)))))))
     refine kx rfl rfl rfl (jv ?_)
     obtain rfl := sj hm
     exact jg () (trivial) (sE rfl) (hsE [] [] 0 rfl rfl rfl rfl)
    ·replace hm := ifT (of_ndec_false h35) hm
     refine jb rfl rfl (je rfl rfl (jb rfl rfl (jc rfl rfl rfl (fun _ _ => q8 rfl rfl) (j3 rfl rfl rfl (je rfl rfl ?_)))))
     refine jJ 49 rfl (fun h36 => ?_) (fun h36 => ?_)
     ·replace hm := ifF (of_ndec_true h36) hm
      refine g_k rfl rfl rfl rfl (g_k rfl rfl rfl rfl (kx rfl rfl rfl (je rfl rfl (g_k rfl rfl rfl rfl (g_k rfl rfl rfl rfl (kx rfl rfl rfl (je rfl rfl ?_)))))))
      refine g_k rfl rfl rfl rfl (g_k rfl rfl rfl rfl (kx rfl rfl rfl (je rfl rfl (g_k rfl rfl rfl rfl (g_k rfl rfl rfl rfl (kx rfl rfl rfl (je rfl rfl ?_)))))))
      refine g_k rfl rfl rfl rfl (g_k rfl rfl rfl rfl (g_k rfl rfl rfl rfl (g_k rfl rfl rfl rfl (kx rfl rfl rfl (jv ?_)))))
      obtain rfl := sj hm
      exact jg () (trivial) (sE rfl) (hsE [] [] 0 rfl rfl rfl rfl)
     ·replace hm := ifT (of_ndec_false h36) hm
      refine jb rfl rfl (je rfl rfl (jb rfl rfl (jc rfl rfl rfl (fun _ _ => q8 rfl rfl) (j3 rfl rfl rfl (je rfl rfl ?_)))))
      refine jJ 53 rfl (fun h37 => ?_) (fun h37 => ?_)
      ·replace hm := ifF (of_ndec_true h37) hm
       refine g_k rfl rfl rfl rfl (g_k rfl rfl rfl rfl (kx rfl rfl rfl (je rfl rfl (g_k rfl rfl rfl rfl (g_k rfl rfl rfl rfl (kx rfl rfl rfl (je rfl rfl ?_)))))))
       refine g_k rfl rfl rfl rfl (g_k rfl rfl rfl rfl (kx rfl rfl rfl (je rfl rfl (g_k rfl rfl rfl rfl (g_k rfl rfl rfl rfl (g_k rfl rfl rfl rfl (g_k rfl rfl rfl rfl ?_)))))))
       refine kx rfl rfl rfl (jv ?_)
       obtain rfl := sj hm
       exact jg () (trivial) (sE rfl) (hsE [] [] 0 rfl rfl rfl rfl)
      ·replace hm := ifT (of_ndec_false h37) hm
       refine jb rfl rfl (je rfl rfl (jb rfl rfl (jc rfl rfl rfl (fun _ _ => q8 rfl rfl) (j3 rfl rfl rfl (je rfl rfl ?_)))))
       refine jJ 57 rfl (fun h38 => ?_) (fun h38 => ?_)
       ·replace hm := ifF (of_ndec_true h38) hm
        refine g_k rfl rfl rfl rfl (g_k rfl rfl rfl rfl (kx rfl rfl rfl (je rfl rfl (g_k rfl rfl rfl rfl (g_k rfl rfl rfl rfl (kx rfl rfl rfl (je rfl rfl ?_)))))))
        refine g_k rfl rfl rfl rfl (g_k rfl rfl rfl rfl (g_k rfl rfl rfl rfl (g_k rfl rfl rfl rfl (kx rfl rfl rfl (jv ?_)))))
        obtain rfl := sj hm
        exact jg () (trivial) (sE rfl) (hsE [] [] 0 rfl rfl rfl rfl)
       ·replace hm := ifT (of_ndec_false h38) hm
        refine jb rfl rfl (je rfl rfl (jb rfl rfl (jc rfl rfl rfl (fun _ _ => q8 rfl rfl) (j3 rfl rfl rfl (je rfl rfl ?_)))))
        refine jJ 61 rfl (fun h39 => ?_) (fun h39 => ?_)
        ·replace hm := ifF (of_ndec_true h39) hm
         refine g_k rfl rfl rfl rfl (g_k rfl rfl rfl rfl (kx rfl rfl rfl (je rfl rfl (g_k rfl rfl rfl rfl (g_k rfl rfl rfl rfl (g_k rfl rfl rfl rfl (g_k rfl rfl rfl rfl ?_)))))))
         refine kx rfl rfl rfl (jv ?_)
         obtain rfl := sj hm
         exact jg () (trivial) (sE rfl) (hsE [] [] 0 rfl rfl rfl rfl)
        ·replace hm := ifT (of_ndec_false h39) hm
         refine jb rfl rfl (je rfl rfl (jb rfl rfl (jc rfl rfl rfl (fun _ _ => q8 rfl rfl) (j3 rfl rfl rfl (je rfl rfl ?_)))))
         refine jJ 65 rfl (fun h40 => ?_) (fun h40 => ?_)
         ·replace hm := ifF (of_ndec_true h40) hm
          refine g_k rfl rfl rfl rfl (g_k rfl rfl rfl rfl (g_k rfl rfl rfl rfl (g_k rfl rfl rfl rfl (kx rfl rfl rfl (jv ?_)))))
          obtain rfl := sj hm
          exact jg () (trivial) (sE rfl) (hsE [] [] 0 rfl rfl rfl rfl)
         ·replace hm := ifT (of_ndec_false h40) hm
          refine jb rfl rfl (je rfl rfl (jb rfl rfl ?_))
          refine kG RI [2, 0] (ps := [(0, _), (1, _)]) (cells := [_, _]) (fun w => Tryz.runUnderlying60 w) (fun w => Tryz.sizeOf62 w) (fun w => Tryz.zeroValue62 w) rfl rfl rfl rfl rfl rfl rfl rfl (fun L_2 h41 => ?_)
          refine jb rfl rfl ?_
          obtain ⟨t68, h42, hm⟩ := bindO hm
          refine jd [] [] rfl rfl rfl rfl rfl rfl rfl Tryz.call29 (fun w hh => JE t28.r0 [2, 0] (qA l_5.q) l_5.n l_5.cap (qA L_2.q) L_2.n L_2.cap w (HV.callee (S0 := []) (vs0 := []) hh (roC (hh.vsepA 5 rfl h23) (roC (hh.vsepA 0 rfl h41) roN))) (vlen RI h23 rfl) (AOK.q (vne h23)) (h23).hle (vlen RI h41 rfl) (AOK.q (vne h41)) (h41).hle h42) (fun l_9 h43 => ?_)
          refine jb rfl rfl (jc rfl rfl rfl (fun _ _ => kE rfl) (j3 rfl rfl rfl (jv ?_)))
          obtain rfl := sj hm
          exact jg () (trivial) (sE rfl) (hsE [] [] 0 rfl rfl rfl rfl)
  ·intro l_8 hj
   replace hm := h33
   refine ja ?_
   refine js rfl (fun h44 => ?_) (fun h44 => ?_)
   ·replace hm := ifT (h44) hm
    refine jq (jk rfl rfl (jp (jw (jf ?_))))
    obtain rfl := sj hm
    refine jm rfl (fun w hh => (.tmp rfl .nil)) (fun w hh => ⟨(), rfl, trivial, hh⟩)
   ·replace hm := ifN h44 hm
    refine ju (ja (jq ?_))
    obtain ⟨t72, h45, hm⟩ := bindO hm
    refine jd [] [] rfl rfl rfl rfl rfl rfl rfl Tryz.call46 (fun w hh => z5 10 15 w (HV.callee (S0 := []) (vs0 := []) hh roN)  h45) (fun l_10 h46 => ?_)
    obtain ⟨h47, h48⟩ := h46
    refine jT (S' := []) (vs' := [_, _]) [] [0, 1] 0 rfl rfl rfl rfl ?_
    refine kG RI [0, 1, 2] (ps := [(0, _), (1, _), (2, _)]) (cells := [_, _, _]) (fun w => Tryz.runUnderlying26 w) (fun w => Tryz.sizeOf3 w) (fun w => Tryz.zeroValue3 w) rfl rfl rfl rfl rfl rfl rfl rfl (fun L_3 h49 => ?_)
    refine jc rfl rfl rfl (fun _ _ => jz (vs := [(1, _)]) (cells := [_, _]) rfl rfl) ?_
    obtain ⟨t75, h50, hm⟩ := bindO hm
    refine jd [] [] rfl rfl rfl rfl rfl rfl rfl Tryz.call19 (fun w hh => Ze t72 (⟨false, [0, 1, 2]⟩ : Lack) (qA l_10.1.q) l_10.1.n l_10.1.cap (qA l_10.2.q) l_10.2.n l_10.2.cap (qA L_3.q) L_3.n L_3.cap w (HV.callee (S0 := []) (vs0 := []) hh (roC (hh.vsepA 1 rfl h47) (roC (hh.vsepA 2 rfl h48) (roC (hh.vsepA 0 rfl h49) roN)))) (vlen RSt h47 rfl) (AOK.q (vne h47)) (h47).hle (vlen RSp h48 rfl) (AOK.q (vne h48)) (h48).hle (vlen RI h49 rfl) (AOK.q (vne h49)) (h49).hle h50) (fun l_11 h51 => ?_)
    refine je rfl rfl (kp rfl rfl rfl (kp rfl rfl rfl (jk rfl rfl (jk rfl rfl (j0 ?_)))))
    obtain ⟨t79, h52, hm⟩ := bindO hm
    refine jd [] [] rfl rfl rfl rfl rfl rfl rfl Tryz.call46 (fun w hh => z5 10 15 w (HV.callee (S0 := []) (vs0 := []) hh roN)  h52) (fun l_12 h53 => ?_)
    obtain ⟨h54, h55⟩ := h53
    refine jT (S' := []) (vs' := [_, _, _, _, _]) [] [0, 1, 2, 3, 4] 0 rfl rfl rfl rfl ?_
    refine kG RI [0, 2] (ps := [(0, _), (1, _)]) (cells := [_, _]) (fun w => Tryz.runUnderlying26 w) (fun w => Tryz.sizeOf3 w) (fun w => Tryz.zeroValue3 w) rfl rfl rfl rfl rfl rfl rfl rfl (fun L_4 h56 => ?_)
    refine jc rfl rfl rfl (fun _ _ => jz (vs := [(1, _)]) (cells := [_, _]) rfl rfl) ?_
    obtain ⟨t82, h57, hm⟩ := bindO hm
    refine jd [] [] rfl rfl rfl rfl rfl rfl rfl Tryz.call19 (fun w hh => Ze t79 (⟨false, [0, 2]⟩ : Lack) (qA l_12.1.q) l_12.1.n l_12.1.cap (qA l_12.2.q) l_12.2.n l_12.2.cap (qA L_4.q) L_4.n L_4.cap w (HV.callee (S0 := []) (vs0 := []) hh (roC (hh.vsepA 1 rfl h54) (roC (hh.vsepA 2 rfl h55) (roC (hh.vsepA 0 rfl h56) roN)))) (vlen RSt h54 rfl) (AOK.q (vne h54)) (h54).hle (vlen RSp h55 rfl) (AOK.q (vne h55)) (h55).hle (vlen RI h56 rfl) (AOK.q (vne h56)) (h56).hle h57) (fun l_13 h58 => ?_)
    refine je rfl rfl (kp rfl rfl rfl (kp rfl rfl rfl (jk rfl rfl (jk rfl rfl (j0 ?_)))))
    obtain ⟨t86, h59, hm⟩ := bindO hm
    refine jd [] [] rfl rfl rfl rfl rfl rfl rfl Tryz.call46 (fun w hh => z5 10 15 w (HV.callee (S0 := []) (vs0 := []) hh roN)  h59) (fun l_14 h60 => ?_)
    obtain ⟨h61, h62⟩ := h60
    refine jT (S' := []) (vs' := [_, _, _, _, _, _, _, _]) [] [0, 1, 2, 3, 4, 5, 6, 7] 0 rfl rfl rfl rfl ?_
    obtain ⟨t87, h63, hm⟩ := bindO hm
    refine jd [] [] rfl rfl rfl rfl rfl rfl rfl Tryz.call42 (fun w hh => ZT t86 (qA l_14.1.q) l_14.1.n l_14.1.cap (qA l_14.2.q) l_14.2.n l_14.2.cap w (HV.callee (S0 := []) (vs0 := []) hh (roC (hh.vsepA 0 rfl h61) (roC (hh.vsepA 1 rfl h62) roN))) (vlen RSt h61 rfl) (AOK.q (vne h61)) (h61).hle (vlen RSp h62 rfl) (AOK.q (vne h62)) (h62).hle h63) (fun l_15 h64 => ?_)
    obtain ⟨h65, h66⟩ := h64
    refine jT (S' := []) (vs' := [_, _, _, _, _, _, _, _, _]) [] [0, 1, 2, 3, 4, 5, 6, 7, 8] 0 rfl rfl rfl rfl (je rfl rfl (kp rfl rfl rfl (kp rfl rfl rfl (jk rfl rfl (j0 ?_)))))
    obtain ⟨t91, h67, hm⟩ := bindO hm
    refine jd [] [] rfl rfl rfl rfl rfl rfl rfl Tryz.call46 (fun w hh => z5 22 25 w (HV.callee (S0 := []) (vs0 := []) hh roN)  h67) (fun l_16 h68 => ?_)
    obtain ⟨h69, h70⟩ := h68
    refine jT (S' := []) (vs' := [_, _, _, _, _, _, _, _, _, _, _]) [] [0, 1, 2, 3, 4, 5, 6, 7, 8, 9, 10] 0 rfl rfl rfl rfl (jc rfl rfl rfl (fun _ _ => jz (vs := [(0, _), (1, _)]) (cells := [_, _]) rfl rfl) ?_)
    obtain ⟨t93, h71, hm⟩ := bindO hm
    refine jd [] [] rfl rfl rfl rfl rfl rfl rfl Tryz.call20 (fun w hh => jap t91 0 (⟨24, 30⟩ : Span) (qA l_16.1.q) l_16.1.n l_16.1.cap (qA l_16.2.q) l_16.2.n l_16.2.cap w (HV.callee (S0 := []) (vs0 := []) hh (roC (hh.vsepA 0 rfl h69) (roC (hh.vsepA 1 rfl h70) roN))) (vlen RSt h69 rfl) (AOK.q (vne h69)) (h69).hle (vlen RSp h70 rfl) (AOK.q (vne h70)) (h70).hle h71) (fun l_17 h72 => ?_)
    obtain ⟨h73, h74⟩ := h72
    refine jT (S' := []) (vs' := [_, _, _, _, _, _, _, _, _, _, _, _, _]) [] [0, 1, 2, 3, 4, 5, 6, 7, 8, 9, 10, 11, 12] 0 rfl rfl rfl rfl (je rfl rfl (kp rfl rfl rfl (kp rfl rfl rfl ?_)))
    refine jo (fun w => Tryz.zeroValue25 w) rfl (fun b h75 => ?_)
    refine jy (us := #[_, _]) (cs' := [_, _]) (S' := [_]) 0 (fun w => Tryz.sizeOf25 w) rfl rfl rfl rfl rfl rfl rfl (jk rfl rfl (jp (jj ?_)))
    obtain ⟨o_1, h76, h77⟩ := bindO hm
    refine jF (ι := Unit) (fun l_18 => True) (fun l_18 => [(0, .bool o_1)]) (fun l_18 => [(b, .cells #[slv l_17.1.q l_17.1.n l_17.1.cap, slv l_17.2.q l_17.2.n l_17.2.cap] 25 (0, 0))]) (fun l_18 => [⟨85, RSt.enc t93.r0.strips, l_17.1.sp, l_17.1.q, []⟩, ⟨32, RSp.enc t93.r0.carried, l_17.2.sp, l_17.2.q, []⟩]) ?_ ?_
    ·replace hm := h76
     refine jh (je rfl rfl (jc rfl rfl rfl (fun _ _ => yD rfl rfl) (je rfl rfl ?_)))
     refine jJ 98 rfl (fun h78 => ?_) (fun h78 => ?_)
     ·replace hm := ifD h78 hm
      refine jb rfl rfl (je rfl rfl (jb rfl rfl (jc rfl rfl rfl (fun _ _ => yD rfl rfl) (kx rfl rfl rfl (je rfl rfl ?_)))))
      refine jJ 102 rfl (fun h79 => ?_) (fun h79 => ?_)
      ·replace hm := ifD h79 hm
       refine jb rfl rfl (je rfl rfl (jb rfl rfl (jc rfl rfl rfl (fun _ _ => yD rfl rfl) (kx rfl rfl rfl (je rfl rfl ?_)))))
       refine jJ 106 rfl (fun h80 => ?_) (fun h80 => ?_)
       ·replace hm := ifD h80 hm
        refine jb rfl rfl (je rfl rfl (jb rfl rfl (jc rfl rfl rfl (fun _ _ => yD rfl rfl) (kx rfl rfl rfl (je rfl rfl ?_)))))
        refine jJ 110 rfl (fun h81 => ?_) (fun h81 => ?_)
        ·replace hm := ifD h81 hm
         refine jb rfl rfl (je rfl rfl (jb rfl rfl (jc rfl rfl rfl (fun _ _ => yD rfl rfl) (kx rfl rfl rfl (je rfl rfl ?_)))))
         refine jJ 114 rfl (fun h82 => ?_) (fun h82 => ?_)
         ·replace hm := ifD h82 hm
          refine jb rfl rfl (je rfl rfl (jb rfl rfl (jc rfl rfl rfl (fun _ _ => yD rfl rfl) (kx rfl rfl rfl (je rfl rfl ?_)))))
          refine jJ 118 rfl (fun h83 => ?_) (fun h83 => ?_)
          ·replace hm := ifD h83 hm
           refine jb rfl rfl (jP 1 Tryz.runUnderlying25 rfl Tryz.sizeOf23 rfl rfl (jb rfl rfl (jY 0 Tryz.isAgg23 rfl rfl rfl rfl (jb rfl rfl (jc rfl rfl rfl (fun w _ => Q1 (vlen RSp h74 rfl) (Tryz.runUnderlying23 w) rfl) (jb rfl rfl (jc rfl rfl rfl (fun _ _ => yD rfl rfl) ?_)))))))
           refine kx rfl rfl rfl (je rfl rfl ?_)
           refine jJ 124 rfl (fun h84 => ?_) (fun h84 => ?_)
           ·replace hm := ifD h84 hm
            refine jb rfl rfl (jP 1 Tryz.runUnderlying25 rfl Tryz.sizeOf23 rfl rfl (jb rfl rfl (jY 0 Tryz.isAgg23 rfl rfl rfl rfl (jb rfl rfl ?_))))
            obtain ⟨t127, h85, hm⟩ := bindO hm
            refine jc rfl rfl rfl (fun w _ => qx h85 (Tryz.runUnderlying23 w) (Tryz.sizeOf32 w) rfl rfl (vlen RSp h74 rfl) (vne h74)) (jb rfl rfl ?_)
            refine jc rfl rfl rfl (fun w hh => kt RSp 0 [.int .i64 t127.lo, .int .i64 t127.hi] h85 (Tryz.isAgg32 w) (Tryz.sizeOf32 w) rfl (hh.vseg 1 rfl h74) rfl (Nat.add_zero _).symm) ?_
            refine jb rfl rfl (jc rfl rfl rfl (fun _ _ => jz (vs := [(0, _), (1, _)]) (cells := [_, _]) rfl rfl) (jb rfl rfl (jc rfl rfl rfl (fun w _ => Qi (Zi t127 (⟨24, 25⟩ : Span) w) Ye rfl rfl) (kx rfl rfl rfl (jk rfl rfl (jv ?_))))))
            obtain rfl := sj hm
            exact jg () (trivial) (sE rfl) (hsE [0] [0, 1] 0 rfl rfl rfl rfl)
           ·replace hm := ifE h84 hm
            refine g_k rfl rfl rfl rfl (g_k rfl rfl rfl rfl (g_k rfl rfl rfl rfl (g_k rfl rfl rfl rfl (g_k rfl rfl rfl rfl (g_k rfl rfl rfl rfl (j3 rfl rfl rfl (jk rfl rfl ?_)))))))
            refine jv ?_
            obtain rfl := sj hm
            exact jg () (trivial) (sE rfl) (hsE [0] [0, 1] 0 rfl rfl rfl rfl)
          ·replace hm := ifE h83 hm
           refine g_k rfl rfl rfl rfl (g_k rfl rfl rfl rfl (g_k rfl rfl rfl rfl (g_k rfl rfl rfl rfl (j3 rfl rfl rfl (je rfl rfl (g_k rfl rfl rfl rfl (g_k rfl rfl rfl rfl ?_)))))))
           refine g_k rfl rfl rfl rfl (g_k rfl rfl rfl rfl (g_k rfl rfl rfl rfl (g_k rfl rfl rfl rfl (j3 rfl rfl rfl (jk rfl rfl (jv ?_))))))
           obtain rfl := sj hm
           exact jg () (trivial) (sE rfl) (hsE [0] [0, 1] 0 rfl rfl rfl rfl)
         ·replace hm := ifE h82 hm
          refine g_k rfl rfl rfl rfl (g_k rfl rfl rfl rfl (j3 rfl rfl rfl (je rfl rfl (g_k rfl rfl rfl rfl (g_k rfl rfl rfl rfl (g_k rfl rfl rfl rfl (g_k rfl rfl rfl rfl ?_)))))))
          refine j3 rfl rfl rfl (je rfl rfl (g_k rfl rfl rfl rfl (g_k rfl rfl rfl rfl (g_k rfl rfl rfl rfl (g_k rfl rfl rfl rfl (g_k rfl rfl rfl rfl (g_k rfl rfl rfl rfl ?_)))))))
          refine j3 rfl rfl rfl (jk rfl rfl (jv ?_))
          obtain rfl := sj hm
          exact jg () (trivial) (sE rfl) (hsE [0] [0, 1] 0 rfl rfl rfl rfl)
        ·replace hm := ifE h81 hm
         refine g_k rfl rfl rfl rfl (g_k rfl rfl rfl rfl (j3 rfl rfl rfl (je rfl rfl (g_k rfl rfl rfl rfl (g_k rfl rfl rfl rfl (j3 rfl rfl rfl (je rfl rfl ?_)))))))
         refine g_k rfl rfl rfl rfl (g_k rfl rfl rfl rfl (g_k rfl rfl rfl rfl (g_k rfl rfl rfl rfl (j3 rfl rfl rfl (je rfl rfl (g_k rfl rfl rfl rfl (g_k rfl rfl rfl rfl ?_)))))))
         refine g_k rfl rfl rfl rfl (g_k rfl rfl rfl rfl (g_k rfl rfl rfl rfl (g_k rfl rfl rfl rfl (j3 rfl rfl rfl (jk rfl rfl (jv ?_))))))
         obtain rfl := sj hm
         exact jg () (trivial) (sE rfl) (hsE [0] [0, 1] 0 rfl rfl rfl rfl)
       ·replace hm := ifE h80 hm
        refine g_k rfl rfl rfl rfl (g_k rfl rfl rfl rfl (j3 rfl rfl rfl (je rfl rfl (g_k rfl rfl rfl rfl (g_k rfl rfl rfl rfl (j3 rfl rfl rfl (je rfl rfl ?_)))))))
        refine g_k rfl rfl rfl rfl (g_k rfl rfl rfl rfl (j3 rfl rfl rfl (je rfl rfl (g_k rfl rfl rfl rfl (g_k rfl rfl rfl rfl (g_k rfl rfl rfl rfl (g_k rfl rfl rfl rfl ?_)))))))
        refine j3 rfl rfl rfl (je rfl rfl (g_k rfl rfl rfl rfl (g_k rfl rfl rfl rfl (g_k rfl rfl rfl rfl (g_k rfl rfl rfl rfl (g_k rfl rfl rfl rfl (g_k rfl rfl rfl rfl ?_)))))))
        refine j3 rfl rfl rfl (jk rfl rfl (jv ?_))
        obtain rfl := sj hm
        exact jg () (trivial) (sE rfl) (hsE [0] [0, 1] 0 rfl rfl rfl rfl)
      ·replace hm := ifE h79 hm
       refine g_k rfl rfl rfl rfl (g_k rfl rfl rfl rfl (j3 rfl rfl rfl (je rfl rfl (g_k rfl rfl rfl rfl (g_k rfl rfl rfl rfl (j3 rfl rfl rfl (je rfl rfl ?_)))))))
       refine g_k rfl rfl rfl rfl (g_k rfl rfl rfl rfl (j3 rfl rfl rfl (je rfl rfl (g_k rfl rfl rfl rfl (g_k rfl rfl rfl rfl (j3 rfl rfl rfl (je rfl rfl ?_)))))))
       refine g_k rfl rfl rfl rfl (g_k rfl rfl rfl rfl (g_k rfl rfl rfl rfl (g_k rfl rfl rfl rfl (j3 rfl rfl rfl (je rfl rfl (g_k rfl rfl rfl rfl (g_k rfl rfl rfl rfl ?_)))))))
       refine g_k rfl rfl rfl rfl (g_k rfl rfl rfl rfl (g_k rfl rfl rfl rfl (g_k rfl rfl rfl rfl (j3 rfl rfl rfl (jk rfl rfl (jv ?_))))))
       obtain rfl := sj hm
       exact jg () (trivial) (sE rfl) (hsE [0] [0, 1] 0 rfl rfl rfl rfl)
     ·replace hm := ifE h78 hm
      refine g_k rfl rfl rfl rfl (g_k rfl rfl rfl rfl (j3 rfl rfl rfl (je rfl rfl (g_k rfl rfl rfl rfl (g_k rfl rfl rfl rfl (j3 rfl rfl rfl (je rfl rfl ?_)))))))
      refine g_k rfl rfl rfl rfl (g_k rfl rfl rfl rfl (j3 rfl rfl rfl (je rfl rfl (g_k rfl rfl rfl rfl (g_k rfl rfl rfl rfl (j3 rfl rfl rfl (je rfl rfl ?_)))))))
      refine g_k rfl rfl rfl rfl (g_k rfl rfl rfl rfl (j3 rfl rfl rfl (je rfl rfl (g_k rfl rfl rfl rfl (g_k rfl rfl rfl rfl (g_k rfl rfl rfl rfl (g_k rfl rfl rfl rfl ?_)))))))
      refine j3 rfl rfl rfl (je rfl rfl (g_k rfl rfl rfl rfl (g_k rfl rfl rfl rfl (g_k rfl rfl rfl rfl (g_k rfl rfl rfl rfl (g_k rfl rfl rfl rfl (g_k rfl rfl rfl rfl ?_)))))))
      refine j3 rfl rfl rfl (jk rfl rfl (jv ?_))
      obtain rfl := sj hm
      exact jg () (trivial) (sE rfl) (hsE [0] [0, 1] 0 rfl rfl rfl rfl)
    ·intro l_18 hj
     replace hm := h77
     refine ja (jw ?_)
     obtain rfl := sj hm
     refine jm rfl (fun w hh => (.tmp rfl .nil)) (fun w hh => ⟨(), rfl, trivial, hh.se [] [] 0 rfl rfl rfl rfl⟩)
end Go.Proofs.Ws

namespace Go.Sp
def sumI {α : Type} (f : α → Int) : List α → Int
  | [] => 0
  | x :: l => f x + sumI f l
theorem sumI_append {α : Type} (f : α → Int) : ∀ l m : List α, sumI f (l ++ m) = sumI f l + sumI f m
  | [], m => by simp [sumI]
  | x :: l, m => by simp only [List.cons_append, sumI, sumI_append f l m]; omega
theorem sumI_congr {α : Type} {f g : α → Int} : ∀ {l : List α}, (∀ x, x ∈ l → f x = g x) → sumI f l = sumI g l
  | [], _ => rfl
  | x :: l, h => by
    simp only [sumI]
    rw [h x (by simp), sumI_congr (l := l) (fun y hy => h y (by simp [hy]))]
theorem sumI_le {α : Type} {f g : α → Int} : ∀ {l : List α}, (∀ x, x ∈ l → f x ≤ g x) → sumI f l ≤ sumI g l
  | [], _ => by simp [sumI]
  | x :: l, h => by
    have h1 := h x (by simp)
    have h2 := sumI_le (l := l) (fun y hy => h y (by simp [hy]))
    simp only [sumI]; omega
theorem sumI_zero {α : Type} : ∀ l : List α, sumI (fun _ => 0) l = 0
  | [] => rfl
  | x :: l => by simp only [sumI, sumI_zero l]; omega
theorem sumI_map {α β : Type} (f : β → Int) (g : α → β) : ∀ l : List α, sumI f (l.map g) = sumI (fun x => f (g x)) l
  | [] => rfl
  | x :: l => by simp only [List.map_cons, sumI, sumI_map f g l]
def base (w : Wy) : Wy := { w with goes := 0 }
def Same (l l' : List Wy) : Prop := l.map base = l'.map base
theorem Same.refl (l : List Wy) : Same l l := rfl
theorem Same.symm {l l' : List Wy} (h : Same l l') : Same l' l := Eq.symm h
theorem Same.trans {a b c : List Wy} (h : Same a b) (k : Same b c) : Same a c := Eq.trans h k
theorem Same.len {l l' : List Wy} (h : Same l l') : l.length = l'.length := by have := congrArg List.length h; simpa using this
theorem Same.cons {w w' : Wy} {l l' : List Wy} (h : Same (w :: l) (w' :: l')) : base w = base w' ∧ Same l l' := by
  have : base w :: l.map base = base w' :: l'.map base := h
  injection this with h1 h2
  exact ⟨h1, h2⟩
theorem base_eq {w w' : Wy} (h : base w = base w') : w.fr = w'.fr ∧ w.dst = w'.dst ∧ w.lo = w'.lo ∧ w.hi = w'.hi ∧ w.cost = w'.cost := by
  cases w; cases w'
  simp only [base, Wy.mk.injEq] at h
  exact ⟨h.1, h.2.1, h.2.2.1, h.2.2.2.1, h.2.2.2.2.1⟩
def bal (φ : Int → Int) (l : List Wy) : Int := sumI (fun w => (φ w.dst - φ w.fr) * w.goes) l
def costs (l : List Wy) : Int := sumI (fun w => w.cost * w.goes) l
def Round (l : List Wy) : Prop := ∀ φ, bal φ l = 0
def Within (l : List Wy) : Prop := ∀ w, w ∈ l → w.lo ≤ w.goes ∧ w.goes ≤ w.hi
def Pot (π : Int → Int) (l : List Wy) : Prop := ∀ w, w ∈ l → (w.goes < w.hi → π w.dst ≤ π w.fr + w.cost) ∧ (min w.lo w.goes < w.goes → π w.fr ≤ π w.dst - w.cost)
theorem Pot.cheap {π : Int → Int} : ∀ {l l' : List Wy}, Same l l' → Pot π l → Within l' → costs l - bal π l ≤ costs l' - bal π l'
  | [], [], _, _, _ => by simp [costs, bal, sumI]
  | [], w' :: l', h, _, _ => by have := Same.len h; simp at this
  | w :: l, [], h, _, _ => by have := Same.len h; simp at this
  | w :: l, w' :: l', h, hp, hw => by
    obtain ⟨hb, hs⟩ := h.cons
    obtain ⟨e1, e2, e3, e4, e5⟩ := base_eq hb
    have ih := Pot.cheap hs (fun x hx => hp x (by simp [hx])) (fun x hx => hw x (by simp [hx]))
    obtain ⟨p1, p2⟩ := hp w (by simp)
    obtain ⟨w1, w2⟩ := hw w' (by simp)
    unfold costs bal at ih ⊢
    simp only [sumI]
    have key : w.cost * w.goes - (π w.dst - π w.fr) * w.goes ≤ w'.cost * w'.goes - (π w'.dst - π w'.fr) * w'.goes := by
      rw [← e5, ← e1, ← e2, ← Int.sub_mul, ← Int.sub_mul]
      have h0 : 0 ≤ (w.cost - (π w.dst - π w.fr)) * (w'.goes - w.goes) := by
        by_cases h1 : w.goes < w'.goes
        · have := p1 (by omega)
          exact Int.mul_nonneg (by omega) (by omega)
        · by_cases h2 : w'.goes < w.goes
          · have := p2 (by omega)
            have h3 := Int.mul_nonneg (a := -(w.cost - (π w.dst - π w.fr))) (b := -(w'.goes - w.goes)) (by omega) (by omega)
            rwa [Int.neg_mul_neg] at h3
          · have : w'.goes - w.goes = 0 := by omega
            rw [this, Int.mul_zero]; omega
      rw [Int.mul_sub] at h0
      omega
    omega
theorem Pot.least {π : Int → Int} {l l' : List Wy} (h : Same l l') (hp : Pot π l) (hr : Round l) (hw : Within l') (hr' : Round l') : costs l ≤ costs l' := by
  have := Pot.cheap h hp hw
  rw [hr π, hr' π] at this
  omega
def Cut (S : Int → Bool) (l : List Wy) : Prop := ∀ w, w ∈ l → (S w.fr = true → S w.dst = false → w.hi ≤ w.goes) ∧ (S w.fr = false → S w.dst = true → w.goes ≤ w.lo)
def ind (S : Int → Bool) (v : Int) : Int := if S v = true then 1 else 0
def gap (S : Int → Bool) (l : List Wy) : Int := sumI (fun w => if S w.fr = false ∧ S w.dst = true then w.lo else if S w.fr = true ∧ S w.dst = false then - w.hi else 0) l
theorem Cut.gap {S : Int → Bool} {l : List Wy} (h : Cut S l) (hr : Round l) {w0 : Wy} (h0 : w0 ∈ l) (h1 : S w0.fr = false) (h2 : S w0.dst = true) (h3 : w0.goes < w0.lo) : 0 < gap S l := by
  have hb := hr (ind S)
  have key : ∀ m : List Wy, (∀ w, w ∈ m → (S w.fr = true → S w.dst = false → w.hi ≤ w.goes) ∧ (S w.fr = false → S w.dst = true → w.goes ≤ w.lo)) → bal (ind S) m ≤ Go.Sp.gap S m ∧ (w0 ∈ m → bal (ind S) m < Go.Sp.gap S m) := by
    intro m
    induction m with
    | nil => intro _; exact ⟨by simp [bal, Go.Sp.gap, sumI], fun h => by cases h⟩
    | cons w m ih =>
      intro hm
      obtain ⟨i1, i2⟩ := ih (fun x hx => hm x (by simp [hx]))
      obtain ⟨c1, c2⟩ := hm w (by simp)
      have hterm : (ind S w.dst - ind S w.fr) * w.goes ≤ (if S w.fr = false ∧ S w.dst = true then w.lo else if S w.fr = true ∧ S w.dst = false then - w.hi else 0) := by
        cases hf : S w.fr <;> cases hd : S w.dst <;> simp only [ind, hf, hd, if_true, if_false, Bool.false_eq_true, and_self, and_true, true_and, and_false, false_and, reduceCtorEq, Bool.true_eq_false]
        · simp
        · have := c2 hf hd; omega
        · have := c1 hf hd; omega
        · simp
      unfold bal Go.Sp.gap at i1 i2 ⊢
      simp only [sumI]
      refine ⟨by omega, fun hmem => ?_⟩
      rcases List.mem_cons.1 hmem with rfl | hmem
      · have e1 : (ind S w0.dst - ind S w0.fr) * w0.goes = w0.goes := by simp [ind, h1, h2]
        have e2 : (if S w0.fr = false ∧ S w0.dst = true then w0.lo else if S w0.fr = true ∧ S w0.dst = false then - w0.hi else 0) = w0.lo := by simp [h1, h2]
        rw [e1, e2]
        omega
      · have := i2 hmem; omega
  have := (key l h).2 h0
  omega
theorem gap_le {S : Int → Bool} {l : List Wy} (hr : Round l) (hw : Within l) : gap S l ≤ 0 := by
  have hb := hr (ind S)
  have : gap S l ≤ bal (ind S) l := by
    unfold gap bal
    refine sumI_le fun w hm => ?_
    obtain ⟨c1, c2⟩ := hw w hm
    cases hf : S w.fr <;> cases hd : S w.dst <;> simp only [ind, hf, hd, if_true, if_false, Bool.false_eq_true, and_self, and_true, true_and, and_false, false_and, reduceCtorEq, Bool.true_eq_false] <;> omega
  omega
theorem gap_same {S : Int → Bool} : ∀ {l l' : List Wy}, Same l l' → gap S l = gap S l'
  | [], [], _ => rfl
  | [], w' :: l', h => by have := Same.len h; simp at this
  | w :: l, [], h => by have := Same.len h; simp at this
  | w :: l, w' :: l', h => by
    obtain ⟨hb, hs⟩ := h.cons
    obtain ⟨e1, e2, e3, e4, e5⟩ := base_eq hb
    have := gap_same (S := S) hs
    unfold gap at this ⊢
    simp only [sumI]
    rw [this, e1, e2, e3, e4]
end Go.Sp

namespace Go.Sp
section
variable (A B C : Change → Int)
structure BF where
  far : Int → Int
  pre : Int → Change
  last : Int
def upd {α : Type} (f : Int → α) (b : Int) (v : α) : Int → α := fun x => if x = b then v else f x
theorem upd_same {α : Type} {f : Int → α} {b : Int} {v : α} : upd f b v b = v := by simp [upd]
theorem upd_ne {α : Type} {f : Int → α} {b x : Int} {v : α} (h : x ≠ b) : upd f b v x = f x := by simp [upd, h]
def relax (s : BF) (c : Change) : BF := if s.far (A c) + C c < s.far (B c) then ⟨upd s.far (B c) (s.far (A c) + C c), upd s.pre (B c) c, B c⟩ else s
def pred (s : BF) (x : Int) : Int := A (s.pre x)
def iterP (p : Int → Int) : Nat → Int → Int
  | 0, x => x
  | k + 1, x => iterP p k (p x)
theorem iterP_succ (p : Int → Int) : ∀ (k : Nat) (x : Int), iterP p (k + 1) x = p (iterP p k x)
  | 0, x => rfl
  | k + 1, x => by
    show iterP p (k + 1) (p x) = p (iterP p k (p x))
    exact iterP_succ p k (p x)
theorem iterP_add (p : Int → Int) : ∀ (j k : Nat) (x : Int), iterP p (j + k) x = iterP p j (iterP p k x)
  | j, 0, x => rfl
  | j, k + 1, x => by
    show iterP p (j + k) (p x) = _
    rw [iterP_add p j k (p x)]
    rfl
structure Inv (cs : List Change) (r : Nat) (todo : List Change) (rel : Int → Nat) (N : Nat) (s : BF) : Prop where
  lo : ∀ x, - (N : Int) ≤ s.far x
  hi : ∀ x, s.far x ≤ 0
  le : ∀ x, rel x ≤ r
  pc : ∀ x, 1 ≤ rel x → s.pre x ∈ cs ∧ B (s.pre x) = x ∧ s.far (A (s.pre x)) + C (s.pre x) ≤ s.far x ∧ rel x ≤ rel (A (s.pre x)) + 1
  done : ∀ c, c ∈ cs → c ∈ todo ∨ s.far (B c) ≤ s.far (A c) + C c ∨ r ≤ rel (A c)
  left : ∀ c, c ∈ cs → s.far (B c) ≤ s.far (A c) + C c ∨ r ≤ rel (A c) + 1
  strict : ∀ y k, 0 < k → (∀ i, i < k → 1 ≤ rel (iterP (pred A s) i y)) → iterP (pred A s) k y = y → ∃ i, i < k ∧ s.far (iterP (pred A s) (i + 1) y) + C (s.pre (iterP (pred A s) i y)) < s.far (iterP (pred A s) i y)
  lst : 1 ≤ r → (∀ x, rel x = r → 0 ≤ s.last) ∧ (0 ≤ s.last → rel s.last = r)
variable {A B C}
theorem Inv.step {cs : List Change} (hne : ∀ c, c ∈ cs → A c ≠ B c) (hB : ∀ c, c ∈ cs → 0 ≤ B c) (hC : ∀ c, c ∈ cs → -1 ≤ C c) {r : Nat} (hr : 1 ≤ r) {c : Change} {todo : List Change} {rel : Int → Nat} {N : Nat} {s : BF} (hc : c ∈ cs) (h : Inv A B C cs r (c :: todo) rel N s) :
    ∃ rel', Inv A B C cs r todo rel' (N + 1) (relax A B C s c) ∧ ∀ x, rel x ≤ rel' x := by
  unfold relax
  by_cases hlt : s.far (A c) + C c < s.far (B c)
  · rw [if_pos hlt]
    have hlo := h.lo (A c)
    have hhi := h.hi (B c)
    have hcc := hC c hc
    have hne' := hne c hc
    have hleft : r ≤ rel (A c) + 1 := by rcases h.left c hc with h1 | h1; · omega
                                         · exact h1
    refine ⟨fun x => if x = B c then r else rel x, ?_, fun x => ?_⟩
    rotate_left
    · have := h.le x
      simp only; split <;> omega
    have hrel : ∀ x, (if x = B c then r else rel x) = if x = B c then r else rel x := fun _ => rfl
    have hfarle : ∀ x, upd s.far (B c) (s.far (A c) + C c) x ≤ s.far x := fun x => by
      unfold upd; split
      · rename_i e; subst e; omega
      · omega
    -- the predecessor of a node
    have hpred : ∀ x, pred A ⟨upd s.far (B c) (s.far (A c) + C c), upd s.pre (B c) c, B c⟩ x = if x = B c then A c else pred A s x := fun x => by
      unfold pred upd; simp only; split <;> rfl
    refine ⟨fun x => ?_, fun x => ?_, fun x => ?_, fun x hx => ?_, fun d hd => ?_, fun d hd => ?_, fun y k hk hall hcyc => ?_, fun _ => ⟨fun x _ => hB c hc, fun _ => by simp⟩⟩
    · have := h.lo x
      simp only [upd]; split <;> omega
    · have := h.hi x; have := hfarle x; simp only at *; omega
    · have := h.le x
      show (if x = B c then r else rel x) ≤ r
      split <;> omega
    · simp only at hx ⊢
      by_cases hxb : x = B c
      · subst hxb
        rw [upd_same, upd_same, upd_ne hne', if_pos rfl, if_neg hne']
        exact ⟨hc, rfl, Int.le_refl _, hleft⟩
      · rw [if_neg hxb] at hx
        rw [upd_ne hxb, upd_ne hxb, if_neg hxb]
        obtain ⟨h1, h2, h3, h4⟩ := h.pc x hx
        refine ⟨h1, h2, ?_, ?_⟩
        · have := hfarle (A (s.pre x)); omega
        · have := h.le x
          split
          · omega
          · exact h4
    · simp only
      by_cases hda : A d = B c
      · right; right; rw [if_pos hda]; exact Nat.le_refl _
      · rw [if_neg hda, upd_ne hda]
        by_cases hdc : d = c
        · subst hdc
          right; left
          rw [upd_same]; exact Int.le_refl _
        · rcases h.done d hd with h1 | h1 | h1
          · rcases List.mem_cons.1 h1 with h1 | h1
            · exact absurd h1 hdc
            · exact .inl h1
          · right; left; have := hfarle (B d); omega
          · exact .inr (.inr h1)
    · simp only
      by_cases hda : A d = B c
      · right; rw [if_pos hda]; omega
      · rw [if_neg hda, upd_ne hda]
        rcases h.left d hd with h1 | h1
        · left; have := hfarle (B d); omega
        · exact .inr h1
    · -- what goes round
      generalize hp' : pred A ⟨upd s.far (B c) (s.far (A c) + C c), upd s.pre (B c) c, B c⟩ = p' at hall hcyc hpred ⊢
      by_cases hb : ∃ m, m < k ∧ iterP p' m y = B c
      · -- it leads over the node that turned: the one behind it is slack
        obtain ⟨m, hm, hmb⟩ := hb
        have key : ∃ i, i < k ∧ iterP p' (i + 1) y = B c := by
          cases m with
          | zero => exact ⟨k - 1, by omega, by rw [show k - 1 + 1 = k by omega, hcyc]; exact hmb⟩
          | succ m => exact ⟨m, by omega, hmb⟩
        obtain ⟨i, hi, hib⟩ := key
        refine ⟨i, hi, ?_⟩
        have hz : p' (iterP p' i y) = B c := (iterP_succ p' i y).symm.trans hib
        rw [hib]
        have hri := hall i hi
        generalize iterP p' i y = z at hri hz ⊢
        by_cases hzb : z = B c
        · subst hzb
          rw [hpred, if_pos rfl] at hz
          exact absurd hz hne'
        · simp only [upd_ne hzb, upd_same, hzb, if_false] at hri ⊢
          rw [hpred, if_neg hzb] at hz
          obtain ⟨h1, h2, h3, h4⟩ := h.pc z hri
          unfold pred at hz
          rw [hz] at h3
          omega
      · have hno : ∀ m, m < k → iterP p' m y ≠ B c := fun m hm e => hb ⟨m, hm, e⟩
        have heq : ∀ m, m ≤ k → iterP p' m y = iterP (pred A s) m y := by
          intro m
          induction m with
          | zero => intro _; rfl
          | succ m ih =>
            intro hm
            rw [iterP_succ, iterP_succ, ih (by omega), hpred, if_neg (by rw [← ih (by omega)]; exact hno m (by omega))]
        obtain ⟨i, hi, h1⟩ := h.strict y k hk (fun i hi => by
          have := hall i hi
          simp only [hno i hi, if_false] at this
          rwa [heq i (by omega)] at this) (by rw [← heq k (Nat.le_refl _)]; exact hcyc)
        refine ⟨i, hi, ?_⟩
        have e1 : iterP p' (i + 1) y ≠ B c := by
          by_cases hik : i + 1 = k
          · rw [hik, hcyc]; have := hno 0 hk; exact this
          · exact hno (i + 1) (by omega)
        show upd s.far (B c) (s.far (A c) + C c) (iterP p' (i + 1) y) + C (upd s.pre (B c) c (iterP p' i y)) < upd s.far (B c) (s.far (A c) + C c) (iterP p' i y)
        rw [upd_ne e1, upd_ne (hno i hi), upd_ne (hno i hi), heq i (by omega), heq (i + 1) (by omega)]
        exact h1
  · rw [if_neg hlt]
    refine ⟨rel, ⟨fun x => by have := h.lo x; omega, h.hi, h.le, h.pc, fun d hd => ?_, h.left, h.strict, h.lst⟩, fun x => Nat.le_refl _⟩
    rcases h.done d hd with h1 | h1
    · rcases List.mem_cons.1 h1 with h1 | h1
      · subst h1; right; left; omega
      · exact .inl h1
    · exact .inr h1
end
end Go.Sp

namespace Go.Sp
theorem exists_least {P : Nat → Prop} (h : ∃ n, P n) : ∃ n, P n ∧ ∀ m, m < n → ¬ P m := by
  obtain ⟨n, hn⟩ := h
  induction n using Nat.strongRecOn with
  | _ n ih =>
    by_cases hs : ∃ m, m < n ∧ P m
    · obtain ⟨m, hm, hpm⟩ := hs
      exact ih m hm hpm
    · exact ⟨n, hn, fun m hm hpm => hs ⟨m, hm, hpm⟩⟩
theorem pig : ∀ (n : Nat) (l : List Int), l.Nodup → (∀ x, x ∈ l → 0 ≤ x ∧ x < (n : Int)) → l.length ≤ n
  | 0, l, _, h => by
    cases l with
    | nil => simp
    | cons x l => have := h x (by simp); omega
  | n + 1, l, hn, h => by
    have h1 : ∀ x, x ∈ l.erase (n : Int) → 0 ≤ x ∧ x < (n : Int) := fun x hx => by
      have hx2 := (hn.mem_erase_iff).1 hx
      have := h x hx2.2
      have := hx2.1
      omega
    have h2 := pig n (l.erase (n : Int)) (hn.erase _) h1
    by_cases hm : (n : Int) ∈ l
    · rw [List.length_erase_of_mem hm] at h2
      omega
    · rw [List.erase_of_not_mem hm] at h2
      omega
theorem pig_fun {n : Nat} (f : Nat → Int) (h : ∀ j, j ≤ n → 0 ≤ f j ∧ f j < (n : Int)) : ∃ i j, i < j ∧ j ≤ n ∧ f i = f j := by
  by_cases hx : ∃ i j, i < j ∧ j ≤ n ∧ f i = f j
  · exact hx
  · exfalso
    have hn : ((List.range (n + 1)).map f).Nodup := by
      unfold List.Nodup
      rw [List.pairwise_map, List.pairwise_iff_getElem]
      intro i j hi hj hij e
      simp only [List.getElem_range] at e
      simp only [List.length_range] at hj
      exact hx ⟨i, j, hij, by omega, e⟩
    have := pig n _ hn (fun x hx => by
      obtain ⟨j, hj, rfl⟩ := List.mem_map.1 hx
      exact h j (by have := List.mem_range.1 hj; omega))
    simp at this
    omega
def sumTo (f : Nat → Int) : Nat → Int
  | 0 => 0
  | k + 1 => sumTo f k + f k
theorem sumTo_congr {f g : Nat → Int} : ∀ {k : Nat}, (∀ j, j < k → f j = g j) → sumTo f k = sumTo g k
  | 0, _ => rfl
  | k + 1, h => by simp only [sumTo]; rw [sumTo_congr (fun j hj => h j (by omega)), h k (by omega)]
theorem sumTo_tele (f : Nat → Int) : ∀ k, sumTo (fun j => f j - f (j + 1)) k = f 0 - f k
  | 0 => by simp [sumTo]
  | k + 1 => by simp only [sumTo]; rw [sumTo_tele f k]; omega
theorem sumTo_le {f g : Nat → Int} : ∀ {k : Nat}, (∀ j, j < k → f j ≤ g j) → sumTo f k ≤ sumTo g k
  | 0, _ => Int.le_refl _
  | k + 1, h => by have h1 := sumTo_le (k := k) (fun j hj => h j (by omega)); have := h k (by omega); simp only [sumTo]; omega
theorem sumTo_lt {f g : Nat → Int} : ∀ {k : Nat}, (∀ j, j < k → f j ≤ g j) → (∃ i, i < k ∧ f i < g i) → sumTo f k < sumTo g k
  | 0, _, ⟨i, hi, _⟩ => by omega
  | k + 1, h, ⟨i, hi, hlt⟩ => by
    simp only [sumTo]
    by_cases hik : i = k
    · subst hik
      have := sumTo_le (k := i) (fun j hj => h j (by omega)); omega
    · have := sumTo_lt (k := k) (fun j hj => h j (by omega)) ⟨i, by omega, hlt⟩
      have := h k (by omega); omega
section
variable {A B C : Change → Int}
theorem Inv.next {cs : List Change} {r : Nat} {rel : Int → Nat} {N : Nat} {s : BF} (h : Inv A B C cs r [] rel N s) : Inv A B C cs (r + 1) cs rel N { s with last := -1 } :=
  ⟨h.lo, h.hi, fun x => by have := h.le x; omega, h.pc, fun _ hc => .inl hc, fun c hc => by
    rcases h.done c hc with h1 | h1 | h1
    · cases h1
    · exact .inl h1
    · right; omega, h.strict, fun _ => ⟨fun x hx => by have := h.le x; omega, fun h0 => by simp at h0⟩⟩
theorem Inv.start {cs : List Change} (pre : Int → Change) : Inv A B C cs 0 [] (fun _ => 0) 0 ⟨fun _ => 0, pre, -1⟩ :=
  ⟨fun _ => by simp, fun _ => by simp, fun _ => Nat.le_refl _, fun _ h => by omega, fun _ _ => .inr (.inr (Nat.zero_le _)), fun _ _ => .inr (Nat.zero_le _),
   fun y k hk h _ => by have := h 0 hk; omega, fun h => by omega⟩
theorem Inv.fold {cs : List Change} (hne : ∀ c, c ∈ cs → A c ≠ B c) (hB : ∀ c, c ∈ cs → 0 ≤ B c) (hC : ∀ c, c ∈ cs → -1 ≤ C c) {r : Nat} (hr : 1 ≤ r) : ∀ (todo : List Change), (∀ c, c ∈ todo → c ∈ cs) → ∀ {rel : Int → Nat} {N : Nat} {s : BF}, Inv A B C cs r todo rel N s →
    ∃ rel', Inv A B C cs r [] rel' (N + todo.length) (todo.foldl (relax A B C) s)
  | [], _, rel, N, s, h => ⟨rel, h⟩
  | c :: todo, ht, rel, N, s, h => by
    obtain ⟨rel1, h1, _⟩ := h.step hne hB hC hr (ht c (by simp))
    obtain ⟨rel2, h2⟩ := Inv.fold hne hB hC hr todo (fun d hd => ht d (by simp [hd])) h1
    exact ⟨rel2, by rw [List.length_cons, show N + (todo.length + 1) = N + 1 + todo.length by omega]; exact h2⟩
def round (A B C : Change → Int) (cs : List Change) (s : BF) : BF := cs.foldl (relax A B C) { s with last := -1 }
def rounds (A B C : Change → Int) (cs : List Change) (pre : Int → Change) : Nat → BF
  | 0 => ⟨fun _ => 0, pre, -1⟩
  | k + 1 => round A B C cs (rounds A B C cs pre k)
theorem rounds_inv {cs : List Change} (hne : ∀ c, c ∈ cs → A c ≠ B c) (hB : ∀ c, c ∈ cs → 0 ≤ B c) (hC : ∀ c, c ∈ cs → -1 ≤ C c) (pre : Int → Change) : ∀ r, ∃ rel, Inv A B C cs r [] rel (r * cs.length) (rounds A B C cs pre r)
  | 0 => ⟨fun _ => 0, by rw [Nat.zero_mul]; exact Inv.start pre⟩
  | r + 1 => by
    obtain ⟨rel, h⟩ := rounds_inv hne hB hC pre r
    obtain ⟨rel', h'⟩ := Inv.fold hne hB hC (Nat.succ_pos r) cs (fun _ h => h) h.next
    exact ⟨rel', by rw [Nat.add_mul, Nat.one_mul]; exact h'⟩
theorem rounds_pot {cs : List Change} (hne : ∀ c, c ∈ cs → A c ≠ B c) (hB : ∀ c, c ∈ cs → 0 ≤ B c) (hC : ∀ c, c ∈ cs → -1 ≤ C c) (pre : Int → Change) {r : Nat} (hr : 1 ≤ r) (hl : (rounds A B C cs pre r).last < 0) :
    ∀ c, c ∈ cs → (rounds A B C cs pre r).far (B c) ≤ (rounds A B C cs pre r).far (A c) + C c := by
  obtain ⟨rel, h⟩ := rounds_inv hne hB hC pre r
  intro c hc
  rcases h.done c hc with h1 | h1 | h1
  · cases h1
  · exact h1
  · have h2 := h.le (A c)
    have := (h.lst hr).1 (A c) (by omega)
    omega
theorem rounds_loop {cs : List Change} {n : Nat} (hne : ∀ c, c ∈ cs → A c ≠ B c) (hA : ∀ c, c ∈ cs → 0 ≤ A c ∧ A c < (n : Int)) (hB : ∀ c, c ∈ cs → 0 ≤ B c ∧ B c < (n : Int)) (hC : ∀ c, c ∈ cs → -1 ≤ C c) (pre : Int → Change) (hl : 0 ≤ (rounds A B C cs pre (n + 1)).last) :
    let s := rounds A B C cs pre (n + 1)
    (∀ j, s.pre (iterP (pred A s) j s.last) ∈ cs ∧ B (s.pre (iterP (pred A s) j s.last)) = iterP (pred A s) j s.last) ∧
    ∃ k, 0 < k ∧ k ≤ n ∧ iterP (pred A s) k (iterP (pred A s) n s.last) = iterP (pred A s) n s.last ∧ (∀ j, 0 < j → j < k → iterP (pred A s) j (iterP (pred A s) n s.last) ≠ iterP (pred A s) n s.last) ∧
      sumTo (fun j => C (s.pre (iterP (pred A s) j (iterP (pred A s) n s.last)))) k < 0 := by
  intro s
  obtain ⟨rel, h⟩ := rounds_inv hne (fun c hc => (hB c hc).1) hC pre (n + 1)
  change Inv A B C cs (n + 1) [] rel _ s at h
  generalize hp : pred A s = p
  have hrl : rel s.last = n + 1 := (h.lst (by omega)).2 hl
  have hrel : ∀ j, j ≤ n → n + 1 - j ≤ rel (iterP p j s.last) := by
    intro j
    induction j with
    | zero => intro _; show _ ≤ rel s.last; omega
    | succ j ih =>
      intro hj
      have h1 := ih (by omega)
      obtain ⟨_, _, _, h2⟩ := h.pc (iterP p j s.last) (by omega)
      rw [iterP_succ, ← hp]
      show _ ≤ rel (A (s.pre _))
      rw [hp]
      omega
  have hin : ∀ j, j ≤ n → s.pre (iterP p j s.last) ∈ cs ∧ B (s.pre (iterP p j s.last)) = iterP p j s.last := fun j hj => by
    have h1 := hrel j hj
    obtain ⟨h2, h3, _, _⟩ := h.pc (iterP p j s.last) (by omega)
    exact ⟨h2, h3⟩
  obtain ⟨i, j, hij, hj, he⟩ := pig_fun (n := n) (fun j => iterP p j s.last) (fun j hj => by
    obtain ⟨h1, h2⟩ := hin j hj
    have := hB _ h1
    rw [h2] at this
    exact this)
  change iterP p i s.last = iterP p j s.last at he
  have hall : ∀ m, ∃ m', m' ≤ n ∧ iterP p m s.last = iterP p m' s.last := by
    intro m
    induction m using Nat.strongRecOn with
    | _ m ih =>
      by_cases hm : m ≤ n
      · exact ⟨m, hm, rfl⟩
      · obtain ⟨m', h1, h2⟩ := ih (m - (j - i)) (by omega)
        refine ⟨m', h1, ?_⟩
        rw [← h2]
        have e1 : m = (m - j) + j := by omega
        have e2 : m - (j - i) = (m - j) + i := by omega
        rw [e2, iterP_add, he, ← iterP_add, ← e1]
  have hrel' : ∀ m, 1 ≤ rel (iterP p m s.last) := fun m => by
    obtain ⟨m', h1, h2⟩ := hall m
    rw [h2]
    have := hrel m' h1
    omega
  have hin' : ∀ m, s.pre (iterP p m s.last) ∈ cs ∧ B (s.pre (iterP p m s.last)) = iterP p m s.last := fun m => by
    obtain ⟨m', h1, h2⟩ := hall m
    rw [h2]
    exact hin m' h1
  refine ⟨hin', ?_⟩
  have hper : iterP p (j - i) (iterP p n s.last) = iterP p n s.last := by
    rw [← iterP_add]
    have e1 : j - i + n = (n - i) + j := by omega
    have e2 : n = (n - i) + i := by omega
    rw [e1, iterP_add, ← he, ← iterP_add, ← e2]
  obtain ⟨k, ⟨hk0, hk1⟩, hk2⟩ := exists_least (P := fun k => 0 < k ∧ iterP p k (iterP p n s.last) = iterP p n s.last) ⟨j - i, by omega, hper⟩
  have hkle : k ≤ j - i := by
    by_cases hle : k ≤ j - i
    · exact hle
    · exact absurd ⟨by omega, hper⟩ (hk2 (j - i) (by omega))
  refine ⟨k, hk0, by omega, hk1, fun m hm hmk e => hk2 m hmk ⟨hm, e⟩, ?_⟩
  have hr2 : ∀ m, 1 ≤ rel (iterP p m (iterP p n s.last)) := fun m => by rw [← iterP_add]; exact hrel' _
  have hst := h.strict (iterP p n s.last) k hk0 (fun i _ => by rw [hp]; exact hr2 i) (by rw [hp]; exact hk1)
  rw [hp] at hst
  obtain ⟨z, hz, hlt⟩ := hst
  have := sumTo_lt (k := k) (f := fun j => C (s.pre (iterP p j (iterP p n s.last)))) (g := fun j => s.far (iterP p j (iterP p n s.last)) - s.far (iterP p (j + 1) (iterP p n s.last))) (fun m _ => by
    obtain ⟨_, _, h3, _⟩ := h.pc _ (hr2 m)
    have e : A (s.pre (iterP p m (iterP p n s.last))) = iterP p (m + 1) (iterP p n s.last) := by
      rw [iterP_succ, ← hp]; rfl
    rw [e] at h3
    omega) ⟨z, hz, by omega⟩
  rw [sumTo_tele (fun j => s.far (iterP p j (iterP p n s.last))), hk1] at this
  have e0 : iterP p 0 (iterP p n s.last) = iterP p n s.last := rfl
  rw [e0] at this
  omega
end
end Go.Sp

namespace Go.Sp
structure BS where
  met : Int → Bool
  pre : Int → Change
section
variable (A B : Change → Int)
def visit (s : BS) (c : Change) : BS := if s.met (A c) = true ∧ s.met (B c) = false then ⟨upd s.met (B c) true, upd s.pre (B c) c⟩ else s
structure BInv (cs : List Change) (src : Int) (d : Int → Nat) (N : Nat) (s : BS) : Prop where
  srcm : s.met src = true
  dle : ∀ x, d x ≤ N
  pc : ∀ x, s.met x = true → x ≠ src → s.pre x ∈ cs ∧ B (s.pre x) = x ∧ s.met (A (s.pre x)) = true ∧ d (A (s.pre x)) < d x
variable {A B}
theorem visit_mono (s : BS) (c : Change) : ∀ x, s.met x = true → (visit A B s c).met x = true := fun x hx => by
  unfold visit
  split
  · simp only [upd]; split <;> simp [hx]
  · exact hx
theorem visit_done (s : BS) (c : Change) (h : s.met (A c) = true) : (visit A B s c).met (B c) = true := by
  unfold visit
  split
  · simp [upd]
  · rename_i h2
    cases hb : s.met (B c) with
    | true => rfl
    | false => exact absurd ⟨h, hb⟩ h2
theorem BInv.step {cs : List Change} {src : Int} {d : Int → Nat} {N : Nat} {s : BS} (h : BInv A B cs src d N s) {c : Change} (hc : c ∈ cs) : ∃ d', BInv A B cs src d' (N + 1) (visit A B s c) := by
  unfold visit
  split
  · rename_i hif
    obtain ⟨h1, h2⟩ := hif
    have hsrc : src ≠ B c := fun e => by rw [← e, h.srcm] at h2; cases h2
    have hAB : A c ≠ B c := fun e => by rw [e, h2] at h1; cases h1
    refine ⟨fun x => if x = B c then d (A c) + 1 else d x, (by show upd s.met (B c) true src = true; rw [upd_ne hsrc]; exact h.srcm), fun x => ?_, fun x hx hxs => ?_⟩
    · have := h.dle (A c); have := h.dle x
      show (if x = B c then d (A c) + 1 else d x) ≤ N + 1
      split <;> omega
    · simp only at hx ⊢
      by_cases hxb : x = B c
      · subst hxb
        rw [upd_same, upd_ne hAB, if_neg hAB, if_pos rfl]
        exact ⟨hc, rfl, h1, Nat.lt_succ_self _⟩
      · rw [upd_ne hxb] at hx ⊢
        rw [if_neg hxb]
        obtain ⟨g1, g2, g3, g4⟩ := h.pc x hx hxs
        have hne : A (s.pre x) ≠ B c := fun e => by rw [e, h2] at g3; cases g3
        rw [upd_ne hne, if_neg hne]
        exact ⟨g1, g2, g3, g4⟩
  · exact ⟨d, h.srcm, fun x => by have := h.dle x; omega, h.pc⟩
theorem BInv.fold {cs : List Change} {src : Int} : ∀ (todo : List Change), (∀ c, c ∈ todo → c ∈ cs) → ∀ {d : Int → Nat} {N : Nat} {s : BS}, BInv A B cs src d N s → ∃ d', BInv A B cs src d' (N + todo.length) (todo.foldl (visit A B) s)
  | [], _, d, N, s, h => ⟨d, h⟩
  | c :: todo, ht, d, N, s, h => by
    obtain ⟨d1, h1⟩ := h.step (ht c (by simp))
    obtain ⟨d2, h2⟩ := BInv.fold todo (fun x hx => ht x (by simp [hx])) h1
    exact ⟨d2, by rw [List.length_cons, show N + (todo.length + 1) = N + 1 + todo.length by omega]; exact h2⟩
theorem fold_mono : ∀ (todo : List Change) (s : BS) (x : Int), s.met x = true → (todo.foldl (visit A B) s).met x = true
  | [], _, _, h => h
  | c :: todo, s, x, h => fold_mono todo _ x (visit_mono s c x h)
theorem fold_done : ∀ (todo : List Change) (s : BS) (c : Change), c ∈ todo → s.met (A c) = true → (todo.foldl (visit A B) s).met (B c) = true
  | [], _, _, h, _ => by cases h
  | d :: todo, s, c, h, ha => by
    rcases List.mem_cons.1 h with rfl | h
    · exact fold_mono todo _ _ (visit_done s c ha)
    · exact fold_done todo _ c h (visit_mono s d _ ha)
theorem BInv.back {cs : List Change} {src : Int} {d : Int → Nat} {N : Nat} {s : BS} (h : BInv A B cs src d N s) {to : Int} (ht : s.met to = true) :
    let p := fun x => A (s.pre x)
    ∃ k, k ≤ N ∧ iterP p k to = src ∧ (∀ j, j < k → iterP p j to ≠ src ∧ s.pre (iterP p j to) ∈ cs ∧ B (s.pre (iterP p j to)) = iterP p j to) ∧ (∀ i j, i < j → j ≤ k → d (iterP p j to) < d (iterP p i to)) := by
  intro p
  have key2 : ∀ n, ∀ x, d x ≤ n → s.met x = true → ∃ k, k ≤ d x ∧ iterP p k x = src ∧ (∀ j, j < k → iterP p j x ≠ src ∧ s.pre (iterP p j x) ∈ cs ∧ B (s.pre (iterP p j x)) = iterP p j x) ∧ (∀ i j, i < j → j ≤ k → d (iterP p j x) < d (iterP p i x)) := by
    intro n
    induction n with
    | zero =>
      intro x hx hm
      by_cases hxs : x = src
      · exact ⟨0, Nat.zero_le _, hxs, fun j hj => by omega, fun i j hij hj => by omega⟩
      · obtain ⟨_, _, _, h4⟩ := h.pc x hm hxs
        omega
    | succ n ih =>
      intro x hx hm
      by_cases hxs : x = src
      · exact ⟨0, Nat.zero_le _, hxs, fun j hj => by omega, fun i j hij hj => by omega⟩
      · obtain ⟨h1, h2, h3, h4⟩ := h.pc x hm hxs
        obtain ⟨k, g1, g2, g3, g4⟩ := ih (p x) (by show d (A (s.pre x)) ≤ n; omega) h3
        refine ⟨k + 1, by have : d (p x) = d (A (s.pre x)) := rfl; omega, g2, fun j hj => ?_, fun i j hij hj => ?_⟩
        · cases j with
          | zero => exact ⟨hxs, h1, h2⟩
          | succ j => exact g3 j (by omega)
        · cases j with
          | zero => omega
          | succ j =>
            cases i with
            | zero =>
              show d (iterP p j (p x)) < d x
              cases j with
              | zero => exact h4
              | succ j =>
                have := g4 0 (j + 1) (by omega) (by omega)
                have e : d (iterP p 0 (p x)) = d (A (s.pre x)) := rfl
                omega
            | succ i => exact g4 i j (by omega) (by omega)
  obtain ⟨k, h1, h2, h3, h4⟩ := key2 (d to) to (Nat.le_refl _) ht
  exact ⟨k, Nat.le_trans h1 (h.dle to), h2, h3, h4⟩
end
end Go.Sp

namespace Go.Sp
def wy (l : List Wy) (c : Change) : Wy := l.getD c.way.toNat default
def eA (l : List Wy) (c : Change) : Int := if c.more = true then (wy l c).fr else (wy l c).dst
def eB (l : List Wy) (c : Change) : Int := if c.more = true then (wy l c).dst else (wy l c).fr
def eC (l : List Wy) (c : Change) : Int := if c.more = true then (wy l c).cost else -(wy l c).cost
def rm (l : List Wy) (c : Change) : Int := if c.more = true then (wy l c).hi - (wy l c).goes else (wy l c).goes - min (wy l c).lo (wy l c).goes
def adjW (w : Wy) (more : Bool) (m : Int) : Wy := { w with goes := if more = true then w.goes + m else w.goes - m }
def adj (l : List Wy) (c : Change) (m : Int) : List Wy := l.set c.way.toNat (adjW (wy l c) c.more m)
def isWay (l : List Wy) (c : Change) : Prop := 0 ≤ c.way ∧ c.way < (l.length : Int)
def res (l : List Wy) : List Change := (List.range l.length).flatMap fun i : Nat => ([⟨(i : Int), true⟩, ⟨(i : Int), false⟩] : List Change).filter fun c => decide (0 < rm l c)
structure WyOK (w : Wy) : Prop where
  fr : 0 ≤ w.fr ∧ w.fr < 12
  dst : 0 ≤ w.dst ∧ w.dst < 12
  ne : w.fr ≠ w.dst
  cost : -1 ≤ w.cost ∧ w.cost ≤ 1
  lo : 0 ≤ w.lo
  hi : w.lo ≤ w.hi ∧ w.hi ≤ 1000000
  goes : 0 ≤ w.goes ∧ w.goes ≤ w.hi
def NetOK (l : List Wy) : Prop := l.length ≤ 41 ∧ ∀ w, w ∈ l → WyOK w
theorem wy_mem {l : List Wy} {c : Change} (h : isWay l c) : wy l c ∈ l := by
  obtain ⟨h1, h2⟩ := h
  unfold wy
  rw [List.getD_eq_getElem?_getD, List.getElem?_eq_getElem (by omega)]
  exact List.getElem_mem _
theorem wy_get {l : List Wy} {c : Change} (h : isWay l c) : l[c.way.toNat]? = some (wy l c) := by
  obtain ⟨h1, h2⟩ := h
  unfold wy
  rw [List.getD_eq_getElem?_getD, List.getElem?_eq_getElem (by omega)]
  rfl
theorem res_mem {l : List Wy} {c : Change} : c ∈ res l ↔ isWay l c ∧ 0 < rm l c := by
  unfold res isWay
  simp only [List.mem_flatMap, List.mem_range, List.mem_filter, List.mem_cons, List.not_mem_nil, or_false, decide_eq_true_eq]
  constructor
  · rintro ⟨i, hi, h1, h2⟩
    rcases h1 with rfl | rfl
    · exact ⟨⟨by simp, by simpa using hi⟩, h2⟩
    · exact ⟨⟨by simp, by simpa using hi⟩, h2⟩
  · rintro ⟨⟨h1, h2⟩, h3⟩
    refine ⟨c.way.toNat, by omega, ?_, h3⟩
    obtain ⟨i, m⟩ := c
    simp only at h1 h2 ⊢
    have e : ((i.toNat : Nat) : Int) = i := by omega
    rw [e]
    cases m <;> simp
section same
variable {l l' : List Wy}
theorem same_get (h : Same l l') (i : Nat) : (l[i]?).map base = (l'[i]?).map base := by
  have := congrArg (fun z : List Wy => z[i]?) h
  simpa [List.getElem?_map] using this
theorem same_wy (h : Same l l') (c : Change) : base (wy l c) = base (wy l' c) := by
  have := same_get h c.way.toNat
  unfold wy
  rw [List.getD_eq_getElem?_getD, List.getD_eq_getElem?_getD]
  cases h1 : l[c.way.toNat]? with
  | none =>
    cases h2 : l'[c.way.toNat]? with
    | none => rfl
    | some w => rw [h1, h2] at this; cases this
  | some v =>
    cases h2 : l'[c.way.toNat]? with
    | none => rw [h1, h2] at this; cases this
    | some w => rw [h1, h2] at this; simpa using this
theorem same_eA (h : Same l l') (c : Change) : eA l c = eA l' c := by
  obtain ⟨h1, h2, _⟩ := base_eq (same_wy h c)
  unfold eA; rw [h1, h2]
theorem same_eB (h : Same l l') (c : Change) : eB l c = eB l' c := by
  obtain ⟨h1, h2, _⟩ := base_eq (same_wy h c)
  unfold eB; rw [h1, h2]
theorem same_eC (h : Same l l') (c : Change) : eC l c = eC l' c := by
  obtain ⟨_, _, _, _, h1⟩ := base_eq (same_wy h c)
  unfold eC; rw [h1]
theorem set_same {i : Nat} {w v : Wy} (hi : l[i]? = some w) (hb : base v = base w) : Same l (l.set i v) := by
  unfold Same
  apply List.ext_getElem?
  intro j
  rw [List.getElem?_map, List.getElem?_map, List.getElem?_set]
  split
  · rename_i hj; subst hj
    rw [hi]
    split
    · simp [hb]
    · rename_i hlt; have := (List.getElem?_eq_some_iff.1 hi).1; omega
  · rfl
end same
theorem adj_same {l : List Wy} {c : Change} (h : isWay l c) (m : Int) : Same l (adj l c m) := set_same (wy_get h) (by simp [base, adjW])
theorem sum_set (f : Wy → Int) : ∀ (l : List Wy) (i : Nat) (w v : Wy), l[i]? = some w → sumI f (l.set i v) = sumI f l + (f v - f w)
  | [], i, w, v, h => by simp at h
  | x :: l, 0, w, v, h => by
    simp only [List.getElem?_cons_zero, Option.some.injEq] at h
    subst h
    simp only [List.set_cons_zero, sumI]; omega
  | x :: l, i + 1, w, v, h => by
    simp only [List.getElem?_cons_succ] at h
    simp only [List.set_cons_succ, sumI]
    rw [sum_set f l i w v h]; omega
theorem adj_bal {l : List Wy} {c : Change} (h : isWay l c) (m : Int) (φ : Int → Int) : bal φ (adj l c m) = bal φ l + m * (φ (eB l c) - φ (eA l c)) := by
  unfold bal adj
  rw [sum_set _ l _ _ _ (wy_get h)]
  unfold eA eB adjW
  cases c.more with
  | true => simp only [if_true, Int.mul_add, Int.mul_comm m]; omega
  | false =>
    simp only [Bool.false_eq_true, if_false, Int.mul_sub, Int.sub_mul, Int.mul_comm m]; omega
theorem adj_costs {l : List Wy} {c : Change} (h : isWay l c) (m : Int) : costs (adj l c m) = costs l + m * eC l c := by
  unfold costs adj
  rw [sum_set _ l _ _ _ (wy_get h)]
  unfold eC adjW
  cases c.more with
  | true => simp only [if_true, Int.mul_add, Int.mul_comm m]; omega
  | false => simp only [Bool.false_eq_true, if_false, Int.mul_sub, Int.mul_neg, Int.neg_mul, Int.mul_comm m]; omega
theorem adj_other {l : List Wy} {c d : Change} {m : Int} (hd : 0 ≤ d.way) (hc : 0 ≤ c.way) (h : d.way ≠ c.way) : wy (adj l c m) d = wy l d := by
  unfold wy adj
  rw [List.getD_eq_getElem?_getD, List.getD_eq_getElem?_getD, List.getElem?_set_ne (by omega)]
theorem adj_at {l : List Wy} {c : Change} {m : Int} (h : isWay l c) : (adj l c m)[c.way.toNat]? = some (adjW (wy l c) c.more m) := by
  unfold adj
  obtain ⟨h1, h2⟩ := h
  rw [List.getElem?_set_self (by omega)]
theorem adj_len {l : List Wy} {c : Change} {m : Int} : (adj l c m).length = l.length := by simp [adj]
theorem adj_isWay {l : List Wy} {c d : Change} {m : Int} (h : isWay l d) : isWay (adj l c m) d := by unfold isWay at *; rw [adj_len]; exact h
theorem adj_ok {l : List Wy} {c : Change} {m : Int} (hl : NetOK l) (h : isWay l c) (h0 : 0 ≤ m) (hm : m ≤ rm l c) : NetOK (adj l c m) := by
  refine ⟨by rw [adj_len]; exact hl.1, fun w hw => ?_⟩
  rcases List.mem_or_eq_of_mem_set hw with hw | rfl
  · exact hl.2 w hw
  · have hk := hl.2 _ (wy_mem h)
    unfold rm at hm
    have hg := hk.goes; have hlo := hk.lo; have hhi := hk.hi
    refine ⟨hk.fr, hk.dst, hk.ne, hk.cost, hk.lo, hk.hi, ?_⟩
    unfold adjW
    cases hmo : c.more with
    | true => simp only [hmo, if_true] at hm ⊢; omega
    | false => simp only [hmo, Bool.false_eq_true, if_false] at hm ⊢; omega
theorem adj_least {l : List Wy} {c : Change} {m : Int} (h : isWay l c) (h0 : 0 ≤ m) (hm : m ≤ rm l c) (i : Nat) {w v : Wy} (hw : l[i]? = some w) (hv : (adj l c m)[i]? = some v) (hge : w.lo ≤ w.goes) : v.lo ≤ v.goes := by
  by_cases hi : i = c.way.toNat
  · subst hi
    rw [adj_at h] at hv
    rw [wy_get h] at hw
    obtain rfl := Option.some.inj hv
    obtain rfl := Option.some.inj hw
    unfold rm at hm
    unfold adjW
    cases hmo : c.more with
    | true => simp only [hmo, if_true] at hm ⊢; omega
    | false => simp only [hmo, Bool.false_eq_true, if_false] at hm ⊢; omega
  · unfold adj at hv
    rw [List.getElem?_set_ne (fun e => hi e.symm), hw] at hv
    obtain rfl := Option.some.inj hv
    exact hge
def makeL (l : List Wy) (L : List Change) (m : Int) : List Wy := L.foldl (fun l c => adj l c m) l
structure MakeOK (l : List Wy) (L : List Change) (m : Int) : Prop where
  way : ∀ c, c ∈ L → isWay l c
  room : ∀ c, c ∈ L → m ≤ rm l c
  once : L.Pairwise fun c d => c.way ≠ d.way
theorem MakeOK.tail {l : List Wy} {c : Change} {L : List Change} {m : Int} (h : MakeOK l (c :: L) m) : MakeOK (adj l c m) L m := by
  obtain ⟨h1, h2⟩ := List.pairwise_cons.1 h.once
  have hc := h.way c (by simp)
  refine ⟨fun d hd => adj_isWay (h.way d (by simp [hd])), fun d hd => ?_, h2⟩
  have hw := h.way d (by simp [hd])
  have := h.room d (by simp [hd])
  unfold rm at this ⊢
  rw [adj_other hw.1 hc.1 (fun e => h1 d hd e.symm)]
  exact this
theorem makeL_same : ∀ {l : List Wy} (L : List Change) {m : Int}, MakeOK l L m → Same l (makeL l L m)
  | l, [], m, h => Same.refl l
  | l, c :: L, m, h => (adj_same (h.way c (by simp)) m).trans (makeL_same L h.tail)
theorem makeL_ok : ∀ {l : List Wy} (L : List Change) {m : Int}, NetOK l → 0 ≤ m → MakeOK l L m → NetOK (makeL l L m)
  | l, [], m, hl, _, h => hl
  | l, c :: L, m, hl, h0, h => makeL_ok L (adj_ok hl (h.way c (by simp)) h0 (h.room c (by simp))) h0 h.tail
theorem makeL_bal (φ : Int → Int) : ∀ {l : List Wy} (L : List Change) {m : Int}, MakeOK l L m → bal φ (makeL l L m) = bal φ l + m * sumI (fun c => φ (eB l c) - φ (eA l c)) L
  | l, [], m, h => by simp [makeL, sumI]
  | l, c :: L, m, h => by
    have ih := makeL_bal φ L h.tail
    have hs := adj_same (h.way c (by simp)) m
    show bal φ (makeL (adj l c m) L m) = _
    rw [ih, adj_bal (h.way c (by simp)) m φ]
    simp only [sumI, Int.mul_add]
    rw [sumI_congr (g := fun c => φ (eB l c) - φ (eA l c)) (fun d _ => by rw [same_eB hs, same_eA hs])]
    omega
theorem makeL_costs : ∀ {l : List Wy} (L : List Change) {m : Int}, MakeOK l L m → costs (makeL l L m) = costs l + m * sumI (fun c => eC l c) L
  | l, [], m, h => by simp [makeL, sumI]
  | l, c :: L, m, h => by
    have ih := makeL_costs L h.tail
    have hs := adj_same (h.way c (by simp)) m
    show costs (makeL (adj l c m) L m) = _
    rw [ih, adj_costs (h.way c (by simp)) m]
    simp only [sumI, Int.mul_add]
    rw [sumI_congr (g := fun c => eC l c) (fun d _ => by rw [same_eC hs])]
    omega
theorem makeL_least : ∀ {l : List Wy} (L : List Change) {m : Int}, 0 ≤ m → MakeOK l L m → ∀ (i : Nat) (w v : Wy), l[i]? = some w → (makeL l L m)[i]? = some v → w.lo ≤ w.goes → v.lo ≤ v.goes
  | l, [], m, _, h, i, w, v, hw, hv, hge => by
    have : l[i]? = some v := hv
    rw [hw] at this; cases this; exact hge
  | l, c :: L, m, h0, h, i, w, v, hw, hv, hge => by
    have hc := h.way c (by simp)
    have hlt : i < (adj l c m).length := by rw [adj_len]; exact (List.getElem?_eq_some_iff.1 hw).1
    have hu : (adj l c m)[i]? = some (adj l c m)[i] := List.getElem?_eq_getElem hlt
    exact makeL_least L h0 h.tail i _ v hu hv (adj_least hc h0 (h.room c (by simp)) i hw hu hge)
theorem makeL_at : ∀ {l : List Wy} (L : List Change) {m : Int}, MakeOK l L m → ∀ c, c ∈ L → (makeL l L m)[c.way.toNat]? = some (adjW (wy l c) c.more m)
  | l, [], m, h, c, hc => by cases hc
  | l, d :: L, m, h, c, hc => by
    obtain ⟨h1, h2⟩ := List.pairwise_cons.1 h.once
    have hd := h.way d (by simp)
    rcases List.mem_cons.1 hc with rfl | hc
    · have key : ∀ (L : List Change) (l : List Wy), (∀ x, x ∈ L → 0 ≤ x.way ∧ c.way ≠ x.way) → 0 ≤ c.way → (makeL l L m)[c.way.toNat]? = l[c.way.toNat]? := by
        intro L
        induction L with
        | nil => intro l _ _; rfl
        | cons x L ih =>
          intro l hx h0
          have := hx x (by simp)
          show (makeL (adj l x m) L m)[c.way.toNat]? = _
          rw [ih _ (fun y hy => hx y (by simp [hy])) h0]
          unfold adj
          rw [List.getElem?_set_ne (by omega)]
      show (makeL (adj l c m) L m)[c.way.toNat]? = _
      rw [key L _ (fun x hx => ⟨(h.way x (by simp [hx])).1, h1 x hx⟩) hd.1, adj_at hd]
    · show (makeL (adj l d m) L m)[c.way.toNat]? = _
      rw [makeL_at L h.tail c hc, adj_other (h.way c (by simp [hc])).1 hd.1 (fun e => h1 c hc e.symm)]
def mostL (l : List Wy) (L : List Change) (m : Int) : Int := L.foldl (fun m c => min m (rm l c)) m
theorem mostL_le (l : List Wy) : ∀ (L : List Change) (m : Int), mostL l L m ≤ m ∧ ∀ c, c ∈ L → mostL l L m ≤ rm l c
  | [], m => ⟨Int.le_refl _, fun _ h => by cases h⟩
  | d :: L, m => by
    obtain ⟨h1, h2⟩ := mostL_le l L (min m (rm l d))
    refine ⟨by show mostL l L (min m (rm l d)) ≤ m; omega, fun c hc => ?_⟩
    show mostL l L (min m (rm l d)) ≤ _
    rcases List.mem_cons.1 hc with rfl | hc
    · omega
    · exact h2 c hc
theorem mostL_pos (l : List Wy) : ∀ (L : List Change) (m : Int), 0 < m → (∀ c, c ∈ L → 0 < rm l c) → 0 < mostL l L m
  | [], m, h, _ => h
  | d :: L, m, h, hr => mostL_pos l L _ (by have := hr d (by simp); show 0 < min m (rm l d); omega) (fun c hc => hr c (by simp [hc]))
end Go.Sp

namespace Go.Sp
def chainL (pre : Int → Change) (p : Int → Int) (y : Int) (k : Nat) : List Change := (List.range k).map fun j => pre (iterP p j y)
theorem sumI_range {α : Type} (f : α → Int) (g : Nat → α) : ∀ k, sumI f ((List.range k).map g) = sumTo (fun j => f (g j)) k
  | 0 => rfl
  | k + 1 => by
    rw [List.range_succ, List.map_append, sumI_append, sumI_range f g k]
    simp [sumI, sumTo]
theorem chain_sum {l : List Wy} {pre : Int → Change} {y : Int} {k : Nat} (hB : ∀ j, j < k → eB l (pre (iterP (fun x => eA l (pre x)) j y)) = iterP (fun x => eA l (pre x)) j y) (φ : Int → Int) :
    sumI (fun c => φ (eB l c) - φ (eA l c)) (chainL pre (fun x => eA l (pre x)) y k) = φ y - φ (iterP (fun x => eA l (pre x)) k y) := by
  unfold chainL
  rw [sumI_range]
  have e : ∀ j, j < k → φ (eB l (pre (iterP (fun x => eA l (pre x)) j y))) - φ (eA l (pre (iterP (fun x => eA l (pre x)) j y))) = (fun j => φ (iterP (fun x => eA l (pre x)) j y)) j - (fun j => φ (iterP (fun x => eA l (pre x)) j y)) (j + 1) := fun j hj => by
    simp only
    rw [hB j hj, iterP_succ]
  rw [sumTo_congr e, sumTo_tele (fun j => φ (iterP (fun x => eA l (pre x)) j y))]
  rfl
theorem same_way {l : List Wy} {c d : Change} (h : c.way = d.way) : c = d ∨ (eA l c = eB l d ∧ eB l c = eA l d ∧ eC l c = - eC l d) := by
  obtain ⟨i, m⟩ := c
  obtain ⟨j, n⟩ := d
  simp only at h
  subst h
  cases m <;> cases n
  · exact .inl rfl
  · right; simp [eA, eB, eC, wy]
  · right; simp [eA, eB, eC, wy]
  · exact .inl rfl
theorem chain_once {l : List Wy} {pre : Int → Change} {y : Int} {k : Nat} (hB : ∀ j, j < k → eB l (pre (iterP (fun x => eA l (pre x)) j y)) = iterP (fun x => eA l (pre x)) j y)
    (hne : ∀ i j, i < j → j < k → iterP (fun x => eA l (pre x)) i y ≠ iterP (fun x => eA l (pre x)) j y)
    (hop : ∀ i j, i < j → j < k → iterP (fun x => eA l (pre x)) (i + 1) y = iterP (fun x => eA l (pre x)) j y → iterP (fun x => eA l (pre x)) (j + 1) y = iterP (fun x => eA l (pre x)) i y → eC l (pre (iterP (fun x => eA l (pre x)) i y)) = - eC l (pre (iterP (fun x => eA l (pre x)) j y)) → False) :
    (chainL pre (fun x => eA l (pre x)) y k).Pairwise fun c d => c.way ≠ d.way := by
  unfold chainL
  rw [List.pairwise_map, List.pairwise_iff_getElem]
  intro i j hi hj hij
  simp only [List.getElem_range, List.length_range] at hi hj ⊢
  intro e
  rcases same_way (l := l) e with h | ⟨h1, h2, h3⟩
  · refine hne i j hij hj ?_
    rw [← hB i (by omega), ← hB j hj, h]
  · refine hop i j hij hj ?_ ?_ h3
    · rw [iterP_succ]
      rw [hB j hj] at h1
      exact h1
    · rw [iterP_succ]
      rw [hB i (by omega)] at h2
      exact h2.symm
theorem pairwise_append_one {α : Type} {R : α → α → Prop} {l : List α} {x : α} (h : l.Pairwise R) (hx : ∀ y, y ∈ l → R y x) : (l ++ [x]).Pairwise R := by
  rw [List.pairwise_append]
  exact ⟨h, List.pairwise_singleton _ _, fun y hy z hz => by rw [List.mem_singleton] at hz; subst hz; exact hx y hy⟩
theorem path_make {l : List Wy} (hl : NetOK l) {i : Nat} (hi : i < l.length) (hlow : (wy l ⟨i, true⟩).goes < (wy l ⟨i, true⟩).lo) {pre : Int → Change} {k : Nat} {d : Int → Nat}
    (hsrc : iterP (fun x => eA l (pre x)) k (wy l ⟨i, true⟩).fr = (wy l ⟨i, true⟩).dst)
    (hch : ∀ j, j < k → iterP (fun x => eA l (pre x)) j (wy l ⟨i, true⟩).fr ≠ (wy l ⟨i, true⟩).dst ∧ pre (iterP (fun x => eA l (pre x)) j (wy l ⟨i, true⟩).fr) ∈ res l ∧ eB l (pre (iterP (fun x => eA l (pre x)) j (wy l ⟨i, true⟩).fr)) = iterP (fun x => eA l (pre x)) j (wy l ⟨i, true⟩).fr)
    (hd : ∀ i' j, i' < j → j ≤ k → d (iterP (fun x => eA l (pre x)) j (wy l ⟨i, true⟩).fr) < d (iterP (fun x => eA l (pre x)) i' (wy l ⟨i, true⟩).fr)) (need : Int) (hneed : 0 < need) :
    let L := chainL pre (fun x => eA l (pre x)) (wy l ⟨i, true⟩).fr k ++ [⟨(i : Int), true⟩]
    let m := mostL l L need
    0 < m ∧ m ≤ need ∧ MakeOK l L m ∧ (∀ φ : Int → Int, sumI (fun c => φ (eB l c) - φ (eA l c)) L = 0) := by
  intro L m
  have hway : isWay l ⟨(i : Int), true⟩ := ⟨by simp, by simpa using hi⟩
  have hk := hl.2 _ (wy_mem hway)
  have hmem : ∀ c, c ∈ L → isWay l c ∧ 0 < rm l c := fun c hc => by
    rcases List.mem_append.1 hc with hc | hc
    · obtain ⟨j, hj, rfl⟩ := List.mem_map.1 hc
      exact res_mem.1 (hch j (by simpa using hj)).2.1
    · rw [List.mem_singleton] at hc
      subst hc
      refine ⟨hway, ?_⟩
      simp only [rm, if_true]
      have := hk.hi; omega
  obtain ⟨m1, m2⟩ := mostL_le l L need
  refine ⟨mostL_pos l L need hneed (fun c hc => (hmem c hc).2), m1, ⟨fun c hc => (hmem c hc).1, m2, ?_⟩, fun φ => ?_⟩
  · refine pairwise_append_one (chain_once (fun j hj => (hch j hj).2.2) (fun a b hab hb e => ?_) (fun a b hab hb h1 h2 _ => ?_)) (fun c hc e => ?_)
    · have := hd a b hab (by omega)
      rw [e] at this; omega
    · have g1 := hd a b hab (by omega)
      have g2 := hd b (b + 1) (by omega) (by omega)
      rw [h2] at g2; omega
    · obtain ⟨j, hj, rfl⟩ := List.mem_map.1 hc
      have hj' : j < k := by simpa using hj
      obtain ⟨h1, h2, h3⟩ := hch j hj'
      have hr := (res_mem.1 h2).2
      generalize pre (iterP (fun x => eA l (pre x)) j (wy l ⟨i, true⟩).fr) = c at h2 h3 hr e
      obtain ⟨w, mo⟩ := c
      simp only at e
      subst e
      cases mo with
      | true =>
        have : eB l ⟨(i : Int), true⟩ = (wy l ⟨(i : Int), true⟩).dst := by simp [eB]
        rw [this] at h3
        exact h1 h3.symm
      | false =>
        have e2 : wy l ⟨(i : Int), false⟩ = wy l ⟨(i : Int), true⟩ := rfl
        simp only [rm, Bool.false_eq_true, if_false, e2] at hr
        omega
  · rw [sumI_append, chain_sum (fun j hj => (hch j hj).2.2) φ, hsrc]
    simp only [sumI, eB, eA, if_true]
    omega
theorem loop_make {l : List Wy} {pre : Int → Change} {y : Int} {k : Nat} (hk : 0 < k) (hch : ∀ j, j < k → pre (iterP (fun x => eA l (pre x)) j y) ∈ res l ∧ eB l (pre (iterP (fun x => eA l (pre x)) j y)) = iterP (fun x => eA l (pre x)) j y)
    (hper : iterP (fun x => eA l (pre x)) k y = y) (hmin : ∀ j, 0 < j → j < k → iterP (fun x => eA l (pre x)) j y ≠ y) (hneg : sumTo (fun j => eC l (pre (iterP (fun x => eA l (pre x)) j y))) k < 0) (need : Int) (hneed : 0 < need) :
    let L := chainL pre (fun x => eA l (pre x)) y k
    let m := mostL l L need
    0 < m ∧ m ≤ need ∧ MakeOK l L m ∧ (∀ φ : Int → Int, sumI (fun c => φ (eB l c) - φ (eA l c)) L = 0) ∧ sumI (fun c => eC l c) L < 0 := by
  intro L m
  have hmem : ∀ c, c ∈ L → isWay l c ∧ 0 < rm l c := fun c hc => by
    obtain ⟨j, hj, rfl⟩ := List.mem_map.1 hc
    exact res_mem.1 (hch j (by simpa using hj)).1
  obtain ⟨m1, m2⟩ := mostL_le l L need
  have hne : ∀ i j, i < j → j < k → iterP (fun x => eA l (pre x)) i y ≠ iterP (fun x => eA l (pre x)) j y := fun i j hij hj e => by
    refine hmin (k - j + i) (by omega) (by omega) ?_
    rw [iterP_add, e, ← iterP_add, show k - j + j = k by omega, hper]
  refine ⟨mostL_pos l L need hneed (fun c hc => (hmem c hc).2), m1, ⟨fun c hc => (hmem c hc).1, m2, ?_⟩, fun φ => ?_, ?_⟩
  · refine chain_once (fun j hj => (hch j hj).2) hne (fun i j hij hj h1 h2 h3 => ?_)
    have e1 : i + 1 = j := by
      by_cases hlt : i + 1 < j
      · exact absurd h1 (hne (i + 1) j hlt hj)
      · omega
    have e2 : j + 1 = k := by
      by_cases hlt : j + 1 < k
      · exact absurd h2.symm (hne i (j + 1) (by omega) hlt)
      · omega
    have e3 : i = 0 := by
      by_cases h0 : i = 0
      · exact h0
      · rw [e2, hper] at h2
        exact absurd h2.symm (hmin i (by omega) (by omega))
    subst e3
    have ek : k = 2 := by omega
    have ej : j = 1 := by omega
    subst ek ej
    simp only [sumTo] at hneg
    omega
  · rw [chain_sum (fun j hj => (hch j hj).2) φ, hper]; omega
  · show sumI (fun c => eC l c) (chainL pre (fun x => eA l (pre x)) y k) < 0
    unfold chainL
    rw [sumI_range]
    exact hneg
end Go.Sp

namespace Go.Gx
theorem addc_eq {a b : Int} (h : -9223372036854775808 ≤ a + b ∧ a + b ≤ 9223372036854775807) : addc a b = some (a + b) := if_pos h
theorem subc_eq {a b : Int} (h : -9223372036854775808 ≤ a - b ∧ a - b ≤ 9223372036854775807) : subc a b = some (a - b) := if_pos h
theorem mulc_eq {a b : Int} (h : -9223372036854775808 ≤ a * b ∧ a * b ≤ 9223372036854775807) : mulc a b = some (a * b) := if_pos h
theorem negc_eq {a : Int} (h : -9223372036854775808 ≤ -a ∧ -a ≤ 9223372036854775807) : negc a = some (-a) := if_pos h
theorem quoc_eq {a b : Int} (h0 : b ≠ 0) (h : -9223372036854775808 ≤ a.tdiv b ∧ a.tdiv b ≤ 9223372036854775807) : quoc a b = some (a.tdiv b) := if_pos ⟨h0, h⟩
theorem remc_eq {a b : Int} (h0 : b ≠ 0) : remc a b = some (a.tmod b) := if_pos h0
theorem ix_eq {α : Type} {l : List α} {i : Int} (d : α) (h0 : 0 ≤ i) (h1 : i < l.length) : ix l i = some (l.getD i.toNat d) := by
  unfold ix
  rw [if_neg (by omega), List.getD_eq_getElem?_getD]
  have : i.toNat < l.length := by omega
  simp [this]
theorem ix_nat {α : Type} {l : List α} {k : Nat} (d : α) (h1 : k < l.length) : ix l (k : Int) = some (l.getD k d) := by
  have := ix_eq (l := l) (i := (k : Int)) d (by omega) (by omega)
  simpa using this
theorem appc_eq {α : Type} {b : Nat} {l m : List α} (h : (l.length + m.length) * b ≤ 140737488355328) : appc b l m = some (l ++ m) := if_pos h
theorem makec_eq {α : Type} {b : Nat} {z : α} {n c : Int} (h : 0 ≤ n ∧ n ≤ c ∧ (b : Int) * c ≤ 140737488355328 ∧ c ≤ 140737488355328) : makec b z n c = some (List.replicate n.toNat z) := if_pos h
@[simp] theorem oc_inl {α β γ : Type} (a : α) (f : α → γ) (g : β → γ) : oc (.inl a) f g = f a := rfl
@[simp] theorem oc_inr {α β γ : Type} (b : β) (f : α → γ) (g : β → γ) : oc (.inr b) f g = g b := rfl

theorem iterM_step {σ β : Type} {f : σ → Option (σ ⊕ β)} {s s' : σ} {N : Nat} (h : f s = some (.inl s')) : iterM (N + 1) f s = iterM N f s' := by simp [iterM, h]
theorem iterM_done {σ β : Type} {f : σ → Option (σ ⊕ β)} {s : σ} {b : β} {N : Nat} (h : f s = some (.inr b)) : iterM (N + 1) f s = some b := by simp [iterM, h]
theorem iterM_inv {σ β : Type} {f : σ → Option (σ ⊕ β)} (Inv : σ → Prop) (μ : σ → Nat) (Q : β → Prop)
    (h : ∀ s, Inv s → (∃ s', f s = some (.inl s') ∧ Inv s' ∧ μ s' < μ s) ∨ ∃ b, f s = some (.inr b) ∧ Q b) : ∀ (N : Nat) (s : σ), μ s < N → Inv s → ∃ b, iterM N f s = some b ∧ Q b
  | 0, _, hN, _ => absurd hN (Nat.not_lt_zero _)
  | N + 1, s, hN, hI => by
    rcases h s hI with ⟨s', h1, h2, h3⟩ | ⟨b, h1, h2⟩
    · rw [iterM_step h1]
      exact iterM_inv Inv μ Q h N s' (by omega) h2
    · exact ⟨b, iterM_done h1, h2⟩
theorem iterM_run {σ β : Type} {f : σ → Option (σ ⊕ β)} (I : Nat → σ) (n : Nat) {b : β} (hs : ∀ k, k < n → f (I k) = some (.inl (I (k + 1)))) (he : f (I n) = some (.inr b)) : ∀ (N : Nat), n < N → iterM N f (I 0) = some b := by
  have key : ∀ (m k N : Nat), k + m = n → m < N → iterM N f (I k) = some b := by
    intro m
    induction m with
    | zero =>
      intro k N hk hN
      obtain ⟨N, rfl⟩ : ∃ N', N = N' + 1 := ⟨N - 1, by omega⟩
      have : k = n := by omega
      subst this
      exact iterM_done he
    | succ m ih =>
      intro k N hk hN
      obtain ⟨N, rfl⟩ : ∃ N', N = N' + 1 := ⟨N - 1, by omega⟩
      rw [iterM_step (hs k (by omega))]
      exact ih (k + 1) N (by omega) (by omega)
  intro N hN
  exact key n 0 N (by omega) hN
theorem iterM_any {ρ : Type} {f : Int → Option (Int ⊕ (Unit ⊕ ρ))} (i0 : Int) (n : Nat) (bad : Nat → Bool) (e : Nat → ρ) (h1 : ∀ k, k < n → f (i0 + (k : Int)) = some (if bad k then .inr (.inr (e k)) else .inl (i0 + (k : Int) + 1))) (h2 : f (i0 + (n : Int)) = some (.inr (.inl ()))) {N : Nat} (hN : n < N) :
    iterM N f i0 = some (match (List.range n).find? bad with | some k => .inr (e k) | none => .inl ()) := by
  have key : ∀ (m k N : Nat), k + m = n → m < N → (∀ j, j < k → bad j = false) → iterM N f (i0 + (k : Int)) = some (match (List.range n).find? bad with | some k => .inr (e k) | none => .inl ()) := by
    intro m
    induction m with
    | zero =>
      intro k N hk hN hb
      obtain ⟨N, rfl⟩ : ∃ N', N = N' + 1 := ⟨N - 1, by omega⟩
      have : k = n := by omega
      subst this
      rw [iterM_done h2]
      have : (List.range k).find? bad = none := by
        rw [List.find?_eq_none]
        intro x hx
        simp [hb x (by simpa using hx)]
      rw [this]
    | succ m ih =>
      intro k N hk hN hb
      obtain ⟨N, rfl⟩ : ∃ N', N = N' + 1 := ⟨N - 1, by omega⟩
      have hk2 := h1 k (by omega)
      cases hbk : bad k with
      | true =>
        rw [hbk] at hk2
        simp only [if_true] at hk2
        rw [iterM_done hk2]
        have : (List.range n).find? bad = some k := by
          rw [List.find?_range_eq_some]
          exact ⟨hbk, by simp; omega, fun j hj => by simp [hb j hj]⟩
        rw [this]
      | false =>
        rw [hbk] at hk2
        simp only [Bool.false_eq_true, if_false] at hk2
        rw [iterM_step hk2]
        have := ih (k + 1) N (by omega) (by omega) (fun j hj => by
          by_cases hjk : j = k
          · subst hjk; exact hbk
          · exact hb j (by omega))
        rw [show i0 + (k : Int) + 1 = i0 + ((k + 1 : Nat) : Int) by push_cast; omega]
        exact this
  have := key n 0 N (by omega) hN (fun j hj => absurd hj (by omega))
  simpa using this
theorem iterM_any0 {ρ : Type} {f : Int → Option (Int ⊕ (Unit ⊕ ρ))} (n : Nat) (bad : Nat → Bool) (e : ρ) (h1 : ∀ k : Nat, k < n → f (k : Int) = some (if bad k then .inr (.inr e) else .inl ((k : Int) + 1))) (h2 : f (n : Int) = some (.inr (.inl ()))) {N : Nat} (hN : n < N) :
    iterM N f 0 = some (if (List.range n).any bad then .inr e else .inl ()) := by
  have := iterM_any 0 n bad (fun _ => e) (fun k hk => by simpa using h1 k hk) (by simpa using h2) hN
  rw [this]
  cases hf : (List.range n).find? bad with
  | none =>
    have : (List.range n).any bad = false := by
      rw [List.any_eq_false]; intro x hx; simpa using List.find?_eq_none.1 hf x hx
    simp [this]
  | some k =>
    have : (List.range n).any bad = true := List.any_eq_true.2 ⟨k, List.mem_of_find?_eq_some hf, List.find?_some hf⟩
    simp [this]
theorem FU_lt2 {n : Nat} (h : n ≤ 9223372036854775807) : n < FU := by unfold FU; omega
theorem FU_lt {n : Nat} (h : n < 1000000000000) : n < FU := by unfold FU; omega
end Go.Gx

namespace Go.Gx
open Go
theorem contains_loop {α : Type} {f : Int → Option (Int ⊕ (Unit ⊕ Int))} (l : List α) (d : α) (bad : α → Bool) (hl : l.length < 1000000000000)
    (h : ∀ k : Nat, k < l.length → f (k : Int) = some (if bad (l.getD k d) = true then .inr (.inr (k : Int)) else .inl ((k : Int) + 1))) (he : f (l.length : Int) = some (.inr (.inl ()))) :
    (((iterM FU f 0).bind fun o => oc o (fun _ => (some (-1) : Option Int)) (fun r => some r)).bind fun t => some (decide (0 ≤ t))) = some (l.any bad) := by
  have key := iterM_any (f := f) 0 l.length (fun k => bad (l.getD k d)) (fun k => (k : Int)) (fun k hk => by
    have := h k hk
    rw [Int.zero_add]
    exact this) (by rw [Int.zero_add]; exact he) (N := FU) (FU_lt hl)
  rw [key]
  cases hf : (List.range l.length).find? (fun k => bad (l.getD k d)) with
  | none =>
    have : l.any bad = false := by
      rw [List.any_eq_false]
      intro x hx
      obtain ⟨i, hi, rfl⟩ := List.getElem_of_mem hx
      have h2 := List.find?_eq_none.1 hf i (by simpa using hi)
      simpa [List.getD_eq_getElem?_getD, hi] using h2
    rw [this]
    rfl
  | some k =>
    have h1 := List.find?_some hf
    have h2 : k < l.length := by simpa using List.mem_of_find?_eq_some hf
    have : l.any bad = true := by
      rw [List.any_eq_true]
      refine ⟨l[k], List.getElem_mem h2, ?_⟩
      simpa [List.getD_eq_getElem?_getD, h2] using h1
    rw [this, Option.bind_some, oc_inr, Option.bind_some, decide_eq_true (show (0 : Int) ≤ (k : Int) by omega)]
theorem not_any_not {α : Type} {l : List α} {p : α → Bool} : (!l.any fun x => !p x) = l.all p := by rw [List.not_any_eq_all_not]; simp
end Go.Gx
namespace Go.Gx
theorem iterM_find {σ β : Type} {f : σ → Option (σ ⊕ β)} (I : Nat → σ) (n : Nat) (bad : Nat → Bool) (e : Nat → β) (e0 : β) (h1 : ∀ k, k < n → (∀ j, j < k → bad j = false) → f (I k) = some (if bad k = true then .inr (e k) else .inl (I (k + 1)))) (h2 : f (I n) = some (.inr e0)) {N : Nat} (hN : n < N) :
    iterM N f (I 0) = some (match (List.range n).find? bad with | some k => e k | none => e0) := by
  have key : ∀ (m k N : Nat), k + m = n → m < N → (∀ j, j < k → bad j = false) → iterM N f (I k) = some (match (List.range n).find? bad with | some k => e k | none => e0) := by
    intro m
    induction m with
    | zero =>
      intro k N hk hN hb
      obtain ⟨N, rfl⟩ : ∃ N', N = N' + 1 := ⟨N - 1, by omega⟩
      have : k = n := by omega
      subst this
      rw [iterM_done h2]
      have : (List.range k).find? bad = none := by
        rw [List.find?_eq_none]
        intro x hx
        simp [hb x (by simpa using hx)]
      rw [this]
    | succ m ih =>
      intro k N hk hN hb
      obtain ⟨N, rfl⟩ : ∃ N', N = N' + 1 := ⟨N - 1, by omega⟩
      have hk2 := h1 k (by omega) hb
      cases hbk : bad k with
      | true =>
        rw [hbk] at hk2
        simp only [if_true] at hk2
        rw [iterM_done hk2]
        have : (List.range n).find? bad = some k := by
          rw [List.find?_range_eq_some]
          exact ⟨hbk, by simp; omega, fun j hj => by simp [hb j hj]⟩
        rw [this]
      | false =>
        rw [hbk] at hk2
        simp only [Bool.false_eq_true, if_false] at hk2
        rw [iterM_step hk2]
        exact ih (k + 1) N (by omega) (by omega) (fun j hj => by
          by_cases hjk : j = k
          · subst hjk; exact hbk
          · exact hb j (by omega))
  exact key n 0 N (by omega) hN (fun j hj => absurd hj (by omega))
def filtL (p : Nat → Bool) (k : Nat) : List Int := ((List.range k).filter p).map fun i : Nat => (i : Int)
theorem filtL_succ {p : Nat → Bool} {k : Nat} : filtL p (k + 1) = if p k = true then filtL p k ++ [(k : Int)] else filtL p k := by
  unfold filtL
  rw [List.range_succ, List.filter_append, List.map_append]
  cases h : p k with
  | true => simp [h]
  | false => simp [h]
theorem filtL_len {p : Nat → Bool} {k : Nat} : (filtL p k).length ≤ k := by
  unfold filtL
  rw [List.length_map]
  exact Nat.le_trans (List.length_filter_le _ _) (by simp)
end Go.Gx

namespace Go.Gx
open Go
theorem range_set {α : Type} {f : Nat → α} {n i : Nat} {v : α} : ((List.range n).map f).set i v = (List.range n).map fun t => if t = i then v else f t := by
  apply List.ext_getElem
  · simp
  · intro j h1 h2
    simp only [List.length_set, List.length_map, List.length_range] at h1
    rw [List.getElem_set]
    simp only [List.getElem_map, List.getElem_range]
    by_cases h : i = j
    · subst h; simp
    · rw [if_neg h, if_neg (fun e => h e.symm)]
theorem range_ix {α : Type} {f : Nat → α} {n i : Nat} (h : i < n) : ix ((List.range n).map f) (i : Int) = some (f i) := by
  unfold ix
  rw [if_neg (by omega), Int.toNat_natCast]
  simp [h]
end Go.Gx

namespace Go.Proofs.Ws
open Go Go.Fw Go.Gx Go.Sp
theorem Yw (a b : Int) : Js a [b] = some (min a b) := by
  unfold Js
  have h1 : yU [b] ⟨a, 0⟩ = some (.inl ⟨min a b, 1⟩) := by
    unfold yU
    simp [ix, addc]
  have h2 : yU [b] ⟨min a b, 1⟩ = some (.inr (min a b)) := by
    unfold yU
    simp
  have e : FU = (FU - 2) + 1 + 1 := by unfold FU; rfl
  rw [e, iterM_step h1, iterM_done h2]
  rfl
theorem ix_way {l : List Wy} {c : Change} (h : isWay l c) : ix l c.way = some (wy l c) := by
  obtain ⟨h1, h2⟩ := h
  exact ix_eq default h1 h2
theorem Ke {l : List Wy} (hl : NetOK l) {c : Change} (h : isWay l c) : qG l c = some ⟨eA l c, eB l c, eC l c, rm l c⟩ := by
  have hk := hl.2 _ (wy_mem h)
  have h1 := hk.hi; have h2 := hk.goes; have h3 := hk.cost; have h4 := hk.lo
  unfold qG
  rw [ix_way h, Option.bind_some]
  unfold eA eB eC rm
  cases c.more with
  | true =>
    simp only [if_true]
    rw [subc_eq (by omega), Option.bind_some]
  | false =>
    simp only [Bool.false_eq_true, if_false]
    rw [negc_eq (by omega), Option.bind_some, Yw, Option.bind_some, subc_eq (by omega), Option.bind_some]
def gI {α : Type} (d : α) (l : List α) (x : Int) : α := if 0 ≤ x then l.getD x.toNat d else d
theorem gI_set {α : Type} {d v : α} {l : List α} {b : Int} (h0 : 0 ≤ b) (h1 : b < l.length) : gI d (l.set b.toNat v) = upd (gI d l) b v := by
  funext x
  unfold gI upd
  by_cases hx : x = b
  · subst hx
    rw [if_pos h0, if_pos rfl, List.getD_eq_getElem?_getD, List.getElem?_set_self (by omega)]
    rfl
  · rw [if_neg hx]
    by_cases h : 0 ≤ x
    · simp only [h, if_true]
      rw [List.getD_eq_getElem?_getD, List.getD_eq_getElem?_getD, List.getElem?_set_ne (by omega)]
    · simp only [h, if_false]
theorem ix_gI {α : Type} (d : α) {l : List α} {x : Int} (h0 : 0 ≤ x) (h1 : x < l.length) : ix l x = some (gI d l x) := by
  unfold gI
  rw [if_pos h0]
  exact ix_eq d h0 h1
def resTo (l : List Wy) (k : Nat) : List Change := (List.range k).flatMap fun i : Nat => ([⟨(i : Int), true⟩, ⟨(i : Int), false⟩] : List Change).filter fun c => decide (0 < rm l c)
theorem resTo_succ {l : List Wy} {k : Nat} : resTo l (k + 1) = resTo l k ++ ((if 0 < rm l ⟨(k : Int), true⟩ then [⟨(k : Int), true⟩] else []) ++ (if 0 < rm l ⟨(k : Int), false⟩ then [⟨(k : Int), false⟩] else [])) := by
  unfold resTo
  rw [List.range_succ, List.flatMap_append]
  congr 1
  simp only [List.flatMap_cons, List.flatMap_nil, List.append_nil, List.filter_cons, List.filter_nil]
  by_cases h1 : 0 < rm l ⟨(k : Int), true⟩ <;> by_cases h2 : 0 < rm l ⟨(k : Int), false⟩ <;> simp [h1, h2]
theorem resTo_all (l : List Wy) : resTo l l.length = res l := rfl
theorem res_len (l : List Wy) : (res l).length ≤ 2 * l.length := by
  have key : ∀ k, (resTo l k).length ≤ 2 * k := by
    intro k
    induction k with
    | zero => simp [resTo]
    | succ k ih =>
      rw [resTo_succ]
      simp only [List.length_append]
      split <;> split <;> simp <;> omega
  rw [← resTo_all]
  exact key l.length
theorem ends_in {l : List Wy} (hl : NetOK l) {c : Change} (h : isWay l c) : (0 ≤ eA l c ∧ eA l c < 12) ∧ (0 ≤ eB l c ∧ eB l c < 12) ∧ eA l c ≠ eB l c ∧ -1 ≤ eC l c ∧ eC l c ≤ 1 := by
  have hk := hl.2 _ (wy_mem h)
  have h1 := hk.fr; have h2 := hk.dst; have h3 := hk.ne; have h4 := hk.cost
  unfold eA eB eC
  cases c.more with
  | true => simp only [if_true]; omega
  | false => simp only [Bool.false_eq_true, if_false]; omega
theorem way_nat {l : List Wy} {k : Nat} (h : k < l.length) (m : Bool) : isWay l ⟨(k : Int), m⟩ := ⟨by simp, by simpa using h⟩
end Go.Proofs.Ws

namespace Go.Proofs.Ws
open Go Go.Fw Go.Gx Go.Sp
abbrev nil0 : Change := ⟨0, false⟩
def visitL (l : List Wy) (s : List Bool × List Change) (c : Change) : List Bool × List Change :=
  if gI false s.1 (eA l c) = true ∧ gI false s.1 (eB l c) = false then (s.1.set (eB l c).toNat true, s.2.set (eB l c).toNat c) else s
def L12 (s : List Bool × List Change) : Prop := s.1.length = 12 ∧ s.2.length = 12
def bsOf (s : List Bool × List Change) : BS := ⟨gI false s.1, gI nil0 s.2⟩
theorem visitL_12 {l : List Wy} {s : List Bool × List Change} (h : L12 s) (c : Change) : L12 (visitL l s c) := by
  unfold visitL L12 at *
  split <;> simp [h.1, h.2]
theorem visitL_bs {l : List Wy} (hl : NetOK l) {s : List Bool × List Change} (h : L12 s) {c : Change} (hc : isWay l c) : bsOf (visitL l s c) = visit (eA l) (eB l) (bsOf s) c := by
  obtain ⟨h1, h2, _⟩ := ends_in hl hc
  unfold visitL visit bsOf
  split
  · simp only
    rw [gI_set h2.1 (by rw [h.1]; exact h2.2), gI_set h2.1 (by rw [h.2]; exact h2.2)]
  · rfl
theorem ja2 {l : List Wy} (hl : NetOK l) {s : List Bool × List Change} (h : L12 s) {c : Change} (hc : isWay l c) (C R : Int) :
    yr c (eA l c) (eB l c) C R s.1 s.2 = some ⟨(visitL l s c).1, (visitL l s c).2⟩ := by
  obtain ⟨h1, h2, _⟩ := ends_in hl hc
  unfold yr visitL
  rw [ix_gI false h1.1 (by rw [h.1]; exact h1.2), Option.bind_some]
  cases ha : gI false s.1 (eA l c) with
  | false => simp
  | true =>
    simp only [if_true, true_and]
    rw [ix_gI false h2.1 (by rw [h.1]; exact h2.2), Option.bind_some]
    cases hb : gI false s.1 (eB l c) with
    | true => simp
    | false =>
      simp only [Option.bind_some, Bool.not_false, if_true]
      rw [ix_gI nil0 h2.1 (by rw [h.2]; exact h2.2), Option.bind_some]
theorem fold_12 {l : List Wy} : ∀ (L : List Change) {s : List Bool × List Change}, L12 s → L12 (L.foldl (visitL l) s)
  | [], _, h => h
  | c :: L, _, h => fold_12 L (visitL_12 h c)
theorem fold_bs {l : List Wy} (hl : NetOK l) : ∀ (L : List Change), (∀ c, c ∈ L → isWay l c) → ∀ {s : List Bool × List Change}, L12 s → bsOf (L.foldl (visitL l) s) = L.foldl (visit (eA l) (eB l)) (bsOf s)
  | [], _, _, _ => rfl
  | c :: L, hL, s, h => by
    show bsOf (L.foldl (visitL l) (visitL l s c)) = _
    rw [fold_bs hl L (fun d hd => hL d (by simp [hd])) (visitL_12 h c), visitL_bs hl h (hL c (by simp))]
    rfl
theorem YA {l : List Wy} (hl : NetOK l) {s : List Bool × List Change} (h : L12 s) : yC l s.1 s.2 = some ⟨((res l).foldl (visitL l) s).1, ((res l).foldl (visitL l) s).2⟩ := by
  unfold yC
  have key := iterM_run (f := qf l) (fun k => ⟨(k : Int), ((resTo l k).foldl (visitL l) s).1, ((resTo l k).foldl (visitL l) s).2⟩) l.length (b := ⟨((res l).foldl (visitL l) s).1, ((res l).foldl (visitL l) s).2⟩) (fun k hk => ?_) ?_ FU (FU_lt (by have := hl.1; omega))
  · simp only [resTo, List.range_zero, List.flatMap_nil, List.foldl_nil] at key
    have e : ((0 : Nat) : Int) = 0 := rfl
    rw [e] at key
    rw [key, Option.bind_some]
  · have h12 : L12 ((resTo l k).foldl (visitL l) s) := fold_12 _ h
    generalize hs : (resTo l k).foldl (visitL l) s = t at h12
    unfold qf
    have hlt : (k : Int) < (l.length : Int) := by omega
    simp only [hlt, if_true]
    have step : ∀ (b : Bool) (u : List Bool × List Change), L12 u → ((qG l (⟨(k : Int), b⟩ : Change)).bind fun t32 => if 0 < t32.r3 then ((yr (⟨(k : Int), b⟩ : Change) t32.r0 t32.r1 t32.r2 t32.r3 u.1 u.2).bind fun t45 => some (⟨t45.a55_0, t45.a66_0⟩ : qd)) else (some (⟨u.1, u.2⟩ : qd))) = some (⟨(if 0 < rm l ⟨(k : Int), b⟩ then visitL l u ⟨(k : Int), b⟩ else u).1, (if 0 < rm l ⟨(k : Int), b⟩ then visitL l u ⟨(k : Int), b⟩ else u).2⟩ : qd) := fun b u hu => by
      rw [Ke hl (way_nat hk b), Option.bind_some]
      by_cases hr : 0 < rm l ⟨(k : Int), b⟩
      · simp only [hr, if_true]
        rw [ja2 hl hu (way_nat hk b), Option.bind_some]
      · simp only [hr, if_false]
    obtain ⟨u1, hu1⟩ : ∃ u1, u1 = if 0 < rm l ⟨(k : Int), true⟩ then visitL l t ⟨(k : Int), true⟩ else t := ⟨_, rfl⟩
    obtain ⟨u2, hu2⟩ : ∃ u2, u2 = if 0 < rm l ⟨(k : Int), false⟩ then visitL l u1 ⟨(k : Int), false⟩ else u1 := ⟨_, rfl⟩
    have hu112 : L12 u1 := by rw [hu1]; split; exact visitL_12 h12 _; exact h12
    have f1 : j9 l ⟨(k : Int), t.1, t.2⟩ ⟨0, t.1, t.2⟩ = some (.inl ⟨1, u1.1, u1.2⟩) := by
      unfold j9
      simp only [List.length_cons, List.length_nil]
      rw [if_pos (by decide)]
      have e : ix [true, false] (0 : Int) = some true := rfl
      rw [e, Option.bind_some, step true t h12, ← hu1, Option.bind_some]
      rfl
    have f2 : j9 l ⟨(k : Int), t.1, t.2⟩ ⟨1, u1.1, u1.2⟩ = some (.inl ⟨2, u2.1, u2.2⟩) := by
      unfold j9
      simp only [List.length_cons, List.length_nil]
      rw [if_pos (by decide)]
      have e : ix [true, false] (1 : Int) = some false := rfl
      rw [e, Option.bind_some, step false u1 hu112, ← hu2, Option.bind_some]
      rfl
    have f3 : j9 l ⟨(k : Int), t.1, t.2⟩ ⟨2, u2.1, u2.2⟩ = some (.inr ⟨u2.1, u2.2⟩) := by
      unfold j9
      simp only [List.length_cons, List.length_nil]
      rw [if_neg (by decide)]
    have e : FU = (FU - 3) + 1 + 1 + 1 := by unfold FU; rfl
    rw [e, iterM_step f1, iterM_step f2, iterM_done f3, Option.bind_some, addc_eq (by have := hl.1; omega), Option.bind_some]
    have hn : (resTo l (k + 1)).foldl (visitL l) s = u2 := by
      rw [resTo_succ, List.foldl_append, List.foldl_append, hs, hu2, hu1]
      by_cases h1 : 0 < rm l ⟨(k : Int), true⟩ <;> by_cases h2 : 0 < rm l ⟨(k : Int), false⟩ <;> simp [h1, h2]
    rw [hn]
    rfl
  · unfold qf
    simp only [Int.lt_irrefl, if_false]
    rw [resTo_all]
end Go.Proofs.Ws

namespace Go.Proofs.Ws
open Go Go.Fw Go.Gx Go.Sp
theorem count_lt : ∀ (m m' : List Bool), m.length = m'.length → (∀ i : Nat, i < m.length → m.getD i false = true → m'.getD i false = true) → m ≠ m' → m.count true < m'.count true
  | [], [], _, _, h => absurd rfl h
  | [], _ :: _, h, _, _ => by simp at h
  | _ :: _, [], h, _, _ => by simp at h
  | a :: m, b :: m', hl, hm, hne => by
    have hab : a = true → b = true := fun h => by
      have := hm 0 (by simp) (by simpa using h)
      simpa using this
    have hm' : ∀ i : Nat, i < m.length → m.getD i false = true → m'.getD i false = true := fun i hi h => by
      have := hm (i + 1) (by simpa using hi) (by simpa using h)
      simpa using this
    have hl' : m.length = m'.length := by simpa using hl
    by_cases he : m = m'
    · subst he
      cases a <;> cases b
      · exact absurd rfl hne
      · simp [List.count_cons]
      · have := hab rfl; cases this
      · exact absurd rfl hne
    · have ih := count_lt m m' hl' hm' he
      cases a <;> cases b
      · simpa [List.count_cons] using ih
      · simp only [List.count_cons, beq_self_eq_true, if_true]; simp; omega
      · have := hab rfl; cases this
      · simpa [List.count_cons] using ih
def pOf (l : List Wy) (by_ : List Change) : Int → Int := fun x => eA l (gI nil0 by_ x)
theorem ZE {l : List Wy} (hl : NetOK l) {src to : Int} (hs : 0 ≤ src ∧ src < 12) (ht : 0 ≤ to ∧ to < 12) :
    ∃ (met : List Bool) (by_ : List Change), met.length = 12 ∧ gI false met src = true ∧ (∀ c, c ∈ res l → gI false met (eA l c) = true → gI false met (eB l c) = true) ∧
      ((gI false met to = false ∧ J8 l src to = some ⟨met, []⟩) ∨
       (gI false met to = true ∧ ∃ (k : Nat) (d : Int → Nat), J8 l src to = some ⟨met, chainL (gI nil0 by_) (pOf l by_) to k⟩ ∧ k ≤ 1066 ∧ iterP (pOf l by_) k to = src ∧
        (∀ j, j < k → iterP (pOf l by_) j to ≠ src ∧ gI nil0 by_ (iterP (pOf l by_) j to) ∈ res l ∧ eB l (gI nil0 by_ (iterP (pOf l by_) j to)) = iterP (pOf l by_) j to) ∧
        (∀ i j, i < j → j ≤ k → d (iterP (pOf l by_) j to) < d (iterP (pOf l by_) i to)))) := by
  unfold J8
  have hrl := res_len l
  have hlen := hl.1
  rw [ix_gI false hs.1 (by simpa using hs.2), Option.bind_some, Option.bind_some]
  have hres : ∀ c, c ∈ res l → isWay l c := fun c hc => (res_mem.1 hc).1
  have hround : ∃ o, iterM FU (z6 l) ⟨List.replicate 12 nil0, (List.replicate 12 false).set src.toNat true⟩ = some o ∧ L12 (o.met8, o.by9) ∧ gI false o.met8 src = true ∧ (∀ c, c ∈ res l → gI false o.met8 (eA l c) = true → gI false o.met8 (eB l c) = true) ∧ ∃ d N, BInv (eA l) (eB l) (res l) src d N (bsOf (o.met8, o.by9)) ∧ N ≤ 1066 := by
    refine iterM_inv (f := z6 l) (fun s => L12 (s.met8, s.by9) ∧ ∃ d N, BInv (eA l) (eB l) (res l) src d N (bsOf (s.met8, s.by9)) ∧ N ≤ 82 * s.met8.count true) (fun s => 12 - s.met8.count true) (fun o => L12 (o.met8, o.by9) ∧ gI false o.met8 src = true ∧ (∀ c, c ∈ res l → gI false o.met8 (eA l c) = true → gI false o.met8 (eB l c) = true) ∧ ∃ d N, BInv (eA l) (eB l) (res l) src d N (bsOf (o.met8, o.by9)) ∧ N ≤ 1066) (fun s hs => ?_) FU ⟨List.replicate 12 nil0, (List.replicate 12 false).set src.toNat true⟩ (FU_lt (by omega)) ?_
    · -- a round
      obtain ⟨h12, d, N, hb, hN⟩ := hs
      unfold z6
      rw [YA hl h12, Option.bind_some]
      have h12' := fold_12 (l := l) (res l) h12
      have hbs := fold_bs hl (res l) hres h12
      obtain ⟨d', hb'⟩ := hb.fold (res l) (fun _ h => h)
      rw [← hbs] at hb'
      obtain ⟨t, ht'⟩ : ∃ t, t = (res l).foldl (visitL l) (s.met8, s.by9) := ⟨_, rfl⟩
      rw [← ht'] at h12' hb' hbs ⊢
      by_cases heq : t.1 = s.met8
      · right
        simp only [heq, if_true]
        refine ⟨_, rfl, ?_, ?_, fun c hc ha => ?_, d', N + (res l).length, ?_, ?_⟩
        · rw [← heq]; exact h12'
        · exact hb.srcm
        · have := fold_done (A := eA l) (B := eB l) (res l) (bsOf (s.met8, s.by9)) c hc ha
          rw [← hbs] at this
          show gI false s.met8 (eB l c) = true
          rw [← heq]; exact this
        · rw [← heq]; exact hb'
        · have h1 : s.met8.count true ≤ s.met8.length := List.count_le_length
          have h2 := h12.1
          simp only at h2
          omega
      · left
        simp only [heq, if_false]
        have hlt : s.met8.count true < t.1.count true := count_lt _ _ (by rw [h12.1, h12'.1]) (fun i hi hi2 => by
          have := fold_mono (A := eA l) (B := eB l) (res l) (bsOf (s.met8, s.by9)) (i : Int) (by
            show gI false s.met8 (i : Int) = true
            unfold gI; rw [if_pos (by omega)]; simpa using hi2)
          rw [← hbs] at this
          have h3 : gI false t.1 (i : Int) = true := this
          unfold gI at h3
          rw [if_pos (by omega)] at h3
          simpa using h3) (fun e => heq e.symm)
        refine ⟨_, rfl, ⟨h12', d', N + (res l).length, hb', ?_⟩, ?_⟩
        · show N + (res l).length ≤ 82 * t.1.count true
          omega
        · have h1 : t.1.count true ≤ t.1.length := List.count_le_length
          have h2 := h12'.1
          show 12 - t.1.count true < 12 - s.met8.count true
          omega
    · refine ⟨⟨by simp, by simp⟩, fun _ => 0, 0, ⟨?_, fun _ => Nat.le_refl _, fun x hx hne => ?_⟩, Nat.zero_le _⟩
      · show gI false ((List.replicate 12 false).set src.toNat true) src = true
        rw [gI_set hs.1 (by simpa using hs.2), upd_same]
      · exfalso
        have hx' : gI false ((List.replicate 12 false).set src.toNat true) x = true := hx
        rw [gI_set hs.1 (by simpa using hs.2), upd_ne hne] at hx'
        unfold gI at hx'
        split at hx'
        · rw [List.getD_eq_getElem?_getD, List.getElem?_replicate] at hx'
          split at hx' <;> simp at hx'
        · cases hx'
  obtain ⟨o, ho, ⟨hoL, hosrc, hocl, d, N, hb, hN⟩⟩ := hround
  rw [ho, Option.bind_some, ix_gI false ht.1 (by rw [hoL.1]; exact ht.2), Option.bind_some]
  refine ⟨o.met8, o.by9, hoL.1, hosrc, hocl, ?_⟩
  cases hto : gI false o.met8 to with
  | false => exact .inl ⟨rfl, by simp⟩
  | true =>
    right
    obtain ⟨k, h1, h2, h3, h4⟩ := hb.back (to := to) hto
    refine ⟨rfl, k, d, ?_, by omega, h2, h3, h4⟩
    simp only [Bool.not_true, Bool.false_eq_true, if_false]
    have key := iterM_run (f := zX src o l) (fun j => ⟨iterP (pOf l o.by9) j to, chainL (gI nil0 o.by9) (pOf l o.by9) to j⟩) k (b := chainL (gI nil0 o.by9) (pOf l o.by9) to k) (fun j hj => ?_) ?_ FU (FU_lt (by omega))
    · have e : (⟨iterP (pOf l o.by9) 0 to, chainL (gI nil0 o.by9) (pOf l o.by9) to 0⟩ : zV) = ⟨to, []⟩ := rfl
      rw [← e, key, Option.bind_some]
    · obtain ⟨g1, g2, g3⟩ := h3 j hj
      have hw := hres _ g2
      have hin := (ends_in hl hw).2.1
      have g1' : iterP (pOf l o.by9) j to ≠ src := g1
      have g2' : gI nil0 o.by9 (iterP (pOf l o.by9) j to) ∈ res l := g2
      have g3' : eB l (gI nil0 o.by9 (iterP (pOf l o.by9) j to)) = iterP (pOf l o.by9) j to := g3
      have hw' : isWay l (gI nil0 o.by9 (iterP (pOf l o.by9) j to)) := hres _ g2'
      have hin' := (ends_in hl hw').2.1
      rw [g3'] at hin'
      unfold zX
      simp only
      rw [if_neg g1', ix_gI nil0 hin'.1 (by rw [hoL.2]; exact hin'.2), Option.bind_some, appc_eq (by
        unfold chainL; simp only [List.length_map, List.length_range, List.length_cons, List.length_nil]; omega), Option.bind_some, Option.bind_some, Ke hl hw', Option.bind_some]
      have e1 : chainL (gI nil0 o.by9) (pOf l o.by9) to (j + 1) = chainL (gI nil0 o.by9) (pOf l o.by9) to j ++ [⟨(gI nil0 o.by9 (iterP (pOf l o.by9) j to)).way, (gI nil0 o.by9 (iterP (pOf l o.by9) j to)).more⟩] := by
        unfold chainL
        rw [List.range_succ, List.map_append]
        rfl
      rw [e1, iterP_succ]
      rfl
    · unfold zX
      have h2' : iterP (pOf l o.by9) k to = src := h2
      simp only
      rw [if_pos h2']
end Go.Proofs.Ws

namespace Go.Proofs.Ws
open Go Go.Fw Go.Gx Go.Sp
structure FL where
  far : List Int
  by_ : List Change
  last : Int
def relaxL (l : List Wy) (s : FL) (c : Change) : FL :=
  if gI 0 s.far (eA l c) + eC l c < gI 0 s.far (eB l c) then ⟨s.far.set (eB l c).toNat (gI 0 s.far (eA l c) + eC l c), s.by_.set (eB l c).toNat c, eB l c⟩ else s
structure F12 (K : Nat) (s : FL) : Prop where
  far : s.far.length = 12
  by_ : s.by_.length = 12
  lo : ∀ x, -(K : Int) ≤ gI 0 s.far x ∧ gI 0 s.far x ≤ 0
def bfOf (s : FL) : BF := ⟨gI 0 s.far, gI nil0 s.by_, s.last⟩
theorem F12.mono {K K' : Nat} {s : FL} (h : F12 K s) (hk : K ≤ K') : F12 K' s := ⟨h.far, h.by_, fun x => by have := h.lo x; omega⟩
theorem relaxL_12 {l : List Wy} (hl : NetOK l) {K : Nat} {s : FL} (h : F12 K s) {c : Change} (hc : isWay l c) : F12 (K + 1) (relaxL l s c) := by
  obtain ⟨h1, h2, h3, h4, h5⟩ := ends_in hl hc
  unfold relaxL
  split
  · rename_i hlt
    refine ⟨by simp [h.far], by simp [h.by_], fun x => ?_⟩
    simp only
    rw [gI_set h2.1 (by rw [h.far]; exact h2.2)]
    unfold upd
    have := h.lo x; have := h.lo (eA l c); have := h.lo (eB l c)
    split <;> omega
  · exact h.mono (by omega)
theorem relaxL_bf {l : List Wy} (hl : NetOK l) {K : Nat} {s : FL} (h : F12 K s) {c : Change} (hc : isWay l c) : bfOf (relaxL l s c) = relax (eA l) (eB l) (eC l) (bfOf s) c := by
  obtain ⟨h1, h2, _⟩ := ends_in hl hc
  unfold relaxL relax bfOf
  split
  · simp only
    rw [gI_set h2.1 (by rw [h.far]; exact h2.2), gI_set h2.1 (by rw [h.by_]; exact h2.2)]
  · rfl
theorem jaY {l : List Wy} (hl : NetOK l) {K : Nat} (hK : K ≤ 100000) {s : FL} (h : F12 K s) {c : Change} (hc : isWay l c) (R : Int) :
    kT c (eA l c) (eB l c) (eC l c) R s.far s.by_ s.last = some ⟨(relaxL l s c).far, (relaxL l s c).by_, (relaxL l s c).last⟩ := by
  obtain ⟨h1, h2, h3, h4, h5⟩ := ends_in hl hc
  have b1 := h.lo (eA l c)
  unfold kT relaxL
  have hf := h.far; have hb := h.by_
  rw [ix_gI 0 h1.1 (by rw [hf]; exact h1.2), Option.bind_some, addc_eq (by omega), Option.bind_some, ix_gI 0 h2.1 (by rw [hf]; exact h2.2), Option.bind_some]
  by_cases hlt : gI 0 s.far (eA l c) + eC l c < gI 0 s.far (eB l c)
  · simp only [hlt, if_true]
    rw [Option.bind_some, addc_eq (by omega), Option.bind_some, Option.bind_some, Option.bind_some, ix_gI nil0 h2.1 (by rw [hb]; exact h2.2), Option.bind_some, Option.bind_some]
  · simp only [hlt, if_false]
theorem foldF_12 {l : List Wy} (hl : NetOK l) : ∀ (L : List Change), (∀ c, c ∈ L → isWay l c) → ∀ {K : Nat} {s : FL}, F12 K s → F12 (K + L.length) (L.foldl (relaxL l) s)
  | [], _, K, s, h => h
  | c :: L, hL, K, s, h => by
    have := foldF_12 hl L (fun d hd => hL d (by simp [hd])) (relaxL_12 hl h (hL c (by simp)))
    rw [List.length_cons, show K + (L.length + 1) = K + 1 + L.length by omega]
    exact this
theorem foldF_bf {l : List Wy} (hl : NetOK l) : ∀ (L : List Change), (∀ c, c ∈ L → isWay l c) → ∀ {K : Nat} {s : FL}, F12 K s → bfOf (L.foldl (relaxL l) s) = L.foldl (relax (eA l) (eB l) (eC l)) (bfOf s)
  | [], _, _, _, _ => rfl
  | c :: L, hL, K, s, h => by
    show bfOf (L.foldl (relaxL l) (relaxL l s c)) = _
    rw [foldF_bf hl L (fun d hd => hL d (by simp [hd])) (relaxL_12 hl h (hL c (by simp))), relaxL_bf hl h (hL c (by simp))]
    rfl
theorem resTo_way {l : List Wy} {k : Nat} (hk : k ≤ l.length) : ∀ c, c ∈ resTo l k → isWay l c := fun c hc => by
  unfold resTo at hc
  obtain ⟨i, hi, h⟩ := List.mem_flatMap.1 hc
  have hi' : i < l.length := by have := List.mem_range.1 hi; omega
  have := (List.mem_filter.1 h).1
  simp only [List.mem_cons, List.not_mem_nil, or_false] at this
  rcases this with rfl | rfl <;> exact way_nat hi' _
theorem resTo_len {l : List Wy} (k : Nat) : (resTo l k).length ≤ 2 * k := by
  induction k with
  | zero => simp [resTo]
  | succ k ih =>
    rw [resTo_succ]
    simp only [List.length_append]
    split <;> split <;> simp <;> omega
theorem Y7 {l : List Wy} (hl : NetOK l) {K : Nat} (hK : K ≤ 2000) {s : FL} (h : F12 K s) : yK l s.far s.by_ s.last = some ⟨((res l).foldl (relaxL l) s).far, ((res l).foldl (relaxL l) s).by_, ((res l).foldl (relaxL l) s).last⟩ := by
  unfold yK
  have hlen := hl.1
  have key := iterM_run (f := ql l) (fun k => ⟨(k : Int), ((resTo l k).foldl (relaxL l) s).far, ((resTo l k).foldl (relaxL l) s).by_, ((resTo l k).foldl (relaxL l) s).last⟩) l.length (b := ⟨((res l).foldl (relaxL l) s).far, ((res l).foldl (relaxL l) s).by_, ((res l).foldl (relaxL l) s).last⟩) (fun k hk => ?_) ?_ FU (FU_lt (by omega))
  · simp only [resTo, List.range_zero, List.flatMap_nil, List.foldl_nil] at key
    have e : ((0 : Nat) : Int) = 0 := rfl
    rw [e] at key
    rw [key, Option.bind_some]
  · have h12 := foldF_12 hl (resTo l k) (resTo_way (by omega)) h
    have hrl := resTo_len (l := l) k
    replace h12 := h12.mono (K' := 3000) (by omega)
    generalize hs : (resTo l k).foldl (relaxL l) s = t at h12
    unfold ql
    have hlt : (k : Int) < (l.length : Int) := by omega
    simp only [hlt, if_true]
    have step : ∀ (b : Bool) (u : FL) (K : Nat), K ≤ 100000 → F12 K u → ((qG l (⟨(k : Int), b⟩ : Change)).bind fun t32 => if 0 < t32.r3 then ((kT (⟨(k : Int), b⟩ : Change) t32.r0 t32.r1 t32.r2 t32.r3 u.far u.by_ u.last).bind fun t45 => some (⟨t45.a55_0, t45.a66_0, t45.a77⟩ : qo)) else (some (⟨u.far, u.by_, u.last⟩ : qo))) = some (⟨(if 0 < rm l ⟨(k : Int), b⟩ then relaxL l u ⟨(k : Int), b⟩ else u).far, (if 0 < rm l ⟨(k : Int), b⟩ then relaxL l u ⟨(k : Int), b⟩ else u).by_, (if 0 < rm l ⟨(k : Int), b⟩ then relaxL l u ⟨(k : Int), b⟩ else u).last⟩ : qo) := fun b u K hK hu => by
      rw [Ke hl (way_nat hk b), Option.bind_some]
      by_cases hr : 0 < rm l ⟨(k : Int), b⟩
      · simp only [hr, if_true]
        rw [jaY hl hK hu (way_nat hk b), Option.bind_some]
      · simp only [hr, if_false]
    obtain ⟨u1, hu1⟩ : ∃ u1, u1 = if 0 < rm l ⟨(k : Int), true⟩ then relaxL l t ⟨(k : Int), true⟩ else t := ⟨_, rfl⟩
    obtain ⟨u2, hu2⟩ : ∃ u2, u2 = if 0 < rm l ⟨(k : Int), false⟩ then relaxL l u1 ⟨(k : Int), false⟩ else u1 := ⟨_, rfl⟩
    have hu112 : F12 3001 u1 := by rw [hu1]; split; exact relaxL_12 hl h12 (way_nat hk true); exact h12.mono (by omega)
    have f1 : j6 l ⟨(k : Int), t.far, t.by_, t.last⟩ ⟨0, t.far, t.by_, t.last⟩ = some (.inl ⟨1, u1.far, u1.by_, u1.last⟩) := by
      unfold j6
      simp only [List.length_cons, List.length_nil]
      rw [if_pos (by decide)]
      have e : ix [true, false] (0 : Int) = some true := rfl
      rw [e, Option.bind_some, step true t 3000 (by omega) h12, ← hu1, Option.bind_some]
      rfl
    have f2 : j6 l ⟨(k : Int), t.far, t.by_, t.last⟩ ⟨1, u1.far, u1.by_, u1.last⟩ = some (.inl ⟨2, u2.far, u2.by_, u2.last⟩) := by
      unfold j6
      simp only [List.length_cons, List.length_nil]
      rw [if_pos (by decide)]
      have e : ix [true, false] (1 : Int) = some false := rfl
      rw [e, Option.bind_some, step false u1 3001 (by omega) hu112, ← hu2, Option.bind_some]
      rfl
    have f3 : j6 l ⟨(k : Int), t.far, t.by_, t.last⟩ ⟨2, u2.far, u2.by_, u2.last⟩ = some (.inr ⟨u2.far, u2.by_, u2.last⟩) := by
      unfold j6
      simp only [List.length_cons, List.length_nil]
      rw [if_neg (by decide)]
    have e : FU = (FU - 3) + 1 + 1 + 1 := by unfold FU; rfl
    rw [e, iterM_step f1, iterM_step f2, iterM_done f3, Option.bind_some, addc_eq (by omega), Option.bind_some]
    have hn : (resTo l (k + 1)).foldl (relaxL l) s = u2 := by
      rw [resTo_succ, List.foldl_append, List.foldl_append, hs, hu2, hu1]
      by_cases h1 : 0 < rm l ⟨(k : Int), true⟩ <;> by_cases h2 : 0 < rm l ⟨(k : Int), false⟩ <;> simp [h1, h2]
    rw [hn]
    rfl
  · unfold ql
    simp only [Int.lt_irrefl, if_false]
    rw [resTo_all]
def roundsL (l : List Wy) : Nat → FL
  | 0 => ⟨List.replicate 12 0, List.replicate 12 nil0, -1⟩
  | r + 1 => (res l).foldl (relaxL l) ⟨(roundsL l r).far, (roundsL l r).by_, -1⟩
theorem gI_rep {α : Type} (d : α) (n : Nat) : gI d (List.replicate n d) = fun _ => d := by
  funext x
  unfold gI
  split
  · rw [List.getD_eq_getElem?_getD, List.getElem?_replicate]
    split <;> rfl
  · rfl
theorem roundsL_12 {l : List Wy} (hl : NetOK l) : ∀ r, F12 (82 * r) (roundsL l r)
  | 0 => ⟨by simp [roundsL], by simp [roundsL], fun x => by show _ ≤ gI 0 (List.replicate 12 0) x ∧ gI 0 (List.replicate 12 0) x ≤ 0; rw [gI_rep]; simp⟩
  | r + 1 => by
    have h := roundsL_12 hl r
    have h2 : F12 (82 * r) ⟨(roundsL l r).far, (roundsL l r).by_, -1⟩ := ⟨h.far, h.by_, h.lo⟩
    have h3 := foldF_12 hl (res l) (fun c hc => (res_mem.1 hc).1) h2
    have := res_len l; have := hl.1
    exact h3.mono (by omega)
theorem roundsL_bf {l : List Wy} (hl : NetOK l) : ∀ r, bfOf (roundsL l r) = rounds (eA l) (eB l) (eC l) (res l) (fun _ => nil0) r
  | 0 => by show BF.mk (gI 0 (List.replicate 12 0)) (gI nil0 (List.replicate 12 nil0)) (-1) = _; rw [gI_rep, gI_rep]; rfl
  | r + 1 => by
    have h := roundsL_12 hl r
    have h2 : F12 (82 * r) ⟨(roundsL l r).far, (roundsL l r).by_, -1⟩ := ⟨h.far, h.by_, h.lo⟩
    show bfOf ((res l).foldl (relaxL l) ⟨(roundsL l r).far, (roundsL l r).by_, -1⟩) = round (eA l) (eB l) (eC l) (res l) (rounds (eA l) (eB l) (eC l) (res l) (fun _ => nil0) r)
    rw [foldF_bf hl (res l) (fun c hc => (res_mem.1 hc).1) h2, ← roundsL_bf hl r]
    rfl
theorem pot_of {l : List Wy} {π : Int → Int} (h : ∀ c, c ∈ res l → π (eB l c) ≤ π (eA l c) + eC l c) : Pot π l := by
  intro w hw
  obtain ⟨i, hi, rfl⟩ := List.getElem_of_mem hw
  have e : ∀ m, wy l ⟨(i : Int), m⟩ = l[i] := fun m => by unfold wy; simp [List.getD_eq_getElem?_getD, hi]
  refine ⟨fun h1 => ?_, fun h1 => ?_⟩
  · have := h ⟨(i : Int), true⟩ (res_mem.2 ⟨way_nat hi true, by simp only [rm, if_true, e]; omega⟩)
    simpa [eA, eB, eC, e] using this
  · have := h ⟨(i : Int), false⟩ (res_mem.2 ⟨way_nat hi false, by simp only [rm, Bool.false_eq_true, if_false, e]; omega⟩)
    simp only [eA, eB, eC, e, Bool.false_eq_true, if_false] at this
    omega
def PotB (π : Int → Int) (l : List Wy) : Prop := Pot π l ∧ ∀ v, -1000000 ≤ π v ∧ π v ≤ 0
theorem YG {l : List Wy} (hl : NetOK l) :
    (yX l = some [] ∧ ∃ π : Int → Int, PotB π l) ∨
    ∃ (pre : Int → Change) (y : Int) (k : Nat), yX l = some (chainL pre (fun x => eA l (pre x)) y k) ∧ 0 < k ∧ k ≤ 12 ∧
      (∀ j, j < k → pre (iterP (fun x => eA l (pre x)) j y) ∈ res l ∧ eB l (pre (iterP (fun x => eA l (pre x)) j y)) = iterP (fun x => eA l (pre x)) j y) ∧ iterP (fun x => eA l (pre x)) k y = y ∧
      (∀ j, 0 < j → j < k → iterP (fun x => eA l (pre x)) j y ≠ y) ∧ sumTo (fun j => eC l (pre (iterP (fun x => eA l (pre x)) j y))) k < 0 := by
  have hlen := hl.1
  have hres : ∀ c, c ∈ res l → isWay l c := fun c hc => (res_mem.1 hc).1
  have hin : ∀ c, c ∈ res l → (0 ≤ eA l c ∧ eA l c < 12) ∧ (0 ≤ eB l c ∧ eB l c < 12) ∧ eA l c ≠ eB l c ∧ -1 ≤ eC l c ∧ eC l c ≤ 1 := fun c hc => ends_in hl (hres c hc)
  have h0 : iterM FU (qr l) ⟨0, -1, List.replicate 12 nil0, List.replicate 12 0⟩ = some ⟨(roundsL l 13).last, (roundsL l 13).by_, (roundsL l 13).far⟩ := by
    have key := iterM_run (f := qr l) (fun r => ⟨(r : Int), (roundsL l r).last, (roundsL l r).by_, (roundsL l r).far⟩) 13 (b := ⟨(roundsL l 13).last, (roundsL l 13).by_, (roundsL l 13).far⟩) (fun r hr => ?_) ?_ FU (FU_lt (by omega))
    · exact key
    · unfold qr
      have hlt : (r : Int) < 13 := by omega
      simp only [hlt, if_true]
      have h := roundsL_12 hl r
      have h2 : F12 (82 * r) ⟨(roundsL l r).far, (roundsL l r).by_, -1⟩ := ⟨h.far, h.by_, h.lo⟩
      rw [Y7 (K := 82 * r) hl (by omega) h2, Option.bind_some, addc_eq (by omega), Option.bind_some]
      rfl
    · unfold qr
      rfl
  have hb := roundsL_bf hl 13
  have h12 := roundsL_12 hl 13
  generalize roundsL l 13 = s at h0 hb h12
  unfold yX
  rw [h0, Option.bind_some]
  simp only
  by_cases hlast : s.last < 0
  · left
    simp only [hlast, if_true, true_and]
    refine ⟨gI 0 s.far, pot_of ?_, fun v => by have := h12.lo v; omega⟩
    have := rounds_pot (A := eA l) (B := eB l) (C := eC l) (cs := res l) (fun c hc => (hin c hc).2.2.1) (fun c hc => (hin c hc).2.1.1) (fun c hc => (hin c hc).2.2.2.1) (fun _ => nil0) (r := 13) (by omega) (by rw [← hb]; exact hlast)
    rw [← hb] at this
    exact this
  · right
    simp only [hlast, if_false]
    have hloop := rounds_loop (A := eA l) (B := eB l) (C := eC l) (cs := res l) (n := 12) (fun c hc => (hin c hc).2.2.1) (fun c hc => (hin c hc).1) (fun c hc => (hin c hc).2.1) (fun c hc => (hin c hc).2.2.2.1) (fun _ => nil0) (by
      show 0 ≤ (rounds (eA l) (eB l) (eC l) (res l) (fun _ => nil0) 13).last
      rw [← hb]; show 0 ≤ s.last; omega)
    have hb' : bfOf s = rounds (eA l) (eB l) (eC l) (res l) (fun _ => nil0) (12 + 1) := hb
    rw [← hb'] at hloop
    obtain ⟨hall, k, hk0, hk12, hper, hmin, hneg⟩ := hloop
    have ep : Go.Sp.pred (eA l) (bfOf s) = fun x => eA l (gI nil0 s.by_ x) := rfl
    rw [ep] at hall hper hmin hneg
    change ∀ j, gI nil0 s.by_ (iterP (fun x => eA l (gI nil0 s.by_ x)) j s.last) ∈ res l ∧ eB l (gI nil0 s.by_ (iterP (fun x => eA l (gI nil0 s.by_ x)) j s.last)) = iterP (fun x => eA l (gI nil0 s.by_ x)) j s.last at hall
    change iterP (fun x => eA l (gI nil0 s.by_ x)) k (iterP (fun x => eA l (gI nil0 s.by_ x)) 12 s.last) = iterP (fun x => eA l (gI nil0 s.by_ x)) 12 s.last at hper
    change ∀ j, 0 < j → j < k → iterP (fun x => eA l (gI nil0 s.by_ x)) j (iterP (fun x => eA l (gI nil0 s.by_ x)) 12 s.last) ≠ iterP (fun x => eA l (gI nil0 s.by_ x)) 12 s.last at hmin
    change sumTo (fun j => eC l (gI nil0 s.by_ (iterP (fun x => eA l (gI nil0 s.by_ x)) j (iterP (fun x => eA l (gI nil0 s.by_ x)) 12 s.last)))) k < 0 at hneg
    generalize hp : (fun x => eA l (gI nil0 s.by_ x)) = p at hall hper hmin hneg
    have hpx : ∀ x, eA l (gI nil0 s.by_ x) = p x := fun x => congrFun hp x
    have hnode : ∀ j, 0 ≤ iterP p j s.last ∧ iterP p j s.last < 12 := fun j => by
      obtain ⟨g1, g2⟩ := hall j
      have := (hin _ g1).2.1
      rw [g2] at this
      exact this
    have hix : ∀ j, ix s.by_ (iterP p j s.last) = some (gI nil0 s.by_ (iterP p j s.last)) := fun j => ix_gI nil0 (hnode j).1 (by rw [h12.by_]; exact (hnode j).2)
    have hall2 : ∀ j, gI nil0 s.by_ (iterP p j (iterP p 12 s.last)) ∈ res l ∧ eB l (gI nil0 s.by_ (iterP p j (iterP p 12 s.last))) = iterP p j (iterP p 12 s.last) := fun j => by rw [← iterP_add]; exact hall _
    have h1 : iterM FU (qi ⟨s.last, s.by_, s.far⟩ l) ⟨s.last, 0⟩ = some (iterP p 12 s.last) := by
      have key := iterM_run (f := qi ⟨s.last, s.by_, s.far⟩ l) (fun j => ⟨iterP p j s.last, (j : Int)⟩) 12 (b := iterP p 12 s.last) (fun j hj => ?_) ?_ FU (FU_lt (by omega))
      · exact key
      · unfold qi
        have hlt : (j : Int) < 12 := by omega
        simp only [hlt, if_true]
        rw [hix j, Option.bind_some, Ke hl (hres _ (hall j).1), Option.bind_some, addc_eq (by omega), Option.bind_some]
        simp only [hpx, ← iterP_succ]
        rfl
      · unfold qi
        rfl
    rw [h1, Option.bind_some]
    have h2 : iterM FU (qe ⟨s.last, s.by_, s.far⟩ l (iterP p 12 s.last)) ⟨iterP p 12 s.last, []⟩ = some (.inr (chainL (gI nil0 s.by_) p (iterP p 12 s.last) k)) := by
      have hstep : ∀ j, j < k → qe ⟨s.last, s.by_, s.far⟩ l (iterP p 12 s.last) ⟨iterP p j (iterP p 12 s.last), chainL (gI nil0 s.by_) p (iterP p 12 s.last) j⟩ = if iterP p (j + 1) (iterP p 12 s.last) = iterP p 12 s.last then some (.inr (.inr (chainL (gI nil0 s.by_) p (iterP p 12 s.last) (j + 1)))) else some (.inl ⟨iterP p (j + 1) (iterP p 12 s.last), chainL (gI nil0 s.by_) p (iterP p 12 s.last) (j + 1)⟩) := fun j hj => by
        unfold qe
        simp only
        have e1 : ix s.by_ (iterP p j (iterP p 12 s.last)) = some (gI nil0 s.by_ (iterP p j (iterP p 12 s.last))) := by rw [← iterP_add]; exact hix _
        rw [e1, Option.bind_some, appc_eq (by unfold chainL; simp only [List.length_map, List.length_range, List.length_cons, List.length_nil]; omega), Option.bind_some, Option.bind_some, Ke hl (hres _ (hall2 j).1), Option.bind_some]
        have e2 : chainL (gI nil0 s.by_) p (iterP p 12 s.last) (j + 1) = chainL (gI nil0 s.by_) p (iterP p 12 s.last) j ++ [gI nil0 s.by_ (iterP p j (iterP p 12 s.last))] := by
          unfold chainL
          rw [List.range_succ, List.map_append]
          rfl
        simp only [hpx, ← iterP_succ, e2]
      have key := iterM_run (f := qe ⟨s.last, s.by_, s.far⟩ l (iterP p 12 s.last)) (fun j => ⟨iterP p j (iterP p 12 s.last), chainL (gI nil0 s.by_) p (iterP p 12 s.last) j⟩) (k - 1) (b := .inr (chainL (gI nil0 s.by_) p (iterP p 12 s.last) k)) (fun j hj => ?_) ?_ FU (FU_lt (by omega))
      · exact key
      · rw [hstep j (by omega), if_neg (hmin (j + 1) (by omega) (by omega))]
      · rw [hstep (k - 1) (by omega), show k - 1 + 1 = k by omega, if_pos hper]
    rw [h2, Option.bind_some]
    subst hp
    exact ⟨gI nil0 s.by_, iterP (fun x => eA l (gI nil0 s.by_ x)) 12 s.last, k, rfl, hk0, hk12, fun j _ => hall2 j, hper, hmin, hneg⟩
end Go.Proofs.Ws

namespace Go.Proofs.Ws
open Go Go.Fw Go.Gx Go.Sp
theorem makeOK_pre {l : List Wy} {L : List Change} {m : Int} (h : MakeOK l L m) (j : Nat) : MakeOK l (L.take j) m :=
  ⟨fun c hc => h.way c (List.mem_of_mem_take hc), fun c hc => h.room c (List.mem_of_mem_take hc), List.Pairwise.sublist (List.take_sublist j L) h.once⟩
theorem makeL_snoc (l : List Wy) (L : List Change) (c : Change) (m : Int) : makeL l (L ++ [c]) m = adj (makeL l L m) c m := by simp [makeL]
theorem makeL_len : ∀ (L : List Change) (l : List Wy) (m : Int), (makeL l L m).length = l.length
  | [], _, _ => rfl
  | c :: L, l, m => by show (makeL (adj l c m) L m).length = _; rw [makeL_len L, adj_len]
theorem Zk {l : List Wy} (hl : NetOK l) {L : List Change} (hL : L.length ≤ 100000) {most : Int} (h0 : 0 ≤ mostL l L most) (h : MakeOK l L (mostL l L most)) : zF l L most = some (makeL l L (mostL l L most)) := by
  unfold zF
  have k1 : iterM FU (qO L l) ⟨most, 0⟩ = some (mostL l L most) := by
    have key := iterM_run (f := qO L l) (fun j => ⟨mostL l (L.take j) most, (j : Int)⟩) L.length (b := mostL l L most) (fun j hj => ?_) ?_ FU (FU_lt (by omega))
    · exact key
    · unfold qO
      have hlt : (j : Int) < (L.length : Int) := by omega
      simp only [hlt, if_true]
      rw [ix_nat nil0 hj, Option.bind_some]
      have hc : L.getD j nil0 = L[j] := by simp [List.getD_eq_getElem?_getD, hj]
      rw [hc, Ke hl (h.way _ (List.getElem_mem hj)), Option.bind_some, Yw, Option.bind_some, addc_eq (by omega), Option.bind_some]
      have e : L.take (j + 1) = L.take j ++ [L[j]] := by rw [List.take_append_getElem]
      rw [e]
      unfold mostL
      rw [List.foldl_append]
      rfl
    · unfold qO
      simp [mostL]
  rw [k1, Option.bind_some]
  generalize mostL l L most = m at h0 h
  have k2 : iterM FU (qN L m) ⟨0, l⟩ = some (makeL l L m) := by
    have key := iterM_run (f := qN L m) (fun j => ⟨(j : Int), makeL l (L.take j) m⟩) L.length (b := makeL l L m) (fun j hj => ?_) ?_ FU (FU_lt (by omega))
    · exact key
    · unfold qN
      have hlt : (j : Int) < (L.length : Int) := by omega
      simp only [hlt, if_true]
      rw [ix_nat nil0 hj, Option.bind_some]
      have hc : L.getD j nil0 = L[j] := by simp [List.getD_eq_getElem?_getD, hj]
      rw [hc]
      have hw := h.way _ (List.getElem_mem hj)
      have hroom := h.room _ (List.getElem_mem hj)
      have hok := makeL_ok (L.take j) hl h0 (makeOK_pre h j)
      have hw2 : isWay (makeL l (L.take j) m) L[j] := by unfold isWay at *; rw [makeL_len]; exact hw
      have hk := hok.2 _ (wy_mem hw2)
      have hkl := hl.2 _ (wy_mem hw)
      have b1 := hk.goes; have b2 := hk.hi
      have b3 : m ≤ 1000000 := by
        have c1 := hkl.goes; have c2 := hkl.hi; have c3 := hkl.lo
        unfold rm at hroom
        split at hroom <;> omega
      have e : L.take (j + 1) = L.take j ++ [L[j]] := by rw [List.take_append_getElem]
      rw [e, makeL_snoc]
      unfold adj adjW
      cases hmo : (L[j]).more with
      | true =>
        simp only [if_true]
        rw [ix_way hw2, Option.bind_some, addc_eq (by omega), Option.bind_some, Option.bind_some, Option.bind_some, Option.bind_some, addc_eq (by omega), Option.bind_some]
        rfl
      | false =>
        simp only [Bool.false_eq_true, if_false]
        rw [ix_way hw2, Option.bind_some, subc_eq (by omega), Option.bind_some, Option.bind_some, Option.bind_some, Option.bind_some, addc_eq (by omega), Option.bind_some]
        rfl
    · unfold qN
      simp
  rw [k2, Option.bind_some]
def goneP (x : Strip) : Span := ⟨max 0 (x.lay.lo + x.seeded.lo - x.left.hi), x.lay.hi + x.seeded.hi - x.left.lo⟩
def In30 (x : Span) : Prop := 0 ≤ x.lo ∧ x.lo ≤ 30 ∧ 0 ≤ x.hi ∧ x.hi ≤ 30
theorem Zo {x : Strip} (h1 : In30 x.lay) (h2 : In30 x.seeded) (h3 : In30 x.left) : kc x = some (goneP x) := by
  unfold kc goneP
  unfold In30 at *
  rw [addc_eq (by omega), Option.bind_some, subc_eq (by omega), Option.bind_some, addc_eq (by omega), Option.bind_some, subc_eq (by omega), Option.bind_some]
structure NetS (st : List Strip) (ca : List Span) : Prop where
  s6 : st.length ≤ 6
  c5 : ca.length ≤ 5
  sp : ∀ x, x ∈ st → In30 x.lay ∧ In30 x.seeded ∧ In30 x.left ∧ (goneP x).lo ≤ (goneP x).hi
  cp : ∀ x, x ∈ ca → In30 x ∧ x.lo ≤ x.hi
def stripW (g : Nat → Span) (k : Nat) : Wy := ⟨0, 1 + (k : Int), (g k).lo, (g k).hi, 0, 0⟩
def innerW (c : Nat → Nat → Int) (t k : Nat) : Wy := ⟨1 + (k : Int), 7 + (t : Int), 0, 1000000, c t k, 0⟩
def tenW (h : Nat → Span) (t : Nat) : Wy := ⟨7 + (t : Int), 0, (h t).lo, (h t).hi, 0, 0⟩
def tenL (S : Nat) (h : Nat → Span) (R : Nat → Nat → Bool) (c : Nat → Nat → Int) (t : Nat) : List Wy := ((List.range S).filter (R t)).map (innerW c t) ++ [tenW h t]
def laidTo (S : Nat) (g h : Nat → Span) (R : Nat → Nat → Bool) (c : Nat → Nat → Int) (T : Nat) : List Wy := (List.range S).map (stripW g) ++ (List.range T).flatMap (tenL S h R c)
def gOf (st : List Strip) (k : Nat) : Span := goneP (st.getD k default)
def hOf (ca : List Span) (t : Nat) : Span := ca.getD t default
def rOf (mp : List (Pair × Bool)) (t k : Nat) : Bool := (aget mp ⟨(t : Int), (k : Int)⟩).getD false
def cOf (cf : Pair → Option Int) (t k : Nat) : Int := (cf ⟨(t : Int), (k : Int)⟩).getD 0
def laidS (st : List Strip) (ca : List Span) (mp : List (Pair × Bool)) (cf : Pair → Option Int) : List Wy := laidTo st.length (gOf st) (hOf ca) (rOf mp) (cOf cf) ca.length
def CfOK (st : List Strip) (ca : List Span) (cf : Pair → Option Int) : Prop := ∀ t k : Nat, t < ca.length → k < st.length → ∃ c : Int, cf ⟨(t : Int), (k : Int)⟩ = some c ∧ -1 ≤ c ∧ c ≤ 1
theorem filt_len {S : Nat} {p : Nat → Bool} : ((List.range S).filter p).length ≤ S := Nat.le_trans (List.length_filter_le _ _) (by simp)
theorem laidTo_len {S T : Nat} {g h : Nat → Span} {R : Nat → Nat → Bool} {c : Nat → Nat → Int} : (laidTo S g h R c T).length ≤ S + T * (S + 1) := by
  induction T with
  | zero => simp [laidTo]
  | succ T ih =>
    have e : laidTo S g h R c (T + 1) = laidTo S g h R c T ++ tenL S h R c T := by
      unfold laidTo
      rw [List.range_succ, List.flatMap_append, List.append_assoc]
      simp
    rw [e, List.length_append]
    have : (tenL S h R c T).length ≤ S + 1 := by
      unfold tenL
      have := filt_len (S := S) (p := R T)
      simp only [List.length_append, List.length_map, List.length_cons, List.length_nil]; omega
    rw [Nat.add_mul, Nat.one_mul]
    omega
theorem reachL_map (n : Nat) (mp : List (Pair × Bool)) (t : Nat) : reachL n mp (t : Int) = ((List.range n).filter (rOf mp t)).map fun k : Nat => (k : Int) := by
  unfold reachL
  rw [List.filter_map]
  rfl
theorem jai {st : List Strip} {ca : List Span} (hS : NetS st ca) {mp : List (Pair × Bool)} {cf : Pair → Option Int} (hc : CfOK st ca cf) : JB st ca mp cf = some (laidS st ca mp cf) := by
  unfold JB
  have h6 := hS.s6; have h5 := hS.c5
  have k1 : iterM FU (qR st) ⟨0, []⟩ = some ((List.range st.length).map (stripW (gOf st))) := by
    have key := iterM_run (f := qR st) (fun j => ⟨(j : Int), (List.range j).map (stripW (gOf st))⟩) st.length (b := (List.range st.length).map (stripW (gOf st))) (fun j hj => ?_) ?_ FU (FU_lt (by omega))
    · exact key
    · unfold qR
      have hlt : (j : Int) < (st.length : Int) := by omega
      simp only [hlt, if_true]
      have hx : st.getD j default = st[j] := by simp [List.getD_eq_getElem?_getD, hj]
      obtain ⟨b1, b2, b3, b4⟩ := hS.sp _ (List.getElem_mem hj)
      rw [ix_nat default hj, Option.bind_some, hx, addc_eq (by omega), Option.bind_some, Zo b1 b2 b3, Option.bind_some, Option.bind_some, appc_eq (by simp only [List.length_map, List.length_range, List.length_cons, List.length_nil]; omega), Option.bind_some, addc_eq (by omega), Option.bind_some]
      rw [List.range_succ, List.map_append]
      simp only [List.map_cons, List.map_nil, stripW, gOf, hx]
      rfl
    · unfold qR
      simp
  rw [k1, Option.bind_some]
  have k2 : iterM FU (qU ca st cf mp) ⟨0, (List.range st.length).map (stripW (gOf st))⟩ = some (laidS st ca mp cf) := by
    have key := iterM_run (f := qU ca st cf mp) (fun j => ⟨(j : Int), laidTo st.length (gOf st) (hOf ca) (rOf mp) (cOf cf) j⟩) ca.length (b := laidS st ca mp cf) (fun j hj => ?_) ?_ FU (FU_lt (by omega))
    · have e : laidTo st.length (gOf st) (hOf ca) (rOf mp) (cOf cf) 0 = (List.range st.length).map (stripW (gOf st)) := by simp [laidTo]
      rw [← e]
      exact key
    · unfold qU
      have hlt : (j : Int) < (ca.length : Int) := by omega
      have hln : (st.length : Int) ≤ 1000000 := by omega
      simp only [hlt, if_true]
      have hx : ca.getD j default = ca[j] := by simp [List.getD_eq_getElem?_getD, hj]
      have hbound := laidTo_len (S := st.length) (T := j) (g := gOf st) (h := hOf ca) (R := rOf mp) (c := cOf cf)
      have hb2 : (laidTo st.length (gOf st) (hOf ca) (rOf mp) (cOf cf) j).length ≤ 6 + 5 * 7 := by
        have : j * (st.length + 1) ≤ 5 * 7 := Nat.mul_le_mul (by omega) (by omega)
        omega
      rw [ix_nat default hj, Option.bind_some]
      unfold Kd
      rw [Option.bind_some, if_pos hln, reachL_map]
      have hstep : ∀ (k : Nat), k < st.length → ∀ (acc : List Wy), acc.length ≤ 1000 → yH ⟨(j : Int), laidTo st.length (gOf st) (hOf ca) (rOf mp) (cOf cf) j⟩ cf (k : Int) acc = some (acc ++ [innerW (cOf cf) j k]) := fun k hkl acc hacc => by
        obtain ⟨c, hcf, hc1, hc2⟩ := hc j k hj hkl
        unfold yH
        simp only
        rw [addc_eq (by omega), Option.bind_some, addc_eq (by omega), Option.bind_some, hcf, Option.bind_some, appc_eq (by simp only [List.length_cons, List.length_nil]; omega), Option.bind_some]
        simp [innerW, cOf, hcf]
      have hinner : ∀ (L : List Nat), (∀ k, k ∈ L → k < st.length) → ∀ (acc : List Wy), acc.length + L.length ≤ 1000 → iterL (yH ⟨(j : Int), laidTo st.length (gOf st) (hOf ca) (rOf mp) (cOf cf) j⟩ cf) (L.map fun k : Nat => (k : Int)) acc = some (acc ++ L.map (innerW (cOf cf) j)) := by
        intro L
        induction L with
        | nil => intro _ acc _; simp [iterL]
        | cons k L ih =>
          intro hk acc hacc
          simp only [List.length_cons] at hacc
          simp only [List.map_cons, iterL]
          rw [hstep k (hk k (by simp)) acc (by omega), Option.bind_some, ih (fun x hx => hk x (by simp [hx])) _ (by simp only [List.length_append, List.length_cons, List.length_nil]; omega)]
          simp
      have hfl := filt_len (S := st.length) (p := rOf mp j)
      rw [hinner _ (fun k hk => by have := (List.mem_filter.1 hk).1; simpa using this) _ (by omega), Option.bind_some, addc_eq (by omega), Option.bind_some, appc_eq (by
        simp only [List.length_append, List.length_map, List.length_cons, List.length_nil]; omega), Option.bind_some, addc_eq (by omega), Option.bind_some]
      have e : laidTo st.length (gOf st) (hOf ca) (rOf mp) (cOf cf) (j + 1) = laidTo st.length (gOf st) (hOf ca) (rOf mp) (cOf cf) j ++ tenL st.length (hOf ca) (rOf mp) (cOf cf) j := by
        unfold laidTo
        rw [List.range_succ, List.flatMap_append, List.append_assoc]
        simp
      rw [e]
      simp only [tenL, tenW, hOf, hx, List.append_assoc]
      rfl
    · unfold qU
      simp [laidS]
  rw [k2, Option.bind_some]
theorem laid_mem {st : List Strip} {ca : List Span} {mp : List (Pair × Bool)} {cf : Pair → Option Int} {w : Wy} (hw : w ∈ laidS st ca mp cf) :
    (∃ k, k < st.length ∧ w = stripW (gOf st) k) ∨ (∃ t k, t < ca.length ∧ k < st.length ∧ rOf mp t k = true ∧ w = innerW (cOf cf) t k) ∨ (∃ t, t < ca.length ∧ w = tenW (hOf ca) t) := by
  unfold laidS laidTo at hw
  rcases List.mem_append.1 hw with hw | hw
  · obtain ⟨k, hk, rfl⟩ := List.mem_map.1 hw
    exact .inl ⟨k, by simpa using hk, rfl⟩
  · obtain ⟨t, ht, hw⟩ := List.mem_flatMap.1 hw
    unfold tenL at hw
    rcases List.mem_append.1 hw with hw | hw
    · obtain ⟨k, hk, rfl⟩ := List.mem_map.1 hw
      obtain ⟨h1, h2⟩ := List.mem_filter.1 hk
      exact .inr (.inl ⟨t, k, by simpa using ht, by simpa using h1, h2, rfl⟩)
    · rw [List.mem_singleton] at hw
      exact .inr (.inr ⟨t, by simpa using ht, hw⟩)
theorem gOf_ok {st : List Strip} {ca : List Span} (hS : NetS st ca) {k : Nat} (hk : k < st.length) : 0 ≤ (gOf st k).lo ∧ (gOf st k).lo ≤ (gOf st k).hi ∧ (gOf st k).hi ≤ 60 := by
  have hx : st.getD k default = st[k] := by simp [List.getD_eq_getElem?_getD, hk]
  obtain ⟨b1, b2, b3, b4⟩ := hS.sp _ (List.getElem_mem hk)
  unfold gOf
  rw [hx]
  unfold In30 at *
  refine ⟨by show 0 ≤ max _ _; omega, b4, by show _ + _ - _ ≤ (60 : Int); omega⟩
theorem hOf_ok {st : List Strip} {ca : List Span} (hS : NetS st ca) {t : Nat} (ht : t < ca.length) : 0 ≤ (hOf ca t).lo ∧ (hOf ca t).lo ≤ (hOf ca t).hi ∧ (hOf ca t).hi ≤ 30 := by
  have hx : ca.getD t default = ca[t] := by simp [List.getD_eq_getElem?_getD, ht]
  obtain ⟨b1, b2⟩ := hS.cp _ (List.getElem_mem ht)
  unfold hOf
  rw [hx]
  unfold In30 at *
  omega
theorem laid_ok {st : List Strip} {ca : List Span} (hS : NetS st ca) {mp : List (Pair × Bool)} {cf : Pair → Option Int} (hc : CfOK st ca cf) : NetOK (laidS st ca mp cf) := by
  have h6 := hS.s6; have h5 := hS.c5
  refine ⟨?_, fun w hw => ?_⟩
  · have := laidTo_len (S := st.length) (T := ca.length) (g := gOf st) (h := hOf ca) (R := rOf mp) (c := cOf cf)
    have h2 : ca.length * (st.length + 1) ≤ 5 * 7 := Nat.mul_le_mul (by omega) (by omega)
    unfold laidS
    omega
  · rcases laid_mem hw with ⟨k, hk, rfl⟩ | ⟨t, k, ht, hk, _, rfl⟩ | ⟨t, ht, rfl⟩
    · have := gOf_ok hS hk
      unfold stripW
      exact ⟨by simp, by simp only; omega, by simp only; omega, by simp, by simp only; omega, by simp only; omega, by simp only; omega⟩
    · obtain ⟨c, hcf, h1, h2⟩ := hc t k ht hk
      have e : cOf cf t k = c := by simp [cOf, hcf]
      unfold innerW
      exact ⟨by simp only; omega, by simp only; omega, by simp only; omega, by simp only [e]; omega, by simp, by simp, by simp⟩
    · have := hOf_ok hS ht
      unfold tenW
      exact ⟨by simp only; omega, by simp, by simp only; omega, by simp, by simp only; omega, by simp only; omega, by simp only; omega⟩
theorem laid_zero {st : List Strip} {ca : List Span} {mp : List (Pair × Bool)} {cf : Pair → Option Int} : Round (laidS st ca mp cf) := fun φ => by
  unfold bal
  rw [sumI_congr (g := fun _ => 0) (fun w hw => ?_), sumI_zero]
  have : w.goes = 0 := by rcases laid_mem hw with ⟨k, hk, rfl⟩ | ⟨t, k, ht, hk, _, rfl⟩ | ⟨t, ht, rfl⟩ <;> rfl
  rw [this, Int.mul_zero]
end Go.Proofs.Ws

