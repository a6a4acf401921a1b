/- What the functions that the law StripMarks reaches come to, and why it holds: part 6. -/
import Derived.Test.YtnkphlgohnlooaaGreatStripMarks5
namespace Go.Proofs.Ws
set_option maxHeartbeats 4000000
set_option maxRecDepth 100000
open Go Go.Fw Go.Gx Go.Sp
open Tryz
set_option linter.unusedVariables false
theorem Zf : (Tryz.prog.info? 4).map (fun i => (i.zero, i.size, i.bytes)) = some (some (.bool false), 1, 1) := by kernel_rfl
theorem jbx : (Tryz.prog.info? 93).map (fun i => (i.zero, i.size, i.bytes)) = some (some (.slice none 0 0), 1, 24) := by kernel_rfl
theorem jbv : (Tryz.prog.info? 98).map (fun i => (i.zero, i.size, i.bytes)) = some (some (.agg #[.int .i64 0, .int .i64 0, .int .i64 0, .int .i64 0, .int .i64 0, .int .i64 0, .int .i64 0]), 7, 56) := by kernel_rfl
theorem Zx : Tryz.prog.stoodInHeld 32 = false := by decide +kernel
theorem jbs : Tryz.prog.eqGuardType Tryz.prog.depth 85 = false := by decide +kernel
theorem jbp : Tryz.prog.stoodInHeld 85 = false := by decide +kernel
theorem jbJ (x y : Strip) (w : World) : (Op.equalIn 10000 85 (.agg (RSt.cells x).toArray) (.agg (RSt.cells y).toArray)).run Tryz.prog w = .ok (decide (x = y)) w := by
  have h := equal_structG (xs := (RSt.cells x).toArray) (ys := (RSt.cells y).toArray) underlying85 jbp (.int Y (fun w => isAgg3 w) ⟨_, underlying3⟩ Y Y (.sub (us := [_, _]) (vs := [_, _]) Y (fun w => isAgg32 w) (fun w => sizeOf32 w) Y Y Y Y underlying32 Zx (.int Y (fun w => isAgg3 w) ⟨_, underlying3⟩ Y Y (.int Y (fun w => isAgg3 w) ⟨_, underlying3⟩ Y Y .nil)) (.sub (us := [_, _]) (vs := [_, _]) Y (fun w => isAgg32 w) (fun w => sizeOf32 w) Y Y Y Y underlying32 Zx (.int Y (fun w => isAgg3 w) ⟨_, underlying3⟩ Y Y (.int Y (fun w => isAgg3 w) ⟨_, underlying3⟩ Y Y .nil)) (.sub (us := [_, _]) (vs := [_, _]) Y (fun w => isAgg32 w) (fun w => sizeOf32 w) Y Y Y Y underlying32 Zx (.int Y (fun w => isAgg3 w) ⟨_, underlying3⟩ Y Y (.int Y (fun w => isAgg3 w) ⟨_, underlying3⟩ Y Y .nil)) .nil)))) w
  rw [h]
  congr 1
  obtain ⟨x0, ⟨x1_0, x1_1⟩, ⟨x2_0, x2_1⟩, ⟨x3_0, x3_1⟩⟩ := x
  obtain ⟨y0, ⟨y1_0, y1_1⟩, ⟨y2_0, y2_1⟩, ⟨y3_0, y3_1⟩⟩ := y
  rw [Bool.eq_iff_iff]
  simp only [Bool.and_eq_true, decide_eq_true_eq, Strip.mk.injEq, Span.mk.injEq, and_true]
def Qm (s0 : Scalps) : Option Bool :=
 (if 12 < (s0.strips.length : Int) then
 (some true) else
 (some (decide (10 < (s0.carried.length : Int))))).bind fun o =>
 some o
theorem jaE (s0 : Scalps) (qa0 : Option Addr) (na0 ca0 : Nat) (qa1 : Option Addr) (na1 ca1 : Nat) (w : World) (hw : HV w (keys [] []) [] [] [(aB qa0, aO qa0, RSt.enc s0.strips), (aB qa1, aO qa1, RSp.enc s0.carried)] w) (hna0 : s0.strips.length = na0) (hqa0 : AOK na0 qa0) (hla0 : na0 ≤ ca0) (hna1 : s0.carried.length = na1) (hqa1 : AOK na1 qa1) (hla1 : na1 ≤ ca1) {res : Bool} (hm : Qm s0 = some res) :
    Calls Tryz.prog 30 #[.agg #[.slice qa0 na0 ca0, .slice qa1 na1 ca1]] w (fun en w' => ∃ l : Unit, en = .returned (.bool res) ∧ (True) ∧ HV w (keys [] []) [] [] [] w') := by
  unfold Qm at hm
  refine kj func30 Y ntmps30 Y (e := [(0, _)]) Y hw (jp ?_)
  refine jK Y Y (fun b h1 => ?_)
  refine jm Y Y (jo (jk ?_))
  obtain ⟨o, h2, h3⟩ := bindO hm
  refine jD (ι := Unit) (fun l => True) (fun l => [(2, .bool o)]) (fun l => [kc b #[.slice qa0 na0 ca0, .slice qa1 na1 ca1] 25]) (fun l => []) ?_ ?_
  ·replace hm := h2
   refine jh (jM 0 runUnderlying25 Y sizeOf22 Y Y (jS 0 isAgg22 Y Y Y Y (jc Y Y Y (fun w _ => jB hna0 (runUnderlying22 w) Y) (jc Y Y Y (fun _ _ => JU Y Y) (je Y Y ?_)))))
   refine jH 7 Y (fun h4 => ?_) (fun h4 => ?_)
   ·replace hm := ifD h4 hm
    refine g_k Y Y Y Y (g_k Y Y Y Y (g_k Y Y Y Y (g_k Y Y Y Y (j8 Y Y Y (jm Y Y (jv ?_))))))
    obtain rfl := sj hm
    exact jg () (trivial) (sE Y) (fun w hh => hh)
   replace hm := ifE h4 hm
   refine jb Y Y (jM 1 runUnderlying25 Y sizeOf23 Y Y (jb Y Y (jS 0 isAgg23 Y Y Y Y (jb Y Y (jc Y Y Y (fun w _ => jB hna1 (runUnderlying23 w) Y) (jb Y Y (jc Y Y Y (fun _ _ => JU Y Y) ?_)))))))
   refine ky Y Y Y (jm Y Y (jv ?_))
   obtain rfl := sj hm
   exact jg () (trivial) (sE Y) (fun w hh => hh)
  intro l hj
  replace hm := h3
  refine ja (jw ?_)
  obtain rfl := sj hm
  refine jn Y (fun w hh => (.tmp Y .nil)) (fun w hh => ⟨(), rfl, trivial, hh.se [] [] 2 Y Y Y rfl⟩)
structure KU where
  n3 : Int
  t9 : Int
def Kd (s0 : Scalps) (s : KU) : Option (KU ⊕ Int) :=
 if s.t9 < (s0.carried.length : Int) then
 (((ix s0.carried s.t9).bind fun t11 =>
 (if 0 ≤ t11.hi then
 (if t11.hi ≤ 30 then
 (some (decide (s.n3 < 1000))) else
 (some false)) else
 (some false)).bind fun o_2 =>
 if o_2 = true then
 ((addc t11.hi 1).bind fun t28 =>
 (mulc s.n3 t28).bind fun t29 =>
 some t29) else
 (some s.n3)).bind fun o_1 =>
 (addc s.t9 1).bind fun t30 =>
 some (.inl (⟨o_1, t30⟩ : KU))) else
 (some (.inr s.n3))
def QY (s0 : Scalps) : Option Bool :=
 (iterM FU (Kd s0) (⟨1, 0⟩ : KU)).bind fun o =>
 ((Qm s0).bind fun t32 =>
 if t32 = true then
 (some true) else
 (if 500 < o then
 (some (decide ((s0.carried.length : Int) ≤ 5))) else
 (some false))).bind fun o_3 =>
 some o_3
theorem jaX (s0 : Scalps) (qa0 : Option Addr) (na0 ca0 : Nat) (qa1 : Option Addr) (na1 ca1 : Nat) (w : World) (hw : HV w (keys [] []) [] [] [(aB qa0, aO qa0, RSt.enc s0.strips), (aB qa1, aO qa1, RSp.enc s0.carried)] w) (hna0 : s0.strips.length = na0) (hqa0 : AOK na0 qa0) (hla0 : na0 ≤ ca0) (hna1 : s0.carried.length = na1) (hqa1 : AOK na1 qa1) (hla1 : na1 ≤ ca1) {res : Bool} (hm : QY s0 = some res) :
    Calls Tryz.prog 7 #[.agg #[.slice qa0 na0 ca0, .slice qa1 na1 ca1]] w (fun en w' => ∃ l : Unit, en = .returned (.bool res) ∧ (True) ∧ HV w (keys [] []) [] [] [] w') := by
  unfold QY at hm
  refine kj func7 Y ntmps7 Y (e := [(0, _)]) Y hw (jp ?_)
  refine jK Y Y (fun b h1 => ?_)
  refine jm Y Y (j3 (jm Y Y (jo (jk (jp (jM 1 runUnderlying25 Y sizeOf23 Y Y (jS 0 isAgg23 Y Y Y Y ?_)))))))
  refine jc Y Y Y (fun w _ => jB hna1 (runUnderlying23 w) Y) (je Y Y (jo ?_))
  obtain ⟨o, h2, h3⟩ := bindO hm
  refine jD (ι := Unit) (fun l => True) (fun l => [(1, ptr b 0), (3, .int .i64 o)]) (fun l => [kc b #[.slice qa0 na0 ca0, .slice qa1 na1 ca1] 25]) (fun l => []) ?_ ?_
  ·replace hm := h2
   refine jl ?_
   refine jF (ι := Unit) hm (fun s l_1 => True) (fun s l_1 => [(1, ptr b 0), (3, .int .i64 s.n3), (7, .slice qa1 na1 ca1), (8, .int .i64 (s0.carried.length : Int)), (9, .int .i64 s.t9)]) (fun s l_1 => [kc b #[.slice qa0 na0 ca0, .slice qa1 na1 ca1] 25]) (fun s l_1 => []) () (trivial) (sE Y) (fun w hh => hh) (fun s l_1 r hpl hm h4 => ?_)
   unfold Kd at hm
   refine jp (q8 Y Y Y (jo (jk ?_)))
   refine jq Y (fun h5 => ?_) (fun h5 => ?_)
   ·replace hm := ifD h5 hm
    refine jt (ja (jk ?_))
    obtain ⟨o_1, h6, h7⟩ := bindO hm
    refine jD (ι := Unit) (fun l_2 => True) (fun l_2 => [(1, ptr b 0), (3, .int .i64 o_1), (7, .slice qa1 na1 ca1), (8, .int .i64 (s0.carried.length : Int)), (9, .int .i64 s.t9)]) (fun l_2 => [kc b #[.slice qa0 na0 ca0, .slice qa1 na1 ca1] 25]) (fun l_2 => []) ?_ ?_
    ·replace hm := h6
     refine jl (jp ?_)
     obtain ⟨t11, h8, hm⟩ := bindO hm
     refine jc Y Y Y (fun w _ => jY h8 (runUnderlying23 w) (sizeOf32 w) Y Y hna1 hqa1) ?_
     refine jc Y Y Y (fun w hh => kz RSp 0 [.int .i64 t11.lo, .int .i64 t11.hi] h8 (isAgg32 w) (sizeOf32 w) Y (hh.seg 1 Y) Y (Nat.add_zero _).symm) ?_
     refine ju (fun w => zeroValue32 w) Y (fun b_1 h9 => ?_)
     refine jE (us := #[_, _]) (cs' := [_, _]) (S' := [_, _]) 0 (fun w => sizeOf32 w) Y Y Y Y Y Y Y (jo (jk ?_))
     obtain ⟨o_2, h10, h11⟩ := bindO hm
     refine jD (ι := Unit) (fun l_3 => True) (fun l_3 => [(1, ptr b 0), (3, .int .i64 s.n3), (5, ptr b_1 0), (7, .slice qa1 na1 ca1), (8, .int .i64 (s0.carried.length : Int)), (9, .int .i64 s.t9), (24, .bool o_2)]) (fun l_3 => [kc b_1 #[.int .i64 t11.lo, .int .i64 t11.hi] 32, kc b #[.slice qa0 na0 ca0, .slice qa1 na1 ca1] 25]) (fun l_3 => []) ?_ ?_
     ·replace hm := h10
      refine jh (jM 1 runUnderlying32 Y sizeOf3 Y Y (jS 0 isAgg3 Y Y Y Y (jc Y Y Y (fun _ _ => QS Y Y) (je Y Y ?_))))
      refine jH 16 Y (fun h12 => ?_) (fun h12 => ?_)
      ·replace hm := ifD h12 hm
       refine jb Y Y (jM 1 runUnderlying32 Y sizeOf3 Y Y (jb Y Y (jS 0 isAgg3 Y Y Y Y (jb Y Y (jc Y Y Y (fun _ _ => ZC Y Y) (j8 Y Y Y (je Y Y ?_)))))))
       refine jH 21 Y (fun h13 => ?_) (fun h13 => ?_)
       ·replace hm := ifD h13 hm
        refine jb Y Y (je Y Y (jb Y Y (q8 Y Y Y (j8 Y Y Y (jv ?_)))))
        obtain rfl := sj hm
        exact jg () (trivial) (sE Y) (fun w hh => hh)
       replace hm := ifE h13 hm
       refine g_k Y Y Y Y (g_k Y Y Y Y (ky Y Y Y (jv ?_)))
       obtain rfl := sj hm
       exact jg () (trivial) (sE Y) (fun w hh => hh)
      replace hm := ifE h12 hm
      refine g_k Y Y Y Y (g_k Y Y Y Y (g_k Y Y Y Y (ky Y Y Y (je Y Y (g_k Y Y Y Y (g_k Y Y Y Y (ky Y Y Y ?_)))))))
      refine jv ?_
      obtain rfl := sj hm
      exact jg () (trivial) (sE Y) (fun w hh => hh)
     intro l_3 hj
     replace hm := h11
     refine ja ?_
     refine jq Y (fun h14 => ?_) (fun h14 => ?_)
     ·replace hm := ifT (h14) hm
      refine jh (je Y Y (jM 1 runUnderlying32 Y sizeOf3 Y Y (jS 0 isAgg3 Y Y Y Y ?_)))
      obtain ⟨t28, h15, hm⟩ := bindO hm
      refine kS h15 Y Y Y ?_
      obtain ⟨t29, h16, hm⟩ := bindO hm
      refine jc Y Y Y (fun _ _ => Q1 h16 Y Y) (jm Y Y (jv (js ?_)))
      obtain rfl := sj hm
      exact jg () (trivial) (sE Y) (hsE [1] [] 0 Y Y Y Y)
     replace hm := ifN h14 hm
     refine jt (js ?_)
     obtain rfl := sj hm
     exact jg () (trivial) (sE Y) (hsE [1] [] 0 Y Y Y Y)
    intro l_2 hj
    replace hm := h7
    refine ja (jh ?_)
    obtain ⟨t30, h17, hm⟩ := bindO hm
    refine kS h17 Y Y Y (je Y Y (jv ?_))
    obtain rfl := sj hm
    refine ja ?_
    exact jy _ () Y (trivial) (sE Y) (fun w hh => hh)
   replace hm := ifE h5 hm
   refine jO (jj (jj (jC ?_)))
   obtain rfl := sj hm
   have hbo := h4 _ Y
   subst hbo
   exact jg () (trivial) (sE Y) (fun w hh => hh)
  intro l hj
  replace hm := h3
  refine ja (jk ?_)
  obtain ⟨o_3, h18, h19⟩ := bindO hm
  refine jD (ι := Unit) (fun l_4 => True) (fun l_4 => [(2, .bool o_3)]) (fun l_4 => [kc b #[.slice qa0 na0 ca0, .slice qa1 na1 ca1] 25]) (fun l_4 => []) ?_ ?_
  ·replace hm := h18
   refine jh (qh [_, _] 0 isAgg25 sizeOf25 Y Y Y Y ?_)
   obtain ⟨t32, h20, hm⟩ := bindO hm
   refine jd [] [] Y Y Y Y Y Y Y call30 (fun w hh => jaE s0 qa0 na0 ca0 qa1 na1 ca1 w (HV.callee (S0 := []) (vs0 := []) hh (roR hh 0 Y (roR hh 1 Y roN))) hna0 hqa0 hla0 hna1 hqa1 hla1 h20) (fun l_5 h21 => ?_)
   refine je Y Y ?_
   refine jH 33 Y (fun h22 => ?_) (fun h22 => ?_)
   ·replace hm := ifT (h22) hm
    refine g_k Y Y Y Y (g_k Y Y Y Y (g_k Y Y Y Y ?_))
    refine jx Y Y Y Y Y ?_
    refine jx Y Y Y Y Y ?_
    refine jx Y Y Y Y Y ?_
    refine jx Y Y Y Y Y ?_
    refine g_k Y Y Y Y (j8 Y Y Y (jm Y Y (jv ?_)))
    obtain rfl := sj hm
    exact jg () (trivial) (sE Y) (fun w hh => hh)
   replace hm := ifN h22 hm
   refine jb Y Y (je Y Y (jb Y Y (jc Y Y Y (fun _ _ => JU Y Y) (jb Y Y (je Y Y ?_)))))
   refine jH 36 Y (fun h23 => ?_) (fun h23 => ?_)
   ·replace hm := ifD h23 hm
    refine jb Y Y (jM 1 runUnderlying25 Y sizeOf23 Y Y (jb Y Y (jS 0 isAgg23 Y Y Y Y (jb Y Y (jc Y Y Y (fun w _ => jB hna1 (runUnderlying23 w) Y) (jb Y Y (jc Y Y Y (fun _ _ => ZC Y Y) ?_)))))))
    refine jb Y Y (j8 Y Y Y (ky Y Y Y (jm Y Y (jv ?_))))
    obtain rfl := sj hm
    exact jg () (trivial) (sE Y) (fun w hh => hh)
   replace hm := ifE h23 hm
   refine g_k Y Y Y Y (g_k Y Y Y Y (g_k Y Y Y Y (g_k Y Y Y Y (jb Y Y (ky Y Y Y (ky Y Y Y (jm Y Y ?_)))))))
   refine jv ?_
   obtain rfl := sj hm
   exact jg () (trivial) (sE Y) (fun w hh => hh)
  intro l_4 hj
  replace hm := h19
  refine ja (jw ?_)
  obtain rfl := sj hm
  refine jn Y (fun w hh => (.tmp Y .nil)) (fun w hh => ⟨(), rfl, trivial, hh.se [] [] 2 Y Y Y rfl⟩)
def yo (l0 : (List Strip)) : Option (List Strip) :=
 (makec 56 (⟨0, (⟨0, 0⟩ : Span), (⟨0, 0⟩ : Span), (⟨0, 0⟩ : Span)⟩ : Strip) 0 (l0.length : Int)).bind fun t5 =>
 (appc 56 t5 l0).bind fun t7 =>
 some t7
theorem Q8 (l0 : (List Strip)) (qa0 : Option Addr) (na0 ca0 : Nat) (w : World) (hw : HV w (keys [] []) [] [] [(aB qa0, aO qa0, RSt.enc l0)] w) (hna0 : l0.length = na0) (hqa0 : AOK na0 qa0) (hla0 : na0 ≤ ca0) {res : (List Strip)} (hm : yo l0 = some res) :
    Calls Tryz.prog 48 #[.slice qa0 na0 ca0] w (fun en w' => ∃ l : VL, en = .returned (sL l) ∧ (VOK 7 l.n l.cap (RSt.enc res) l.sp l.q) ∧ HV w (keys [] []) [] [vL 85 l (RSt.enc res)] [] w') := by
  unfold yo at hm
  refine kj func48 Y ntmps48 Y (e := [(0, _)]) Y hw (jp (jc Y Y Y (fun _ _ => qQ Y) (j3 (je Y Y (jc Y Y Y (fun w _ => jB hna0 (runUnderlying22 w) Y) ?_)))))
  obtain ⟨t5, h2, hm⟩ := bindO hm
  refine kC RSt (⟨0, (⟨0, 0⟩ : Span), (⟨0, 0⟩ : Span), (⟨0, 0⟩ : Span)⟩ : Strip) h2 underlying22 ZY Y Y Y Y Y (fun L h3 => ?_)
  refine je Y Y ?_
  obtain ⟨t7, h4, hm⟩ := bindO hm
  refine yS RSt 0 h4 underlying22 ZY Y Y Y Y Y h3 Y Y hna0 hqa0 (fun w hh => (hh.seg 0 Y)) Y (fun L_1 h5 h5n => ?_)
  refine jT (S' := []) (vs' := [_]) [] [0] 0 Y Y Y Y (jm Y Y (jo (jw ?_)))
  obtain rfl := sj hm
  refine jn Y (fun w hh => (.tmp Y .nil)) (fun w hh => ⟨L_1, rfl, h5, hh.se [] [0] 1 Y Y Y rfl⟩)
def qM (l0 : (List Span)) : Option (List Span) :=
 (makec 16 (⟨0, 0⟩ : Span) 0 (l0.length : Int)).bind fun t5 =>
 (appc 16 t5 l0).bind fun t7 =>
 some t7
theorem Qh (l0 : (List Span)) (qa0 : Option Addr) (na0 ca0 : Nat) (w : World) (hw : HV w (keys [] []) [] [] [(aB qa0, aO qa0, RSp.enc l0)] w) (hna0 : l0.length = na0) (hqa0 : AOK na0 qa0) (hla0 : na0 ≤ ca0) {res : (List Span)} (hm : qM l0 = some res) :
    Calls Tryz.prog 49 #[.slice qa0 na0 ca0] w (fun en w' => ∃ l : VL, en = .returned (sL l) ∧ (VOK 2 l.n l.cap (RSp.enc res) l.sp l.q) ∧ HV w (keys [] []) [] [vL 32 l (RSp.enc res)] [] w') := by
  unfold qM at hm
  refine kj func49 Y ntmps49 Y (e := [(0, _)]) Y hw (jp (jc Y Y Y (fun _ _ => qQ Y) (j3 (je Y Y (jc Y Y Y (fun w _ => jB hna0 (runUnderlying23 w) Y) ?_)))))
  obtain ⟨t5, h2, hm⟩ := bindO hm
  refine kC RSp (⟨0, 0⟩ : Span) h2 underlying23 K2 Y Y Y Y Y (fun L h3 => ?_)
  refine je Y Y ?_
  obtain ⟨t7, h4, hm⟩ := bindO hm
  refine yS RSp 0 h4 underlying23 K2 Y Y Y Y Y h3 Y Y hna0 hqa0 (fun w hh => (hh.seg 0 Y)) Y (fun L_1 h5 h5n => ?_)
  refine jT (S' := []) (vs' := [_]) [] [0] 0 Y Y Y Y (jm Y Y (jo (jw ?_)))
  obtain rfl := sj hm
  refine jn Y (fun w hh => (.tmp Y .nil)) (fun w hh => ⟨L_1, rfl, h5, hh.se [] [0] 1 Y Y Y rfl⟩)
def Ym (s0 : Scalps) : Option Scalps :=
 (yo s0.strips).bind fun t5 =>
 (qM s0.carried).bind fun t8 =>
 some (⟨t5, t8⟩ : Scalps)
theorem YG (s0 : Scalps) (qa0 : Option Addr) (na0 ca0 : Nat) (qa1 : Option Addr) (na1 ca1 : Nat) (w : World) (hw : HV w (keys [] []) [] [] [(aB qa0, aO qa0, RSt.enc s0.strips), (aB qa1, aO qa1, RSp.enc s0.carried)] w) (hna0 : s0.strips.length = na0) (hqa0 : AOK na0 qa0) (hla0 : na0 ≤ ca0) (hna1 : s0.carried.length = na1) (hqa1 : AOK na1 qa1) (hla1 : na1 ≤ ca1) {res : Scalps} (hm : Ym s0 = some res) :
    Calls Tryz.prog 9 #[.agg #[.slice qa0 na0 ca0, .slice qa1 na1 ca1]] w (fun en w' => ∃ l : VL × VL, en = .returned (.agg #[sL l.1, sL l.2]) ∧ (VOK 7 l.1.n l.1.cap (RSt.enc res.strips) l.1.sp l.1.q ∧ VOK 2 l.2.n l.2.cap (RSp.enc res.carried) l.2.sp l.2.q) ∧ HV w (keys [] []) [] [vL 85 l.1 (RSt.enc res.strips), vL 32 l.2 (RSp.enc res.carried)] [] w') := by
  unfold Ym at hm
  refine kj func9 Y ntmps9 Y (e := [(0, _)]) Y hw (jp ?_)
  refine jK Y Y (fun b h3 => ?_)
  refine ju (fun w => zeroValue25 w) Y (fun b_1 h4 => ?_)
  refine jo (jk ?_)
  refine jV none (.free 0 (.hoist 1 (.free 3 (.hoist 4 (.one 2 (.one 5 (.free 6 (.one 7 .done)))))))) (HV _ _ [kc b #[.slice qa0 na0 ca0, .slice qa1 na1 ca1] 25] [] _) Y (by decide +kernel) (fun w k hh => hh.draw k) (hsE [1] [] 0 Y Y Y Y) ?_
  refine kF 0 runUnderlying25 sizeOf22 Y Y Y Y (qs 0 isAgg22 Y Y Y Y Y (kF 1 runUnderlying25 sizeOf23 Y Y Y Y (qs 0 isAgg23 Y Y Y Y Y (jJ Y ?_))))
  obtain ⟨t5, h5, hm⟩ := bindO hm
  refine jd [] [] Y Y Y Y Y Y Y call48 (fun w hh => Q8 s0.strips qa0 na0 ca0 w (HV.callee (S0 := []) (vs0 := []) hh (roR hh 0 Y roN)) hna0 hqa0 hla0 h5) (fun l h6 => ?_)
  have h7 := h6
  refine jT (S' := [_, _]) (vs' := [_]) [0, 1] [0] 0 Y Y Y Y (jr (hsE [1] [] 0 Y Y Y Y) (jJ Y ?_))
  obtain ⟨t8, h8, hm⟩ := bindO hm
  refine jd [] [] Y Y Y Y Y Y Y call49 (fun w hh => Qh s0.carried qa1 na1 ca1 w (HV.callee (S0 := []) (vs0 := []) hh (roR hh 1 Y roN)) hna1 hqa1 hla1 h8) (fun l_1 h9 => ?_)
  have h10 := h9
  refine jT (S' := [_, _]) (vs' := [_, _]) [0, 1] [0, 1] 0 Y Y Y Y (jr (hsE [1] [] 0 Y Y Y Y) (ji Y Y Y Y (fun _ _ => jG (vs := [(0, _), (1, _)]) (cells := [_, _]) Y Y) (jJ Y (jE (us := #[_, _]) (cs' := [_, _]) (S' := [_, _]) 0 (fun w => sizeOf25 w) Y Y Y Y Y Y Y (jr (hsE [1] [] 0 Y Y Y Y) (jI (ja ?_)))))))
  refine jw ?_
  obtain rfl := sj hm
  refine jn Y (fun w hh => (.cell Y (loadVar_agg (vs := [_, _]) (isAgg25 _) (sizeOf25 _) (hh.cells 0 Y Y)) .nil)) (fun w hh => ⟨(l, l_1), rfl, ⟨h7, h10⟩, hh.se [] [1, 0] 2 Y Y Y rfl⟩)
structure zW where
  t13 : Int
  out3_strips : (List Strip)
def zN (s0 : Scalps) (s : zW) : Option (zW ⊕ (List Strip)) :=
 if s.t13 < (s0.strips.length : Int) then
 ((ix s0.strips s.t13).bind fun t15 =>
 (appc 56 s.out3_strips [(⟨t15.tenant, (⟨t15.lay.lo, t15.lay.hi⟩ : Span), (⟨t15.seeded.lo, t15.seeded.hi⟩ : Span), (⟨t15.left.lo, t15.left.hi⟩ : Span)⟩ : Strip)]).bind fun t21 =>
 (addc s.t13 1).bind fun t23 =>
 some (.inl (⟨t23, t21⟩ : zW))) else
 (some (.inr s.out3_strips))
def KJ (s0 : Scalps) : Option Scalps :=
 (qM s0.carried).bind fun t8 =>
 (iterM FU (zN s0) (⟨0, []⟩ : zW)).bind fun o =>
 some (⟨o, t8⟩ : Scalps)
theorem QF (s0 : Scalps) (qa0 : Option Addr) (na0 ca0 : Nat) (qa1 : Option Addr) (na1 ca1 : Nat) (w : World) (hw : HV w (keys [] []) [] [] [(aB qa0, aO qa0, RSt.enc s0.strips), (aB qa1, aO qa1, RSp.enc s0.carried)] w) (hna0 : s0.strips.length = na0) (hqa0 : AOK na0 qa0) (hla0 : na0 ≤ ca0) (hna1 : s0.carried.length = na1) (hqa1 : AOK na1 qa1) (hla1 : na1 ≤ ca1) {res : Scalps} (hm : KJ s0 = some res) :
    Calls Tryz.prog 10 #[.agg #[.slice qa0 na0 ca0, .slice qa1 na1 ca1]] w (fun en w' => ∃ l : VL × VL, en = .returned (.agg #[sL l.1, sL l.2]) ∧ (VOK 7 l.1.n l.1.cap (RSt.enc res.strips) l.1.sp l.1.q ∧ VOK 2 l.2.n l.2.cap (RSp.enc res.carried) l.2.sp l.2.q) ∧ HV w (keys [] []) [] [vL 98 l.1 (RSt.enc res.strips), vL 32 l.2 (RSp.enc res.carried)] [] w') := by
  unfold KJ at hm
  refine kj func10 Y ntmps10 Y (e := [(0, _)]) Y hw (jp ?_)
  refine jK Y Y (fun b h3 => ?_)
  refine ju (fun w => zeroValue38 w) Y (fun b_1 h4 => ?_)
  refine j3 (jM 1 runUnderlying25 Y sizeOf23 Y Y (jS 1 isAgg23 Y Y Y Y ?_))
  obtain ⟨t8, h5, hm⟩ := bindO hm
  refine jd [] [] Y Y Y Y Y Y Y call49 (fun w hh => Qh s0.carried qa1 na1 ca1 w (HV.callee (S0 := []) (vs0 := []) hh (roR hh 1 Y roN)) hna1 hqa1 hla1 h5) (fun l h6 => ?_)
  have h7 := h6
  refine jT (S' := [_, _]) (vs' := [_]) [0, 1] [0] 0 Y Y Y Y (jc Y Y Y (fun _ _ => jG (vs := [(1, _)]) (cells := [_, _]) Y Y) ?_)
  refine ju (fun w => zeroValue38 w) Y (fun b_2 h8 => ?_)
  refine jE (us := #[_, _]) (cs' := [_, _]) (S' := [_, _, _]) 0 (fun w => sizeOf38 w) Y Y Y Y Y Y Y (jo (jk (jp (jM 0 runUnderlying25 Y sizeOf22 Y Y (jS 2 isAgg22 Y Y Y Y (jc Y Y Y (fun w _ => jB hna0 (runUnderlying22 w) Y) (je Y Y ?_)))))))
  refine jo (kp 98 ?_)
  obtain ⟨o, h9, h10⟩ := bindO hm
  refine jD (ι := VL) (fun l_1 => VOK 7 l_1.n l_1.cap (RSt.enc o) l_1.sp l_1.q) (fun l_1 => [(2, ptr b_1 0), (3, ptr b_2 0)]) (fun l_1 => [kc b_2 #[sL l_1, sL l] 38, kc b_1 #[slv none 0 0, slv none 0 0] 38, kc b #[.slice qa0 na0 ca0, .slice qa1 na1 ca1] 25]) (fun l_1 => [vL 98 l_1 (RSt.enc o), vL 32 l (RSp.enc t8)]) ?_ ?_
  ·replace hm := h9
   refine jl ?_
   refine jF (ι := VL) hm (fun s l_2 => VOK 7 l_2.n l_2.cap (RSt.enc s.out3_strips) l_2.sp l_2.q) (fun s l_2 => [(2, ptr b_1 0), (3, ptr b_2 0), (11, .slice qa0 na0 ca0), (12, .int .i64 (s0.strips.length : Int)), (13, .int .i64 s.t13)]) (fun s l_2 => [kc b_2 #[sL l_2, sL l] 38, kc b_1 #[slv none 0 0, slv none 0 0] 38, kc b #[.slice qa0 na0 ca0, .slice qa1 na1 ca1] 25]) (fun s l_2 => [vL 98 l_2 (RSt.enc s.out3_strips), vL 32 l (RSp.enc t8)]) ⟨none, 0, 0, []⟩ (VOK.nil) (sE Y) (fun w hh => hh) (fun s l_2 r hpl hm h13 => ?_)
   have h12 := hpl
   unfold zN at hm
   refine jp (q8 Y Y Y (jo (jk ?_)))
   refine jq Y (fun h14 => ?_) (fun h14 => ?_)
   ·replace hm := ifD h14 hm
    refine jt (ja (jk (jl (jp ?_))))
    obtain ⟨t15, h15, hm⟩ := bindO hm
    refine jc Y Y Y (fun w _ => jY h15 (runUnderlying22 w) (sizeOf85 w) Y Y hna0 hqa0) ?_
    refine jc Y Y Y (fun w hh => kz RSt 0 [.int .i64 t15.tenant, .int .i64 t15.lay.lo, .int .i64 t15.lay.hi, .int .i64 t15.seeded.lo, .int .i64 t15.seeded.hi, .int .i64 t15.left.lo, .int .i64 t15.left.hi] h15 (isAgg85 w) (sizeOf85 w) Y (hh.seg 0 Y) Y (Nat.add_zero _).symm) ?_
    refine ju (fun w => zeroValue85 w) Y (fun b_3 h16 => ?_)
    refine jE (us := #[_, _, _, _, _, _, _]) (cs' := [_, _, _, _, _, _, _]) (S' := [_, _, _, _]) 0 (fun w => sizeOf85 w) Y Y Y Y Y Y Y (jo (jh (jM 0 runUnderlying38 Y sizeOf36 Y Y (jS 1 isAgg36 Y Y Y Y (qh [_, _, _, _, _, _, _] 0 isAgg85 sizeOf85 Y Y Y Y ?_)))))
    refine kU RSt [(⟨t15.tenant, (⟨t15.lay.lo, t15.lay.hi⟩ : Span), (⟨t15.seeded.lo, t15.seeded.hi⟩ : Span), (⟨t15.left.lo, t15.left.hi⟩ : Span)⟩ : Strip)] (ps := [(0, _)]) (cells := [_, _, _, _, _, _, _]) (fun w => runUnderlying36 w) (fun w => sizeOf98 w) (fun w => zeroValue98 w) Y Y Y Y Y Y Y Y (fun L h17 => ?_)
    obtain ⟨t21, h18, hm⟩ := bindO hm
    refine yS RSt 1 h18 underlying36 jbv Y Y Y Y Y h12 Y Y (vlen RSt h17 Y) (AOK.q (vne h17)) (fun w hh => (hh.vsegA 0 Y h17)) Y (fun L_1 h19 h19n => ?_)
    refine jT (S' := [_, _, _, _]) (vs' := [_, _, _]) [0, 1, 2, 3] [0, 1, 2] 0 Y Y Y Y (jM 0 runUnderlying38 Y sizeOf36 Y Y (y4 (cs' := #[_, _]) (S' := [_, _, _, _]) 1 (fun w => sizeOf36 w) Y Y Y Y Y Y Y (jv (js (ja (jh ?_))))))
    obtain ⟨t23, h20, hm⟩ := bindO hm
    refine kS h20 Y Y Y (je Y Y (jv ?_))
    obtain rfl := sj hm
    refine ja ?_
    exact jy _ L_1 Y (h19) (sE Y) (hsE [1, 2, 3] [1, 2] 0 Y Y Y Y)
   replace hm := ifE h14 hm
   refine jO (jj (jj (jC ?_)))
   obtain rfl := sj hm
   have hbo := h13 _ Y
   subst hbo
   exact jg l_2 (h12) (sE Y) (fun w hh => hh)
  intro l_1 hj
  have h11 := hj
  replace hm := h10
  refine ja (jp (qh [_, _] 0 isAgg38 sizeOf38 Y Y Y Y (jE (us := #[_, _]) (cs' := [_, _]) (S' := [_, _, _]) 1 (fun w => sizeOf38 w) Y Y Y Y Y Y Y (jo (jw ?_)))))
  obtain rfl := sj hm
  refine jn Y (fun w hh => (.cell Y (loadVar_agg (vs := [_, _]) (isAgg38 _) (sizeOf38 _) (hh.cells 1 Y Y)) .nil)) (fun w hh => ⟨(l_1, l), rfl, ⟨h11, h7⟩, hh.se [] [0, 1] 2 Y Y Y rfl⟩)
def JO (n0 : Int) (lo1 : Int) (hi2 : Int) : Option Bool :=
 (if n0 < lo1 then
 (some true) else
 (some (decide (hi2 < n0)))).bind fun o =>
 some o
theorem Qq (n0 : Int) (lo1 : Int) (hi2 : Int)  (w : World) (hw : HV w (keys [] []) [] [] [] w)  {res : Bool} (hm : JO n0 lo1 hi2 = some res) :
    Calls Tryz.prog 50 #[.int .i64 n0, .int .i64 lo1, .int .i64 hi2] w (fun en w' => ∃ l : Unit, en = .returned (.bool res) ∧ (True) ∧ HV w (keys [] []) [] [] [] w') := by
  unfold JO at hm
  refine kj func50 Y ntmps50 Y (e := [(0, _), (1, _), (2, _)]) Y hw (jp (jm Y Y (jo (jk ?_))))
  obtain ⟨o, h1, h2⟩ := bindO hm
  refine jD (ι := Unit) (fun l => True) (fun l => [(6, .bool o)]) (fun l => []) (fun l => []) ?_ ?_
  ·replace hm := h1
   refine jh (je Y Y (je Y Y (q8 Y Y Y (je Y Y ?_))))
   refine jH 10 Y (fun h3 => ?_) (fun h3 => ?_)
   ·replace hm := ifD h3 hm
    refine g_k Y Y Y Y (g_k Y Y Y Y (g_k Y Y Y Y (j8 Y Y Y (jm Y Y (jv ?_)))))
    obtain rfl := sj hm
    exact jg () (trivial) (sE Y) (fun w hh => hh)
   replace hm := ifE h3 hm
   refine jb Y Y (je Y Y (jb Y Y (je Y Y (jb Y Y (jc Y Y Y (fun _ _ => JU Y Y) (ky Y Y Y (jm Y Y ?_)))))))
   refine jv ?_
   obtain rfl := sj hm
   exact jg () (trivial) (sE Y) (fun w hh => hh)
  intro l hj
  replace hm := h2
  refine ja (jw ?_)
  obtain rfl := sj hm
  refine jn Y (fun w hh => (.tmp Y .nil)) (fun w hh => ⟨(), rfl, trivial, hh⟩)
def yv (x0 : Span) : Option Bool :=
 ((JO x0.lo 0 30).bind fun t5 =>
 if t5 = true then
 (some true) else
 ((JO x0.hi 0 30).bind fun t9 =>
 some t9)).bind fun o =>
 some o
theorem K9 (x0 : Span)  (w : World) (hw : HV w (keys [] []) [] [] [] w)  {res : Bool} (hm : yv x0 = some res) :
    Calls Tryz.prog 51 #[.agg #[.int .i64 x0.lo, .int .i64 x0.hi]] w (fun en w' => ∃ l : Unit, en = .returned (.bool res) ∧ (True) ∧ HV w (keys [] []) [] [] [] w') := by
  unfold yv at hm
  refine kj func51 Y ntmps51 Y (e := [(0, _)]) Y hw (jp ?_)
  refine jK Y Y (fun b h1 => ?_)
  refine jm Y Y (jo (jk ?_))
  obtain ⟨o, h2, h3⟩ := bindO hm
  refine jD (ι := Unit) (fun l => True) (fun l => [(2, .bool o)]) (fun l => [kc b #[.int .i64 x0.lo, .int .i64 x0.hi] 32]) (fun l => []) ?_ ?_
  ·replace hm := h2
   refine jh (jM 0 runUnderlying32 Y sizeOf3 Y Y (jS 0 isAgg3 Y Y Y Y ?_))
   obtain ⟨t5, h4, hm⟩ := bindO hm
   refine jd [] [] Y Y Y Y Y Y Y call50 (fun w hh => Qq x0.lo 0 30 w (HV.callee (S0 := []) (vs0 := []) hh roN)  h4) (fun l_1 h5 => ?_)
   refine je Y Y ?_
   refine jH 6 Y (fun h6 => ?_) (fun h6 => ?_)
   ·replace hm := ifT (h6) hm
    refine g_k Y Y Y Y (g_k Y Y Y Y (g_k Y Y Y Y (j8 Y Y Y (jm Y Y (jv ?_)))))
    obtain rfl := sj hm
    exact jg () (trivial) (sE Y) (fun w hh => hh)
   replace hm := ifN h6 hm
   refine jb Y Y (jM 1 runUnderlying32 Y sizeOf3 Y Y (jb Y Y (jS 0 isAgg3 Y Y Y Y (jb Y Y ?_))))
   obtain ⟨t9, h7, hm⟩ := bindO hm
   refine jd [] [] Y Y Y Y Y Y Y call50 (fun w hh => Qq x0.hi 0 30 w (HV.callee (S0 := []) (vs0 := []) hh roN)  h7) (fun l_2 h8 => ?_)
   refine ky Y Y Y (jm Y Y (jv ?_))
   obtain rfl := sj hm
   exact jg () (trivial) (sE Y) (fun w hh => hh)
  intro l hj
  replace hm := h3
  refine ja (jw ?_)
  obtain rfl := sj hm
  refine jn Y (fun w hh => (.tmp Y .nil)) (fun w hh => ⟨(), rfl, trivial, hh.se [] [] 0 Y Y Y rfl⟩)
def Jc (x0 : Span) : Option Bool :=
 some (decide (x0.hi < x0.lo))
theorem QI (x0 : Span)  (w : World) (hw : HV w (keys [] []) [] [] [] w)  {res : Bool} (hm : Jc x0 = some res) :
    Calls Tryz.prog 52 #[.agg #[.int .i64 x0.lo, .int .i64 x0.hi]] w (fun en w' => ∃ l : Unit, en = .returned (.bool res) ∧ (True) ∧ HV w (keys [] []) [] [] [] w') := by
  unfold Jc at hm
  refine kj func52 Y ntmps52 Y (e := [(0, _)]) Y hw (jp ?_)
  refine jK Y Y (fun b h1 => ?_)
  refine jm Y Y (j3 (jM 0 runUnderlying32 Y sizeOf3 Y Y (jS 0 isAgg3 Y Y Y Y (jM 1 runUnderlying32 Y sizeOf3 Y Y (jS 0 isAgg3 Y Y Y Y (jc Y Y Y (fun _ _ => JU Y Y) (jm Y Y ?_)))))))
  refine jo (jw ?_)
  obtain rfl := sj hm
  refine jn Y (fun w hh => (.tmp Y .nil)) (fun w hh => ⟨(), rfl, trivial, hh.se [] [] 0 Y Y Y rfl⟩)
structure Yx where
  limit3 : Bool
  order4 : Bool
structure Kq where
  limit3 : Bool
  order4 : Bool
  t7 : Int
structure Yy where
  limit3 : Bool
  order4 : Bool
def zw (s0 : Scalps) (s : Kq) : Option (Kq ⊕ Yx) :=
 if s.t7 < (s0.carried.length : Int) then
 (((if s.limit3 = true then
 (some true) else
 ((ix s0.carried s.t7).bind fun t32 =>
 (yv (⟨t32.lo, t32.hi⟩ : Span)).bind fun t34 =>
 some t34)).bind fun o_3 =>
 if s.order4 = true then
 (some (⟨o_3, true⟩ : Yy)) else
 ((ix s0.carried s.t7).bind fun t41 =>
 (Jc t41).bind fun t43 =>
 some (⟨o_3, t43⟩ : Yy))).bind fun o_2 =>
 (addc s.t7 1).bind fun t26 =>
 some (.inl (⟨o_2.limit3, o_2.order4, t26⟩ : Kq))) else
 (some (.inr (⟨s.limit3, s.order4⟩ : Yx)))
structure Qj where
  limit3 : Bool
  order4 : Bool
  missing5 : Bool
  wrong6 : Bool
structure qS where
  limit3 : Bool
  order4 : Bool
  missing5 : Bool
  wrong6 : Bool
  k8 : Int
structure Jv where
  limit3 : Bool
  order4 : Bool
  missing5 : Bool
  wrong6 : Bool
def zq (s0 : Scalps) (s_1 : qS) : Option (qS ⊕ Qj) :=
 if s_1.k8 < (s0.strips.length : Int) then
 (((ix s0.strips s_1.k8).bind fun t55 =>
 (if s_1.limit3 = true then
 (some true) else
 ((yv (⟨t55.lay.lo, t55.lay.hi⟩ : Span)).bind fun t61 =>
 if t61 = true then
 (some true) else
 ((yv (⟨t55.seeded.lo, t55.seeded.hi⟩ : Span)).bind fun t66 =>
 if t66 = true then
 (some true) else
 ((yv (⟨t55.left.lo, t55.left.hi⟩ : Span)).bind fun t71 =>
 some t71)))).bind fun o_6 =>
 (if s_1.order4 = true then
 (some true) else
 ((Jc (⟨t55.lay.lo, t55.lay.hi⟩ : Span)).bind fun t77 =>
 if t77 = true then
 (some true) else
 ((Jc (⟨t55.seeded.lo, t55.seeded.hi⟩ : Span)).bind fun t82 =>
 if t82 = true then
 (some true) else
 ((Jc (⟨t55.left.lo, t55.left.hi⟩ : Span)).bind fun t87 =>
 some t87)))).bind fun o_7 =>
 (if s_1.missing5 = true then
 (some true) else
 ((subc (s0.carried.length : Int) 1).bind fun t96 =>
 (JO t55.tenant 0 t96).bind fun t97 =>
 some t97)).bind fun o_8 =>
 if s_1.wrong6 = true then
 (some (⟨o_6, o_7, o_8, true⟩ : Jv)) else
 (if (!o_6) = true then
 ((addc t55.lay.hi t55.seeded.hi).bind fun t110 =>
 some (⟨o_6, o_7, o_8, (decide (t110 < t55.left.lo))⟩ : Jv)) else
 (some (⟨o_6, o_7, o_8, false⟩ : Jv)))).bind fun o_5 =>
 (addc s_1.k8 1).bind fun t51 =>
 some (.inl (⟨o_5.limit3, o_5.order4, o_5.missing5, o_5.wrong6, t51⟩ : qS))) else
 (some (.inr (⟨s_1.limit3, s_1.order4, s_1.missing5, s_1.wrong6⟩ : Qj)))
def Qr (s0 : Scalps) : Option Int :=
 ((JO (s0.strips.length : Int) 1 6).bind fun t13 =>
 if t13 = true then
 (some true) else
 ((JO (s0.carried.length : Int) 1 5).bind fun t18 =>
 some t18)).bind fun o =>
 if o = true then
 (some 2) else
 ((iterM FU (zw s0) (⟨false, false, 0⟩ : Kq)).bind fun o_1 =>
 (iterM FU (zq s0) (⟨o_1.limit3, o_1.order4, false, false, 0⟩ : qS)).bind fun o_4 =>
 if o_4.limit3 = true then
 (some 3) else
 (if o_4.missing5 = true then
 (some 1) else
 (if o_4.order4 = true then
 (some 4) else
 (if o_4.wrong6 = true then
 (some 8) else
 (some 0)))))
theorem jaz (s0 : Scalps) (qa0 : Option Addr) (na0 ca0 : Nat) (qa1 : Option Addr) (na1 ca1 : Nat) (w : World) (hw : HV w (keys [] []) [] [] [(aB qa0, aO qa0, RSt.enc s0.strips), (aB qa1, aO qa1, RSp.enc s0.carried)] w) (hna0 : s0.strips.length = na0) (hqa0 : AOK na0 qa0) (hla0 : na0 ≤ ca0) (hna1 : s0.carried.length = na1) (hqa1 : AOK na1 qa1) (hla1 : na1 ≤ ca1) {res : Int} (hm : Qr s0 = some res) :
    Calls Tryz.prog 12 #[.agg #[.slice qa0 na0 ca0, .slice qa1 na1 ca1]] w (fun en w' => ∃ l : Unit, en = .returned (.int .i64 res) ∧ (True) ∧ HV w (keys [] []) [] [] [] w') := by
  unfold Qr at hm
  refine kj func12 Y ntmps12 Y (e := [(0, _)]) Y hw (jp ?_)
  refine jK Y Y (fun b h1 => ?_)
  refine jm Y Y (jo (jk (jk ?_)))
  obtain ⟨o, h2, h3⟩ := bindO hm
  refine jD (ι := Unit) (fun l => True) (fun l => [(1, ptr b 0), (19, .bool o)]) (fun l => [kc b #[.slice qa0 na0 ca0, .slice qa1 na1 ca1] 38]) (fun l => []) ?_ ?_
  ·replace hm := h2
   refine jh (jM 0 runUnderlying38 Y sizeOf36 Y Y (jS 0 isAgg36 Y Y Y Y (jc Y Y Y (fun w _ => jB hna0 (runUnderlying36 w) Y) ?_)))
   obtain ⟨t13, h4, hm⟩ := bindO hm
   refine jd [] [] Y Y Y Y Y Y Y call50 (fun w hh => Qq (s0.strips.length : Int) 1 6 w (HV.callee (S0 := []) (vs0 := []) hh roN)  h4) (fun l_1 h5 => ?_)
   refine je Y Y ?_
   refine jH 14 Y (fun h6 => ?_) (fun h6 => ?_)
   ·replace hm := ifT (h6) hm
    refine g_k Y Y Y Y (g_k Y Y Y Y (g_k Y Y Y Y (g_k Y Y Y Y (j8 Y Y Y (jv ?_)))))
    obtain rfl := sj hm
    exact jg () (trivial) (sE Y) (fun w hh => hh)
   replace hm := ifN h6 hm
   refine jb Y Y (jM 1 runUnderlying38 Y sizeOf23 Y Y (jb Y Y (jS 0 isAgg23 Y Y Y Y (jb Y Y (jc Y Y Y (fun w _ => jB hna1 (runUnderlying23 w) Y) (jb Y Y ?_))))))
   obtain ⟨t18, h7, hm⟩ := bindO hm
   refine jd [] [] Y Y Y Y Y Y Y call50 (fun w hh => Qq (s0.carried.length : Int) 1 5 w (HV.callee (S0 := []) (vs0 := []) hh roN)  h7) (fun l_2 h8 => ?_)
   refine ky Y Y Y (jv ?_)
   obtain rfl := sj hm
   exact jg () (trivial) (sE Y) (fun w hh => hh)
  intro l hj
  replace hm := h3
  refine ja ?_
  refine jq Y (fun h9 => ?_) (fun h9 => ?_)
  ·replace hm := ifT (h9) hm
   refine jp (jm Y Y (jo (jw (jf ?_))))
   obtain rfl := sj hm
   refine jn Y (fun w hh => (.tmp Y .nil)) (fun w hh => ⟨(), rfl, trivial, hh.se [] [] 2 Y Y Y rfl⟩)
  replace hm := ifN h9 hm
  refine jt (ja (jp (jm Y Y (jm Y Y (jm Y Y (jm Y Y (jo ?_)))))))
  refine jk (jp (jm Y Y (jo ?_)))
  obtain ⟨o_1, h10, h11⟩ := bindO hm
  refine jD (ι := Unit) (fun l_3 => True) (fun l_3 => [(1, ptr b 0), (3, .bool o_1.limit3), (4, .bool o_1.order4), (5, .bool false), (6, .bool false)]) (fun l_3 => [kc b #[.slice qa0 na0 ca0, .slice qa1 na1 ca1] 38]) (fun l_3 => []) ?_ ?_
  ·replace hm := h10
   refine jl ?_
   refine jF (ι := Unit) hm (fun s l_4 => True) (fun s l_4 => [(1, ptr b 0), (3, .bool s.limit3), (4, .bool s.order4), (5, .bool false), (6, .bool false), (7, .int .i64 s.t7)]) (fun s l_4 => [kc b #[.slice qa0 na0 ca0, .slice qa1 na1 ca1] 38]) (fun s l_4 => []) () (trivial) (sE Y) (fun w hh => hh) (fun s l_4 r hpl hm h12 => ?_)
   unfold zw at hm
   refine jk (jp (je Y Y (jM 1 runUnderlying38 Y sizeOf23 Y Y (jS 0 isAgg23 Y Y Y Y (jc Y Y Y (fun w _ => jB hna1 (runUnderlying23 w) Y) (q8 Y Y Y (jo ?_)))))))
   refine jq Y (fun h13 => ?_) (fun h13 => ?_)
   ·replace hm := ifD h13 hm
    refine jt (ja (jk ?_))
    obtain ⟨o_2, h14, h15⟩ := bindO hm
    refine jD (ι := Unit) (fun l_5 => True) (fun l_5 => [(1, ptr b 0), (3, .bool o_2.limit3), (4, .bool o_2.order4), (5, .bool false), (6, .bool false), (7, .int .i64 s.t7)]) (fun l_5 => [kc b #[.slice qa0 na0 ca0, .slice qa1 na1 ca1] 38]) (fun l_5 => []) ?_ ?_
    ·replace hm := h14
     refine jl (jk ?_)
     obtain ⟨o_3, h16, h17⟩ := bindO hm
     refine jD (ι := Unit) (fun l_6 => True) (fun l_6 => [(1, ptr b 0), (3, .bool o_3), (4, .bool s.order4), (5, .bool false), (6, .bool false), (7, .int .i64 s.t7)]) (fun l_6 => [kc b #[.slice qa0 na0 ca0, .slice qa1 na1 ca1] 38]) (fun l_6 => []) ?_ ?_
     ·replace hm := h16
      refine jh (je Y Y (je Y Y ?_))
      refine jH 28 Y (fun h18 => ?_) (fun h18 => ?_)
      ·replace hm := ifT (h18) hm
       refine g_k Y Y Y Y (g_k Y Y Y Y (g_k Y Y Y Y (g_k Y Y Y Y (g_k Y Y Y Y (g_k Y Y Y Y (j8 Y Y Y (jm Y Y ?_)))))))
       refine jv ?_
       obtain rfl := sj hm
       exact jg () (trivial) (sE Y) (fun w hh => hh)
      replace hm := ifN h18 hm
      refine jb Y Y (jM 1 runUnderlying38 Y sizeOf23 Y Y (jb Y Y (jS 0 isAgg23 Y Y Y Y (jb Y Y (je Y Y (jb Y Y ?_))))))
      obtain ⟨t32, h19, hm⟩ := bindO hm
      refine jc Y Y Y (fun w _ => jY h19 (runUnderlying23 w) (sizeOf32 w) Y Y hna1 hqa1) (jb Y Y ?_)
      refine jc Y Y Y (fun w hh => kz RSp 0 [.int .i64 t32.lo, .int .i64 t32.hi] h19 (isAgg32 w) (sizeOf32 w) Y (hh.seg 1 Y) Y (Nat.add_zero _).symm) ?_
      refine jb Y Y ?_
      obtain ⟨t34, h20, hm⟩ := bindO hm
      refine jd [] [] Y Y Y Y Y Y Y call51 (fun w hh => K9 (⟨t32.lo, t32.hi⟩ : Span) w (HV.callee (S0 := []) (vs0 := []) hh roN)  h20) (fun l_7 h21 => ?_)
      refine ky Y Y Y (jm Y Y (jv ?_))
      obtain rfl := sj hm
      exact jg () (trivial) (sE Y) (fun w hh => hh)
     intro l_6 hj
     replace hm := h17
     refine ja (jh (je Y Y (je Y Y ?_)))
     refine jH 37 Y (fun h22 => ?_) (fun h22 => ?_)
     ·replace hm := ifT (h22) hm
      refine g_k Y Y Y Y (g_k Y Y Y Y (g_k Y Y Y Y (g_k Y Y Y Y (g_k Y Y Y Y (g_k Y Y Y Y (j8 Y Y Y (jm Y Y ?_)))))))
      refine jv (js ?_)
      obtain rfl := sj hm
      exact jg () (trivial) (sE Y) (fun w hh => hh)
     replace hm := ifN h22 hm
     refine jb Y Y (jM 1 runUnderlying38 Y sizeOf23 Y Y (jb Y Y (jS 0 isAgg23 Y Y Y Y (jb Y Y (je Y Y (jb Y Y ?_))))))
     obtain ⟨t41, h23, hm⟩ := bindO hm
     refine jc Y Y Y (fun w _ => jY h23 (runUnderlying23 w) (sizeOf32 w) Y Y hna1 hqa1) (jb Y Y ?_)
     refine jc Y Y Y (fun w hh => kz RSp 0 [.int .i64 t41.lo, .int .i64 t41.hi] h23 (isAgg32 w) (sizeOf32 w) Y (hh.seg 1 Y) Y (Nat.add_zero _).symm) ?_
     refine jb Y Y ?_
     obtain ⟨t43, h24, hm⟩ := bindO hm
     refine jd [] [] Y Y Y Y Y Y Y call52 (fun w hh => QI t41 w (HV.callee (S0 := []) (vs0 := []) hh roN)  h24) (fun l_8 h25 => ?_)
     refine ky Y Y Y (jm Y Y (jv (js ?_)))
     obtain rfl := sj hm
     exact jg () (trivial) (sE Y) (fun w hh => hh)
    intro l_5 hj
    replace hm := h15
    refine ja (jh (je Y Y ?_))
    obtain ⟨t26, h26, hm⟩ := bindO hm
    refine kS h26 Y Y Y (jm Y Y (jv ?_))
    obtain rfl := sj hm
    refine ja ?_
    exact jy _ () Y (trivial) (sE Y) (fun w hh => hh)
   replace hm := ifE h13 hm
   refine jO (jj (jj (jC ?_)))
   obtain rfl := sj hm
   have hbo := h12 _ Y
   subst hbo
   exact jg () (trivial) (sE Y) (fun w hh => hh)
  intro l_3 hj
  replace hm := h11
  refine ja (jk (jp (jm Y Y (jo ?_))))
  obtain ⟨o_4, h27, h28⟩ := bindO hm
  refine jD (ι := Unit) (fun l_9 => True) (fun l_9 => [(3, .bool o_4.limit3), (4, .bool o_4.order4), (5, .bool o_4.missing5), (6, .bool o_4.wrong6)]) (fun l_9 => [kc b #[.slice qa0 na0 ca0, .slice qa1 na1 ca1] 38]) (fun l_9 => []) ?_ ?_
  ·replace hm := h27
   refine jl ?_
   refine jF (ι := Unit) hm (fun s_1 l_10 => True) (fun s_1 l_10 => [(1, ptr b 0), (3, .bool s_1.limit3), (4, .bool s_1.order4), (5, .bool s_1.missing5), (6, .bool s_1.wrong6), (8, .int .i64 s_1.k8)]) (fun s_1 l_10 => [kc b #[.slice qa0 na0 ca0, .slice qa1 na1 ca1] 38]) (fun s_1 l_10 => []) () (trivial) (sE Y) (fun w hh => hh) (fun s_1 l_10 r_1 hpl hm h29 => ?_)
   unfold zq at hm
   refine jk (jp (je Y Y (jM 0 runUnderlying38 Y sizeOf36 Y Y (jS 0 isAgg36 Y Y Y Y (jc Y Y Y (fun w _ => jB hna0 (runUnderlying36 w) Y) (q8 Y Y Y (jo ?_)))))))
   refine jq Y (fun h30 => ?_) (fun h30 => ?_)
   ·replace hm := ifD h30 hm
    refine jt (ja (jk ?_))
    obtain ⟨o_5, h31, h32⟩ := bindO hm
    refine jD (ι := Unit) (fun l_11 => True) (fun l_11 => [(1, ptr b 0), (3, .bool o_5.limit3), (4, .bool o_5.order4), (5, .bool o_5.missing5), (6, .bool o_5.wrong6), (8, .int .i64 s_1.k8)]) (fun l_11 => [kc b #[.slice qa0 na0 ca0, .slice qa1 na1 ca1] 38]) (fun l_11 => []) ?_ ?_
    ·replace hm := h31
     refine jl (jp (jM 0 runUnderlying38 Y sizeOf36 Y Y (jS 0 isAgg36 Y Y Y Y (je Y Y ?_))))
     obtain ⟨t55, h33, hm⟩ := bindO hm
     refine jc Y Y Y (fun w _ => jY h33 (runUnderlying36 w) (sizeOf98 w) Y Y hna0 hqa0) ?_
     refine jc Y Y Y (fun w hh => kz RSt 0 [.int .i64 t55.tenant, .int .i64 t55.lay.lo, .int .i64 t55.lay.hi, .int .i64 t55.seeded.lo, .int .i64 t55.seeded.hi, .int .i64 t55.left.lo, .int .i64 t55.left.hi] h33 (isAgg98 w) (sizeOf98 w) Y (hh.seg 0 Y) Y (Nat.add_zero _).symm) ?_
     refine ju (fun w => zeroValue98 w) Y (fun b_1 h34 => ?_)
     refine jE (us := #[_, _, _, _, _, _, _]) (cs' := [_, _, _, _, _, _, _]) (S' := [_, _]) 0 (fun w => sizeOf98 w) Y Y Y Y Y Y Y (jo (jk ?_))
     obtain ⟨o_6, h35, h36⟩ := bindO hm
     refine jD (ι := Unit) (fun l_12 => True) (fun l_12 => [(1, ptr b 0), (3, .bool o_6), (4, .bool s_1.order4), (5, .bool s_1.missing5), (6, .bool s_1.wrong6), (8, .int .i64 s_1.k8), (9, ptr b_1 0)]) (fun l_12 => [kc b_1 #[.int .i64 t55.tenant, .int .i64 t55.lay.lo, .int .i64 t55.lay.hi, .int .i64 t55.seeded.lo, .int .i64 t55.seeded.hi, .int .i64 t55.left.lo, .int .i64 t55.left.hi] 98, kc b #[.slice qa0 na0 ca0, .slice qa1 na1 ca1] 38]) (fun l_12 => []) ?_ ?_
     ·replace hm := h35
      refine jh (je Y Y (je Y Y ?_))
      refine jH 58 Y (fun h37 => ?_) (fun h37 => ?_)
      ·replace hm := ifT (h37) hm
       refine g_k Y Y Y Y (g_k Y Y Y Y (g_k Y Y Y Y (j8 Y Y Y (je Y Y (g_k Y Y Y Y (g_k Y Y Y Y (g_k Y Y Y Y ?_)))))))
       refine j8 Y Y Y (je Y Y (g_k Y Y Y Y (g_k Y Y Y Y (g_k Y Y Y Y (j8 Y Y Y (jm Y Y (jv ?_)))))))
       obtain rfl := sj hm
       exact jg () (trivial) (sE Y) (fun w hh => hh)
      replace hm := ifN h37 hm
      refine jb Y Y (jM 1 runUnderlying98 Y sizeOf32 Y Y (jb Y Y (qh [_, _] 0 isAgg32 sizeOf32 Y Y Y Y (jb Y Y ?_))))
      obtain ⟨t61, h38, hm⟩ := bindO hm
      refine jd [] [] Y Y Y Y Y Y Y call51 (fun w hh => K9 (⟨t55.lay.lo, t55.lay.hi⟩ : Span) w (HV.callee (S0 := []) (vs0 := []) hh roN)  h38) (fun l_13 h39 => ?_)
      refine ky Y Y Y (je Y Y ?_)
      refine jH 63 Y (fun h40 => ?_) (fun h40 => ?_)
      ·replace hm := ifT (h40) hm
       refine g_k Y Y Y Y (g_k Y Y Y Y (g_k Y Y Y Y (j8 Y Y Y (je Y Y (g_k Y Y Y Y (g_k Y Y Y Y (g_k Y Y Y Y ?_)))))))
       refine j8 Y Y Y (jm Y Y (jv ?_))
       obtain rfl := sj hm
       exact jg () (trivial) (sE Y) (fun w hh => hh)
      replace hm := ifN h40 hm
      refine jb Y Y (jM 3 runUnderlying98 Y sizeOf32 Y Y (jb Y Y (qh [_, _] 0 isAgg32 sizeOf32 Y Y Y Y (jb Y Y ?_))))
      obtain ⟨t66, h41, hm⟩ := bindO hm
      refine jd [] [] Y Y Y Y Y Y Y call51 (fun w hh => K9 (⟨t55.seeded.lo, t55.seeded.hi⟩ : Span) w (HV.callee (S0 := []) (vs0 := []) hh roN)  h41) (fun l_14 h42 => ?_)
      refine ky Y Y Y (je Y Y ?_)
      refine jH 68 Y (fun h43 => ?_) (fun h43 => ?_)
      ·replace hm := ifT (h43) hm
       refine g_k Y Y Y Y (g_k Y Y Y Y (g_k Y Y Y Y (j8 Y Y Y (jm Y Y (jv ?_)))))
       obtain rfl := sj hm
       exact jg () (trivial) (sE Y) (fun w hh => hh)
      replace hm := ifN h43 hm
      refine jb Y Y (jM 5 runUnderlying98 Y sizeOf32 Y Y (jb Y Y (qh [_, _] 0 isAgg32 sizeOf32 Y Y Y Y (jb Y Y ?_))))
      obtain ⟨t71, h44, hm⟩ := bindO hm
      refine jd [] [] Y Y Y Y Y Y Y call51 (fun w hh => K9 (⟨t55.left.lo, t55.left.hi⟩ : Span) w (HV.callee (S0 := []) (vs0 := []) hh roN)  h44) (fun l_15 h45 => ?_)
      refine ky Y Y Y (jm Y Y (jv ?_))
      obtain rfl := sj hm
      exact jg () (trivial) (sE Y) (fun w hh => hh)
     intro l_12 hj
     replace hm := h36
     refine ja (jk ?_)
     obtain ⟨o_7, h46, h47⟩ := bindO hm
     refine jD (ι := Unit) (fun l_16 => True) (fun l_16 => [(1, ptr b 0), (3, .bool o_6), (4, .bool o_7), (5, .bool s_1.missing5), (6, .bool s_1.wrong6), (8, .int .i64 s_1.k8), (9, ptr b_1 0)]) (fun l_16 => [kc b_1 #[.int .i64 t55.tenant, .int .i64 t55.lay.lo, .int .i64 t55.lay.hi, .int .i64 t55.seeded.lo, .int .i64 t55.seeded.hi, .int .i64 t55.left.lo, .int .i64 t55.left.hi] 98, kc b #[.slice qa0 na0 ca0, .slice qa1 na1 ca1] 38]) (fun l_16 => []) ?_ ?_
     ·replace hm := h46
      refine jh (je Y Y (je Y Y ?_))
      refine jH 74 Y (fun h48 => ?_) (fun h48 => ?_)
      ·replace hm := ifT (h48) hm
       refine g_k Y Y Y Y (g_k Y Y Y Y (g_k Y Y Y Y (j8 Y Y Y (je Y Y (g_k Y Y Y Y (g_k Y Y Y Y (g_k Y Y Y Y ?_)))))))
       refine j8 Y Y Y (je Y Y (g_k Y Y Y Y (g_k Y Y Y Y (g_k Y Y Y Y (j8 Y Y Y (jm Y Y (jv ?_)))))))
       obtain rfl := sj hm
       exact jg () (trivial) (sE Y) (fun w hh => hh)
      replace hm := ifN h48 hm
      refine jb Y Y (jM 1 runUnderlying98 Y sizeOf32 Y Y (jb Y Y (qh [_, _] 0 isAgg32 sizeOf32 Y Y Y Y (jb Y Y ?_))))
      obtain ⟨t77, h49, hm⟩ := bindO hm
      refine jd [] [] Y Y Y Y Y Y Y call52 (fun w hh => QI (⟨t55.lay.lo, t55.lay.hi⟩ : Span) w (HV.callee (S0 := []) (vs0 := []) hh roN)  h49) (fun l_17 h50 => ?_)
      refine ky Y Y Y (je Y Y ?_)
      refine jH 79 Y (fun h51 => ?_) (fun h51 => ?_)
      ·replace hm := ifT (h51) hm
       refine g_k Y Y Y Y (g_k Y Y Y Y (g_k Y Y Y Y (j8 Y Y Y (je Y Y (g_k Y Y Y Y (g_k Y Y Y Y (g_k Y Y Y Y ?_)))))))
       refine j8 Y Y Y (jm Y Y (jv ?_))
       obtain rfl := sj hm
       exact jg () (trivial) (sE Y) (fun w hh => hh)
      replace hm := ifN h51 hm
      refine jb Y Y (jM 3 runUnderlying98 Y sizeOf32 Y Y (jb Y Y (qh [_, _] 0 isAgg32 sizeOf32 Y Y Y Y (jb Y Y ?_))))
      obtain ⟨t82, h52, hm⟩ := bindO hm
      refine jd [] [] Y Y Y Y Y Y Y call52 (fun w hh => QI (⟨t55.seeded.lo, t55.seeded.hi⟩ : Span) w (HV.callee (S0 := []) (vs0 := []) hh roN)  h52) (fun l_18 h53 => ?_)
      refine ky Y Y Y (je Y Y ?_)
      refine jH 84 Y (fun h54 => ?_) (fun h54 => ?_)
      ·replace hm := ifT (h54) hm
       refine g_k Y Y Y Y (g_k Y Y Y Y (g_k Y Y Y Y (j8 Y Y Y (jm Y Y (jv ?_)))))
       obtain rfl := sj hm
       exact jg () (trivial) (sE Y) (fun w hh => hh)
      replace hm := ifN h54 hm
      refine jb Y Y (jM 5 runUnderlying98 Y sizeOf32 Y Y (jb Y Y (qh [_, _] 0 isAgg32 sizeOf32 Y Y Y Y (jb Y Y ?_))))
      obtain ⟨t87, h55, hm⟩ := bindO hm
      refine jd [] [] Y Y Y Y Y Y Y call52 (fun w hh => QI (⟨t55.left.lo, t55.left.hi⟩ : Span) w (HV.callee (S0 := []) (vs0 := []) hh roN)  h55) (fun l_19 h56 => ?_)
      refine ky Y Y Y (jm Y Y (jv ?_))
      obtain rfl := sj hm
      exact jg () (trivial) (sE Y) (fun w hh => hh)
     intro l_16 hj
     replace hm := h47
     refine ja (jk ?_)
     obtain ⟨o_8, h57, h58⟩ := bindO hm
     refine jD (ι := Unit) (fun l_20 => True) (fun l_20 => [(1, ptr b 0), (3, .bool o_6), (4, .bool o_7), (5, .bool o_8), (6, .bool s_1.wrong6), (8, .int .i64 s_1.k8), (9, ptr b_1 0)]) (fun l_20 => [kc b_1 #[.int .i64 t55.tenant, .int .i64 t55.lay.lo, .int .i64 t55.lay.hi, .int .i64 t55.seeded.lo, .int .i64 t55.seeded.hi, .int .i64 t55.left.lo, .int .i64 t55.left.hi] 98, kc b #[.slice qa0 na0 ca0, .slice qa1 na1 ca1] 38]) (fun l_20 => []) ?_ ?_
     ·replace hm := h57
      refine jh (je Y Y (je Y Y ?_))
      refine jH 90 Y (fun h59 => ?_) (fun h59 => ?_)
      ·replace hm := ifT (h59) hm
       refine g_k Y Y Y Y (g_k Y Y Y Y (g_k Y Y Y Y (g_k Y Y Y Y (g_k Y Y Y Y (g_k Y Y Y Y (g_k Y Y Y Y (j8 Y Y Y ?_)))))))
       refine jm Y Y (jv ?_)
       obtain rfl := sj hm
       exact jg () (trivial) (sE Y) (fun w hh => hh)
      replace hm := ifN h59 hm
      refine jb Y Y (jM 0 runUnderlying98 Y sizeOf3 Y Y (jb Y Y (jS 0 isAgg3 Y Y Y Y (jb Y Y (jM 1 runUnderlying38 Y sizeOf23 Y Y (jb Y Y (jS 1 isAgg23 Y Y Y Y ?_)))))))
      refine jb Y Y (jc Y Y Y (fun w _ => jB hna1 (runUnderlying23 w) Y) (jb Y Y ?_))
      obtain ⟨t96, h60, hm⟩ := bindO hm
      refine jc Y Y Y (fun _ _ => qp h60 Y Y) (jb Y Y ?_)
      obtain ⟨t97, h61, hm⟩ := bindO hm
      refine jd [] [] Y Y Y Y Y Y Y call50 (fun w hh => Qq t55.tenant 0 t96 w (HV.callee (S0 := []) (vs0 := []) hh roN)  h61) (fun l_21 h62 => ?_)
      refine ky Y Y Y (jm Y Y (jv ?_))
      obtain rfl := sj hm
      exact jg () (trivial) (sE Y) (fun w hh => hh)
     intro l_20 hj
     replace hm := h58
     refine ja (jh (je Y Y (je Y Y ?_)))
     refine jH 100 Y (fun h63 => ?_) (fun h63 => ?_)
     ·replace hm := ifT (h63) hm
      refine g_k Y Y Y Y (g_k Y Y Y Y (g_k Y Y Y Y ?_))
      refine jx Y Y Y Y Y ?_
      refine jx Y Y Y Y Y ?_
      refine jx Y Y Y Y Y ?_
      refine jx Y Y Y Y Y ?_
      refine jx Y Y Y Y Y ?_
      refine jx Y Y Y Y Y ?_
      refine jx Y Y Y Y Y ?_
      refine jx Y Y Y Y Y ?_
      refine jx Y Y Y Y Y ?_
      refine jx Y Y Y Y Y ?_
      refine jx Y Y Y Y Y ?_
      refine g_k Y Y Y Y (j8 Y Y Y (jm Y Y (jv (js ?_))))
      obtain rfl := sj hm
      exact jg () (trivial) (sE Y) (hsE [1] [] 0 Y Y Y Y)
     replace hm := ifN h63 hm
     refine jb Y Y (je Y Y (jb Y Y (jc Y Y Y (fun _ _ => kV Y) (jb Y Y (je Y Y ?_)))))
     refine jH 103 Y (fun h64 => ?_) (fun h64 => ?_)
     ·replace hm := ifT (h64) hm
      refine jb Y Y (jM 1 runUnderlying98 Y sizeOf32 Y Y (jb Y Y (jM 1 runUnderlying32 Y sizeOf3 Y Y (jb Y Y (jS 0 isAgg3 Y Y Y Y (jb Y Y (jM 3 runUnderlying98 Y sizeOf32 Y Y ?_)))))))
      refine jb Y Y (jM 1 runUnderlying32 Y sizeOf3 Y Y (jb Y Y (jS 0 isAgg3 Y Y Y Y (jb Y Y ?_))))
      obtain ⟨t110, h65, hm⟩ := bindO hm
      refine kS h65 Y Y Y (jb Y Y (jM 5 runUnderlying98 Y sizeOf32 Y Y (jb Y Y (jM 0 runUnderlying32 Y sizeOf3 Y Y (jb Y Y (jS 0 isAgg3 Y Y Y Y (jb Y Y ?_)))))))
      refine q8 Y Y Y (jb Y Y (j8 Y Y Y (ky Y Y Y (jm Y Y (jv (js ?_))))))
      obtain rfl := sj hm
      exact jg () (trivial) (sE Y) (hsE [1] [] 0 Y Y Y Y)
     replace hm := ifN h64 hm
     refine g_k Y Y Y Y (g_k Y Y Y Y (g_k Y Y Y Y (g_k Y Y Y Y (g_k Y Y Y Y (g_k Y Y Y Y (g_k Y Y Y Y (g_k Y Y Y Y ?_)))))))
     refine g_k Y Y Y Y (g_k Y Y Y Y (g_k Y Y Y Y (jb Y Y (ky Y Y Y (ky Y Y Y (jm Y Y (jv ?_)))))))
     refine js ?_
     obtain rfl := sj hm
     exact jg () (trivial) (sE Y) (hsE [1] [] 0 Y Y Y Y)
    intro l_11 hj
    replace hm := h32
    refine ja (jh (je Y Y ?_))
    obtain ⟨t51, h66, hm⟩ := bindO hm
    refine kS h66 Y Y Y (jm Y Y (jv ?_))
    obtain rfl := sj hm
    refine ja ?_
    exact jy _ () Y (trivial) (sE Y) (fun w hh => hh)
   replace hm := ifE h30 hm
   refine jO (jj (jj (jC ?_)))
   obtain rfl := sj hm
   have hbo := h29 _ Y
   subst hbo
   exact jg () (trivial) (sE Y) (fun w hh => hh)
  intro l_9 hj
  replace hm := h28
  refine ja (jk (jp (je Y Y (jo ?_))))
  refine jq Y (fun h67 => ?_) (fun h67 => ?_)
  ·replace hm := ifT (h67) hm
   refine jp (jm Y Y (jo (jw (jf ?_))))
   obtain rfl := sj hm
   refine jn Y (fun w hh => (.tmp Y .nil)) (fun w hh => ⟨(), rfl, trivial, hh.se [] [] 2 Y Y Y rfl⟩)
  replace hm := ifN h67 hm
  refine jt (ja (jk (jp (je Y Y (jo ?_)))))
  refine jq Y (fun h68 => ?_) (fun h68 => ?_)
  ·replace hm := ifT (h68) hm
   refine jp (jm Y Y (jo (jw (jf ?_))))
   obtain rfl := sj hm
   refine jn Y (fun w hh => (.tmp Y .nil)) (fun w hh => ⟨(), rfl, trivial, hh.se [] [] 2 Y Y Y rfl⟩)
  replace hm := ifN h68 hm
  refine jt (ja (jk (jp (je Y Y (jo ?_)))))
  refine jq Y (fun h69 => ?_) (fun h69 => ?_)
  ·replace hm := ifT (h69) hm
   refine jp (jm Y Y (jo (jw (jf ?_))))
   obtain rfl := sj hm
   refine jn Y (fun w hh => (.tmp Y .nil)) (fun w hh => ⟨(), rfl, trivial, hh.se [] [] 2 Y Y Y rfl⟩)
  replace hm := ifN h69 hm
  refine jt (ja (jk (jp (je Y Y (jo ?_)))))
  refine jq Y (fun h70 => ?_) (fun h70 => ?_)
  ·replace hm := ifT (h70) hm
   refine jp (jm Y Y (jo (jw (jf ?_))))
   obtain rfl := sj hm
   refine jn Y (fun w hh => (.tmp Y .nil)) (fun w hh => ⟨(), rfl, trivial, hh.se [] [] 2 Y Y Y rfl⟩)
  replace hm := ifN h70 hm
  refine jt (ja (jp (jm Y Y (jo (jw ?_)))))
  obtain rfl := sj hm
  refine jn Y (fun w hh => (.tmp Y .nil)) (fun w hh => ⟨(), rfl, trivial, hh.se [] [] 2 Y Y Y rfl⟩)
structure qV where
  t8 : Int
  out7 : (List (List Bool))
structure zB where
  k10 : Int
  t21 : (List Bool)
def yK (tenant1 : Int) (strip2 : Int) (s0 : Scalps) (s : qV) (s_1 : zB) : Option (zB ⊕ (List Bool)) :=
 if s_1.k10 < (s_1.t21.length : Int) then
 ((if tenant1 < 0 then
 (if strip2 < 0 then
 ((ix s0.strips s_1.k10).bind fun t50 =>
 (ix s_1.t21 s_1.k10).bind fun t56 =>
 (some (s_1.t21.set (Int.toNat s_1.k10) (!decide (t50.tenant = s.t8)))).bind fun t21_1 =>
 some t21_1) else
 (if s_1.k10 = strip2 then
 ((ix s0.strips s_1.k10).bind fun t50_1 =>
 (ix s_1.t21 s_1.k10).bind fun t56_1 =>
 (some (s_1.t21.set (Int.toNat s_1.k10) (!decide (t50_1.tenant = s.t8)))).bind fun t21_2 =>
 some t21_2) else
 ((ix s_1.t21 s_1.k10).bind fun t56_2 =>
 (some (s_1.t21.set (Int.toNat s_1.k10) false)).bind fun t21_3 =>
 some t21_3))) else
 (if s.t8 = tenant1 then
 (if strip2 < 0 then
 ((ix s0.strips s_1.k10).bind fun t50_2 =>
 (ix s_1.t21 s_1.k10).bind fun t56_3 =>
 (some (s_1.t21.set (Int.toNat s_1.k10) (!decide (t50_2.tenant = s.t8)))).bind fun t21_4 =>
 some t21_4) else
 (if s_1.k10 = strip2 then
 ((ix s0.strips s_1.k10).bind fun t50_3 =>
 (ix s_1.t21 s_1.k10).bind fun t56_4 =>
 (some (s_1.t21.set (Int.toNat s_1.k10) (!decide (t50_3.tenant = s.t8)))).bind fun t21_5 =>
 some t21_5) else
 ((ix s_1.t21 s_1.k10).bind fun t56_5 =>
 (some (s_1.t21.set (Int.toNat s_1.k10) false)).bind fun t21_6 =>
 some t21_6))) else
 ((ix s_1.t21 s_1.k10).bind fun t56_6 =>
 (some (s_1.t21.set (Int.toNat s_1.k10) false)).bind fun t21_7 =>
 some t21_7))).bind fun o_2 =>
 (addc s_1.k10 1).bind fun t27 =>
 some (.inl (⟨t27, o_2⟩ : zB))) else
 (some (.inr s_1.t21))
def zC (s0 : Scalps) (tenant1 : Int) (strip2 : Int) (s : qV) : Option (qV ⊕ (List (List Bool))) :=
 if s.t8 < (s0.carried.length : Int) then
 ((makec 1 false (s0.strips.length : Int) (s0.strips.length : Int)).bind fun t21 =>
 (iterM FU (yK tenant1 strip2 s0 s) (⟨0, t21⟩ : zB)).bind fun o_1 =>
 (appc 24 s.out7 [o_1]).bind fun t60 =>
 (addc s.t8 1).bind fun t17 =>
 some (.inl (⟨t17, t60⟩ : qV))) else
 (some (.inr s.out7))
def J4 (s0 : Scalps) (tenant1 : Int) (strip2 : Int) : Option (List (List Bool)) :=
 (iterM FU (zC s0 tenant1 strip2) (⟨0, ([] : List (List Bool))⟩ : qV)).bind fun o =>
 some o
theorem jau (s0 : Scalps) (tenant1 : Int) (strip2 : Int) (qa0 : Option Addr) (na0 ca0 : Nat) (qa1 : Option Addr) (na1 ca1 : Nat) (w : World) (hw : HV w (keys [] []) [] [] [(aB qa0, aO qa0, RSt.enc s0.strips), (aB qa1, aO qa1, RSp.enc s0.carried)] w) (hna0 : s0.strips.length = na0) (hqa0 : AOK na0 qa0) (hla0 : na0 ≤ ca0) (hna1 : s0.carried.length = na1) (hqa1 : AOK na1 qa1) (hla1 : na1 ≤ ca1) {res : (List (List Bool))} (hm : J4 s0 tenant1 strip2 = some res) :
    Calls Tryz.prog 14 #[.agg #[.slice qa0 na0 ca0, .slice qa1 na1 ca1], .int .i64 tenant1, .int .i64 strip2] w (fun en w' => ∃ l : DL, en = .returned (sL l.v) ∧ (VOK 1 l.v.n l.v.cap (RwH.enc l.rs) l.v.sp l.v.q ∧ DOK RB res l.rs) ∧ HV w (keys [] []) [] [⟨93, RwH.enc l.rs, l.v.sp, l.v.q, dbl 4 RB res l.rs⟩] [] w') := by
  unfold J4 at hm
  refine kj func14 Y ntmps14 Y (e := [(0, _), (1, _), (2, _)]) Y hw (jp ?_)
  refine jK Y Y (fun b h3 => ?_)
  refine jc Y Y Y (fun _ _ => qQ Y) (j3 (jc Y Y Y (fun _ _ => qQ Y) (jo (jk (jp (jm Y Y (jo ?_)))))))
  refine kp 93 ?_
  obtain ⟨o, h4, h5⟩ := bindO hm
  refine jD (ι := DL) (fun l => VOK 1 l.v.n l.v.cap (RwH.enc l.rs) l.v.sp l.v.q ∧ DOK RB o l.rs) (fun l => [(7, sL l.v)]) (fun l => [kc b #[.slice qa0 na0 ca0, .slice qa1 na1 ca1] 38]) (fun l => [⟨93, RwH.enc l.rs, l.v.sp, l.v.q, dbl 4 RB o l.rs⟩]) ?_ ?_
  ·replace hm := h4
   refine jl ?_
   refine jF (ι := DL) hm (fun s l_1 => VOK 1 l_1.v.n l_1.v.cap (RwH.enc l_1.rs) l_1.v.sp l_1.v.q ∧ DOK RB s.out7 l_1.rs) (fun s l_1 => [(1, .int .i64 tenant1), (2, .int .i64 strip2), (3, ptr b 0), (7, sL l_1.v), (8, .int .i64 s.t8)]) (fun s l_1 => [kc b #[.slice qa0 na0 ca0, .slice qa1 na1 ca1] 38]) (fun s l_1 => [⟨93, RwH.enc l_1.rs, l_1.v.sp, l_1.v.q, dbl 4 RB s.out7 l_1.rs⟩]) (⟨⟨none, 0, 0, []⟩, []⟩) (⟨VOK.nil, DOK.nil⟩) (sE Y) (fun w hh => hh) (fun s l_1 r hpl hm h10 => ?_)
   obtain ⟨h8, h9⟩ := hpl
   unfold zC at hm
   refine jk (jp (je Y Y (jM 1 runUnderlying38 Y sizeOf23 Y Y (jS 0 isAgg23 Y Y Y Y (jc Y Y Y (fun w _ => jB hna1 (runUnderlying23 w) Y) (q8 Y Y Y (jo ?_)))))))
   refine jq Y (fun h11 => ?_) (fun h11 => ?_)
   ·replace hm := ifD h11 hm
    refine jt (ja (jk (jl (jp (jM 0 runUnderlying38 Y sizeOf36 Y Y (jS 0 isAgg36 Y Y Y Y (jc Y Y Y (fun w _ => jB hna0 (runUnderlying36 w) Y) ?_)))))))
    obtain ⟨t21, h12, hm⟩ := bindO hm
    refine kC RB false h12 underlying93 Zf Y Y Y Y Y (fun L h13 => ?_)
    refine jm Y Y (jo (jk (jp (jm Y Y (jo ?_)))))
    obtain ⟨o_1, h14, h15⟩ := bindO hm
    refine jD (ι := Unit) (fun l_2 => VOK 1 L.n L.cap (RB.enc o_1) L.sp L.q) (fun l_2 => [(1, .int .i64 tenant1), (2, .int .i64 strip2), (3, ptr b 0), (7, sL l_1.v), (8, .int .i64 s.t8), (9, sL L)]) (fun l_2 => [kc b #[.slice qa0 na0 ca0, .slice qa1 na1 ca1] 38]) (fun l_2 => [⟨93, RwH.enc l_1.rs, l_1.v.sp, l_1.v.q, dbl 4 RB s.out7 l_1.rs⟩, vL 4 L (RB.enc o_1)]) ?_ ?_
    ·replace hm := h14
     refine jl ?_
     refine jF (ι := Unit) hm (fun s_1 l_3 => VOK 1 L.n L.cap (RB.enc s_1.t21) L.sp L.q) (fun s_1 l_3 => [(1, .int .i64 tenant1), (2, .int .i64 strip2), (3, ptr b 0), (7, sL l_1.v), (8, .int .i64 s.t8), (9, sL L), (10, .int .i64 s_1.k10)]) (fun s_1 l_3 => [kc b #[.slice qa0 na0 ca0, .slice qa1 na1 ca1] 38]) (fun s_1 l_3 => [⟨93, RwH.enc l_1.rs, l_1.v.sp, l_1.v.q, dbl 4 RB s.out7 l_1.rs⟩, vL 4 L (RB.enc s_1.t21)]) () (h13) (sE Y) (hsE [0] [1, 0] 0 Y Y Y Y) (fun s_1 l_3 r_1 hpl hm h18 => ?_)
     have h17 := hpl
     unfold yK at hm
     refine jk (jp (je Y Y (je Y Y (jc Y Y Y (fun w _ => QC (vlen RB h17 Y) (runUnderlying93 w) Y) (q8 Y Y Y (jo ?_))))))
     refine jq Y (fun h19 => ?_) (fun h19 => ?_)
     ·replace hm := ifD h19 hm
      refine jt (ja (jk ?_))
      obtain ⟨o_2, h20, h21⟩ := bindO hm
      refine jD (ι := Unit) (fun l_4 => VOK 1 L.n L.cap (RB.enc o_2) L.sp L.q) (fun l_4 => [(1, .int .i64 tenant1), (2, .int .i64 strip2), (3, ptr b 0), (7, sL l_1.v), (8, .int .i64 s.t8), (9, sL L), (10, .int .i64 s_1.k10)]) (fun l_4 => [kc b #[.slice qa0 na0 ca0, .slice qa1 na1 ca1] 38]) (fun l_4 => [⟨93, RwH.enc l_1.rs, l_1.v.sp, l_1.v.q, dbl 4 RB s.out7 l_1.rs⟩, vL 4 L (RB.enc o_2)]) ?_ ?_
      ·replace hm := h20
       refine jl (jh (je Y Y (je Y Y (je Y Y (q8 Y Y Y (je Y Y ?_))))))
       refine jH 32 Y (fun h23 => ?_) (fun h23 => ?_)
       ·replace hm := ifD h23 hm
        refine g_k Y Y Y Y (g_k Y Y Y Y (g_k Y Y Y Y (j8 Y Y Y (je Y Y (jb Y Y (je Y Y (jb Y Y ?_)))))))
        refine q8 Y Y Y (jb Y Y (je Y Y ?_))
        refine jH 40 Y (fun h24 => ?_) (fun h24 => ?_)
        ·replace hm := ifD h24 hm
         refine g_k Y Y Y Y (g_k Y Y Y Y (g_k Y Y Y Y (jb Y Y (j8 Y Y Y (j8 Y Y Y (je Y Y (jb Y Y ?_)))))))
         refine jM 0 runUnderlying38 Y sizeOf36 Y Y (jb Y Y (jS 0 isAgg36 Y Y Y Y (jb Y Y (je Y Y (jb Y Y ?_)))))
         obtain ⟨t50, h25, hm⟩ := bindO hm
         refine jc Y Y Y (fun w _ => jY h25 (runUnderlying36 w) (sizeOf98 w) Y Y hna0 hqa0) (jb Y Y (jM 0 runUnderlying98 Y sizeOf3 Y Y (jb Y Y (jc Y Y Y (fun w hh => jW RSt 0 h25 (isAgg3 w) Y (hh.seg 0 Y) Y Y) (jb Y Y (je Y Y (jb Y Y ?_)))))))
         refine jc Y Y Y (fun _ _ => k5 Y Y) (j8 Y Y Y ?_)
         obtain ⟨t56, h26, hm⟩ := bindO hm
         refine jc Y Y Y (fun w _ => qR h26 (runUnderlying93 w) (sizeOf4 w) Y Y (vlen RB h17 Y) (vne h17)) ?_
         obtain ⟨t21_1, ht21_1, hm⟩ := bindO hm
         refine Qv RB 1 0 (!decide (t50.tenant = s.t8)) (fun w => sizeOf4 w) Y Y Y Y h17 Y (Nat.add_zero _).symm Y h26 Y Y (Option.some.inj ht21_1) (fun h27 => ?_)
         refine jT (S' := [_]) (vs' := [_, _]) [0] [0, 1] 0 Y Y Y Y (jv (js ?_))
         obtain rfl := sj hm
         exact jg () (h27) (sE Y) (fun w hh => hh)
        replace hm := ifE h24 hm
        refine jb Y Y (je Y Y (jb Y Y (je Y Y (jb Y Y (jc Y Y Y (fun _ _ => Kc Y Y) (jb Y Y (ky Y Y Y ?_)))))))
        refine j8 Y Y Y (je Y Y ?_)
        refine jH 46 Y (fun h28 => ?_) (fun h28 => ?_)
        ·replace hm := ifD h28 hm
         refine jb Y Y (jM 0 runUnderlying38 Y sizeOf36 Y Y (jb Y Y (jS 0 isAgg36 Y Y Y Y (jb Y Y (je Y Y (jb Y Y ?_))))))
         obtain ⟨t50_1, h29, hm⟩ := bindO hm
         refine jc Y Y Y (fun w _ => jY h29 (runUnderlying36 w) (sizeOf98 w) Y Y hna0 hqa0) (jb Y Y (jM 0 runUnderlying98 Y sizeOf3 Y Y (jb Y Y (jc Y Y Y (fun w hh => jW RSt 0 h29 (isAgg3 w) Y (hh.seg 0 Y) Y Y) (jb Y Y (je Y Y (jb Y Y ?_)))))))
         refine jc Y Y Y (fun _ _ => k5 Y Y) (j8 Y Y Y ?_)
         obtain ⟨t56_1, h30, hm⟩ := bindO hm
         refine jc Y Y Y (fun w _ => qR h30 (runUnderlying93 w) (sizeOf4 w) Y Y (vlen RB h17 Y) (vne h17)) ?_
         obtain ⟨t21_2, ht21_2, hm⟩ := bindO hm
         refine Qv RB 1 0 (!decide (t50_1.tenant = s.t8)) (fun w => sizeOf4 w) Y Y Y Y h17 Y (Nat.add_zero _).symm Y h30 Y Y (Option.some.inj ht21_2) (fun h31 => ?_)
         refine jT (S' := [_]) (vs' := [_, _]) [0] [0, 1] 0 Y Y Y Y (jv (js ?_))
         obtain rfl := sj hm
         exact jg () (h31) (sE Y) (fun w hh => hh)
        replace hm := ifE h28 hm
        refine g_k Y Y Y Y (g_k Y Y Y Y (g_k Y Y Y Y (g_k Y Y Y Y (g_k Y Y Y Y (g_k Y Y Y Y (g_k Y Y Y Y (g_k Y Y Y Y ?_)))))))
        refine ky Y Y Y ?_
        obtain ⟨t56_2, h32, hm⟩ := bindO hm
        refine jc Y Y Y (fun w _ => qR h32 (runUnderlying93 w) (sizeOf4 w) Y Y (vlen RB h17 Y) (vne h17)) ?_
        obtain ⟨t21_3, ht21_3, hm⟩ := bindO hm
        refine Qv RB 1 0 false (fun w => sizeOf4 w) Y Y Y Y h17 Y (Nat.add_zero _).symm Y h32 Y Y (Option.some.inj ht21_3) (fun h33 => ?_)
        refine jT (S' := [_]) (vs' := [_, _]) [0] [0, 1] 0 Y Y Y Y (jv (js ?_))
        obtain rfl := sj hm
        exact jg () (h33) (sE Y) (fun w hh => hh)
       replace hm := ifE h23 hm
       refine jb Y Y (je Y Y (jb Y Y (je Y Y (jb Y Y (jc Y Y Y (fun _ _ => Kc Y Y) (ky Y Y Y (je Y Y ?_)))))))
       refine jH 37 Y (fun h34 => ?_) (fun h34 => ?_)
       ·replace hm := ifD h34 hm
        refine jb Y Y (je Y Y (jb Y Y (q8 Y Y Y (jb Y Y (je Y Y ?_)))))
        refine jH 40 Y (fun h35 => ?_) (fun h35 => ?_)
        ·replace hm := ifD h35 hm
         refine g_k Y Y Y Y (g_k Y Y Y Y (g_k Y Y Y Y (jb Y Y (j8 Y Y Y (j8 Y Y Y (je Y Y (jb Y Y ?_)))))))
         refine jM 0 runUnderlying38 Y sizeOf36 Y Y (jb Y Y (jS 0 isAgg36 Y Y Y Y (jb Y Y (je Y Y (jb Y Y ?_)))))
         obtain ⟨t50_2, h36, hm⟩ := bindO hm
         refine jc Y Y Y (fun w _ => jY h36 (runUnderlying36 w) (sizeOf98 w) Y Y hna0 hqa0) (jb Y Y (jM 0 runUnderlying98 Y sizeOf3 Y Y (jb Y Y (jc Y Y Y (fun w hh => jW RSt 0 h36 (isAgg3 w) Y (hh.seg 0 Y) Y Y) (jb Y Y (je Y Y (jb Y Y ?_)))))))
         refine jc Y Y Y (fun _ _ => k5 Y Y) (j8 Y Y Y ?_)
         obtain ⟨t56_3, h37, hm⟩ := bindO hm
         refine jc Y Y Y (fun w _ => qR h37 (runUnderlying93 w) (sizeOf4 w) Y Y (vlen RB h17 Y) (vne h17)) ?_
         obtain ⟨t21_4, ht21_4, hm⟩ := bindO hm
         refine Qv RB 1 0 (!decide (t50_2.tenant = s.t8)) (fun w => sizeOf4 w) Y Y Y Y h17 Y (Nat.add_zero _).symm Y h37 Y Y (Option.some.inj ht21_4) (fun h38 => ?_)
         refine jT (S' := [_]) (vs' := [_, _]) [0] [0, 1] 0 Y Y Y Y (jv (js ?_))
         obtain rfl := sj hm
         exact jg () (h38) (sE Y) (fun w hh => hh)
        replace hm := ifE h35 hm
        refine jb Y Y (je Y Y (jb Y Y (je Y Y (jb Y Y (jc Y Y Y (fun _ _ => Kc Y Y) (jb Y Y (ky Y Y Y ?_)))))))
        refine j8 Y Y Y (je Y Y ?_)
        refine jH 46 Y (fun h39 => ?_) (fun h39 => ?_)
        ·replace hm := ifD h39 hm
         refine jb Y Y (jM 0 runUnderlying38 Y sizeOf36 Y Y (jb Y Y (jS 0 isAgg36 Y Y Y Y (jb Y Y (je Y Y (jb Y Y ?_))))))
         obtain ⟨t50_3, h40, hm⟩ := bindO hm
         refine jc Y Y Y (fun w _ => jY h40 (runUnderlying36 w) (sizeOf98 w) Y Y hna0 hqa0) (jb Y Y (jM 0 runUnderlying98 Y sizeOf3 Y Y (jb Y Y (jc Y Y Y (fun w hh => jW RSt 0 h40 (isAgg3 w) Y (hh.seg 0 Y) Y Y) (jb Y Y (je Y Y (jb Y Y ?_)))))))
         refine jc Y Y Y (fun _ _ => k5 Y Y) (j8 Y Y Y ?_)
         obtain ⟨t56_4, h41, hm⟩ := bindO hm
         refine jc Y Y Y (fun w _ => qR h41 (runUnderlying93 w) (sizeOf4 w) Y Y (vlen RB h17 Y) (vne h17)) ?_
         obtain ⟨t21_5, ht21_5, hm⟩ := bindO hm
         refine Qv RB 1 0 (!decide (t50_3.tenant = s.t8)) (fun w => sizeOf4 w) Y Y Y Y h17 Y (Nat.add_zero _).symm Y h41 Y Y (Option.some.inj ht21_5) (fun h42 => ?_)
         refine jT (S' := [_]) (vs' := [_, _]) [0] [0, 1] 0 Y Y Y Y (jv (js ?_))
         obtain rfl := sj hm
         exact jg () (h42) (sE Y) (fun w hh => hh)
        replace hm := ifE h39 hm
        refine g_k Y Y Y Y (g_k Y Y Y Y (g_k Y Y Y Y (g_k Y Y Y Y (g_k Y Y Y Y (g_k Y Y Y Y (g_k Y Y Y Y (g_k Y Y Y Y ?_)))))))
        refine ky Y Y Y ?_
        obtain ⟨t56_5, h43, hm⟩ := bindO hm
        refine jc Y Y Y (fun w _ => qR h43 (runUnderlying93 w) (sizeOf4 w) Y Y (vlen RB h17 Y) (vne h17)) ?_
        obtain ⟨t21_6, ht21_6, hm⟩ := bindO hm
        refine Qv RB 1 0 false (fun w => sizeOf4 w) Y Y Y Y h17 Y (Nat.add_zero _).symm Y h43 Y Y (Option.some.inj ht21_6) (fun h44 => ?_)
        refine jT (S' := [_]) (vs' := [_, _]) [0] [0, 1] 0 Y Y Y Y (jv (js ?_))
        obtain rfl := sj hm
        exact jg () (h44) (sE Y) (fun w hh => hh)
       replace hm := ifE h34 hm
       refine g_k Y Y Y Y (g_k Y Y Y Y (g_k Y Y Y Y ?_))
       refine jx Y Y Y Y Y ?_
       refine jx Y Y Y Y Y ?_
       refine jx Y Y Y Y Y ?_
       refine g_k Y Y Y Y (ky Y Y Y (je Y Y (g_k Y Y Y Y (g_k Y Y Y Y (g_k Y Y Y Y (g_k Y Y Y Y (g_k Y Y Y Y ?_)))))))
       refine g_k Y Y Y Y (g_k Y Y Y Y (g_k Y Y Y Y (ky Y Y Y ?_)))
       obtain ⟨t56_6, h45, hm⟩ := bindO hm
       refine jc Y Y Y (fun w _ => qR h45 (runUnderlying93 w) (sizeOf4 w) Y Y (vlen RB h17 Y) (vne h17)) ?_
       obtain ⟨t21_7, ht21_7, hm⟩ := bindO hm
       refine Qv RB 1 0 false (fun w => sizeOf4 w) Y Y Y Y h17 Y (Nat.add_zero _).symm Y h45 Y Y (Option.some.inj ht21_7) (fun h46 => ?_)
       refine jT (S' := [_]) (vs' := [_, _]) [0] [0, 1] 0 Y Y Y Y (jv (js ?_))
       obtain rfl := sj hm
       exact jg () (h46) (sE Y) (fun w hh => hh)
      intro l_4 hj
      have h22 := hj
      replace hm := h21
      refine ja (jh (je Y Y ?_))
      obtain ⟨t27, h47, hm⟩ := bindO hm
      refine kS h47 Y Y Y (jm Y Y (jv ?_))
      obtain rfl := sj hm
      refine ja ?_
      exact jy _ () Y (h22) (sE Y) (fun w hh => hh)
     replace hm := ifE h19 hm
     refine jO (jj (jj (jC ?_)))
     obtain rfl := sj hm
     have hbo := h18 _ Y
     subst hbo
     exact jg () (h17) (sE Y) (fun w hh => hh)
    intro l_2 hj
    have h16 := hj
    replace hm := h15
    refine ja (jh (je Y Y (je Y Y ?_)))
    refine kU RwH [(⟨L.q, L.n, L.cap, L.sp⟩ : VL)] (ps := [(0, _)]) (cells := [_]) (fun w => runUnderlying46 w) (fun w => sizeOf93 w) (fun w => zeroValue93 w) Y Y Y Y Y Y Y Y (fun L_1 h48 => ?_)
    refine ja9 (E2 := 4) RB 1 (Y : _ = ([[]] : List (List Bool))) (fun h49 => ?_)
    refine jT (S' := [_]) (vs' := [_, _, _]) [0] [0, 2, 1] 0 Y Y Y Y ?_
    refine jbf RB (l' := [o_1]) 0 L.n L.cap h49 h16 Y Y (fun h50 => ?_)
    have h51 : DOK RB [o_1] [(⟨L.q, L.n, L.cap, L.sp⟩ : VL)] := h50
    refine jbR (S' := [_]) (vs' := [⟨93, RwH.enc [(⟨L.q, L.n, L.cap, L.sp⟩ : VL)], L_1.sp, L_1.q, dbl 4 RB [o_1] [(⟨L.q, L.n, L.cap, L.sp⟩ : VL)]⟩, ⟨93, RwH.enc l_1.rs, l_1.v.sp, l_1.v.q, dbl 4 RB s.out7 l_1.rs⟩]) [0] [0, 1] 0 (by decide) (by decide) Y Y Y ?_
    obtain ⟨t60, h52, hm⟩ := bindO hm
    refine yS RwH 1 (appcL h52 (h9).len (h51).len) underlying46 jbx Y Y Y Y Y h8 Y Y (vlen RwH h48 Y) (AOK.q (vne h48)) (fun w hh => (hh.vsegA 0 Y h48)) Y (fun L_2 h53 _ => ?_)
    refine jT (S' := [_]) (vs' := [_, _]) [0] [0, 1] 0 Y Y Y Y (jT (S' := [_]) (vs' := [_, _]) [0] [1, 0] 0 Y Y Y Y ?_)
    refine jbi RB h9 h51 (appcO h52).1.symm (fun h54 => ?_)
    refine jm Y Y (jv (js (ja (jh (je Y Y ?_)))))
    obtain ⟨t17, h55, hm⟩ := bindO hm
    refine kS h55 Y Y Y (jm Y Y (jv ?_))
    obtain rfl := sj hm
    refine ja ?_
    exact jy _ (⟨⟨L_2.q, L_2.n, L_2.cap, L_2.sp⟩, (l_1.rs ++ [(⟨L.q, L.n, L.cap, L.sp⟩ : VL)])⟩) Y (⟨h53, h54⟩) (sE Y) (fun w hh => hh)
   replace hm := ifE h11 hm
   refine jO (jj (jj (jC ?_)))
   obtain rfl := sj hm
   have hbo := h10 _ Y
   subst hbo
   exact jg l_1 (⟨h8, h9⟩) (sE Y) (fun w hh => hh)
  intro l hj
  obtain ⟨h6, h7⟩ := hj
  replace hm := h5
  refine ja (jp (je Y Y (jm Y Y (jo (jw ?_)))))
  obtain rfl := sj hm
  refine jn Y (fun w hh => (.tmp Y .nil)) (fun w hh => ⟨l, rfl, ⟨h6, h7⟩, hh.se [] [0] 2 Y Y Y rfl⟩)
structure ZF where
  t2_can : (List Bool)
  t2_least : (List Int)
  t2_most : (List Int)
def KM (n0 : Int) : Option Book :=
 ((makec 1 false n0 n0).bind fun t4 =>
 (makec 8 0 n0 n0).bind fun t6 =>
 (makec 8 0 n0 n0).bind fun t8 =>
 some (⟨t4, t6, t8⟩ : ZF)).bind fun o =>
 some (⟨o.t2_can, o.t2_least, o.t2_most⟩ : Book)
theorem ZL (n0 : Int)  (w : World) (hw : HV w (keys [] []) [] [] [] w)  {res : Book} (hm : KM n0 = some res) :
    Calls Tryz.prog 53 #[.int .i64 n0] w (fun en w' => ∃ l : VL × VL × VL, en = .returned (.agg #[sL l.1, sL l.2.1, sL l.2.2]) ∧ (VOK 1 l.1.n l.1.cap (RB.enc res.can) l.1.sp l.1.q ∧ VOK 1 l.2.1.n l.2.1.cap (RI.enc res.least) l.2.1.sp l.2.1.q ∧ VOK 1 l.2.2.n l.2.2.cap (RI.enc res.most) l.2.2.sp l.2.2.q) ∧ HV w (keys [] []) [] [vL 4 l.1 (RB.enc res.can), vL 3 l.2.1 (RI.enc res.least), vL 3 l.2.2 (RI.enc res.most)] [] w') := by
  unfold KM at hm
  refine kj func53 Y ntmps53 Y (e := [(0, _)]) Y hw (jp ?_)
  refine ju (fun w => zeroValue102 w) Y (fun b h4 => ?_)
  refine jo (jk (kp 4 (kp 3 (kp 3 ?_))))
  obtain ⟨o, h5, h6⟩ := bindO hm
  refine jD (ι := VL × VL × VL) (fun l => VOK 1 l.1.n l.1.cap (RB.enc o.t2_can) l.1.sp l.1.q ∧ VOK 1 l.2.1.n l.2.1.cap (RI.enc o.t2_least) l.2.1.sp l.2.1.q ∧ VOK 1 l.2.2.n l.2.2.cap (RI.enc o.t2_most) l.2.2.sp l.2.2.q) (fun l => [(2, ptr b 0)]) (fun l => [kc b #[sL l.1, sL l.2.1, sL l.2.2] 102]) (fun l => [vL 4 l.1 (RB.enc o.t2_can), vL 3 l.2.1 (RI.enc o.t2_least), vL 3 l.2.2 (RI.enc o.t2_most)]) ?_ ?_
  ·replace hm := h5
   obtain ⟨t4, h10, hm⟩ := bindO hm
   obtain ⟨t6, h11, hm⟩ := bindO hm
   obtain ⟨t8, h12, hm⟩ := bindO hm
   refine jV none (.free 0 (.free 2 (.free 4 (.br (.alt 1 (.br (.alt 3 (.one 5 (.free 6 (.one 7 .done))) (.alt 5 (.one 3 (.free 6 (.one 7 .done))) .nil))) (.alt 3 (.br (.alt 1 (.one 5 (.free 6 (.one 7 .done))) (.alt 5 (.one 1 (.free 6 (.one 7 .done))) .nil))) (.alt 5 (.br (.alt 1 (.one 3 (.free 6 (.one 7 .done))) (.alt 3 (.one 1 (.free 6 (.one 7 .done))) .nil))) .nil))))))) (HV _ _ [] [⟨3, RI.enc [], [], none, []⟩, ⟨3, RI.enc [], [], none, []⟩, ⟨4, RB.enc [], [], none, []⟩] _) Y (by decide +kernel) (fun w k hh => hh.draw k) (hsE [] [0, 1, 2] 0 Y Y Y Y) ?_
   refine kb Y Y Y (kb Y Y Y (kb Y Y Y (Y5 ?_)))
   refine k6 Y ?_ ?_
   ·refine kC RB false h10 underlying93 Zf Y Y Y Y Y (fun L h13 => ?_)
    refine jr (hsE [] [1, 2, 3] 0 Y Y Y Y) (Y5 ?_)
    refine k6 Y ?_ ?_
    ·refine kC RI 0 h11 underlying26 zZ Y Y Y Y Y (fun L_1 h14 => ?_)
     refine jr (hsE [] [2, 3, 4] 0 Y Y Y Y) (jJ Y ?_)
     refine kC RI 0 h12 underlying26 zZ Y Y Y Y Y (fun L_2 h15 => ?_)
     refine jr (hsE [] [3, 4, 5] 0 Y Y Y Y) (ji Y Y Y Y (fun _ _ => jG (vs := [(0, _), (1, _), (2, _)]) (cells := [_, _, _]) Y Y) (jJ Y (jE (us := #[_, _, _]) (cs' := [_, _, _]) (S' := [_]) 0 (fun w => sizeOf102 w) Y Y Y Y Y Y Y (jr (hsE [] [3, 4, 5] 0 Y Y Y Y) (jI ?_)))))
     obtain rfl := sj hm
     exact jg (L, L_1, L_2) (⟨h13, h14, h15⟩) (sE Y) (hsE [0] [2, 1, 0] 0 Y Y Y Y)
    refine k6 Y ?_ ?_
    refine kC RI 0 h12 underlying26 zZ Y Y Y Y Y (fun L_3 h16 => ?_)
    refine jr (hsE [] [2, 3, 4] 0 Y Y Y Y) (jJ Y ?_)
    refine kC RI 0 h11 underlying26 zZ Y Y Y Y Y (fun L_4 h17 => ?_)
    refine jr (hsE [] [3, 4, 5] 0 Y Y Y Y) (ji Y Y Y Y (fun _ _ => jG (vs := [(0, _), (1, _), (2, _)]) (cells := [_, _, _]) Y Y) (jJ Y (jE (us := #[_, _, _]) (cs' := [_, _, _]) (S' := [_]) 0 (fun w => sizeOf102 w) Y Y Y Y Y Y Y (jr (hsE [] [3, 4, 5] 0 Y Y Y Y) (jI ?_)))))
    obtain rfl := sj hm
    exact jg (L, L_4, L_3) (⟨h13, h17, h16⟩) (sE Y) (hsE [0] [2, 0, 1] 0 Y Y Y Y)
    exact Kz
   refine k6 Y ?_ ?_
   refine kC RI 0 h11 underlying26 zZ Y Y Y Y Y (fun L_5 h18 => ?_)
   refine jr (hsE [] [1, 2, 3] 0 Y Y Y Y) (Y5 ?_)
   refine k6 Y ?_ ?_
   ·refine kC RB false h10 underlying93 Zf Y Y Y Y Y (fun L_6 h19 => ?_)
    refine jr (hsE [] [2, 3, 4] 0 Y Y Y Y) (jJ Y ?_)
    refine kC RI 0 h12 underlying26 zZ Y Y Y Y Y (fun L_7 h20 => ?_)
    refine jr (hsE [] [3, 4, 5] 0 Y Y Y Y) (ji Y Y Y Y (fun _ _ => jG (vs := [(0, _), (1, _), (2, _)]) (cells := [_, _, _]) Y Y) (jJ Y (jE (us := #[_, _, _]) (cs' := [_, _, _]) (S' := [_]) 0 (fun w => sizeOf102 w) Y Y Y Y Y Y Y (jr (hsE [] [3, 4, 5] 0 Y Y Y Y) (jI ?_)))))
    obtain rfl := sj hm
    exact jg (L_6, L_5, L_7) (⟨h19, h18, h20⟩) (sE Y) (hsE [0] [1, 2, 0] 0 Y Y Y Y)
   refine k6 Y ?_ ?_
   refine kC RI 0 h12 underlying26 zZ Y Y Y Y Y (fun L_8 h21 => ?_)
   refine jr (hsE [] [2, 3, 4] 0 Y Y Y Y) (jJ Y ?_)
   refine kC RB false h10 underlying93 Zf Y Y Y Y Y (fun L_9 h22 => ?_)
   refine jr (hsE [] [3, 4, 5] 0 Y Y Y Y) (ji Y Y Y Y (fun _ _ => jG (vs := [(0, _), (1, _), (2, _)]) (cells := [_, _, _]) Y Y) (jJ Y (jE (us := #[_, _, _]) (cs' := [_, _, _]) (S' := [_]) 0 (fun w => sizeOf102 w) Y Y Y Y Y Y Y (jr (hsE [] [3, 4, 5] 0 Y Y Y Y) (jI ?_)))))
   obtain rfl := sj hm
   exact jg (L_9, L_5, L_8) (⟨h22, h18, h21⟩) (sE Y) (hsE [0] [0, 2, 1] 0 Y Y Y Y)
   exact Kz
   refine k6 Y ?_ ?_
   ·refine kC RI 0 h12 underlying26 zZ Y Y Y Y Y (fun L_10 h23 => ?_)
    refine jr (hsE [] [1, 2, 3] 0 Y Y Y Y) (Y5 ?_)
    refine k6 Y ?_ ?_
    ·refine kC RB false h10 underlying93 Zf Y Y Y Y Y (fun L_11 h24 => ?_)
     refine jr (hsE [] [2, 3, 4] 0 Y Y Y Y) (jJ Y ?_)
     refine kC RI 0 h11 underlying26 zZ Y Y Y Y Y (fun L_12 h25 => ?_)
     refine jr (hsE [] [3, 4, 5] 0 Y Y Y Y) (ji Y Y Y Y (fun _ _ => jG (vs := [(0, _), (1, _), (2, _)]) (cells := [_, _, _]) Y Y) (jJ Y (jE (us := #[_, _, _]) (cs' := [_, _, _]) (S' := [_]) 0 (fun w => sizeOf102 w) Y Y Y Y Y Y Y (jr (hsE [] [3, 4, 5] 0 Y Y Y Y) (jI ?_)))))
     obtain rfl := sj hm
     exact jg (L_11, L_12, L_10) (⟨h24, h25, h23⟩) (sE Y) (hsE [0] [1, 0, 2] 0 Y Y Y Y)
    refine k6 Y ?_ ?_
    refine kC RI 0 h11 underlying26 zZ Y Y Y Y Y (fun L_13 h26 => ?_)
    refine jr (hsE [] [2, 3, 4] 0 Y Y Y Y) (jJ Y ?_)
    refine kC RB false h10 underlying93 Zf Y Y Y Y Y (fun L_14 h27 => ?_)
    refine jr (hsE [] [3, 4, 5] 0 Y Y Y Y) (ji Y Y Y Y (fun _ _ => jG (vs := [(0, _), (1, _), (2, _)]) (cells := [_, _, _]) Y Y) (jJ Y (jE (us := #[_, _, _]) (cs' := [_, _, _]) (S' := [_]) 0 (fun w => sizeOf102 w) Y Y Y Y Y Y Y (jr (hsE [] [3, 4, 5] 0 Y Y Y Y) (jI ?_)))))
    obtain rfl := sj hm
    exact jg (L_14, L_13, L_10) (⟨h27, h26, h23⟩) (sE Y) (hsE [0] [0, 1, 2] 0 Y Y Y Y)
    exact Kz
   exact Kz
  intro l hj
  obtain ⟨h7, h8, h9⟩ := hj
  replace hm := h6
  refine ja (jw ?_)
  obtain rfl := sj hm
  refine jn Y (fun w hh => (.cell Y (loadVar_agg (vs := [_, _, _]) (isAgg102 _) (sizeOf102 _) (hh.cells 0 Y Y)) .nil)) (fun w hh => ⟨(l.1, l.2.1, l.2.2), rfl, ⟨h7, h8, h9⟩, hh.se [] [0, 1, 2] 0 Y Y Y rfl⟩)
def Jl (s0 : Scalps) (strip1 : Int) : Option Span :=
 (ix s0.strips strip1).bind fun t9 =>
 (addc t9.lay.lo t9.seeded.lo).bind fun t17 =>
 (subc t17 t9.left.hi).bind fun t21 =>
 (addc t9.lay.hi t9.seeded.hi).bind fun t29 =>
 (subc t29 t9.left.lo).bind fun t33 =>
 some (⟨(max 0 t21), t33⟩ : Span)
theorem YE (s0 : Scalps) (strip1 : Int) (qa0 : Option Addr) (na0 ca0 : Nat) (qa1 : Option Addr) (na1 ca1 : Nat) (w : World) (hw : HV w (keys [] []) [] [] [(aB qa0, aO qa0, RSt.enc s0.strips), (aB qa1, aO qa1, RSp.enc s0.carried)] w) (hna0 : s0.strips.length = na0) (hqa0 : AOK na0 qa0) (hla0 : na0 ≤ ca0) (hna1 : s0.carried.length = na1) (hqa1 : AOK na1 qa1) (hla1 : na1 ≤ ca1) {res : Span} (hm : Jl s0 strip1 = some res) :
    Calls Tryz.prog 35 #[.agg #[.slice qa0 na0 ca0, .slice qa1 na1 ca1], .int .i64 strip1] w (fun en w' => ∃ l : Unit, en = .returned (.agg #[.int .i64 res.lo, .int .i64 res.hi]) ∧ (True) ∧ HV w (keys [] []) [] [] [] w') := by
  unfold Jl at hm
  refine kj func35 Y ntmps35 Y (e := [(0, _), (1, _)]) Y hw (jp ?_)
  refine jK Y Y (fun b h1 => ?_)
  refine ju (fun w => zeroValue32 w) Y (fun b_1 h2 => ?_)
  refine j3 (jM 0 runUnderlying38 Y sizeOf36 Y Y (jS 1 isAgg36 Y Y Y Y (je Y Y ?_)))
  obtain ⟨t9, h3, hm⟩ := bindO hm
  refine jc Y Y Y (fun w _ => jY h3 (runUnderlying36 w) (sizeOf98 w) Y Y hna0 hqa0) ?_
  refine jc Y Y Y (fun w hh => kz RSt 0 [.int .i64 t9.tenant, .int .i64 t9.lay.lo, .int .i64 t9.lay.hi, .int .i64 t9.seeded.lo, .int .i64 t9.seeded.hi, .int .i64 t9.left.lo, .int .i64 t9.left.hi] h3 (isAgg98 w) (sizeOf98 w) Y (hh.seg 0 Y) Y (Nat.add_zero _).symm) ?_
  refine ju (fun w => zeroValue98 w) Y (fun b_2 h4 => ?_)
  refine jE (us := #[_, _, _, _, _, _, _]) (cs' := [_, _, _, _, _, _, _]) (S' := [_, _, _]) 0 (fun w => sizeOf98 w) Y Y Y Y Y Y Y (j3 (jM 1 runUnderlying98 Y sizeOf32 Y Y (jM 0 runUnderlying32 Y sizeOf3 Y Y (jS 0 isAgg3 Y Y Y Y (jM 3 runUnderlying98 Y sizeOf32 Y Y (jM 0 runUnderlying32 Y sizeOf3 Y Y (jS 0 isAgg3 Y Y Y Y ?_)))))))
  obtain ⟨t17, h5, hm⟩ := bindO hm
  refine kS h5 Y Y Y (jM 5 runUnderlying98 Y sizeOf32 Y Y (jM 1 runUnderlying32 Y sizeOf3 Y Y (jS 0 isAgg3 Y Y Y Y ?_)))
  obtain ⟨t21, h6, hm⟩ := bindO hm
  refine jc Y Y Y (fun _ _ => qp h6 Y Y) (jc Y Y Y (fun _ _ => ZN Y Y) (jM 1 runUnderlying98 Y sizeOf32 Y Y (jM 1 runUnderlying32 Y sizeOf3 Y Y (jS 0 isAgg3 Y Y Y Y (jM 3 runUnderlying98 Y sizeOf32 Y Y (jM 1 runUnderlying32 Y sizeOf3 Y Y (jS 0 isAgg3 Y Y Y Y ?_)))))))
  obtain ⟨t29, h7, hm⟩ := bindO hm
  refine kS h7 Y Y Y (jM 5 runUnderlying98 Y sizeOf32 Y Y (jM 0 runUnderlying32 Y sizeOf3 Y Y (jS 0 isAgg3 Y Y Y Y ?_)))
  obtain ⟨t33, h8, hm⟩ := bindO hm
  refine jc Y Y Y (fun _ _ => qp h8 Y Y) (jc Y Y Y (fun _ _ => jG (vs := [(0, _), (1, _)]) (cells := [_, _]) Y Y) (jE (us := #[_, _]) (cs' := [_, _]) (S' := [_, _, _]) 1 (fun w => sizeOf32 w) Y Y Y Y Y Y Y (jo (jw ?_))))
  obtain rfl := sj hm
  refine jn Y (fun w hh => (.cell Y (loadVar_agg (vs := [_, _]) (isAgg32 _) (sizeOf32 _) (hh.cells 1 Y Y)) .nil)) (fun w hh => ⟨(), rfl, trivial, hh.se [] [] 2 Y Y Y rfl⟩)
structure KX where
  b0_can : (List Bool)
  b0_least : (List Int)
  b0_most : (List Int)
structure QO where
  b0_can : (List Bool)
  b0_least : (List Int)
  b0_most : (List Int)
def J7 (b0 : Book) (at1 : Int) (least2 : Int) (most3 : Int) : Option KX :=
 ((ix b0.can at1).bind fun t11 =>
 if (!t11) = true then
 ((ix b0.can at1).bind fun t25 =>
 (some (b0.can.set (Int.toNat at1) true)).bind fun b0_can =>
 (ix b0.least at1).bind fun t26 =>
 (some (b0.least.set (Int.toNat at1) least2)).bind fun b0_least =>
 (ix b0.most at1).bind fun t27 =>
 (some (b0.most.set (Int.toNat at1) most3)).bind fun b0_most =>
 some (⟨b0_can, b0_least, b0_most⟩ : QO)) else
 (some (⟨b0.can, b0.least, b0.most⟩ : QO))).bind fun o =>
 (ix o.b0_least at1).bind fun t34 =>
 (ix o.b0_least at1).bind fun t38 =>
 (some (o.b0_least.set (Int.toNat at1) (min t34 least2))).bind fun b0_least_1 =>
 (ix o.b0_most at1).bind fun t45 =>
 (ix o.b0_most at1).bind fun t49 =>
 (some (o.b0_most.set (Int.toNat at1) (max t45 most3))).bind fun b0_most_1 =>
 some (⟨o.b0_can, b0_least_1, b0_most_1⟩ : KX)
theorem Z2 (b0 : Book) (at1 : Int) (least2 : Int) (most3 : Int) (V_b0_can : VL) (V_b0_least : VL) (V_b0_most : VL) (w : World) (hw : HV w (keys [] [vL 4 V_b0_can (RB.enc b0.can), vL 3 V_b0_least (RI.enc b0.least), vL 3 V_b0_most (RI.enc b0.most)]) [] [vL 4 V_b0_can (RB.enc b0.can), vL 3 V_b0_least (RI.enc b0.least), vL 3 V_b0_most (RI.enc b0.most)] [] w) (hv_b0_can : VOK 1 V_b0_can.n V_b0_can.cap (RB.enc b0.can) V_b0_can.sp V_b0_can.q) (hv_b0_least : VOK 1 V_b0_least.n V_b0_least.cap (RI.enc b0.least) V_b0_least.sp V_b0_least.q) (hv_b0_most : VOK 1 V_b0_most.n V_b0_most.cap (RI.enc b0.most) V_b0_most.sp V_b0_most.q) {res : KX} (hm : J7 b0 at1 least2 most3 = some res) :
    Calls Tryz.prog 102 #[.agg #[sL V_b0_can, sL V_b0_least, sL V_b0_most], .int .i64 at1, .int .i64 least2, .int .i64 most3] w (fun en w' => ∃ l : Unit, en = .returned (.tuple #[]) ∧ (VOK 1 V_b0_can.n V_b0_can.cap (RB.enc res.b0_can) V_b0_can.sp V_b0_can.q ∧ VOK 1 V_b0_least.n V_b0_least.cap (RI.enc res.b0_least) V_b0_least.sp V_b0_least.q ∧ VOK 1 V_b0_most.n V_b0_most.cap (RI.enc res.b0_most) V_b0_most.sp V_b0_most.q) ∧ HV w (keys [] [vL 4 V_b0_can (RB.enc b0.can), vL 3 V_b0_least (RI.enc b0.least), vL 3 V_b0_most (RI.enc b0.most)]) [] [vL 4 V_b0_can (RB.enc res.b0_can), vL 3 V_b0_least (RI.enc res.b0_least), vL 3 V_b0_most (RI.enc res.b0_most)] [] w') := by
  unfold J7 at hm
  refine kj func102 Y ntmps102 Y (e := [(0, _), (1, _), (2, _), (3, _)]) Y hw (jp ?_)
  refine jK Y Y (fun b h4 => ?_)
  refine jo (jk ?_)
  obtain ⟨o, h5, h6⟩ := bindO hm
  refine jD (ι := Unit) (fun l => VOK 1 V_b0_can.n V_b0_can.cap (RB.enc o.b0_can) V_b0_can.sp V_b0_can.q ∧ VOK 1 V_b0_least.n V_b0_least.cap (RI.enc o.b0_least) V_b0_least.sp V_b0_least.q ∧ VOK 1 V_b0_most.n V_b0_most.cap (RI.enc o.b0_most) V_b0_most.sp V_b0_most.q) (fun l => [(1, .int .i64 at1), (2, .int .i64 least2), (3, .int .i64 most3), (4, ptr b 0)]) (fun l => [kc b #[sL V_b0_can, sL V_b0_least, sL V_b0_most] 102]) (fun l => [vL 4 V_b0_can (RB.enc o.b0_can), vL 3 V_b0_least (RI.enc o.b0_least), vL 3 V_b0_most (RI.enc o.b0_most)]) ?_ ?_
  ·replace hm := h5
   refine jp (jM 0 runUnderlying102 Y sizeOf93 Y Y (jS 0 isAgg93 Y Y Y Y (je Y Y ?_)))
   obtain ⟨t11, h10, hm⟩ := bindO hm
   refine jc Y Y Y (fun w _ => qR h10 (runUnderlying93 w) (sizeOf4 w) Y Y (vlen RB hv_b0_can Y) (vne hv_b0_can)) (jc Y Y Y (fun w hh => jW RB 0 h10 (isAgg4 w) Y (hh.vseg 0 Y hv_b0_can) Y (Nat.add_zero _).symm) (jc Y Y Y (fun _ _ => kV Y) (jo ?_)))
   refine jq Y (fun h11 => ?_) (fun h11 => ?_)
   ·replace hm := ifT (h11) hm
    refine jV none (.free 0 (.hoist 1 (.free 2 (.free 3 (.hoist 4 (.free 5 (.free 6 (.hoist 7 (.free 8 (.free 9 (.free 10 (.free 11 (.one 12 (.free 13 (.one 14 (.free 15 (.one 16 .done))))))))))))))))) (HV _ _ [kc b #[sL V_b0_can, sL V_b0_least, sL V_b0_most] 102] [] _) Y (by decide +kernel) (fun w k hh => hh.draw k) (hsE [0] [] 0 Y Y Y Y) ?_
    refine kF 0 runUnderlying102 sizeOf93 Y Y Y Y (qs 0 isAgg93 Y Y Y Y Y (kb Y Y Y (kF 1 runUnderlying102 sizeOf26 Y Y Y Y (qs 0 isAgg26 Y Y Y Y Y (kb Y Y Y (kF 2 runUnderlying102 sizeOf26 Y Y Y Y (qs 0 isAgg26 Y Y Y Y Y ?_)))))))
    refine kb Y Y Y (kb Y Y Y (kb Y Y Y ?_))
    obtain ⟨t25, h12, hm⟩ := bindO hm
    refine ji Y Y Y Y (fun w _ => qR h12 (runUnderlying93 w) (sizeOf4 w) Y Y (vlen RB hv_b0_can Y) (vne hv_b0_can)) (jJ Y ?_)
    obtain ⟨b0_can, hb0_can, hm⟩ := bindO hm
    refine Qv RB 0 0 true (fun w => sizeOf4 w) Y Y Y Y hv_b0_can Y (Nat.add_zero _).symm Y h12 Y Y (Option.some.inj hb0_can) (fun h13 => ?_)
    refine jT (S' := [_]) (vs' := [_, _, _]) [0] [0, 1, 2] 0 Y Y Y Y (jr (hsE [0] [] 0 Y Y Y Y) ?_)
    obtain ⟨t26, h14, hm⟩ := bindO hm
    refine ji Y Y Y Y (fun w _ => qR h14 (runUnderlying26 w) (sizeOf3 w) Y Y (vlen RI hv_b0_least Y) (vne hv_b0_least)) (jJ Y ?_)
    obtain ⟨b0_least, hb0_least, hm⟩ := bindO hm
    refine Qv RI 1 0 least2 (fun w => sizeOf3 w) Y Y Y Y hv_b0_least Y (Nat.add_zero _).symm Y h14 Y Y (Option.some.inj hb0_least) (fun h15 => ?_)
    refine jT (S' := [_]) (vs' := [_, _, _]) [0] [0, 1, 2] 0 Y Y Y Y (jr (hsE [0] [] 0 Y Y Y Y) ?_)
    obtain ⟨t27, h16, hm⟩ := bindO hm
    refine ji Y Y Y Y (fun w _ => qR h16 (runUnderlying26 w) (sizeOf3 w) Y Y (vlen RI hv_b0_most Y) (vne hv_b0_most)) (jJ Y ?_)
    obtain ⟨b0_most, hb0_most, hm⟩ := bindO hm
    refine Qv RI 2 0 most3 (fun w => sizeOf3 w) Y Y Y Y hv_b0_most Y (Nat.add_zero _).symm Y h16 Y Y (Option.some.inj hb0_most) (fun h17 => ?_)
    refine jT (S' := [_]) (vs' := [_, _, _]) [0] [0, 1, 2] 0 Y Y Y Y (jr (hsE [0] [] 0 Y Y Y Y) (jI ?_))
    obtain rfl := sj hm
    exact jg () (⟨h13, h15, h17⟩) (sE Y) (fun w hh => hh)
   replace hm := ifN h11 hm
   refine jt ?_
   obtain rfl := sj hm
   exact jg () (⟨hv_b0_can, hv_b0_least, hv_b0_most⟩) (sE Y) (fun w hh => hh)
  intro l hj
  obtain ⟨h7, h8, h9⟩ := hj
  replace hm := h6
  refine ja (jk ?_)
  refine jV (some 11) (.free 0 (.hoist 1 (.free 2 (.free 3 (.hoist 4 (.free 5 (.free 6 (.hoist 7 (.free 8 (.free 9 (.free 10 (.last 11 .done)))))))))))) _ Y (by decide +kernel) (fun w k hh => hh.draw k) (fun w hh => hh) ?_
  refine kF 1 runUnderlying102 sizeOf26 Y Y Y Y (qs 0 isAgg26 Y Y Y Y Y (kb Y Y Y (kF 1 runUnderlying102 sizeOf26 Y Y Y Y (qs 0 isAgg26 Y Y Y Y Y (kb Y Y Y ?_)))))
  obtain ⟨t34, h18, hm⟩ := bindO hm
  refine ji Y Y Y Y (fun w _ => qR h18 (runUnderlying26 w) (sizeOf3 w) Y Y (vlen RI h8 Y) (vne h8)) (jA Y Y Y Y (fun w hh => jW RI 0 h18 (isAgg3 w) Y (hh.vseg 1 Y h8) Y (Nat.add_zero _).symm) (kb Y Y Y (ji Y Y Y Y (fun _ _ => Z7 Y Y) ?_)))
  obtain ⟨t38, h19, hm⟩ := bindO hm
  refine ji Y Y Y Y (fun w _ => qR h19 (runUnderlying26 w) (sizeOf3 w) Y Y (vlen RI h8 Y) (vne h8)) (Qn Y ?_)
  obtain ⟨b0_least_1, hb0_least_1, hm⟩ := bindO hm
  refine Qv RI 1 0 (min t34 least2) (fun w => sizeOf3 w) Y Y Y Y h8 Y (Nat.add_zero _).symm Y h19 Y Y (Option.some.inj hb0_least_1) (fun h20 => ?_)
  refine jT (S' := [_]) (vs' := [_, _, _]) [0] [0, 1, 2] 0 Y Y Y Y (Kb (jI (ja ?_)))
  refine jV (some 11) (.free 0 (.hoist 1 (.free 2 (.free 3 (.hoist 4 (.free 5 (.free 6 (.hoist 7 (.free 8 (.free 9 (.free 10 (.last 11 .done)))))))))))) _ Y (by decide +kernel) (fun w k hh => hh.draw k) (fun w hh => hh) ?_
  refine kF 2 runUnderlying102 sizeOf26 Y Y Y Y (qs 0 isAgg26 Y Y Y Y Y (kb Y Y Y (kF 2 runUnderlying102 sizeOf26 Y Y Y Y (qs 0 isAgg26 Y Y Y Y Y (kb Y Y Y ?_)))))
  obtain ⟨t45, h21, hm⟩ := bindO hm
  refine ji Y Y Y Y (fun w _ => qR h21 (runUnderlying26 w) (sizeOf3 w) Y Y (vlen RI h9 Y) (vne h9)) (jA Y Y Y Y (fun w hh => jW RI 0 h21 (isAgg3 w) Y (hh.vseg 2 Y h9) Y (Nat.add_zero _).symm) (kb Y Y Y (ji Y Y Y Y (fun _ _ => ZN Y Y) ?_)))
  obtain ⟨t49, h22, hm⟩ := bindO hm
  refine ji Y Y Y Y (fun w _ => qR h22 (runUnderlying26 w) (sizeOf3 w) Y Y (vlen RI h9 Y) (vne h9)) (Qn Y ?_)
  obtain ⟨b0_most_1, hb0_most_1, hm⟩ := bindO hm
  refine Qv RI 2 0 (max t45 most3) (fun w => sizeOf3 w) Y Y Y Y h9 Y (Nat.add_zero _).symm Y h22 Y Y (Option.some.inj hb0_most_1) (fun h23 => ?_)
  refine jT (S' := [_]) (vs' := [_, _, _]) [0] [0, 1, 2] 0 Y Y Y Y (Kb (jI ?_))
  obtain rfl := sj hm
  refine JP Y (fun w hh => .nil) (fun w hh => ⟨(), rfl, ⟨h7, h20, h23⟩, hh.se [] [0, 1, 2] 0 Y Y Y rfl⟩)
def zd (strip2 : Int) (s0 : Scalps) (tenant1 : Int) (s : Int) : Option (Int ⊕ (Unit ⊕ Bool)) :=
 (addc strip2 1).bind fun t13 =>
 (subc (s0.strips.length : Int) 1).bind fun t17 =>
 if s ≤ (min t13 t17) then
 ((ix s0.strips s).bind fun t25 =>
 if t25.tenant = tenant1 then
 (some (.inr (.inr true))) else
 ((addc s 1).bind fun t21 =>
 some (.inl t21))) else
 (some (.inr (.inl ())))
def kl (s0 : Scalps) (tenant1 : Int) (strip2 : Int) : Option Bool :=
 (subc strip2 1).bind fun t9 =>
 (iterM FU (zd strip2 s0 tenant1) (max 0 t9)).bind fun o =>
 oc o (fun j => some false) (fun r_1 => some r_1)
theorem Kf (s0 : Scalps) (tenant1 : Int) (strip2 : Int) (qa0 : Option Addr) (na0 ca0 : Nat) (qa1 : Option Addr) (na1 ca1 : Nat) (w : World) (hw : HV w (keys [] []) [] [] [(aB qa0, aO qa0, RSt.enc s0.strips), (aB qa1, aO qa1, RSp.enc s0.carried)] w) (hna0 : s0.strips.length = na0) (hqa0 : AOK na0 qa0) (hla0 : na0 ≤ ca0) (hna1 : s0.carried.length = na1) (hqa1 : AOK na1 qa1) (hla1 : na1 ≤ ca1) {res : Bool} (hm : kl s0 tenant1 strip2 = some res) :
    Calls Tryz.prog 34 #[.agg #[.slice qa0 na0 ca0, .slice qa1 na1 ca1], .int .i64 tenant1, .int .i64 strip2] w (fun en w' => ∃ l : Unit, en = .returned (.bool res) ∧ (True) ∧ HV w (keys [] []) [] [] [] w') := by
  unfold kl at hm
  refine kj func34 Y ntmps34 Y (e := [(0, _), (1, _), (2, _)]) Y hw (jp ?_)
  refine jK Y Y (fun b h1 => ?_)
  refine jm Y Y (jo (jk (jp (je Y Y ?_))))
  obtain ⟨t9, h2, hm⟩ := bindO hm
  refine jc Y Y Y (fun _ _ => qp h2 Y Y) (jc Y Y Y (fun _ _ => ZN Y Y) (jm Y Y (jo ?_)))
  obtain ⟨o, h3, h4⟩ := bindO hm
  refine jD (ι := Unit) (fun j => o = .inl j) (fun j => []) (fun j => [kc b #[.slice qa0 na0 ca0, .slice qa1 na1 ca1] 38]) (fun j => []) ?_ ?_
  ·replace hm := h3
   refine jl ?_
   refine jF (ι := Unit) hm (fun s l => True) (fun s l => [(1, .int .i64 tenant1), (2, .int .i64 strip2), (3, ptr b 0), (7, .int .i64 s)]) (fun s l => [kc b #[.slice qa0 na0 ca0, .slice qa1 na1 ca1] 38]) (fun s l => []) () (trivial) (sE Y) (fun w hh => hh) (fun s l r hpl hm h5 => ?_)
   unfold zd at hm
   refine jk (jp (je Y Y (je Y Y ?_)))
   obtain ⟨t13, h6, hm⟩ := bindO hm
   refine kS h6 Y Y Y (jM 0 runUnderlying38 Y sizeOf36 Y Y (jS 0 isAgg36 Y Y Y Y (jc Y Y Y (fun w _ => jB hna0 (runUnderlying36 w) Y) ?_)))
   obtain ⟨t17, h7, hm⟩ := bindO hm
   refine jc Y Y Y (fun _ _ => qp h7 Y Y) (jc Y Y Y (fun _ _ => Z7 Y Y) (jc Y Y Y (fun _ _ => ZC Y Y) (jo ?_)))
   refine jq Y (fun h8 => ?_) (fun h8 => ?_)
   ·replace hm := ifD h8 hm
    refine jt (ja (jk (jl (jp (jM 0 runUnderlying38 Y sizeOf36 Y Y (jS 0 isAgg36 Y Y Y Y (je Y Y ?_)))))))
    obtain ⟨t25, h9, hm⟩ := bindO hm
    refine jc Y Y Y (fun w _ => jY h9 (runUnderlying36 w) (sizeOf98 w) Y Y hna0 hqa0) (jM 0 runUnderlying98 Y sizeOf3 Y Y (jc Y Y Y (fun w hh => jW RSt 0 h9 (isAgg3 w) Y (hh.seg 0 Y) Y Y) (je Y Y (jc Y Y Y (fun _ _ => Kc Y Y) (jo ?_)))))
    refine jq Y (fun h10 => ?_) (fun h10 => ?_)
    ·replace hm := ifD h10 hm
     refine jp (jm Y Y (jo (jw (jz (jf (jf (jz ?_)))))))
     obtain rfl := sj hm
     have hbo := h5 _ Y
     subst hbo
     refine jf ?_
     replace hm := ocR h4
     refine jf ?_
     obtain rfl := sj hm
     refine jn Y (fun w hh => (.tmp Y .nil)) (fun w hh => ⟨(), rfl, trivial, hh.se [] [] 2 Y Y Y rfl⟩)
    replace hm := ifE h10 hm
    refine jt (js (ja (jh (je Y Y ?_))))
    obtain ⟨t21, h11, hm⟩ := bindO hm
    refine kS h11 Y Y Y (jm Y Y (jv ?_))
    obtain rfl := sj hm
    refine ja ?_
    exact jy _ () Y (trivial) (sE Y) (fun w hh => hh)
   replace hm := ifE h8 hm
   refine jO (jj (jj (jC ?_)))
   obtain rfl := sj hm
   have hbo := h5 _ Y
   subst hbo
   exact jg () (Y) (.nil) (fun w hh => hh)
  intro j hj
  have h12 := hj
  subst h12
  replace hm := ocL h4
  refine ja (jp (jm Y Y (jo (jw ?_))))
  obtain rfl := sj hm
  refine jn Y (fun w hh => (.tmp Y .nil)) (fun w hh => ⟨(), rfl, trivial, hh.se [] [] 2 Y Y Y rfl⟩)
end Go.Proofs.Ws

namespace Go.Proofs.Ws
set_option maxHeartbeats 4000000
set_option maxRecDepth 100000
open Go Go.Fw Go.Gx Go.Sp
open Tryz
set_option linter.unusedVariables false
structure yp where
  next9_can : (List Bool)
  next9_least : (List Int)
  next9_most : (List Int)
structure Q2 where
  next9_can : (List Bool)
  next9_least : (List Int)
  next9_most : (List Int)
structure JX where
  step21 : Int
  i22 : Int
def yI (t3 : Int) (s0 : Scalps) (s : JX) : Option (JX ⊕ Int) :=
 if s.i22 < t3 then
 ((ix s0.carried s.i22).bind fun t53 =>
 (addc t53.hi 1).bind fun t56 =>
 (mulc s.step21 t56).bind fun t57 =>
 (addc s.i22 1).bind fun t48 =>
 some (.inl (⟨t57, t48⟩ : JX))) else
 (some (.inr s.step21))
structure Q6 where
  next9_can : (List Bool)
  next9_least : (List Int)
  next9_most : (List Int)
structure JT where
  n25 : Int
  next9_can : (List Bool)
  next9_least : (List Int)
  next9_most : (List Int)
def zP (o_2 : Int) (c1 : (List (List Bool))) (t3 : Int) (k2 : Int) (o_1 : Int) (at4 : Int) (taken6 : Int) (least7 : Int) (most8 : Int) (rec_ : Scalps → (List (List Bool)) → Int → Int → Int → Int → Int → Int → Int → Book → Option yp) (s0 : Scalps) (t75 : Int) (s_1 : JT) : Option (JT ⊕ Q6) :=
 if s_1.n25 ≤ o_2 then
 (((ix c1 t3).bind fun t100 =>
 (ix t100 k2).bind fun t103 =>
 if t103 = true then
 (some s_1.n25) else
 (some 0)).bind fun o_4 =>
 (addc t3 1).bind fun t110 =>
 (mulc s_1.n25 o_1).bind fun t114 =>
 (addc at4 t114).bind fun t115 =>
 (addc taken6 s_1.n25).bind fun t119 =>
 (addc least7 o_4).bind fun t122 =>
 (addc most8 o_4).bind fun t125 =>
 (rec_ s0 c1 k2 t110 t115 t75 t119 t122 t125 (⟨s_1.next9_can, s_1.next9_least, s_1.next9_most⟩ : Book)).bind fun t127 =>
 (addc s_1.n25 1).bind fun t97 =>
 some (.inl (⟨t97, t127.next9_can, t127.next9_least, t127.next9_most⟩ : JT))) else
 (some (.inr (⟨s_1.next9_can, s_1.next9_least, s_1.next9_most⟩ : Q6)))
def JI (rec_ : Scalps → (List (List Bool)) → Int → Int → Int → Int → Int → Int → Int → Book → Option yp) (s0 : Scalps) (c1 : (List (List Bool))) (k2 : Int) (t3 : Int) (at4 : Int) (rest5 : Int) (taken6 : Int) (least7 : Int) (most8 : Int) (next9 : Book) : Option yp :=
 (Jl s0 k2).bind fun t29 =>
 if t3 = (s0.carried.length : Int) then
 ((if t29.lo ≤ taken6 then
 ((J7 next9 at4 least7 most8).bind fun t43 =>
 some (⟨t43.b0_can, t43.b0_least, t43.b0_most⟩ : Q2)) else
 (some (⟨next9.can, next9.least, next9.most⟩ : Q2))).bind fun o =>
 some (⟨o.next9_can, o.next9_least, o.next9_most⟩ : yp)) else
 ((iterM FU (yI t3 s0) (⟨1, 0⟩ : JX)).bind fun o_1 =>
 (ix s0.carried t3).bind fun t62 =>
 (addc t62.hi 1).bind fun t65 =>
 (remc rest5 t65).bind fun t66 =>
 (ix s0.carried t3).bind fun t71 =>
 (addc t71.hi 1).bind fun t74 =>
 (quoc rest5 t74).bind fun t75 =>
 ((kl s0 t3 k2).bind fun t79 =>
 if t79 = true then
 ((ix s0.carried t3).bind fun t83 =>
 (subc t83.hi t66).bind fun t87 =>
 (subc t29.hi taken6).bind fun t91 =>
 some (min t87 t91)) else
 (some 0)).bind fun o_2 =>
 (iterM FU (zP o_2 c1 t3 k2 o_1 at4 taken6 least7 most8 rec_ s0 t75) (⟨0, next9.can, next9.least, next9.most⟩ : JT)).bind fun o_3 =>
 some (⟨o_3.next9_can, o_3.next9_least, o_3.next9_most⟩ : yp))
def qi : Nat → Scalps → (List (List Bool)) → Int → Int → Int → Int → Int → Int → Int → Book → Option yp
  | 0, _, _, _, _, _, _, _, _, _, _ => none
  | fu + 1, s0, c1, k2, t3, at4, rest5, taken6, least7, most8, next9 => JI (qi fu) s0 c1 k2 t3 at4 rest5 taken6 least7 most8 next9
theorem jas (fu_ : Nat) : ∀ (s0 : Scalps) (c1 : (List (List Bool))) (k2 : Int) (t3 : Int) (at4 : Int) (rest5 : Int) (taken6 : Int) (least7 : Int) (most8 : Int) (next9 : Book) (qa0 : Option Addr) (na0 ca0 : Nat) (qa1 : Option Addr) (na1 ca1 : Nat) (qa2 : Option Addr) (na2 ca2 : Nat) (ar2 : List AL) (V_next9_can : VL) (V_next9_least : VL) (V_next9_most : VL) (w : World) (hw : HV w (keys [] [vL 4 V_next9_can (RB.enc next9.can), vL 3 V_next9_least (RI.enc next9.least), vL 3 V_next9_most (RI.enc next9.most)]) [] [vL 4 V_next9_can (RB.enc next9.can), vL 3 V_next9_least (RI.enc next9.least), vL 3 V_next9_most (RI.enc next9.most)] [(aB qa0, aO qa0, RSt.enc s0.strips), (aB qa1, aO qa1, RSp.enc s0.carried), (aB qa2, aO qa2, RwA.enc ar2)] w) (hna0 : s0.strips.length = na0) (hqa0 : AOK na0 qa0) (hla0 : na0 ≤ ca0) (hna1 : s0.carried.length = na1) (hqa1 : AOK na1 qa1) (hla1 : na1 ≤ ca1) (hna2 : c1.length = na2) (hqa2 : AOK na2 qa2) (hla2 : na2 ≤ ca2) (hda2 : DRO c1 ar2) (hTa2 : ∀ t, t ∈ rsg RB c1 ar2 → segOK w t ∧ (t.2.2 ≠ [] → t.1 ∉ keys [] [vL 4 V_next9_can (RB.enc next9.can), vL 3 V_next9_least (RI.enc next9.least), vL 3 V_next9_most (RI.enc next9.most)])) (hv_next9_can : VOK 1 V_next9_can.n V_next9_can.cap (RB.enc next9.can) V_next9_can.sp V_next9_can.q) (hv_next9_least : VOK 1 V_next9_least.n V_next9_least.cap (RI.enc next9.least) V_next9_least.sp V_next9_least.q) (hv_next9_most : VOK 1 V_next9_most.n V_next9_most.cap (RI.enc next9.most) V_next9_most.sp V_next9_most.q) {res : yp} (hm : qi fu_ s0 c1 k2 t3 at4 rest5 taken6 least7 most8 next9 = some res),
    Calls Tryz.prog 54 #[.agg #[.slice qa0 na0 ca0, .slice qa1 na1 ca1], .slice qa2 na2 ca2, .int .i64 k2, .int .i64 t3, .int .i64 at4, .int .i64 rest5, .int .i64 taken6, .int .i64 least7, .int .i64 most8, .agg #[sL V_next9_can, sL V_next9_least, sL V_next9_most]] w (fun en w' => ∃ l : Unit, en = .returned (.tuple #[]) ∧ (VOK 1 V_next9_can.n V_next9_can.cap (RB.enc res.next9_can) V_next9_can.sp V_next9_can.q ∧ VOK 1 V_next9_least.n V_next9_least.cap (RI.enc res.next9_least) V_next9_least.sp V_next9_least.q ∧ VOK 1 V_next9_most.n V_next9_most.cap (RI.enc res.next9_most) V_next9_most.sp V_next9_most.q) ∧ HV w (keys [] [vL 4 V_next9_can (RB.enc next9.can), vL 3 V_next9_least (RI.enc next9.least), vL 3 V_next9_most (RI.enc next9.most)]) [] [vL 4 V_next9_can (RB.enc res.next9_can), vL 3 V_next9_least (RI.enc res.next9_least), vL 3 V_next9_most (RI.enc res.next9_most)] [] w') := by
  induction fu_ with
  | zero =>
    intros
    rename_i hm
    exact absurd hm (by simp [qi])
  | succ fu_ ih =>
  intro s0 c1 k2 t3 at4 rest5 taken6 least7 most8 next9 qa0 na0 ca0 qa1 na1 ca1 qa2 na2 ca2 ar2 V_next9_can V_next9_least V_next9_most w hw hna0 hqa0 hla0 hna1 hqa1 hla1 hna2 hqa2 hla2 hda2 hTa2 hv_next9_can hv_next9_least hv_next9_most res hm
  replace hm : JI (qi fu_) s0 c1 k2 t3 at4 rest5 taken6 least7 most8 next9 = some res := hm
  unfold JI at hm
  refine kj func54 Y ntmps54 Y (e := [(0, _), (1, _), (2, _), (3, _), (4, _), (5, _), (6, _), (7, _), (8, _), (9, _)]) Y hw (jp ?_)
  refine jK Y Y (fun b h4 => ?_)
  refine jK Y Y (fun b_1 h5 => ?_)
  refine j3 (qh [_, _] 1 isAgg38 sizeOf38 Y Y Y Y (je Y Y ?_))
  obtain ⟨t29, h6, hm⟩ := bindO hm
  refine jd [] [] Y Y Y Y Y Y Y call35 (fun w hh => YE s0 k2 qa0 na0 ca0 qa1 na1 ca1 w (HV.callee (S0 := []) (vs0 := []) hh (roR hh 0 Y (roR hh 1 Y roN))) hna0 hqa0 hla0 hna1 hqa1 hla1 h6) (fun l h7 => ?_)
  refine ju (fun w => zeroValue32 w) Y (fun b_2 h8 => ?_)
  refine jE (us := #[_, _]) (cs' := [_, _]) (S' := [_, _, _]) 0 (fun w => sizeOf32 w) Y Y Y Y Y Y Y (jo (jk (jp (je Y Y (jM 1 runUnderlying38 Y sizeOf23 Y Y (jS 2 isAgg23 Y Y Y Y (jc Y Y Y (fun w _ => jB hna1 (runUnderlying23 w) Y) ?_)))))))
  refine jc Y Y Y (fun _ _ => Kc Y Y) (jo ?_)
  refine jq Y (fun h9 => ?_) (fun h9 => ?_)
  ·replace hm := ifD h9 hm
   refine jk ?_
   obtain ⟨o, h10, h11⟩ := bindO hm
   refine jD (ι := Unit) (fun l_1 => VOK 1 V_next9_can.n V_next9_can.cap (RB.enc o.next9_can) V_next9_can.sp V_next9_can.q ∧ VOK 1 V_next9_least.n V_next9_least.cap (RI.enc o.next9_least) V_next9_least.sp V_next9_least.q ∧ VOK 1 V_next9_most.n V_next9_most.cap (RI.enc o.next9_most) V_next9_most.sp V_next9_most.q) (fun l_1 => []) (fun l_1 => [kc b_2 #[.int .i64 t29.lo, .int .i64 t29.hi] 32, kc b_1 #[sL V_next9_can, sL V_next9_least, sL V_next9_most] 102, kc b #[.slice qa0 na0 ca0, .slice qa1 na1 ca1] 38]) (fun l_1 => [vL 4 V_next9_can (RB.enc o.next9_can), vL 3 V_next9_least (RI.enc o.next9_least), vL 3 V_next9_most (RI.enc o.next9_most)]) ?_ ?_
   ·replace hm := h10
    refine jp (je Y Y (jM 0 runUnderlying32 Y sizeOf3 Y Y (jS 0 isAgg3 Y Y Y Y (jc Y Y Y (fun _ _ => QS Y Y) (jo ?_)))))
    refine jq Y (fun h15 => ?_) (fun h15 => ?_)
    ·replace hm := ifD h15 hm
     refine jh (qh [_, _, _] 1 isAgg102 sizeOf102 Y Y Y Y (je Y Y (je Y Y (je Y Y ?_))))
     obtain ⟨t43, h16, hm⟩ := bindO hm
     refine jd [] [_, _, _] Y Y Y Y Y Y Y call102 (fun w hh => Z2 next9 at4 least7 most8 ⟨V_next9_can.q, V_next9_can.n, V_next9_can.cap, V_next9_can.sp⟩ ⟨V_next9_least.q, V_next9_least.n, V_next9_least.cap, V_next9_least.sp⟩ ⟨V_next9_most.q, V_next9_most.n, V_next9_most.cap, V_next9_most.sp⟩ w (HV.callee (S0 := []) (vs0 := [_, _, _]) hh roN) hv_next9_can hv_next9_least hv_next9_most h16) (fun l_2 h17 => ?_)
     obtain ⟨h18, h19, h20⟩ := h17
     refine jT (S' := [_, _, _]) (vs' := [_, _, _]) [0, 1, 2] [0, 1, 2] 0 Y Y Y Y (jv ?_)
     obtain rfl := sj hm
     exact jg () (⟨h18, h19, h20⟩) (.nil) (fun w hh => hh)
    replace hm := ifE h15 hm
    refine jt ?_
    obtain rfl := sj hm
    exact jg () (⟨hv_next9_can, hv_next9_least, hv_next9_most⟩) (.nil) (fun w hh => hh)
   intro l_1 hj
   obtain ⟨h12, h13, h14⟩ := hj
   replace hm := h11
   refine ja (jw (jf ?_))
   obtain rfl := sj hm
   refine jn Y (fun w hh => .nil) (fun w hh => ⟨(), rfl, ⟨h12, h13, h14⟩, hh.se [] [0, 1, 2] 3 Y Y Y rfl⟩)
  replace hm := ifE h9 hm
  refine jt (ja (jp (jm Y Y (jo (jk (jp (jm Y Y ?_)))))))
  refine jo ?_
  obtain ⟨o_1, h21, h22⟩ := bindO hm
  refine jD (ι := Unit) (fun l_3 => True) (fun l_3 => [(1, .slice qa2 na2 ca2), (2, .int .i64 k2), (3, .int .i64 t3), (4, .int .i64 at4), (5, .int .i64 rest5), (6, .int .i64 taken6), (7, .int .i64 least7), (8, .int .i64 most8), (10, ptr b 0), (19, ptr b_1 0), (20, ptr b_2 0), (21, .int .i64 o_1)]) (fun l_3 => [kc b_2 #[.int .i64 t29.lo, .int .i64 t29.hi] 32, kc b_1 #[sL V_next9_can, sL V_next9_least, sL V_next9_most] 102, kc b #[.slice qa0 na0 ca0, .slice qa1 na1 ca1] 38]) (fun l_3 => [vL 4 V_next9_can (RB.enc next9.can), vL 3 V_next9_least (RI.enc next9.least), vL 3 V_next9_most (RI.enc next9.most)]) ?_ ?_
  ·replace hm := h21
   refine jl ?_
   refine jF (ι := Unit) hm (fun s l_4 => True) (fun s l_4 => [(1, .slice qa2 na2 ca2), (2, .int .i64 k2), (3, .int .i64 t3), (4, .int .i64 at4), (5, .int .i64 rest5), (6, .int .i64 taken6), (7, .int .i64 least7), (8, .int .i64 most8), (10, ptr b 0), (19, ptr b_1 0), (20, ptr b_2 0), (21, .int .i64 s.step21), (22, .int .i64 s.i22)]) (fun s l_4 => [kc b_2 #[.int .i64 t29.lo, .int .i64 t29.hi] 32, kc b_1 #[sL V_next9_can, sL V_next9_least, sL V_next9_most] 102, kc b #[.slice qa0 na0 ca0, .slice qa1 na1 ca1] 38]) (fun s l_4 => [vL 4 V_next9_can (RB.enc next9.can), vL 3 V_next9_least (RI.enc next9.least), vL 3 V_next9_most (RI.enc next9.most)]) () (trivial) (sE Y) (fun w hh => hh) (fun s l_4 r hpl hm h23 => ?_)
   unfold yI at hm
   refine jk (jp (je Y Y (je Y Y (q8 Y Y Y (jo ?_)))))
   refine jq Y (fun h24 => ?_) (fun h24 => ?_)
   ·replace hm := ifD h24 hm
    refine jt (ja (jk (jl (jh (je Y Y (jM 1 runUnderlying38 Y sizeOf23 Y Y (jS 2 isAgg23 Y Y Y Y ?_)))))))
    refine je Y Y ?_
    obtain ⟨t53, h25, hm⟩ := bindO hm
    refine jc Y Y Y (fun w _ => jY h25 (runUnderlying23 w) (sizeOf32 w) Y Y hna1 hqa1) (jM 1 runUnderlying32 Y sizeOf3 Y Y (jc Y Y Y (fun w hh => jW RSp 1 h25 (isAgg3 w) Y (hh.seg 1 Y) Y Y) ?_))
    obtain ⟨t56, h26, hm⟩ := bindO hm
    refine kS h26 Y Y Y ?_
    obtain ⟨t57, h27, hm⟩ := bindO hm
    refine jc Y Y Y (fun _ _ => Q1 h27 Y Y) (jm Y Y (jv (js (ja (jh (je Y Y ?_))))))
    obtain ⟨t48, h28, hm⟩ := bindO hm
    refine kS h28 Y Y Y (jm Y Y (jv ?_))
    obtain rfl := sj hm
    refine ja ?_
    exact jy _ () Y (trivial) (sE Y) (fun w hh => hh)
   replace hm := ifE h24 hm
   refine jO (jj (jj (jC ?_)))
   obtain rfl := sj hm
   have hbo := h23 _ Y
   subst hbo
   exact jg () (trivial) (sE Y) (fun w hh => hh)
  intro l_3 hj
  replace hm := h22
  refine ja (jp (je Y Y (jM 1 runUnderlying38 Y sizeOf23 Y Y (jS 2 isAgg23 Y Y Y Y (je Y Y ?_)))))
  obtain ⟨t62, h29, hm⟩ := bindO hm
  refine jc Y Y Y (fun w _ => jY h29 (runUnderlying23 w) (sizeOf32 w) Y Y hna1 hqa1) (jM 1 runUnderlying32 Y sizeOf3 Y Y (jc Y Y Y (fun w hh => jW RSp 1 h29 (isAgg3 w) Y (hh.seg 1 Y) Y Y) ?_))
  obtain ⟨t65, h30, hm⟩ := bindO hm
  refine kS h30 Y Y Y ?_
  obtain ⟨t66, h31, hm⟩ := bindO hm
  refine jc Y Y Y (fun _ _ => ja5 h31 Y Y) (jm Y Y (j3 (je Y Y (jM 1 runUnderlying38 Y sizeOf23 Y Y (jS 2 isAgg23 Y Y Y Y (je Y Y ?_))))))
  obtain ⟨t71, h32, hm⟩ := bindO hm
  refine jc Y Y Y (fun w _ => jY h32 (runUnderlying23 w) (sizeOf32 w) Y Y hna1 hqa1) (jM 1 runUnderlying32 Y sizeOf3 Y Y (jc Y Y Y (fun w hh => jW RSp 1 h32 (isAgg3 w) Y (hh.seg 1 Y) Y Y) ?_))
  obtain ⟨t74, h33, hm⟩ := bindO hm
  refine kS h33 Y Y Y ?_
  obtain ⟨t75, h34, hm⟩ := bindO hm
  refine jc Y Y Y (fun _ _ => jbe h34 Y Y) (jm Y Y (j3 (jm Y Y (jo (jk ?_)))))
  obtain ⟨o_2, h35, h36⟩ := bindO hm
  refine jD (ι := Unit) (fun l_5 => True) (fun l_5 => [(1, .slice qa2 na2 ca2), (2, .int .i64 k2), (3, .int .i64 t3), (4, .int .i64 at4), (5, .int .i64 t75), (6, .int .i64 taken6), (7, .int .i64 least7), (8, .int .i64 most8), (10, ptr b 0), (19, ptr b_1 0), (21, .int .i64 o_1), (24, .int .i64 o_2)]) (fun l_5 => [kc b_2 #[.int .i64 t29.lo, .int .i64 t29.hi] 32, kc b_1 #[sL V_next9_can, sL V_next9_least, sL V_next9_most] 102, kc b #[.slice qa0 na0 ca0, .slice qa1 na1 ca1] 38]) (fun l_5 => [vL 4 V_next9_can (RB.enc next9.can), vL 3 V_next9_least (RI.enc next9.least), vL 3 V_next9_most (RI.enc next9.most)]) ?_ ?_
  ·replace hm := h35
   refine jp (qh [_, _] 2 isAgg38 sizeOf38 Y Y Y Y (je Y Y (je Y Y ?_)))
   obtain ⟨t79, h37, hm⟩ := bindO hm
   refine jd [] [] Y Y Y Y Y Y Y call34 (fun w hh => Kf s0 t3 k2 qa0 na0 ca0 qa1 na1 ca1 w (HV.callee (S0 := []) (vs0 := []) hh (roR hh 0 Y (roR hh 1 Y roN))) hna0 hqa0 hla0 hna1 hqa1 hla1 h37) (fun l_6 h38 => ?_)
   refine jo ?_
   refine jq Y (fun h39 => ?_) (fun h39 => ?_)
   ·replace hm := ifT (h39) hm
    refine jV none (.free 0 (.hoist 1 (.free 2 (.free 3 (.free 4 (.hoist 5 (.free 6 (.free 7 (.free 8 (.hoist 9 (.free 10 (.free 11 (.free 12 (.free 13 .done)))))))))))))) _ Y (by decide +kernel) (fun w k hh => hh.draw k) (fun w hh => hh) ?_
    refine kF 1 runUnderlying38 sizeOf23 Y Y Y Y (qs 2 isAgg23 Y Y Y Y Y (kb Y Y Y ?_))
    obtain ⟨t83, h40, hm⟩ := bindO hm
    refine ji Y Y Y Y (fun w _ => jY h40 (runUnderlying23 w) (sizeOf32 w) Y Y hna1 hqa1) (kF 1 runUnderlying32 sizeOf3 Y Y Y Y (jA Y Y Y Y (fun w hh => jW RSp 1 h40 (isAgg3 w) Y (hh.seg 1 Y) Y Y) (kb Y Y Y ?_)))
    obtain ⟨t87, h41, hm⟩ := bindO hm
    refine ji Y Y Y Y (fun _ _ => qp h41 Y Y) (kF 1 runUnderlying32 sizeOf3 Y Y Y Y (qs 0 isAgg3 Y Y Y Y Y (kb Y Y Y ?_)))
    obtain ⟨t91, h42, hm⟩ := bindO hm
    refine ji Y Y Y Y (fun _ _ => qp h42 Y Y) (ji Y Y Y Y (fun _ _ => Z7 Y Y) (ji Y Y Y Y (fun _ _ => jQ Y) (jI ?_)))
    obtain rfl := sj hm
    exact jg () (trivial) (sE Y) (fun w hh => hh)
   replace hm := ifN h39 hm
   refine jt ?_
   obtain rfl := sj hm
   exact jg () (trivial) (sE Y) (fun w hh => hh)
  intro l_5 hj
  replace hm := h36
  refine ja (jp (jm Y Y (jo ?_)))
  obtain ⟨o_3, h43, h44⟩ := bindO hm
  refine jD (ι := Unit) (fun l_7 => VOK 1 V_next9_can.n V_next9_can.cap (RB.enc o_3.next9_can) V_next9_can.sp V_next9_can.q ∧ VOK 1 V_next9_least.n V_next9_least.cap (RI.enc o_3.next9_least) V_next9_least.sp V_next9_least.q ∧ VOK 1 V_next9_most.n V_next9_most.cap (RI.enc o_3.next9_most) V_next9_most.sp V_next9_most.q) (fun l_7 => []) (fun l_7 => [kc b_2 #[.int .i64 t29.lo, .int .i64 t29.hi] 32, kc b_1 #[sL V_next9_can, sL V_next9_least, sL V_next9_most] 102, kc b #[.slice qa0 na0 ca0, .slice qa1 na1 ca1] 38]) (fun l_7 => [vL 4 V_next9_can (RB.enc o_3.next9_can), vL 3 V_next9_least (RI.enc o_3.next9_least), vL 3 V_next9_most (RI.enc o_3.next9_most)]) ?_ ?_
  ·replace hm := h43
   refine jl ?_
   refine jF (ι := Unit) hm (fun s_1 l_8 => VOK 1 V_next9_can.n V_next9_can.cap (RB.enc s_1.next9_can) V_next9_can.sp V_next9_can.q ∧ VOK 1 V_next9_least.n V_next9_least.cap (RI.enc s_1.next9_least) V_next9_least.sp V_next9_least.q ∧ VOK 1 V_next9_most.n V_next9_most.cap (RI.enc s_1.next9_most) V_next9_most.sp V_next9_most.q) (fun s_1 l_8 => [(1, .slice qa2 na2 ca2), (2, .int .i64 k2), (3, .int .i64 t3), (4, .int .i64 at4), (5, .int .i64 t75), (6, .int .i64 taken6), (7, .int .i64 least7), (8, .int .i64 most8), (10, ptr b 0), (19, ptr b_1 0), (21, .int .i64 o_1), (24, .int .i64 o_2), (25, .int .i64 s_1.n25)]) (fun s_1 l_8 => [kc b_2 #[.int .i64 t29.lo, .int .i64 t29.hi] 32, kc b_1 #[sL V_next9_can, sL V_next9_least, sL V_next9_most] 102, kc b #[.slice qa0 na0 ca0, .slice qa1 na1 ca1] 38]) (fun s_1 l_8 => [vL 4 V_next9_can (RB.enc s_1.next9_can), vL 3 V_next9_least (RI.enc s_1.next9_least), vL 3 V_next9_most (RI.enc s_1.next9_most)]) () (⟨hv_next9_can, hv_next9_least, hv_next9_most⟩) (sE Y) (fun w hh => hh) (fun s_1 l_8 r_1 hpl hm h51 => ?_)
   obtain ⟨h48, h49, h50⟩ := hpl
   unfold zP at hm
   refine jk (jp (je Y Y (je Y Y (jc Y Y Y (fun _ _ => ZC Y Y) (jo ?_)))))
   refine jq Y (fun h52 => ?_) (fun h52 => ?_)
   ·replace hm := ifD h52 hm
    refine jt (ja (jk (jl (jp (jm Y Y (jo (jk ?_)))))))
    obtain ⟨o_4, h53, h54⟩ := bindO hm
    refine jD (ι := Unit) (fun l_9 => True) (fun l_9 => [(1, .slice qa2 na2 ca2), (2, .int .i64 k2), (3, .int .i64 t3), (4, .int .i64 at4), (5, .int .i64 t75), (6, .int .i64 taken6), (7, .int .i64 least7), (8, .int .i64 most8), (10, ptr b 0), (19, ptr b_1 0), (21, .int .i64 o_1), (24, .int .i64 o_2), (25, .int .i64 s_1.n25), (26, .int .i64 o_4)]) (fun l_9 => [kc b_2 #[.int .i64 t29.lo, .int .i64 t29.hi] 32, kc b_1 #[sL V_next9_can, sL V_next9_least, sL V_next9_most] 102, kc b #[.slice qa0 na0 ca0, .slice qa1 na1 ca1] 38]) (fun l_9 => [vL 4 V_next9_can (RB.enc s_1.next9_can), vL 3 V_next9_least (RI.enc s_1.next9_least), vL 3 V_next9_most (RI.enc s_1.next9_most)]) ?_ ?_
    ·replace hm := h53
     refine jp (je Y Y (je Y Y ?_))
     obtain ⟨t100, h55, hm⟩ := bindO hm
     obtain ⟨A, h56, h57, h58, h59⟩ := (hda2).row h55
     refine jc Y Y Y (fun w _ => jY h56 (runUnderlying46 w) (sizeOf93 w) Y Y (Eq.trans (hda2).len.symm hna2) hqa2) (jc Y Y Y (fun w hh => jW RwA 0 h56 (isAgg93 w) Y (hh.seg 2 Y) Y (Nat.add_zero _).symm) (je Y Y ?_))
     obtain ⟨t103, h60, hm⟩ := bindO hm
     refine jc Y Y Y (fun w _ => jY h60 (runUnderlying93 w) (sizeOf4 w) Y Y h57 h58) (jc Y Y Y (fun w hh => jW RB 0 h60 (isAgg4 w) Y (hh.oldseg (hTa2 _ (rsg_ix h55 h56))) Y (Nat.add_zero _).symm) (jo ?_))
     refine jq Y (fun h61 => ?_) (fun h61 => ?_)
     ·replace hm := ifT (h61) hm
      refine jh (je Y Y (jm Y Y (jv ?_)))
      obtain rfl := sj hm
      exact jg () (trivial) (sE Y) (fun w hh => hh)
     replace hm := ifN h61 hm
     refine jt ?_
     obtain rfl := sj hm
     exact jg () (trivial) (sE Y) (fun w hh => hh)
    intro l_9 hj
    replace hm := h54
    refine ja (jh (qh [_, _] 2 isAgg38 sizeOf38 Y Y Y Y (je Y Y (je Y Y (je Y Y ?_)))))
    obtain ⟨t110, h62, hm⟩ := bindO hm
    refine kS h62 Y Y Y (je Y Y (je Y Y (je Y Y ?_)))
    obtain ⟨t114, h63, hm⟩ := bindO hm
    refine jc Y Y Y (fun _ _ => Q1 h63 Y Y) ?_
    obtain ⟨t115, h64, hm⟩ := bindO hm
    refine kS h64 Y Y Y (je Y Y (je Y Y (je Y Y ?_)))
    obtain ⟨t119, h65, hm⟩ := bindO hm
    refine kS h65 Y Y Y (je Y Y (je Y Y ?_))
    obtain ⟨t122, h66, hm⟩ := bindO hm
    refine kS h66 Y Y Y (je Y Y (je Y Y ?_))
    obtain ⟨t125, h67, hm⟩ := bindO hm
    refine kS h67 Y Y Y (qh [_, _, _] 1 isAgg102 sizeOf102 Y Y Y Y ?_)
    obtain ⟨t127, h68, hm⟩ := bindO hm
    refine jd [] [_, _, _] Y Y Y Y Y Y Y call54 (fun w hh => ih s0 c1 k2 t110 t115 t75 t119 t122 t125 (⟨s_1.next9_can, s_1.next9_least, s_1.next9_most⟩ : Book) qa0 na0 ca0 qa1 na1 ca1 qa2 na2 ca2 ar2 ⟨V_next9_can.q, V_next9_can.n, V_next9_can.cap, V_next9_can.sp⟩ ⟨V_next9_least.q, V_next9_least.n, V_next9_least.cap, V_next9_least.sp⟩ ⟨V_next9_most.q, V_next9_most.n, V_next9_most.cap, V_next9_most.sp⟩ w (HV.callee (S0 := []) (vs0 := [_, _, _]) hh (roR hh 0 Y (roR hh 1 Y (roR hh 2 Y roN)))) hna0 hqa0 hla0 hna1 hqa1 hla1 hna2 hqa2 hla2 hda2 (hh.oldT (S0 := []) (vs0 := [_, _, _]) hTa2) h48 h49 h50 h68) (fun l_10 h69 => ?_)
    obtain ⟨h70, h71, h72⟩ := h69
    refine jT (S' := [_, _, _]) (vs' := [_, _, _]) [0, 1, 2] [0, 1, 2] 0 Y Y Y Y (jv (js (ja (jh (je Y Y ?_)))))
    obtain ⟨t97, h73, hm⟩ := bindO hm
    refine kS h73 Y Y Y (jm Y Y (jv ?_))
    obtain rfl := sj hm
    refine ja ?_
    exact jy _ () Y (⟨h70, h71, h72⟩) (sE Y) (fun w hh => hh)
   replace hm := ifE h52 hm
   refine jO (jj (jj (jC ?_)))
   obtain rfl := sj hm
   have hbo := h51 _ Y
   subst hbo
   exact jg () (⟨h48, h49, h50⟩) (.nil) (fun w hh => hh)
  intro l_7 hj
  obtain ⟨h45, h46, h47⟩ := hj
  replace hm := h44
  obtain rfl := sj hm
  refine JP Y (fun w hh => .nil) (fun w hh => ⟨(), rfl, ⟨h45, h46, h47⟩, hh.se [] [0, 1, 2] 3 Y Y Y rfl⟩)
structure zQ where
  at1 : Int
  t5 : Int
def zV (s0 : Scalps) (s : zQ) : Option (zQ ⊕ (Unit ⊕ Bool)) :=
 if s.t5 < (s0.carried.length : Int) then
 ((ix s0.carried s.t5).bind fun t17 =>
 (addc t17.hi 1).bind fun t20 =>
 (remc s.at1 t20).bind fun t21 =>
 (ix s0.carried s.t5).bind fun t25 =>
 if t21 < t25.lo then
 (some (.inr (.inr false))) else
 ((ix s0.carried s.t5).bind fun t33 =>
 (addc t33.hi 1).bind fun t36 =>
 (quoc s.at1 t36).bind fun t37 =>
 (addc s.t5 1).bind fun t12 =>
 some (.inl (⟨t37, t12⟩ : zQ)))) else
 (some (.inr (.inl ())))
def KN (s0 : Scalps) (at1 : Int) : Option Bool :=
 (iterM FU (zV s0) (⟨at1, 0⟩ : zQ)).bind fun o =>
 oc o (fun j => some true) (fun r_1 => some r_1)
theorem jao (s0 : Scalps) (at1 : Int) (qa0 : Option Addr) (na0 ca0 : Nat) (qa1 : Option Addr) (na1 ca1 : Nat) (w : World) (hw : HV w (keys [] []) [] [] [(aB qa0, aO qa0, RSt.enc s0.strips), (aB qa1, aO qa1, RSp.enc s0.carried)] w) (hna0 : s0.strips.length = na0) (hqa0 : AOK na0 qa0) (hla0 : na0 ≤ ca0) (hna1 : s0.carried.length = na1) (hqa1 : AOK na1 qa1) (hla1 : na1 ≤ ca1) {res : Bool} (hm : KN s0 at1 = some res) :
    Calls Tryz.prog 55 #[.agg #[.slice qa0 na0 ca0, .slice qa1 na1 ca1], .int .i64 at1] w (fun en w' => ∃ l : Unit, en = .returned (.bool res) ∧ (True) ∧ HV w (keys [] []) [] [] [] w') := by
  unfold KN at hm
  refine kj func55 Y ntmps55 Y (e := [(0, _), (1, _)]) Y hw (jp ?_)
  refine jK Y Y (fun b h1 => ?_)
  refine jm Y Y (jo (jk (jp (jm Y Y (jo ?_)))))
  obtain ⟨o, h2, h3⟩ := bindO hm
  refine jD (ι := Unit) (fun j => o = .inl j) (fun j => []) (fun j => [kc b #[.slice qa0 na0 ca0, .slice qa1 na1 ca1] 38]) (fun j => []) ?_ ?_
  ·replace hm := h2
   refine jl ?_
   refine jF (ι := Unit) hm (fun s l => True) (fun s l => [(1, .int .i64 s.at1), (2, ptr b 0), (5, .int .i64 s.t5)]) (fun s l => [kc b #[.slice qa0 na0 ca0, .slice qa1 na1 ca1] 38]) (fun s l => []) () (trivial) (sE Y) (fun w hh => hh) (fun s l r hpl hm h4 => ?_)
   unfold zV at hm
   refine jk (jp (je Y Y (jM 1 runUnderlying38 Y sizeOf23 Y Y (jS 0 isAgg23 Y Y Y Y (jc Y Y Y (fun w _ => jB hna1 (runUnderlying23 w) Y) (q8 Y Y Y (jo ?_)))))))
   refine jq Y (fun h5 => ?_) (fun h5 => ?_)
   ·replace hm := ifD h5 hm
    refine jt (ja (jk (jl (jk (jk ?_)))))
    refine jV none (.free 0 (.free 1 (.hoist 2 (.free 3 (.free 4 (.free 5 (.hoist 6 (.free 7 (.free 8 (.free 9 (.hoist 10 (.free 11 (.free 12 (.free 13 (.hoist 14 (.free 15 .done)))))))))))))))) _ Y (by decide +kernel) (fun w k hh => hh.draw k) (fun w hh => hh) ?_
    refine kb Y Y Y (kF 1 runUnderlying38 sizeOf23 Y Y Y Y (qs 0 isAgg23 Y Y Y Y Y (kb Y Y Y ?_)))
    obtain ⟨t17, h6, hm⟩ := bindO hm
    refine ji Y Y Y Y (fun w _ => jY h6 (runUnderlying23 w) (sizeOf32 w) Y Y hna1 hqa1) (kF 1 runUnderlying32 sizeOf3 Y Y Y Y (jA Y Y Y Y (fun w hh => jW RSp 1 h6 (isAgg3 w) Y (hh.seg 1 Y) Y Y) ?_))
    obtain ⟨t20, h7, hm⟩ := bindO hm
    refine ji Y Y Y Y (fun _ _ => zD h7 Y Y) ?_
    obtain ⟨t21, h8, hm⟩ := bindO hm
    refine ji Y Y Y Y (fun _ _ => ja5 h8 Y Y) (kF 1 runUnderlying38 sizeOf23 Y Y Y Y (qs 0 isAgg23 Y Y Y Y Y (kb Y Y Y ?_)))
    obtain ⟨t25, h9, hm⟩ := bindO hm
    refine ji Y Y Y Y (fun w _ => jY h9 (runUnderlying23 w) (sizeOf32 w) Y Y hna1 hqa1) (kF 0 runUnderlying32 sizeOf3 Y Y Y Y (jA Y Y Y Y (fun w hh => jW RSp 0 h9 (isAgg3 w) Y (hh.seg 1 Y) Y Y) (ji Y Y Y Y (fun _ _ => Z5 Y Y) (jI (ja ?_)))))
    refine jq Y (fun h10 => ?_) (fun h10 => ?_)
    ·replace hm := ifD h10 hm
     refine jp (jm Y Y (jo (jw (jf (jz (jf (jf ?_)))))))
     refine jz ?_
     obtain rfl := sj hm
     have hbo := h4 _ Y
     subst hbo
     refine jf ?_
     replace hm := ocR h3
     refine jf ?_
     obtain rfl := sj hm
     refine jn Y (fun w hh => (.tmp Y .nil)) (fun w hh => ⟨(), rfl, trivial, hh.se [] [] 2 Y Y Y rfl⟩)
    replace hm := ifE h10 hm
    refine jt (ja (jh (je Y Y (jM 1 runUnderlying38 Y sizeOf23 Y Y (jS 0 isAgg23 Y Y Y Y (je Y Y ?_))))))
    obtain ⟨t33, h11, hm⟩ := bindO hm
    refine jc Y Y Y (fun w _ => jY h11 (runUnderlying23 w) (sizeOf32 w) Y Y hna1 hqa1) (jM 1 runUnderlying32 Y sizeOf3 Y Y (jc Y Y Y (fun w hh => jW RSp 1 h11 (isAgg3 w) Y (hh.seg 1 Y) Y Y) ?_))
    obtain ⟨t36, h12, hm⟩ := bindO hm
    refine kS h12 Y Y Y ?_
    obtain ⟨t37, h13, hm⟩ := bindO hm
    refine jc Y Y Y (fun _ _ => jbe h13 Y Y) (jm Y Y (jv (js (ja (jh (je Y Y ?_))))))
    obtain ⟨t12, h14, hm⟩ := bindO hm
    refine kS h14 Y Y Y (jm Y Y (jv ?_))
    obtain rfl := sj hm
    refine ja ?_
    exact jy _ () Y (trivial) (sE Y) (fun w hh => hh)
   replace hm := ifE h5 hm
   refine jO (jj (jj (jC ?_)))
   obtain rfl := sj hm
   have hbo := h4 _ Y
   subst hbo
   exact jg () (Y) (.nil) (fun w hh => hh)
  intro j hj
  have h15 := hj
  subst h15
  replace hm := ocL h3
  refine ja (jp (jm Y Y (jo (jw ?_))))
  obtain rfl := sj hm
  refine jn Y (fun w hh => (.tmp Y .nil)) (fun w hh => ⟨(), rfl, trivial, hh.se [] [] 2 Y Y Y rfl⟩)
structure QP where
  r0 : Int
  r1 : Int
  r2 : Bool
structure Ku where
  n7 : Int
  t8 : Int
def zy (s0 : Scalps) (s : Ku) : Option (Ku ⊕ Int) :=
 if s.t8 < (s0.carried.length : Int) then
 ((ix s0.carried s.t8).bind fun t28 =>
 (addc t28.hi 1).bind fun t31 =>
 (mulc s.n7 t31).bind fun t32 =>
 (addc s.t8 1).bind fun t23 =>
 some (.inl (⟨t32, t23⟩ : Ku))) else
 (some (.inr s.n7))
structure Qs where
  now9_can : (List Bool)
  now9_least : (List Int)
  now9_most : (List Int)
structure zt where
  k10 : Int
  now9_can : (List Bool)
  now9_least : (List Int)
  now9_most : (List Int)
structure Yw where
  r0_can : (List Bool)
  r0_least : (List Int)
  r0_most : (List Int)
structure Kr where
  at12 : Int
  r0_can : (List Bool)
  r0_least : (List Int)
  r0_most : (List Int)
structure Ys where
  r0_can : (List Bool)
  r0_least : (List Int)
  r0_most : (List Int)
def Jy (o : Int) (s_1 : zt) (s0 : Scalps) (c1 : (List (List Bool))) (s_2 : Kr) : Option (Kr ⊕ Yw) :=
 if s_2.at12 < o then
 (((ix s_1.now9_can s_2.at12).bind fun t55 =>
 if t55 = true then
 ((ix s_1.now9_least s_2.at12).bind fun t65 =>
 (ix s_1.now9_most s_2.at12).bind fun t70 =>
 (qi FU s0 c1 s_1.k10 0 s_2.at12 s_2.at12 0 t65 t70 (⟨s_2.r0_can, s_2.r0_least, s_2.r0_most⟩ : Book)).bind fun t73 =>
 some (⟨t73.next9_can, t73.next9_least, t73.next9_most⟩ : Ys)) else
 (some (⟨s_2.r0_can, s_2.r0_least, s_2.r0_most⟩ : Ys))).bind fun o_3 =>
 (addc s_2.at12 1).bind fun t51 =>
 some (.inl (⟨t51, o_3.r0_can, o_3.r0_least, o_3.r0_most⟩ : Kr))) else
 (some (.inr (⟨s_2.r0_can, s_2.r0_least, s_2.r0_most⟩ : Yw)))
def Jz (s0 : Scalps) (o : Int) (c1 : (List (List Bool))) (s_1 : zt) : Option (zt ⊕ Qs) :=
 if s_1.k10 < (s0.strips.length : Int) then
 ((KM o).bind fun t46 =>
 (iterM FU (Jy o s_1 s0 c1) (⟨0, t46.can, t46.least, t46.most⟩ : Kr)).bind fun o_2 =>
 (addc s_1.k10 1).bind fun t44 =>
 some (.inl (⟨t44, o_2.r0_can, o_2.r0_least, o_2.r0_most⟩ : zt))) else
 (some (.inr (⟨s_1.now9_can, s_1.now9_least, s_1.now9_most⟩ : Qs)))
structure Yz where
  found13 : Bool
  least14 : Int
  most15 : Int
structure Kt where
  found13 : Bool
  least14 : Int
  most15 : Int
  at16 : Int
structure Yt where
  found13 : Bool
  least14 : Int
  most15 : Int
structure Yq where
  found13 : Bool
  least14 : Int
  most15 : Int
def JF (o : Int) (o_1 : Qs) (s0 : Scalps) (s_3 : Kt) : Option (Kt ⊕ Yz) :=
 if s_3.at16 < o then
 ((((ix o_1.now9_can s_3.at16).bind fun t83 =>
 if (!t83) = true then
 (some true) else
 ((KN s0 s_3.at16).bind fun t89 =>
 some (!t89))).bind fun o_6 =>
 if o_6 = true then
 (some (⟨s_3.found13, s_3.least14, s_3.most15⟩ : Yt)) else
 ((if (!s_3.found13) = true then
 ((ix o_1.now9_least s_3.at16).bind fun t97 =>
 (ix o_1.now9_most s_3.at16).bind fun t102 =>
 some (⟨true, t97, t102⟩ : Yq)) else
 (some (⟨s_3.found13, s_3.least14, s_3.most15⟩ : Yq))).bind fun o_7 =>
 (ix o_1.now9_least s_3.at16).bind fun t108 =>
 (ix o_1.now9_most s_3.at16).bind fun t115 =>
 some (⟨o_7.found13, (min o_7.least14 t108), (max o_7.most15 t115)⟩ : Yt))).bind fun o_5 =>
 (addc s_3.at16 1).bind fun t79 =>
 some (.inl (⟨o_5.found13, o_5.least14, o_5.most15, t79⟩ : Kt))) else
 (some (.inr (⟨s_3.found13, s_3.least14, s_3.most15⟩ : Yz)))
def JB (s0 : Scalps) (c1 : (List (List Bool))) : Option QP :=
 (iterM FU (zy s0) (⟨1, 0⟩ : Ku)).bind fun o =>
 (KM o).bind fun t34 =>
 (ix t34.can 0).bind fun t37 =>
 (some (t34.can.set (Int.toNat 0) true)).bind fun r0_can =>
 (iterM FU (Jz s0 o c1) (⟨0, r0_can, t34.least, t34.most⟩ : zt)).bind fun o_1 =>
 (iterM FU (JF o o_1 s0) (⟨false, 0, 0, 0⟩ : Kt)).bind fun o_4 =>
 some (⟨o_4.least14, o_4.most15, o_4.found13⟩ : QP)
theorem jaG (s0 : Scalps) (c1 : (List (List Bool))) (qa0 : Option Addr) (na0 ca0 : Nat) (qa1 : Option Addr) (na1 ca1 : Nat) (qa2 : Option Addr) (na2 ca2 : Nat) (ar2 : List AL) (w : World) (hw : HV w (keys [] []) [] [] [(aB qa0, aO qa0, RSt.enc s0.strips), (aB qa1, aO qa1, RSp.enc s0.carried), (aB qa2, aO qa2, RwA.enc ar2)] w) (hna0 : s0.strips.length = na0) (hqa0 : AOK na0 qa0) (hla0 : na0 ≤ ca0) (hna1 : s0.carried.length = na1) (hqa1 : AOK na1 qa1) (hla1 : na1 ≤ ca1) (hna2 : c1.length = na2) (hqa2 : AOK na2 qa2) (hla2 : na2 ≤ ca2) (hda2 : DRO c1 ar2) (hTa2 : ∀ t, t ∈ rsg RB c1 ar2 → segOK w t ∧ (t.2.2 ≠ [] → t.1 ∉ keys [] [])) {res : QP} (hm : JB s0 c1 = some res) :
    Calls Tryz.prog 13 #[.agg #[.slice qa0 na0 ca0, .slice qa1 na1 ca1], .slice qa2 na2 ca2] w (fun en w' => ∃ l : Unit, en = .returned (.tuple #[.int .i64 res.r0, .int .i64 res.r1, .bool res.r2]) ∧ (True) ∧ HV w (keys [] []) [] [] [] w') := by
  unfold JB at hm
  refine kj func13 Y ntmps13 Y (e := [(0, _), (1, _)]) Y hw (jp ?_)
  refine jK Y Y (fun b h1 => ?_)
  refine jm Y Y (jm Y Y (jm Y Y (j3 (jm Y Y (jo (jk (jp ?_)))))))
  refine jm Y Y (jo ?_)
  obtain ⟨o, h2, h3⟩ := bindO hm
  refine jD (ι := Unit) (fun l => True) (fun l => [(1, .slice qa2 na2 ca2), (2, ptr b 0), (7, .int .i64 o)]) (fun l => [kc b #[.slice qa0 na0 ca0, .slice qa1 na1 ca1] 38]) (fun l => []) ?_ ?_
  ·replace hm := h2
   refine jl ?_
   refine jF (ι := Unit) hm (fun s l_1 => True) (fun s l_1 => [(1, .slice qa2 na2 ca2), (2, ptr b 0), (7, .int .i64 s.n7), (8, .int .i64 s.t8)]) (fun s l_1 => [kc b #[.slice qa0 na0 ca0, .slice qa1 na1 ca1] 38]) (fun s l_1 => []) () (trivial) (sE Y) (fun w hh => hh) (fun s l_1 r hpl hm h4 => ?_)
   unfold zy at hm
   refine jk (jp (je Y Y (jM 1 runUnderlying38 Y sizeOf23 Y Y (jS 0 isAgg23 Y Y Y Y (jc Y Y Y (fun w _ => jB hna1 (runUnderlying23 w) Y) (q8 Y Y Y (jo ?_)))))))
   refine jq Y (fun h5 => ?_) (fun h5 => ?_)
   ·replace hm := ifD h5 hm
    refine jt (ja (jk (jl (jh (je Y Y (jM 1 runUnderlying38 Y sizeOf23 Y Y (jS 0 isAgg23 Y Y Y Y ?_)))))))
    refine je Y Y ?_
    obtain ⟨t28, h6, hm⟩ := bindO hm
    refine jc Y Y Y (fun w _ => jY h6 (runUnderlying23 w) (sizeOf32 w) Y Y hna1 hqa1) (jM 1 runUnderlying32 Y sizeOf3 Y Y (jc Y Y Y (fun w hh => jW RSp 1 h6 (isAgg3 w) Y (hh.seg 1 Y) Y Y) ?_))
    obtain ⟨t31, h7, hm⟩ := bindO hm
    refine kS h7 Y Y Y ?_
    obtain ⟨t32, h8, hm⟩ := bindO hm
    refine jc Y Y Y (fun _ _ => Q1 h8 Y Y) (jm Y Y (jv (js (ja (jh (je Y Y ?_))))))
    obtain ⟨t23, h9, hm⟩ := bindO hm
    refine kS h9 Y Y Y (jm Y Y (jv ?_))
    obtain rfl := sj hm
    refine ja ?_
    exact jy _ () Y (trivial) (sE Y) (fun w hh => hh)
   replace hm := ifE h5 hm
   refine jO (jj (jj (jC ?_)))
   obtain rfl := sj hm
   have hbo := h4 _ Y
   subst hbo
   exact jg () (trivial) (sE Y) (fun w hh => hh)
  intro l hj
  replace hm := h3
  refine ja (jp (je Y Y ?_))
  obtain ⟨t34, h10, hm⟩ := bindO hm
  refine jd [] [] Y Y Y Y Y Y Y call53 (fun w hh => ZL o w (HV.callee (S0 := []) (vs0 := []) hh roN)  h10) (fun l_2 h11 => ?_)
  obtain ⟨h12, h13, h14⟩ := h11
  refine jT (S' := [_]) (vs' := [_, _, _]) [0] [0, 1, 2] 0 Y Y Y Y ?_
  refine ju (fun w => zeroValue102 w) Y (fun b_1 h15 => ?_)
  refine jE (us := #[_, _, _]) (cs' := [_, _, _]) (S' := [_, _]) 0 (fun w => sizeOf102 w) Y Y Y Y Y Y Y (j3 (jM 0 runUnderlying102 Y sizeOf93 Y Y (jS 0 isAgg93 Y Y Y Y ?_)))
  obtain ⟨t37, h16, hm⟩ := bindO hm
  refine jc Y Y Y (fun w _ => qR h16 (runUnderlying93 w) (sizeOf4 w) Y Y (vlen RB h12 Y) (vne h12)) ?_
  obtain ⟨r0_can, hr0_can, hm⟩ := bindO hm
  refine Qv RB 0 0 true (fun w => sizeOf4 w) Y Y Y Y h12 Y (Nat.add_zero _).symm Y h16 Y Y (Option.some.inj hr0_can) (fun h17 => ?_)
  refine jT (S' := [_, _]) (vs' := [_, _, _]) [0, 1] [0, 1, 2] 0 Y Y Y Y (jo (jk (jp (jm Y Y (jo ?_)))))
  obtain ⟨o_1, h18, h19⟩ := bindO hm
  refine jD (ι := VL × VL × VL) (fun l_3 => VOK 1 l_3.1.n l_3.1.cap (RB.enc o_1.now9_can) l_3.1.sp l_3.1.q ∧ VOK 1 l_3.2.1.n l_3.2.1.cap (RI.enc o_1.now9_least) l_3.2.1.sp l_3.2.1.q ∧ VOK 1 l_3.2.2.n l_3.2.2.cap (RI.enc o_1.now9_most) l_3.2.2.sp l_3.2.2.q) (fun l_3 => [(2, ptr b 0), (7, .int .i64 o), (9, ptr b_1 0)]) (fun l_3 => [kc b_1 #[sL l_3.1, sL l_3.2.1, sL l_3.2.2] 102, kc b #[.slice qa0 na0 ca0, .slice qa1 na1 ca1] 38]) (fun l_3 => [vL 4 l_3.1 (RB.enc o_1.now9_can), vL 3 l_3.2.1 (RI.enc o_1.now9_least), vL 3 l_3.2.2 (RI.enc o_1.now9_most)]) ?_ ?_
  ·replace hm := h18
   refine jl ?_
   refine jF (ι := VL × VL × VL) hm (fun s_1 l_4 => VOK 1 l_4.1.n l_4.1.cap (RB.enc s_1.now9_can) l_4.1.sp l_4.1.q ∧ VOK 1 l_4.2.1.n l_4.2.1.cap (RI.enc s_1.now9_least) l_4.2.1.sp l_4.2.1.q ∧ VOK 1 l_4.2.2.n l_4.2.2.cap (RI.enc s_1.now9_most) l_4.2.2.sp l_4.2.2.q) (fun s_1 l_4 => [(1, .slice qa2 na2 ca2), (2, ptr b 0), (7, .int .i64 o), (9, ptr b_1 0), (10, .int .i64 s_1.k10)]) (fun s_1 l_4 => [kc b_1 #[sL l_4.1, sL l_4.2.1, sL l_4.2.2] 102, kc b #[.slice qa0 na0 ca0, .slice qa1 na1 ca1] 38]) (fun s_1 l_4 => [vL 4 l_4.1 (RB.enc s_1.now9_can), vL 3 l_4.2.1 (RI.enc s_1.now9_least), vL 3 l_4.2.2 (RI.enc s_1.now9_most)]) (l_2.1, l_2.2.1, l_2.2.2) (⟨h17, h13, h14⟩) (sE Y) (fun w hh => hh) (fun s_1 l_4 r_1 hpl hm h26 => ?_)
   obtain ⟨h23, h24, h25⟩ := hpl
   unfold Jz at hm
   refine jk (jp (je Y Y (jM 0 runUnderlying38 Y sizeOf36 Y Y (jS 1 isAgg36 Y Y Y Y (jc Y Y Y (fun w _ => jB hna0 (runUnderlying36 w) Y) (q8 Y Y Y (jo ?_)))))))
   refine jq Y (fun h27 => ?_) (fun h27 => ?_)
   ·replace hm := ifD h27 hm
    refine jt (ja (jk (jl (jp (je Y Y ?_)))))
    obtain ⟨t46, h28, hm⟩ := bindO hm
    refine jd [] [] Y Y Y Y Y Y Y call53 (fun w hh => ZL o w (HV.callee (S0 := []) (vs0 := []) hh roN)  h28) (fun l_5 h29 => ?_)
    obtain ⟨h30, h31, h32⟩ := h29
    refine jT (S' := [_, _]) (vs' := [_, _, _, _, _, _]) [0, 1] [0, 1, 2, 3, 4, 5] 0 Y Y Y Y ?_
    refine ju (fun w => zeroValue102 w) Y (fun b_2 h33 => ?_)
    refine jE (us := #[_, _, _]) (cs' := [_, _, _]) (S' := [_, _, _]) 0 (fun w => sizeOf102 w) Y Y Y Y Y Y Y (jo (jk (jp (jm Y Y (jo ?_)))))
    obtain ⟨o_2, h34, h35⟩ := bindO hm
    refine jD (ι := Unit) (fun l_6 => VOK 1 l_5.1.n l_5.1.cap (RB.enc o_2.r0_can) l_5.1.sp l_5.1.q ∧ VOK 1 l_5.2.1.n l_5.2.1.cap (RI.enc o_2.r0_least) l_5.2.1.sp l_5.2.1.q ∧ VOK 1 l_5.2.2.n l_5.2.2.cap (RI.enc o_2.r0_most) l_5.2.2.sp l_5.2.2.q) (fun l_6 => [(1, .slice qa2 na2 ca2), (2, ptr b 0), (7, .int .i64 o), (9, ptr b_1 0), (10, .int .i64 s_1.k10), (11, ptr b_2 0)]) (fun l_6 => [kc b_2 #[sL l_5.1, sL l_5.2.1, sL l_5.2.2] 102, kc b_1 #[sL l_4.1, sL l_4.2.1, sL l_4.2.2] 102, kc b #[.slice qa0 na0 ca0, .slice qa1 na1 ca1] 38]) (fun l_6 => [vL 4 l_5.1 (RB.enc o_2.r0_can), vL 3 l_5.2.1 (RI.enc o_2.r0_least), vL 3 l_5.2.2 (RI.enc o_2.r0_most), vL 4 l_4.1 (RB.enc s_1.now9_can), vL 3 l_4.2.1 (RI.enc s_1.now9_least), vL 3 l_4.2.2 (RI.enc s_1.now9_most)]) ?_ ?_
    ·replace hm := h34
     refine jl ?_
     refine jF (ι := Unit) hm (fun s_2 l_7 => VOK 1 l_5.1.n l_5.1.cap (RB.enc s_2.r0_can) l_5.1.sp l_5.1.q ∧ VOK 1 l_5.2.1.n l_5.2.1.cap (RI.enc s_2.r0_least) l_5.2.1.sp l_5.2.1.q ∧ VOK 1 l_5.2.2.n l_5.2.2.cap (RI.enc s_2.r0_most) l_5.2.2.sp l_5.2.2.q) (fun s_2 l_7 => [(1, .slice qa2 na2 ca2), (2, ptr b 0), (7, .int .i64 o), (9, ptr b_1 0), (10, .int .i64 s_1.k10), (11, ptr b_2 0), (12, .int .i64 s_2.at12)]) (fun s_2 l_7 => [kc b_2 #[sL l_5.1, sL l_5.2.1, sL l_5.2.2] 102, kc b_1 #[sL l_4.1, sL l_4.2.1, sL l_4.2.2] 102, kc b #[.slice qa0 na0 ca0, .slice qa1 na1 ca1] 38]) (fun s_2 l_7 => [vL 4 l_5.1 (RB.enc s_2.r0_can), vL 3 l_5.2.1 (RI.enc s_2.r0_least), vL 3 l_5.2.2 (RI.enc s_2.r0_most), vL 4 l_4.1 (RB.enc s_1.now9_can), vL 3 l_4.2.1 (RI.enc s_1.now9_least), vL 3 l_4.2.2 (RI.enc s_1.now9_most)]) () (⟨h30, h31, h32⟩) (sE Y) (fun w hh => hh) (fun s_2 l_7 r_2 hpl hm h42 => ?_)
     obtain ⟨h39, h40, h41⟩ := hpl
     unfold Jy at hm
     refine jk (jp (je Y Y (je Y Y (q8 Y Y Y (jo ?_)))))
     refine jq Y (fun h43 => ?_) (fun h43 => ?_)
     ·replace hm := ifD h43 hm
      refine jt (ja (jk ?_))
      obtain ⟨o_3, h44, h45⟩ := bindO hm
      refine jD (ι := Unit) (fun l_8 => VOK 1 l_5.1.n l_5.1.cap (RB.enc o_3.r0_can) l_5.1.sp l_5.1.q ∧ VOK 1 l_5.2.1.n l_5.2.1.cap (RI.enc o_3.r0_least) l_5.2.1.sp l_5.2.1.q ∧ VOK 1 l_5.2.2.n l_5.2.2.cap (RI.enc o_3.r0_most) l_5.2.2.sp l_5.2.2.q) (fun l_8 => [(1, .slice qa2 na2 ca2), (2, ptr b 0), (7, .int .i64 o), (9, ptr b_1 0), (10, .int .i64 s_1.k10), (11, ptr b_2 0), (12, .int .i64 s_2.at12)]) (fun l_8 => [kc b_2 #[sL l_5.1, sL l_5.2.1, sL l_5.2.2] 102, kc b_1 #[sL l_4.1, sL l_4.2.1, sL l_4.2.2] 102, kc b #[.slice qa0 na0 ca0, .slice qa1 na1 ca1] 38]) (fun l_8 => [vL 4 l_5.1 (RB.enc o_3.r0_can), vL 3 l_5.2.1 (RI.enc o_3.r0_least), vL 3 l_5.2.2 (RI.enc o_3.r0_most), vL 4 l_4.1 (RB.enc s_1.now9_can), vL 3 l_4.2.1 (RI.enc s_1.now9_least), vL 3 l_4.2.2 (RI.enc s_1.now9_most)]) ?_ ?_
      ·replace hm := h44
       refine jl (jp (jM 0 runUnderlying102 Y sizeOf93 Y Y (jS 1 isAgg93 Y Y Y Y (je Y Y ?_))))
       obtain ⟨t55, h49, hm⟩ := bindO hm
       refine jc Y Y Y (fun w _ => qR h49 (runUnderlying93 w) (sizeOf4 w) Y Y (vlen RB h23 Y) (vne h23)) (jc Y Y Y (fun w hh => jW RB 0 h49 (isAgg4 w) Y (hh.vseg 3 Y h23) Y (Nat.add_zero _).symm) (jo ?_))
       refine jq Y (fun h50 => ?_) (fun h50 => ?_)
       ·replace hm := ifT (h50) hm
        refine jV none (.hoist 0 (.free 1 (.free 2 (.free 3 (.free 4 (.free 5 (.hoist 6 (.free 7 (.free 8 (.hoist 9 (.free 10 (.hoist 11 (.free 12 (.free 13 (.hoist 14 (.hoist 15 (.one 16 .done))))))))))))))))) (HV _ _ [kc b_2 #[sL l_5.1, sL l_5.2.1, sL l_5.2.2] 102, kc b_1 #[sL l_4.1, sL l_4.2.1, sL l_4.2.2] 102, kc b #[.slice qa0 na0 ca0, .slice qa1 na1 ca1] 38] [vL 4 l_4.1 (RB.enc s_1.now9_can), vL 3 l_4.2.1 (RI.enc s_1.now9_least), vL 3 l_4.2.2 (RI.enc s_1.now9_most)] _) Y (by decide +kernel) (fun w k hh => hh.draw k) (hsE [0, 1, 2] [3, 4, 5] 0 Y Y Y Y) ?_
        refine jA Y Y Y Y (fun w hh => kn (vs := [_, _]) (isAgg38 w) (sizeOf38 w) Y (hh.cells 2 Y Y)) (kb Y Y Y (kb Y Y Y (kb Y Y Y (kb Y Y Y (kF 1 runUnderlying102 sizeOf26 Y Y Y Y (qs 1 isAgg26 Y Y Y Y Y (kb Y Y Y ?_)))))))
        obtain ⟨t65, h51, hm⟩ := bindO hm
        refine ji Y Y Y Y (fun w _ => qR h51 (runUnderlying26 w) (sizeOf3 w) Y Y (vlen RI h24 Y) (vne h24)) (jA Y Y Y Y (fun w hh => jW RI 0 h51 (isAgg3 w) Y (hh.vseg 1 Y h24) Y (Nat.add_zero _).symm) (kF 2 runUnderlying102 sizeOf26 Y Y Y Y (qs 1 isAgg26 Y Y Y Y Y (kb Y Y Y ?_))))
        obtain ⟨t70, h52, hm⟩ := bindO hm
        refine ji Y Y Y Y (fun w _ => qR h52 (runUnderlying26 w) (sizeOf3 w) Y Y (vlen RI h25 Y) (vne h25)) (jA Y Y Y Y (fun w hh => jW RI 0 h52 (isAgg3 w) Y (hh.vseg 2 Y h25) Y (Nat.add_zero _).symm) (jA Y Y Y Y (fun w hh => kn (vs := [_, _, _]) (isAgg102 w) (sizeOf102 w) Y (hh.cells 0 Y Y)) (jJ Y ?_)))
        obtain ⟨t73, h53, hm⟩ := bindO hm
        refine jd [] [_, _, _] Y Y Y Y Y Y Y call54 (fun w hh => jas FU s0 c1 s_1.k10 0 s_2.at12 s_2.at12 0 t65 t70 (⟨s_2.r0_can, s_2.r0_least, s_2.r0_most⟩ : Book) qa0 na0 ca0 qa1 na1 ca1 qa2 na2 ca2 ar2 ⟨l_5.1.q, l_5.1.n, l_5.1.cap, l_5.1.sp⟩ ⟨l_5.2.1.q, l_5.2.1.n, l_5.2.1.cap, l_5.2.1.sp⟩ ⟨l_5.2.2.q, l_5.2.2.n, l_5.2.2.cap, l_5.2.2.sp⟩ w (HV.callee (S0 := []) (vs0 := [_, _, _]) hh (roR hh 0 Y (roR hh 1 Y (roR hh 2 Y roN)))) hna0 hqa0 hla0 hna1 hqa1 hla1 hna2 hqa2 hla2 hda2 (hh.oldT (S0 := []) (vs0 := [_, _, _]) hTa2) h39 h40 h41 h53) (fun l_9 h54 => ?_)
        obtain ⟨h55, h56, h57⟩ := h54
        refine jT (S' := [_, _, _]) (vs' := [_, _, _, _, _, _]) [0, 1, 2] [0, 1, 2, 3, 4, 5] 0 Y Y Y Y (jr (hsE [0, 1, 2] [3, 4, 5] 0 Y Y Y Y) (jI (js ?_)))
        obtain rfl := sj hm
        exact jg () (⟨h55, h56, h57⟩) (sE Y) (fun w hh => hh)
       replace hm := ifN h50 hm
       refine jt (js ?_)
       obtain rfl := sj hm
       exact jg () (⟨h39, h40, h41⟩) (sE Y) (fun w hh => hh)
      intro l_8 hj
      obtain ⟨h46, h47, h48⟩ := hj
      replace hm := h45
      refine ja (jh (je Y Y ?_))
      obtain ⟨t51, h58, hm⟩ := bindO hm
      refine kS h58 Y Y Y (jm Y Y (jv ?_))
      obtain rfl := sj hm
      refine ja ?_
      exact jy _ () Y (⟨h46, h47, h48⟩) (sE Y) (fun w hh => hh)
     replace hm := ifE h43 hm
     refine jO (jj (jj (jC ?_)))
     obtain rfl := sj hm
     have hbo := h42 _ Y
     subst hbo
     exact jg () (⟨h39, h40, h41⟩) (sE Y) (fun w hh => hh)
    intro l_6 hj
    obtain ⟨h36, h37, h38⟩ := hj
    replace hm := h35
    refine ja (jh (qh [_, _, _] 0 isAgg102 sizeOf102 Y Y Y Y (jE (us := #[_, _, _]) (cs' := [_, _, _]) (S' := [_, _, _]) 1 (fun w => sizeOf102 w) Y Y Y Y Y Y Y (jv (js (ja (jh ?_)))))))
    refine je Y Y ?_
    obtain ⟨t44, h59, hm⟩ := bindO hm
    refine kS h59 Y Y Y (jm Y Y (jv ?_))
    obtain rfl := sj hm
    refine ja ?_
    exact jy _ (l_5.1, l_5.2.1, l_5.2.2) Y (⟨h36, h37, h38⟩) (sE Y) (hsE [1, 2] [0, 1, 2] 0 Y Y Y Y)
   replace hm := ifE h27 hm
   refine jO (jj (jj (jC ?_)))
   obtain rfl := sj hm
   have hbo := h26 _ Y
   subst hbo
   exact jg (l_4.1, l_4.2.1, l_4.2.2) (⟨h23, h24, h25⟩) (sE Y) (fun w hh => hh)
  intro l_3 hj
  obtain ⟨h20, h21, h22⟩ := hj
  replace hm := h19
  refine ja (jp (jm Y Y (jm Y Y (jm Y Y (jo (jk (jp ?_)))))))
  refine jm Y Y (jo ?_)
  obtain ⟨o_4, h60, h61⟩ := bindO hm
  refine jD (ι := Unit) (fun l_10 => True) (fun l_10 => [(13, .bool o_4.found13), (14, .int .i64 o_4.least14), (15, .int .i64 o_4.most15)]) (fun l_10 => [kc b_1 #[sL l_3.1, sL l_3.2.1, sL l_3.2.2] 102, kc b #[.slice qa0 na0 ca0, .slice qa1 na1 ca1] 38]) (fun l_10 => [vL 4 l_3.1 (RB.enc o_1.now9_can), vL 3 l_3.2.1 (RI.enc o_1.now9_least), vL 3 l_3.2.2 (RI.enc o_1.now9_most)]) ?_ ?_
  ·replace hm := h60
   refine jl ?_
   refine jF (ι := Unit) hm (fun s_3 l_11 => True) (fun s_3 l_11 => [(2, ptr b 0), (7, .int .i64 o), (9, ptr b_1 0), (13, .bool s_3.found13), (14, .int .i64 s_3.least14), (15, .int .i64 s_3.most15), (16, .int .i64 s_3.at16)]) (fun s_3 l_11 => [kc b_1 #[sL l_3.1, sL l_3.2.1, sL l_3.2.2] 102, kc b #[.slice qa0 na0 ca0, .slice qa1 na1 ca1] 38]) (fun s_3 l_11 => [vL 4 l_3.1 (RB.enc o_1.now9_can), vL 3 l_3.2.1 (RI.enc o_1.now9_least), vL 3 l_3.2.2 (RI.enc o_1.now9_most)]) () (trivial) (sE Y) (fun w hh => hh) (fun s_3 l_11 r_3 hpl hm h62 => ?_)
   unfold JF at hm
   refine jk (jp (je Y Y (je Y Y (q8 Y Y Y (jo ?_)))))
   refine jq Y (fun h63 => ?_) (fun h63 => ?_)
   ·replace hm := ifD h63 hm
    refine jt (ja (jk ?_))
    obtain ⟨o_5, h64, h65⟩ := bindO hm
    refine jD (ι := Unit) (fun l_12 => True) (fun l_12 => [(2, ptr b 0), (7, .int .i64 o), (9, ptr b_1 0), (13, .bool o_5.found13), (14, .int .i64 o_5.least14), (15, .int .i64 o_5.most15), (16, .int .i64 s_3.at16)]) (fun l_12 => [kc b_1 #[sL l_3.1, sL l_3.2.1, sL l_3.2.2] 102, kc b #[.slice qa0 na0 ca0, .slice qa1 na1 ca1] 38]) (fun l_12 => [vL 4 l_3.1 (RB.enc o_1.now9_can), vL 3 l_3.2.1 (RI.enc o_1.now9_least), vL 3 l_3.2.2 (RI.enc o_1.now9_most)]) ?_ ?_
    ·replace hm := h64
     refine jl (jk (jk ?_))
     obtain ⟨o_6, h66, h67⟩ := bindO hm
     refine jD (ι := Unit) (fun l_13 => True) (fun l_13 => [(2, ptr b 0), (7, .int .i64 o), (9, ptr b_1 0), (13, .bool s_3.found13), (14, .int .i64 s_3.least14), (15, .int .i64 s_3.most15), (16, .int .i64 s_3.at16), (91, .bool o_6)]) (fun l_13 => [kc b_1 #[sL l_3.1, sL l_3.2.1, sL l_3.2.2] 102, kc b #[.slice qa0 na0 ca0, .slice qa1 na1 ca1] 38]) (fun l_13 => [vL 4 l_3.1 (RB.enc o_1.now9_can), vL 3 l_3.2.1 (RI.enc o_1.now9_least), vL 3 l_3.2.2 (RI.enc o_1.now9_most)]) ?_ ?_
     ·replace hm := h66
      refine jh (jM 0 runUnderlying102 Y sizeOf93 Y Y (jS 0 isAgg93 Y Y Y Y (je Y Y ?_)))
      obtain ⟨t83, h68, hm⟩ := bindO hm
      refine jc Y Y Y (fun w _ => qR h68 (runUnderlying93 w) (sizeOf4 w) Y Y (vlen RB h20 Y) (vne h20)) (jc Y Y Y (fun w hh => jW RB 0 h68 (isAgg4 w) Y (hh.vseg 0 Y h20) Y (Nat.add_zero _).symm) (jc Y Y Y (fun _ _ => kV Y) (je Y Y ?_)))
      refine jH 86 Y (fun h69 => ?_) (fun h69 => ?_)
      ·replace hm := ifT (h69) hm
       refine g_k Y Y Y Y (g_k Y Y Y Y (g_k Y Y Y Y (g_k Y Y Y Y (j8 Y Y Y (jv ?_)))))
       obtain rfl := sj hm
       exact jg () (trivial) (sE Y) (fun w hh => hh)
      replace hm := ifN h69 hm
      refine jb Y Y (qh [_, _] 1 isAgg38 sizeOf38 Y Y Y Y (jb Y Y (je Y Y (jb Y Y ?_))))
      obtain ⟨t89, h70, hm⟩ := bindO hm
      refine jd [] [] Y Y Y Y Y Y Y call55 (fun w hh => jao s0 s_3.at16 qa0 na0 ca0 qa1 na1 ca1 w (HV.callee (S0 := []) (vs0 := []) hh (roR hh 0 Y (roR hh 1 Y roN))) hna0 hqa0 hla0 hna1 hqa1 hla1 h70) (fun l_14 h71 => ?_)
      refine jb Y Y (jc Y Y Y (fun _ _ => kV Y) (ky Y Y Y (jv ?_)))
      obtain rfl := sj hm
      exact jg () (trivial) (sE Y) (fun w hh => hh)
     intro l_13 hj
     replace hm := h67
     refine ja ?_
     refine jq Y (fun h72 => ?_) (fun h72 => ?_)
     ·replace hm := ifT (h72) hm
      refine jO (jj (jC ?_))
      obtain rfl := sj hm
      exact jg () (trivial) (sE Y) (fun w hh => hh)
     replace hm := ifN h72 hm
     refine jt (ja (jk ?_))
     obtain ⟨o_7, h73, h74⟩ := bindO hm
     refine jD (ι := Unit) (fun l_15 => True) (fun l_15 => [(2, ptr b 0), (7, .int .i64 o), (9, ptr b_1 0), (13, .bool o_7.found13), (14, .int .i64 o_7.least14), (15, .int .i64 o_7.most15), (16, .int .i64 s_3.at16)]) (fun l_15 => [kc b_1 #[sL l_3.1, sL l_3.2.1, sL l_3.2.2] 102, kc b #[.slice qa0 na0 ca0, .slice qa1 na1 ca1] 38]) (fun l_15 => [vL 4 l_3.1 (RB.enc o_1.now9_can), vL 3 l_3.2.1 (RI.enc o_1.now9_least), vL 3 l_3.2.2 (RI.enc o_1.now9_most)]) ?_ ?_
     ·replace hm := h73
      refine jp (je Y Y (jc Y Y Y (fun _ _ => kV Y) (jo ?_)))
      refine jq Y (fun h75 => ?_) (fun h75 => ?_)
      ·replace hm := ifT (h75) hm
       refine jV none (.free 0 (.hoist 1 (.free 2 (.free 3 (.hoist 4 (.free 5 (.hoist 6 (.free 7 (.free 8 (.hoist 9 (.free 10 (.free 11 (.free 12 .done))))))))))))) _ Y (by decide +kernel) (fun w k hh => hh.draw k) (fun w hh => hh) ?_
       refine kF 1 runUnderlying102 sizeOf26 Y Y Y Y (qs 0 isAgg26 Y Y Y Y Y (kb Y Y Y ?_))
       obtain ⟨t97, h76, hm⟩ := bindO hm
       refine ji Y Y Y Y (fun w _ => qR h76 (runUnderlying26 w) (sizeOf3 w) Y Y (vlen RI h21 Y) (vne h21)) (jA Y Y Y Y (fun w hh => jW RI 0 h76 (isAgg3 w) Y (hh.vseg 1 Y h21) Y (Nat.add_zero _).symm) (kF 2 runUnderlying102 sizeOf26 Y Y Y Y (qs 0 isAgg26 Y Y Y Y Y (kb Y Y Y ?_))))
       obtain ⟨t102, h77, hm⟩ := bindO hm
       refine ji Y Y Y Y (fun w _ => qR h77 (runUnderlying26 w) (sizeOf3 w) Y Y (vlen RI h22 Y) (vne h22)) (jA Y Y Y Y (fun w hh => jW RI 0 h77 (isAgg3 w) Y (hh.vseg 2 Y h22) Y (Nat.add_zero _).symm) (ji Y Y Y Y (fun _ _ => jQ Y) (ji Y Y Y Y (fun _ _ => jQ Y) (ji Y Y Y Y (fun _ _ => jQ Y) (jI ?_)))))
       obtain rfl := sj hm
       exact jg () (trivial) (sE Y) (fun w hh => hh)
      replace hm := ifN h75 hm
      refine jt ?_
      obtain rfl := sj hm
      exact jg () (trivial) (sE Y) (fun w hh => hh)
     intro l_15 hj
     replace hm := h74
     refine ja (jp (je Y Y (jM 1 runUnderlying102 Y sizeOf26 Y Y (jS 0 isAgg26 Y Y Y Y (je Y Y ?_)))))
     obtain ⟨t108, h78, hm⟩ := bindO hm
     refine jc Y Y Y (fun w _ => qR h78 (runUnderlying26 w) (sizeOf3 w) Y Y (vlen RI h21 Y) (vne h21)) (jc Y Y Y (fun w hh => jW RI 0 h78 (isAgg3 w) Y (hh.vseg 1 Y h21) Y (Nat.add_zero _).symm) (jc Y Y Y (fun _ _ => Z7 Y Y) (jm Y Y (jo (jh (je Y Y (jM 2 runUnderlying102 Y sizeOf26 Y Y ?_)))))))
     refine jS 0 isAgg26 Y Y Y Y (je Y Y ?_)
     obtain ⟨t115, h79, hm⟩ := bindO hm
     refine jc Y Y Y (fun w _ => qR h79 (runUnderlying26 w) (sizeOf3 w) Y Y (vlen RI h22 Y) (vne h22)) (jc Y Y Y (fun w hh => jW RI 0 h79 (isAgg3 w) Y (hh.vseg 2 Y h22) Y (Nat.add_zero _).symm) (jc Y Y Y (fun _ _ => ZN Y Y) (jm Y Y (jv (js ?_)))))
     obtain rfl := sj hm
     exact jg () (trivial) (sE Y) (fun w hh => hh)
    intro l_12 hj
    replace hm := h65
    refine ja (jh (je Y Y ?_))
    obtain ⟨t79, h80, hm⟩ := bindO hm
    refine kS h80 Y Y Y (jm Y Y (jv ?_))
    obtain rfl := sj hm
    refine ja ?_
    exact jy _ () Y (trivial) (sE Y) (fun w hh => hh)
   replace hm := ifE h63 hm
   refine jO (jj (jj (jC ?_)))
   obtain rfl := sj hm
   have hbo := h62 _ Y
   subst hbo
   exact jg () (trivial) (sE Y) (fun w hh => hh)
  intro l_10 hj
  replace hm := h61
  refine ja (jp (je Y Y (je Y Y (je Y Y (jm Y Y (jm Y Y (jm Y Y ?_)))))))
  refine jo (jw ?_)
  obtain rfl := sj hm
  refine jn Y (fun w hh => (.tmp Y (.tmp Y (.tmp Y .nil)))) (fun w hh => ⟨(), rfl, trivial, hh.se [] [] 3 Y Y Y rfl⟩)
structure qt where
  r0 : Int
  r1 : Int
def zr (of2 : (List Int)) (o : Int) (s : Int) : Option (Int ⊕ (Unit ⊕ qt)) :=
 if s < (of2.length : Int) then
 ((ix of2 s).bind fun t32 =>
 (subc o 1).bind fun t35 =>
 (JO t32 0 t35).bind fun t36 =>
 if t36 = true then
 (some (.inr (.inr (⟨0, 1⟩ : qt)))) else
 ((addc s 1).bind fun t29 =>
 some (.inl t29))) else
 (some (.inr (.inl ())))
def zk (of2 : (List Int)) (s_1 : Int) : Option (Int ⊕ (Unit ⊕ qt)) :=
 if s_1 < (of2.length : Int) then
 ((ix of2 s_1).bind fun t45 =>
 (subc s_1 1).bind fun t49 =>
 (ix of2 t49).bind fun t50 =>
 if t45 ≤ t50 then
 (some (.inr (.inr (⟨0, 4⟩ : qt)))) else
 ((addc s_1 1).bind fun t42 =>
 some (.inl t42))) else
 (some (.inr (.inl ())))
structure Kl where
  need11 : Int
  i13 : Int
def zm (of2 : (List Int)) (tenants1 : Bool) (s0 : Scalps) (s_2 : Kl) : Option (Kl ⊕ Int) :=
 if s_2.i13 < (of2.length : Int) then
 ((if tenants1 = true then
 ((ix of2 s_2.i13).bind fun t68 =>
 (ix s0.carried t68).bind fun t70 =>
 (addc s_2.need11 t70.lo).bind fun t73 =>
 some t73) else
 ((ix of2 s_2.i13).bind fun t78 =>
 (Jl s0 t78).bind fun t80 =>
 (addc s_2.need11 t80.lo).bind fun t82 =>
 some t82)).bind fun o_4 =>
 (addc s_2.i13 1).bind fun t61 =>
 some (.inl (⟨o_4, t61⟩ : Kl))) else
 (some (.inr s_2.need11))
structure qT where
  can12 : Int
  n14 : Int
structure Ks where
  any15 : Bool
  i16 : Int
def zn (of2 : (List Int)) (tenants1 : Bool) (s0 : Scalps) (s_3 : qT) (s_4 : Ks) : Option (Ks ⊕ Bool) :=
 if s_4.i16 < (of2.length : Int) then
 ((if s_4.any15 = true then
 (some true) else
 (if tenants1 = true then
 ((ix of2 s_4.i16).bind fun t109 =>
 (kl s0 t109 s_3.n14).bind fun t112 =>
 if t112 = true then
 (some true) else
 (if (!tenants1) = true then
 ((ix of2 s_4.i16).bind fun t123 =>
 (kl s0 s_3.n14 t123).bind fun t125 =>
 some t125) else
 (some false))) else
 (if (!tenants1) = true then
 ((ix of2 s_4.i16).bind fun t123_1 =>
 (kl s0 s_3.n14 t123_1).bind fun t125_1 =>
 some t125_1) else
 (some false)))).bind fun o_8 =>
 (addc s_4.i16 1).bind fun t101 =>
 some (.inl (⟨o_8, t101⟩ : Ks))) else
 (some (.inr s_4.any15))
def zl (s0 : Scalps) (o : Int) (of2 : (List Int)) (tenants1 : Bool) (s_3 : qT) : Option (qT ⊕ Int) :=
 (addc (s0.strips.length : Int) (s0.carried.length : Int)).bind fun t90 =>
 (subc t90 o).bind fun t92 =>
 if s_3.n14 < t92 then
 (((iterM FU (zn of2 tenants1 s0 s_3) (⟨false, 0⟩ : Ks)).bind fun o_7 =>
 ((if o_7 = true then
 (some tenants1) else
 (some false)).bind fun o_10 =>
 if o_10 = true then
 ((Jl s0 s_3.n14).bind fun t135 =>
 (addc s_3.can12 t135.hi).bind fun t137 =>
 some t137) else
 (some s_3.can12)).bind fun o_9 =>
 (if o_7 = true then
 (some (!tenants1)) else
 (some false)).bind fun o_11 =>
 if o_11 = true then
 ((ix s0.carried s_3.n14).bind fun t147 =>
 (addc o_9 t147.hi).bind fun t150 =>
 some t150) else
 (some o_9)).bind fun o_6 =>
 (addc s_3.n14 1).bind fun t95 =>
 some (.inl (⟨o_6, t95⟩ : qT))) else
 (some (.inr s_3.can12))
def Qz (s0 : Scalps) (tenants1 : Bool) (of2 : (List Int)) : Option qt :=
 (if tenants1 = true then
 (some (s0.carried.length : Int)) else
 (some (s0.strips.length : Int))).bind fun o =>
 (iterM FU (zr of2 o) 0).bind fun o_1 =>
 oc o_1 (fun j => (iterM FU (zk of2) 1).bind fun o_2 =>
 oc o_2 (fun j_1 => if (of2.length : Int) = 0 then
 (some (⟨0, 4⟩ : qt)) else
 ((iterM FU (zm of2 tenants1 s0) (⟨0, 0⟩ : Kl)).bind fun o_3 =>
 (iterM FU (zl s0 o of2 tenants1) (⟨0, 0⟩ : qT)).bind fun o_5 =>
 if o_3 ≤ o_5 then
 (some (⟨0, 8⟩ : qt)) else
 ((subc o_3 o_5).bind fun t156 =>
 some (⟨t156, 0⟩ : qt)))) (fun r_5 => some r_5)) (fun r_6 => some r_6)
theorem jaC (s0 : Scalps) (tenants1 : Bool) (of2 : (List Int)) (qa0 : Option Addr) (na0 ca0 : Nat) (qa1 : Option Addr) (na1 ca1 : Nat) (qa2 : Option Addr) (na2 ca2 : Nat) (w : World) (hw : HV w (keys [] []) [] [] [(aB qa0, aO qa0, RSt.enc s0.strips), (aB qa1, aO qa1, RSp.enc s0.carried), (aB qa2, aO qa2, RI.enc of2)] w) (hna0 : s0.strips.length = na0) (hqa0 : AOK na0 qa0) (hla0 : na0 ≤ ca0) (hna1 : s0.carried.length = na1) (hqa1 : AOK na1 qa1) (hla1 : na1 ≤ ca1) (hna2 : of2.length = na2) (hqa2 : AOK na2 qa2) (hla2 : na2 ≤ ca2) {res : qt} (hm : Qz s0 tenants1 of2 = some res) :
    Calls Tryz.prog 16 #[.agg #[.slice qa0 na0 ca0, .slice qa1 na1 ca1], .bool tenants1, .slice qa2 na2 ca2] w (fun en w' => ∃ l : Unit, en = .returned (.tuple #[.int .i64 res.r0, .int .i64 res.r1]) ∧ (True) ∧ HV w (keys [] []) [] [] [] w') := by
  unfold Qz at hm
  refine kj func16 Y ntmps16 Y (e := [(0, _), (1, _), (2, _)]) Y hw (jp ?_)
  refine jK Y Y (fun b h1 => ?_)
  refine jm Y Y (jm Y Y (j3 (jM 0 runUnderlying38 Y sizeOf36 Y Y (jS 0 isAgg36 Y Y Y Y (jc Y Y Y (fun w _ => jB hna0 (runUnderlying36 w) Y) (jm Y Y (jo ?_)))))))
  refine jk ?_
  obtain ⟨o, h2, h3⟩ := bindO hm
  refine jD (ι := Unit) (fun l => True) (fun l => [(1, .bool tenants1), (2, .slice qa2 na2 ca2), (3, ptr b 0), (8, .int .i64 o)]) (fun l => [kc b #[.slice qa0 na0 ca0, .slice qa1 na1 ca1] 38]) (fun l => []) ?_ ?_
  ·replace hm := h2
   refine jp (je Y Y (jo ?_))
   refine jq Y (fun h4 => ?_) (fun h4 => ?_)
   ·replace hm := ifT (h4) hm
    refine jh (jM 1 runUnderlying38 Y sizeOf23 Y Y (jS 0 isAgg23 Y Y Y Y (jc Y Y Y (fun w _ => jB hna1 (runUnderlying23 w) Y) (jm Y Y (jv ?_)))))
    obtain rfl := sj hm
    exact jg () (trivial) (sE Y) (fun w hh => hh)
   replace hm := ifN h4 hm
   refine jt ?_
   obtain rfl := sj hm
   exact jg () (trivial) (sE Y) (fun w hh => hh)
  intro l hj
  replace hm := h3
  refine ja (jk (jp (jm Y Y (jo ?_))))
  obtain ⟨o_1, h5, h6⟩ := bindO hm
  refine jD (ι := Unit) (fun j => o_1 = .inl j) (fun j => [(1, .bool tenants1), (2, .slice qa2 na2 ca2), (3, ptr b 0), (8, .int .i64 o)]) (fun j => [kc b #[.slice qa0 na0 ca0, .slice qa1 na1 ca1] 38]) (fun j => []) ?_ ?_
  ·replace hm := h5
   refine jl ?_
   refine jF (ι := Unit) hm (fun s l_1 => True) (fun s l_1 => [(1, .bool tenants1), (2, .slice qa2 na2 ca2), (3, ptr b 0), (8, .int .i64 o), (9, .int .i64 s)]) (fun s l_1 => [kc b #[.slice qa0 na0 ca0, .slice qa1 na1 ca1] 38]) (fun s l_1 => []) () (trivial) (sE Y) (fun w hh => hh) (fun s l_1 r hpl hm h7 => ?_)
   unfold zr at hm
   refine jk (jp (je Y Y (je Y Y (jc Y Y Y (fun w _ => jB hna2 (runUnderlying26 w) Y) (q8 Y Y Y (jo ?_))))))
   refine jq Y (fun h8 => ?_) (fun h8 => ?_)
   ·replace hm := ifD h8 hm
    refine jt (ja (jk (jl (jp (je Y Y (je Y Y ?_))))))
    obtain ⟨t32, h9, hm⟩ := bindO hm
    refine jc Y Y Y (fun w _ => jY h9 (runUnderlying26 w) (sizeOf3 w) Y Y hna2 hqa2) (jc Y Y Y (fun w hh => jW RI 0 h9 (isAgg3 w) Y (hh.seg 2 Y) Y (Nat.add_zero _).symm) (je Y Y ?_))
    obtain ⟨t35, h10, hm⟩ := bindO hm
    refine jc Y Y Y (fun _ _ => qp h10 Y Y) ?_
    obtain ⟨t36, h11, hm⟩ := bindO hm
    refine jd [] [] Y Y Y Y Y Y Y call50 (fun w hh => Qq t32 0 t35 w (HV.callee (S0 := []) (vs0 := []) hh roN)  h11) (fun l_2 h12 => ?_)
    refine jo ?_
    refine jq Y (fun h13 => ?_) (fun h13 => ?_)
    ·replace hm := ifT (h13) hm
     refine jp (jm Y Y (jm Y Y (jo (jw (jz (jf (jf ?_)))))))
     refine jz ?_
     obtain rfl := sj hm
     have hbo := h7 _ Y
     subst hbo
     refine jf ?_
     replace hm := ocR h6
     refine jf ?_
     obtain rfl := sj hm
     refine jn Y (fun w hh => (.tmp Y (.tmp Y .nil))) (fun w hh => ⟨(), rfl, trivial, hh.se [] [] 3 Y Y Y rfl⟩)
    replace hm := ifN h13 hm
    refine jt (js (ja (jh (je Y Y ?_))))
    obtain ⟨t29, h14, hm⟩ := bindO hm
    refine kS h14 Y Y Y (jm Y Y (jv ?_))
    obtain rfl := sj hm
    refine ja ?_
    exact jy _ () Y (trivial) (sE Y) (fun w hh => hh)
   replace hm := ifE h8 hm
   refine jO (jj (jj (jC ?_)))
   obtain rfl := sj hm
   have hbo := h7 _ Y
   subst hbo
   exact jg () (Y) (sE Y) (fun w hh => hh)
  intro j hj
  have h15 := hj
  subst h15
  replace hm := ocL h6
  refine ja (jk (jp (jm Y Y (jo ?_))))
  obtain ⟨o_2, h16, h17⟩ := bindO hm
  refine jD (ι := Unit) (fun j_1 => o_2 = .inl j_1) (fun j_1 => [(1, .bool tenants1), (2, .slice qa2 na2 ca2), (3, ptr b 0), (8, .int .i64 o)]) (fun j_1 => [kc b #[.slice qa0 na0 ca0, .slice qa1 na1 ca1] 38]) (fun j_1 => []) ?_ ?_
  ·replace hm := h16
   refine jl ?_
   refine jF (ι := Unit) hm (fun s_1 l_3 => True) (fun s_1 l_3 => [(1, .bool tenants1), (2, .slice qa2 na2 ca2), (3, ptr b 0), (8, .int .i64 o), (10, .int .i64 s_1)]) (fun s_1 l_3 => [kc b #[.slice qa0 na0 ca0, .slice qa1 na1 ca1] 38]) (fun s_1 l_3 => []) () (trivial) (sE Y) (fun w hh => hh) (fun s_1 l_3 r_1 hpl hm h18 => ?_)
   unfold zk at hm
   refine jk (jp (je Y Y (je Y Y (jc Y Y Y (fun w _ => jB hna2 (runUnderlying26 w) Y) (q8 Y Y Y (jo ?_))))))
   refine jq Y (fun h19 => ?_) (fun h19 => ?_)
   ·replace hm := ifD h19 hm
    refine jt (ja (jk (jl (jk ?_))))
    refine jV none (.free 0 (.free 1 (.free 2 (.hoist 3 (.free 4 (.free 5 (.free 6 (.free 7 (.hoist 8 (.free 9 .done)))))))))) _ Y (by decide +kernel) (fun w k hh => hh.draw k) (fun w hh => hh) ?_
    refine kb Y Y Y (kb Y Y Y ?_)
    obtain ⟨t45, h20, hm⟩ := bindO hm
    refine ji Y Y Y Y (fun w _ => jY h20 (runUnderlying26 w) (sizeOf3 w) Y Y hna2 hqa2) (jA Y Y Y Y (fun w hh => jW RI 0 h20 (isAgg3 w) Y (hh.seg 2 Y) Y (Nat.add_zero _).symm) (kb Y Y Y (kb Y Y Y ?_)))
    obtain ⟨t49, h21, hm⟩ := bindO hm
    refine ji Y Y Y Y (fun _ _ => qp h21 Y Y) ?_
    obtain ⟨t50, h22, hm⟩ := bindO hm
    refine ji Y Y Y Y (fun w _ => jY h22 (runUnderlying26 w) (sizeOf3 w) Y Y hna2 hqa2) (jA Y Y Y Y (fun w hh => jW RI 0 h22 (isAgg3 w) Y (hh.seg 2 Y) Y (Nat.add_zero _).symm) (ji Y Y Y Y (fun _ _ => ZC Y Y) (jI (ja ?_))))
    refine jq Y (fun h23 => ?_) (fun h23 => ?_)
    ·replace hm := ifD h23 hm
     refine jp (jm Y Y (jm Y Y (jo (jw (jz (jf (jf ?_)))))))
     refine jz ?_
     obtain rfl := sj hm
     have hbo := h18 _ Y
     subst hbo
     refine jf ?_
     replace hm := ocR h17
     refine jf ?_
     obtain rfl := sj hm
     refine jn Y (fun w hh => (.tmp Y (.tmp Y .nil))) (fun w hh => ⟨(), rfl, trivial, hh.se [] [] 3 Y Y Y rfl⟩)
    replace hm := ifE h23 hm
    refine jt (js (ja (jh (je Y Y ?_))))
    obtain ⟨t42, h24, hm⟩ := bindO hm
    refine kS h24 Y Y Y (jm Y Y (jv ?_))
    obtain rfl := sj hm
    refine ja ?_
    exact jy _ () Y (trivial) (sE Y) (fun w hh => hh)
   replace hm := ifE h19 hm
   refine jO (jj (jj (jC ?_)))
   obtain rfl := sj hm
   have hbo := h18 _ Y
   subst hbo
   exact jg () (Y) (sE Y) (fun w hh => hh)
  intro j_1 hj
  have h25 := hj
  subst h25
  replace hm := ocL h17
  refine ja (jk (jp (je Y Y (jc Y Y Y (fun w _ => jB hna2 (runUnderlying26 w) Y) (jc Y Y Y (fun _ _ => Kc Y Y) (jo ?_))))))
  refine jq Y (fun h26 => ?_) (fun h26 => ?_)
  ·replace hm := ifD h26 hm
   refine jp (jm Y Y (jm Y Y (jo (jw (jf ?_)))))
   obtain rfl := sj hm
   refine jn Y (fun w hh => (.tmp Y (.tmp Y .nil))) (fun w hh => ⟨(), rfl, trivial, hh.se [] [] 3 Y Y Y rfl⟩)
  replace hm := ifE h26 hm
  refine jt (ja (jp (jm Y Y (jm Y Y (jo (jk (jp ?_)))))))
  refine jm Y Y (jo ?_)
  obtain ⟨o_3, h27, h28⟩ := bindO hm
  refine jD (ι := Unit) (fun l_4 => True) (fun l_4 => [(1, .bool tenants1), (2, .slice qa2 na2 ca2), (3, ptr b 0), (8, .int .i64 o), (11, .int .i64 o_3), (12, .int .i64 0)]) (fun l_4 => [kc b #[.slice qa0 na0 ca0, .slice qa1 na1 ca1] 38]) (fun l_4 => []) ?_ ?_
  ·replace hm := h27
   refine jl ?_
   refine jF (ι := Unit) hm (fun s_2 l_5 => True) (fun s_2 l_5 => [(1, .bool tenants1), (2, .slice qa2 na2 ca2), (3, ptr b 0), (8, .int .i64 o), (11, .int .i64 s_2.need11), (12, .int .i64 0), (13, .int .i64 s_2.i13)]) (fun s_2 l_5 => [kc b #[.slice qa0 na0 ca0, .slice qa1 na1 ca1] 38]) (fun s_2 l_5 => []) () (trivial) (sE Y) (fun w hh => hh) (fun s_2 l_5 r_2 hpl hm h29 => ?_)
   unfold zm at hm
   refine jk (jp (je Y Y (je Y Y (jc Y Y Y (fun w _ => jB hna2 (runUnderlying26 w) Y) (q8 Y Y Y (jo ?_))))))
   refine jq Y (fun h30 => ?_) (fun h30 => ?_)
   ·replace hm := ifD h30 hm
    refine jt (ja (jk ?_))
    obtain ⟨o_4, h31, h32⟩ := bindO hm
    refine jD (ι := Unit) (fun l_6 => True) (fun l_6 => [(1, .bool tenants1), (2, .slice qa2 na2 ca2), (3, ptr b 0), (8, .int .i64 o), (11, .int .i64 o_4), (12, .int .i64 0), (13, .int .i64 s_2.i13)]) (fun l_6 => [kc b #[.slice qa0 na0 ca0, .slice qa1 na1 ca1] 38]) (fun l_6 => []) ?_ ?_
    ·replace hm := h31
     refine jl (jp (je Y Y (jo ?_)))
     refine jq Y (fun h33 => ?_) (fun h33 => ?_)
     ·replace hm := ifT (h33) hm
      refine jV none (.free 0 (.free 1 (.hoist 2 (.free 3 (.free 4 (.free 5 (.hoist 6 (.free 7 (.free 8 (.hoist 9 (.free 10 (.free 11 .done)))))))))))) _ Y (by decide +kernel) (fun w k hh => hh.draw k) (fun w hh => hh) ?_
      refine kb Y Y Y (kF 1 runUnderlying38 sizeOf23 Y Y Y Y (qs 0 isAgg23 Y Y Y Y Y (kb Y Y Y (kb Y Y Y ?_))))
      obtain ⟨t68, h34, hm⟩ := bindO hm
      refine ji Y Y Y Y (fun w _ => jY h34 (runUnderlying26 w) (sizeOf3 w) Y Y hna2 hqa2) (jA Y Y Y Y (fun w hh => jW RI 0 h34 (isAgg3 w) Y (hh.seg 2 Y) Y (Nat.add_zero _).symm) ?_)
      obtain ⟨t70, h35, hm⟩ := bindO hm
      refine ji Y Y Y Y (fun w _ => jY h35 (runUnderlying23 w) (sizeOf32 w) Y Y hna1 hqa1) (kF 0 runUnderlying32 sizeOf3 Y Y Y Y (jA Y Y Y Y (fun w hh => jW RSp 0 h35 (isAgg3 w) Y (hh.seg 1 Y) Y Y) ?_))
      obtain ⟨t73, h36, hm⟩ := bindO hm
      refine ji Y Y Y Y (fun _ _ => zD h36 Y Y) (ji Y Y Y Y (fun _ _ => jQ Y) (jI (js ?_)))
      obtain rfl := sj hm
      exact jg () (trivial) (sE Y) (fun w hh => hh)
     replace hm := ifN h33 hm
     refine jV none (.free 0 (.hoist 1 (.free 2 (.free 3 (.free 4 (.hoist 5 (.one 6 (.free 7 (.free 8 (.free 9 .done)))))))))) _ Y (by decide +kernel) (fun w k hh => hh.draw k) (fun w hh => hh) ?_
     refine kb Y Y Y (jA Y Y Y Y (fun w hh => kn (vs := [_, _]) (isAgg38 w) (sizeOf38 w) Y (hh.cells 0 Y Y)) (kb Y Y Y (kb Y Y Y ?_)))
     obtain ⟨t78, h37, hm⟩ := bindO hm
     refine ji Y Y Y Y (fun w _ => jY h37 (runUnderlying26 w) (sizeOf3 w) Y Y hna2 hqa2) (jA Y Y Y Y (fun w hh => jW RI 0 h37 (isAgg3 w) Y (hh.seg 2 Y) Y (Nat.add_zero _).symm) (jJ Y ?_))
     obtain ⟨t80, h38, hm⟩ := bindO hm
     refine jd [] [] Y Y Y Y Y Y Y call35 (fun w hh => YE s0 t78 qa0 na0 ca0 qa1 na1 ca1 w (HV.callee (S0 := []) (vs0 := []) hh (roR hh 0 Y (roR hh 1 Y roN))) hna0 hqa0 hla0 hna1 hqa1 hla1 h38) (fun l_7 h39 => ?_)
     refine jr (fun w hh => hh) (ji Y Y Y Y (fun w _ => YL 3 0 (runUnderlying32 w) Y (isAgg3 w) Y Y) ?_)
     obtain ⟨t82, h40, hm⟩ := bindO hm
     refine ji Y Y Y Y (fun _ _ => zD h40 Y Y) (ji Y Y Y Y (fun _ _ => jQ Y) (jI (js ?_)))
     obtain rfl := sj hm
     exact jg () (trivial) (sE Y) (fun w hh => hh)
    intro l_6 hj
    replace hm := h32
    refine ja (jh (je Y Y ?_))
    obtain ⟨t61, h41, hm⟩ := bindO hm
    refine kS h41 Y Y Y (jm Y Y (jv ?_))
    obtain rfl := sj hm
    refine ja ?_
    exact jy _ () Y (trivial) (sE Y) (fun w hh => hh)
   replace hm := ifE h30 hm
   refine jO (jj (jj (jC ?_)))
   obtain rfl := sj hm
   have hbo := h29 _ Y
   subst hbo
   exact jg () (trivial) (sE Y) (fun w hh => hh)
  intro l_4 hj
  replace hm := h28
  refine ja (jk (jp (jm Y Y (jo ?_))))
  obtain ⟨o_5, h42, h43⟩ := bindO hm
  refine jD (ι := Unit) (fun l_8 => True) (fun l_8 => [(11, .int .i64 o_3), (12, .int .i64 o_5)]) (fun l_8 => [kc b #[.slice qa0 na0 ca0, .slice qa1 na1 ca1] 38]) (fun l_8 => []) ?_ ?_
  ·replace hm := h42
   refine jl ?_
   refine jF (ι := Unit) hm (fun s_3 l_9 => True) (fun s_3 l_9 => [(1, .bool tenants1), (2, .slice qa2 na2 ca2), (3, ptr b 0), (8, .int .i64 o), (11, .int .i64 o_3), (12, .int .i64 s_3.can12), (14, .int .i64 s_3.n14)]) (fun s_3 l_9 => [kc b #[.slice qa0 na0 ca0, .slice qa1 na1 ca1] 38]) (fun s_3 l_9 => []) () (trivial) (sE Y) (fun w hh => hh) (fun s_3 l_9 r_3 hpl hm h44 => ?_)
   unfold zl at hm
   refine jk (jp (je Y Y (jM 0 runUnderlying38 Y sizeOf36 Y Y (jS 0 isAgg36 Y Y Y Y (jc Y Y Y (fun w _ => jB hna0 (runUnderlying36 w) Y) (jM 1 runUnderlying38 Y sizeOf23 Y Y (jS 0 isAgg23 Y Y Y Y ?_)))))))
   refine jc Y Y Y (fun w _ => jB hna1 (runUnderlying23 w) Y) ?_
   obtain ⟨t90, h45, hm⟩ := bindO hm
   refine kS h45 Y Y Y (je Y Y ?_)
   obtain ⟨t92, h46, hm⟩ := bindO hm
   refine jc Y Y Y (fun _ _ => qp h46 Y Y) (q8 Y Y Y (jo ?_))
   refine jq Y (fun h47 => ?_) (fun h47 => ?_)
   ·replace hm := ifD h47 hm
    refine jt (ja (jk ?_))
    obtain ⟨o_6, h48, h49⟩ := bindO hm
    refine jD (ι := Unit) (fun l_10 => True) (fun l_10 => [(1, .bool tenants1), (2, .slice qa2 na2 ca2), (3, ptr b 0), (8, .int .i64 o), (11, .int .i64 o_3), (12, .int .i64 o_6), (14, .int .i64 s_3.n14)]) (fun l_10 => [kc b #[.slice qa0 na0 ca0, .slice qa1 na1 ca1] 38]) (fun l_10 => []) ?_ ?_
    ·replace hm := h48
     refine jl (jp (jm Y Y (jo (jk (jp (jm Y Y (jo ?_)))))))
     obtain ⟨o_7, h50, h51⟩ := bindO hm
     refine jD (ι := Unit) (fun l_11 => True) (fun l_11 => [(1, .bool tenants1), (2, .slice qa2 na2 ca2), (3, ptr b 0), (8, .int .i64 o), (11, .int .i64 o_3), (12, .int .i64 s_3.can12), (14, .int .i64 s_3.n14), (15, .bool o_7)]) (fun l_11 => [kc b #[.slice qa0 na0 ca0, .slice qa1 na1 ca1] 38]) (fun l_11 => []) ?_ ?_
     ·replace hm := h50
      refine jl ?_
      refine jF (ι := Unit) hm (fun s_4 l_12 => True) (fun s_4 l_12 => [(1, .bool tenants1), (2, .slice qa2 na2 ca2), (3, ptr b 0), (8, .int .i64 o), (11, .int .i64 o_3), (12, .int .i64 s_3.can12), (14, .int .i64 s_3.n14), (15, .bool s_4.any15), (16, .int .i64 s_4.i16)]) (fun s_4 l_12 => [kc b #[.slice qa0 na0 ca0, .slice qa1 na1 ca1] 38]) (fun s_4 l_12 => []) () (trivial) (sE Y) (fun w hh => hh) (fun s_4 l_12 r_4 hpl hm h52 => ?_)
      unfold zn at hm
      refine jk (jp (je Y Y (je Y Y (jc Y Y Y (fun w _ => jB hna2 (runUnderlying26 w) Y) (q8 Y Y Y (jo ?_))))))
      refine jq Y (fun h53 => ?_) (fun h53 => ?_)
      ·replace hm := ifD h53 hm
       refine jt (ja (jk ?_))
       obtain ⟨o_8, h54, h55⟩ := bindO hm
       refine jD (ι := Unit) (fun l_13 => True) (fun l_13 => [(1, .bool tenants1), (2, .slice qa2 na2 ca2), (3, ptr b 0), (8, .int .i64 o), (11, .int .i64 o_3), (12, .int .i64 s_3.can12), (14, .int .i64 s_3.n14), (15, .bool o_8), (16, .int .i64 s_4.i16)]) (fun l_13 => [kc b #[.slice qa0 na0 ca0, .slice qa1 na1 ca1] 38]) (fun l_13 => []) ?_ ?_
       ·replace hm := h54
        refine jl ?_
        refine jV none (.free 0 (.free 1 (.free 2 (.free 3 (.hoist 4 (.free 5 (.free 6 (.free 7 (.hoist 8 (.free 9 (.one 10 (.free 11 (.free 12 (.free 13 (.free 14 (.free 15 (.free 16 (.hoist 17 (.free 18 (.free 19 (.free 20 (.free 21 (.hoist 22 (.one 23 (.free 24 (.free 25 (.free 26 .done))))))))))))))))))))))))))) _ Y (by decide +kernel) (fun w k hh => hh.draw k) (fun w hh => hh) ?_
        refine kb Y Y Y (kb Y Y Y ?_)
        refine jH 103 Y (fun h56 => ?_) (fun h56 => ?_)
        ·replace hm := ifT (h56) hm
         refine jL Y Y Y Y Y Y Y (jL Y Y Y Y Y Y Y (QG Y Y Y Y Y Y (q5 Y Y Y Y Y Y (q5 Y Y Y Y Y Y (q5 Y Y Y Y Y Y (QG Y Y Y Y Y Y (q5 Y Y Y Y Y Y ?_)))))))
         refine jJ Y ?_
         refine jx Y Y Y Y Y ?_
         refine jr (fun w hh => hh) (jL Y Y Y Y Y Y Y (ji Y Y Y Y (fun _ _ => yT Y Y) (kb Y Y Y (jL Y Y Y Y Y Y Y (jL Y Y Y Y Y Y Y (jL Y Y Y Y Y Y Y (QG Y Y Y Y Y Y ?_)))))))
         refine q5 Y Y Y Y Y Y (q5 Y Y Y Y Y Y (q5 Y Y Y Y Y Y (q5 Y Y Y Y Y Y (QG Y Y Y Y Y Y (jJ Y ?_)))))
         refine jx Y Y Y Y Y ?_
         refine jr (fun w hh => hh) (jL Y Y Y Y Y Y Y (ji Y Y Y Y (fun _ _ => yT Y Y) (ji Y Y Y Y (fun _ _ => jQ Y) (jI (js ?_)))))
         obtain rfl := sj hm
         exact jg () (trivial) (sE Y) (fun w hh => hh)
        replace hm := ifN h56 hm
        refine jP Y Y Y Y Y Y (fun _ _ => k7 Y) (jP Y Y Y Y Y Y (fun _ _ => k7 Y) ?_)
        refine jH 105 Y (fun h57 => ?_) (fun h57 => ?_)
        ·replace hm := ifT (h57) hm
         refine yn Y Y Y Y Y Y (fun w hh => kn (vs := [_, _]) (isAgg38 w) (sizeOf38 w) Y (hh.cells 0 Y Y)) (jP Y Y Y Y Y Y (fun _ _ => k7 Y) (jP Y Y Y Y Y Y (fun _ _ => k7 Y) ?_))
         obtain ⟨t109, h58, hm⟩ := bindO hm
         refine jP Y Y Y Y Y Y (fun w _ => jY h58 (runUnderlying26 w) (sizeOf3 w) Y Y hna2 hqa2) (yn Y Y Y Y Y Y (fun w hh => jW RI 0 h58 (isAgg3 w) Y (hh.seg 2 Y) Y (Nat.add_zero _).symm) (jP Y Y Y Y Y Y (fun _ _ => k7 Y) (jJ Y (jb Y Y ?_))))
         obtain ⟨t112, h59, hm⟩ := bindO hm
         refine jd [] [] Y Y Y Y Y Y Y call34 (fun w hh => Kf s0 t109 s_3.n14 qa0 na0 ca0 qa1 na1 ca1 w (HV.callee (S0 := []) (vs0 := []) hh (roR hh 0 Y (roR hh 1 Y roN))) hna0 hqa0 hla0 hna1 hqa1 hla1 h59) (fun l_14 h60 => ?_)
         refine jr (fun w hh => hh) (jP Y Y Y Y Y Y (fun _ _ => yT Y Y) (ji Y Y Y Y (fun _ _ => yW Y Y) (kb Y Y Y ?_)))
         refine jH 115 Y (fun h61 => ?_) (fun h61 => ?_)
         ·replace hm := ifT (h61) hm
          refine jL Y Y Y Y Y Y Y (jL Y Y Y Y Y Y Y (jL Y Y Y Y Y Y Y (QG Y Y Y Y Y Y (q5 Y Y Y Y Y Y (q5 Y Y Y Y Y Y (q5 Y Y Y Y Y Y (q5 Y Y Y Y Y Y ?_)))))))
          refine QG Y Y Y Y Y Y (jJ Y ?_)
          refine jx Y Y Y Y Y ?_
          refine jr (fun w hh => hh) (jL Y Y Y Y Y Y Y (ji Y Y Y Y (fun _ _ => yT Y Y) (ji Y Y Y Y (fun _ _ => jQ Y) (jI (js ?_)))))
          obtain rfl := sj hm
          exact jg () (trivial) (sE Y) (fun w hh => hh)
         replace hm := ifN h61 hm
         refine jP Y Y Y Y Y Y (fun _ _ => k7 Y) (jP Y Y Y Y Y Y (fun _ _ => kV Y) (jP Y Y Y Y Y Y (fun _ _ => k7 Y) ?_))
         refine jH 118 Y (fun h62 => ?_) (fun h62 => ?_)
         ·replace hm := ifT (h62) hm
          refine yn Y Y Y Y Y Y (fun w hh => kn (vs := [_, _]) (isAgg38 w) (sizeOf38 w) Y (hh.cells 0 Y Y)) (jP Y Y Y Y Y Y (fun _ _ => k7 Y) (jP Y Y Y Y Y Y (fun _ _ => k7 Y) (jP Y Y Y Y Y Y (fun _ _ => k7 Y) ?_)))
          obtain ⟨t123, h63, hm⟩ := bindO hm
          refine jP Y Y Y Y Y Y (fun w _ => jY h63 (runUnderlying26 w) (sizeOf3 w) Y Y hna2 hqa2) (yn Y Y Y Y Y Y (fun w hh => jW RI 0 h63 (isAgg3 w) Y (hh.seg 2 Y) Y (Nat.add_zero _).symm) (jJ Y (jb Y Y ?_)))
          obtain ⟨t125, h64, hm⟩ := bindO hm
          refine jd [] [] Y Y Y Y Y Y Y call34 (fun w hh => Kf s0 s_3.n14 t123 qa0 na0 ca0 qa1 na1 ca1 w (HV.callee (S0 := []) (vs0 := []) hh (roR hh 0 Y (roR hh 1 Y roN))) hna0 hqa0 hla0 hna1 hqa1 hla1 h64) (fun l_15 h65 => ?_)
          refine jr (fun w hh => hh) (jP Y Y Y Y Y Y (fun _ _ => yT Y Y) (ji Y Y Y Y (fun _ _ => yW Y Y) (ji Y Y Y Y (fun _ _ => jQ Y) (jI (js ?_)))))
          obtain rfl := sj hm
          exact jg () (trivial) (sE Y) (fun w hh => hh)
         replace hm := ifN h62 hm
         refine zY Y Y Y Y Y Y Y (jL Y Y Y Y Y Y Y (jL Y Y Y Y Y Y Y (jL Y Y Y Y Y Y Y (jL Y Y Y Y Y Y Y (zY Y Y Y Y Y Y Y (jJ Y (g_k Y Y Y Y ?_)))))))
         refine jr (fun w hh => hh) (jP Y Y Y Y Y Y (fun _ _ => yW Y Y) (ji Y Y Y Y (fun _ _ => yW Y Y) (ji Y Y Y Y (fun _ _ => jQ Y) (jI (js ?_)))))
         obtain rfl := sj hm
         exact jg () (trivial) (sE Y) (fun w hh => hh)
        replace hm := ifN h57 hm
        refine zY Y Y Y Y Y Y Y (jL Y Y Y Y Y Y Y (jL Y Y Y Y Y Y Y (jL Y Y Y Y Y Y Y (zY Y Y Y Y Y Y Y (jL Y Y Y Y Y Y Y (jJ Y (g_k Y Y Y Y ?_)))))))
        refine jr (fun w hh => hh) (jP Y Y Y Y Y Y (fun _ _ => yW Y Y) (ji Y Y Y Y (fun _ _ => yW Y Y) (kb Y Y Y (jP Y Y Y Y Y Y (fun _ _ => k7 Y) (jP Y Y Y Y Y Y (fun _ _ => kV Y) (jP Y Y Y Y Y Y (fun _ _ => k7 Y) ?_))))))
        refine jH 118 Y (fun h66 => ?_) (fun h66 => ?_)
        ·replace hm := ifT (h66) hm
         refine yn Y Y Y Y Y Y (fun w hh => kn (vs := [_, _]) (isAgg38 w) (sizeOf38 w) Y (hh.cells 0 Y Y)) (jP Y Y Y Y Y Y (fun _ _ => k7 Y) (jP Y Y Y Y Y Y (fun _ _ => k7 Y) (jP Y Y Y Y Y Y (fun _ _ => k7 Y) ?_)))
         obtain ⟨t123_1, h67, hm⟩ := bindO hm
         refine jP Y Y Y Y Y Y (fun w _ => jY h67 (runUnderlying26 w) (sizeOf3 w) Y Y hna2 hqa2) (yn Y Y Y Y Y Y (fun w hh => jW RI 0 h67 (isAgg3 w) Y (hh.seg 2 Y) Y (Nat.add_zero _).symm) (jJ Y (jb Y Y ?_)))
         obtain ⟨t125_1, h68, hm⟩ := bindO hm
         refine jd [] [] Y Y Y Y Y Y Y call34 (fun w hh => Kf s0 s_3.n14 t123_1 qa0 na0 ca0 qa1 na1 ca1 w (HV.callee (S0 := []) (vs0 := []) hh (roR hh 0 Y (roR hh 1 Y roN))) hna0 hqa0 hla0 hna1 hqa1 hla1 h68) (fun l_16 h69 => ?_)
         refine jr (fun w hh => hh) (jP Y Y Y Y Y Y (fun _ _ => yT Y Y) (ji Y Y Y Y (fun _ _ => yW Y Y) (ji Y Y Y Y (fun _ _ => jQ Y) (jI (js ?_)))))
         obtain rfl := sj hm
         exact jg () (trivial) (sE Y) (fun w hh => hh)
        replace hm := ifN h66 hm
        refine zY Y Y Y Y Y Y Y (jL Y Y Y Y Y Y Y (jL Y Y Y Y Y Y Y (jL Y Y Y Y Y Y Y (jL Y Y Y Y Y Y Y (zY Y Y Y Y Y Y Y (jJ Y (g_k Y Y Y Y ?_)))))))
        refine jr (fun w hh => hh) (jP Y Y Y Y Y Y (fun _ _ => yW Y Y) (ji Y Y Y Y (fun _ _ => yW Y Y) (ji Y Y Y Y (fun _ _ => jQ Y) (jI (js ?_)))))
        obtain rfl := sj hm
        exact jg () (trivial) (sE Y) (fun w hh => hh)
       intro l_13 hj
       replace hm := h55
       refine ja (jh (je Y Y ?_))
       obtain ⟨t101, h70, hm⟩ := bindO hm
       refine kS h70 Y Y Y (jm Y Y (jv ?_))
       obtain rfl := sj hm
       refine ja ?_
       exact jy _ () Y (trivial) (sE Y) (fun w hh => hh)
      replace hm := ifE h53 hm
      refine jO (jj (jj (jC ?_)))
      obtain rfl := sj hm
      have hbo := h52 _ Y
      subst hbo
      exact jg () (trivial) (sE Y) (fun w hh => hh)
     intro l_11 hj
     replace hm := h51
     refine ja (jk ?_)
     obtain ⟨o_9, h71, h72⟩ := bindO hm
     refine jD (ι := Unit) (fun l_17 => True) (fun l_17 => [(1, .bool tenants1), (2, .slice qa2 na2 ca2), (3, ptr b 0), (8, .int .i64 o), (11, .int .i64 o_3), (12, .int .i64 o_9), (14, .int .i64 s_3.n14), (15, .bool o_7)]) (fun l_17 => [kc b #[.slice qa0 na0 ca0, .slice qa1 na1 ca1] 38]) (fun l_17 => []) ?_ ?_
     ·replace hm := h71
      refine jk ?_
      obtain ⟨o_10, h73, h74⟩ := bindO hm
      refine jD (ι := Unit) (fun l_18 => True) (fun l_18 => [(1, .bool tenants1), (2, .slice qa2 na2 ca2), (3, ptr b 0), (8, .int .i64 o), (11, .int .i64 o_3), (12, .int .i64 s_3.can12), (14, .int .i64 s_3.n14), (15, .bool o_7), (131, .bool o_10)]) (fun l_18 => [kc b #[.slice qa0 na0 ca0, .slice qa1 na1 ca1] 38]) (fun l_18 => []) ?_ ?_
      ·replace hm := h73
       refine jh (je Y Y (je Y Y ?_))
       refine jH 129 Y (fun h75 => ?_) (fun h75 => ?_)
       ·replace hm := ifT (h75) hm
        refine jb Y Y (je Y Y (j8 Y Y Y (jv ?_)))
        obtain rfl := sj hm
        exact jg () (trivial) (sE Y) (fun w hh => hh)
       replace hm := ifN h75 hm
       refine g_k Y Y Y Y (ky Y Y Y (jv ?_))
       obtain rfl := sj hm
       exact jg () (trivial) (sE Y) (fun w hh => hh)
      intro l_18 hj
      replace hm := h74
      refine ja ?_
      refine jq Y (fun h76 => ?_) (fun h76 => ?_)
      ·replace hm := ifT (h76) hm
       refine jh (je Y Y (qh [_, _] 0 isAgg38 sizeOf38 Y Y Y Y (je Y Y ?_)))
       obtain ⟨t135, h77, hm⟩ := bindO hm
       refine jd [] [] Y Y Y Y Y Y Y call35 (fun w hh => YE s0 s_3.n14 qa0 na0 ca0 qa1 na1 ca1 w (HV.callee (S0 := []) (vs0 := []) hh (roR hh 0 Y (roR hh 1 Y roN))) hna0 hqa0 hla0 hna1 hqa1 hla1 h77) (fun l_19 h78 => ?_)
       refine jc Y Y Y (fun w _ => YL 3 1 (runUnderlying32 w) Y (isAgg3 w) Y Y) ?_
       obtain ⟨t137, h79, hm⟩ := bindO hm
       refine kS h79 Y Y Y (jm Y Y (jv ?_))
       obtain rfl := sj hm
       exact jg () (trivial) (sE Y) (fun w hh => hh)
      replace hm := ifN h76 hm
      refine jt ?_
      obtain rfl := sj hm
      exact jg () (trivial) (sE Y) (fun w hh => hh)
     intro l_17 hj
     replace hm := h72
     refine ja (jk ?_)
     obtain ⟨o_11, h80, h81⟩ := bindO hm
     refine jD (ι := Unit) (fun l_20 => True) (fun l_20 => [(1, .bool tenants1), (2, .slice qa2 na2 ca2), (3, ptr b 0), (8, .int .i64 o), (11, .int .i64 o_3), (12, .int .i64 o_9), (14, .int .i64 s_3.n14), (142, .bool o_11)]) (fun l_20 => [kc b #[.slice qa0 na0 ca0, .slice qa1 na1 ca1] 38]) (fun l_20 => []) ?_ ?_
     ·replace hm := h80
      refine jh (je Y Y (je Y Y ?_))
      refine jH 139 Y (fun h82 => ?_) (fun h82 => ?_)
      ·replace hm := ifT (h82) hm
       refine jb Y Y (je Y Y (jb Y Y (jc Y Y Y (fun _ _ => kV Y) (j8 Y Y Y (jv ?_)))))
       obtain rfl := sj hm
       exact jg () (trivial) (sE Y) (fun w hh => hh)
      replace hm := ifN h82 hm
      refine g_k Y Y Y Y (g_k Y Y Y Y (ky Y Y Y (jv ?_)))
      obtain rfl := sj hm
      exact jg () (trivial) (sE Y) (fun w hh => hh)
     intro l_20 hj
     replace hm := h81
     refine ja ?_
     refine jq Y (fun h83 => ?_) (fun h83 => ?_)
     ·replace hm := ifT (h83) hm
      refine jh (je Y Y (jM 1 runUnderlying38 Y sizeOf23 Y Y (jS 0 isAgg23 Y Y Y Y (je Y Y ?_))))
      obtain ⟨t147, h84, hm⟩ := bindO hm
      refine jc Y Y Y (fun w _ => jY h84 (runUnderlying23 w) (sizeOf32 w) Y Y hna1 hqa1) (jM 1 runUnderlying32 Y sizeOf3 Y Y (jc Y Y Y (fun w hh => jW RSp 1 h84 (isAgg3 w) Y (hh.seg 1 Y) Y Y) ?_))
      obtain ⟨t150, h85, hm⟩ := bindO hm
      refine kS h85 Y Y Y (jm Y Y (jv (js ?_)))
      obtain rfl := sj hm
      exact jg () (trivial) (sE Y) (fun w hh => hh)
     replace hm := ifN h83 hm
     refine jt (js ?_)
     obtain rfl := sj hm
     exact jg () (trivial) (sE Y) (fun w hh => hh)
    intro l_10 hj
    replace hm := h49
    refine ja (jh (je Y Y ?_))
    obtain ⟨t95, h86, hm⟩ := bindO hm
    refine kS h86 Y Y Y (jm Y Y (jv ?_))
    obtain rfl := sj hm
    refine ja ?_
    exact jy _ () Y (trivial) (sE Y) (fun w hh => hh)
   replace hm := ifE h47 hm
   refine jO (jj (jj (jC ?_)))
   obtain rfl := sj hm
   have hbo := h44 _ Y
   subst hbo
   exact jg () (trivial) (sE Y) (fun w hh => hh)
  intro l_8 hj
  replace hm := h43
  refine ja (jk (jp (je Y Y (je Y Y (jc Y Y Y (fun _ _ => ZC Y Y) (jo ?_))))))
  refine jq Y (fun h87 => ?_) (fun h87 => ?_)
  ·replace hm := ifD h87 hm
   refine jp (jm Y Y (jm Y Y (jo (jw (jf ?_)))))
   obtain rfl := sj hm
   refine jn Y (fun w hh => (.tmp Y (.tmp Y .nil))) (fun w hh => ⟨(), rfl, trivial, hh.se [] [] 3 Y Y Y rfl⟩)
  replace hm := ifE h87 hm
  refine jt (ja (jp (je Y Y (je Y Y ?_))))
  obtain ⟨t156, h88, hm⟩ := bindO hm
  refine jc Y Y Y (fun _ _ => qp h88 Y Y) (jm Y Y (jm Y Y (jo (jw ?_))))
  obtain rfl := sj hm
  refine jn Y (fun w hh => (.tmp Y (.tmp Y .nil))) (fun w hh => ⟨(), rfl, trivial, hh.se [] [] 3 Y Y Y rfl⟩)
def ya (s10 : (List Strip)) (s21 : (List Strip)) (s : Int) : Option (Int ⊕ (Unit ⊕ Bool)) :=
 if s < (s10.length : Int) then
 ((ix s10 s).bind fun t18 =>
 (ix s21 s).bind fun t22 =>
 if (⟨t18.tenant, (⟨t18.lay.lo, t18.lay.hi⟩ : Span), (⟨t18.seeded.lo, t18.seeded.hi⟩ : Span), (⟨t18.left.lo, t18.left.hi⟩ : Span)⟩ : Strip) = (⟨t22.tenant, (⟨t22.lay.lo, t22.lay.hi⟩ : Span), (⟨t22.seeded.lo, t22.seeded.hi⟩ : Span), (⟨t22.left.lo, t22.left.hi⟩ : Span)⟩ : Strip) then
 ((addc s 1).bind fun t25 =>
 some (.inl t25)) else
 (some (.inr (.inr false)))) else
 (some (.inr (.inl ())))
def J0 (s10 : (List Strip)) (s21 : (List Strip)) : Option Bool :=
 if (s10.length : Int) = (s21.length : Int) then
 ((iterM FU (ya s10 s21) 0).bind fun o =>
 oc o (fun j => some true) (fun r_1 => some r_1)) else
 (some false)
theorem Zr (s10 : (List Strip)) (s21 : (List Strip)) (qa0 : Option Addr) (na0 ca0 : Nat) (qa1 : Option Addr) (na1 ca1 : Nat) (w : World) (hw : HV w (keys [] []) [] [] [(aB qa0, aO qa0, RSt.enc s10), (aB qa1, aO qa1, RSt.enc s21)] w) (hna0 : s10.length = na0) (hqa0 : AOK na0 qa0) (hla0 : na0 ≤ ca0) (hna1 : s21.length = na1) (hqa1 : AOK na1 qa1) (hla1 : na1 ≤ ca1) {res : Bool} (hm : J0 s10 s21 = some res) :
    Calls Tryz.prog 117 #[.slice qa0 na0 ca0, .slice qa1 na1 ca1] w (fun en w' => ∃ l : Unit, en = .returned (.bool res) ∧ (True) ∧ HV w (keys [] []) [] [] [] w') := by
  unfold J0 at hm
  refine kj func117 Y ntmps117 Y (e := [(0, _), (1, _)]) Y hw (jp (jm Y Y (jo (jk (jp (je Y Y (jc Y Y Y (fun w _ => jB hna0 (runUnderlying22 w) Y) ?_)))))))
  refine je Y Y (jc Y Y Y (fun w _ => jB hna1 (runUnderlying22 w) Y) (jc Y Y Y (fun _ _ => k5 Y Y) (jo ?_)))
  refine jq Y (fun h1 => ?_) (fun h1 => ?_)
  ·replace hm := ifF (of_ndec_true h1) hm
   refine jp (jm Y Y (jo (jw (jf ?_))))
   obtain rfl := sj hm
   refine jn Y (fun w hh => (.tmp Y .nil)) (fun w hh => ⟨(), rfl, trivial, hh.se [] [] 2 Y Y Y rfl⟩)
  replace hm := ifT (of_ndec_false h1) hm
  refine jt (ja (jk (jp (je Y Y (jc Y Y Y (fun w _ => jB hna0 (runUnderlying22 w) Y) (je Y Y (jo ?_)))))))
  obtain ⟨o, h2, h3⟩ := bindO hm
  refine jD (ι := Unit) (fun j => o = .inl j) (fun j => []) (fun j => []) (fun j => []) ?_ ?_
  ·replace hm := h2
   refine jl ?_
   refine jF (ι := Unit) hm (fun s l => True) (fun s l => [(0, .slice qa0 na0 ca0), (1, .slice qa1 na1 ca1), (12, .int .i64 (s10.length : Int)), (13, .int .i64 s)]) (fun s l => []) (fun s l => []) () (trivial) (sE Y) (fun w hh => hh) (fun s l r hpl hm h4 => ?_)
   unfold ya at hm
   refine jp (q8 Y Y Y (jo (jk ?_)))
   refine jq Y (fun h5 => ?_) (fun h5 => ?_)
   ·replace hm := ifD h5 hm
    refine jt (ja (jk (jl (jp (je Y Y (jm Y Y (jo ?_)))))))
    refine jk ?_
    refine jV none (.free 0 (.free 1 (.free 2 (.hoist 3 (.free 4 (.free 5 (.free 6 (.hoist 7 (.free 8 .done))))))))) _ Y (by decide +kernel) (fun w k hh => hh.draw k) (fun w hh => hh) ?_
    refine kb Y Y Y (kb Y Y Y ?_)
    obtain ⟨t18, h6, hm⟩ := bindO hm
    refine ji Y Y Y Y (fun w _ => jY h6 (runUnderlying22 w) (sizeOf85 w) Y Y hna0 hqa0) ?_
    refine jA Y Y Y Y (fun w hh => kz RSt 0 [.int .i64 t18.tenant, .int .i64 t18.lay.lo, .int .i64 t18.lay.hi, .int .i64 t18.seeded.lo, .int .i64 t18.seeded.hi, .int .i64 t18.left.lo, .int .i64 t18.left.hi] h6 (isAgg85 w) (sizeOf85 w) Y (hh.seg 0 Y) Y (Nat.add_zero _).symm) ?_
    refine kb Y Y Y (kb Y Y Y ?_)
    obtain ⟨t22, h7, hm⟩ := bindO hm
    refine ji Y Y Y Y (fun w _ => jY h7 (runUnderlying22 w) (sizeOf85 w) Y Y hna1 hqa1) ?_
    refine jA Y Y Y Y (fun w hh => kz RSt 0 [.int .i64 t22.tenant, .int .i64 t22.lay.lo, .int .i64 t22.lay.hi, .int .i64 t22.seeded.lo, .int .i64 t22.seeded.hi, .int .i64 t22.left.lo, .int .i64 t22.left.hi] h7 (isAgg85 w) (sizeOf85 w) Y (hh.seg 1 Y) Y (Nat.add_zero _).symm) ?_
    refine ji Y Y Y Y (fun w _ => jak (jbJ (⟨t18.tenant, (⟨t18.lay.lo, t18.lay.hi⟩ : Span), (⟨t18.seeded.lo, t18.seeded.hi⟩ : Span), (⟨t18.left.lo, t18.left.hi⟩ : Span)⟩ : Strip) (⟨t22.tenant, (⟨t22.lay.lo, t22.lay.hi⟩ : Span), (⟨t22.seeded.lo, t22.seeded.hi⟩ : Span), (⟨t22.left.lo, t22.left.hi⟩ : Span)⟩ : Strip) w) jbs Y Y) ?_
    refine jI (ja ?_)
    refine jq Y (fun h8 => ?_) (fun h8 => ?_)
    ·replace hm := ifF (of_ndec_true h8) hm
     refine jp (jm Y Y (jo (jw (jz (jf (jf (jz ?_)))))))
     obtain rfl := sj hm
     have hbo := h4 _ Y
     subst hbo
     refine jf ?_
     replace hm := ocR h3
     refine jf ?_
     obtain rfl := sj hm
     refine jn Y (fun w hh => (.tmp Y .nil)) (fun w hh => ⟨(), rfl, trivial, hh.se [] [] 2 Y Y Y rfl⟩)
    replace hm := ifT (of_ndec_false h8) hm
    refine jt (js (ja (jh ?_)))
    obtain ⟨t25, h9, hm⟩ := bindO hm
    refine kS h9 Y Y Y (je Y Y (jv ?_))
    obtain rfl := sj hm
    refine ja ?_
    exact jy _ () Y (trivial) (sE Y) (fun w hh => hh)
   replace hm := ifE h5 hm
   refine jO (jj (jj (jC ?_)))
   obtain rfl := sj hm
   have hbo := h4 _ Y
   subst hbo
   exact jg () (Y) (.nil) (fun w hh => hh)
  intro j hj
  have h10 := hj
  subst h10
  replace hm := ocL h3
  refine ja (jp (jm Y Y (jo (jw ?_))))
  obtain rfl := sj hm
  refine jn Y (fun w hh => (.tmp Y .nil)) (fun w hh => ⟨(), rfl, trivial, hh.se [] [] 2 Y Y Y rfl⟩)
def qK (a0 : (List Strip)) (b1 : (List Strip)) : Option Bool :=
 (J0 a0 b1).bind fun t7 =>
 some t7
theorem Yf (a0 : (List Strip)) (b1 : (List Strip)) (qa0 : Option Addr) (na0 ca0 : Nat) (qa1 : Option Addr) (na1 ca1 : Nat) (w : World) (hw : HV w (keys [] []) [] [] [(aB qa0, aO qa0, RSt.enc a0), (aB qa1, aO qa1, RSt.enc b1)] w) (hna0 : a0.length = na0) (hqa0 : AOK na0 qa0) (hla0 : na0 ≤ ca0) (hna1 : b1.length = na1) (hqa1 : AOK na1 qa1) (hla1 : na1 ≤ ca1) {res : Bool} (hm : qK a0 b1 = some res) :
    Calls Tryz.prog 76 #[.slice qa0 na0 ca0, .slice qa1 na1 ca1] w (fun en w' => ∃ l : Unit, en = .returned (.bool res) ∧ (True) ∧ HV w (keys [] []) [] [] [] w') := by
  unfold qK at hm
  refine kj func76 Y ntmps76 Y (e := [(0, _), (1, _)]) Y hw (jp (jm Y Y (j3 (je Y Y (je Y Y ?_)))))
  obtain ⟨t7, h1, hm⟩ := bindO hm
  refine jd [] [] Y Y Y Y Y Y Y call117 (fun w hh => Zr a0 b1 qa0 na0 ca0 qa1 na1 ca1 w (HV.callee (S0 := []) (vs0 := []) hh (roR hh 0 Y (roR hh 1 Y roN))) hna0 hqa0 hla0 hna1 hqa1 hla1 h1) (fun l h2 => ?_)
  refine jm Y Y (jo (jw ?_))
  obtain rfl := sj hm
  refine jn Y (fun w hh => (.tmp Y .nil)) (fun w hh => ⟨(), rfl, trivial, hh.se [] [] 2 Y Y Y rfl⟩)
def q9 (s10 : (List Span)) (s21 : (List Span)) (s : Int) : Option (Int ⊕ (Unit ⊕ Bool)) :=
 if s < (s10.length : Int) then
 ((ix s10 s).bind fun t18 =>
 (ix s21 s).bind fun t22 =>
 if (⟨t18.lo, t18.hi⟩ : Span) = (⟨t22.lo, t22.hi⟩ : Span) then
 ((addc s 1).bind fun t25 =>
 some (.inl t25)) else
 (some (.inr (.inr false)))) else
 (some (.inr (.inl ())))
def JZ (s10 : (List Span)) (s21 : (List Span)) : Option Bool :=
 if (s10.length : Int) = (s21.length : Int) then
 ((iterM FU (q9 s10 s21) 0).bind fun o =>
 oc o (fun j => some true) (fun r_1 => some r_1)) else
 (some false)
theorem Zw (s10 : (List Span)) (s21 : (List Span)) (qa0 : Option Addr) (na0 ca0 : Nat) (qa1 : Option Addr) (na1 ca1 : Nat) (w : World) (hw : HV w (keys [] []) [] [] [(aB qa0, aO qa0, RSp.enc s10), (aB qa1, aO qa1, RSp.enc s21)] w) (hna0 : s10.length = na0) (hqa0 : AOK na0 qa0) (hla0 : na0 ≤ ca0) (hna1 : s21.length = na1) (hqa1 : AOK na1 qa1) (hla1 : na1 ≤ ca1) {res : Bool} (hm : JZ s10 s21 = some res) :
    Calls Tryz.prog 118 #[.slice qa0 na0 ca0, .slice qa1 na1 ca1] w (fun en w' => ∃ l : Unit, en = .returned (.bool res) ∧ (True) ∧ HV w (keys [] []) [] [] [] w') := by
  unfold JZ at hm
  refine kj func118 Y ntmps118 Y (e := [(0, _), (1, _)]) Y hw (jp (jm Y Y (jo (jk (jp (je Y Y (jc Y Y Y (fun w _ => jB hna0 (runUnderlying23 w) Y) ?_)))))))
  refine je Y Y (jc Y Y Y (fun w _ => jB hna1 (runUnderlying23 w) Y) (jc Y Y Y (fun _ _ => k5 Y Y) (jo ?_)))
  refine jq Y (fun h1 => ?_) (fun h1 => ?_)
  ·replace hm := ifF (of_ndec_true h1) hm
   refine jp (jm Y Y (jo (jw (jf ?_))))
   obtain rfl := sj hm
   refine jn Y (fun w hh => (.tmp Y .nil)) (fun w hh => ⟨(), rfl, trivial, hh.se [] [] 2 Y Y Y rfl⟩)
  replace hm := ifT (of_ndec_false h1) hm
  refine jt (ja (jk (jp (je Y Y (jc Y Y Y (fun w _ => jB hna0 (runUnderlying23 w) Y) (je Y Y (jo ?_)))))))
  obtain ⟨o, h2, h3⟩ := bindO hm
  refine jD (ι := Unit) (fun j => o = .inl j) (fun j => []) (fun j => []) (fun j => []) ?_ ?_
  ·replace hm := h2
   refine jl ?_
   refine jF (ι := Unit) hm (fun s l => True) (fun s l => [(0, .slice qa0 na0 ca0), (1, .slice qa1 na1 ca1), (12, .int .i64 (s10.length : Int)), (13, .int .i64 s)]) (fun s l => []) (fun s l => []) () (trivial) (sE Y) (fun w hh => hh) (fun s l r hpl hm h4 => ?_)
   unfold q9 at hm
   refine jp (q8 Y Y Y (jo (jk ?_)))
   refine jq Y (fun h5 => ?_) (fun h5 => ?_)
   ·replace hm := ifD h5 hm
    refine jt (ja (jk (jl (jp (je Y Y (jm Y Y (jo ?_)))))))
    refine jk ?_
    refine jV none (.free 0 (.free 1 (.free 2 (.hoist 3 (.free 4 (.free 5 (.free 6 (.hoist 7 (.free 8 .done))))))))) _ Y (by decide +kernel) (fun w k hh => hh.draw k) (fun w hh => hh) ?_
    refine kb Y Y Y (kb Y Y Y ?_)
    obtain ⟨t18, h6, hm⟩ := bindO hm
    refine ji Y Y Y Y (fun w _ => jY h6 (runUnderlying23 w) (sizeOf32 w) Y Y hna0 hqa0) ?_
    refine jA Y Y Y Y (fun w hh => kz RSp 0 [.int .i64 t18.lo, .int .i64 t18.hi] h6 (isAgg32 w) (sizeOf32 w) Y (hh.seg 0 Y) Y (Nat.add_zero _).symm) ?_
    refine kb Y Y Y (kb Y Y Y ?_)
    obtain ⟨t22, h7, hm⟩ := bindO hm
    refine ji Y Y Y Y (fun w _ => jY h7 (runUnderlying23 w) (sizeOf32 w) Y Y hna1 hqa1) ?_
    refine jA Y Y Y Y (fun w hh => kz RSp 0 [.int .i64 t22.lo, .int .i64 t22.hi] h7 (isAgg32 w) (sizeOf32 w) Y (hh.seg 1 Y) Y (Nat.add_zero _).symm) ?_
    refine ji Y Y Y Y (fun w _ => jak (jbd (⟨t18.lo, t18.hi⟩ : Span) (⟨t22.lo, t22.hi⟩ : Span) w) jaM Y Y) (jI (ja ?_))
    refine jq Y (fun h8 => ?_) (fun h8 => ?_)
    ·replace hm := ifF (of_ndec_true h8) hm
     refine jp (jm Y Y (jo (jw (jz (jf (jf (jz ?_)))))))
     obtain rfl := sj hm
     have hbo := h4 _ Y
     subst hbo
     refine jf ?_
     replace hm := ocR h3
     refine jf ?_
     obtain rfl := sj hm
     refine jn Y (fun w hh => (.tmp Y .nil)) (fun w hh => ⟨(), rfl, trivial, hh.se [] [] 2 Y Y Y rfl⟩)
    replace hm := ifT (of_ndec_false h8) hm
    refine jt (js (ja (jh ?_)))
    obtain ⟨t25, h9, hm⟩ := bindO hm
    refine kS h9 Y Y Y (je Y Y (jv ?_))
    obtain rfl := sj hm
    refine ja ?_
    exact jy _ () Y (trivial) (sE Y) (fun w hh => hh)
   replace hm := ifE h5 hm
   refine jO (jj (jj (jC ?_)))
   obtain rfl := sj hm
   have hbo := h4 _ Y
   subst hbo
   exact jg () (Y) (.nil) (fun w hh => hh)
  intro j hj
  have h10 := hj
  subst h10
  replace hm := ocL h3
  refine ja (jp (jm Y Y (jo (jw ?_))))
  obtain rfl := sj hm
  refine jn Y (fun w hh => (.tmp Y .nil)) (fun w hh => ⟨(), rfl, trivial, hh.se [] [] 2 Y Y Y rfl⟩)
end Go.Proofs.Ws

namespace Go.Proofs.Ws
set_option maxHeartbeats 4000000
set_option maxRecDepth 100000
open Go Go.Fw Go.Gx Go.Sp
open Tryz
set_option linter.unusedVariables false
def zc (a0 : (List Span)) (b1 : (List Span)) : Option Bool :=
 (JZ a0 b1).bind fun t7 =>
 some t7
theorem YY (a0 : (List Span)) (b1 : (List Span)) (qa0 : Option Addr) (na0 ca0 : Nat) (qa1 : Option Addr) (na1 ca1 : Nat) (w : World) (hw : HV w (keys [] []) [] [] [(aB qa0, aO qa0, RSp.enc a0), (aB qa1, aO qa1, RSp.enc b1)] w) (hna0 : a0.length = na0) (hqa0 : AOK na0 qa0) (hla0 : na0 ≤ ca0) (hna1 : b1.length = na1) (hqa1 : AOK na1 qa1) (hla1 : na1 ≤ ca1) {res : Bool} (hm : zc a0 b1 = some res) :
    Calls Tryz.prog 77 #[.slice qa0 na0 ca0, .slice qa1 na1 ca1] w (fun en w' => ∃ l : Unit, en = .returned (.bool res) ∧ (True) ∧ HV w (keys [] []) [] [] [] w') := by
  unfold zc at hm
  refine kj func77 Y ntmps77 Y (e := [(0, _), (1, _)]) Y hw (jp (jm Y Y (j3 (je Y Y (je Y Y ?_)))))
  obtain ⟨t7, h1, hm⟩ := bindO hm
  refine jd [] [] Y Y Y Y Y Y Y call118 (fun w hh => Zw a0 b1 qa0 na0 ca0 qa1 na1 ca1 w (HV.callee (S0 := []) (vs0 := []) hh (roR hh 0 Y (roR hh 1 Y roN))) hna0 hqa0 hla0 hna1 hqa1 hla1 h1) (fun l h2 => ?_)
  refine jm Y Y (jo (jw ?_))
  obtain rfl := sj hm
  refine jn Y (fun w hh => (.tmp Y .nil)) (fun w hh => ⟨(), rfl, trivial, hh.se [] [] 2 Y Y Y rfl⟩)
def KW (a0 : Scalps) (b1 : Scalps) : Option Bool :=
 ((qK a0.strips b1.strips).bind fun t9 =>
 if t9 = true then
 ((zc a0.carried b1.carried).bind fun t15 =>
 some t15) else
 (some false)).bind fun o =>
 some o
theorem jah (a0 : Scalps) (b1 : Scalps) (qa0 : Option Addr) (na0 ca0 : Nat) (qa1 : Option Addr) (na1 ca1 : Nat) (qa2 : Option Addr) (na2 ca2 : Nat) (qa3 : Option Addr) (na3 ca3 : Nat) (w : World) (hw : HV w (keys [] []) [] [] [(aB qa0, aO qa0, RSt.enc a0.strips), (aB qa1, aO qa1, RSp.enc a0.carried), (aB qa2, aO qa2, RSt.enc b1.strips), (aB qa3, aO qa3, RSp.enc b1.carried)] w) (hna0 : a0.strips.length = na0) (hqa0 : AOK na0 qa0) (hla0 : na0 ≤ ca0) (hna1 : a0.carried.length = na1) (hqa1 : AOK na1 qa1) (hla1 : na1 ≤ ca1) (hna2 : b1.strips.length = na2) (hqa2 : AOK na2 qa2) (hla2 : na2 ≤ ca2) (hna3 : b1.carried.length = na3) (hqa3 : AOK na3 qa3) (hla3 : na3 ≤ ca3) {res : Bool} (hm : KW a0 b1 = some res) :
    Calls Tryz.prog 21 #[.agg #[.slice qa0 na0 ca0, .slice qa1 na1 ca1], .agg #[.slice qa2 na2 ca2, .slice qa3 na3 ca3]] w (fun en w' => ∃ l : Unit, en = .returned (.bool res) ∧ (True) ∧ HV w (keys [] []) [] [] [] w') := by
  unfold KW at hm
  refine kj func21 Y ntmps21 Y (e := [(0, _), (1, _)]) Y hw (jp ?_)
  refine jK Y Y (fun b h1 => ?_)
  refine jK Y Y (fun b_1 h2 => ?_)
  refine jm Y Y (jo (jk ?_))
  obtain ⟨o, h3, h4⟩ := bindO hm
  refine jD (ι := Unit) (fun l => True) (fun l => [(4, .bool o)]) (fun l => [kc b_1 #[.slice qa2 na2 ca2, .slice qa3 na3 ca3] 25, kc b #[.slice qa0 na0 ca0, .slice qa1 na1 ca1] 25]) (fun l => []) ?_ ?_
  ·replace hm := h3
   refine jh (jM 0 runUnderlying25 Y sizeOf22 Y Y (jS 1 isAgg22 Y Y Y Y (jM 0 runUnderlying25 Y sizeOf22 Y Y (jS 0 isAgg22 Y Y Y Y ?_))))
   obtain ⟨t9, h5, hm⟩ := bindO hm
   refine jd [] [] Y Y Y Y Y Y Y call76 (fun w hh => Yf a0.strips b1.strips qa0 na0 ca0 qa2 na2 ca2 w (HV.callee (S0 := []) (vs0 := []) hh (roR hh 0 Y (roR hh 2 Y roN))) hna0 hqa0 hla0 hna2 hqa2 hla2 h5) (fun l_1 h6 => ?_)
   refine je Y Y ?_
   refine jH 10 Y (fun h7 => ?_) (fun h7 => ?_)
   ·replace hm := ifT (h7) hm
    refine jb Y Y (jM 1 runUnderlying25 Y sizeOf23 Y Y (jb Y Y (jS 1 isAgg23 Y Y Y Y (jb Y Y (jM 1 runUnderlying25 Y sizeOf23 Y Y (jb Y Y (jS 0 isAgg23 Y Y Y Y ?_)))))))
    refine jb Y Y ?_
    obtain ⟨t15, h8, hm⟩ := bindO hm
    refine jd [] [] Y Y Y Y Y Y Y call77 (fun w hh => YY a0.carried b1.carried qa1 na1 ca1 qa3 na3 ca3 w (HV.callee (S0 := []) (vs0 := []) hh (roR hh 1 Y (roR hh 3 Y roN))) hna1 hqa1 hla1 hna3 hqa3 hla3 h8) (fun l_2 h9 => ?_)
    refine j8 Y Y Y (jm Y Y (jv ?_))
    obtain rfl := sj hm
    exact jg () (trivial) (sE Y) (fun w hh => hh)
   replace hm := ifN h7 hm
   refine g_k Y Y Y Y (g_k Y Y Y Y (g_k Y Y Y Y (g_k Y Y Y Y (g_k Y Y Y Y (ky Y Y Y (jm Y Y (jv ?_)))))))
   obtain rfl := sj hm
   exact jg () (trivial) (sE Y) (fun w hh => hh)
  intro l hj
  replace hm := h4
  refine ja (jw ?_)
  obtain rfl := sj hm
  refine jn Y (fun w hh => (.tmp Y .nil)) (fun w hh => ⟨(), rfl, trivial, hh.se [] [] 4 Y Y Y rfl⟩)
end Go.Proofs.Ws

