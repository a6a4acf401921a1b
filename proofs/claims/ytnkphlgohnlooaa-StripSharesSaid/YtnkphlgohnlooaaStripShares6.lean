/- What the functions that the law StripShares reaches come to, and why it holds: part 6. -/
import Derived.Test.YtnkphlgohnlooaaStripShares5
namespace Go.Proofs.Ws
set_option maxHeartbeats 4000000
set_option maxRecDepth 100000
open Go Go.Fw Go.Gx Go.Sp
set_option linter.unusedVariables false
theorem YL : (Try.prog.info? 4).map (fun i => (i.zero, i.size, i.bytes)) = some (some (.bool false), 1, 1) := by kernel_rfl
theorem jaq : (Try.prog.info? 135).map (fun i => (i.zero, i.size, i.bytes)) = some (some (.agg #[.int .i64 0, .int .i64 0, .int .i64 0, .int .i64 0, .int .i64 0, .int .i64 0, .int .i64 0]), 7, 56) := by kernel_rfl
theorem jap : (Try.prog.info? 136).map (fun i => (i.zero, i.size, i.bytes)) = some (some (.slice none 0 0), 1, 24) := by kernel_rfl
theorem Y9 : Try.prog.stoodInHeld 37 = false := by decide +kernel
theorem jaN : Try.prog.eqGuardType Try.prog.depth 77 = false := by decide +kernel
theorem jaY : Try.prog.stoodInHeld 77 = false := by decide +kernel
theorem jbd (x y : Strip) (w : World) : (Op.equalIn 10000 77 (.agg (RSt.cells x).toArray) (.agg (RSt.cells y).toArray)).run Try.prog w = .ok (decide (x = y)) w := by
  have h := equal_structG (xs := (RSt.cells x).toArray) (ys := (RSt.cells y).toArray) Try.underlying77 jaY (.int rfl (fun w => Try.isAgg3 w) ⟨_, Try.underlying3⟩ rfl rfl (.sub (us := [_, _]) (vs := [_, _]) rfl (fun w => Try.isAgg37 w) (fun w => Try.sizeOf37 w) rfl rfl rfl rfl Try.underlying37 Y9 (.int rfl (fun w => Try.isAgg3 w) ⟨_, Try.underlying3⟩ rfl rfl (.int rfl (fun w => Try.isAgg3 w) ⟨_, Try.underlying3⟩ rfl rfl .nil)) (.sub (us := [_, _]) (vs := [_, _]) rfl (fun w => Try.isAgg37 w) (fun w => Try.sizeOf37 w) rfl rfl rfl rfl Try.underlying37 Y9 (.int rfl (fun w => Try.isAgg3 w) ⟨_, Try.underlying3⟩ rfl rfl (.int rfl (fun w => Try.isAgg3 w) ⟨_, Try.underlying3⟩ rfl rfl .nil)) (.sub (us := [_, _]) (vs := [_, _]) rfl (fun w => Try.isAgg37 w) (fun w => Try.sizeOf37 w) rfl rfl rfl rfl Try.underlying37 Y9 (.int rfl (fun w => Try.isAgg3 w) ⟨_, Try.underlying3⟩ rfl rfl (.int rfl (fun w => Try.isAgg3 w) ⟨_, Try.underlying3⟩ rfl rfl .nil)) .nil)))) w
  rw [h]
  congr 1
  obtain ⟨x0, ⟨x1_0, x1_1⟩, ⟨x2_0, x2_1⟩, ⟨x3_0, x3_1⟩⟩ := x
  obtain ⟨y0, ⟨y1_0, y1_1⟩, ⟨y2_0, y2_1⟩, ⟨y3_0, y3_1⟩⟩ := y
  rw [Bool.eq_iff_iff]
  simp only [Bool.and_eq_true, decide_eq_true_eq, Strip.mk.injEq, Span.mk.injEq, and_true]
def K6 (s0 : Scalps) : Option Bool :=
 (if 12 < (s0.strips.length : Int) then
 (some true) else
 (some (decide (10 < (s0.carried.length : Int))))).bind fun o =>
 some o
theorem Z2 (s0 : Scalps) (qa0 : Option Addr) (na0 ca0 : Nat) (qa1 : Option Addr) (na1 ca1 : Nat) (w : World) (hw : HV w (keys [] []) [] [] [(aB qa0, aO qa0, RSt.enc s0.strips), (aB qa1, aO qa1, RSp.enc s0.carried)] w) (hna0 : s0.strips.length = na0) (hqa0 : AOK na0 qa0) (hla0 : na0 ≤ ca0) (hna1 : s0.carried.length = na1) (hqa1 : AOK na1 qa1) (hla1 : na1 ≤ ca1) {res : Bool} (hm : K6 s0 = some res) :
    Calls Try.prog 77 #[.agg #[.slice qa0 na0 ca0, .slice qa1 na1 ca1]] w (fun en w' => ∃ l : Unit, en = .returned (.bool res) ∧ (True) ∧ HV w (keys [] []) [] [] [] w') := by
  unfold K6 at hm
  refine kb Try.func77 rfl Try.ntmps77 rfl (e := [(0, _)]) rfl hw (jp ?_)
  refine jH rfl rfl (fun b h1 => ?_)
  refine jm rfl rfl (jo (jj ?_))
  obtain ⟨o, h2, h3⟩ := bindO hm
  refine jC (ι := Unit) (fun l => True) (fun l => [(2, .bool o)]) (fun l => [(b, .cells #[.slice qa0 na0 ca0, .slice qa1 na1 ca1] 28 (0, 0))]) (fun l => []) ?_ ?_
  ·replace hm := h2
   refine jh (jL 0 Try.runUnderlying28 rfl Try.sizeOf25 rfl rfl (jU 0 Try.isAgg25 rfl rfl rfl rfl (jc rfl rfl rfl (fun w _ => jB hna0 (Try.runUnderlying25 w) rfl) (jc rfl rfl rfl (fun _ _ => Qq rfl rfl) (jf rfl rfl ?_)))))
   refine jD 7 rfl (fun h4 => ?_) (fun h4 => ?_)
   ·replace hm := ifD h4 hm
    refine g_k rfl rfl rfl rfl (g_k rfl rfl rfl rfl (g_k rfl rfl rfl rfl (g_k rfl rfl rfl rfl (j3 rfl rfl rfl (jm rfl rfl (jv ?_))))))
    obtain rfl := sj hm
    exact jg () (trivial) (sE rfl) (fun w hh => hh)
   ·replace hm := ifE h4 hm
    refine ja rfl rfl (jL 1 Try.runUnderlying28 rfl Try.sizeOf26 rfl rfl (ja rfl rfl (jU 0 Try.isAgg26 rfl rfl rfl rfl (ja rfl rfl (jc rfl rfl rfl (fun w _ => jB hna1 (Try.runUnderlying26 w) rfl) (ja rfl rfl (jc rfl rfl rfl (fun _ _ => Qq rfl rfl) ?_)))))))
    refine ki rfl rfl rfl (jm rfl rfl (jv ?_))
    obtain rfl := sj hm
    exact jg () (trivial) (sE rfl) (fun w hh => hh)
  ·intro l hj
   replace hm := h3
   refine jb (jw ?_)
   obtain rfl := sj hm
   refine jn rfl (fun w hh => (.tmp rfl .nil)) (fun w hh => ⟨(), rfl, trivial, hh.se [] [] 2 rfl rfl rfl rfl⟩)
structure Kz where
  n3 : Int
  t9 : Int
def JK (s0 : Scalps) (s : Kz) : Option (Kz ⊕ Int) :=
 if s.t9 < (s0.carried.length : Int) then
 (((ix s0.carried s.t9).bind fun t11 =>
 (if 0 ≤ t11.hi then
 (if t11.hi ≤ 30 then
 (some (decide (s.n3 < 1000))) else
 (some false)) else
 (some false)).bind fun o_2 =>
 if o_2 = true then
 ((addc t11.hi 1).bind fun t28 =>
 (mulc s.n3 t28).bind fun t29 =>
 some t29) else
 (some s.n3)).bind fun o_1 =>
 (addc s.t9 1).bind fun t30 =>
 some (.inl (⟨o_1, t30⟩ : Kz))) else
 (some (.inr s.n3))
def Qz (s0 : Scalps) : Option Bool :=
 (iterM FU (JK s0) (⟨1, 0⟩ : Kz)).bind fun o =>
 ((K6 s0).bind fun t32 =>
 if t32 = true then
 (some true) else
 (if 500 < o then
 (some (decide ((s0.carried.length : Int) ≤ 5))) else
 (some false))).bind fun o_3 =>
 some o_3
theorem jam (s0 : Scalps) (qa0 : Option Addr) (na0 ca0 : Nat) (qa1 : Option Addr) (na1 ca1 : Nat) (w : World) (hw : HV w (keys [] []) [] [] [(aB qa0, aO qa0, RSt.enc s0.strips), (aB qa1, aO qa1, RSp.enc s0.carried)] w) (hna0 : s0.strips.length = na0) (hqa0 : AOK na0 qa0) (hla0 : na0 ≤ ca0) (hna1 : s0.carried.length = na1) (hqa1 : AOK na1 qa1) (hla1 : na1 ≤ ca1) {res : Bool} (hm : Qz s0 = some res) :
    Calls Try.prog 21 #[.agg #[.slice qa0 na0 ca0, .slice qa1 na1 ca1]] w (fun en w' => ∃ l : Unit, en = .returned (.bool res) ∧ (True) ∧ HV w (keys [] []) [] [] [] w') := by
  unfold Qz at hm
  refine kb Try.func21 rfl Try.ntmps21 rfl (e := [(0, _)]) rfl hw (jp ?_)
  refine jH rfl rfl (fun b h1 => ?_)
  refine jm rfl rfl (j1 (jm rfl rfl (jo (jj (jp (jL 1 Try.runUnderlying28 rfl Try.sizeOf26 rfl rfl (jU 0 Try.isAgg26 rfl rfl rfl rfl ?_)))))))
  refine jc rfl rfl rfl (fun w _ => jB hna1 (Try.runUnderlying26 w) rfl) (jf rfl rfl (jo ?_))
  obtain ⟨o, h2, h3⟩ := bindO hm
  refine jC (ι := Unit) (fun l => True) (fun l => [(1, ptr b 0), (3, .int .i64 o)]) (fun l => [(b, .cells #[.slice qa0 na0 ca0, .slice qa1 na1 ca1] 28 (0, 0))]) (fun l => []) ?_ ?_
  ·replace hm := h2
   refine jl ?_
   refine jF (ι := Unit) hm (fun s l_1 => True) (fun s l_1 => [(1, ptr b 0), (3, .int .i64 s.n3), (7, .slice qa1 na1 ca1), (8, .int .i64 (s0.carried.length : Int)), (9, .int .i64 s.t9)]) (fun s l_1 => [(b, .cells #[.slice qa0 na0 ca0, .slice qa1 na1 ca1] 28 (0, 0))]) (fun s l_1 => []) () (trivial) (sE rfl) (fun w hh => hh) (fun s l_1 r hpl hm h4 => ?_)
   unfold JK at hm
   refine jp (qv rfl rfl rfl (jo (jj ?_)))
   refine jq rfl (fun h5 => ?_) (fun h5 => ?_)
   ·replace hm := ifD h5 hm
    refine jr (jb (jj ?_))
    obtain ⟨o_1, h6, h7⟩ := bindO hm
    refine jC (ι := Unit) (fun l_2 => True) (fun l_2 => [(1, ptr b 0), (3, .int .i64 o_1), (7, .slice qa1 na1 ca1), (8, .int .i64 (s0.carried.length : Int)), (9, .int .i64 s.t9)]) (fun l_2 => [(b, .cells #[.slice qa0 na0 ca0, .slice qa1 na1 ca1] 28 (0, 0))]) (fun l_2 => []) ?_ ?_
    ·replace hm := h6
     refine jl (jp ?_)
     obtain ⟨t11, h8, hm⟩ := bindO hm
     refine jc rfl rfl rfl (fun w _ => jW h8 (Try.runUnderlying26 w) (Try.sizeOf37 w) rfl rfl hna1 hqa1) ?_
     refine jc rfl rfl rfl (fun w hh => kk RSp 0 [.int .i64 t11.lo, .int .i64 t11.hi] h8 (Try.isAgg37 w) (Try.sizeOf37 w) rfl (hh.seg 1 rfl) rfl (Nat.add_zero _).symm) ?_
     refine jt (fun w => Try.zeroValue37 w) rfl (fun b_1 h9 => ?_)
     refine jE (us := #[_, _]) (cs' := [_, _]) (S' := [_, _]) 0 (fun w => Try.sizeOf37 w) rfl rfl rfl rfl rfl rfl rfl (jo (jj ?_))
     obtain ⟨o_2, h10, h11⟩ := bindO hm
     refine jC (ι := Unit) (fun l_3 => True) (fun l_3 => [(1, ptr b 0), (3, .int .i64 s.n3), (5, ptr b_1 0), (7, .slice qa1 na1 ca1), (8, .int .i64 (s0.carried.length : Int)), (9, .int .i64 s.t9), (24, .bool o_2)]) (fun l_3 => [(b_1, .cells #[.int .i64 t11.lo, .int .i64 t11.hi] 37 (0, 0)), (b, .cells #[.slice qa0 na0 ca0, .slice qa1 na1 ca1] 28 (0, 0))]) (fun l_3 => []) ?_ ?_
     ·replace hm := h10
      refine jh (jL 1 Try.runUnderlying37 rfl Try.sizeOf3 rfl rfl (jU 0 Try.isAgg3 rfl rfl rfl rfl (jc rfl rfl rfl (fun _ _ => QH rfl rfl) (jf rfl rfl ?_))))
      refine jD 16 rfl (fun h12 => ?_) (fun h12 => ?_)
      ·replace hm := ifD h12 hm
       refine ja rfl rfl (jL 1 Try.runUnderlying37 rfl Try.sizeOf3 rfl rfl (ja rfl rfl (jU 0 Try.isAgg3 rfl rfl rfl rfl (ja rfl rfl (jc rfl rfl rfl (fun _ _ => YT rfl rfl) (j3 rfl rfl rfl (jf rfl rfl ?_)))))))
       refine jD 21 rfl (fun h13 => ?_) (fun h13 => ?_)
       ·replace hm := ifD h13 hm
        refine ja rfl rfl (jf rfl rfl (ja rfl rfl (qv rfl rfl rfl (j3 rfl rfl rfl (jv ?_)))))
        obtain rfl := sj hm
        exact jg () (trivial) (sE rfl) (fun w hh => hh)
       ·replace hm := ifE h13 hm
        refine g_k rfl rfl rfl rfl (g_k rfl rfl rfl rfl (ki rfl rfl rfl (jv ?_)))
        obtain rfl := sj hm
        exact jg () (trivial) (sE rfl) (fun w hh => hh)
      ·replace hm := ifE h12 hm
       refine g_k rfl rfl rfl rfl (g_k rfl rfl rfl rfl (g_k rfl rfl rfl rfl (ki rfl rfl rfl (jf rfl rfl (g_k rfl rfl rfl rfl (g_k rfl rfl rfl rfl (ki rfl rfl rfl ?_)))))))
       refine jv ?_
       obtain rfl := sj hm
       exact jg () (trivial) (sE rfl) (fun w hh => hh)
     ·intro l_3 hj
      replace hm := h11
      refine jb ?_
      refine jq rfl (fun h14 => ?_) (fun h14 => ?_)
      ·replace hm := ifT (h14) hm
       refine jh (jf rfl rfl (jL 1 Try.runUnderlying37 rfl Try.sizeOf3 rfl rfl (jU 0 Try.isAgg3 rfl rfl rfl rfl ?_)))
       obtain ⟨t28, h15, hm⟩ := bindO hm
       refine kt h15 rfl rfl rfl ?_
       obtain ⟨t29, h16, hm⟩ := bindO hm
       refine jc rfl rfl rfl (fun _ _ => Yj h16 rfl rfl) (jm rfl rfl (jv (js ?_)))
       obtain rfl := sj hm
       exact jg () (trivial) (sE rfl) (hsE [1] [] 0 rfl rfl rfl rfl)
      ·replace hm := ifN h14 hm
       refine jr (js ?_)
       obtain rfl := sj hm
       exact jg () (trivial) (sE rfl) (hsE [1] [] 0 rfl rfl rfl rfl)
    ·intro l_2 hj
     replace hm := h7
     refine jb (jh ?_)
     obtain ⟨t30, h17, hm⟩ := bindO hm
     refine kt h17 rfl rfl rfl (jf rfl rfl (jv ?_))
     obtain rfl := sj hm
     refine jb ?_
     exact jy _ () rfl (trivial) (sE rfl) (fun w hh => hh)
   ·replace hm := ifE h5 hm
    refine jM (ji (ji (jz ?_)))
    obtain rfl := sj hm
    have hbo := h4 _ rfl
    subst hbo
    exact jg () (trivial) (sE rfl) (fun w hh => hh)
  ·intro l hj
   replace hm := h3
   refine jb (jj ?_)
   obtain ⟨o_3, h18, h19⟩ := bindO hm
   refine jC (ι := Unit) (fun l_4 => True) (fun l_4 => [(2, .bool o_3)]) (fun l_4 => [(b, .cells #[.slice qa0 na0 ca0, .slice qa1 na1 ca1] 28 (0, 0))]) (fun l_4 => []) ?_ ?_
   ·replace hm := h18
    refine jh (kG [_, _] 0 Try.isAgg28 Try.sizeOf28 rfl rfl rfl rfl ?_)
    obtain ⟨t32, h20, hm⟩ := bindO hm
    refine jd [] [] rfl rfl rfl rfl rfl rfl rfl Try.call77 (fun w hh => Z2 s0 qa0 na0 ca0 qa1 na1 ca1 w (HV.callee (S0 := []) (vs0 := []) hh (roR hh 0 rfl (roR hh 1 rfl roN))) hna0 hqa0 hla0 hna1 hqa1 hla1 h20) (fun l_5 h21 => ?_)
    refine jf rfl rfl ?_
    refine jD 33 rfl (fun h22 => ?_) (fun h22 => ?_)
    ·replace hm := ifT (h22) hm
     refine g_k rfl rfl rfl rfl (g_k rfl rfl rfl rfl (g_k rfl rfl rfl rfl ?_))
     refine jZ rfl rfl rfl rfl rfl ?_
     refine jZ rfl rfl rfl rfl rfl ?_
     refine jZ rfl rfl rfl rfl rfl ?_
     refine jZ rfl rfl rfl rfl rfl ?_
     refine g_k rfl rfl rfl rfl (j3 rfl rfl rfl (jm rfl rfl (jv ?_)))
     obtain rfl := sj hm
     exact jg () (trivial) (sE rfl) (fun w hh => hh)
    ·replace hm := ifN h22 hm
     refine ja rfl rfl (jf rfl rfl (ja rfl rfl (jc rfl rfl rfl (fun _ _ => Qq rfl rfl) (ja rfl rfl (jf rfl rfl ?_)))))
     refine jD 36 rfl (fun h23 => ?_) (fun h23 => ?_)
     ·replace hm := ifD h23 hm
      refine ja rfl rfl (jL 1 Try.runUnderlying28 rfl Try.sizeOf26 rfl rfl (ja rfl rfl (jU 0 Try.isAgg26 rfl rfl rfl rfl (ja rfl rfl (jc rfl rfl rfl (fun w _ => jB hna1 (Try.runUnderlying26 w) rfl) (ja rfl rfl (jc rfl rfl rfl (fun _ _ => YT rfl rfl) ?_)))))))
      refine ja rfl rfl (j3 rfl rfl rfl (ki rfl rfl rfl (jm rfl rfl (jv ?_))))
      obtain rfl := sj hm
      exact jg () (trivial) (sE rfl) (fun w hh => hh)
     ·replace hm := ifE h23 hm
      refine g_k rfl rfl rfl rfl (g_k rfl rfl rfl rfl (g_k rfl rfl rfl rfl (g_k rfl rfl rfl rfl (ja rfl rfl (ki rfl rfl rfl (ki rfl rfl rfl (jm rfl rfl ?_)))))))
      refine jv ?_
      obtain rfl := sj hm
      exact jg () (trivial) (sE rfl) (fun w hh => hh)
   ·intro l_4 hj
    replace hm := h19
    refine jb (jw ?_)
    obtain rfl := sj hm
    refine jn rfl (fun w hh => (.tmp rfl .nil)) (fun w hh => ⟨(), rfl, trivial, hh.se [] [] 2 rfl rfl rfl rfl⟩)
def qR (l0 : (List Strip)) : Option (List Strip) :=
 (makec 56 (⟨0, (⟨0, 0⟩ : Span), (⟨0, 0⟩ : Span), (⟨0, 0⟩ : Span)⟩ : Strip) 0 (l0.length : Int)).bind fun t5 =>
 (appc 56 t5 l0).bind fun t7 =>
 some t7
theorem QN (l0 : (List Strip)) (qa0 : Option Addr) (na0 ca0 : Nat) (w : World) (hw : HV w (keys [] []) [] [] [(aB qa0, aO qa0, RSt.enc l0)] w) (hna0 : l0.length = na0) (hqa0 : AOK na0 qa0) (hla0 : na0 ≤ ca0) {res : (List Strip)} (hm : qR l0 = some res) :
    Calls Try.prog 78 #[.slice qa0 na0 ca0] w (fun en w' => ∃ l : VL, en = .returned (slv l.q l.n l.cap) ∧ (VOK 7 l.n l.cap (RSt.enc res) l.sp l.q) ∧ HV w (keys [] []) [] [⟨77, RSt.enc res, l.sp, l.q, []⟩] [] w') := by
  unfold qR at hm
  refine kb Try.func78 rfl Try.ntmps78 rfl (e := [(0, _)]) rfl hw (jp (jc rfl rfl rfl (fun _ _ => qj rfl) (j1 (jf rfl rfl (jc rfl rfl rfl (fun w _ => jB hna0 (Try.runUnderlying25 w) rfl) ?_)))))
  obtain ⟨t5, h2, hm⟩ := bindO hm
  refine km RSt (⟨0, (⟨0, 0⟩ : Span), (⟨0, 0⟩ : Span), (⟨0, 0⟩ : Span)⟩ : Strip) h2 Try.underlying25 Zs rfl rfl rfl rfl rfl (fun L h3 => ?_)
  refine jf rfl rfl ?_
  obtain ⟨t7, h4, hm⟩ := bindO hm
  refine y4 RSt 0 h4 Try.underlying25 Zs rfl rfl rfl rfl rfl h3 rfl rfl hna0 hqa0 (fun w hh => (hh.seg 0 rfl)) rfl (fun L_1 h5 h5n => ?_)
  refine jS (S' := []) (vs' := [_]) [] [0] 0 rfl rfl rfl rfl (jm rfl rfl (jo (jw ?_)))
  obtain rfl := sj hm
  refine jn rfl (fun w hh => (.tmp rfl .nil)) (fun w hh => ⟨L_1, rfl, h5, hh.se [] [0] 1 rfl rfl rfl rfl⟩)
def qd (l0 : (List Span)) : Option (List Span) :=
 (makec 16 (⟨0, 0⟩ : Span) 0 (l0.length : Int)).bind fun t5 =>
 (appc 16 t5 l0).bind fun t7 =>
 some t7
theorem Qb (l0 : (List Span)) (qa0 : Option Addr) (na0 ca0 : Nat) (w : World) (hw : HV w (keys [] []) [] [] [(aB qa0, aO qa0, RSp.enc l0)] w) (hna0 : l0.length = na0) (hqa0 : AOK na0 qa0) (hla0 : na0 ≤ ca0) {res : (List Span)} (hm : qd l0 = some res) :
    Calls Try.prog 79 #[.slice qa0 na0 ca0] w (fun en w' => ∃ l : VL, en = .returned (slv l.q l.n l.cap) ∧ (VOK 2 l.n l.cap (RSp.enc res) l.sp l.q) ∧ HV w (keys [] []) [] [⟨37, RSp.enc res, l.sp, l.q, []⟩] [] w') := by
  unfold qd at hm
  refine kb Try.func79 rfl Try.ntmps79 rfl (e := [(0, _)]) rfl hw (jp (jc rfl rfl rfl (fun _ _ => qj rfl) (j1 (jf rfl rfl (jc rfl rfl rfl (fun w _ => jB hna0 (Try.runUnderlying26 w) rfl) ?_)))))
  obtain ⟨t5, h2, hm⟩ := bindO hm
  refine km RSp (⟨0, 0⟩ : Span) h2 Try.underlying26 Kx rfl rfl rfl rfl rfl (fun L h3 => ?_)
  refine jf rfl rfl ?_
  obtain ⟨t7, h4, hm⟩ := bindO hm
  refine y4 RSp 0 h4 Try.underlying26 Kx rfl rfl rfl rfl rfl h3 rfl rfl hna0 hqa0 (fun w hh => (hh.seg 0 rfl)) rfl (fun L_1 h5 h5n => ?_)
  refine jS (S' := []) (vs' := [_]) [] [0] 0 rfl rfl rfl rfl (jm rfl rfl (jo (jw ?_)))
  obtain rfl := sj hm
  refine jn rfl (fun w hh => (.tmp rfl .nil)) (fun w hh => ⟨L_1, rfl, h5, hh.se [] [0] 1 rfl rfl rfl rfl⟩)
def Yu (s0 : Scalps) : Option Scalps :=
 (qR s0.strips).bind fun t5 =>
 (qd s0.carried).bind fun t8 =>
 some (⟨t5, t8⟩ : Scalps)
theorem YU (s0 : Scalps) (qa0 : Option Addr) (na0 ca0 : Nat) (qa1 : Option Addr) (na1 ca1 : Nat) (w : World) (hw : HV w (keys [] []) [] [] [(aB qa0, aO qa0, RSt.enc s0.strips), (aB qa1, aO qa1, RSp.enc s0.carried)] w) (hna0 : s0.strips.length = na0) (hqa0 : AOK na0 qa0) (hla0 : na0 ≤ ca0) (hna1 : s0.carried.length = na1) (hqa1 : AOK na1 qa1) (hla1 : na1 ≤ ca1) {res : Scalps} (hm : Yu s0 = some res) :
    Calls Try.prog 22 #[.agg #[.slice qa0 na0 ca0, .slice qa1 na1 ca1]] w (fun en w' => ∃ l : VL × VL, en = .returned (.agg #[slv l.1.q l.1.n l.1.cap, slv l.2.q l.2.n l.2.cap]) ∧ (VOK 7 l.1.n l.1.cap (RSt.enc res.strips) l.1.sp l.1.q ∧ VOK 2 l.2.n l.2.cap (RSp.enc res.carried) l.2.sp l.2.q) ∧ HV w (keys [] []) [] [⟨77, RSt.enc res.strips, l.1.sp, l.1.q, []⟩, ⟨37, RSp.enc res.carried, l.2.sp, l.2.q, []⟩] [] w') := by
  unfold Yu at hm
  refine kb Try.func22 rfl Try.ntmps22 rfl (e := [(0, _)]) rfl hw (jp ?_)
  refine jH rfl rfl (fun b h3 => ?_)
  refine jt (fun w => Try.zeroValue28 w) rfl (fun b_1 h4 => ?_)
  refine jo (jj ?_)
  refine jX none (.free 0 (.hoist 1 (.free 3 (.hoist 4 (.one 2 (.one 5 (.free 6 (.one 7 .done)))))))) (HV _ _ [(b, .cells #[.slice qa0 na0 ca0, .slice qa1 na1 ca1] 28 (0, 0))] [] _) rfl (by decide +kernel) (fun w k hh => hh.draw k) (hsE [1] [] 0 rfl rfl rfl rfl) ?_
  refine kO 0 Try.runUnderlying28 Try.sizeOf25 rfl rfl rfl rfl (qq 0 Try.isAgg25 rfl rfl rfl rfl rfl (kO 1 Try.runUnderlying28 Try.sizeOf26 rfl rfl rfl rfl (qq 0 Try.isAgg26 rfl rfl rfl rfl rfl (jK rfl ?_))))
  obtain ⟨t5, h5, hm⟩ := bindO hm
  refine jd [] [] rfl rfl rfl rfl rfl rfl rfl Try.call78 (fun w hh => QN s0.strips qa0 na0 ca0 w (HV.callee (S0 := []) (vs0 := []) hh (roR hh 0 rfl roN)) hna0 hqa0 hla0 h5) (fun l h6 => ?_)
  have h7 := h6
  refine jS (S' := [_, _]) (vs' := [_]) [0, 1] [0] 0 rfl rfl rfl rfl (ju (hsE [1] [] 0 rfl rfl rfl rfl) (jK rfl ?_))
  obtain ⟨t8, h8, hm⟩ := bindO hm
  refine jd [] [] rfl rfl rfl rfl rfl rfl rfl Try.call79 (fun w hh => Qb s0.carried qa1 na1 ca1 w (HV.callee (S0 := []) (vs0 := []) hh (roR hh 1 rfl roN)) hna1 hqa1 hla1 h8) (fun l_1 h9 => ?_)
  have h10 := h9
  refine jS (S' := [_, _]) (vs' := [_, _]) [0, 1] [0, 1] 0 rfl rfl rfl rfl (ju (hsE [1] [] 0 rfl rfl rfl rfl) (jk rfl rfl rfl rfl (fun _ _ => jG (vs := [(0, _), (1, _)]) (cells := [_, _]) rfl rfl) (jK rfl (jE (us := #[_, _]) (cs' := [_, _]) (S' := [_, _]) 0 (fun w => Try.sizeOf28 w) rfl rfl rfl rfl rfl rfl rfl (ju (hsE [1] [] 0 rfl rfl rfl rfl) (jI (jb ?_)))))))
  refine jw ?_
  obtain rfl := sj hm
  refine jn rfl (fun w hh => (.cell rfl (loadVar_agg (vs := [_, _]) (Try.isAgg28 _) (Try.sizeOf28 _) (hh.cells 0 rfl rfl)) .nil)) (fun w hh => ⟨(l, l_1), rfl, ⟨h7, h10⟩, hh.se [] [1, 0] 2 rfl rfl rfl rfl⟩)
structure zj where
  t13 : Int
  out3_strips : (List Strip)
def zb (s0 : Scalps) (s : zj) : Option (zj ⊕ (List Strip)) :=
 if s.t13 < (s0.strips.length : Int) then
 ((ix s0.strips s.t13).bind fun t15 =>
 (appc 56 s.out3_strips [(⟨t15.tenant, (⟨t15.lay.lo, t15.lay.hi⟩ : Span), (⟨t15.seeded.lo, t15.seeded.hi⟩ : Span), (⟨t15.left.lo, t15.left.hi⟩ : Span)⟩ : Strip)]).bind fun t21 =>
 (addc s.t13 1).bind fun t23 =>
 some (.inl (⟨t23, t21⟩ : zj))) else
 (some (.inr s.out3_strips))
def Kd (s0 : Scalps) : Option Scalps :=
 (qd s0.carried).bind fun t8 =>
 (iterM FU (zb s0) (⟨0, []⟩ : zj)).bind fun o =>
 some (⟨o, t8⟩ : Scalps)
theorem Qj (s0 : Scalps) (qa0 : Option Addr) (na0 ca0 : Nat) (qa1 : Option Addr) (na1 ca1 : Nat) (w : World) (hw : HV w (keys [] []) [] [] [(aB qa0, aO qa0, RSt.enc s0.strips), (aB qa1, aO qa1, RSp.enc s0.carried)] w) (hna0 : s0.strips.length = na0) (hqa0 : AOK na0 qa0) (hla0 : na0 ≤ ca0) (hna1 : s0.carried.length = na1) (hqa1 : AOK na1 qa1) (hla1 : na1 ≤ ca1) {res : Scalps} (hm : Kd s0 = some res) :
    Calls Try.prog 23 #[.agg #[.slice qa0 na0 ca0, .slice qa1 na1 ca1]] w (fun en w' => ∃ l : VL × VL, en = .returned (.agg #[slv l.1.q l.1.n l.1.cap, slv l.2.q l.2.n l.2.cap]) ∧ (VOK 7 l.1.n l.1.cap (RSt.enc res.strips) l.1.sp l.1.q ∧ VOK 2 l.2.n l.2.cap (RSp.enc res.carried) l.2.sp l.2.q) ∧ HV w (keys [] []) [] [⟨135, RSt.enc res.strips, l.1.sp, l.1.q, []⟩, ⟨37, RSp.enc res.carried, l.2.sp, l.2.q, []⟩] [] w') := by
  unfold Kd at hm
  refine kb Try.func23 rfl Try.ntmps23 rfl (e := [(0, _)]) rfl hw (jp ?_)
  refine jH rfl rfl (fun b h3 => ?_)
  refine jt (fun w => Try.zeroValue50 w) rfl (fun b_1 h4 => ?_)
  refine j1 (jL 1 Try.runUnderlying28 rfl Try.sizeOf26 rfl rfl (jU 1 Try.isAgg26 rfl rfl rfl rfl ?_))
  obtain ⟨t8, h5, hm⟩ := bindO hm
  refine jd [] [] rfl rfl rfl rfl rfl rfl rfl Try.call79 (fun w hh => Qb s0.carried qa1 na1 ca1 w (HV.callee (S0 := []) (vs0 := []) hh (roR hh 1 rfl roN)) hna1 hqa1 hla1 h5) (fun l h6 => ?_)
  have h7 := h6
  refine jS (S' := [_, _]) (vs' := [_]) [0, 1] [0] 0 rfl rfl rfl rfl (jc rfl rfl rfl (fun _ _ => jG (vs := [(1, _)]) (cells := [_, _]) rfl rfl) ?_)
  refine jt (fun w => Try.zeroValue50 w) rfl (fun b_2 h8 => ?_)
  refine jE (us := #[_, _]) (cs' := [_, _]) (S' := [_, _, _]) 0 (fun w => Try.sizeOf50 w) rfl rfl rfl rfl rfl rfl rfl (jo (jj (jp (jL 0 Try.runUnderlying28 rfl Try.sizeOf25 rfl rfl (jU 2 Try.isAgg25 rfl rfl rfl rfl (jc rfl rfl rfl (fun w _ => jB hna0 (Try.runUnderlying25 w) rfl) (jf rfl rfl ?_)))))))
  refine jo (kr 135 ?_)
  obtain ⟨o, h9, h10⟩ := bindO hm
  refine jC (ι := VL) (fun l_1 => VOK 7 l_1.n l_1.cap (RSt.enc o) l_1.sp l_1.q) (fun l_1 => [(2, ptr b_1 0), (3, ptr b_2 0)]) (fun l_1 => [(b_2, .cells #[slv l_1.q l_1.n l_1.cap, slv l.q l.n l.cap] 50 (0, 0)), (b_1, .cells #[slv none 0 0, slv none 0 0] 50 (0, 0)), (b, .cells #[.slice qa0 na0 ca0, .slice qa1 na1 ca1] 28 (0, 0))]) (fun l_1 => [⟨135, RSt.enc o, l_1.sp, l_1.q, []⟩, ⟨37, RSp.enc t8, l.sp, l.q, []⟩]) ?_ ?_
  ·replace hm := h9
   refine jl ?_
   refine jF (ι := VL) hm (fun s l_2 => VOK 7 l_2.n l_2.cap (RSt.enc s.out3_strips) l_2.sp l_2.q) (fun s l_2 => [(2, ptr b_1 0), (3, ptr b_2 0), (11, .slice qa0 na0 ca0), (12, .int .i64 (s0.strips.length : Int)), (13, .int .i64 s.t13)]) (fun s l_2 => [(b_2, .cells #[slv l_2.q l_2.n l_2.cap, slv l.q l.n l.cap] 50 (0, 0)), (b_1, .cells #[slv none 0 0, slv none 0 0] 50 (0, 0)), (b, .cells #[.slice qa0 na0 ca0, .slice qa1 na1 ca1] 28 (0, 0))]) (fun s l_2 => [⟨135, RSt.enc s.out3_strips, l_2.sp, l_2.q, []⟩, ⟨37, RSp.enc t8, l.sp, l.q, []⟩]) ⟨none, 0, 0, []⟩ (VOK.nil) (sE rfl) (fun w hh => hh) (fun s l_2 r hpl hm h13 => ?_)
   have h12 := hpl
   unfold zb at hm
   refine jp (qv rfl rfl rfl (jo (jj ?_)))
   refine jq rfl (fun h14 => ?_) (fun h14 => ?_)
   ·replace hm := ifD h14 hm
    refine jr (jb (jj (jl (jp ?_))))
    obtain ⟨t15, h15, hm⟩ := bindO hm
    refine jc rfl rfl rfl (fun w _ => jW h15 (Try.runUnderlying25 w) (Try.sizeOf77 w) rfl rfl hna0 hqa0) ?_
    refine jc rfl rfl rfl (fun w hh => kk RSt 0 [.int .i64 t15.tenant, .int .i64 t15.lay.lo, .int .i64 t15.lay.hi, .int .i64 t15.seeded.lo, .int .i64 t15.seeded.hi, .int .i64 t15.left.lo, .int .i64 t15.left.hi] h15 (Try.isAgg77 w) (Try.sizeOf77 w) rfl (hh.seg 0 rfl) rfl (Nat.add_zero _).symm) ?_
    refine jt (fun w => Try.zeroValue77 w) rfl (fun b_3 h16 => ?_)
    refine jE (us := #[_, _, _, _, _, _, _]) (cs' := [_, _, _, _, _, _, _]) (S' := [_, _, _, _]) 0 (fun w => Try.sizeOf77 w) rfl rfl rfl rfl rfl rfl rfl (jo (jh (jL 0 Try.runUnderlying50 rfl Try.sizeOf48 rfl rfl (jU 1 Try.isAgg48 rfl rfl rfl rfl (kG [_, _, _, _, _, _, _] 0 Try.isAgg77 Try.sizeOf77 rfl rfl rfl rfl ?_)))))
    refine kW RSt [(⟨t15.tenant, (⟨t15.lay.lo, t15.lay.hi⟩ : Span), (⟨t15.seeded.lo, t15.seeded.hi⟩ : Span), (⟨t15.left.lo, t15.left.hi⟩ : Span)⟩ : Strip)] (ps := [(0, _)]) (cells := [_, _, _, _, _, _, _]) (fun w => Try.runUnderlying48 w) (fun w => Try.sizeOf135 w) (fun w => Try.zeroValue135 w) rfl rfl rfl rfl rfl rfl rfl rfl (fun L h17 => ?_)
    obtain ⟨t21, h18, hm⟩ := bindO hm
    refine y4 RSt 1 h18 Try.underlying48 jaq rfl rfl rfl rfl rfl h12 rfl rfl (vlen RSt h17 rfl) (AOK.q (vne h17)) (fun w hh => (hh.vsegA 0 rfl h17)) rfl (fun L_1 h19 h19n => ?_)
    refine jS (S' := [_, _, _, _]) (vs' := [_, _, _]) [0, 1, 2, 3] [0, 1, 2] 0 rfl rfl rfl rfl (jL 0 Try.runUnderlying50 rfl Try.sizeOf48 rfl rfl (yV (cs' := #[_, _]) (S' := [_, _, _, _]) 1 (fun w => Try.sizeOf48 w) rfl rfl rfl rfl rfl rfl rfl (jv (js (jb (jh ?_))))))
    obtain ⟨t23, h20, hm⟩ := bindO hm
    refine kt h20 rfl rfl rfl (jf rfl rfl (jv ?_))
    obtain rfl := sj hm
    refine jb ?_
    exact jy _ L_1 rfl (h19) (sE rfl) (hsE [1, 2, 3] [1, 2] 0 rfl rfl rfl rfl)
   ·replace hm := ifE h14 hm
    refine jM (ji (ji (jz ?_)))
    obtain rfl := sj hm
    have hbo := h13 _ rfl
    subst hbo
    exact jg l_2 (h12) (sE rfl) (fun w hh => hh)
  ·intro l_1 hj
   have h11 := hj
   replace hm := h10
   refine jb (jp (kG [_, _] 0 Try.isAgg50 Try.sizeOf50 rfl rfl rfl rfl (jE (us := #[_, _]) (cs' := [_, _]) (S' := [_, _, _]) 1 (fun w => Try.sizeOf50 w) rfl rfl rfl rfl rfl rfl rfl (jo (jw ?_)))))
   obtain rfl := sj hm
   refine jn rfl (fun w hh => (.cell rfl (loadVar_agg (vs := [_, _]) (Try.isAgg50 _) (Try.sizeOf50 _) (hh.cells 1 rfl rfl)) .nil)) (fun w hh => ⟨(l_1, l), rfl, ⟨h11, h7⟩, hh.se [] [0, 1] 2 rfl rfl rfl rfl⟩)
def zl (n0 : Int) (lo1 : Int) (hi2 : Int) : Option Bool :=
 (if n0 < lo1 then
 (some true) else
 (some (decide (hi2 < n0)))).bind fun o =>
 some o
theorem KB (n0 : Int) (lo1 : Int) (hi2 : Int)  (w : World) (hw : HV w (keys [] []) [] [] [] w)  {res : Bool} (hm : zl n0 lo1 hi2 = some res) :
    Calls Try.prog 80 #[.int .i64 n0, .int .i64 lo1, .int .i64 hi2] w (fun en w' => ∃ l : Unit, en = .returned (.bool res) ∧ (True) ∧ HV w (keys [] []) [] [] [] w') := by
  unfold zl at hm
  refine kb Try.func80 rfl Try.ntmps80 rfl (e := [(0, _), (1, _), (2, _)]) rfl hw (jp (jm rfl rfl (jo (jj ?_))))
  obtain ⟨o, h1, h2⟩ := bindO hm
  refine jC (ι := Unit) (fun l => True) (fun l => [(6, .bool o)]) (fun l => []) (fun l => []) ?_ ?_
  ·replace hm := h1
   refine jh (jf rfl rfl (jf rfl rfl (qv rfl rfl rfl (jf rfl rfl ?_))))
   refine jD 10 rfl (fun h3 => ?_) (fun h3 => ?_)
   ·replace hm := ifD h3 hm
    refine g_k rfl rfl rfl rfl (g_k rfl rfl rfl rfl (g_k rfl rfl rfl rfl (j3 rfl rfl rfl (jm rfl rfl (jv ?_)))))
    obtain rfl := sj hm
    exact jg () (trivial) (sE rfl) (fun w hh => hh)
   ·replace hm := ifE h3 hm
    refine ja rfl rfl (jf rfl rfl (ja rfl rfl (jf rfl rfl (ja rfl rfl (jc rfl rfl rfl (fun _ _ => Qq rfl rfl) (ki rfl rfl rfl (jm rfl rfl ?_)))))))
    refine jv ?_
    obtain rfl := sj hm
    exact jg () (trivial) (sE rfl) (fun w hh => hh)
  ·intro l hj
   replace hm := h2
   refine jb (jw ?_)
   obtain rfl := sj hm
   refine jn rfl (fun w hh => (.tmp rfl .nil)) (fun w hh => ⟨(), rfl, trivial, hh⟩)
def qT (x0 : Span) : Option Bool :=
 ((zl x0.lo 0 30).bind fun t5 =>
 if t5 = true then
 (some true) else
 ((zl x0.hi 0 30).bind fun t9 =>
 some t9)).bind fun o =>
 some o
theorem KF (x0 : Span)  (w : World) (hw : HV w (keys [] []) [] [] [] w)  {res : Bool} (hm : qT x0 = some res) :
    Calls Try.prog 81 #[.agg #[.int .i64 x0.lo, .int .i64 x0.hi]] w (fun en w' => ∃ l : Unit, en = .returned (.bool res) ∧ (True) ∧ HV w (keys [] []) [] [] [] w') := by
  unfold qT at hm
  refine kb Try.func81 rfl Try.ntmps81 rfl (e := [(0, _)]) rfl hw (jp ?_)
  refine jH rfl rfl (fun b h1 => ?_)
  refine jm rfl rfl (jo (jj ?_))
  obtain ⟨o, h2, h3⟩ := bindO hm
  refine jC (ι := Unit) (fun l => True) (fun l => [(2, .bool o)]) (fun l => [(b, .cells #[.int .i64 x0.lo, .int .i64 x0.hi] 37 (0, 0))]) (fun l => []) ?_ ?_
  ·replace hm := h2
   refine jh (jL 0 Try.runUnderlying37 rfl Try.sizeOf3 rfl rfl (jU 0 Try.isAgg3 rfl rfl rfl rfl ?_))
   obtain ⟨t5, h4, hm⟩ := bindO hm
   refine jd [] [] rfl rfl rfl rfl rfl rfl rfl Try.call80 (fun w hh => KB x0.lo 0 30 w (HV.callee (S0 := []) (vs0 := []) hh roN)  h4) (fun l_1 h5 => ?_)
   refine jf rfl rfl ?_
   refine jD 6 rfl (fun h6 => ?_) (fun h6 => ?_)
   ·replace hm := ifT (h6) hm
    refine g_k rfl rfl rfl rfl (g_k rfl rfl rfl rfl (g_k rfl rfl rfl rfl (j3 rfl rfl rfl (jm rfl rfl (jv ?_)))))
    obtain rfl := sj hm
    exact jg () (trivial) (sE rfl) (fun w hh => hh)
   ·replace hm := ifN h6 hm
    refine ja rfl rfl (jL 1 Try.runUnderlying37 rfl Try.sizeOf3 rfl rfl (ja rfl rfl (jU 0 Try.isAgg3 rfl rfl rfl rfl (ja rfl rfl ?_))))
    obtain ⟨t9, h7, hm⟩ := bindO hm
    refine jd [] [] rfl rfl rfl rfl rfl rfl rfl Try.call80 (fun w hh => KB x0.hi 0 30 w (HV.callee (S0 := []) (vs0 := []) hh roN)  h7) (fun l_2 h8 => ?_)
    refine ki rfl rfl rfl (jm rfl rfl (jv ?_))
    obtain rfl := sj hm
    exact jg () (trivial) (sE rfl) (fun w hh => hh)
  ·intro l hj
   replace hm := h3
   refine jb (jw ?_)
   obtain rfl := sj hm
   refine jn rfl (fun w hh => (.tmp rfl .nil)) (fun w hh => ⟨(), rfl, trivial, hh.se [] [] 0 rfl rfl rfl rfl⟩)
def zF (x0 : Span) : Option Bool :=
 some (decide (x0.hi < x0.lo))
theorem Qm (x0 : Span)  (w : World) (hw : HV w (keys [] []) [] [] [] w)  {res : Bool} (hm : zF x0 = some res) :
    Calls Try.prog 82 #[.agg #[.int .i64 x0.lo, .int .i64 x0.hi]] w (fun en w' => ∃ l : Unit, en = .returned (.bool res) ∧ (True) ∧ HV w (keys [] []) [] [] [] w') := by
  unfold zF at hm
  refine kb Try.func82 rfl Try.ntmps82 rfl (e := [(0, _)]) rfl hw (jp ?_)
  refine jH rfl rfl (fun b h1 => ?_)
  refine jm rfl rfl (j1 (jL 0 Try.runUnderlying37 rfl Try.sizeOf3 rfl rfl (jU 0 Try.isAgg3 rfl rfl rfl rfl (jL 1 Try.runUnderlying37 rfl Try.sizeOf3 rfl rfl (jU 0 Try.isAgg3 rfl rfl rfl rfl (jc rfl rfl rfl (fun _ _ => Qq rfl rfl) (jm rfl rfl ?_)))))))
  refine jo (jw ?_)
  obtain rfl := sj hm
  refine jn rfl (fun w hh => (.tmp rfl .nil)) (fun w hh => ⟨(), rfl, trivial, hh.se [] [] 0 rfl rfl rfl rfl⟩)
structure Q9 where
  limit3 : Bool
  order4 : Bool
structure JV where
  limit3 : Bool
  order4 : Bool
  t7 : Int
structure Q7 where
  limit3 : Bool
  order4 : Bool
def yP (s0 : Scalps) (s : JV) : Option (JV ⊕ Q9) :=
 if s.t7 < (s0.carried.length : Int) then
 (((if s.limit3 = true then
 (some true) else
 ((ix s0.carried s.t7).bind fun t32 =>
 (qT (⟨t32.lo, t32.hi⟩ : Span)).bind fun t34 =>
 some t34)).bind fun o_3 =>
 if s.order4 = true then
 (some (⟨o_3, true⟩ : Q7)) else
 ((ix s0.carried s.t7).bind fun t41 =>
 (zF t41).bind fun t43 =>
 some (⟨o_3, t43⟩ : Q7))).bind fun o_2 =>
 (addc s.t7 1).bind fun t26 =>
 some (.inl (⟨o_2.limit3, o_2.order4, t26⟩ : JV))) else
 (some (.inr (⟨s.limit3, s.order4⟩ : Q9)))
structure KZ where
  limit3 : Bool
  order4 : Bool
  missing5 : Bool
  wrong6 : Bool
structure qk where
  limit3 : Bool
  order4 : Bool
  missing5 : Bool
  wrong6 : Bool
  k8 : Int
structure zR where
  limit3 : Bool
  order4 : Bool
  missing5 : Bool
  wrong6 : Bool
def yN (s0 : Scalps) (s_1 : qk) : Option (qk ⊕ KZ) :=
 if s_1.k8 < (s0.strips.length : Int) then
 (((ix s0.strips s_1.k8).bind fun t55 =>
 (if s_1.limit3 = true then
 (some true) else
 ((qT (⟨t55.lay.lo, t55.lay.hi⟩ : Span)).bind fun t61 =>
 if t61 = true then
 (some true) else
 ((qT (⟨t55.seeded.lo, t55.seeded.hi⟩ : Span)).bind fun t66 =>
 if t66 = true then
 (some true) else
 ((qT (⟨t55.left.lo, t55.left.hi⟩ : Span)).bind fun t71 =>
 some t71)))).bind fun o_6 =>
 (if s_1.order4 = true then
 (some true) else
 ((zF (⟨t55.lay.lo, t55.lay.hi⟩ : Span)).bind fun t77 =>
 if t77 = true then
 (some true) else
 ((zF (⟨t55.seeded.lo, t55.seeded.hi⟩ : Span)).bind fun t82 =>
 if t82 = true then
 (some true) else
 ((zF (⟨t55.left.lo, t55.left.hi⟩ : Span)).bind fun t87 =>
 some t87)))).bind fun o_7 =>
 (if s_1.missing5 = true then
 (some true) else
 ((subc (s0.carried.length : Int) 1).bind fun t96 =>
 (zl t55.tenant 0 t96).bind fun t97 =>
 some t97)).bind fun o_8 =>
 if s_1.wrong6 = true then
 (some (⟨o_6, o_7, o_8, true⟩ : zR)) else
 (if (!o_6) = true then
 ((addc t55.lay.hi t55.seeded.hi).bind fun t110 =>
 some (⟨o_6, o_7, o_8, (decide (t110 < t55.left.lo))⟩ : zR)) else
 (some (⟨o_6, o_7, o_8, false⟩ : zR)))).bind fun o_5 =>
 (addc s_1.k8 1).bind fun t51 =>
 some (.inl (⟨o_5.limit3, o_5.order4, o_5.missing5, o_5.wrong6, t51⟩ : qk))) else
 (some (.inr (⟨s_1.limit3, s_1.order4, s_1.missing5, s_1.wrong6⟩ : KZ)))
def K9 (s0 : Scalps) : Option Int :=
 ((zl (s0.strips.length : Int) 1 6).bind fun t13 =>
 if t13 = true then
 (some true) else
 ((zl (s0.carried.length : Int) 1 5).bind fun t18 =>
 some t18)).bind fun o =>
 if o = true then
 (some 2) else
 ((iterM FU (yP s0) (⟨false, false, 0⟩ : JV)).bind fun o_1 =>
 (iterM FU (yN s0) (⟨o_1.limit3, o_1.order4, false, false, 0⟩ : qk)).bind fun o_4 =>
 if o_4.limit3 = true then
 (some 3) else
 (if o_4.missing5 = true then
 (some 1) else
 (if o_4.order4 = true then
 (some 4) else
 (if o_4.wrong6 = true then
 (some 8) else
 (some 0)))))
theorem jai (s0 : Scalps) (qa0 : Option Addr) (na0 ca0 : Nat) (qa1 : Option Addr) (na1 ca1 : Nat) (w : World) (hw : HV w (keys [] []) [] [] [(aB qa0, aO qa0, RSt.enc s0.strips), (aB qa1, aO qa1, RSp.enc s0.carried)] w) (hna0 : s0.strips.length = na0) (hqa0 : AOK na0 qa0) (hla0 : na0 ≤ ca0) (hna1 : s0.carried.length = na1) (hqa1 : AOK na1 qa1) (hla1 : na1 ≤ ca1) {res : Int} (hm : K9 s0 = some res) :
    Calls Try.prog 24 #[.agg #[.slice qa0 na0 ca0, .slice qa1 na1 ca1]] w (fun en w' => ∃ l : Unit, en = .returned (.int .i64 res) ∧ (True) ∧ HV w (keys [] []) [] [] [] w') := by
  unfold K9 at hm
  refine kb Try.func24 rfl Try.ntmps24 rfl (e := [(0, _)]) rfl hw (jp ?_)
  refine jH rfl rfl (fun b h1 => ?_)
  refine jm rfl rfl (jo (jj (jj ?_)))
  obtain ⟨o, h2, h3⟩ := bindO hm
  refine jC (ι := Unit) (fun l => True) (fun l => [(1, ptr b 0), (19, .bool o)]) (fun l => [(b, .cells #[.slice qa0 na0 ca0, .slice qa1 na1 ca1] 50 (0, 0))]) (fun l => []) ?_ ?_
  ·replace hm := h2
   refine jh (jL 0 Try.runUnderlying50 rfl Try.sizeOf48 rfl rfl (jU 0 Try.isAgg48 rfl rfl rfl rfl (jc rfl rfl rfl (fun w _ => jB hna0 (Try.runUnderlying48 w) rfl) ?_)))
   obtain ⟨t13, h4, hm⟩ := bindO hm
   refine jd [] [] rfl rfl rfl rfl rfl rfl rfl Try.call80 (fun w hh => KB (s0.strips.length : Int) 1 6 w (HV.callee (S0 := []) (vs0 := []) hh roN)  h4) (fun l_1 h5 => ?_)
   refine jf rfl rfl ?_
   refine jD 14 rfl (fun h6 => ?_) (fun h6 => ?_)
   ·replace hm := ifT (h6) hm
    refine g_k rfl rfl rfl rfl (g_k rfl rfl rfl rfl (g_k rfl rfl rfl rfl (g_k rfl rfl rfl rfl (j3 rfl rfl rfl (jv ?_)))))
    obtain rfl := sj hm
    exact jg () (trivial) (sE rfl) (fun w hh => hh)
   ·replace hm := ifN h6 hm
    refine ja rfl rfl (jL 1 Try.runUnderlying50 rfl Try.sizeOf26 rfl rfl (ja rfl rfl (jU 0 Try.isAgg26 rfl rfl rfl rfl (ja rfl rfl (jc rfl rfl rfl (fun w _ => jB hna1 (Try.runUnderlying26 w) rfl) (ja rfl rfl ?_))))))
    obtain ⟨t18, h7, hm⟩ := bindO hm
    refine jd [] [] rfl rfl rfl rfl rfl rfl rfl Try.call80 (fun w hh => KB (s0.carried.length : Int) 1 5 w (HV.callee (S0 := []) (vs0 := []) hh roN)  h7) (fun l_2 h8 => ?_)
    refine ki rfl rfl rfl (jv ?_)
    obtain rfl := sj hm
    exact jg () (trivial) (sE rfl) (fun w hh => hh)
  ·intro l hj
   replace hm := h3
   refine jb ?_
   refine jq rfl (fun h9 => ?_) (fun h9 => ?_)
   ·replace hm := ifT (h9) hm
    refine jp (jm rfl rfl (jo (jw (je ?_))))
    obtain rfl := sj hm
    refine jn rfl (fun w hh => (.tmp rfl .nil)) (fun w hh => ⟨(), rfl, trivial, hh.se [] [] 2 rfl rfl rfl rfl⟩)
   ·replace hm := ifN h9 hm
    refine jr (jb (jp (jm rfl rfl (jm rfl rfl (jm rfl rfl (jm rfl rfl (jo ?_)))))))
    refine jj (jp (jm rfl rfl (jo ?_)))
    obtain ⟨o_1, h10, h11⟩ := bindO hm
    refine jC (ι := Unit) (fun l_3 => True) (fun l_3 => [(1, ptr b 0), (3, .bool o_1.limit3), (4, .bool o_1.order4), (5, .bool false), (6, .bool false)]) (fun l_3 => [(b, .cells #[.slice qa0 na0 ca0, .slice qa1 na1 ca1] 50 (0, 0))]) (fun l_3 => []) ?_ ?_
    ·replace hm := h10
     refine jl ?_
     refine jF (ι := Unit) hm (fun s l_4 => True) (fun s l_4 => [(1, ptr b 0), (3, .bool s.limit3), (4, .bool s.order4), (5, .bool false), (6, .bool false), (7, .int .i64 s.t7)]) (fun s l_4 => [(b, .cells #[.slice qa0 na0 ca0, .slice qa1 na1 ca1] 50 (0, 0))]) (fun s l_4 => []) () (trivial) (sE rfl) (fun w hh => hh) (fun s l_4 r hpl hm h12 => ?_)
     unfold yP at hm
     refine jj (jp (jf rfl rfl (jL 1 Try.runUnderlying50 rfl Try.sizeOf26 rfl rfl (jU 0 Try.isAgg26 rfl rfl rfl rfl (jc rfl rfl rfl (fun w _ => jB hna1 (Try.runUnderlying26 w) rfl) (qv rfl rfl rfl (jo ?_)))))))
     refine jq rfl (fun h13 => ?_) (fun h13 => ?_)
     ·replace hm := ifD h13 hm
      refine jr (jb (jj ?_))
      obtain ⟨o_2, h14, h15⟩ := bindO hm
      refine jC (ι := Unit) (fun l_5 => True) (fun l_5 => [(1, ptr b 0), (3, .bool o_2.limit3), (4, .bool o_2.order4), (5, .bool false), (6, .bool false), (7, .int .i64 s.t7)]) (fun l_5 => [(b, .cells #[.slice qa0 na0 ca0, .slice qa1 na1 ca1] 50 (0, 0))]) (fun l_5 => []) ?_ ?_
      ·replace hm := h14
       refine jl (jj ?_)
       obtain ⟨o_3, h16, h17⟩ := bindO hm
       refine jC (ι := Unit) (fun l_6 => True) (fun l_6 => [(1, ptr b 0), (3, .bool o_3), (4, .bool s.order4), (5, .bool false), (6, .bool false), (7, .int .i64 s.t7)]) (fun l_6 => [(b, .cells #[.slice qa0 na0 ca0, .slice qa1 na1 ca1] 50 (0, 0))]) (fun l_6 => []) ?_ ?_
       ·replace hm := h16
        refine jh (jf rfl rfl (jf rfl rfl ?_))
        refine jD 28 rfl (fun h18 => ?_) (fun h18 => ?_)
        ·replace hm := ifT (h18) hm
         refine g_k rfl rfl rfl rfl (g_k rfl rfl rfl rfl (g_k rfl rfl rfl rfl (g_k rfl rfl rfl rfl (g_k rfl rfl rfl rfl (g_k rfl rfl rfl rfl (j3 rfl rfl rfl (jm rfl rfl ?_)))))))
         refine jv ?_
         obtain rfl := sj hm
         exact jg () (trivial) (sE rfl) (fun w hh => hh)
        ·replace hm := ifN h18 hm
         refine ja rfl rfl (jL 1 Try.runUnderlying50 rfl Try.sizeOf26 rfl rfl (ja rfl rfl (jU 0 Try.isAgg26 rfl rfl rfl rfl (ja rfl rfl (jf rfl rfl (ja rfl rfl ?_))))))
         obtain ⟨t32, h19, hm⟩ := bindO hm
         refine jc rfl rfl rfl (fun w _ => jW h19 (Try.runUnderlying26 w) (Try.sizeOf37 w) rfl rfl hna1 hqa1) (ja rfl rfl ?_)
         refine jc rfl rfl rfl (fun w hh => kk RSp 0 [.int .i64 t32.lo, .int .i64 t32.hi] h19 (Try.isAgg37 w) (Try.sizeOf37 w) rfl (hh.seg 1 rfl) rfl (Nat.add_zero _).symm) ?_
         refine ja rfl rfl ?_
         obtain ⟨t34, h20, hm⟩ := bindO hm
         refine jd [] [] rfl rfl rfl rfl rfl rfl rfl Try.call81 (fun w hh => KF (⟨t32.lo, t32.hi⟩ : Span) w (HV.callee (S0 := []) (vs0 := []) hh roN)  h20) (fun l_7 h21 => ?_)
         refine ki rfl rfl rfl (jm rfl rfl (jv ?_))
         obtain rfl := sj hm
         exact jg () (trivial) (sE rfl) (fun w hh => hh)
       ·intro l_6 hj
        replace hm := h17
        refine jb (jh (jf rfl rfl (jf rfl rfl ?_)))
        refine jD 37 rfl (fun h22 => ?_) (fun h22 => ?_)
        ·replace hm := ifT (h22) hm
         refine g_k rfl rfl rfl rfl (g_k rfl rfl rfl rfl (g_k rfl rfl rfl rfl (g_k rfl rfl rfl rfl (g_k rfl rfl rfl rfl (g_k rfl rfl rfl rfl (j3 rfl rfl rfl (jm rfl rfl ?_)))))))
         refine jv (js ?_)
         obtain rfl := sj hm
         exact jg () (trivial) (sE rfl) (fun w hh => hh)
        ·replace hm := ifN h22 hm
         refine ja rfl rfl (jL 1 Try.runUnderlying50 rfl Try.sizeOf26 rfl rfl (ja rfl rfl (jU 0 Try.isAgg26 rfl rfl rfl rfl (ja rfl rfl (jf rfl rfl (ja rfl rfl ?_))))))
         obtain ⟨t41, h23, hm⟩ := bindO hm
         refine jc rfl rfl rfl (fun w _ => jW h23 (Try.runUnderlying26 w) (Try.sizeOf37 w) rfl rfl hna1 hqa1) (ja rfl rfl ?_)
         refine jc rfl rfl rfl (fun w hh => kk RSp 0 [.int .i64 t41.lo, .int .i64 t41.hi] h23 (Try.isAgg37 w) (Try.sizeOf37 w) rfl (hh.seg 1 rfl) rfl (Nat.add_zero _).symm) ?_
         refine ja rfl rfl ?_
         obtain ⟨t43, h24, hm⟩ := bindO hm
         refine jd [] [] rfl rfl rfl rfl rfl rfl rfl Try.call82 (fun w hh => Qm t41 w (HV.callee (S0 := []) (vs0 := []) hh roN)  h24) (fun l_8 h25 => ?_)
         refine ki rfl rfl rfl (jm rfl rfl (jv (js ?_)))
         obtain rfl := sj hm
         exact jg () (trivial) (sE rfl) (fun w hh => hh)
      ·intro l_5 hj
       replace hm := h15
       refine jb (jh (jf rfl rfl ?_))
       obtain ⟨t26, h26, hm⟩ := bindO hm
       refine kt h26 rfl rfl rfl (jm rfl rfl (jv ?_))
       obtain rfl := sj hm
       refine jb ?_
       exact jy _ () rfl (trivial) (sE rfl) (fun w hh => hh)
     ·replace hm := ifE h13 hm
      refine jM (ji (ji (jz ?_)))
      obtain rfl := sj hm
      have hbo := h12 _ rfl
      subst hbo
      exact jg () (trivial) (sE rfl) (fun w hh => hh)
    ·intro l_3 hj
     replace hm := h11
     refine jb (jj (jp (jm rfl rfl (jo ?_))))
     obtain ⟨o_4, h27, h28⟩ := bindO hm
     refine jC (ι := Unit) (fun l_9 => True) (fun l_9 => [(3, .bool o_4.limit3), (4, .bool o_4.order4), (5, .bool o_4.missing5), (6, .bool o_4.wrong6)]) (fun l_9 => [(b, .cells #[.slice qa0 na0 ca0, .slice qa1 na1 ca1] 50 (0, 0))]) (fun l_9 => []) ?_ ?_
     ·replace hm := h27
      refine jl ?_
      refine jF (ι := Unit) hm (fun s_1 l_10 => True) (fun s_1 l_10 => [(1, ptr b 0), (3, .bool s_1.limit3), (4, .bool s_1.order4), (5, .bool s_1.missing5), (6, .bool s_1.wrong6), (8, .int .i64 s_1.k8)]) (fun s_1 l_10 => [(b, .cells #[.slice qa0 na0 ca0, .slice qa1 na1 ca1] 50 (0, 0))]) (fun s_1 l_10 => []) () (trivial) (sE rfl) (fun w hh => hh) (fun s_1 l_10 r_1 hpl hm h29 => ?_)
      unfold yN at hm
      refine jj (jp (jf rfl rfl (jL 0 Try.runUnderlying50 rfl Try.sizeOf48 rfl rfl (jU 0 Try.isAgg48 rfl rfl rfl rfl (jc rfl rfl rfl (fun w _ => jB hna0 (Try.runUnderlying48 w) rfl) (qv rfl rfl rfl (jo ?_)))))))
      refine jq rfl (fun h30 => ?_) (fun h30 => ?_)
      ·replace hm := ifD h30 hm
       refine jr (jb (jj ?_))
       obtain ⟨o_5, h31, h32⟩ := bindO hm
       refine jC (ι := Unit) (fun l_11 => True) (fun l_11 => [(1, ptr b 0), (3, .bool o_5.limit3), (4, .bool o_5.order4), (5, .bool o_5.missing5), (6, .bool o_5.wrong6), (8, .int .i64 s_1.k8)]) (fun l_11 => [(b, .cells #[.slice qa0 na0 ca0, .slice qa1 na1 ca1] 50 (0, 0))]) (fun l_11 => []) ?_ ?_
       ·replace hm := h31
        refine jl (jp (jL 0 Try.runUnderlying50 rfl Try.sizeOf48 rfl rfl (jU 0 Try.isAgg48 rfl rfl rfl rfl (jf rfl rfl ?_))))
        obtain ⟨t55, h33, hm⟩ := bindO hm
        refine jc rfl rfl rfl (fun w _ => jW h33 (Try.runUnderlying48 w) (Try.sizeOf135 w) rfl rfl hna0 hqa0) ?_
        refine jc rfl rfl rfl (fun w hh => kk RSt 0 [.int .i64 t55.tenant, .int .i64 t55.lay.lo, .int .i64 t55.lay.hi, .int .i64 t55.seeded.lo, .int .i64 t55.seeded.hi, .int .i64 t55.left.lo, .int .i64 t55.left.hi] h33 (Try.isAgg135 w) (Try.sizeOf135 w) rfl (hh.seg 0 rfl) rfl (Nat.add_zero _).symm) ?_
        refine jt (fun w => Try.zeroValue135 w) rfl (fun b_1 h34 => ?_)
        refine jE (us := #[_, _, _, _, _, _, _]) (cs' := [_, _, _, _, _, _, _]) (S' := [_, _]) 0 (fun w => Try.sizeOf135 w) rfl rfl rfl rfl rfl rfl rfl (jo (jj ?_))
        obtain ⟨o_6, h35, h36⟩ := bindO hm
        refine jC (ι := Unit) (fun l_12 => True) (fun l_12 => [(1, ptr b 0), (3, .bool o_6), (4, .bool s_1.order4), (5, .bool s_1.missing5), (6, .bool s_1.wrong6), (8, .int .i64 s_1.k8), (9, ptr b_1 0)]) (fun l_12 => [(b_1, .cells #[.int .i64 t55.tenant, .int .i64 t55.lay.lo, .int .i64 t55.lay.hi, .int .i64 t55.seeded.lo, .int .i64 t55.seeded.hi, .int .i64 t55.left.lo, .int .i64 t55.left.hi] 135 (0, 0)), (b, .cells #[.slice qa0 na0 ca0, .slice qa1 na1 ca1] 50 (0, 0))]) (fun l_12 => []) ?_ ?_
        ·replace hm := h35
         refine jh (jf rfl rfl (jf rfl rfl ?_))
         refine jD 58 rfl (fun h37 => ?_) (fun h37 => ?_)
         ·replace hm := ifT (h37) hm
          refine g_k rfl rfl rfl rfl (g_k rfl rfl rfl rfl (g_k rfl rfl rfl rfl (j3 rfl rfl rfl (jf rfl rfl (g_k rfl rfl rfl rfl (g_k rfl rfl rfl rfl (g_k rfl rfl rfl rfl ?_)))))))
          refine j3 rfl rfl rfl (jf rfl rfl (g_k rfl rfl rfl rfl (g_k rfl rfl rfl rfl (g_k rfl rfl rfl rfl (j3 rfl rfl rfl (jm rfl rfl (jv ?_)))))))
          obtain rfl := sj hm
          exact jg () (trivial) (sE rfl) (fun w hh => hh)
         ·replace hm := ifN h37 hm
          refine ja rfl rfl (jL 1 Try.runUnderlying135 rfl Try.sizeOf37 rfl rfl (ja rfl rfl (kG [_, _] 0 Try.isAgg37 Try.sizeOf37 rfl rfl rfl rfl (ja rfl rfl ?_))))
          obtain ⟨t61, h38, hm⟩ := bindO hm
          refine jd [] [] rfl rfl rfl rfl rfl rfl rfl Try.call81 (fun w hh => KF (⟨t55.lay.lo, t55.lay.hi⟩ : Span) w (HV.callee (S0 := []) (vs0 := []) hh roN)  h38) (fun l_13 h39 => ?_)
          refine ki rfl rfl rfl (jf rfl rfl ?_)
          refine jD 63 rfl (fun h40 => ?_) (fun h40 => ?_)
          ·replace hm := ifT (h40) hm
           refine g_k rfl rfl rfl rfl (g_k rfl rfl rfl rfl (g_k rfl rfl rfl rfl (j3 rfl rfl rfl (jf rfl rfl (g_k rfl rfl rfl rfl (g_k rfl rfl rfl rfl (g_k rfl rfl rfl rfl ?_)))))))
           refine j3 rfl rfl rfl (jm rfl rfl (jv ?_))
           obtain rfl := sj hm
           exact jg () (trivial) (sE rfl) (fun w hh => hh)
          ·replace hm := ifN h40 hm
           refine ja rfl rfl (jL 3 Try.runUnderlying135 rfl Try.sizeOf37 rfl rfl (ja rfl rfl (kG [_, _] 0 Try.isAgg37 Try.sizeOf37 rfl rfl rfl rfl (ja rfl rfl ?_))))
           obtain ⟨t66, h41, hm⟩ := bindO hm
           refine jd [] [] rfl rfl rfl rfl rfl rfl rfl Try.call81 (fun w hh => KF (⟨t55.seeded.lo, t55.seeded.hi⟩ : Span) w (HV.callee (S0 := []) (vs0 := []) hh roN)  h41) (fun l_14 h42 => ?_)
           refine ki rfl rfl rfl (jf rfl rfl ?_)
           refine jD 68 rfl (fun h43 => ?_) (fun h43 => ?_)
           ·replace hm := ifT (h43) hm
            refine g_k rfl rfl rfl rfl (g_k rfl rfl rfl rfl (g_k rfl rfl rfl rfl (j3 rfl rfl rfl (jm rfl rfl (jv ?_)))))
            obtain rfl := sj hm
            exact jg () (trivial) (sE rfl) (fun w hh => hh)
           ·replace hm := ifN h43 hm
            refine ja rfl rfl (jL 5 Try.runUnderlying135 rfl Try.sizeOf37 rfl rfl (ja rfl rfl (kG [_, _] 0 Try.isAgg37 Try.sizeOf37 rfl rfl rfl rfl (ja rfl rfl ?_))))
            obtain ⟨t71, h44, hm⟩ := bindO hm
            refine jd [] [] rfl rfl rfl rfl rfl rfl rfl Try.call81 (fun w hh => KF (⟨t55.left.lo, t55.left.hi⟩ : Span) w (HV.callee (S0 := []) (vs0 := []) hh roN)  h44) (fun l_15 h45 => ?_)
            refine ki rfl rfl rfl (jm rfl rfl (jv ?_))
            obtain rfl := sj hm
            exact jg () (trivial) (sE rfl) (fun w hh => hh)
        ·intro l_12 hj
         replace hm := h36
         refine jb (jj ?_)
         obtain ⟨o_7, h46, h47⟩ := bindO hm
         refine jC (ι := Unit) (fun l_16 => True) (fun l_16 => [(1, ptr b 0), (3, .bool o_6), (4, .bool o_7), (5, .bool s_1.missing5), (6, .bool s_1.wrong6), (8, .int .i64 s_1.k8), (9, ptr b_1 0)]) (fun l_16 => [(b_1, .cells #[.int .i64 t55.tenant, .int .i64 t55.lay.lo, .int .i64 t55.lay.hi, .int .i64 t55.seeded.lo, .int .i64 t55.seeded.hi, .int .i64 t55.left.lo, .int .i64 t55.left.hi] 135 (0, 0)), (b, .cells #[.slice qa0 na0 ca0, .slice qa1 na1 ca1] 50 (0, 0))]) (fun l_16 => []) ?_ ?_
         ·replace hm := h46
          refine jh (jf rfl rfl (jf rfl rfl ?_))
          refine jD 74 rfl (fun h48 => ?_) (fun h48 => ?_)
          ·replace hm := ifT (h48) hm
           refine g_k rfl rfl rfl rfl (g_k rfl rfl rfl rfl (g_k rfl rfl rfl rfl (j3 rfl rfl rfl (jf rfl rfl (g_k rfl rfl rfl rfl (g_k rfl rfl rfl rfl (g_k rfl rfl rfl rfl ?_)))))))
           refine j3 rfl rfl rfl (jf rfl rfl (g_k rfl rfl rfl rfl (g_k rfl rfl rfl rfl (g_k rfl rfl rfl rfl (j3 rfl rfl rfl (jm rfl rfl (jv ?_)))))))
           obtain rfl := sj hm
           exact jg () (trivial) (sE rfl) (fun w hh => hh)
          ·replace hm := ifN h48 hm
           refine ja rfl rfl (jL 1 Try.runUnderlying135 rfl Try.sizeOf37 rfl rfl (ja rfl rfl (kG [_, _] 0 Try.isAgg37 Try.sizeOf37 rfl rfl rfl rfl (ja rfl rfl ?_))))
           obtain ⟨t77, h49, hm⟩ := bindO hm
           refine jd [] [] rfl rfl rfl rfl rfl rfl rfl Try.call82 (fun w hh => Qm (⟨t55.lay.lo, t55.lay.hi⟩ : Span) w (HV.callee (S0 := []) (vs0 := []) hh roN)  h49) (fun l_17 h50 => ?_)
           refine ki rfl rfl rfl (jf rfl rfl ?_)
           refine jD 79 rfl (fun h51 => ?_) (fun h51 => ?_)
           ·replace hm := ifT (h51) hm
            refine g_k rfl rfl rfl rfl (g_k rfl rfl rfl rfl (g_k rfl rfl rfl rfl (j3 rfl rfl rfl (jf rfl rfl (g_k rfl rfl rfl rfl (g_k rfl rfl rfl rfl (g_k rfl rfl rfl rfl ?_)))))))
            refine j3 rfl rfl rfl (jm rfl rfl (jv ?_))
            obtain rfl := sj hm
            exact jg () (trivial) (sE rfl) (fun w hh => hh)
           ·replace hm := ifN h51 hm
            refine ja rfl rfl (jL 3 Try.runUnderlying135 rfl Try.sizeOf37 rfl rfl (ja rfl rfl (kG [_, _] 0 Try.isAgg37 Try.sizeOf37 rfl rfl rfl rfl (ja rfl rfl ?_))))
            obtain ⟨t82, h52, hm⟩ := bindO hm
            refine jd [] [] rfl rfl rfl rfl rfl rfl rfl Try.call82 (fun w hh => Qm (⟨t55.seeded.lo, t55.seeded.hi⟩ : Span) w (HV.callee (S0 := []) (vs0 := []) hh roN)  h52) (fun l_18 h53 => ?_)
            refine ki rfl rfl rfl (jf rfl rfl ?_)
            refine jD 84 rfl (fun h54 => ?_) (fun h54 => ?_)
            ·replace hm := ifT (h54) hm
             refine g_k rfl rfl rfl rfl (g_k rfl rfl rfl rfl (g_k rfl rfl rfl rfl (j3 rfl rfl rfl (jm rfl rfl (jv ?_)))))
             obtain rfl := sj hm
             exact jg () (trivial) (sE rfl) (fun w hh => hh)
            ·replace hm := ifN h54 hm
             refine ja rfl rfl (jL 5 Try.runUnderlying135 rfl Try.sizeOf37 rfl rfl (ja rfl rfl (kG [_, _] 0 Try.isAgg37 Try.sizeOf37 rfl rfl rfl rfl (ja rfl rfl ?_))))
             obtain ⟨t87, h55, hm⟩ := bindO hm
             refine jd [] [] rfl rfl rfl rfl rfl rfl rfl Try.call82 (fun w hh => Qm (⟨t55.left.lo, t55.left.hi⟩ : Span) w (HV.callee (S0 := []) (vs0 := []) hh roN)  h55) (fun l_19 h56 => ?_)
             refine ki rfl rfl rfl (jm rfl rfl (jv ?_))
             obtain rfl := sj hm
             exact jg () (trivial) (sE rfl) (fun w hh => hh)
         ·intro l_16 hj
          replace hm := h47
          refine jb (jj ?_)
          obtain ⟨o_8, h57, h58⟩ := bindO hm
          refine jC (ι := Unit) (fun l_20 => True) (fun l_20 => [(1, ptr b 0), (3, .bool o_6), (4, .bool o_7), (5, .bool o_8), (6, .bool s_1.wrong6), (8, .int .i64 s_1.k8), (9, ptr b_1 0)]) (fun l_20 => [(b_1, .cells #[.int .i64 t55.tenant, .int .i64 t55.lay.lo, .int .i64 t55.lay.hi, .int .i64 t55.seeded.lo, .int .i64 t55.seeded.hi, .int .i64 t55.left.lo, .int .i64 t55.left.hi] 135 (0, 0)), (b, .cells #[.slice qa0 na0 ca0, .slice qa1 na1 ca1] 50 (0, 0))]) (fun l_20 => []) ?_ ?_
          ·replace hm := h57
           refine jh (jf rfl rfl (jf rfl rfl ?_))
           refine jD 90 rfl (fun h59 => ?_) (fun h59 => ?_)
           ·replace hm := ifT (h59) hm
            refine g_k rfl rfl rfl rfl (g_k rfl rfl rfl rfl (g_k rfl rfl rfl rfl (g_k rfl rfl rfl rfl (g_k rfl rfl rfl rfl (g_k rfl rfl rfl rfl (g_k rfl rfl rfl rfl (j3 rfl rfl rfl ?_)))))))
            refine jm rfl rfl (jv ?_)
            obtain rfl := sj hm
            exact jg () (trivial) (sE rfl) (fun w hh => hh)
           ·replace hm := ifN h59 hm
            refine ja rfl rfl (jL 0 Try.runUnderlying135 rfl Try.sizeOf3 rfl rfl (ja rfl rfl (jU 0 Try.isAgg3 rfl rfl rfl rfl (ja rfl rfl (jL 1 Try.runUnderlying50 rfl Try.sizeOf26 rfl rfl (ja rfl rfl (jU 1 Try.isAgg26 rfl rfl rfl rfl ?_)))))))
            refine ja rfl rfl (jc rfl rfl rfl (fun w _ => jB hna1 (Try.runUnderlying26 w) rfl) (ja rfl rfl ?_))
            obtain ⟨t96, h60, hm⟩ := bindO hm
            refine jc rfl rfl rfl (fun _ _ => k9 h60 rfl rfl) (ja rfl rfl ?_)
            obtain ⟨t97, h61, hm⟩ := bindO hm
            refine jd [] [] rfl rfl rfl rfl rfl rfl rfl Try.call80 (fun w hh => KB t55.tenant 0 t96 w (HV.callee (S0 := []) (vs0 := []) hh roN)  h61) (fun l_21 h62 => ?_)
            refine ki rfl rfl rfl (jm rfl rfl (jv ?_))
            obtain rfl := sj hm
            exact jg () (trivial) (sE rfl) (fun w hh => hh)
          ·intro l_20 hj
           replace hm := h58
           refine jb (jh (jf rfl rfl (jf rfl rfl ?_)))
           refine jD 100 rfl (fun h63 => ?_) (fun h63 => ?_)
           ·replace hm := ifT (h63) hm
            refine g_k rfl rfl rfl rfl (g_k rfl rfl rfl rfl (g_k rfl rfl rfl rfl ?_))
            refine jZ rfl rfl rfl rfl rfl ?_
            refine jZ rfl rfl rfl rfl rfl ?_
            refine jZ rfl rfl rfl rfl rfl ?_
            refine jZ rfl rfl rfl rfl rfl ?_
            refine jZ rfl rfl rfl rfl rfl ?_
            refine jZ rfl rfl rfl rfl rfl ?_
            refine jZ rfl rfl rfl rfl rfl ?_
            refine jZ rfl rfl rfl rfl rfl ?_
            refine jZ rfl rfl rfl rfl rfl ?_
            refine jZ rfl rfl rfl rfl rfl ?_
            refine jZ rfl rfl rfl rfl rfl ?_
            refine g_k rfl rfl rfl rfl (j3 rfl rfl rfl (jm rfl rfl (jv (js ?_))))
            obtain rfl := sj hm
            exact jg () (trivial) (sE rfl) (hsE [1] [] 0 rfl rfl rfl rfl)
           ·replace hm := ifN h63 hm
            refine ja rfl rfl (jf rfl rfl (ja rfl rfl (jc rfl rfl rfl (fun _ _ => kq rfl) (ja rfl rfl (jf rfl rfl ?_)))))
            refine jD 103 rfl (fun h64 => ?_) (fun h64 => ?_)
            ·replace hm := ifT (h64) hm
             refine ja rfl rfl (jL 1 Try.runUnderlying135 rfl Try.sizeOf37 rfl rfl (ja rfl rfl (jL 1 Try.runUnderlying37 rfl Try.sizeOf3 rfl rfl (ja rfl rfl (jU 0 Try.isAgg3 rfl rfl rfl rfl (ja rfl rfl (jL 3 Try.runUnderlying135 rfl Try.sizeOf37 rfl rfl ?_)))))))
             refine ja rfl rfl (jL 1 Try.runUnderlying37 rfl Try.sizeOf3 rfl rfl (ja rfl rfl (jU 0 Try.isAgg3 rfl rfl rfl rfl (ja rfl rfl ?_))))
             obtain ⟨t110, h65, hm⟩ := bindO hm
             refine kt h65 rfl rfl rfl (ja rfl rfl (jL 5 Try.runUnderlying135 rfl Try.sizeOf37 rfl rfl (ja rfl rfl (jL 0 Try.runUnderlying37 rfl Try.sizeOf3 rfl rfl (ja rfl rfl (jU 0 Try.isAgg3 rfl rfl rfl rfl (ja rfl rfl ?_)))))))
             refine qv rfl rfl rfl (ja rfl rfl (j3 rfl rfl rfl (ki rfl rfl rfl (jm rfl rfl (jv (js ?_))))))
             obtain rfl := sj hm
             exact jg () (trivial) (sE rfl) (hsE [1] [] 0 rfl rfl rfl rfl)
            ·replace hm := ifN h64 hm
             refine g_k rfl rfl rfl rfl (g_k rfl rfl rfl rfl (g_k rfl rfl rfl rfl (g_k rfl rfl rfl rfl (g_k rfl rfl rfl rfl (g_k rfl rfl rfl rfl (g_k rfl rfl rfl rfl (g_k rfl rfl rfl rfl ?_)))))))
             refine g_k rfl rfl rfl rfl (g_k rfl rfl rfl rfl (g_k rfl rfl rfl rfl (ja rfl rfl (ki rfl rfl rfl (ki rfl rfl rfl (jm rfl rfl (jv ?_)))))))
             refine js ?_
             obtain rfl := sj hm
             exact jg () (trivial) (sE rfl) (hsE [1] [] 0 rfl rfl rfl rfl)
       ·intro l_11 hj
        replace hm := h32
        refine jb (jh (jf rfl rfl ?_))
        obtain ⟨t51, h66, hm⟩ := bindO hm
        refine kt h66 rfl rfl rfl (jm rfl rfl (jv ?_))
        obtain rfl := sj hm
        refine jb ?_
        exact jy _ () rfl (trivial) (sE rfl) (fun w hh => hh)
      ·replace hm := ifE h30 hm
       refine jM (ji (ji (jz ?_)))
       obtain rfl := sj hm
       have hbo := h29 _ rfl
       subst hbo
       exact jg () (trivial) (sE rfl) (fun w hh => hh)
     ·intro l_9 hj
      replace hm := h28
      refine jb (jj (jp (jf rfl rfl (jo ?_))))
      refine jq rfl (fun h67 => ?_) (fun h67 => ?_)
      ·replace hm := ifT (h67) hm
       refine jp (jm rfl rfl (jo (jw (je ?_))))
       obtain rfl := sj hm
       refine jn rfl (fun w hh => (.tmp rfl .nil)) (fun w hh => ⟨(), rfl, trivial, hh.se [] [] 2 rfl rfl rfl rfl⟩)
      ·replace hm := ifN h67 hm
       refine jr (jb (jj (jp (jf rfl rfl (jo ?_)))))
       refine jq rfl (fun h68 => ?_) (fun h68 => ?_)
       ·replace hm := ifT (h68) hm
        refine jp (jm rfl rfl (jo (jw (je ?_))))
        obtain rfl := sj hm
        refine jn rfl (fun w hh => (.tmp rfl .nil)) (fun w hh => ⟨(), rfl, trivial, hh.se [] [] 2 rfl rfl rfl rfl⟩)
       ·replace hm := ifN h68 hm
        refine jr (jb (jj (jp (jf rfl rfl (jo ?_)))))
        refine jq rfl (fun h69 => ?_) (fun h69 => ?_)
        ·replace hm := ifT (h69) hm
         refine jp (jm rfl rfl (jo (jw (je ?_))))
         obtain rfl := sj hm
         refine jn rfl (fun w hh => (.tmp rfl .nil)) (fun w hh => ⟨(), rfl, trivial, hh.se [] [] 2 rfl rfl rfl rfl⟩)
        ·replace hm := ifN h69 hm
         refine jr (jb (jj (jp (jf rfl rfl (jo ?_)))))
         refine jq rfl (fun h70 => ?_) (fun h70 => ?_)
         ·replace hm := ifT (h70) hm
          refine jp (jm rfl rfl (jo (jw (je ?_))))
          obtain rfl := sj hm
          refine jn rfl (fun w hh => (.tmp rfl .nil)) (fun w hh => ⟨(), rfl, trivial, hh.se [] [] 2 rfl rfl rfl rfl⟩)
         ·replace hm := ifN h70 hm
          refine jr (jb (jp (jm rfl rfl (jo (jw ?_)))))
          obtain rfl := sj hm
          refine jn rfl (fun w hh => (.tmp rfl .nil)) (fun w hh => ⟨(), rfl, trivial, hh.se [] [] 2 rfl rfl rfl rfl⟩)
structure qp where
  t8 : Int
  out7 : (List (List Bool))
structure zf where
  k10 : Int
  t21 : (List Bool)
def ye (tenant1 : Int) (strip2 : Int) (s0 : Scalps) (s : qp) (s_1 : zf) : Option (zf ⊕ (List Bool)) :=
 if s_1.k10 < (s_1.t21.length : Int) then
 ((if tenant1 < 0 then
 (if strip2 < 0 then
 ((ix s0.strips s_1.k10).bind fun t50 =>
 (ix s_1.t21 s_1.k10).bind fun t56 =>
 (some (s_1.t21.set (Int.toNat s_1.k10) (!decide (t50.tenant = s.t8)))).bind fun t21_1 =>
 some t21_1) else
 (if s_1.k10 = strip2 then
 ((ix s0.strips s_1.k10).bind fun t50_1 =>
 (ix s_1.t21 s_1.k10).bind fun t56_1 =>
 (some (s_1.t21.set (Int.toNat s_1.k10) (!decide (t50_1.tenant = s.t8)))).bind fun t21_2 =>
 some t21_2) else
 ((ix s_1.t21 s_1.k10).bind fun t56_2 =>
 (some (s_1.t21.set (Int.toNat s_1.k10) false)).bind fun t21_3 =>
 some t21_3))) else
 (if s.t8 = tenant1 then
 (if strip2 < 0 then
 ((ix s0.strips s_1.k10).bind fun t50_2 =>
 (ix s_1.t21 s_1.k10).bind fun t56_3 =>
 (some (s_1.t21.set (Int.toNat s_1.k10) (!decide (t50_2.tenant = s.t8)))).bind fun t21_4 =>
 some t21_4) else
 (if s_1.k10 = strip2 then
 ((ix s0.strips s_1.k10).bind fun t50_3 =>
 (ix s_1.t21 s_1.k10).bind fun t56_4 =>
 (some (s_1.t21.set (Int.toNat s_1.k10) (!decide (t50_3.tenant = s.t8)))).bind fun t21_5 =>
 some t21_5) else
 ((ix s_1.t21 s_1.k10).bind fun t56_5 =>
 (some (s_1.t21.set (Int.toNat s_1.k10) false)).bind fun t21_6 =>
 some t21_6))) else
 ((ix s_1.t21 s_1.k10).bind fun t56_6 =>
 (some (s_1.t21.set (Int.toNat s_1.k10) false)).bind fun t21_7 =>
 some t21_7))).bind fun o_2 =>
 (addc s_1.k10 1).bind fun t27 =>
 some (.inl (⟨t27, o_2⟩ : zf))) else
 (some (.inr s_1.t21))
def zp (s0 : Scalps) (tenant1 : Int) (strip2 : Int) (s : qp) : Option (qp ⊕ (List (List Bool))) :=
 if s.t8 < (s0.carried.length : Int) then
 ((makec 1 false (s0.strips.length : Int) (s0.strips.length : Int)).bind fun t21 =>
 (iterM FU (ye tenant1 strip2 s0 s) (⟨0, t21⟩ : zf)).bind fun o_1 =>
 (appc 24 s.out7 [o_1]).bind fun t60 =>
 (addc s.t8 1).bind fun t17 =>
 some (.inl (⟨t17, t60⟩ : qp))) else
 (some (.inr s.out7))
def Jv (s0 : Scalps) (tenant1 : Int) (strip2 : Int) : Option (List (List Bool)) :=
 (iterM FU (zp s0 tenant1 strip2) (⟨0, ([] : List (List Bool))⟩ : qp)).bind fun o =>
 some o
theorem ZV (s0 : Scalps) (tenant1 : Int) (strip2 : Int) (qa0 : Option Addr) (na0 ca0 : Nat) (qa1 : Option Addr) (na1 ca1 : Nat) (w : World) (hw : HV w (keys [] []) [] [] [(aB qa0, aO qa0, RSt.enc s0.strips), (aB qa1, aO qa1, RSp.enc s0.carried)] w) (hna0 : s0.strips.length = na0) (hqa0 : AOK na0 qa0) (hla0 : na0 ≤ ca0) (hna1 : s0.carried.length = na1) (hqa1 : AOK na1 qa1) (hla1 : na1 ≤ ca1) {res : (List (List Bool))} (hm : Jv s0 tenant1 strip2 = some res) :
    Calls Try.prog 26 #[.agg #[.slice qa0 na0 ca0, .slice qa1 na1 ca1], .int .i64 tenant1, .int .i64 strip2] w (fun en w' => ∃ l : DL, en = .returned (slv l.v.q l.v.n l.v.cap) ∧ (VOK 1 l.v.n l.v.cap (RwH.enc l.rs) l.v.sp l.v.q ∧ DOK RB res l.rs) ∧ HV w (keys [] []) [] [⟨136, RwH.enc l.rs, l.v.sp, l.v.q, dbl 4 RB res l.rs⟩] [] w') := by
  unfold Jv at hm
  refine kb Try.func26 rfl Try.ntmps26 rfl (e := [(0, _), (1, _), (2, _)]) rfl hw (jp ?_)
  refine jH rfl rfl (fun b h3 => ?_)
  refine jc rfl rfl rfl (fun _ _ => qj rfl) (j1 (jc rfl rfl rfl (fun _ _ => qj rfl) (jo (jj (jp (jm rfl rfl (jo ?_)))))))
  refine kr 136 ?_
  obtain ⟨o, h4, h5⟩ := bindO hm
  refine jC (ι := DL) (fun l => VOK 1 l.v.n l.v.cap (RwH.enc l.rs) l.v.sp l.v.q ∧ DOK RB o l.rs) (fun l => [(7, slv l.v.q l.v.n l.v.cap)]) (fun l => [(b, .cells #[.slice qa0 na0 ca0, .slice qa1 na1 ca1] 50 (0, 0))]) (fun l => [⟨136, RwH.enc l.rs, l.v.sp, l.v.q, dbl 4 RB o l.rs⟩]) ?_ ?_
  ·replace hm := h4
   refine jl ?_
   refine jF (ι := DL) hm (fun s l_1 => VOK 1 l_1.v.n l_1.v.cap (RwH.enc l_1.rs) l_1.v.sp l_1.v.q ∧ DOK RB s.out7 l_1.rs) (fun s l_1 => [(1, .int .i64 tenant1), (2, .int .i64 strip2), (3, ptr b 0), (7, slv l_1.v.q l_1.v.n l_1.v.cap), (8, .int .i64 s.t8)]) (fun s l_1 => [(b, .cells #[.slice qa0 na0 ca0, .slice qa1 na1 ca1] 50 (0, 0))]) (fun s l_1 => [⟨136, RwH.enc l_1.rs, l_1.v.sp, l_1.v.q, dbl 4 RB s.out7 l_1.rs⟩]) (⟨⟨none, 0, 0, []⟩, []⟩) (⟨VOK.nil, DOK.nil⟩) (sE rfl) (fun w hh => hh) (fun s l_1 r hpl hm h10 => ?_)
   obtain ⟨h8, h9⟩ := hpl
   unfold zp at hm
   refine jj (jp (jf rfl rfl (jL 1 Try.runUnderlying50 rfl Try.sizeOf26 rfl rfl (jU 0 Try.isAgg26 rfl rfl rfl rfl (jc rfl rfl rfl (fun w _ => jB hna1 (Try.runUnderlying26 w) rfl) (qv rfl rfl rfl (jo ?_)))))))
   refine jq rfl (fun h11 => ?_) (fun h11 => ?_)
   ·replace hm := ifD h11 hm
    refine jr (jb (jj (jl (jp (jL 0 Try.runUnderlying50 rfl Try.sizeOf48 rfl rfl (jU 0 Try.isAgg48 rfl rfl rfl rfl (jc rfl rfl rfl (fun w _ => jB hna0 (Try.runUnderlying48 w) rfl) ?_)))))))
    obtain ⟨t21, h12, hm⟩ := bindO hm
    refine km RB false h12 Try.underlying136 YL rfl rfl rfl rfl rfl (fun L h13 => ?_)
    refine jm rfl rfl (jo (jj (jp (jm rfl rfl (jo ?_)))))
    obtain ⟨o_1, h14, h15⟩ := bindO hm
    refine jC (ι := Unit) (fun l_2 => VOK 1 L.n L.cap (RB.enc o_1) L.sp L.q) (fun l_2 => [(1, .int .i64 tenant1), (2, .int .i64 strip2), (3, ptr b 0), (7, slv l_1.v.q l_1.v.n l_1.v.cap), (8, .int .i64 s.t8), (9, slv L.q L.n L.cap)]) (fun l_2 => [(b, .cells #[.slice qa0 na0 ca0, .slice qa1 na1 ca1] 50 (0, 0))]) (fun l_2 => [⟨136, RwH.enc l_1.rs, l_1.v.sp, l_1.v.q, dbl 4 RB s.out7 l_1.rs⟩, ⟨4, RB.enc o_1, L.sp, L.q, []⟩]) ?_ ?_
    ·replace hm := h14
     refine jl ?_
     refine jF (ι := Unit) hm (fun s_1 l_3 => VOK 1 L.n L.cap (RB.enc s_1.t21) L.sp L.q) (fun s_1 l_3 => [(1, .int .i64 tenant1), (2, .int .i64 strip2), (3, ptr b 0), (7, slv l_1.v.q l_1.v.n l_1.v.cap), (8, .int .i64 s.t8), (9, slv L.q L.n L.cap), (10, .int .i64 s_1.k10)]) (fun s_1 l_3 => [(b, .cells #[.slice qa0 na0 ca0, .slice qa1 na1 ca1] 50 (0, 0))]) (fun s_1 l_3 => [⟨136, RwH.enc l_1.rs, l_1.v.sp, l_1.v.q, dbl 4 RB s.out7 l_1.rs⟩, ⟨4, RB.enc s_1.t21, L.sp, L.q, []⟩]) () (h13) (sE rfl) (hsE [0] [1, 0] 0 rfl rfl rfl rfl) (fun s_1 l_3 r_1 hpl hm h18 => ?_)
     have h17 := hpl
     unfold ye at hm
     refine jj (jp (jf rfl rfl (jf rfl rfl (jc rfl rfl rfl (fun w _ => JI (vlen RB h17 rfl) (Try.runUnderlying136 w) rfl) (qv rfl rfl rfl (jo ?_))))))
     refine jq rfl (fun h19 => ?_) (fun h19 => ?_)
     ·replace hm := ifD h19 hm
      refine jr (jb (jj ?_))
      obtain ⟨o_2, h20, h21⟩ := bindO hm
      refine jC (ι := Unit) (fun l_4 => VOK 1 L.n L.cap (RB.enc o_2) L.sp L.q) (fun l_4 => [(1, .int .i64 tenant1), (2, .int .i64 strip2), (3, ptr b 0), (7, slv l_1.v.q l_1.v.n l_1.v.cap), (8, .int .i64 s.t8), (9, slv L.q L.n L.cap), (10, .int .i64 s_1.k10)]) (fun l_4 => [(b, .cells #[.slice qa0 na0 ca0, .slice qa1 na1 ca1] 50 (0, 0))]) (fun l_4 => [⟨136, RwH.enc l_1.rs, l_1.v.sp, l_1.v.q, dbl 4 RB s.out7 l_1.rs⟩, ⟨4, RB.enc o_2, L.sp, L.q, []⟩]) ?_ ?_
      ·replace hm := h20
       refine jl (jh (jf rfl rfl (jf rfl rfl (jf rfl rfl (qv rfl rfl rfl (jf rfl rfl ?_))))))
       refine jD 32 rfl (fun h23 => ?_) (fun h23 => ?_)
       ·replace hm := ifD h23 hm
        refine g_k rfl rfl rfl rfl (g_k rfl rfl rfl rfl (g_k rfl rfl rfl rfl (j3 rfl rfl rfl (jf rfl rfl (ja rfl rfl (jf rfl rfl (ja rfl rfl ?_)))))))
        refine qv rfl rfl rfl (ja rfl rfl (jf rfl rfl ?_))
        refine jD 40 rfl (fun h24 => ?_) (fun h24 => ?_)
        ·replace hm := ifD h24 hm
         refine g_k rfl rfl rfl rfl (g_k rfl rfl rfl rfl (g_k rfl rfl rfl rfl (ja rfl rfl (j3 rfl rfl rfl (j3 rfl rfl rfl (jf rfl rfl (ja rfl rfl ?_)))))))
         refine jL 0 Try.runUnderlying50 rfl Try.sizeOf48 rfl rfl (ja rfl rfl (jU 0 Try.isAgg48 rfl rfl rfl rfl (ja rfl rfl (jf rfl rfl (ja rfl rfl ?_)))))
         obtain ⟨t50, h25, hm⟩ := bindO hm
         refine jc rfl rfl rfl (fun w _ => jW h25 (Try.runUnderlying48 w) (Try.sizeOf135 w) rfl rfl hna0 hqa0) (ja rfl rfl (jL 0 Try.runUnderlying135 rfl Try.sizeOf3 rfl rfl (ja rfl rfl (jc rfl rfl rfl (fun w hh => jV RSt 0 h25 (Try.isAgg3 w) rfl (hh.seg 0 rfl) rfl rfl) (ja rfl rfl (jf rfl rfl (ja rfl rfl ?_)))))))
         refine jc rfl rfl rfl (fun _ _ => kv rfl rfl) (j3 rfl rfl rfl ?_)
         obtain ⟨t56, h26, hm⟩ := bindO hm
         refine jc rfl rfl rfl (fun w _ => qe h26 (Try.runUnderlying136 w) (Try.sizeOf4 w) rfl rfl (vlen RB h17 rfl) (vne h17)) ?_
         obtain ⟨t21_1, ht21_1, hm⟩ := bindO hm
         refine KU RB 1 0 (!decide (t50.tenant = s.t8)) (fun w => Try.sizeOf4 w) rfl rfl rfl rfl h17 rfl (Nat.add_zero _).symm rfl h26 rfl rfl (Option.some.inj ht21_1) (fun h27 => ?_)
         refine jS (S' := [_]) (vs' := [_, _]) [0] [0, 1] 0 rfl rfl rfl rfl (jv (js ?_))
         obtain rfl := sj hm
         exact jg () (h27) (sE rfl) (fun w hh => hh)
        ·replace hm := ifE h24 hm
         refine ja rfl rfl (jf rfl rfl (ja rfl rfl (jf rfl rfl (ja rfl rfl (jc rfl rfl rfl (fun _ _ => zr rfl rfl) (ja rfl rfl (ki rfl rfl rfl ?_)))))))
         refine j3 rfl rfl rfl (jf rfl rfl ?_)
         refine jD 46 rfl (fun h28 => ?_) (fun h28 => ?_)
         ·replace hm := ifD h28 hm
          refine ja rfl rfl (jL 0 Try.runUnderlying50 rfl Try.sizeOf48 rfl rfl (ja rfl rfl (jU 0 Try.isAgg48 rfl rfl rfl rfl (ja rfl rfl (jf rfl rfl (ja rfl rfl ?_))))))
          obtain ⟨t50_1, h29, hm⟩ := bindO hm
          refine jc rfl rfl rfl (fun w _ => jW h29 (Try.runUnderlying48 w) (Try.sizeOf135 w) rfl rfl hna0 hqa0) (ja rfl rfl (jL 0 Try.runUnderlying135 rfl Try.sizeOf3 rfl rfl (ja rfl rfl (jc rfl rfl rfl (fun w hh => jV RSt 0 h29 (Try.isAgg3 w) rfl (hh.seg 0 rfl) rfl rfl) (ja rfl rfl (jf rfl rfl (ja rfl rfl ?_)))))))
          refine jc rfl rfl rfl (fun _ _ => kv rfl rfl) (j3 rfl rfl rfl ?_)
          obtain ⟨t56_1, h30, hm⟩ := bindO hm
          refine jc rfl rfl rfl (fun w _ => qe h30 (Try.runUnderlying136 w) (Try.sizeOf4 w) rfl rfl (vlen RB h17 rfl) (vne h17)) ?_
          obtain ⟨t21_2, ht21_2, hm⟩ := bindO hm
          refine KU RB 1 0 (!decide (t50_1.tenant = s.t8)) (fun w => Try.sizeOf4 w) rfl rfl rfl rfl h17 rfl (Nat.add_zero _).symm rfl h30 rfl rfl (Option.some.inj ht21_2) (fun h31 => ?_)
          refine jS (S' := [_]) (vs' := [_, _]) [0] [0, 1] 0 rfl rfl rfl rfl (jv (js ?_))
          obtain rfl := sj hm
          exact jg () (h31) (sE rfl) (fun w hh => hh)
         ·replace hm := ifE h28 hm
          refine g_k rfl rfl rfl rfl (g_k rfl rfl rfl rfl (g_k rfl rfl rfl rfl (g_k rfl rfl rfl rfl (g_k rfl rfl rfl rfl (g_k rfl rfl rfl rfl (g_k rfl rfl rfl rfl (g_k rfl rfl rfl rfl ?_)))))))
          refine ki rfl rfl rfl ?_
          obtain ⟨t56_2, h32, hm⟩ := bindO hm
          refine jc rfl rfl rfl (fun w _ => qe h32 (Try.runUnderlying136 w) (Try.sizeOf4 w) rfl rfl (vlen RB h17 rfl) (vne h17)) ?_
          obtain ⟨t21_3, ht21_3, hm⟩ := bindO hm
          refine KU RB 1 0 false (fun w => Try.sizeOf4 w) rfl rfl rfl rfl h17 rfl (Nat.add_zero _).symm rfl h32 rfl rfl (Option.some.inj ht21_3) (fun h33 => ?_)
          refine jS (S' := [_]) (vs' := [_, _]) [0] [0, 1] 0 rfl rfl rfl rfl (jv (js ?_))
          obtain rfl := sj hm
          exact jg () (h33) (sE rfl) (fun w hh => hh)
       ·replace hm := ifE h23 hm
        refine ja rfl rfl (jf rfl rfl (ja rfl rfl (jf rfl rfl (ja rfl rfl (jc rfl rfl rfl (fun _ _ => zr rfl rfl) (ki rfl rfl rfl (jf rfl rfl ?_)))))))
        refine jD 37 rfl (fun h34 => ?_) (fun h34 => ?_)
        ·replace hm := ifD h34 hm
         refine ja rfl rfl (jf rfl rfl (ja rfl rfl (qv rfl rfl rfl (ja rfl rfl (jf rfl rfl ?_)))))
         refine jD 40 rfl (fun h35 => ?_) (fun h35 => ?_)
         ·replace hm := ifD h35 hm
          refine g_k rfl rfl rfl rfl (g_k rfl rfl rfl rfl (g_k rfl rfl rfl rfl (ja rfl rfl (j3 rfl rfl rfl (j3 rfl rfl rfl (jf rfl rfl (ja rfl rfl ?_)))))))
          refine jL 0 Try.runUnderlying50 rfl Try.sizeOf48 rfl rfl (ja rfl rfl (jU 0 Try.isAgg48 rfl rfl rfl rfl (ja rfl rfl (jf rfl rfl (ja rfl rfl ?_)))))
          obtain ⟨t50_2, h36, hm⟩ := bindO hm
          refine jc rfl rfl rfl (fun w _ => jW h36 (Try.runUnderlying48 w) (Try.sizeOf135 w) rfl rfl hna0 hqa0) (ja rfl rfl (jL 0 Try.runUnderlying135 rfl Try.sizeOf3 rfl rfl (ja rfl rfl (jc rfl rfl rfl (fun w hh => jV RSt 0 h36 (Try.isAgg3 w) rfl (hh.seg 0 rfl) rfl rfl) (ja rfl rfl (jf rfl rfl (ja rfl rfl ?_)))))))
          refine jc rfl rfl rfl (fun _ _ => kv rfl rfl) (j3 rfl rfl rfl ?_)
          obtain ⟨t56_3, h37, hm⟩ := bindO hm
          refine jc rfl rfl rfl (fun w _ => qe h37 (Try.runUnderlying136 w) (Try.sizeOf4 w) rfl rfl (vlen RB h17 rfl) (vne h17)) ?_
          obtain ⟨t21_4, ht21_4, hm⟩ := bindO hm
          refine KU RB 1 0 (!decide (t50_2.tenant = s.t8)) (fun w => Try.sizeOf4 w) rfl rfl rfl rfl h17 rfl (Nat.add_zero _).symm rfl h37 rfl rfl (Option.some.inj ht21_4) (fun h38 => ?_)
          refine jS (S' := [_]) (vs' := [_, _]) [0] [0, 1] 0 rfl rfl rfl rfl (jv (js ?_))
          obtain rfl := sj hm
          exact jg () (h38) (sE rfl) (fun w hh => hh)
         ·replace hm := ifE h35 hm
          refine ja rfl rfl (jf rfl rfl (ja rfl rfl (jf rfl rfl (ja rfl rfl (jc rfl rfl rfl (fun _ _ => zr rfl rfl) (ja rfl rfl (ki rfl rfl rfl ?_)))))))
          refine j3 rfl rfl rfl (jf rfl rfl ?_)
          refine jD 46 rfl (fun h39 => ?_) (fun h39 => ?_)
          ·replace hm := ifD h39 hm
           refine ja rfl rfl (jL 0 Try.runUnderlying50 rfl Try.sizeOf48 rfl rfl (ja rfl rfl (jU 0 Try.isAgg48 rfl rfl rfl rfl (ja rfl rfl (jf rfl rfl (ja rfl rfl ?_))))))
           obtain ⟨t50_3, h40, hm⟩ := bindO hm
           refine jc rfl rfl rfl (fun w _ => jW h40 (Try.runUnderlying48 w) (Try.sizeOf135 w) rfl rfl hna0 hqa0) (ja rfl rfl (jL 0 Try.runUnderlying135 rfl Try.sizeOf3 rfl rfl (ja rfl rfl (jc rfl rfl rfl (fun w hh => jV RSt 0 h40 (Try.isAgg3 w) rfl (hh.seg 0 rfl) rfl rfl) (ja rfl rfl (jf rfl rfl (ja rfl rfl ?_)))))))
           refine jc rfl rfl rfl (fun _ _ => kv rfl rfl) (j3 rfl rfl rfl ?_)
           obtain ⟨t56_4, h41, hm⟩ := bindO hm
           refine jc rfl rfl rfl (fun w _ => qe h41 (Try.runUnderlying136 w) (Try.sizeOf4 w) rfl rfl (vlen RB h17 rfl) (vne h17)) ?_
           obtain ⟨t21_5, ht21_5, hm⟩ := bindO hm
           refine KU RB 1 0 (!decide (t50_3.tenant = s.t8)) (fun w => Try.sizeOf4 w) rfl rfl rfl rfl h17 rfl (Nat.add_zero _).symm rfl h41 rfl rfl (Option.some.inj ht21_5) (fun h42 => ?_)
           refine jS (S' := [_]) (vs' := [_, _]) [0] [0, 1] 0 rfl rfl rfl rfl (jv (js ?_))
           obtain rfl := sj hm
           exact jg () (h42) (sE rfl) (fun w hh => hh)
          ·replace hm := ifE h39 hm
           refine g_k rfl rfl rfl rfl (g_k rfl rfl rfl rfl (g_k rfl rfl rfl rfl (g_k rfl rfl rfl rfl (g_k rfl rfl rfl rfl (g_k rfl rfl rfl rfl (g_k rfl rfl rfl rfl (g_k rfl rfl rfl rfl ?_)))))))
           refine ki rfl rfl rfl ?_
           obtain ⟨t56_5, h43, hm⟩ := bindO hm
           refine jc rfl rfl rfl (fun w _ => qe h43 (Try.runUnderlying136 w) (Try.sizeOf4 w) rfl rfl (vlen RB h17 rfl) (vne h17)) ?_
           obtain ⟨t21_6, ht21_6, hm⟩ := bindO hm
           refine KU RB 1 0 false (fun w => Try.sizeOf4 w) rfl rfl rfl rfl h17 rfl (Nat.add_zero _).symm rfl h43 rfl rfl (Option.some.inj ht21_6) (fun h44 => ?_)
           refine jS (S' := [_]) (vs' := [_, _]) [0] [0, 1] 0 rfl rfl rfl rfl (jv (js ?_))
           obtain rfl := sj hm
           exact jg () (h44) (sE rfl) (fun w hh => hh)
        ·replace hm := ifE h34 hm
         refine g_k rfl rfl rfl rfl (g_k rfl rfl rfl rfl (g_k rfl rfl rfl rfl ?_))
         refine jZ rfl rfl rfl rfl rfl ?_
         refine jZ rfl rfl rfl rfl rfl ?_
         refine jZ rfl rfl rfl rfl rfl ?_
         refine g_k rfl rfl rfl rfl (ki rfl rfl rfl (jf rfl rfl (g_k rfl rfl rfl rfl (g_k rfl rfl rfl rfl (g_k rfl rfl rfl rfl (g_k rfl rfl rfl rfl (g_k rfl rfl rfl rfl ?_)))))))
         refine g_k rfl rfl rfl rfl (g_k rfl rfl rfl rfl (g_k rfl rfl rfl rfl (ki rfl rfl rfl ?_)))
         obtain ⟨t56_6, h45, hm⟩ := bindO hm
         refine jc rfl rfl rfl (fun w _ => qe h45 (Try.runUnderlying136 w) (Try.sizeOf4 w) rfl rfl (vlen RB h17 rfl) (vne h17)) ?_
         obtain ⟨t21_7, ht21_7, hm⟩ := bindO hm
         refine KU RB 1 0 false (fun w => Try.sizeOf4 w) rfl rfl rfl rfl h17 rfl (Nat.add_zero _).symm rfl h45 rfl rfl (Option.some.inj ht21_7) (fun h46 => ?_)
         refine jS (S' := [_]) (vs' := [_, _]) [0] [0, 1] 0 rfl rfl rfl rfl (jv (js ?_))
         obtain rfl := sj hm
         exact jg () (h46) (sE rfl) (fun w hh => hh)
      ·intro l_4 hj
       have h22 := hj
       replace hm := h21
       refine jb (jh (jf rfl rfl ?_))
       obtain ⟨t27, h47, hm⟩ := bindO hm
       refine kt h47 rfl rfl rfl (jm rfl rfl (jv ?_))
       obtain rfl := sj hm
       refine jb ?_
       exact jy _ () rfl (h22) (sE rfl) (fun w hh => hh)
     ·replace hm := ifE h19 hm
      refine jM (ji (ji (jz ?_)))
      obtain rfl := sj hm
      have hbo := h18 _ rfl
      subst hbo
      exact jg () (h17) (sE rfl) (fun w hh => hh)
    ·intro l_2 hj
     have h16 := hj
     replace hm := h15
     refine jb (jh (jf rfl rfl (jf rfl rfl ?_)))
     refine kW RwH [(⟨L.q, L.n, L.cap, L.sp⟩ : VL)] (ps := [(0, _)]) (cells := [_]) (fun w => Try.runUnderlying56 w) (fun w => Try.sizeOf136 w) (fun w => Try.zeroValue136 w) rfl rfl rfl rfl rfl rfl rfl rfl (fun L_1 h48 => ?_)
     refine jaz (E2 := 4) RB 1 (rfl : _ = ([[]] : List (List Bool))) (fun h49 => ?_)
     refine jS (S' := [_]) (vs' := [_, _, _]) [0] [0, 2, 1] 0 rfl rfl rfl rfl ?_
     refine jay RB (l' := [o_1]) 0 L.n L.cap h49 h16 rfl rfl (fun h50 => ?_)
     have h51 : DOK RB [o_1] [(⟨L.q, L.n, L.cap, L.sp⟩ : VL)] := h50
     refine jbl (S' := [_]) (vs' := [⟨136, RwH.enc [(⟨L.q, L.n, L.cap, L.sp⟩ : VL)], L_1.sp, L_1.q, dbl 4 RB [o_1] [(⟨L.q, L.n, L.cap, L.sp⟩ : VL)]⟩, ⟨136, RwH.enc l_1.rs, l_1.v.sp, l_1.v.q, dbl 4 RB s.out7 l_1.rs⟩]) [0] [0, 1] 0 (by decide) (by decide) rfl rfl rfl ?_
     obtain ⟨t60, h52, hm⟩ := bindO hm
     refine y4 RwH 1 (appcL h52 (h9).len (h51).len) Try.underlying56 jap rfl rfl rfl rfl rfl h8 rfl rfl (vlen RwH h48 rfl) (AOK.q (vne h48)) (fun w hh => (hh.vsegA 0 rfl h48)) rfl (fun L_2 h53 _ => ?_)
     refine jS (S' := [_]) (vs' := [_, _]) [0] [0, 1] 0 rfl rfl rfl rfl (jS (S' := [_]) (vs' := [_, _]) [0] [1, 0] 0 rfl rfl rfl rfl ?_)
     refine jaT RB h9 h51 (appcO h52).1.symm (fun h54 => ?_)
     refine jm rfl rfl (jv (js (jb (jh (jf rfl rfl ?_)))))
     obtain ⟨t17, h55, hm⟩ := bindO hm
     refine kt h55 rfl rfl rfl (jm rfl rfl (jv ?_))
     obtain rfl := sj hm
     refine jb ?_
     exact jy _ (⟨⟨L_2.q, L_2.n, L_2.cap, L_2.sp⟩, (l_1.rs ++ [(⟨L.q, L.n, L.cap, L.sp⟩ : VL)])⟩) rfl (⟨h53, h54⟩) (sE rfl) (fun w hh => hh)
   ·replace hm := ifE h11 hm
    refine jM (ji (ji (jz ?_)))
    obtain rfl := sj hm
    have hbo := h10 _ rfl
    subst hbo
    exact jg l_1 (⟨h8, h9⟩) (sE rfl) (fun w hh => hh)
  ·intro l hj
   obtain ⟨h6, h7⟩ := hj
   replace hm := h5
   refine jb (jp (jf rfl rfl (jm rfl rfl (jo (jw ?_)))))
   obtain rfl := sj hm
   refine jn rfl (fun w hh => (.tmp rfl .nil)) (fun w hh => ⟨l, rfl, ⟨h6, h7⟩, hh.se [] [0] 2 rfl rfl rfl rfl⟩)
structure Zi where
  t2_can : (List Bool)
  t2_least : (List Int)
  t2_most : (List Int)
def J9 (n0 : Int) : Option Book :=
 ((makec 1 false n0 n0).bind fun t4 =>
 (makec 8 0 n0 n0).bind fun t6 =>
 (makec 8 0 n0 n0).bind fun t8 =>
 some (⟨t4, t6, t8⟩ : Zi)).bind fun o =>
 some (⟨o.t2_can, o.t2_least, o.t2_most⟩ : Book)
theorem Zj (n0 : Int)  (w : World) (hw : HV w (keys [] []) [] [] [] w)  {res : Book} (hm : J9 n0 = some res) :
    Calls Try.prog 83 #[.int .i64 n0] w (fun en w' => ∃ l : VL × VL × VL, en = .returned (.agg #[slv l.1.q l.1.n l.1.cap, slv l.2.1.q l.2.1.n l.2.1.cap, slv l.2.2.q l.2.2.n l.2.2.cap]) ∧ (VOK 1 l.1.n l.1.cap (RB.enc res.can) l.1.sp l.1.q ∧ VOK 1 l.2.1.n l.2.1.cap (RI.enc res.least) l.2.1.sp l.2.1.q ∧ VOK 1 l.2.2.n l.2.2.cap (RI.enc res.most) l.2.2.sp l.2.2.q) ∧ HV w (keys [] []) [] [⟨4, RB.enc res.can, l.1.sp, l.1.q, []⟩, ⟨3, RI.enc res.least, l.2.1.sp, l.2.1.q, []⟩, ⟨3, RI.enc res.most, l.2.2.sp, l.2.2.q, []⟩] [] w') := by
  unfold J9 at hm
  refine kb Try.func83 rfl Try.ntmps83 rfl (e := [(0, _)]) rfl hw (jp ?_)
  refine jt (fun w => Try.zeroValue138 w) rfl (fun b h4 => ?_)
  refine jo (jj (kr 4 (kr 3 (kr 3 ?_))))
  obtain ⟨o, h5, h6⟩ := bindO hm
  refine jC (ι := VL × VL × VL) (fun l => VOK 1 l.1.n l.1.cap (RB.enc o.t2_can) l.1.sp l.1.q ∧ VOK 1 l.2.1.n l.2.1.cap (RI.enc o.t2_least) l.2.1.sp l.2.1.q ∧ VOK 1 l.2.2.n l.2.2.cap (RI.enc o.t2_most) l.2.2.sp l.2.2.q) (fun l => [(2, ptr b 0)]) (fun l => [(b, .cells #[slv l.1.q l.1.n l.1.cap, slv l.2.1.q l.2.1.n l.2.1.cap, slv l.2.2.q l.2.2.n l.2.2.cap] 138 (0, 0))]) (fun l => [⟨4, RB.enc o.t2_can, l.1.sp, l.1.q, []⟩, ⟨3, RI.enc o.t2_least, l.2.1.sp, l.2.1.q, []⟩, ⟨3, RI.enc o.t2_most, l.2.2.sp, l.2.2.q, []⟩]) ?_ ?_
  ·replace hm := h5
   obtain ⟨t4, h10, hm⟩ := bindO hm
   obtain ⟨t6, h11, hm⟩ := bindO hm
   obtain ⟨t8, h12, hm⟩ := bindO hm
   refine jX none (.free 0 (.free 2 (.free 4 (.br (.alt 1 (.br (.alt 3 (.one 5 (.free 6 (.one 7 .done))) (.alt 5 (.one 3 (.free 6 (.one 7 .done))) .nil))) (.alt 3 (.br (.alt 1 (.one 5 (.free 6 (.one 7 .done))) (.alt 5 (.one 1 (.free 6 (.one 7 .done))) .nil))) (.alt 5 (.br (.alt 1 (.one 3 (.free 6 (.one 7 .done))) (.alt 3 (.one 1 (.free 6 (.one 7 .done))) .nil))) .nil))))))) (HV _ _ [] [⟨3, RI.enc [], [], none, []⟩, ⟨3, RI.enc [], [], none, []⟩, ⟨4, RB.enc [], [], none, []⟩] _) rfl (by decide +kernel) (fun w k hh => hh.draw k) (hsE [] [0, 1, 2] 0 rfl rfl rfl rfl) ?_
   refine kg rfl rfl rfl (kg rfl rfl rfl (kg rfl rfl rfl (YX ?_)))
   refine kQ rfl ?_ ?_
   ·refine km RB false h10 Try.underlying136 YL rfl rfl rfl rfl rfl (fun L h13 => ?_)
    refine ju (hsE [] [1, 2, 3] 0 rfl rfl rfl rfl) (YX ?_)
    refine kQ rfl ?_ ?_
    ·refine km RI 0 h11 Try.underlying32 JJ rfl rfl rfl rfl rfl (fun L_1 h14 => ?_)
     refine ju (hsE [] [2, 3, 4] 0 rfl rfl rfl rfl) (jK rfl ?_)
     refine km RI 0 h12 Try.underlying32 JJ rfl rfl rfl rfl rfl (fun L_2 h15 => ?_)
     refine ju (hsE [] [3, 4, 5] 0 rfl rfl rfl rfl) (jk rfl rfl rfl rfl (fun _ _ => jG (vs := [(0, _), (1, _), (2, _)]) (cells := [_, _, _]) rfl rfl) (jK rfl (jE (us := #[_, _, _]) (cs' := [_, _, _]) (S' := [_]) 0 (fun w => Try.sizeOf138 w) rfl rfl rfl rfl rfl rfl rfl (ju (hsE [] [3, 4, 5] 0 rfl rfl rfl rfl) (jI ?_)))))
     obtain rfl := sj hm
     exact jg (L, L_1, L_2) (⟨h13, h14, h15⟩) (sE rfl) (hsE [0] [2, 1, 0] 0 rfl rfl rfl rfl)
    refine kQ rfl ?_ ?_
    ·refine km RI 0 h12 Try.underlying32 JJ rfl rfl rfl rfl rfl (fun L_3 h16 => ?_)
     refine ju (hsE [] [2, 3, 4] 0 rfl rfl rfl rfl) (jK rfl ?_)
     refine km RI 0 h11 Try.underlying32 JJ rfl rfl rfl rfl rfl (fun L_4 h17 => ?_)
     refine ju (hsE [] [3, 4, 5] 0 rfl rfl rfl rfl) (jk rfl rfl rfl rfl (fun _ _ => jG (vs := [(0, _), (1, _), (2, _)]) (cells := [_, _, _]) rfl rfl) (jK rfl (jE (us := #[_, _, _]) (cs' := [_, _, _]) (S' := [_]) 0 (fun w => Try.sizeOf138 w) rfl rfl rfl rfl rfl rfl rfl (ju (hsE [] [3, 4, 5] 0 rfl rfl rfl rfl) (jI ?_)))))
     obtain rfl := sj hm
     exact jg (L, L_4, L_3) (⟨h13, h17, h16⟩) (sE rfl) (hsE [0] [2, 0, 1] 0 rfl rfl rfl rfl)
    exact Ks
   refine kQ rfl ?_ ?_
   ·refine km RI 0 h11 Try.underlying32 JJ rfl rfl rfl rfl rfl (fun L_5 h18 => ?_)
    refine ju (hsE [] [1, 2, 3] 0 rfl rfl rfl rfl) (YX ?_)
    refine kQ rfl ?_ ?_
    ·refine km RB false h10 Try.underlying136 YL rfl rfl rfl rfl rfl (fun L_6 h19 => ?_)
     refine ju (hsE [] [2, 3, 4] 0 rfl rfl rfl rfl) (jK rfl ?_)
     refine km RI 0 h12 Try.underlying32 JJ rfl rfl rfl rfl rfl (fun L_7 h20 => ?_)
     refine ju (hsE [] [3, 4, 5] 0 rfl rfl rfl rfl) (jk rfl rfl rfl rfl (fun _ _ => jG (vs := [(0, _), (1, _), (2, _)]) (cells := [_, _, _]) rfl rfl) (jK rfl (jE (us := #[_, _, _]) (cs' := [_, _, _]) (S' := [_]) 0 (fun w => Try.sizeOf138 w) rfl rfl rfl rfl rfl rfl rfl (ju (hsE [] [3, 4, 5] 0 rfl rfl rfl rfl) (jI ?_)))))
     obtain rfl := sj hm
     exact jg (L_6, L_5, L_7) (⟨h19, h18, h20⟩) (sE rfl) (hsE [0] [1, 2, 0] 0 rfl rfl rfl rfl)
    refine kQ rfl ?_ ?_
    ·refine km RI 0 h12 Try.underlying32 JJ rfl rfl rfl rfl rfl (fun L_8 h21 => ?_)
     refine ju (hsE [] [2, 3, 4] 0 rfl rfl rfl rfl) (jK rfl ?_)
     refine km RB false h10 Try.underlying136 YL rfl rfl rfl rfl rfl (fun L_9 h22 => ?_)
     refine ju (hsE [] [3, 4, 5] 0 rfl rfl rfl rfl) (jk rfl rfl rfl rfl (fun _ _ => jG (vs := [(0, _), (1, _), (2, _)]) (cells := [_, _, _]) rfl rfl) (jK rfl (jE (us := #[_, _, _]) (cs' := [_, _, _]) (S' := [_]) 0 (fun w => Try.sizeOf138 w) rfl rfl rfl rfl rfl rfl rfl (ju (hsE [] [3, 4, 5] 0 rfl rfl rfl rfl) (jI ?_)))))
     obtain rfl := sj hm
     exact jg (L_9, L_5, L_8) (⟨h22, h18, h21⟩) (sE rfl) (hsE [0] [0, 2, 1] 0 rfl rfl rfl rfl)
    exact Ks
   refine kQ rfl ?_ ?_
   ·refine km RI 0 h12 Try.underlying32 JJ rfl rfl rfl rfl rfl (fun L_10 h23 => ?_)
    refine ju (hsE [] [1, 2, 3] 0 rfl rfl rfl rfl) (YX ?_)
    refine kQ rfl ?_ ?_
    ·refine km RB false h10 Try.underlying136 YL rfl rfl rfl rfl rfl (fun L_11 h24 => ?_)
     refine ju (hsE [] [2, 3, 4] 0 rfl rfl rfl rfl) (jK rfl ?_)
     refine km RI 0 h11 Try.underlying32 JJ rfl rfl rfl rfl rfl (fun L_12 h25 => ?_)
     refine ju (hsE [] [3, 4, 5] 0 rfl rfl rfl rfl) (jk rfl rfl rfl rfl (fun _ _ => jG (vs := [(0, _), (1, _), (2, _)]) (cells := [_, _, _]) rfl rfl) (jK rfl (jE (us := #[_, _, _]) (cs' := [_, _, _]) (S' := [_]) 0 (fun w => Try.sizeOf138 w) rfl rfl rfl rfl rfl rfl rfl (ju (hsE [] [3, 4, 5] 0 rfl rfl rfl rfl) (jI ?_)))))
     obtain rfl := sj hm
     exact jg (L_11, L_12, L_10) (⟨h24, h25, h23⟩) (sE rfl) (hsE [0] [1, 0, 2] 0 rfl rfl rfl rfl)
    refine kQ rfl ?_ ?_
    ·refine km RI 0 h11 Try.underlying32 JJ rfl rfl rfl rfl rfl (fun L_13 h26 => ?_)
     refine ju (hsE [] [2, 3, 4] 0 rfl rfl rfl rfl) (jK rfl ?_)
     refine km RB false h10 Try.underlying136 YL rfl rfl rfl rfl rfl (fun L_14 h27 => ?_)
     refine ju (hsE [] [3, 4, 5] 0 rfl rfl rfl rfl) (jk rfl rfl rfl rfl (fun _ _ => jG (vs := [(0, _), (1, _), (2, _)]) (cells := [_, _, _]) rfl rfl) (jK rfl (jE (us := #[_, _, _]) (cs' := [_, _, _]) (S' := [_]) 0 (fun w => Try.sizeOf138 w) rfl rfl rfl rfl rfl rfl rfl (ju (hsE [] [3, 4, 5] 0 rfl rfl rfl rfl) (jI ?_)))))
     obtain rfl := sj hm
     exact jg (L_14, L_13, L_10) (⟨h27, h26, h23⟩) (sE rfl) (hsE [0] [0, 1, 2] 0 rfl rfl rfl rfl)
    exact Ks
   exact Ks
  ·intro l hj
   obtain ⟨h7, h8, h9⟩ := hj
   replace hm := h6
   refine jb (jw ?_)
   obtain rfl := sj hm
   refine jn rfl (fun w hh => (.cell rfl (loadVar_agg (vs := [_, _, _]) (Try.isAgg138 _) (Try.sizeOf138 _) (hh.cells 0 rfl rfl)) .nil)) (fun w hh => ⟨(l.1, l.2.1, l.2.2), rfl, ⟨h7, h8, h9⟩, hh.se [] [0, 1, 2] 0 rfl rfl rfl rfl⟩)
def zK (s0 : Scalps) (strip1 : Int) : Option Span :=
 (ix s0.strips strip1).bind fun t9 =>
 (addc t9.lay.lo t9.seeded.lo).bind fun t17 =>
 (subc t17 t9.left.hi).bind fun t21 =>
 (addc t9.lay.hi t9.seeded.hi).bind fun t29 =>
 (subc t29 t9.left.lo).bind fun t33 =>
 some (⟨(max 0 t21), t33⟩ : Span)
theorem Ye (s0 : Scalps) (strip1 : Int) (qa0 : Option Addr) (na0 ca0 : Nat) (qa1 : Option Addr) (na1 ca1 : Nat) (w : World) (hw : HV w (keys [] []) [] [] [(aB qa0, aO qa0, RSt.enc s0.strips), (aB qa1, aO qa1, RSp.enc s0.carried)] w) (hna0 : s0.strips.length = na0) (hqa0 : AOK na0 qa0) (hla0 : na0 ≤ ca0) (hna1 : s0.carried.length = na1) (hqa1 : AOK na1 qa1) (hla1 : na1 ≤ ca1) {res : Span} (hm : zK s0 strip1 = some res) :
    Calls Try.prog 86 #[.agg #[.slice qa0 na0 ca0, .slice qa1 na1 ca1], .int .i64 strip1] w (fun en w' => ∃ l : Unit, en = .returned (.agg #[.int .i64 res.lo, .int .i64 res.hi]) ∧ (True) ∧ HV w (keys [] []) [] [] [] w') := by
  unfold zK at hm
  refine kb Try.func86 rfl Try.ntmps86 rfl (e := [(0, _), (1, _)]) rfl hw (jp ?_)
  refine jH rfl rfl (fun b h1 => ?_)
  refine jt (fun w => Try.zeroValue37 w) rfl (fun b_1 h2 => ?_)
  refine j1 (jL 0 Try.runUnderlying50 rfl Try.sizeOf48 rfl rfl (jU 1 Try.isAgg48 rfl rfl rfl rfl (jf rfl rfl ?_)))
  obtain ⟨t9, h3, hm⟩ := bindO hm
  refine jc rfl rfl rfl (fun w _ => jW h3 (Try.runUnderlying48 w) (Try.sizeOf135 w) rfl rfl hna0 hqa0) ?_
  refine jc rfl rfl rfl (fun w hh => kk RSt 0 [.int .i64 t9.tenant, .int .i64 t9.lay.lo, .int .i64 t9.lay.hi, .int .i64 t9.seeded.lo, .int .i64 t9.seeded.hi, .int .i64 t9.left.lo, .int .i64 t9.left.hi] h3 (Try.isAgg135 w) (Try.sizeOf135 w) rfl (hh.seg 0 rfl) rfl (Nat.add_zero _).symm) ?_
  refine jt (fun w => Try.zeroValue135 w) rfl (fun b_2 h4 => ?_)
  refine jE (us := #[_, _, _, _, _, _, _]) (cs' := [_, _, _, _, _, _, _]) (S' := [_, _, _]) 0 (fun w => Try.sizeOf135 w) rfl rfl rfl rfl rfl rfl rfl (j1 (jL 1 Try.runUnderlying135 rfl Try.sizeOf37 rfl rfl (jL 0 Try.runUnderlying37 rfl Try.sizeOf3 rfl rfl (jU 0 Try.isAgg3 rfl rfl rfl rfl (jL 3 Try.runUnderlying135 rfl Try.sizeOf37 rfl rfl (jL 0 Try.runUnderlying37 rfl Try.sizeOf3 rfl rfl (jU 0 Try.isAgg3 rfl rfl rfl rfl ?_)))))))
  obtain ⟨t17, h5, hm⟩ := bindO hm
  refine kt h5 rfl rfl rfl (jL 5 Try.runUnderlying135 rfl Try.sizeOf37 rfl rfl (jL 1 Try.runUnderlying37 rfl Try.sizeOf3 rfl rfl (jU 0 Try.isAgg3 rfl rfl rfl rfl ?_)))
  obtain ⟨t21, h6, hm⟩ := bindO hm
  refine jc rfl rfl rfl (fun _ _ => k9 h6 rfl rfl) (jc rfl rfl rfl (fun _ _ => ZW rfl rfl) (jL 1 Try.runUnderlying135 rfl Try.sizeOf37 rfl rfl (jL 1 Try.runUnderlying37 rfl Try.sizeOf3 rfl rfl (jU 0 Try.isAgg3 rfl rfl rfl rfl (jL 3 Try.runUnderlying135 rfl Try.sizeOf37 rfl rfl (jL 1 Try.runUnderlying37 rfl Try.sizeOf3 rfl rfl (jU 0 Try.isAgg3 rfl rfl rfl rfl ?_)))))))
  obtain ⟨t29, h7, hm⟩ := bindO hm
  refine kt h7 rfl rfl rfl (jL 5 Try.runUnderlying135 rfl Try.sizeOf37 rfl rfl (jL 0 Try.runUnderlying37 rfl Try.sizeOf3 rfl rfl (jU 0 Try.isAgg3 rfl rfl rfl rfl ?_)))
  obtain ⟨t33, h8, hm⟩ := bindO hm
  refine jc rfl rfl rfl (fun _ _ => k9 h8 rfl rfl) (jc rfl rfl rfl (fun _ _ => jG (vs := [(0, _), (1, _)]) (cells := [_, _]) rfl rfl) (jE (us := #[_, _]) (cs' := [_, _]) (S' := [_, _, _]) 1 (fun w => Try.sizeOf37 w) rfl rfl rfl rfl rfl rfl rfl (jo (jw ?_))))
  obtain rfl := sj hm
  refine jn rfl (fun w hh => (.cell rfl (loadVar_agg (vs := [_, _]) (Try.isAgg37 _) (Try.sizeOf37 _) (hh.cells 1 rfl rfl)) .nil)) (fun w hh => ⟨(), rfl, trivial, hh.se [] [] 2 rfl rfl rfl rfl⟩)
structure KL where
  b0_can : (List Bool)
  b0_least : (List Int)
  b0_most : (List Int)
structure Qs where
  b0_can : (List Bool)
  b0_least : (List Int)
  b0_most : (List Int)
def JC (b0 : Book) (at1 : Int) (least2 : Int) (most3 : Int) : Option KL :=
 ((ix b0.can at1).bind fun t11 =>
 if (!t11) = true then
 ((ix b0.can at1).bind fun t25 =>
 (some (b0.can.set (Int.toNat at1) true)).bind fun b0_can =>
 (ix b0.least at1).bind fun t26 =>
 (some (b0.least.set (Int.toNat at1) least2)).bind fun b0_least =>
 (ix b0.most at1).bind fun t27 =>
 (some (b0.most.set (Int.toNat at1) most3)).bind fun b0_most =>
 some (⟨b0_can, b0_least, b0_most⟩ : Qs)) else
 (some (⟨b0.can, b0.least, b0.most⟩ : Qs))).bind fun o =>
 (ix o.b0_least at1).bind fun t34 =>
 (ix o.b0_least at1).bind fun t38 =>
 (some (o.b0_least.set (Int.toNat at1) (min t34 least2))).bind fun b0_least_1 =>
 (ix o.b0_most at1).bind fun t45 =>
 (ix o.b0_most at1).bind fun t49 =>
 (some (o.b0_most.set (Int.toNat at1) (max t45 most3))).bind fun b0_most_1 =>
 some (⟨o.b0_can, b0_least_1, b0_most_1⟩ : KL)
theorem ZD (b0 : Book) (at1 : Int) (least2 : Int) (most3 : Int) (V_b0_can : VL) (V_b0_least : VL) (V_b0_most : VL) (w : World) (hw : HV w (keys [] [⟨4, RB.enc b0.can, V_b0_can.sp, V_b0_can.q, []⟩, ⟨3, RI.enc b0.least, V_b0_least.sp, V_b0_least.q, []⟩, ⟨3, RI.enc b0.most, V_b0_most.sp, V_b0_most.q, []⟩]) [] [⟨4, RB.enc b0.can, V_b0_can.sp, V_b0_can.q, []⟩, ⟨3, RI.enc b0.least, V_b0_least.sp, V_b0_least.q, []⟩, ⟨3, RI.enc b0.most, V_b0_most.sp, V_b0_most.q, []⟩] [] w) (hv_b0_can : VOK 1 V_b0_can.n V_b0_can.cap (RB.enc b0.can) V_b0_can.sp V_b0_can.q) (hv_b0_least : VOK 1 V_b0_least.n V_b0_least.cap (RI.enc b0.least) V_b0_least.sp V_b0_least.q) (hv_b0_most : VOK 1 V_b0_most.n V_b0_most.cap (RI.enc b0.most) V_b0_most.sp V_b0_most.q) {res : KL} (hm : JC b0 at1 least2 most3 = some res) :
    Calls Try.prog 124 #[.agg #[slv V_b0_can.q V_b0_can.n V_b0_can.cap, slv V_b0_least.q V_b0_least.n V_b0_least.cap, slv V_b0_most.q V_b0_most.n V_b0_most.cap], .int .i64 at1, .int .i64 least2, .int .i64 most3] w (fun en w' => ∃ l : Unit, en = .returned (.tuple #[]) ∧ (VOK 1 V_b0_can.n V_b0_can.cap (RB.enc res.b0_can) V_b0_can.sp V_b0_can.q ∧ VOK 1 V_b0_least.n V_b0_least.cap (RI.enc res.b0_least) V_b0_least.sp V_b0_least.q ∧ VOK 1 V_b0_most.n V_b0_most.cap (RI.enc res.b0_most) V_b0_most.sp V_b0_most.q) ∧ HV w (keys [] [⟨4, RB.enc b0.can, V_b0_can.sp, V_b0_can.q, []⟩, ⟨3, RI.enc b0.least, V_b0_least.sp, V_b0_least.q, []⟩, ⟨3, RI.enc b0.most, V_b0_most.sp, V_b0_most.q, []⟩]) [] [⟨4, RB.enc res.b0_can, V_b0_can.sp, V_b0_can.q, []⟩, ⟨3, RI.enc res.b0_least, V_b0_least.sp, V_b0_least.q, []⟩, ⟨3, RI.enc res.b0_most, V_b0_most.sp, V_b0_most.q, []⟩] [] w') := by
  unfold JC at hm
  refine kb Try.func124 rfl Try.ntmps124 rfl (e := [(0, _), (1, _), (2, _), (3, _)]) rfl hw (jp ?_)
  refine jH rfl rfl (fun b h4 => ?_)
  refine jo (jj ?_)
  obtain ⟨o, h5, h6⟩ := bindO hm
  refine jC (ι := Unit) (fun l => VOK 1 V_b0_can.n V_b0_can.cap (RB.enc o.b0_can) V_b0_can.sp V_b0_can.q ∧ VOK 1 V_b0_least.n V_b0_least.cap (RI.enc o.b0_least) V_b0_least.sp V_b0_least.q ∧ VOK 1 V_b0_most.n V_b0_most.cap (RI.enc o.b0_most) V_b0_most.sp V_b0_most.q) (fun l => [(1, .int .i64 at1), (2, .int .i64 least2), (3, .int .i64 most3), (4, ptr b 0)]) (fun l => [(b, .cells #[slv V_b0_can.q V_b0_can.n V_b0_can.cap, slv V_b0_least.q V_b0_least.n V_b0_least.cap, slv V_b0_most.q V_b0_most.n V_b0_most.cap] 138 (0, 0))]) (fun l => [⟨4, RB.enc o.b0_can, V_b0_can.sp, V_b0_can.q, []⟩, ⟨3, RI.enc o.b0_least, V_b0_least.sp, V_b0_least.q, []⟩, ⟨3, RI.enc o.b0_most, V_b0_most.sp, V_b0_most.q, []⟩]) ?_ ?_
  ·replace hm := h5
   refine jp (jL 0 Try.runUnderlying138 rfl Try.sizeOf136 rfl rfl (jU 0 Try.isAgg136 rfl rfl rfl rfl (jf rfl rfl ?_)))
   obtain ⟨t11, h10, hm⟩ := bindO hm
   refine jc rfl rfl rfl (fun w _ => qe h10 (Try.runUnderlying136 w) (Try.sizeOf4 w) rfl rfl (vlen RB hv_b0_can rfl) (vne hv_b0_can)) (jc rfl rfl rfl (fun w hh => jV RB 0 h10 (Try.isAgg4 w) rfl (hh.vseg 0 rfl hv_b0_can) rfl (Nat.add_zero _).symm) (jc rfl rfl rfl (fun _ _ => kq rfl) (jo ?_)))
   refine jq rfl (fun h11 => ?_) (fun h11 => ?_)
   ·replace hm := ifT (h11) hm
    refine jX none (.free 0 (.hoist 1 (.free 2 (.free 3 (.hoist 4 (.free 5 (.free 6 (.hoist 7 (.free 8 (.free 9 (.free 10 (.free 11 (.one 12 (.free 13 (.one 14 (.free 15 (.one 16 .done))))))))))))))))) (HV _ _ [(b, .cells #[slv V_b0_can.q V_b0_can.n V_b0_can.cap, slv V_b0_least.q V_b0_least.n V_b0_least.cap, slv V_b0_most.q V_b0_most.n V_b0_most.cap] 138 (0, 0))] [] _) rfl (by decide +kernel) (fun w k hh => hh.draw k) (hsE [0] [] 0 rfl rfl rfl rfl) ?_
    refine kO 0 Try.runUnderlying138 Try.sizeOf136 rfl rfl rfl rfl (qq 0 Try.isAgg136 rfl rfl rfl rfl rfl (kg rfl rfl rfl (kO 1 Try.runUnderlying138 Try.sizeOf32 rfl rfl rfl rfl (qq 0 Try.isAgg32 rfl rfl rfl rfl rfl (kg rfl rfl rfl (kO 2 Try.runUnderlying138 Try.sizeOf32 rfl rfl rfl rfl (qq 0 Try.isAgg32 rfl rfl rfl rfl rfl ?_)))))))
    refine kg rfl rfl rfl (kg rfl rfl rfl (kg rfl rfl rfl ?_))
    obtain ⟨t25, h12, hm⟩ := bindO hm
    refine jk rfl rfl rfl rfl (fun w _ => qe h12 (Try.runUnderlying136 w) (Try.sizeOf4 w) rfl rfl (vlen RB hv_b0_can rfl) (vne hv_b0_can)) (jK rfl ?_)
    obtain ⟨b0_can, hb0_can, hm⟩ := bindO hm
    refine KU RB 0 0 true (fun w => Try.sizeOf4 w) rfl rfl rfl rfl hv_b0_can rfl (Nat.add_zero _).symm rfl h12 rfl rfl (Option.some.inj hb0_can) (fun h13 => ?_)
    refine jS (S' := [_]) (vs' := [_, _, _]) [0] [0, 1, 2] 0 rfl rfl rfl rfl (ju (hsE [0] [] 0 rfl rfl rfl rfl) ?_)
    obtain ⟨t26, h14, hm⟩ := bindO hm
    refine jk rfl rfl rfl rfl (fun w _ => qe h14 (Try.runUnderlying32 w) (Try.sizeOf3 w) rfl rfl (vlen RI hv_b0_least rfl) (vne hv_b0_least)) (jK rfl ?_)
    obtain ⟨b0_least, hb0_least, hm⟩ := bindO hm
    refine KU RI 1 0 least2 (fun w => Try.sizeOf3 w) rfl rfl rfl rfl hv_b0_least rfl (Nat.add_zero _).symm rfl h14 rfl rfl (Option.some.inj hb0_least) (fun h15 => ?_)
    refine jS (S' := [_]) (vs' := [_, _, _]) [0] [0, 1, 2] 0 rfl rfl rfl rfl (ju (hsE [0] [] 0 rfl rfl rfl rfl) ?_)
    obtain ⟨t27, h16, hm⟩ := bindO hm
    refine jk rfl rfl rfl rfl (fun w _ => qe h16 (Try.runUnderlying32 w) (Try.sizeOf3 w) rfl rfl (vlen RI hv_b0_most rfl) (vne hv_b0_most)) (jK rfl ?_)
    obtain ⟨b0_most, hb0_most, hm⟩ := bindO hm
    refine KU RI 2 0 most3 (fun w => Try.sizeOf3 w) rfl rfl rfl rfl hv_b0_most rfl (Nat.add_zero _).symm rfl h16 rfl rfl (Option.some.inj hb0_most) (fun h17 => ?_)
    refine jS (S' := [_]) (vs' := [_, _, _]) [0] [0, 1, 2] 0 rfl rfl rfl rfl (ju (hsE [0] [] 0 rfl rfl rfl rfl) (jI ?_))
    obtain rfl := sj hm
    exact jg () (⟨h13, h15, h17⟩) (sE rfl) (fun w hh => hh)
   ·replace hm := ifN h11 hm
    refine jr ?_
    obtain rfl := sj hm
    exact jg () (⟨hv_b0_can, hv_b0_least, hv_b0_most⟩) (sE rfl) (fun w hh => hh)
  ·intro l hj
   obtain ⟨h7, h8, h9⟩ := hj
   replace hm := h6
   refine jb (jj ?_)
   refine jX (some 11) (.free 0 (.hoist 1 (.free 2 (.free 3 (.hoist 4 (.free 5 (.free 6 (.hoist 7 (.free 8 (.free 9 (.free 10 (.last 11 .done)))))))))))) _ rfl (by decide +kernel) (fun w k hh => hh.draw k) (fun w hh => hh) ?_
   refine kO 1 Try.runUnderlying138 Try.sizeOf32 rfl rfl rfl rfl (qq 0 Try.isAgg32 rfl rfl rfl rfl rfl (kg rfl rfl rfl (kO 1 Try.runUnderlying138 Try.sizeOf32 rfl rfl rfl rfl (qq 0 Try.isAgg32 rfl rfl rfl rfl rfl (kg rfl rfl rfl ?_)))))
   obtain ⟨t34, h18, hm⟩ := bindO hm
   refine jk rfl rfl rfl rfl (fun w _ => qe h18 (Try.runUnderlying32 w) (Try.sizeOf3 w) rfl rfl (vlen RI h8 rfl) (vne h8)) (jA rfl rfl rfl rfl (fun w hh => jV RI 0 h18 (Try.isAgg3 w) rfl (hh.vseg 1 rfl h8) rfl (Nat.add_zero _).symm) (kg rfl rfl rfl (jk rfl rfl rfl rfl (fun _ _ => Z4 rfl rfl) ?_)))
   obtain ⟨t38, h19, hm⟩ := bindO hm
   refine jk rfl rfl rfl rfl (fun w _ => qe h19 (Try.runUnderlying32 w) (Try.sizeOf3 w) rfl rfl (vlen RI h8 rfl) (vne h8)) (Q8 rfl ?_)
   obtain ⟨b0_least_1, hb0_least_1, hm⟩ := bindO hm
   refine KU RI 1 0 (min t34 least2) (fun w => Try.sizeOf3 w) rfl rfl rfl rfl h8 rfl (Nat.add_zero _).symm rfl h19 rfl rfl (Option.some.inj hb0_least_1) (fun h20 => ?_)
   refine jS (S' := [_]) (vs' := [_, _, _]) [0] [0, 1, 2] 0 rfl rfl rfl rfl (K4 (jI (jb ?_)))
   refine jX (some 11) (.free 0 (.hoist 1 (.free 2 (.free 3 (.hoist 4 (.free 5 (.free 6 (.hoist 7 (.free 8 (.free 9 (.free 10 (.last 11 .done)))))))))))) _ rfl (by decide +kernel) (fun w k hh => hh.draw k) (fun w hh => hh) ?_
   refine kO 2 Try.runUnderlying138 Try.sizeOf32 rfl rfl rfl rfl (qq 0 Try.isAgg32 rfl rfl rfl rfl rfl (kg rfl rfl rfl (kO 2 Try.runUnderlying138 Try.sizeOf32 rfl rfl rfl rfl (qq 0 Try.isAgg32 rfl rfl rfl rfl rfl (kg rfl rfl rfl ?_)))))
   obtain ⟨t45, h21, hm⟩ := bindO hm
   refine jk rfl rfl rfl rfl (fun w _ => qe h21 (Try.runUnderlying32 w) (Try.sizeOf3 w) rfl rfl (vlen RI h9 rfl) (vne h9)) (jA rfl rfl rfl rfl (fun w hh => jV RI 0 h21 (Try.isAgg3 w) rfl (hh.vseg 2 rfl h9) rfl (Nat.add_zero _).symm) (kg rfl rfl rfl (jk rfl rfl rfl rfl (fun _ _ => ZW rfl rfl) ?_)))
   obtain ⟨t49, h22, hm⟩ := bindO hm
   refine jk rfl rfl rfl rfl (fun w _ => qe h22 (Try.runUnderlying32 w) (Try.sizeOf3 w) rfl rfl (vlen RI h9 rfl) (vne h9)) (Q8 rfl ?_)
   obtain ⟨b0_most_1, hb0_most_1, hm⟩ := bindO hm
   refine KU RI 2 0 (max t45 most3) (fun w => Try.sizeOf3 w) rfl rfl rfl rfl h9 rfl (Nat.add_zero _).symm rfl h22 rfl rfl (Option.some.inj hb0_most_1) (fun h23 => ?_)
   refine jS (S' := [_]) (vs' := [_, _, _]) [0] [0, 1, 2] 0 rfl rfl rfl rfl (K4 (jI ?_))
   obtain rfl := sj hm
   refine J0 rfl (fun w hh => .nil) (fun w hh => ⟨(), rfl, ⟨h7, h20, h23⟩, hh.se [] [0, 1, 2] 0 rfl rfl rfl rfl⟩)
def yt (strip2 : Int) (s0 : Scalps) (tenant1 : Int) (s : Int) : Option (Int ⊕ (Unit ⊕ Bool)) :=
 (addc strip2 1).bind fun t13 =>
 (subc (s0.strips.length : Int) 1).bind fun t17 =>
 if s ≤ (min t13 t17) then
 ((ix s0.strips s).bind fun t25 =>
 if t25.tenant = tenant1 then
 (some (.inr (.inr true))) else
 ((addc s 1).bind fun t21 =>
 some (.inl t21))) else
 (some (.inr (.inl ())))
def j5 (s0 : Scalps) (tenant1 : Int) (strip2 : Int) : Option Bool :=
 (subc strip2 1).bind fun t9 =>
 (iterM FU (yt strip2 s0 tenant1) (max 0 t9)).bind fun o =>
 oc o (fun j => some false) (fun r_1 => some r_1)
theorem Jz (s0 : Scalps) (tenant1 : Int) (strip2 : Int) (qa0 : Option Addr) (na0 ca0 : Nat) (qa1 : Option Addr) (na1 ca1 : Nat) (w : World) (hw : HV w (keys [] []) [] [] [(aB qa0, aO qa0, RSt.enc s0.strips), (aB qa1, aO qa1, RSp.enc s0.carried)] w) (hna0 : s0.strips.length = na0) (hqa0 : AOK na0 qa0) (hla0 : na0 ≤ ca0) (hna1 : s0.carried.length = na1) (hqa1 : AOK na1 qa1) (hla1 : na1 ≤ ca1) {res : Bool} (hm : j5 s0 tenant1 strip2 = some res) :
    Calls Try.prog 87 #[.agg #[.slice qa0 na0 ca0, .slice qa1 na1 ca1], .int .i64 tenant1, .int .i64 strip2] w (fun en w' => ∃ l : Unit, en = .returned (.bool res) ∧ (True) ∧ HV w (keys [] []) [] [] [] w') := by
  unfold j5 at hm
  refine kb Try.func87 rfl Try.ntmps87 rfl (e := [(0, _), (1, _), (2, _)]) rfl hw (jp ?_)
  refine jH rfl rfl (fun b h1 => ?_)
  refine jm rfl rfl (jo (jj (jp (jf rfl rfl ?_))))
  obtain ⟨t9, h2, hm⟩ := bindO hm
  refine jc rfl rfl rfl (fun _ _ => k9 h2 rfl rfl) (jc rfl rfl rfl (fun _ _ => ZW rfl rfl) (jm rfl rfl (jo ?_)))
  obtain ⟨o, h3, h4⟩ := bindO hm
  refine jC (ι := Unit) (fun j => o = .inl j) (fun j => []) (fun j => [(b, .cells #[.slice qa0 na0 ca0, .slice qa1 na1 ca1] 50 (0, 0))]) (fun j => []) ?_ ?_
  ·replace hm := h3
   refine jl ?_
   refine jF (ι := Unit) hm (fun s l => True) (fun s l => [(1, .int .i64 tenant1), (2, .int .i64 strip2), (3, ptr b 0), (7, .int .i64 s)]) (fun s l => [(b, .cells #[.slice qa0 na0 ca0, .slice qa1 na1 ca1] 50 (0, 0))]) (fun s l => []) () (trivial) (sE rfl) (fun w hh => hh) (fun s l r hpl hm h5 => ?_)
   unfold yt at hm
   refine jj (jp (jf rfl rfl (jf rfl rfl ?_)))
   obtain ⟨t13, h6, hm⟩ := bindO hm
   refine kt h6 rfl rfl rfl (jL 0 Try.runUnderlying50 rfl Try.sizeOf48 rfl rfl (jU 0 Try.isAgg48 rfl rfl rfl rfl (jc rfl rfl rfl (fun w _ => jB hna0 (Try.runUnderlying48 w) rfl) ?_)))
   obtain ⟨t17, h7, hm⟩ := bindO hm
   refine jc rfl rfl rfl (fun _ _ => k9 h7 rfl rfl) (jc rfl rfl rfl (fun _ _ => Z4 rfl rfl) (jc rfl rfl rfl (fun _ _ => YT rfl rfl) (jo ?_)))
   refine jq rfl (fun h8 => ?_) (fun h8 => ?_)
   ·replace hm := ifD h8 hm
    refine jr (jb (jj (jl (jp (jL 0 Try.runUnderlying50 rfl Try.sizeOf48 rfl rfl (jU 0 Try.isAgg48 rfl rfl rfl rfl (jf rfl rfl ?_)))))))
    obtain ⟨t25, h9, hm⟩ := bindO hm
    refine jc rfl rfl rfl (fun w _ => jW h9 (Try.runUnderlying48 w) (Try.sizeOf135 w) rfl rfl hna0 hqa0) (jL 0 Try.runUnderlying135 rfl Try.sizeOf3 rfl rfl (jc rfl rfl rfl (fun w hh => jV RSt 0 h9 (Try.isAgg3 w) rfl (hh.seg 0 rfl) rfl rfl) (jf rfl rfl (jc rfl rfl rfl (fun _ _ => zr rfl rfl) (jo ?_)))))
    refine jq rfl (fun h10 => ?_) (fun h10 => ?_)
    ·replace hm := ifD h10 hm
     refine jp (jm rfl rfl (jo (jw (jx (je (je (jx ?_)))))))
     obtain rfl := sj hm
     have hbo := h5 _ rfl
     subst hbo
     refine je ?_
     replace hm := ocR h4
     refine je ?_
     obtain rfl := sj hm
     refine jn rfl (fun w hh => (.tmp rfl .nil)) (fun w hh => ⟨(), rfl, trivial, hh.se [] [] 2 rfl rfl rfl rfl⟩)
    ·replace hm := ifE h10 hm
     refine jr (js (jb (jh (jf rfl rfl ?_))))
     obtain ⟨t21, h11, hm⟩ := bindO hm
     refine kt h11 rfl rfl rfl (jm rfl rfl (jv ?_))
     obtain rfl := sj hm
     refine jb ?_
     exact jy _ () rfl (trivial) (sE rfl) (fun w hh => hh)
   ·replace hm := ifE h8 hm
    refine jM (ji (ji (jz ?_)))
    obtain rfl := sj hm
    have hbo := h5 _ rfl
    subst hbo
    exact jg () (rfl) (.nil) (fun w hh => hh)
  ·intro j hj
   have h12 := hj
   subst h12
   replace hm := ocL h4
   refine jb (jp (jm rfl rfl (jo (jw ?_))))
   obtain rfl := sj hm
   refine jn rfl (fun w hh => (.tmp rfl .nil)) (fun w hh => ⟨(), rfl, trivial, hh.se [] [] 2 rfl rfl rfl rfl⟩)
end Go.Proofs.Ws

namespace Go.Proofs.Ws
set_option maxHeartbeats 4000000
set_option maxRecDepth 100000
open Go Go.Fw Go.Gx Go.Sp
set_option linter.unusedVariables false
structure qX where
  next9_can : (List Bool)
  next9_least : (List Int)
  next9_most : (List Int)
structure QI where
  next9_can : (List Bool)
  next9_least : (List Int)
  next9_most : (List Int)
structure Jk where
  step21 : Int
  i22 : Int
def q5 (t3 : Int) (s0 : Scalps) (s : Jk) : Option (Jk ⊕ Int) :=
 if s.i22 < t3 then
 ((ix s0.carried s.i22).bind fun t53 =>
 (addc t53.hi 1).bind fun t56 =>
 (mulc s.step21 t56).bind fun t57 =>
 (addc s.i22 1).bind fun t48 =>
 some (.inl (⟨t57, t48⟩ : Jk))) else
 (some (.inr s.step21))
structure QG where
  next9_can : (List Bool)
  next9_least : (List Int)
  next9_most : (List Int)
structure Jt where
  n25 : Int
  next9_can : (List Bool)
  next9_least : (List Int)
  next9_most : (List Int)
def zq (o_2 : Int) (c1 : (List (List Bool))) (t3 : Int) (k2 : Int) (o_1 : Int) (at4 : Int) (taken6 : Int) (least7 : Int) (most8 : Int) (rec_ : Scalps → (List (List Bool)) → Int → Int → Int → Int → Int → Int → Int → Book → Option qX) (s0 : Scalps) (t75 : Int) (s_1 : Jt) : Option (Jt ⊕ QG) :=
 if s_1.n25 ≤ o_2 then
 (((ix c1 t3).bind fun t100 =>
 (ix t100 k2).bind fun t103 =>
 if t103 = true then
 (some s_1.n25) else
 (some 0)).bind fun o_4 =>
 (addc t3 1).bind fun t110 =>
 (mulc s_1.n25 o_1).bind fun t114 =>
 (addc at4 t114).bind fun t115 =>
 (addc taken6 s_1.n25).bind fun t119 =>
 (addc least7 o_4).bind fun t122 =>
 (addc most8 o_4).bind fun t125 =>
 (rec_ s0 c1 k2 t110 t115 t75 t119 t122 t125 (⟨s_1.next9_can, s_1.next9_least, s_1.next9_most⟩ : Book)).bind fun t127 =>
 (addc s_1.n25 1).bind fun t97 =>
 some (.inl (⟨t97, t127.next9_can, t127.next9_least, t127.next9_most⟩ : Jt))) else
 (some (.inr (⟨s_1.next9_can, s_1.next9_least, s_1.next9_most⟩ : QG)))
def zY (rec_ : Scalps → (List (List Bool)) → Int → Int → Int → Int → Int → Int → Int → Book → Option qX) (s0 : Scalps) (c1 : (List (List Bool))) (k2 : Int) (t3 : Int) (at4 : Int) (rest5 : Int) (taken6 : Int) (least7 : Int) (most8 : Int) (next9 : Book) : Option qX :=
 (zK s0 k2).bind fun t29 =>
 if t3 = (s0.carried.length : Int) then
 ((if t29.lo ≤ taken6 then
 ((JC next9 at4 least7 most8).bind fun t43 =>
 some (⟨t43.b0_can, t43.b0_least, t43.b0_most⟩ : QI)) else
 (some (⟨next9.can, next9.least, next9.most⟩ : QI))).bind fun o =>
 some (⟨o.next9_can, o.next9_least, o.next9_most⟩ : qX)) else
 ((iterM FU (q5 t3 s0) (⟨1, 0⟩ : Jk)).bind fun o_1 =>
 (ix s0.carried t3).bind fun t62 =>
 (addc t62.hi 1).bind fun t65 =>
 (remc rest5 t65).bind fun t66 =>
 (ix s0.carried t3).bind fun t71 =>
 (addc t71.hi 1).bind fun t74 =>
 (quoc rest5 t74).bind fun t75 =>
 ((j5 s0 t3 k2).bind fun t79 =>
 if t79 = true then
 ((ix s0.carried t3).bind fun t83 =>
 (subc t83.hi t66).bind fun t87 =>
 (subc t29.hi taken6).bind fun t91 =>
 some (min t87 t91)) else
 (some 0)).bind fun o_2 =>
 (iterM FU (zq o_2 c1 t3 k2 o_1 at4 taken6 least7 most8 rec_ s0 t75) (⟨0, next9.can, next9.least, next9.most⟩ : Jt)).bind fun o_3 =>
 some (⟨o_3.next9_can, o_3.next9_least, o_3.next9_most⟩ : qX))
def kJ : Nat → Scalps → (List (List Bool)) → Int → Int → Int → Int → Int → Int → Int → Book → Option qX
  | 0, _, _, _, _, _, _, _, _, _, _ => none
  | fu + 1, s0, c1, k2, t3, at4, rest5, taken6, least7, most8, next9 => zY (kJ fu) s0 c1 k2 t3 at4 rest5 taken6 least7 most8 next9
theorem ZR (fu_ : Nat) : ∀ (s0 : Scalps) (c1 : (List (List Bool))) (k2 : Int) (t3 : Int) (at4 : Int) (rest5 : Int) (taken6 : Int) (least7 : Int) (most8 : Int) (next9 : Book) (qa0 : Option Addr) (na0 ca0 : Nat) (qa1 : Option Addr) (na1 ca1 : Nat) (qa2 : Option Addr) (na2 ca2 : Nat) (ar2 : List AL) (V_next9_can : VL) (V_next9_least : VL) (V_next9_most : VL) (w : World) (hw : HV w (keys [] [⟨4, RB.enc next9.can, V_next9_can.sp, V_next9_can.q, []⟩, ⟨3, RI.enc next9.least, V_next9_least.sp, V_next9_least.q, []⟩, ⟨3, RI.enc next9.most, V_next9_most.sp, V_next9_most.q, []⟩]) [] [⟨4, RB.enc next9.can, V_next9_can.sp, V_next9_can.q, []⟩, ⟨3, RI.enc next9.least, V_next9_least.sp, V_next9_least.q, []⟩, ⟨3, RI.enc next9.most, V_next9_most.sp, V_next9_most.q, []⟩] [(aB qa0, aO qa0, RSt.enc s0.strips), (aB qa1, aO qa1, RSp.enc s0.carried), (aB qa2, aO qa2, RwA.enc ar2)] w) (hna0 : s0.strips.length = na0) (hqa0 : AOK na0 qa0) (hla0 : na0 ≤ ca0) (hna1 : s0.carried.length = na1) (hqa1 : AOK na1 qa1) (hla1 : na1 ≤ ca1) (hna2 : c1.length = na2) (hqa2 : AOK na2 qa2) (hla2 : na2 ≤ ca2) (hda2 : DRO c1 ar2) (hTa2 : ∀ t, t ∈ rsg RB c1 ar2 → segOK w t ∧ (t.2.2 ≠ [] → t.1 ∉ keys [] [⟨4, RB.enc next9.can, V_next9_can.sp, V_next9_can.q, []⟩, ⟨3, RI.enc next9.least, V_next9_least.sp, V_next9_least.q, []⟩, ⟨3, RI.enc next9.most, V_next9_most.sp, V_next9_most.q, []⟩])) (hv_next9_can : VOK 1 V_next9_can.n V_next9_can.cap (RB.enc next9.can) V_next9_can.sp V_next9_can.q) (hv_next9_least : VOK 1 V_next9_least.n V_next9_least.cap (RI.enc next9.least) V_next9_least.sp V_next9_least.q) (hv_next9_most : VOK 1 V_next9_most.n V_next9_most.cap (RI.enc next9.most) V_next9_most.sp V_next9_most.q) {res : qX} (hm : kJ fu_ s0 c1 k2 t3 at4 rest5 taken6 least7 most8 next9 = some res),
    Calls Try.prog 84 #[.agg #[.slice qa0 na0 ca0, .slice qa1 na1 ca1], .slice qa2 na2 ca2, .int .i64 k2, .int .i64 t3, .int .i64 at4, .int .i64 rest5, .int .i64 taken6, .int .i64 least7, .int .i64 most8, .agg #[slv V_next9_can.q V_next9_can.n V_next9_can.cap, slv V_next9_least.q V_next9_least.n V_next9_least.cap, slv V_next9_most.q V_next9_most.n V_next9_most.cap]] w (fun en w' => ∃ l : Unit, en = .returned (.tuple #[]) ∧ (VOK 1 V_next9_can.n V_next9_can.cap (RB.enc res.next9_can) V_next9_can.sp V_next9_can.q ∧ VOK 1 V_next9_least.n V_next9_least.cap (RI.enc res.next9_least) V_next9_least.sp V_next9_least.q ∧ VOK 1 V_next9_most.n V_next9_most.cap (RI.enc res.next9_most) V_next9_most.sp V_next9_most.q) ∧ HV w (keys [] [⟨4, RB.enc next9.can, V_next9_can.sp, V_next9_can.q, []⟩, ⟨3, RI.enc next9.least, V_next9_least.sp, V_next9_least.q, []⟩, ⟨3, RI.enc next9.most, V_next9_most.sp, V_next9_most.q, []⟩]) [] [⟨4, RB.enc res.next9_can, V_next9_can.sp, V_next9_can.q, []⟩, ⟨3, RI.enc res.next9_least, V_next9_least.sp, V_next9_least.q, []⟩, ⟨3, RI.enc res.next9_most, V_next9_most.sp, V_next9_most.q, []⟩] [] w') := by
  induction fu_ with
  | zero =>
    intros
    rename_i hm
    exact absurd hm (by simp [kJ])
  | succ fu_ ih =>
  intro s0 c1 k2 t3 at4 rest5 taken6 least7 most8 next9 qa0 na0 ca0 qa1 na1 ca1 qa2 na2 ca2 ar2 V_next9_can V_next9_least V_next9_most w hw hna0 hqa0 hla0 hna1 hqa1 hla1 hna2 hqa2 hla2 hda2 hTa2 hv_next9_can hv_next9_least hv_next9_most res hm
  replace hm : zY (kJ fu_) s0 c1 k2 t3 at4 rest5 taken6 least7 most8 next9 = some res := hm
  unfold zY at hm
  refine kb Try.func84 rfl Try.ntmps84 rfl (e := [(0, _), (1, _), (2, _), (3, _), (4, _), (5, _), (6, _), (7, _), (8, _), (9, _)]) rfl hw (jp ?_)
  refine jH rfl rfl (fun b h4 => ?_)
  refine jH rfl rfl (fun b_1 h5 => ?_)
  refine j1 (kG [_, _] 1 Try.isAgg50 Try.sizeOf50 rfl rfl rfl rfl (jf rfl rfl ?_))
  obtain ⟨t29, h6, hm⟩ := bindO hm
  refine jd [] [] rfl rfl rfl rfl rfl rfl rfl Try.call86 (fun w hh => Ye s0 k2 qa0 na0 ca0 qa1 na1 ca1 w (HV.callee (S0 := []) (vs0 := []) hh (roR hh 0 rfl (roR hh 1 rfl roN))) hna0 hqa0 hla0 hna1 hqa1 hla1 h6) (fun l h7 => ?_)
  refine jt (fun w => Try.zeroValue37 w) rfl (fun b_2 h8 => ?_)
  refine jE (us := #[_, _]) (cs' := [_, _]) (S' := [_, _, _]) 0 (fun w => Try.sizeOf37 w) rfl rfl rfl rfl rfl rfl rfl (jo (jj (jp (jf rfl rfl (jL 1 Try.runUnderlying50 rfl Try.sizeOf26 rfl rfl (jU 2 Try.isAgg26 rfl rfl rfl rfl (jc rfl rfl rfl (fun w _ => jB hna1 (Try.runUnderlying26 w) rfl) ?_)))))))
  refine jc rfl rfl rfl (fun _ _ => zr rfl rfl) (jo ?_)
  refine jq rfl (fun h9 => ?_) (fun h9 => ?_)
  ·replace hm := ifD h9 hm
   refine jj ?_
   obtain ⟨o, h10, h11⟩ := bindO hm
   refine jC (ι := Unit) (fun l_1 => VOK 1 V_next9_can.n V_next9_can.cap (RB.enc o.next9_can) V_next9_can.sp V_next9_can.q ∧ VOK 1 V_next9_least.n V_next9_least.cap (RI.enc o.next9_least) V_next9_least.sp V_next9_least.q ∧ VOK 1 V_next9_most.n V_next9_most.cap (RI.enc o.next9_most) V_next9_most.sp V_next9_most.q) (fun l_1 => []) (fun l_1 => [(b_2, .cells #[.int .i64 t29.lo, .int .i64 t29.hi] 37 (0, 0)), (b_1, .cells #[slv V_next9_can.q V_next9_can.n V_next9_can.cap, slv V_next9_least.q V_next9_least.n V_next9_least.cap, slv V_next9_most.q V_next9_most.n V_next9_most.cap] 138 (0, 0)), (b, .cells #[.slice qa0 na0 ca0, .slice qa1 na1 ca1] 50 (0, 0))]) (fun l_1 => [⟨4, RB.enc o.next9_can, V_next9_can.sp, V_next9_can.q, []⟩, ⟨3, RI.enc o.next9_least, V_next9_least.sp, V_next9_least.q, []⟩, ⟨3, RI.enc o.next9_most, V_next9_most.sp, V_next9_most.q, []⟩]) ?_ ?_
   ·replace hm := h10
    refine jp (jf rfl rfl (jL 0 Try.runUnderlying37 rfl Try.sizeOf3 rfl rfl (jU 0 Try.isAgg3 rfl rfl rfl rfl (jc rfl rfl rfl (fun _ _ => QH rfl rfl) (jo ?_)))))
    refine jq rfl (fun h15 => ?_) (fun h15 => ?_)
    ·replace hm := ifD h15 hm
     refine jh (kG [_, _, _] 1 Try.isAgg138 Try.sizeOf138 rfl rfl rfl rfl (jf rfl rfl (jf rfl rfl (jf rfl rfl ?_))))
     obtain ⟨t43, h16, hm⟩ := bindO hm
     refine jd [] [_, _, _] rfl rfl rfl rfl rfl rfl rfl Try.call124 (fun w hh => ZD next9 at4 least7 most8 ⟨V_next9_can.q, V_next9_can.n, V_next9_can.cap, V_next9_can.sp⟩ ⟨V_next9_least.q, V_next9_least.n, V_next9_least.cap, V_next9_least.sp⟩ ⟨V_next9_most.q, V_next9_most.n, V_next9_most.cap, V_next9_most.sp⟩ w (HV.callee (S0 := []) (vs0 := [_, _, _]) hh roN) hv_next9_can hv_next9_least hv_next9_most h16) (fun l_2 h17 => ?_)
     obtain ⟨h18, h19, h20⟩ := h17
     refine jS (S' := [_, _, _]) (vs' := [_, _, _]) [0, 1, 2] [0, 1, 2] 0 rfl rfl rfl rfl (jv ?_)
     obtain rfl := sj hm
     exact jg () (⟨h18, h19, h20⟩) (.nil) (fun w hh => hh)
    ·replace hm := ifE h15 hm
     refine jr ?_
     obtain rfl := sj hm
     exact jg () (⟨hv_next9_can, hv_next9_least, hv_next9_most⟩) (.nil) (fun w hh => hh)
   ·intro l_1 hj
    obtain ⟨h12, h13, h14⟩ := hj
    replace hm := h11
    refine jb (jw (je ?_))
    obtain rfl := sj hm
    refine jn rfl (fun w hh => .nil) (fun w hh => ⟨(), rfl, ⟨h12, h13, h14⟩, hh.se [] [0, 1, 2] 3 rfl rfl rfl rfl⟩)
  ·replace hm := ifE h9 hm
   refine jr (jb (jp (jm rfl rfl (jo (jj (jp (jm rfl rfl ?_)))))))
   refine jo ?_
   obtain ⟨o_1, h21, h22⟩ := bindO hm
   refine jC (ι := Unit) (fun l_3 => True) (fun l_3 => [(1, .slice qa2 na2 ca2), (2, .int .i64 k2), (3, .int .i64 t3), (4, .int .i64 at4), (5, .int .i64 rest5), (6, .int .i64 taken6), (7, .int .i64 least7), (8, .int .i64 most8), (10, ptr b 0), (19, ptr b_1 0), (20, ptr b_2 0), (21, .int .i64 o_1)]) (fun l_3 => [(b_2, .cells #[.int .i64 t29.lo, .int .i64 t29.hi] 37 (0, 0)), (b_1, .cells #[slv V_next9_can.q V_next9_can.n V_next9_can.cap, slv V_next9_least.q V_next9_least.n V_next9_least.cap, slv V_next9_most.q V_next9_most.n V_next9_most.cap] 138 (0, 0)), (b, .cells #[.slice qa0 na0 ca0, .slice qa1 na1 ca1] 50 (0, 0))]) (fun l_3 => [⟨4, RB.enc next9.can, V_next9_can.sp, V_next9_can.q, []⟩, ⟨3, RI.enc next9.least, V_next9_least.sp, V_next9_least.q, []⟩, ⟨3, RI.enc next9.most, V_next9_most.sp, V_next9_most.q, []⟩]) ?_ ?_
   ·replace hm := h21
    refine jl ?_
    refine jF (ι := Unit) hm (fun s l_4 => True) (fun s l_4 => [(1, .slice qa2 na2 ca2), (2, .int .i64 k2), (3, .int .i64 t3), (4, .int .i64 at4), (5, .int .i64 rest5), (6, .int .i64 taken6), (7, .int .i64 least7), (8, .int .i64 most8), (10, ptr b 0), (19, ptr b_1 0), (20, ptr b_2 0), (21, .int .i64 s.step21), (22, .int .i64 s.i22)]) (fun s l_4 => [(b_2, .cells #[.int .i64 t29.lo, .int .i64 t29.hi] 37 (0, 0)), (b_1, .cells #[slv V_next9_can.q V_next9_can.n V_next9_can.cap, slv V_next9_least.q V_next9_least.n V_next9_least.cap, slv V_next9_most.q V_next9_most.n V_next9_most.cap] 138 (0, 0)), (b, .cells #[.slice qa0 na0 ca0, .slice qa1 na1 ca1] 50 (0, 0))]) (fun s l_4 => [⟨4, RB.enc next9.can, V_next9_can.sp, V_next9_can.q, []⟩, ⟨3, RI.enc next9.least, V_next9_least.sp, V_next9_least.q, []⟩, ⟨3, RI.enc next9.most, V_next9_most.sp, V_next9_most.q, []⟩]) () (trivial) (sE rfl) (fun w hh => hh) (fun s l_4 r hpl hm h23 => ?_)
    unfold q5 at hm
    refine jj (jp (jf rfl rfl (jf rfl rfl (qv rfl rfl rfl (jo ?_)))))
    refine jq rfl (fun h24 => ?_) (fun h24 => ?_)
    ·replace hm := ifD h24 hm
     refine jr (jb (jj (jl (jh (jf rfl rfl (jL 1 Try.runUnderlying50 rfl Try.sizeOf26 rfl rfl (jU 2 Try.isAgg26 rfl rfl rfl rfl ?_)))))))
     refine jf rfl rfl ?_
     obtain ⟨t53, h25, hm⟩ := bindO hm
     refine jc rfl rfl rfl (fun w _ => jW h25 (Try.runUnderlying26 w) (Try.sizeOf37 w) rfl rfl hna1 hqa1) (jL 1 Try.runUnderlying37 rfl Try.sizeOf3 rfl rfl (jc rfl rfl rfl (fun w hh => jV RSp 1 h25 (Try.isAgg3 w) rfl (hh.seg 1 rfl) rfl rfl) ?_))
     obtain ⟨t56, h26, hm⟩ := bindO hm
     refine kt h26 rfl rfl rfl ?_
     obtain ⟨t57, h27, hm⟩ := bindO hm
     refine jc rfl rfl rfl (fun _ _ => Yj h27 rfl rfl) (jm rfl rfl (jv (js (jb (jh (jf rfl rfl ?_))))))
     obtain ⟨t48, h28, hm⟩ := bindO hm
     refine kt h28 rfl rfl rfl (jm rfl rfl (jv ?_))
     obtain rfl := sj hm
     refine jb ?_
     exact jy _ () rfl (trivial) (sE rfl) (fun w hh => hh)
    ·replace hm := ifE h24 hm
     refine jM (ji (ji (jz ?_)))
     obtain rfl := sj hm
     have hbo := h23 _ rfl
     subst hbo
     exact jg () (trivial) (sE rfl) (fun w hh => hh)
   ·intro l_3 hj
    replace hm := h22
    refine jb (jp (jf rfl rfl (jL 1 Try.runUnderlying50 rfl Try.sizeOf26 rfl rfl (jU 2 Try.isAgg26 rfl rfl rfl rfl (jf rfl rfl ?_)))))
    obtain ⟨t62, h29, hm⟩ := bindO hm
    refine jc rfl rfl rfl (fun w _ => jW h29 (Try.runUnderlying26 w) (Try.sizeOf37 w) rfl rfl hna1 hqa1) (jL 1 Try.runUnderlying37 rfl Try.sizeOf3 rfl rfl (jc rfl rfl rfl (fun w hh => jV RSp 1 h29 (Try.isAgg3 w) rfl (hh.seg 1 rfl) rfl rfl) ?_))
    obtain ⟨t65, h30, hm⟩ := bindO hm
    refine kt h30 rfl rfl rfl ?_
    obtain ⟨t66, h31, hm⟩ := bindO hm
    refine jc rfl rfl rfl (fun _ _ => jax h31 rfl rfl) (jm rfl rfl (j1 (jf rfl rfl (jL 1 Try.runUnderlying50 rfl Try.sizeOf26 rfl rfl (jU 2 Try.isAgg26 rfl rfl rfl rfl (jf rfl rfl ?_))))))
    obtain ⟨t71, h32, hm⟩ := bindO hm
    refine jc rfl rfl rfl (fun w _ => jW h32 (Try.runUnderlying26 w) (Try.sizeOf37 w) rfl rfl hna1 hqa1) (jL 1 Try.runUnderlying37 rfl Try.sizeOf3 rfl rfl (jc rfl rfl rfl (fun w hh => jV RSp 1 h32 (Try.isAgg3 w) rfl (hh.seg 1 rfl) rfl rfl) ?_))
    obtain ⟨t74, h33, hm⟩ := bindO hm
    refine kt h33 rfl rfl rfl ?_
    obtain ⟨t75, h34, hm⟩ := bindO hm
    refine jc rfl rfl rfl (fun _ _ => jaE h34 rfl rfl) (jm rfl rfl (j1 (jm rfl rfl (jo (jj ?_)))))
    obtain ⟨o_2, h35, h36⟩ := bindO hm
    refine jC (ι := Unit) (fun l_5 => True) (fun l_5 => [(1, .slice qa2 na2 ca2), (2, .int .i64 k2), (3, .int .i64 t3), (4, .int .i64 at4), (5, .int .i64 t75), (6, .int .i64 taken6), (7, .int .i64 least7), (8, .int .i64 most8), (10, ptr b 0), (19, ptr b_1 0), (21, .int .i64 o_1), (24, .int .i64 o_2)]) (fun l_5 => [(b_2, .cells #[.int .i64 t29.lo, .int .i64 t29.hi] 37 (0, 0)), (b_1, .cells #[slv V_next9_can.q V_next9_can.n V_next9_can.cap, slv V_next9_least.q V_next9_least.n V_next9_least.cap, slv V_next9_most.q V_next9_most.n V_next9_most.cap] 138 (0, 0)), (b, .cells #[.slice qa0 na0 ca0, .slice qa1 na1 ca1] 50 (0, 0))]) (fun l_5 => [⟨4, RB.enc next9.can, V_next9_can.sp, V_next9_can.q, []⟩, ⟨3, RI.enc next9.least, V_next9_least.sp, V_next9_least.q, []⟩, ⟨3, RI.enc next9.most, V_next9_most.sp, V_next9_most.q, []⟩]) ?_ ?_
    ·replace hm := h35
     refine jp (kG [_, _] 2 Try.isAgg50 Try.sizeOf50 rfl rfl rfl rfl (jf rfl rfl (jf rfl rfl ?_)))
     obtain ⟨t79, h37, hm⟩ := bindO hm
     refine jd [] [] rfl rfl rfl rfl rfl rfl rfl Try.call87 (fun w hh => Jz s0 t3 k2 qa0 na0 ca0 qa1 na1 ca1 w (HV.callee (S0 := []) (vs0 := []) hh (roR hh 0 rfl (roR hh 1 rfl roN))) hna0 hqa0 hla0 hna1 hqa1 hla1 h37) (fun l_6 h38 => ?_)
     refine jo ?_
     refine jq rfl (fun h39 => ?_) (fun h39 => ?_)
     ·replace hm := ifT (h39) hm
      refine jX none (.free 0 (.hoist 1 (.free 2 (.free 3 (.free 4 (.hoist 5 (.free 6 (.free 7 (.free 8 (.hoist 9 (.free 10 (.free 11 (.free 12 (.free 13 .done)))))))))))))) _ rfl (by decide +kernel) (fun w k hh => hh.draw k) (fun w hh => hh) ?_
      refine kO 1 Try.runUnderlying50 Try.sizeOf26 rfl rfl rfl rfl (qq 2 Try.isAgg26 rfl rfl rfl rfl rfl (kg rfl rfl rfl ?_))
      obtain ⟨t83, h40, hm⟩ := bindO hm
      refine jk rfl rfl rfl rfl (fun w _ => jW h40 (Try.runUnderlying26 w) (Try.sizeOf37 w) rfl rfl hna1 hqa1) (kO 1 Try.runUnderlying37 Try.sizeOf3 rfl rfl rfl rfl (jA rfl rfl rfl rfl (fun w hh => jV RSp 1 h40 (Try.isAgg3 w) rfl (hh.seg 1 rfl) rfl rfl) (kg rfl rfl rfl ?_)))
      obtain ⟨t87, h41, hm⟩ := bindO hm
      refine jk rfl rfl rfl rfl (fun _ _ => k9 h41 rfl rfl) (kO 1 Try.runUnderlying37 Try.sizeOf3 rfl rfl rfl rfl (qq 0 Try.isAgg3 rfl rfl rfl rfl rfl (kg rfl rfl rfl ?_)))
      obtain ⟨t91, h42, hm⟩ := bindO hm
      refine jk rfl rfl rfl rfl (fun _ _ => k9 h42 rfl rfl) (jk rfl rfl rfl rfl (fun _ _ => Z4 rfl rfl) (jk rfl rfl rfl rfl (fun _ _ => jN rfl) (jI ?_)))
      obtain rfl := sj hm
      exact jg () (trivial) (sE rfl) (fun w hh => hh)
     ·replace hm := ifN h39 hm
      refine jr ?_
      obtain rfl := sj hm
      exact jg () (trivial) (sE rfl) (fun w hh => hh)
    ·intro l_5 hj
     replace hm := h36
     refine jb (jp (jm rfl rfl (jo ?_)))
     obtain ⟨o_3, h43, h44⟩ := bindO hm
     refine jC (ι := Unit) (fun l_7 => VOK 1 V_next9_can.n V_next9_can.cap (RB.enc o_3.next9_can) V_next9_can.sp V_next9_can.q ∧ VOK 1 V_next9_least.n V_next9_least.cap (RI.enc o_3.next9_least) V_next9_least.sp V_next9_least.q ∧ VOK 1 V_next9_most.n V_next9_most.cap (RI.enc o_3.next9_most) V_next9_most.sp V_next9_most.q) (fun l_7 => []) (fun l_7 => [(b_2, .cells #[.int .i64 t29.lo, .int .i64 t29.hi] 37 (0, 0)), (b_1, .cells #[slv V_next9_can.q V_next9_can.n V_next9_can.cap, slv V_next9_least.q V_next9_least.n V_next9_least.cap, slv V_next9_most.q V_next9_most.n V_next9_most.cap] 138 (0, 0)), (b, .cells #[.slice qa0 na0 ca0, .slice qa1 na1 ca1] 50 (0, 0))]) (fun l_7 => [⟨4, RB.enc o_3.next9_can, V_next9_can.sp, V_next9_can.q, []⟩, ⟨3, RI.enc o_3.next9_least, V_next9_least.sp, V_next9_least.q, []⟩, ⟨3, RI.enc o_3.next9_most, V_next9_most.sp, V_next9_most.q, []⟩]) ?_ ?_
     ·replace hm := h43
      refine jl ?_
      refine jF (ι := Unit) hm (fun s_1 l_8 => VOK 1 V_next9_can.n V_next9_can.cap (RB.enc s_1.next9_can) V_next9_can.sp V_next9_can.q ∧ VOK 1 V_next9_least.n V_next9_least.cap (RI.enc s_1.next9_least) V_next9_least.sp V_next9_least.q ∧ VOK 1 V_next9_most.n V_next9_most.cap (RI.enc s_1.next9_most) V_next9_most.sp V_next9_most.q) (fun s_1 l_8 => [(1, .slice qa2 na2 ca2), (2, .int .i64 k2), (3, .int .i64 t3), (4, .int .i64 at4), (5, .int .i64 t75), (6, .int .i64 taken6), (7, .int .i64 least7), (8, .int .i64 most8), (10, ptr b 0), (19, ptr b_1 0), (21, .int .i64 o_1), (24, .int .i64 o_2), (25, .int .i64 s_1.n25)]) (fun s_1 l_8 => [(b_2, .cells #[.int .i64 t29.lo, .int .i64 t29.hi] 37 (0, 0)), (b_1, .cells #[slv V_next9_can.q V_next9_can.n V_next9_can.cap, slv V_next9_least.q V_next9_least.n V_next9_least.cap, slv V_next9_most.q V_next9_most.n V_next9_most.cap] 138 (0, 0)), (b, .cells #[.slice qa0 na0 ca0, .slice qa1 na1 ca1] 50 (0, 0))]) (fun s_1 l_8 => [⟨4, RB.enc s_1.next9_can, V_next9_can.sp, V_next9_can.q, []⟩, ⟨3, RI.enc s_1.next9_least, V_next9_least.sp, V_next9_least.q, []⟩, ⟨3, RI.enc s_1.next9_most, V_next9_most.sp, V_next9_most.q, []⟩]) () (⟨hv_next9_can, hv_next9_least, hv_next9_most⟩) (sE rfl) (fun w hh => hh) (fun s_1 l_8 r_1 hpl hm h51 => ?_)
      obtain ⟨h48, h49, h50⟩ := hpl
      unfold zq at hm
      refine jj (jp (jf rfl rfl (jf rfl rfl (jc rfl rfl rfl (fun _ _ => YT rfl rfl) (jo ?_)))))
      refine jq rfl (fun h52 => ?_) (fun h52 => ?_)
      ·replace hm := ifD h52 hm
       refine jr (jb (jj (jl (jp (jm rfl rfl (jo (jj ?_)))))))
       obtain ⟨o_4, h53, h54⟩ := bindO hm
       refine jC (ι := Unit) (fun l_9 => True) (fun l_9 => [(1, .slice qa2 na2 ca2), (2, .int .i64 k2), (3, .int .i64 t3), (4, .int .i64 at4), (5, .int .i64 t75), (6, .int .i64 taken6), (7, .int .i64 least7), (8, .int .i64 most8), (10, ptr b 0), (19, ptr b_1 0), (21, .int .i64 o_1), (24, .int .i64 o_2), (25, .int .i64 s_1.n25), (26, .int .i64 o_4)]) (fun l_9 => [(b_2, .cells #[.int .i64 t29.lo, .int .i64 t29.hi] 37 (0, 0)), (b_1, .cells #[slv V_next9_can.q V_next9_can.n V_next9_can.cap, slv V_next9_least.q V_next9_least.n V_next9_least.cap, slv V_next9_most.q V_next9_most.n V_next9_most.cap] 138 (0, 0)), (b, .cells #[.slice qa0 na0 ca0, .slice qa1 na1 ca1] 50 (0, 0))]) (fun l_9 => [⟨4, RB.enc s_1.next9_can, V_next9_can.sp, V_next9_can.q, []⟩, ⟨3, RI.enc s_1.next9_least, V_next9_least.sp, V_next9_least.q, []⟩, ⟨3, RI.enc s_1.next9_most, V_next9_most.sp, V_next9_most.q, []⟩]) ?_ ?_
       ·replace hm := h53
        refine jp (jf rfl rfl (jf rfl rfl ?_))
        obtain ⟨t100, h55, hm⟩ := bindO hm
        obtain ⟨A, h56, h57, h58, h59⟩ := (hda2).row h55
        refine jc rfl rfl rfl (fun w _ => jW h56 (Try.runUnderlying56 w) (Try.sizeOf136 w) rfl rfl (Eq.trans (hda2).len.symm hna2) hqa2) (jc rfl rfl rfl (fun w hh => jV RwA 0 h56 (Try.isAgg136 w) rfl (hh.seg 2 rfl) rfl (Nat.add_zero _).symm) (jf rfl rfl ?_))
        obtain ⟨t103, h60, hm⟩ := bindO hm
        refine jc rfl rfl rfl (fun w _ => jW h60 (Try.runUnderlying136 w) (Try.sizeOf4 w) rfl rfl h57 h58) (jc rfl rfl rfl (fun w hh => jV RB 0 h60 (Try.isAgg4 w) rfl (hh.oldseg (hTa2 _ (rsg_ix h55 h56))) rfl (Nat.add_zero _).symm) (jo ?_))
        refine jq rfl (fun h61 => ?_) (fun h61 => ?_)
        ·replace hm := ifT (h61) hm
         refine jh (jf rfl rfl (jm rfl rfl (jv ?_)))
         obtain rfl := sj hm
         exact jg () (trivial) (sE rfl) (fun w hh => hh)
        ·replace hm := ifN h61 hm
         refine jr ?_
         obtain rfl := sj hm
         exact jg () (trivial) (sE rfl) (fun w hh => hh)
       ·intro l_9 hj
        replace hm := h54
        refine jb (jh (kG [_, _] 2 Try.isAgg50 Try.sizeOf50 rfl rfl rfl rfl (jf rfl rfl (jf rfl rfl (jf rfl rfl ?_)))))
        obtain ⟨t110, h62, hm⟩ := bindO hm
        refine kt h62 rfl rfl rfl (jf rfl rfl (jf rfl rfl (jf rfl rfl ?_)))
        obtain ⟨t114, h63, hm⟩ := bindO hm
        refine jc rfl rfl rfl (fun _ _ => Yj h63 rfl rfl) ?_
        obtain ⟨t115, h64, hm⟩ := bindO hm
        refine kt h64 rfl rfl rfl (jf rfl rfl (jf rfl rfl (jf rfl rfl ?_)))
        obtain ⟨t119, h65, hm⟩ := bindO hm
        refine kt h65 rfl rfl rfl (jf rfl rfl (jf rfl rfl ?_))
        obtain ⟨t122, h66, hm⟩ := bindO hm
        refine kt h66 rfl rfl rfl (jf rfl rfl (jf rfl rfl ?_))
        obtain ⟨t125, h67, hm⟩ := bindO hm
        refine kt h67 rfl rfl rfl (kG [_, _, _] 1 Try.isAgg138 Try.sizeOf138 rfl rfl rfl rfl ?_)
        obtain ⟨t127, h68, hm⟩ := bindO hm
        refine jd [] [_, _, _] rfl rfl rfl rfl rfl rfl rfl Try.call84 (fun w hh => ih s0 c1 k2 t110 t115 t75 t119 t122 t125 (⟨s_1.next9_can, s_1.next9_least, s_1.next9_most⟩ : Book) qa0 na0 ca0 qa1 na1 ca1 qa2 na2 ca2 ar2 ⟨V_next9_can.q, V_next9_can.n, V_next9_can.cap, V_next9_can.sp⟩ ⟨V_next9_least.q, V_next9_least.n, V_next9_least.cap, V_next9_least.sp⟩ ⟨V_next9_most.q, V_next9_most.n, V_next9_most.cap, V_next9_most.sp⟩ w (HV.callee (S0 := []) (vs0 := [_, _, _]) hh (roR hh 0 rfl (roR hh 1 rfl (roR hh 2 rfl roN)))) hna0 hqa0 hla0 hna1 hqa1 hla1 hna2 hqa2 hla2 hda2 (hh.oldT (S0 := []) (vs0 := [_, _, _]) hTa2) h48 h49 h50 h68) (fun l_10 h69 => ?_)
        obtain ⟨h70, h71, h72⟩ := h69
        refine jS (S' := [_, _, _]) (vs' := [_, _, _]) [0, 1, 2] [0, 1, 2] 0 rfl rfl rfl rfl (jv (js (jb (jh (jf rfl rfl ?_)))))
        obtain ⟨t97, h73, hm⟩ := bindO hm
        refine kt h73 rfl rfl rfl (jm rfl rfl (jv ?_))
        obtain rfl := sj hm
        refine jb ?_
        exact jy _ () rfl (⟨h70, h71, h72⟩) (sE rfl) (fun w hh => hh)
      ·replace hm := ifE h52 hm
       refine jM (ji (ji (jz ?_)))
       obtain rfl := sj hm
       have hbo := h51 _ rfl
       subst hbo
       exact jg () (⟨h48, h49, h50⟩) (.nil) (fun w hh => hh)
     ·intro l_7 hj
      obtain ⟨h45, h46, h47⟩ := hj
      replace hm := h44
      obtain rfl := sj hm
      refine J0 rfl (fun w hh => .nil) (fun w hh => ⟨(), rfl, ⟨h45, h46, h47⟩, hh.se [] [0, 1, 2] 3 rfl rfl rfl rfl⟩)
structure y6 where
  at1 : Int
  t5 : Int
def yZ (s0 : Scalps) (s : y6) : Option (y6 ⊕ (Unit ⊕ Bool)) :=
 if s.t5 < (s0.carried.length : Int) then
 ((ix s0.carried s.t5).bind fun t17 =>
 (addc t17.hi 1).bind fun t20 =>
 (remc s.at1 t20).bind fun t21 =>
 (ix s0.carried s.t5).bind fun t25 =>
 if t21 < t25.lo then
 (some (.inr (.inr false))) else
 ((ix s0.carried s.t5).bind fun t33 =>
 (addc t33.hi 1).bind fun t36 =>
 (quoc s.at1 t36).bind fun t37 =>
 (addc s.t5 1).bind fun t12 =>
 some (.inl (⟨t37, t12⟩ : y6)))) else
 (some (.inr (.inl ())))
def Kg (s0 : Scalps) (at1 : Int) : Option Bool :=
 (iterM FU (yZ s0) (⟨at1, 0⟩ : y6)).bind fun o =>
 oc o (fun j => some true) (fun r_1 => some r_1)
theorem Z0 (s0 : Scalps) (at1 : Int) (qa0 : Option Addr) (na0 ca0 : Nat) (qa1 : Option Addr) (na1 ca1 : Nat) (w : World) (hw : HV w (keys [] []) [] [] [(aB qa0, aO qa0, RSt.enc s0.strips), (aB qa1, aO qa1, RSp.enc s0.carried)] w) (hna0 : s0.strips.length = na0) (hqa0 : AOK na0 qa0) (hla0 : na0 ≤ ca0) (hna1 : s0.carried.length = na1) (hqa1 : AOK na1 qa1) (hla1 : na1 ≤ ca1) {res : Bool} (hm : Kg s0 at1 = some res) :
    Calls Try.prog 85 #[.agg #[.slice qa0 na0 ca0, .slice qa1 na1 ca1], .int .i64 at1] w (fun en w' => ∃ l : Unit, en = .returned (.bool res) ∧ (True) ∧ HV w (keys [] []) [] [] [] w') := by
  unfold Kg at hm
  refine kb Try.func85 rfl Try.ntmps85 rfl (e := [(0, _), (1, _)]) rfl hw (jp ?_)
  refine jH rfl rfl (fun b h1 => ?_)
  refine jm rfl rfl (jo (jj (jp (jm rfl rfl (jo ?_)))))
  obtain ⟨o, h2, h3⟩ := bindO hm
  refine jC (ι := Unit) (fun j => o = .inl j) (fun j => []) (fun j => [(b, .cells #[.slice qa0 na0 ca0, .slice qa1 na1 ca1] 50 (0, 0))]) (fun j => []) ?_ ?_
  ·replace hm := h2
   refine jl ?_
   refine jF (ι := Unit) hm (fun s l => True) (fun s l => [(1, .int .i64 s.at1), (2, ptr b 0), (5, .int .i64 s.t5)]) (fun s l => [(b, .cells #[.slice qa0 na0 ca0, .slice qa1 na1 ca1] 50 (0, 0))]) (fun s l => []) () (trivial) (sE rfl) (fun w hh => hh) (fun s l r hpl hm h4 => ?_)
   unfold yZ at hm
   refine jj (jp (jf rfl rfl (jL 1 Try.runUnderlying50 rfl Try.sizeOf26 rfl rfl (jU 0 Try.isAgg26 rfl rfl rfl rfl (jc rfl rfl rfl (fun w _ => jB hna1 (Try.runUnderlying26 w) rfl) (qv rfl rfl rfl (jo ?_)))))))
   refine jq rfl (fun h5 => ?_) (fun h5 => ?_)
   ·replace hm := ifD h5 hm
    refine jr (jb (jj (jl (jj (jj ?_)))))
    refine jX none (.free 0 (.free 1 (.hoist 2 (.free 3 (.free 4 (.free 5 (.hoist 6 (.free 7 (.free 8 (.free 9 (.hoist 10 (.free 11 (.free 12 (.free 13 (.hoist 14 (.free 15 .done)))))))))))))))) _ rfl (by decide +kernel) (fun w k hh => hh.draw k) (fun w hh => hh) ?_
    refine kg rfl rfl rfl (kO 1 Try.runUnderlying50 Try.sizeOf26 rfl rfl rfl rfl (qq 0 Try.isAgg26 rfl rfl rfl rfl rfl (kg rfl rfl rfl ?_)))
    obtain ⟨t17, h6, hm⟩ := bindO hm
    refine jk rfl rfl rfl rfl (fun w _ => jW h6 (Try.runUnderlying26 w) (Try.sizeOf37 w) rfl rfl hna1 hqa1) (kO 1 Try.runUnderlying37 Try.sizeOf3 rfl rfl rfl rfl (jA rfl rfl rfl rfl (fun w hh => jV RSp 1 h6 (Try.isAgg3 w) rfl (hh.seg 1 rfl) rfl rfl) ?_))
    obtain ⟨t20, h7, hm⟩ := bindO hm
    refine jk rfl rfl rfl rfl (fun _ _ => Jg h7 rfl rfl) ?_
    obtain ⟨t21, h8, hm⟩ := bindO hm
    refine jk rfl rfl rfl rfl (fun _ _ => jax h8 rfl rfl) (kO 1 Try.runUnderlying50 Try.sizeOf26 rfl rfl rfl rfl (qq 0 Try.isAgg26 rfl rfl rfl rfl rfl (kg rfl rfl rfl ?_)))
    obtain ⟨t25, h9, hm⟩ := bindO hm
    refine jk rfl rfl rfl rfl (fun w _ => jW h9 (Try.runUnderlying26 w) (Try.sizeOf37 w) rfl rfl hna1 hqa1) (kO 0 Try.runUnderlying37 Try.sizeOf3 rfl rfl rfl rfl (jA rfl rfl rfl rfl (fun w hh => jV RSp 0 h9 (Try.isAgg3 w) rfl (hh.seg 1 rfl) rfl rfl) (jk rfl rfl rfl rfl (fun _ _ => Zz rfl rfl) (jI (jb ?_)))))
    refine jq rfl (fun h10 => ?_) (fun h10 => ?_)
    ·replace hm := ifD h10 hm
     refine jp (jm rfl rfl (jo (jw (je (jx (je (je ?_)))))))
     refine jx ?_
     obtain rfl := sj hm
     have hbo := h4 _ rfl
     subst hbo
     refine je ?_
     replace hm := ocR h3
     refine je ?_
     obtain rfl := sj hm
     refine jn rfl (fun w hh => (.tmp rfl .nil)) (fun w hh => ⟨(), rfl, trivial, hh.se [] [] 2 rfl rfl rfl rfl⟩)
    ·replace hm := ifE h10 hm
     refine jr (jb (jh (jf rfl rfl (jL 1 Try.runUnderlying50 rfl Try.sizeOf26 rfl rfl (jU 0 Try.isAgg26 rfl rfl rfl rfl (jf rfl rfl ?_))))))
     obtain ⟨t33, h11, hm⟩ := bindO hm
     refine jc rfl rfl rfl (fun w _ => jW h11 (Try.runUnderlying26 w) (Try.sizeOf37 w) rfl rfl hna1 hqa1) (jL 1 Try.runUnderlying37 rfl Try.sizeOf3 rfl rfl (jc rfl rfl rfl (fun w hh => jV RSp 1 h11 (Try.isAgg3 w) rfl (hh.seg 1 rfl) rfl rfl) ?_))
     obtain ⟨t36, h12, hm⟩ := bindO hm
     refine kt h12 rfl rfl rfl ?_
     obtain ⟨t37, h13, hm⟩ := bindO hm
     refine jc rfl rfl rfl (fun _ _ => jaE h13 rfl rfl) (jm rfl rfl (jv (js (jb (jh (jf rfl rfl ?_))))))
     obtain ⟨t12, h14, hm⟩ := bindO hm
     refine kt h14 rfl rfl rfl (jm rfl rfl (jv ?_))
     obtain rfl := sj hm
     refine jb ?_
     exact jy _ () rfl (trivial) (sE rfl) (fun w hh => hh)
   ·replace hm := ifE h5 hm
    refine jM (ji (ji (jz ?_)))
    obtain rfl := sj hm
    have hbo := h4 _ rfl
    subst hbo
    exact jg () (rfl) (.nil) (fun w hh => hh)
  ·intro j hj
   have h15 := hj
   subst h15
   replace hm := ocL h3
   refine jb (jp (jm rfl rfl (jo (jw ?_))))
   obtain rfl := sj hm
   refine jn rfl (fun w hh => (.tmp rfl .nil)) (fun w hh => ⟨(), rfl, trivial, hh.se [] [] 2 rfl rfl rfl rfl⟩)
structure Qt where
  r0 : Int
  r1 : Int
  r2 : Bool
structure JX where
  n7 : Int
  t8 : Int
def yQ (s0 : Scalps) (s : JX) : Option (JX ⊕ Int) :=
 if s.t8 < (s0.carried.length : Int) then
 ((ix s0.carried s.t8).bind fun t28 =>
 (addc t28.hi 1).bind fun t31 =>
 (mulc s.n7 t31).bind fun t32 =>
 (addc s.t8 1).bind fun t23 =>
 some (.inl (⟨t32, t23⟩ : JX))) else
 (some (.inr s.n7))
structure K2 where
  now9_can : (List Bool)
  now9_least : (List Int)
  now9_most : (List Int)
structure yU where
  k10 : Int
  now9_can : (List Bool)
  now9_least : (List Int)
  now9_most : (List Int)
structure Q1 where
  r0_can : (List Bool)
  r0_least : (List Int)
  r0_most : (List Int)
structure JU where
  at12 : Int
  r0_can : (List Bool)
  r0_least : (List Int)
  r0_most : (List Int)
structure Q2 where
  r0_can : (List Bool)
  r0_least : (List Int)
  r0_most : (List Int)
def zW (o : Int) (s_1 : yU) (s0 : Scalps) (c1 : (List (List Bool))) (s_2 : JU) : Option (JU ⊕ Q1) :=
 if s_2.at12 < o then
 (((ix s_1.now9_can s_2.at12).bind fun t55 =>
 if t55 = true then
 ((ix s_1.now9_least s_2.at12).bind fun t65 =>
 (ix s_1.now9_most s_2.at12).bind fun t70 =>
 (kJ FU s0 c1 s_1.k10 0 s_2.at12 s_2.at12 0 t65 t70 (⟨s_2.r0_can, s_2.r0_least, s_2.r0_most⟩ : Book)).bind fun t73 =>
 some (⟨t73.next9_can, t73.next9_least, t73.next9_most⟩ : Q2)) else
 (some (⟨s_2.r0_can, s_2.r0_least, s_2.r0_most⟩ : Q2))).bind fun o_3 =>
 (addc s_2.at12 1).bind fun t51 =>
 some (.inl (⟨t51, o_3.r0_can, o_3.r0_least, o_3.r0_most⟩ : JU))) else
 (some (.inr (⟨s_2.r0_can, s_2.r0_least, s_2.r0_most⟩ : Q1)))
def zS (s0 : Scalps) (o : Int) (c1 : (List (List Bool))) (s_1 : yU) : Option (yU ⊕ K2) :=
 if s_1.k10 < (s0.strips.length : Int) then
 ((J9 o).bind fun t46 =>
 (iterM FU (zW o s_1 s0 c1) (⟨0, t46.can, t46.least, t46.most⟩ : JU)).bind fun o_2 =>
 (addc s_1.k10 1).bind fun t44 =>
 some (.inl (⟨t44, o_2.r0_can, o_2.r0_least, o_2.r0_most⟩ : yU))) else
 (some (.inr (⟨s_1.now9_can, s_1.now9_least, s_1.now9_most⟩ : K2)))
structure Q3 where
  found13 : Bool
  least14 : Int
  most15 : Int
structure JR where
  found13 : Bool
  least14 : Int
  most15 : Int
  at16 : Int
structure Q4 where
  found13 : Bool
  least14 : Int
  most15 : Int
structure Q6 where
  found13 : Bool
  least14 : Int
  most15 : Int
def zU (o : Int) (o_1 : K2) (s0 : Scalps) (s_3 : JR) : Option (JR ⊕ Q3) :=
 if s_3.at16 < o then
 ((((ix o_1.now9_can s_3.at16).bind fun t83 =>
 if (!t83) = true then
 (some true) else
 ((Kg s0 s_3.at16).bind fun t89 =>
 some (!t89))).bind fun o_6 =>
 if o_6 = true then
 (some (⟨s_3.found13, s_3.least14, s_3.most15⟩ : Q4)) else
 ((if (!s_3.found13) = true then
 ((ix o_1.now9_least s_3.at16).bind fun t97 =>
 (ix o_1.now9_most s_3.at16).bind fun t102 =>
 some (⟨true, t97, t102⟩ : Q6)) else
 (some (⟨s_3.found13, s_3.least14, s_3.most15⟩ : Q6))).bind fun o_7 =>
 (ix o_1.now9_least s_3.at16).bind fun t108 =>
 (ix o_1.now9_most s_3.at16).bind fun t115 =>
 some (⟨o_7.found13, (min o_7.least14 t108), (max o_7.most15 t115)⟩ : Q4))).bind fun o_5 =>
 (addc s_3.at16 1).bind fun t79 =>
 some (.inl (⟨o_5.found13, o_5.least14, o_5.most15, t79⟩ : JR))) else
 (some (.inr (⟨s_3.found13, s_3.least14, s_3.most15⟩ : Q3)))
def z7 (s0 : Scalps) (c1 : (List (List Bool))) : Option Qt :=
 (iterM FU (yQ s0) (⟨1, 0⟩ : JX)).bind fun o =>
 (J9 o).bind fun t34 =>
 (ix t34.can 0).bind fun t37 =>
 (some (t34.can.set (Int.toNat 0) true)).bind fun r0_can =>
 (iterM FU (zS s0 o c1) (⟨0, r0_can, t34.least, t34.most⟩ : yU)).bind fun o_1 =>
 (iterM FU (zU o o_1 s0) (⟨false, 0, 0, 0⟩ : JR)).bind fun o_4 =>
 some (⟨o_4.least14, o_4.most15, o_4.found13⟩ : Qt)
theorem jak (s0 : Scalps) (c1 : (List (List Bool))) (qa0 : Option Addr) (na0 ca0 : Nat) (qa1 : Option Addr) (na1 ca1 : Nat) (qa2 : Option Addr) (na2 ca2 : Nat) (ar2 : List AL) (w : World) (hw : HV w (keys [] []) [] [] [(aB qa0, aO qa0, RSt.enc s0.strips), (aB qa1, aO qa1, RSp.enc s0.carried), (aB qa2, aO qa2, RwA.enc ar2)] w) (hna0 : s0.strips.length = na0) (hqa0 : AOK na0 qa0) (hla0 : na0 ≤ ca0) (hna1 : s0.carried.length = na1) (hqa1 : AOK na1 qa1) (hla1 : na1 ≤ ca1) (hna2 : c1.length = na2) (hqa2 : AOK na2 qa2) (hla2 : na2 ≤ ca2) (hda2 : DRO c1 ar2) (hTa2 : ∀ t, t ∈ rsg RB c1 ar2 → segOK w t ∧ (t.2.2 ≠ [] → t.1 ∉ keys [] [])) {res : Qt} (hm : z7 s0 c1 = some res) :
    Calls Try.prog 25 #[.agg #[.slice qa0 na0 ca0, .slice qa1 na1 ca1], .slice qa2 na2 ca2] w (fun en w' => ∃ l : Unit, en = .returned (.tuple #[.int .i64 res.r0, .int .i64 res.r1, .bool res.r2]) ∧ (True) ∧ HV w (keys [] []) [] [] [] w') := by
  unfold z7 at hm
  refine kb Try.func25 rfl Try.ntmps25 rfl (e := [(0, _), (1, _)]) rfl hw (jp ?_)
  refine jH rfl rfl (fun b h1 => ?_)
  refine jm rfl rfl (jm rfl rfl (jm rfl rfl (j1 (jm rfl rfl (jo (jj (jp ?_)))))))
  refine jm rfl rfl (jo ?_)
  obtain ⟨o, h2, h3⟩ := bindO hm
  refine jC (ι := Unit) (fun l => True) (fun l => [(1, .slice qa2 na2 ca2), (2, ptr b 0), (7, .int .i64 o)]) (fun l => [(b, .cells #[.slice qa0 na0 ca0, .slice qa1 na1 ca1] 50 (0, 0))]) (fun l => []) ?_ ?_
  ·replace hm := h2
   refine jl ?_
   refine jF (ι := Unit) hm (fun s l_1 => True) (fun s l_1 => [(1, .slice qa2 na2 ca2), (2, ptr b 0), (7, .int .i64 s.n7), (8, .int .i64 s.t8)]) (fun s l_1 => [(b, .cells #[.slice qa0 na0 ca0, .slice qa1 na1 ca1] 50 (0, 0))]) (fun s l_1 => []) () (trivial) (sE rfl) (fun w hh => hh) (fun s l_1 r hpl hm h4 => ?_)
   unfold yQ at hm
   refine jj (jp (jf rfl rfl (jL 1 Try.runUnderlying50 rfl Try.sizeOf26 rfl rfl (jU 0 Try.isAgg26 rfl rfl rfl rfl (jc rfl rfl rfl (fun w _ => jB hna1 (Try.runUnderlying26 w) rfl) (qv rfl rfl rfl (jo ?_)))))))
   refine jq rfl (fun h5 => ?_) (fun h5 => ?_)
   ·replace hm := ifD h5 hm
    refine jr (jb (jj (jl (jh (jf rfl rfl (jL 1 Try.runUnderlying50 rfl Try.sizeOf26 rfl rfl (jU 0 Try.isAgg26 rfl rfl rfl rfl ?_)))))))
    refine jf rfl rfl ?_
    obtain ⟨t28, h6, hm⟩ := bindO hm
    refine jc rfl rfl rfl (fun w _ => jW h6 (Try.runUnderlying26 w) (Try.sizeOf37 w) rfl rfl hna1 hqa1) (jL 1 Try.runUnderlying37 rfl Try.sizeOf3 rfl rfl (jc rfl rfl rfl (fun w hh => jV RSp 1 h6 (Try.isAgg3 w) rfl (hh.seg 1 rfl) rfl rfl) ?_))
    obtain ⟨t31, h7, hm⟩ := bindO hm
    refine kt h7 rfl rfl rfl ?_
    obtain ⟨t32, h8, hm⟩ := bindO hm
    refine jc rfl rfl rfl (fun _ _ => Yj h8 rfl rfl) (jm rfl rfl (jv (js (jb (jh (jf rfl rfl ?_))))))
    obtain ⟨t23, h9, hm⟩ := bindO hm
    refine kt h9 rfl rfl rfl (jm rfl rfl (jv ?_))
    obtain rfl := sj hm
    refine jb ?_
    exact jy _ () rfl (trivial) (sE rfl) (fun w hh => hh)
   ·replace hm := ifE h5 hm
    refine jM (ji (ji (jz ?_)))
    obtain rfl := sj hm
    have hbo := h4 _ rfl
    subst hbo
    exact jg () (trivial) (sE rfl) (fun w hh => hh)
  ·intro l hj
   replace hm := h3
   refine jb (jp (jf rfl rfl ?_))
   obtain ⟨t34, h10, hm⟩ := bindO hm
   refine jd [] [] rfl rfl rfl rfl rfl rfl rfl Try.call83 (fun w hh => Zj o w (HV.callee (S0 := []) (vs0 := []) hh roN)  h10) (fun l_2 h11 => ?_)
   obtain ⟨h12, h13, h14⟩ := h11
   refine jS (S' := [_]) (vs' := [_, _, _]) [0] [0, 1, 2] 0 rfl rfl rfl rfl ?_
   refine jt (fun w => Try.zeroValue138 w) rfl (fun b_1 h15 => ?_)
   refine jE (us := #[_, _, _]) (cs' := [_, _, _]) (S' := [_, _]) 0 (fun w => Try.sizeOf138 w) rfl rfl rfl rfl rfl rfl rfl (j1 (jL 0 Try.runUnderlying138 rfl Try.sizeOf136 rfl rfl (jU 0 Try.isAgg136 rfl rfl rfl rfl ?_)))
   obtain ⟨t37, h16, hm⟩ := bindO hm
   refine jc rfl rfl rfl (fun w _ => qe h16 (Try.runUnderlying136 w) (Try.sizeOf4 w) rfl rfl (vlen RB h12 rfl) (vne h12)) ?_
   obtain ⟨r0_can, hr0_can, hm⟩ := bindO hm
   refine KU RB 0 0 true (fun w => Try.sizeOf4 w) rfl rfl rfl rfl h12 rfl (Nat.add_zero _).symm rfl h16 rfl rfl (Option.some.inj hr0_can) (fun h17 => ?_)
   refine jS (S' := [_, _]) (vs' := [_, _, _]) [0, 1] [0, 1, 2] 0 rfl rfl rfl rfl (jo (jj (jp (jm rfl rfl (jo ?_)))))
   obtain ⟨o_1, h18, h19⟩ := bindO hm
   refine jC (ι := VL × VL × VL) (fun l_3 => VOK 1 l_3.1.n l_3.1.cap (RB.enc o_1.now9_can) l_3.1.sp l_3.1.q ∧ VOK 1 l_3.2.1.n l_3.2.1.cap (RI.enc o_1.now9_least) l_3.2.1.sp l_3.2.1.q ∧ VOK 1 l_3.2.2.n l_3.2.2.cap (RI.enc o_1.now9_most) l_3.2.2.sp l_3.2.2.q) (fun l_3 => [(2, ptr b 0), (7, .int .i64 o), (9, ptr b_1 0)]) (fun l_3 => [(b_1, .cells #[slv l_3.1.q l_3.1.n l_3.1.cap, slv l_3.2.1.q l_3.2.1.n l_3.2.1.cap, slv l_3.2.2.q l_3.2.2.n l_3.2.2.cap] 138 (0, 0)), (b, .cells #[.slice qa0 na0 ca0, .slice qa1 na1 ca1] 50 (0, 0))]) (fun l_3 => [⟨4, RB.enc o_1.now9_can, l_3.1.sp, l_3.1.q, []⟩, ⟨3, RI.enc o_1.now9_least, l_3.2.1.sp, l_3.2.1.q, []⟩, ⟨3, RI.enc o_1.now9_most, l_3.2.2.sp, l_3.2.2.q, []⟩]) ?_ ?_
   ·replace hm := h18
    refine jl ?_
    refine jF (ι := VL × VL × VL) hm (fun s_1 l_4 => VOK 1 l_4.1.n l_4.1.cap (RB.enc s_1.now9_can) l_4.1.sp l_4.1.q ∧ VOK 1 l_4.2.1.n l_4.2.1.cap (RI.enc s_1.now9_least) l_4.2.1.sp l_4.2.1.q ∧ VOK 1 l_4.2.2.n l_4.2.2.cap (RI.enc s_1.now9_most) l_4.2.2.sp l_4.2.2.q) (fun s_1 l_4 => [(1, .slice qa2 na2 ca2), (2, ptr b 0), (7, .int .i64 o), (9, ptr b_1 0), (10, .int .i64 s_1.k10)]) (fun s_1 l_4 => [(b_1, .cells #[slv l_4.1.q l_4.1.n l_4.1.cap, slv l_4.2.1.q l_4.2.1.n l_4.2.1.cap, slv l_4.2.2.q l_4.2.2.n l_4.2.2.cap] 138 (0, 0)), (b, .cells #[.slice qa0 na0 ca0, .slice qa1 na1 ca1] 50 (0, 0))]) (fun s_1 l_4 => [⟨4, RB.enc s_1.now9_can, l_4.1.sp, l_4.1.q, []⟩, ⟨3, RI.enc s_1.now9_least, l_4.2.1.sp, l_4.2.1.q, []⟩, ⟨3, RI.enc s_1.now9_most, l_4.2.2.sp, l_4.2.2.q, []⟩]) (l_2.1, l_2.2.1, l_2.2.2) (⟨h17, h13, h14⟩) (sE rfl) (fun w hh => hh) (fun s_1 l_4 r_1 hpl hm h26 => ?_)
    obtain ⟨h23, h24, h25⟩ := hpl
    unfold zS at hm
    refine jj (jp (jf rfl rfl (jL 0 Try.runUnderlying50 rfl Try.sizeOf48 rfl rfl (jU 1 Try.isAgg48 rfl rfl rfl rfl (jc rfl rfl rfl (fun w _ => jB hna0 (Try.runUnderlying48 w) rfl) (qv rfl rfl rfl (jo ?_)))))))
    refine jq rfl (fun h27 => ?_) (fun h27 => ?_)
    ·replace hm := ifD h27 hm
     refine jr (jb (jj (jl (jp (jf rfl rfl ?_)))))
     obtain ⟨t46, h28, hm⟩ := bindO hm
     refine jd [] [] rfl rfl rfl rfl rfl rfl rfl Try.call83 (fun w hh => Zj o w (HV.callee (S0 := []) (vs0 := []) hh roN)  h28) (fun l_5 h29 => ?_)
     obtain ⟨h30, h31, h32⟩ := h29
     refine jS (S' := [_, _]) (vs' := [_, _, _, _, _, _]) [0, 1] [0, 1, 2, 3, 4, 5] 0 rfl rfl rfl rfl ?_
     refine jt (fun w => Try.zeroValue138 w) rfl (fun b_2 h33 => ?_)
     refine jE (us := #[_, _, _]) (cs' := [_, _, _]) (S' := [_, _, _]) 0 (fun w => Try.sizeOf138 w) rfl rfl rfl rfl rfl rfl rfl (jo (jj (jp (jm rfl rfl (jo ?_)))))
     obtain ⟨o_2, h34, h35⟩ := bindO hm
     refine jC (ι := Unit) (fun l_6 => VOK 1 l_5.1.n l_5.1.cap (RB.enc o_2.r0_can) l_5.1.sp l_5.1.q ∧ VOK 1 l_5.2.1.n l_5.2.1.cap (RI.enc o_2.r0_least) l_5.2.1.sp l_5.2.1.q ∧ VOK 1 l_5.2.2.n l_5.2.2.cap (RI.enc o_2.r0_most) l_5.2.2.sp l_5.2.2.q) (fun l_6 => [(1, .slice qa2 na2 ca2), (2, ptr b 0), (7, .int .i64 o), (9, ptr b_1 0), (10, .int .i64 s_1.k10), (11, ptr b_2 0)]) (fun l_6 => [(b_2, .cells #[slv l_5.1.q l_5.1.n l_5.1.cap, slv l_5.2.1.q l_5.2.1.n l_5.2.1.cap, slv l_5.2.2.q l_5.2.2.n l_5.2.2.cap] 138 (0, 0)), (b_1, .cells #[slv l_4.1.q l_4.1.n l_4.1.cap, slv l_4.2.1.q l_4.2.1.n l_4.2.1.cap, slv l_4.2.2.q l_4.2.2.n l_4.2.2.cap] 138 (0, 0)), (b, .cells #[.slice qa0 na0 ca0, .slice qa1 na1 ca1] 50 (0, 0))]) (fun l_6 => [⟨4, RB.enc o_2.r0_can, l_5.1.sp, l_5.1.q, []⟩, ⟨3, RI.enc o_2.r0_least, l_5.2.1.sp, l_5.2.1.q, []⟩, ⟨3, RI.enc o_2.r0_most, l_5.2.2.sp, l_5.2.2.q, []⟩, ⟨4, RB.enc s_1.now9_can, l_4.1.sp, l_4.1.q, []⟩, ⟨3, RI.enc s_1.now9_least, l_4.2.1.sp, l_4.2.1.q, []⟩, ⟨3, RI.enc s_1.now9_most, l_4.2.2.sp, l_4.2.2.q, []⟩]) ?_ ?_
     ·replace hm := h34
      refine jl ?_
      refine jF (ι := Unit) hm (fun s_2 l_7 => VOK 1 l_5.1.n l_5.1.cap (RB.enc s_2.r0_can) l_5.1.sp l_5.1.q ∧ VOK 1 l_5.2.1.n l_5.2.1.cap (RI.enc s_2.r0_least) l_5.2.1.sp l_5.2.1.q ∧ VOK 1 l_5.2.2.n l_5.2.2.cap (RI.enc s_2.r0_most) l_5.2.2.sp l_5.2.2.q) (fun s_2 l_7 => [(1, .slice qa2 na2 ca2), (2, ptr b 0), (7, .int .i64 o), (9, ptr b_1 0), (10, .int .i64 s_1.k10), (11, ptr b_2 0), (12, .int .i64 s_2.at12)]) (fun s_2 l_7 => [(b_2, .cells #[slv l_5.1.q l_5.1.n l_5.1.cap, slv l_5.2.1.q l_5.2.1.n l_5.2.1.cap, slv l_5.2.2.q l_5.2.2.n l_5.2.2.cap] 138 (0, 0)), (b_1, .cells #[slv l_4.1.q l_4.1.n l_4.1.cap, slv l_4.2.1.q l_4.2.1.n l_4.2.1.cap, slv l_4.2.2.q l_4.2.2.n l_4.2.2.cap] 138 (0, 0)), (b, .cells #[.slice qa0 na0 ca0, .slice qa1 na1 ca1] 50 (0, 0))]) (fun s_2 l_7 => [⟨4, RB.enc s_2.r0_can, l_5.1.sp, l_5.1.q, []⟩, ⟨3, RI.enc s_2.r0_least, l_5.2.1.sp, l_5.2.1.q, []⟩, ⟨3, RI.enc s_2.r0_most, l_5.2.2.sp, l_5.2.2.q, []⟩, ⟨4, RB.enc s_1.now9_can, l_4.1.sp, l_4.1.q, []⟩, ⟨3, RI.enc s_1.now9_least, l_4.2.1.sp, l_4.2.1.q, []⟩, ⟨3, RI.enc s_1.now9_most, l_4.2.2.sp, l_4.2.2.q, []⟩]) () (⟨h30, h31, h32⟩) (sE rfl) (fun w hh => hh) (fun s_2 l_7 r_2 hpl hm h42 => ?_)
      obtain ⟨h39, h40, h41⟩ := hpl
      unfold zW at hm
      refine jj (jp (jf rfl rfl (jf rfl rfl (qv rfl rfl rfl (jo ?_)))))
      refine jq rfl (fun h43 => ?_) (fun h43 => ?_)
      ·replace hm := ifD h43 hm
       refine jr (jb (jj ?_))
       obtain ⟨o_3, h44, h45⟩ := bindO hm
       refine jC (ι := Unit) (fun l_8 => VOK 1 l_5.1.n l_5.1.cap (RB.enc o_3.r0_can) l_5.1.sp l_5.1.q ∧ VOK 1 l_5.2.1.n l_5.2.1.cap (RI.enc o_3.r0_least) l_5.2.1.sp l_5.2.1.q ∧ VOK 1 l_5.2.2.n l_5.2.2.cap (RI.enc o_3.r0_most) l_5.2.2.sp l_5.2.2.q) (fun l_8 => [(1, .slice qa2 na2 ca2), (2, ptr b 0), (7, .int .i64 o), (9, ptr b_1 0), (10, .int .i64 s_1.k10), (11, ptr b_2 0), (12, .int .i64 s_2.at12)]) (fun l_8 => [(b_2, .cells #[slv l_5.1.q l_5.1.n l_5.1.cap, slv l_5.2.1.q l_5.2.1.n l_5.2.1.cap, slv l_5.2.2.q l_5.2.2.n l_5.2.2.cap] 138 (0, 0)), (b_1, .cells #[slv l_4.1.q l_4.1.n l_4.1.cap, slv l_4.2.1.q l_4.2.1.n l_4.2.1.cap, slv l_4.2.2.q l_4.2.2.n l_4.2.2.cap] 138 (0, 0)), (b, .cells #[.slice qa0 na0 ca0, .slice qa1 na1 ca1] 50 (0, 0))]) (fun l_8 => [⟨4, RB.enc o_3.r0_can, l_5.1.sp, l_5.1.q, []⟩, ⟨3, RI.enc o_3.r0_least, l_5.2.1.sp, l_5.2.1.q, []⟩, ⟨3, RI.enc o_3.r0_most, l_5.2.2.sp, l_5.2.2.q, []⟩, ⟨4, RB.enc s_1.now9_can, l_4.1.sp, l_4.1.q, []⟩, ⟨3, RI.enc s_1.now9_least, l_4.2.1.sp, l_4.2.1.q, []⟩, ⟨3, RI.enc s_1.now9_most, l_4.2.2.sp, l_4.2.2.q, []⟩]) ?_ ?_
       ·replace hm := h44
        refine jl (jp (jL 0 Try.runUnderlying138 rfl Try.sizeOf136 rfl rfl (jU 1 Try.isAgg136 rfl rfl rfl rfl (jf rfl rfl ?_))))
        obtain ⟨t55, h49, hm⟩ := bindO hm
        refine jc rfl rfl rfl (fun w _ => qe h49 (Try.runUnderlying136 w) (Try.sizeOf4 w) rfl rfl (vlen RB h23 rfl) (vne h23)) (jc rfl rfl rfl (fun w hh => jV RB 0 h49 (Try.isAgg4 w) rfl (hh.vseg 3 rfl h23) rfl (Nat.add_zero _).symm) (jo ?_))
        refine jq rfl (fun h50 => ?_) (fun h50 => ?_)
        ·replace hm := ifT (h50) hm
         refine jX none (.hoist 0 (.free 1 (.free 2 (.free 3 (.free 4 (.free 5 (.hoist 6 (.free 7 (.free 8 (.hoist 9 (.free 10 (.hoist 11 (.free 12 (.free 13 (.hoist 14 (.hoist 15 (.one 16 .done))))))))))))))))) (HV _ _ [(b_2, .cells #[slv l_5.1.q l_5.1.n l_5.1.cap, slv l_5.2.1.q l_5.2.1.n l_5.2.1.cap, slv l_5.2.2.q l_5.2.2.n l_5.2.2.cap] 138 (0, 0)), (b_1, .cells #[slv l_4.1.q l_4.1.n l_4.1.cap, slv l_4.2.1.q l_4.2.1.n l_4.2.1.cap, slv l_4.2.2.q l_4.2.2.n l_4.2.2.cap] 138 (0, 0)), (b, .cells #[.slice qa0 na0 ca0, .slice qa1 na1 ca1] 50 (0, 0))] [⟨4, RB.enc s_1.now9_can, l_4.1.sp, l_4.1.q, []⟩, ⟨3, RI.enc s_1.now9_least, l_4.2.1.sp, l_4.2.1.q, []⟩, ⟨3, RI.enc s_1.now9_most, l_4.2.2.sp, l_4.2.2.q, []⟩] _) rfl (by decide +kernel) (fun w k hh => hh.draw k) (hsE [0, 1, 2] [3, 4, 5] 0 rfl rfl rfl rfl) ?_
         refine jA rfl rfl rfl rfl (fun w hh => kl (vs := [_, _]) (Try.isAgg50 w) (Try.sizeOf50 w) rfl (hh.cells 2 rfl rfl)) (kg rfl rfl rfl (kg rfl rfl rfl (kg rfl rfl rfl (kg rfl rfl rfl (kO 1 Try.runUnderlying138 Try.sizeOf32 rfl rfl rfl rfl (qq 1 Try.isAgg32 rfl rfl rfl rfl rfl (kg rfl rfl rfl ?_)))))))
         obtain ⟨t65, h51, hm⟩ := bindO hm
         refine jk rfl rfl rfl rfl (fun w _ => qe h51 (Try.runUnderlying32 w) (Try.sizeOf3 w) rfl rfl (vlen RI h24 rfl) (vne h24)) (jA rfl rfl rfl rfl (fun w hh => jV RI 0 h51 (Try.isAgg3 w) rfl (hh.vseg 1 rfl h24) rfl (Nat.add_zero _).symm) (kO 2 Try.runUnderlying138 Try.sizeOf32 rfl rfl rfl rfl (qq 1 Try.isAgg32 rfl rfl rfl rfl rfl (kg rfl rfl rfl ?_))))
         obtain ⟨t70, h52, hm⟩ := bindO hm
         refine jk rfl rfl rfl rfl (fun w _ => qe h52 (Try.runUnderlying32 w) (Try.sizeOf3 w) rfl rfl (vlen RI h25 rfl) (vne h25)) (jA rfl rfl rfl rfl (fun w hh => jV RI 0 h52 (Try.isAgg3 w) rfl (hh.vseg 2 rfl h25) rfl (Nat.add_zero _).symm) (jA rfl rfl rfl rfl (fun w hh => kl (vs := [_, _, _]) (Try.isAgg138 w) (Try.sizeOf138 w) rfl (hh.cells 0 rfl rfl)) (jK rfl ?_)))
         obtain ⟨t73, h53, hm⟩ := bindO hm
         refine jd [] [_, _, _] rfl rfl rfl rfl rfl rfl rfl Try.call84 (fun w hh => ZR FU s0 c1 s_1.k10 0 s_2.at12 s_2.at12 0 t65 t70 (⟨s_2.r0_can, s_2.r0_least, s_2.r0_most⟩ : Book) qa0 na0 ca0 qa1 na1 ca1 qa2 na2 ca2 ar2 ⟨l_5.1.q, l_5.1.n, l_5.1.cap, l_5.1.sp⟩ ⟨l_5.2.1.q, l_5.2.1.n, l_5.2.1.cap, l_5.2.1.sp⟩ ⟨l_5.2.2.q, l_5.2.2.n, l_5.2.2.cap, l_5.2.2.sp⟩ w (HV.callee (S0 := []) (vs0 := [_, _, _]) hh (roR hh 0 rfl (roR hh 1 rfl (roR hh 2 rfl roN)))) hna0 hqa0 hla0 hna1 hqa1 hla1 hna2 hqa2 hla2 hda2 (hh.oldT (S0 := []) (vs0 := [_, _, _]) hTa2) h39 h40 h41 h53) (fun l_9 h54 => ?_)
         obtain ⟨h55, h56, h57⟩ := h54
         refine jS (S' := [_, _, _]) (vs' := [_, _, _, _, _, _]) [0, 1, 2] [0, 1, 2, 3, 4, 5] 0 rfl rfl rfl rfl (ju (hsE [0, 1, 2] [3, 4, 5] 0 rfl rfl rfl rfl) (jI (js ?_)))
         obtain rfl := sj hm
         exact jg () (⟨h55, h56, h57⟩) (sE rfl) (fun w hh => hh)
        ·replace hm := ifN h50 hm
         refine jr (js ?_)
         obtain rfl := sj hm
         exact jg () (⟨h39, h40, h41⟩) (sE rfl) (fun w hh => hh)
       ·intro l_8 hj
        obtain ⟨h46, h47, h48⟩ := hj
        replace hm := h45
        refine jb (jh (jf rfl rfl ?_))
        obtain ⟨t51, h58, hm⟩ := bindO hm
        refine kt h58 rfl rfl rfl (jm rfl rfl (jv ?_))
        obtain rfl := sj hm
        refine jb ?_
        exact jy _ () rfl (⟨h46, h47, h48⟩) (sE rfl) (fun w hh => hh)
      ·replace hm := ifE h43 hm
       refine jM (ji (ji (jz ?_)))
       obtain rfl := sj hm
       have hbo := h42 _ rfl
       subst hbo
       exact jg () (⟨h39, h40, h41⟩) (sE rfl) (fun w hh => hh)
     ·intro l_6 hj
      obtain ⟨h36, h37, h38⟩ := hj
      replace hm := h35
      refine jb (jh (kG [_, _, _] 0 Try.isAgg138 Try.sizeOf138 rfl rfl rfl rfl (jE (us := #[_, _, _]) (cs' := [_, _, _]) (S' := [_, _, _]) 1 (fun w => Try.sizeOf138 w) rfl rfl rfl rfl rfl rfl rfl (jv (js (jb (jh ?_)))))))
      refine jf rfl rfl ?_
      obtain ⟨t44, h59, hm⟩ := bindO hm
      refine kt h59 rfl rfl rfl (jm rfl rfl (jv ?_))
      obtain rfl := sj hm
      refine jb ?_
      exact jy _ (l_5.1, l_5.2.1, l_5.2.2) rfl (⟨h36, h37, h38⟩) (sE rfl) (hsE [1, 2] [0, 1, 2] 0 rfl rfl rfl rfl)
    ·replace hm := ifE h27 hm
     refine jM (ji (ji (jz ?_)))
     obtain rfl := sj hm
     have hbo := h26 _ rfl
     subst hbo
     exact jg (l_4.1, l_4.2.1, l_4.2.2) (⟨h23, h24, h25⟩) (sE rfl) (fun w hh => hh)
   ·intro l_3 hj
    obtain ⟨h20, h21, h22⟩ := hj
    replace hm := h19
    refine jb (jp (jm rfl rfl (jm rfl rfl (jm rfl rfl (jo (jj (jp ?_)))))))
    refine jm rfl rfl (jo ?_)
    obtain ⟨o_4, h60, h61⟩ := bindO hm
    refine jC (ι := Unit) (fun l_10 => True) (fun l_10 => [(13, .bool o_4.found13), (14, .int .i64 o_4.least14), (15, .int .i64 o_4.most15)]) (fun l_10 => [(b_1, .cells #[slv l_3.1.q l_3.1.n l_3.1.cap, slv l_3.2.1.q l_3.2.1.n l_3.2.1.cap, slv l_3.2.2.q l_3.2.2.n l_3.2.2.cap] 138 (0, 0)), (b, .cells #[.slice qa0 na0 ca0, .slice qa1 na1 ca1] 50 (0, 0))]) (fun l_10 => [⟨4, RB.enc o_1.now9_can, l_3.1.sp, l_3.1.q, []⟩, ⟨3, RI.enc o_1.now9_least, l_3.2.1.sp, l_3.2.1.q, []⟩, ⟨3, RI.enc o_1.now9_most, l_3.2.2.sp, l_3.2.2.q, []⟩]) ?_ ?_
    ·replace hm := h60
     refine jl ?_
     refine jF (ι := Unit) hm (fun s_3 l_11 => True) (fun s_3 l_11 => [(2, ptr b 0), (7, .int .i64 o), (9, ptr b_1 0), (13, .bool s_3.found13), (14, .int .i64 s_3.least14), (15, .int .i64 s_3.most15), (16, .int .i64 s_3.at16)]) (fun s_3 l_11 => [(b_1, .cells #[slv l_3.1.q l_3.1.n l_3.1.cap, slv l_3.2.1.q l_3.2.1.n l_3.2.1.cap, slv l_3.2.2.q l_3.2.2.n l_3.2.2.cap] 138 (0, 0)), (b, .cells #[.slice qa0 na0 ca0, .slice qa1 na1 ca1] 50 (0, 0))]) (fun s_3 l_11 => [⟨4, RB.enc o_1.now9_can, l_3.1.sp, l_3.1.q, []⟩, ⟨3, RI.enc o_1.now9_least, l_3.2.1.sp, l_3.2.1.q, []⟩, ⟨3, RI.enc o_1.now9_most, l_3.2.2.sp, l_3.2.2.q, []⟩]) () (trivial) (sE rfl) (fun w hh => hh) (fun s_3 l_11 r_3 hpl hm h62 => ?_)
     unfold zU at hm
     refine jj (jp (jf rfl rfl (jf rfl rfl (qv rfl rfl rfl (jo ?_)))))
     refine jq rfl (fun h63 => ?_) (fun h63 => ?_)
     ·replace hm := ifD h63 hm
      refine jr (jb (jj ?_))
      obtain ⟨o_5, h64, h65⟩ := bindO hm
      refine jC (ι := Unit) (fun l_12 => True) (fun l_12 => [(2, ptr b 0), (7, .int .i64 o), (9, ptr b_1 0), (13, .bool o_5.found13), (14, .int .i64 o_5.least14), (15, .int .i64 o_5.most15), (16, .int .i64 s_3.at16)]) (fun l_12 => [(b_1, .cells #[slv l_3.1.q l_3.1.n l_3.1.cap, slv l_3.2.1.q l_3.2.1.n l_3.2.1.cap, slv l_3.2.2.q l_3.2.2.n l_3.2.2.cap] 138 (0, 0)), (b, .cells #[.slice qa0 na0 ca0, .slice qa1 na1 ca1] 50 (0, 0))]) (fun l_12 => [⟨4, RB.enc o_1.now9_can, l_3.1.sp, l_3.1.q, []⟩, ⟨3, RI.enc o_1.now9_least, l_3.2.1.sp, l_3.2.1.q, []⟩, ⟨3, RI.enc o_1.now9_most, l_3.2.2.sp, l_3.2.2.q, []⟩]) ?_ ?_
      ·replace hm := h64
       refine jl (jj (jj ?_))
       obtain ⟨o_6, h66, h67⟩ := bindO hm
       refine jC (ι := Unit) (fun l_13 => True) (fun l_13 => [(2, ptr b 0), (7, .int .i64 o), (9, ptr b_1 0), (13, .bool s_3.found13), (14, .int .i64 s_3.least14), (15, .int .i64 s_3.most15), (16, .int .i64 s_3.at16), (91, .bool o_6)]) (fun l_13 => [(b_1, .cells #[slv l_3.1.q l_3.1.n l_3.1.cap, slv l_3.2.1.q l_3.2.1.n l_3.2.1.cap, slv l_3.2.2.q l_3.2.2.n l_3.2.2.cap] 138 (0, 0)), (b, .cells #[.slice qa0 na0 ca0, .slice qa1 na1 ca1] 50 (0, 0))]) (fun l_13 => [⟨4, RB.enc o_1.now9_can, l_3.1.sp, l_3.1.q, []⟩, ⟨3, RI.enc o_1.now9_least, l_3.2.1.sp, l_3.2.1.q, []⟩, ⟨3, RI.enc o_1.now9_most, l_3.2.2.sp, l_3.2.2.q, []⟩]) ?_ ?_
       ·replace hm := h66
        refine jh (jL 0 Try.runUnderlying138 rfl Try.sizeOf136 rfl rfl (jU 0 Try.isAgg136 rfl rfl rfl rfl (jf rfl rfl ?_)))
        obtain ⟨t83, h68, hm⟩ := bindO hm
        refine jc rfl rfl rfl (fun w _ => qe h68 (Try.runUnderlying136 w) (Try.sizeOf4 w) rfl rfl (vlen RB h20 rfl) (vne h20)) (jc rfl rfl rfl (fun w hh => jV RB 0 h68 (Try.isAgg4 w) rfl (hh.vseg 0 rfl h20) rfl (Nat.add_zero _).symm) (jc rfl rfl rfl (fun _ _ => kq rfl) (jf rfl rfl ?_)))
        refine jD 86 rfl (fun h69 => ?_) (fun h69 => ?_)
        ·replace hm := ifT (h69) hm
         refine g_k rfl rfl rfl rfl (g_k rfl rfl rfl rfl (g_k rfl rfl rfl rfl (g_k rfl rfl rfl rfl (j3 rfl rfl rfl (jv ?_)))))
         obtain rfl := sj hm
         exact jg () (trivial) (sE rfl) (fun w hh => hh)
        ·replace hm := ifN h69 hm
         refine ja rfl rfl (kG [_, _] 1 Try.isAgg50 Try.sizeOf50 rfl rfl rfl rfl (ja rfl rfl (jf rfl rfl (ja rfl rfl ?_))))
         obtain ⟨t89, h70, hm⟩ := bindO hm
         refine jd [] [] rfl rfl rfl rfl rfl rfl rfl Try.call85 (fun w hh => Z0 s0 s_3.at16 qa0 na0 ca0 qa1 na1 ca1 w (HV.callee (S0 := []) (vs0 := []) hh (roR hh 0 rfl (roR hh 1 rfl roN))) hna0 hqa0 hla0 hna1 hqa1 hla1 h70) (fun l_14 h71 => ?_)
         refine ja rfl rfl (jc rfl rfl rfl (fun _ _ => kq rfl) (ki rfl rfl rfl (jv ?_)))
         obtain rfl := sj hm
         exact jg () (trivial) (sE rfl) (fun w hh => hh)
       ·intro l_13 hj
        replace hm := h67
        refine jb ?_
        refine jq rfl (fun h72 => ?_) (fun h72 => ?_)
        ·replace hm := ifT (h72) hm
         refine jM (ji (jz ?_))
         obtain rfl := sj hm
         exact jg () (trivial) (sE rfl) (fun w hh => hh)
        ·replace hm := ifN h72 hm
         refine jr (jb (jj ?_))
         obtain ⟨o_7, h73, h74⟩ := bindO hm
         refine jC (ι := Unit) (fun l_15 => True) (fun l_15 => [(2, ptr b 0), (7, .int .i64 o), (9, ptr b_1 0), (13, .bool o_7.found13), (14, .int .i64 o_7.least14), (15, .int .i64 o_7.most15), (16, .int .i64 s_3.at16)]) (fun l_15 => [(b_1, .cells #[slv l_3.1.q l_3.1.n l_3.1.cap, slv l_3.2.1.q l_3.2.1.n l_3.2.1.cap, slv l_3.2.2.q l_3.2.2.n l_3.2.2.cap] 138 (0, 0)), (b, .cells #[.slice qa0 na0 ca0, .slice qa1 na1 ca1] 50 (0, 0))]) (fun l_15 => [⟨4, RB.enc o_1.now9_can, l_3.1.sp, l_3.1.q, []⟩, ⟨3, RI.enc o_1.now9_least, l_3.2.1.sp, l_3.2.1.q, []⟩, ⟨3, RI.enc o_1.now9_most, l_3.2.2.sp, l_3.2.2.q, []⟩]) ?_ ?_
         ·replace hm := h73
          refine jp (jf rfl rfl (jc rfl rfl rfl (fun _ _ => kq rfl) (jo ?_)))
          refine jq rfl (fun h75 => ?_) (fun h75 => ?_)
          ·replace hm := ifT (h75) hm
           refine jX none (.free 0 (.hoist 1 (.free 2 (.free 3 (.hoist 4 (.free 5 (.hoist 6 (.free 7 (.free 8 (.hoist 9 (.free 10 (.free 11 (.free 12 .done))))))))))))) _ rfl (by decide +kernel) (fun w k hh => hh.draw k) (fun w hh => hh) ?_
           refine kO 1 Try.runUnderlying138 Try.sizeOf32 rfl rfl rfl rfl (qq 0 Try.isAgg32 rfl rfl rfl rfl rfl (kg rfl rfl rfl ?_))
           obtain ⟨t97, h76, hm⟩ := bindO hm
           refine jk rfl rfl rfl rfl (fun w _ => qe h76 (Try.runUnderlying32 w) (Try.sizeOf3 w) rfl rfl (vlen RI h21 rfl) (vne h21)) (jA rfl rfl rfl rfl (fun w hh => jV RI 0 h76 (Try.isAgg3 w) rfl (hh.vseg 1 rfl h21) rfl (Nat.add_zero _).symm) (kO 2 Try.runUnderlying138 Try.sizeOf32 rfl rfl rfl rfl (qq 0 Try.isAgg32 rfl rfl rfl rfl rfl (kg rfl rfl rfl ?_))))
           obtain ⟨t102, h77, hm⟩ := bindO hm
           refine jk rfl rfl rfl rfl (fun w _ => qe h77 (Try.runUnderlying32 w) (Try.sizeOf3 w) rfl rfl (vlen RI h22 rfl) (vne h22)) (jA rfl rfl rfl rfl (fun w hh => jV RI 0 h77 (Try.isAgg3 w) rfl (hh.vseg 2 rfl h22) rfl (Nat.add_zero _).symm) (jk rfl rfl rfl rfl (fun _ _ => jN rfl) (jk rfl rfl rfl rfl (fun _ _ => jN rfl) (jk rfl rfl rfl rfl (fun _ _ => jN rfl) (jI ?_)))))
           obtain rfl := sj hm
           exact jg () (trivial) (sE rfl) (fun w hh => hh)
          ·replace hm := ifN h75 hm
           refine jr ?_
           obtain rfl := sj hm
           exact jg () (trivial) (sE rfl) (fun w hh => hh)
         ·intro l_15 hj
          replace hm := h74
          refine jb (jp (jf rfl rfl (jL 1 Try.runUnderlying138 rfl Try.sizeOf32 rfl rfl (jU 0 Try.isAgg32 rfl rfl rfl rfl (jf rfl rfl ?_)))))
          obtain ⟨t108, h78, hm⟩ := bindO hm
          refine jc rfl rfl rfl (fun w _ => qe h78 (Try.runUnderlying32 w) (Try.sizeOf3 w) rfl rfl (vlen RI h21 rfl) (vne h21)) (jc rfl rfl rfl (fun w hh => jV RI 0 h78 (Try.isAgg3 w) rfl (hh.vseg 1 rfl h21) rfl (Nat.add_zero _).symm) (jc rfl rfl rfl (fun _ _ => Z4 rfl rfl) (jm rfl rfl (jo (jh (jf rfl rfl (jL 2 Try.runUnderlying138 rfl Try.sizeOf32 rfl rfl ?_)))))))
          refine jU 0 Try.isAgg32 rfl rfl rfl rfl (jf rfl rfl ?_)
          obtain ⟨t115, h79, hm⟩ := bindO hm
          refine jc rfl rfl rfl (fun w _ => qe h79 (Try.runUnderlying32 w) (Try.sizeOf3 w) rfl rfl (vlen RI h22 rfl) (vne h22)) (jc rfl rfl rfl (fun w hh => jV RI 0 h79 (Try.isAgg3 w) rfl (hh.vseg 2 rfl h22) rfl (Nat.add_zero _).symm) (jc rfl rfl rfl (fun _ _ => ZW rfl rfl) (jm rfl rfl (jv (js ?_)))))
          obtain rfl := sj hm
          exact jg () (trivial) (sE rfl) (fun w hh => hh)
      ·intro l_12 hj
       replace hm := h65
       refine jb (jh (jf rfl rfl ?_))
       obtain ⟨t79, h80, hm⟩ := bindO hm
       refine kt h80 rfl rfl rfl (jm rfl rfl (jv ?_))
       obtain rfl := sj hm
       refine jb ?_
       exact jy _ () rfl (trivial) (sE rfl) (fun w hh => hh)
     ·replace hm := ifE h63 hm
      refine jM (ji (ji (jz ?_)))
      obtain rfl := sj hm
      have hbo := h62 _ rfl
      subst hbo
      exact jg () (trivial) (sE rfl) (fun w hh => hh)
    ·intro l_10 hj
     replace hm := h61
     refine jb (jp (jf rfl rfl (jf rfl rfl (jf rfl rfl (jm rfl rfl (jm rfl rfl (jm rfl rfl ?_)))))))
     refine jo (jw ?_)
     obtain rfl := sj hm
     refine jn rfl (fun w hh => (.tmp rfl (.tmp rfl (.tmp rfl .nil)))) (fun w hh => ⟨(), rfl, trivial, hh.se [] [] 3 rfl rfl rfl rfl⟩)
structure JA where
  r0 : Lack
  r1 : Int
def z8 (s0 : Scalps) : Option JA :=
 (ks s0).bind fun t10 =>
 oc t10 (fun t10a => some (⟨(⟨false, []⟩ : Lack), t10a⟩ : JA)) (fun t10b => (JB s0.strips s0.carried).bind fun t20 =>
 (j0 s0.strips s0.carried t10b (fun p : Pair => jP p s0.strips s0.carried)).bind fun t21 =>
 oc t21 (fun t21a => some (⟨t21a, 0⟩ : JA)) (fun t21b => some (⟨(⟨false, []⟩ : Lack), 6⟩ : JA)))
theorem jaj (s0 : Scalps) (qa0 : Option Addr) (na0 ca0 : Nat) (qa1 : Option Addr) (na1 ca1 : Nat) (w : World) (hw : HV w (keys [] []) [] [] [(aB qa0, aO qa0, RSt.enc s0.strips), (aB qa1, aO qa1, RSp.enc s0.carried)] w) (hna0 : s0.strips.length = na0) (hqa0 : AOK na0 qa0) (hla0 : na0 ≤ ca0) (hna1 : s0.carried.length = na1) (hqa1 : AOK na1 qa1) (hla1 : na1 ≤ ca1) {res : JA} (hm : z8 s0 = some res) :
    Calls Try.prog 28 #[.agg #[.slice qa0 na0 ca0, .slice qa1 na1 ca1]] w (fun en w' => ∃ l : VL, en = .returned (.tuple #[.agg #[.bool res.r0.tenants, slv l.q l.n l.cap], .int .i64 res.r1]) ∧ (VOK 1 l.n l.cap (RI.enc res.r0.of_) l.sp l.q) ∧ HV w (keys [] []) [] [⟨3, RI.enc res.r0.of_, l.sp, l.q, []⟩] [] w') := by
  unfold z8 at hm
  refine kb Try.func28 rfl Try.ntmps28 rfl (e := [(0, _)]) rfl hw (jp ?_)
  refine jH rfl rfl (fun b h2 => ?_)
  refine jt (fun w => Try.zeroValue61 w) rfl (fun b_1 h3 => ?_)
  refine jm rfl rfl (j1 (kG [_, _] 1 Try.isAgg28 Try.sizeOf28 rfl rfl rfl rfl ?_))
  obtain ⟨t10, h4, hm⟩ := bindO hm
  rcases t10 with t10a | t10b
  ·replace hm := ocL hm
   refine jd [] [] rfl rfl rfl rfl rfl rfl rfl Try.call65 (fun w hh => kL s0 qa0 na0 ca0 qa1 na1 ca1 w (HV.callee (S0 := []) (vs0 := []) hh (roR hh 0 rfl (roR hh 1 rfl roN))) hna0 hqa0 hla0 hna1 hqa1 hla1 h4) (fun l h5 => ?_)
   have h6 := h5
   refine jf rfl rfl (kj rfl rfl rfl (kj rfl rfl rfl (jm rfl rfl (jm rfl rfl (jo (jj (jp ?_)))))))
   refine jf rfl rfl (jc rfl rfl rfl (fun _ _ => Ym h6 rfl rfl) (jo (yl rfl rfl (jp (jc rfl rfl rfl (fun _ _ => jG (vs := []) (cells := [_, _]) rfl rfl) (jf rfl rfl (jE (us := #[_, _]) (cs' := [_, _]) (S' := [_, _]) 0 (fun w => Try.sizeOf61 w) rfl rfl rfl rfl rfl rfl rfl ?_)))))))
   refine jm rfl rfl (jo (jw (je (kr 3 ?_))))
   obtain rfl := sj hm
   refine jn rfl (fun w hh => (.cell rfl (loadVar_agg (vs := [_, _]) (Try.isAgg61 _) (Try.sizeOf61 _) (hh.cells 0 rfl rfl)) (.tmp rfl .nil))) (fun w hh => ⟨⟨none, 0, 0, []⟩, rfl, VOK.nil, hh.se [] [0] 2 rfl rfl rfl rfl⟩)
  ·replace hm := ocR hm
   refine jd [] [] rfl rfl rfl rfl rfl rfl rfl Try.call65 (fun w hh => kL s0 qa0 na0 ca0 qa1 na1 ca1 w (HV.callee (S0 := []) (vs0 := []) hh (roR hh 0 rfl (roR hh 1 rfl roN))) hna0 hqa0 hla0 hna1 hqa1 hla1 h4) (fun l_1 h7 => ?_)
   refine jS (S' := [_, _, _, _]) (vs' := []) [0, 1, 2, 3] [] 0 rfl rfl rfl rfl (jf rfl rfl (kj rfl rfl rfl (kj rfl rfl rfl (jm rfl rfl (jm rfl rfl (jo (jj ?_)))))))
   refine jp (jf rfl rfl (jc rfl rfl rfl (fun _ _ => kv rfl rfl) (jo (qO rfl rfl (jr (jb (jp ?_)))))))
   refine jf rfl rfl (jf rfl rfl ?_)
   obtain ⟨t20, h8, hm⟩ := bindO hm
   refine jd [] [] rfl rfl rfl rfl rfl rfl rfl Try.call67 (fun w hh => QP s0.strips s0.carried l_1.1 qa0 na0 ca0 qa1 na1 ca1 (.map (some l_1.2)) w (HV.callee (S0 := []) (vs0 := []) hh (roC (bsep (hh.bseg 0 rfl)) (roR hh 0 rfl (roR hh 1 rfl roN)))) hna0 hqa0 hla0 hna1 hqa1 hla1 h8) (fun l_2 h9 => ?_)
   refine jS (S' := [_, _, _, _, _]) (vs' := []) [0, 1, 2, 3, 4] [] 0 rfl rfl rfl rfl ?_
   obtain ⟨t21, h10, hm⟩ := bindO hm
   rcases t21 with t21a | t21b
   ·replace hm := ocL hm
    refine jS (S' := [_, _, _, _, _]) (vs' := []) [2, 0, 1, 3, 4] [] 0 rfl rfl rfl rfl ?_
    refine jd [_] [] rfl rfl rfl rfl rfl rfl rfl Try.call66 (fun w hh => j4 s0.strips s0.carried t10b (fun p : Pair => jP p s0.strips s0.carried) l_1.1 qa0 na0 ca0 qa1 na1 ca1 l_1.2 122 (#[]) (#[ptr l_2 0]) ([(l_2, 0, [.func (.func 97) #[ptr l_1.1 0] #[]]), (l_1.1, 0, [.slice qa0 na0 ca0, .slice qa1 na1 ca1, .map (some l_1.2)]), (aB qa0, aO qa0, RSt.enc s0.strips), (aB qa1, aO qa1, RSp.enc s0.carried)]) w (HV.callee (S0 := [_]) (vs0 := []) hh (roA (roC (hh.bsepH 1 rfl) (roR hh 0 rfl (roR hh 1 rfl roN))) (roC (hh.bsepH 0 rfl) (roC (hh.bsepH 1 rfl) (roR hh 0 rfl (roR hh 1 rfl roN)))))) hna0 hqa0 hla0 hna1 hqa1 hla1 (⟨fun a w => Try.call122 a w, (fun p r hr w hT => clRet (zt p s0.strips s0.carried l_2 l_1.1 qa0 na0 ca0 qa1 na1 ca1 (.map (some l_1.2)) w (HVstart hT) hna0 hqa0 hla0 hna1 hqa1 hla1 hr))⟩ : ClOK Try.prog 122 #[] #[ptr l_2 0] ([(l_2, 0, [.func (.func 97) #[ptr l_1.1 0] #[]]), (l_1.1, 0, [.slice qa0 na0 ca0, .slice qa1 na1 ca1, .map (some l_1.2)]), (aB qa0, aO qa0, RSt.enc s0.strips), (aB qa1, aO qa1, RSp.enc s0.carried)]) (fun x : Pair => [.agg #[.int .i64 x.tenant, .int .i64 x.strip]]) (fun x : Int => .int .i64 x) (fun p : Pair => jP p s0.strips s0.carried)) h10) (fun l_3 h11 => ?_)
    have h12 := h11
    refine jS (S' := [_, _, _, _, _]) (vs' := [_]) [0, 1, 2, 3, 4] [0] 0 rfl rfl rfl rfl (jf rfl rfl (kj rfl rfl rfl (kj rfl rfl rfl ?_)))
    refine jt (fun w => Try.zeroValue61 w) rfl (fun b_2 h13 => ?_)
    refine jm rfl rfl (jE (us := #[_, _]) (cs' := [_, _]) (S' := [_, _, _, _, _, _]) 0 (fun w => Try.sizeOf61 w) rfl rfl rfl rfl rfl rfl rfl (jo (jj (jp (jf rfl rfl (jc rfl rfl rfl (fun w _ => ZM (Try.runUnderlying118 w) rfl rfl) (jo ?_)))))))
    refine qO rfl rfl (jr (jb (jp (kG [_, _] 0 Try.isAgg61 Try.sizeOf61 rfl rfl rfl rfl (jE (us := #[_, _]) (cs' := [_, _]) (S' := [_, _, _, _, _, _]) 4 (fun w => Try.sizeOf61 w) rfl rfl rfl rfl rfl rfl rfl (jm rfl rfl (jo ?_)))))))
    refine jw ?_
    obtain rfl := sj hm
    refine jn rfl (fun w hh => (.cell rfl (loadVar_agg (vs := [_, _]) (Try.isAgg61 _) (Try.sizeOf61 _) (hh.cells 4 rfl rfl)) (.tmp rfl .nil))) (fun w hh => ⟨l_3, rfl, h12, hh.se [] [0] 2 rfl rfl rfl rfl⟩)
   ·replace hm := ocR hm
    refine jS (S' := [_, _, _, _, _]) (vs' := []) [2, 0, 1, 3, 4] [] 0 rfl rfl rfl rfl ?_
    refine jd [_] [] rfl rfl rfl rfl rfl rfl rfl Try.call66 (fun w hh => j4 s0.strips s0.carried t10b (fun p : Pair => jP p s0.strips s0.carried) l_1.1 qa0 na0 ca0 qa1 na1 ca1 l_1.2 122 (#[]) (#[ptr l_2 0]) ([(l_2, 0, [.func (.func 97) #[ptr l_1.1 0] #[]]), (l_1.1, 0, [.slice qa0 na0 ca0, .slice qa1 na1 ca1, .map (some l_1.2)]), (aB qa0, aO qa0, RSt.enc s0.strips), (aB qa1, aO qa1, RSp.enc s0.carried)]) w (HV.callee (S0 := [_]) (vs0 := []) hh (roA (roC (hh.bsepH 1 rfl) (roR hh 0 rfl (roR hh 1 rfl roN))) (roC (hh.bsepH 0 rfl) (roC (hh.bsepH 1 rfl) (roR hh 0 rfl (roR hh 1 rfl roN)))))) hna0 hqa0 hla0 hna1 hqa1 hla1 (⟨fun a w => Try.call122 a w, (fun p r hr w hT => clRet (zt p s0.strips s0.carried l_2 l_1.1 qa0 na0 ca0 qa1 na1 ca1 (.map (some l_1.2)) w (HVstart hT) hna0 hqa0 hla0 hna1 hqa1 hla1 hr))⟩ : ClOK Try.prog 122 #[] #[ptr l_2 0] ([(l_2, 0, [.func (.func 97) #[ptr l_1.1 0] #[]]), (l_1.1, 0, [.slice qa0 na0 ca0, .slice qa1 na1 ca1, .map (some l_1.2)]), (aB qa0, aO qa0, RSt.enc s0.strips), (aB qa1, aO qa1, RSp.enc s0.carried)]) (fun x : Pair => [.agg #[.int .i64 x.tenant, .int .i64 x.strip]]) (fun x : Int => .int .i64 x) (fun p : Pair => jP p s0.strips s0.carried)) h10) (fun l_4 h14 => ?_)
    obtain ⟨h15, h16⟩ := h14
    refine jS (S' := [_, _, _, _, _, _]) (vs' := [_, _]) [0, 1, 2, 3, 4, 5] [0, 1] 0 rfl rfl rfl rfl (jf rfl rfl (kj rfl rfl rfl (kj rfl rfl rfl ?_)))
    refine jt (fun w => Try.zeroValue61 w) rfl (fun b_3 h17 => ?_)
    refine jm rfl rfl (jE (us := #[_, _]) (cs' := [_, _]) (S' := [_, _, _, _, _, _, _]) 0 (fun w => Try.sizeOf61 w) rfl rfl rfl rfl rfl rfl rfl (jo (jj (jp (jf rfl rfl (jc rfl rfl rfl (fun w _ => ZM (Try.runUnderlying118 w) rfl rfl) (jo ?_)))))))
    refine yl rfl rfl (jp (jc rfl rfl rfl (fun _ _ => jG (vs := []) (cells := [_, _]) rfl rfl) (jE (us := #[_, _]) (cs' := [_, _]) (S' := [_, _, _, _, _, _, _]) 5 (fun w => Try.sizeOf61 w) rfl rfl rfl rfl rfl rfl rfl (jm rfl rfl (jo (jw (je ?_)))))))
    refine kr 3 ?_
    obtain rfl := sj hm
    refine jn rfl (fun w hh => (.cell rfl (loadVar_agg (vs := [_, _]) (Try.isAgg61 _) (Try.sizeOf61 _) (hh.cells 5 rfl rfl)) (.tmp rfl .nil))) (fun w hh => ⟨⟨none, 0, 0, []⟩, rfl, VOK.nil, hh.se [] [0] 2 rfl rfl rfl rfl⟩)
structure kP where
  r0 : Int
  r1 : Int
def yT (of2 : (List Int)) (o : Int) (s : Int) : Option (Int ⊕ (Unit ⊕ kP)) :=
 if s < (of2.length : Int) then
 ((ix of2 s).bind fun t32 =>
 (subc o 1).bind fun t35 =>
 (zl t32 0 t35).bind fun t36 =>
 if t36 = true then
 (some (.inr (.inr (⟨0, 1⟩ : kP)))) else
 ((addc s 1).bind fun t29 =>
 some (.inl t29))) else
 (some (.inr (.inl ())))
def yM (of2 : (List Int)) (s_1 : Int) : Option (Int ⊕ (Unit ⊕ kP)) :=
 if s_1 < (of2.length : Int) then
 ((ix of2 s_1).bind fun t45 =>
 (subc s_1 1).bind fun t49 =>
 (ix of2 t49).bind fun t50 =>
 if t45 ≤ t50 then
 (some (.inr (.inr (⟨0, 4⟩ : kP)))) else
 ((addc s_1 1).bind fun t42 =>
 some (.inl t42))) else
 (some (.inr (.inl ())))
structure JT where
  need11 : Int
  i13 : Int
def yL (of2 : (List Int)) (tenants1 : Bool) (s0 : Scalps) (s_2 : JT) : Option (JT ⊕ Int) :=
 if s_2.i13 < (of2.length : Int) then
 ((if tenants1 = true then
 ((ix of2 s_2.i13).bind fun t68 =>
 (ix s0.carried t68).bind fun t70 =>
 (addc s_2.need11 t70.lo).bind fun t73 =>
 some t73) else
 ((ix of2 s_2.i13).bind fun t78 =>
 (zK s0 t78).bind fun t80 =>
 (addc s_2.need11 t80.lo).bind fun t82 =>
 some t82)).bind fun o_4 =>
 (addc s_2.i13 1).bind fun t61 =>
 some (.inl (⟨o_4, t61⟩ : JT))) else
 (some (.inr s_2.need11))
structure qh where
  can12 : Int
  n14 : Int
structure JY where
  any15 : Bool
  i16 : Int
def yR (of2 : (List Int)) (tenants1 : Bool) (s0 : Scalps) (s_3 : qh) (s_4 : JY) : Option (JY ⊕ Bool) :=
 if s_4.i16 < (of2.length : Int) then
 ((if s_4.any15 = true then
 (some true) else
 (if tenants1 = true then
 ((ix of2 s_4.i16).bind fun t109 =>
 (j5 s0 t109 s_3.n14).bind fun t112 =>
 if t112 = true then
 (some true) else
 (if (!tenants1) = true then
 ((ix of2 s_4.i16).bind fun t123 =>
 (j5 s0 s_3.n14 t123).bind fun t125 =>
 some t125) else
 (some false))) else
 (if (!tenants1) = true then
 ((ix of2 s_4.i16).bind fun t123_1 =>
 (j5 s0 s_3.n14 t123_1).bind fun t125_1 =>
 some t125_1) else
 (some false)))).bind fun o_8 =>
 (addc s_4.i16 1).bind fun t101 =>
 some (.inl (⟨o_8, t101⟩ : JY))) else
 (some (.inr s_4.any15))
def yO (s0 : Scalps) (o : Int) (of2 : (List Int)) (tenants1 : Bool) (s_3 : qh) : Option (qh ⊕ Int) :=
 (addc (s0.strips.length : Int) (s0.carried.length : Int)).bind fun t90 =>
 (subc t90 o).bind fun t92 =>
 if s_3.n14 < t92 then
 (((iterM FU (yR of2 tenants1 s0 s_3) (⟨false, 0⟩ : JY)).bind fun o_7 =>
 ((if o_7 = true then
 (some tenants1) else
 (some false)).bind fun o_10 =>
 if o_10 = true then
 ((zK s0 s_3.n14).bind fun t135 =>
 (addc s_3.can12 t135.hi).bind fun t137 =>
 some t137) else
 (some s_3.can12)).bind fun o_9 =>
 (if o_7 = true then
 (some (!tenants1)) else
 (some false)).bind fun o_11 =>
 if o_11 = true then
 ((ix s0.carried s_3.n14).bind fun t147 =>
 (addc o_9 t147.hi).bind fun t150 =>
 some t150) else
 (some o_9)).bind fun o_6 =>
 (addc s_3.n14 1).bind fun t95 =>
 some (.inl (⟨o_6, t95⟩ : qh))) else
 (some (.inr s_3.can12))
def KX (s0 : Scalps) (tenants1 : Bool) (of2 : (List Int)) : Option kP :=
 (if tenants1 = true then
 (some (s0.carried.length : Int)) else
 (some (s0.strips.length : Int))).bind fun o =>
 (iterM FU (yT of2 o) 0).bind fun o_1 =>
 oc o_1 (fun j => (iterM FU (yM of2) 1).bind fun o_2 =>
 oc o_2 (fun j_1 => if (of2.length : Int) = 0 then
 (some (⟨0, 4⟩ : kP)) else
 ((iterM FU (yL of2 tenants1 s0) (⟨0, 0⟩ : JT)).bind fun o_3 =>
 (iterM FU (yO s0 o of2 tenants1) (⟨0, 0⟩ : qh)).bind fun o_5 =>
 if o_3 ≤ o_5 then
 (some (⟨0, 8⟩ : kP)) else
 ((subc o_3 o_5).bind fun t156 =>
 some (⟨t156, 0⟩ : kP)))) (fun r_5 => some r_5)) (fun r_6 => some r_6)
theorem Z8 (s0 : Scalps) (tenants1 : Bool) (of2 : (List Int)) (qa0 : Option Addr) (na0 ca0 : Nat) (qa1 : Option Addr) (na1 ca1 : Nat) (qa2 : Option Addr) (na2 ca2 : Nat) (w : World) (hw : HV w (keys [] []) [] [] [(aB qa0, aO qa0, RSt.enc s0.strips), (aB qa1, aO qa1, RSp.enc s0.carried), (aB qa2, aO qa2, RI.enc of2)] w) (hna0 : s0.strips.length = na0) (hqa0 : AOK na0 qa0) (hla0 : na0 ≤ ca0) (hna1 : s0.carried.length = na1) (hqa1 : AOK na1 qa1) (hla1 : na1 ≤ ca1) (hna2 : of2.length = na2) (hqa2 : AOK na2 qa2) (hla2 : na2 ≤ ca2) {res : kP} (hm : KX s0 tenants1 of2 = some res) :
    Calls Try.prog 29 #[.agg #[.slice qa0 na0 ca0, .slice qa1 na1 ca1], .bool tenants1, .slice qa2 na2 ca2] w (fun en w' => ∃ l : Unit, en = .returned (.tuple #[.int .i64 res.r0, .int .i64 res.r1]) ∧ (True) ∧ HV w (keys [] []) [] [] [] w') := by
  unfold KX at hm
  refine kb Try.func29 rfl Try.ntmps29 rfl (e := [(0, _), (1, _), (2, _)]) rfl hw (jp ?_)
  refine jH rfl rfl (fun b h1 => ?_)
  refine jm rfl rfl (jm rfl rfl (j1 (jL 0 Try.runUnderlying50 rfl Try.sizeOf48 rfl rfl (jU 0 Try.isAgg48 rfl rfl rfl rfl (jc rfl rfl rfl (fun w _ => jB hna0 (Try.runUnderlying48 w) rfl) (jm rfl rfl (jo ?_)))))))
  refine jj ?_
  obtain ⟨o, h2, h3⟩ := bindO hm
  refine jC (ι := Unit) (fun l => True) (fun l => [(1, .bool tenants1), (2, .slice qa2 na2 ca2), (3, ptr b 0), (8, .int .i64 o)]) (fun l => [(b, .cells #[.slice qa0 na0 ca0, .slice qa1 na1 ca1] 50 (0, 0))]) (fun l => []) ?_ ?_
  ·replace hm := h2
   refine jp (jf rfl rfl (jo ?_))
   refine jq rfl (fun h4 => ?_) (fun h4 => ?_)
   ·replace hm := ifT (h4) hm
    refine jh (jL 1 Try.runUnderlying50 rfl Try.sizeOf26 rfl rfl (jU 0 Try.isAgg26 rfl rfl rfl rfl (jc rfl rfl rfl (fun w _ => jB hna1 (Try.runUnderlying26 w) rfl) (jm rfl rfl (jv ?_)))))
    obtain rfl := sj hm
    exact jg () (trivial) (sE rfl) (fun w hh => hh)
   ·replace hm := ifN h4 hm
    refine jr ?_
    obtain rfl := sj hm
    exact jg () (trivial) (sE rfl) (fun w hh => hh)
  ·intro l hj
   replace hm := h3
   refine jb (jj (jp (jm rfl rfl (jo ?_))))
   obtain ⟨o_1, h5, h6⟩ := bindO hm
   refine jC (ι := Unit) (fun j => o_1 = .inl j) (fun j => [(1, .bool tenants1), (2, .slice qa2 na2 ca2), (3, ptr b 0), (8, .int .i64 o)]) (fun j => [(b, .cells #[.slice qa0 na0 ca0, .slice qa1 na1 ca1] 50 (0, 0))]) (fun j => []) ?_ ?_
   ·replace hm := h5
    refine jl ?_
    refine jF (ι := Unit) hm (fun s l_1 => True) (fun s l_1 => [(1, .bool tenants1), (2, .slice qa2 na2 ca2), (3, ptr b 0), (8, .int .i64 o), (9, .int .i64 s)]) (fun s l_1 => [(b, .cells #[.slice qa0 na0 ca0, .slice qa1 na1 ca1] 50 (0, 0))]) (fun s l_1 => []) () (trivial) (sE rfl) (fun w hh => hh) (fun s l_1 r hpl hm h7 => ?_)
    unfold yT at hm
    refine jj (jp (jf rfl rfl (jf rfl rfl (jc rfl rfl rfl (fun w _ => jB hna2 (Try.runUnderlying32 w) rfl) (qv rfl rfl rfl (jo ?_))))))
    refine jq rfl (fun h8 => ?_) (fun h8 => ?_)
    ·replace hm := ifD h8 hm
     refine jr (jb (jj (jl (jp (jf rfl rfl (jf rfl rfl ?_))))))
     obtain ⟨t32, h9, hm⟩ := bindO hm
     refine jc rfl rfl rfl (fun w _ => jW h9 (Try.runUnderlying32 w) (Try.sizeOf3 w) rfl rfl hna2 hqa2) (jc rfl rfl rfl (fun w hh => jV RI 0 h9 (Try.isAgg3 w) rfl (hh.seg 2 rfl) rfl (Nat.add_zero _).symm) (jf rfl rfl ?_))
     obtain ⟨t35, h10, hm⟩ := bindO hm
     refine jc rfl rfl rfl (fun _ _ => k9 h10 rfl rfl) ?_
     obtain ⟨t36, h11, hm⟩ := bindO hm
     refine jd [] [] rfl rfl rfl rfl rfl rfl rfl Try.call80 (fun w hh => KB t32 0 t35 w (HV.callee (S0 := []) (vs0 := []) hh roN)  h11) (fun l_2 h12 => ?_)
     refine jo ?_
     refine jq rfl (fun h13 => ?_) (fun h13 => ?_)
     ·replace hm := ifT (h13) hm
      refine jp (jm rfl rfl (jm rfl rfl (jo (jw (jx (je (je ?_)))))))
      refine jx ?_
      obtain rfl := sj hm
      have hbo := h7 _ rfl
      subst hbo
      refine je ?_
      replace hm := ocR h6
      refine je ?_
      obtain rfl := sj hm
      refine jn rfl (fun w hh => (.tmp rfl (.tmp rfl .nil))) (fun w hh => ⟨(), rfl, trivial, hh.se [] [] 3 rfl rfl rfl rfl⟩)
     ·replace hm := ifN h13 hm
      refine jr (js (jb (jh (jf rfl rfl ?_))))
      obtain ⟨t29, h14, hm⟩ := bindO hm
      refine kt h14 rfl rfl rfl (jm rfl rfl (jv ?_))
      obtain rfl := sj hm
      refine jb ?_
      exact jy _ () rfl (trivial) (sE rfl) (fun w hh => hh)
    ·replace hm := ifE h8 hm
     refine jM (ji (ji (jz ?_)))
     obtain rfl := sj hm
     have hbo := h7 _ rfl
     subst hbo
     exact jg () (rfl) (sE rfl) (fun w hh => hh)
   ·intro j hj
    have h15 := hj
    subst h15
    replace hm := ocL h6
    refine jb (jj (jp (jm rfl rfl (jo ?_))))
    obtain ⟨o_2, h16, h17⟩ := bindO hm
    refine jC (ι := Unit) (fun j_1 => o_2 = .inl j_1) (fun j_1 => [(1, .bool tenants1), (2, .slice qa2 na2 ca2), (3, ptr b 0), (8, .int .i64 o)]) (fun j_1 => [(b, .cells #[.slice qa0 na0 ca0, .slice qa1 na1 ca1] 50 (0, 0))]) (fun j_1 => []) ?_ ?_
    ·replace hm := h16
     refine jl ?_
     refine jF (ι := Unit) hm (fun s_1 l_3 => True) (fun s_1 l_3 => [(1, .bool tenants1), (2, .slice qa2 na2 ca2), (3, ptr b 0), (8, .int .i64 o), (10, .int .i64 s_1)]) (fun s_1 l_3 => [(b, .cells #[.slice qa0 na0 ca0, .slice qa1 na1 ca1] 50 (0, 0))]) (fun s_1 l_3 => []) () (trivial) (sE rfl) (fun w hh => hh) (fun s_1 l_3 r_1 hpl hm h18 => ?_)
     unfold yM at hm
     refine jj (jp (jf rfl rfl (jf rfl rfl (jc rfl rfl rfl (fun w _ => jB hna2 (Try.runUnderlying32 w) rfl) (qv rfl rfl rfl (jo ?_))))))
     refine jq rfl (fun h19 => ?_) (fun h19 => ?_)
     ·replace hm := ifD h19 hm
      refine jr (jb (jj (jl (jj ?_))))
      refine jX none (.free 0 (.free 1 (.free 2 (.hoist 3 (.free 4 (.free 5 (.free 6 (.free 7 (.hoist 8 (.free 9 .done)))))))))) _ rfl (by decide +kernel) (fun w k hh => hh.draw k) (fun w hh => hh) ?_
      refine kg rfl rfl rfl (kg rfl rfl rfl ?_)
      obtain ⟨t45, h20, hm⟩ := bindO hm
      refine jk rfl rfl rfl rfl (fun w _ => jW h20 (Try.runUnderlying32 w) (Try.sizeOf3 w) rfl rfl hna2 hqa2) (jA rfl rfl rfl rfl (fun w hh => jV RI 0 h20 (Try.isAgg3 w) rfl (hh.seg 2 rfl) rfl (Nat.add_zero _).symm) (kg rfl rfl rfl (kg rfl rfl rfl ?_)))
      obtain ⟨t49, h21, hm⟩ := bindO hm
      refine jk rfl rfl rfl rfl (fun _ _ => k9 h21 rfl rfl) ?_
      obtain ⟨t50, h22, hm⟩ := bindO hm
      refine jk rfl rfl rfl rfl (fun w _ => jW h22 (Try.runUnderlying32 w) (Try.sizeOf3 w) rfl rfl hna2 hqa2) (jA rfl rfl rfl rfl (fun w hh => jV RI 0 h22 (Try.isAgg3 w) rfl (hh.seg 2 rfl) rfl (Nat.add_zero _).symm) (jk rfl rfl rfl rfl (fun _ _ => YT rfl rfl) (jI (jb ?_))))
      refine jq rfl (fun h23 => ?_) (fun h23 => ?_)
      ·replace hm := ifD h23 hm
       refine jp (jm rfl rfl (jm rfl rfl (jo (jw (jx (je (je ?_)))))))
       refine jx ?_
       obtain rfl := sj hm
       have hbo := h18 _ rfl
       subst hbo
       refine je ?_
       replace hm := ocR h17
       refine je ?_
       obtain rfl := sj hm
       refine jn rfl (fun w hh => (.tmp rfl (.tmp rfl .nil))) (fun w hh => ⟨(), rfl, trivial, hh.se [] [] 3 rfl rfl rfl rfl⟩)
      ·replace hm := ifE h23 hm
       refine jr (js (jb (jh (jf rfl rfl ?_))))
       obtain ⟨t42, h24, hm⟩ := bindO hm
       refine kt h24 rfl rfl rfl (jm rfl rfl (jv ?_))
       obtain rfl := sj hm
       refine jb ?_
       exact jy _ () rfl (trivial) (sE rfl) (fun w hh => hh)
     ·replace hm := ifE h19 hm
      refine jM (ji (ji (jz ?_)))
      obtain rfl := sj hm
      have hbo := h18 _ rfl
      subst hbo
      exact jg () (rfl) (sE rfl) (fun w hh => hh)
    ·intro j_1 hj
     have h25 := hj
     subst h25
     replace hm := ocL h17
     refine jb (jj (jp (jf rfl rfl (jc rfl rfl rfl (fun w _ => jB hna2 (Try.runUnderlying32 w) rfl) (jc rfl rfl rfl (fun _ _ => zr rfl rfl) (jo ?_))))))
     refine jq rfl (fun h26 => ?_) (fun h26 => ?_)
     ·replace hm := ifD h26 hm
      refine jp (jm rfl rfl (jm rfl rfl (jo (jw (je ?_)))))
      obtain rfl := sj hm
      refine jn rfl (fun w hh => (.tmp rfl (.tmp rfl .nil))) (fun w hh => ⟨(), rfl, trivial, hh.se [] [] 3 rfl rfl rfl rfl⟩)
     ·replace hm := ifE h26 hm
      refine jr (jb (jp (jm rfl rfl (jm rfl rfl (jo (jj (jp ?_)))))))
      refine jm rfl rfl (jo ?_)
      obtain ⟨o_3, h27, h28⟩ := bindO hm
      refine jC (ι := Unit) (fun l_4 => True) (fun l_4 => [(1, .bool tenants1), (2, .slice qa2 na2 ca2), (3, ptr b 0), (8, .int .i64 o), (11, .int .i64 o_3), (12, .int .i64 0)]) (fun l_4 => [(b, .cells #[.slice qa0 na0 ca0, .slice qa1 na1 ca1] 50 (0, 0))]) (fun l_4 => []) ?_ ?_
      ·replace hm := h27
       refine jl ?_
       refine jF (ι := Unit) hm (fun s_2 l_5 => True) (fun s_2 l_5 => [(1, .bool tenants1), (2, .slice qa2 na2 ca2), (3, ptr b 0), (8, .int .i64 o), (11, .int .i64 s_2.need11), (12, .int .i64 0), (13, .int .i64 s_2.i13)]) (fun s_2 l_5 => [(b, .cells #[.slice qa0 na0 ca0, .slice qa1 na1 ca1] 50 (0, 0))]) (fun s_2 l_5 => []) () (trivial) (sE rfl) (fun w hh => hh) (fun s_2 l_5 r_2 hpl hm h29 => ?_)
       unfold yL at hm
       refine jj (jp (jf rfl rfl (jf rfl rfl (jc rfl rfl rfl (fun w _ => jB hna2 (Try.runUnderlying32 w) rfl) (qv rfl rfl rfl (jo ?_))))))
       refine jq rfl (fun h30 => ?_) (fun h30 => ?_)
       ·replace hm := ifD h30 hm
        refine jr (jb (jj ?_))
        obtain ⟨o_4, h31, h32⟩ := bindO hm
        refine jC (ι := Unit) (fun l_6 => True) (fun l_6 => [(1, .bool tenants1), (2, .slice qa2 na2 ca2), (3, ptr b 0), (8, .int .i64 o), (11, .int .i64 o_4), (12, .int .i64 0), (13, .int .i64 s_2.i13)]) (fun l_6 => [(b, .cells #[.slice qa0 na0 ca0, .slice qa1 na1 ca1] 50 (0, 0))]) (fun l_6 => []) ?_ ?_
        ·replace hm := h31
         refine jl (jp (jf rfl rfl (jo ?_)))
         refine jq rfl (fun h33 => ?_) (fun h33 => ?_)
         ·replace hm := ifT (h33) hm
          refine jX none (.free 0 (.free 1 (.hoist 2 (.free 3 (.free 4 (.free 5 (.hoist 6 (.free 7 (.free 8 (.hoist 9 (.free 10 (.free 11 .done)))))))))))) _ rfl (by decide +kernel) (fun w k hh => hh.draw k) (fun w hh => hh) ?_
          refine kg rfl rfl rfl (kO 1 Try.runUnderlying50 Try.sizeOf26 rfl rfl rfl rfl (qq 0 Try.isAgg26 rfl rfl rfl rfl rfl (kg rfl rfl rfl (kg rfl rfl rfl ?_))))
          obtain ⟨t68, h34, hm⟩ := bindO hm
          refine jk rfl rfl rfl rfl (fun w _ => jW h34 (Try.runUnderlying32 w) (Try.sizeOf3 w) rfl rfl hna2 hqa2) (jA rfl rfl rfl rfl (fun w hh => jV RI 0 h34 (Try.isAgg3 w) rfl (hh.seg 2 rfl) rfl (Nat.add_zero _).symm) ?_)
          obtain ⟨t70, h35, hm⟩ := bindO hm
          refine jk rfl rfl rfl rfl (fun w _ => jW h35 (Try.runUnderlying26 w) (Try.sizeOf37 w) rfl rfl hna1 hqa1) (kO 0 Try.runUnderlying37 Try.sizeOf3 rfl rfl rfl rfl (jA rfl rfl rfl rfl (fun w hh => jV RSp 0 h35 (Try.isAgg3 w) rfl (hh.seg 1 rfl) rfl rfl) ?_))
          obtain ⟨t73, h36, hm⟩ := bindO hm
          refine jk rfl rfl rfl rfl (fun _ _ => Jg h36 rfl rfl) (jk rfl rfl rfl rfl (fun _ _ => jN rfl) (jI (js ?_)))
          obtain rfl := sj hm
          exact jg () (trivial) (sE rfl) (fun w hh => hh)
         ·replace hm := ifN h33 hm
          refine jX none (.free 0 (.hoist 1 (.free 2 (.free 3 (.free 4 (.hoist 5 (.one 6 (.free 7 (.free 8 (.free 9 .done)))))))))) _ rfl (by decide +kernel) (fun w k hh => hh.draw k) (fun w hh => hh) ?_
          refine kg rfl rfl rfl (jA rfl rfl rfl rfl (fun w hh => kl (vs := [_, _]) (Try.isAgg50 w) (Try.sizeOf50 w) rfl (hh.cells 0 rfl rfl)) (kg rfl rfl rfl (kg rfl rfl rfl ?_)))
          obtain ⟨t78, h37, hm⟩ := bindO hm
          refine jk rfl rfl rfl rfl (fun w _ => jW h37 (Try.runUnderlying32 w) (Try.sizeOf3 w) rfl rfl hna2 hqa2) (jA rfl rfl rfl rfl (fun w hh => jV RI 0 h37 (Try.isAgg3 w) rfl (hh.seg 2 rfl) rfl (Nat.add_zero _).symm) (jK rfl ?_))
          obtain ⟨t80, h38, hm⟩ := bindO hm
          refine jd [] [] rfl rfl rfl rfl rfl rfl rfl Try.call86 (fun w hh => Ye s0 t78 qa0 na0 ca0 qa1 na1 ca1 w (HV.callee (S0 := []) (vs0 := []) hh (roR hh 0 rfl (roR hh 1 rfl roN))) hna0 hqa0 hla0 hna1 hqa1 hla1 h38) (fun l_7 h39 => ?_)
          refine ju (fun w hh => hh) (jk rfl rfl rfl rfl (fun w _ => Yk 3 0 (Try.runUnderlying37 w) rfl (Try.isAgg3 w) rfl rfl) ?_)
          obtain ⟨t82, h40, hm⟩ := bindO hm
          refine jk rfl rfl rfl rfl (fun _ _ => Jg h40 rfl rfl) (jk rfl rfl rfl rfl (fun _ _ => jN rfl) (jI (js ?_)))
          obtain rfl := sj hm
          exact jg () (trivial) (sE rfl) (fun w hh => hh)
        ·intro l_6 hj
         replace hm := h32
         refine jb (jh (jf rfl rfl ?_))
         obtain ⟨t61, h41, hm⟩ := bindO hm
         refine kt h41 rfl rfl rfl (jm rfl rfl (jv ?_))
         obtain rfl := sj hm
         refine jb ?_
         exact jy _ () rfl (trivial) (sE rfl) (fun w hh => hh)
       ·replace hm := ifE h30 hm
        refine jM (ji (ji (jz ?_)))
        obtain rfl := sj hm
        have hbo := h29 _ rfl
        subst hbo
        exact jg () (trivial) (sE rfl) (fun w hh => hh)
      ·intro l_4 hj
       replace hm := h28
       refine jb (jj (jp (jm rfl rfl (jo ?_))))
       obtain ⟨o_5, h42, h43⟩ := bindO hm
       refine jC (ι := Unit) (fun l_8 => True) (fun l_8 => [(11, .int .i64 o_3), (12, .int .i64 o_5)]) (fun l_8 => [(b, .cells #[.slice qa0 na0 ca0, .slice qa1 na1 ca1] 50 (0, 0))]) (fun l_8 => []) ?_ ?_
       ·replace hm := h42
        refine jl ?_
        refine jF (ι := Unit) hm (fun s_3 l_9 => True) (fun s_3 l_9 => [(1, .bool tenants1), (2, .slice qa2 na2 ca2), (3, ptr b 0), (8, .int .i64 o), (11, .int .i64 o_3), (12, .int .i64 s_3.can12), (14, .int .i64 s_3.n14)]) (fun s_3 l_9 => [(b, .cells #[.slice qa0 na0 ca0, .slice qa1 na1 ca1] 50 (0, 0))]) (fun s_3 l_9 => []) () (trivial) (sE rfl) (fun w hh => hh) (fun s_3 l_9 r_3 hpl hm h44 => ?_)
        unfold yO at hm
        refine jj (jp (jf rfl rfl (jL 0 Try.runUnderlying50 rfl Try.sizeOf48 rfl rfl (jU 0 Try.isAgg48 rfl rfl rfl rfl (jc rfl rfl rfl (fun w _ => jB hna0 (Try.runUnderlying48 w) rfl) (jL 1 Try.runUnderlying50 rfl Try.sizeOf26 rfl rfl (jU 0 Try.isAgg26 rfl rfl rfl rfl ?_)))))))
        refine jc rfl rfl rfl (fun w _ => jB hna1 (Try.runUnderlying26 w) rfl) ?_
        obtain ⟨t90, h45, hm⟩ := bindO hm
        refine kt h45 rfl rfl rfl (jf rfl rfl ?_)
        obtain ⟨t92, h46, hm⟩ := bindO hm
        refine jc rfl rfl rfl (fun _ _ => k9 h46 rfl rfl) (qv rfl rfl rfl (jo ?_))
        refine jq rfl (fun h47 => ?_) (fun h47 => ?_)
        ·replace hm := ifD h47 hm
         refine jr (jb (jj ?_))
         obtain ⟨o_6, h48, h49⟩ := bindO hm
         refine jC (ι := Unit) (fun l_10 => True) (fun l_10 => [(1, .bool tenants1), (2, .slice qa2 na2 ca2), (3, ptr b 0), (8, .int .i64 o), (11, .int .i64 o_3), (12, .int .i64 o_6), (14, .int .i64 s_3.n14)]) (fun l_10 => [(b, .cells #[.slice qa0 na0 ca0, .slice qa1 na1 ca1] 50 (0, 0))]) (fun l_10 => []) ?_ ?_
         ·replace hm := h48
          refine jl (jp (jm rfl rfl (jo (jj (jp (jm rfl rfl (jo ?_)))))))
          obtain ⟨o_7, h50, h51⟩ := bindO hm
          refine jC (ι := Unit) (fun l_11 => True) (fun l_11 => [(1, .bool tenants1), (2, .slice qa2 na2 ca2), (3, ptr b 0), (8, .int .i64 o), (11, .int .i64 o_3), (12, .int .i64 s_3.can12), (14, .int .i64 s_3.n14), (15, .bool o_7)]) (fun l_11 => [(b, .cells #[.slice qa0 na0 ca0, .slice qa1 na1 ca1] 50 (0, 0))]) (fun l_11 => []) ?_ ?_
          ·replace hm := h50
           refine jl ?_
           refine jF (ι := Unit) hm (fun s_4 l_12 => True) (fun s_4 l_12 => [(1, .bool tenants1), (2, .slice qa2 na2 ca2), (3, ptr b 0), (8, .int .i64 o), (11, .int .i64 o_3), (12, .int .i64 s_3.can12), (14, .int .i64 s_3.n14), (15, .bool s_4.any15), (16, .int .i64 s_4.i16)]) (fun s_4 l_12 => [(b, .cells #[.slice qa0 na0 ca0, .slice qa1 na1 ca1] 50 (0, 0))]) (fun s_4 l_12 => []) () (trivial) (sE rfl) (fun w hh => hh) (fun s_4 l_12 r_4 hpl hm h52 => ?_)
           unfold yR at hm
           refine jj (jp (jf rfl rfl (jf rfl rfl (jc rfl rfl rfl (fun w _ => jB hna2 (Try.runUnderlying32 w) rfl) (qv rfl rfl rfl (jo ?_))))))
           refine jq rfl (fun h53 => ?_) (fun h53 => ?_)
           ·replace hm := ifD h53 hm
            refine jr (jb (jj ?_))
            obtain ⟨o_8, h54, h55⟩ := bindO hm
            refine jC (ι := Unit) (fun l_13 => True) (fun l_13 => [(1, .bool tenants1), (2, .slice qa2 na2 ca2), (3, ptr b 0), (8, .int .i64 o), (11, .int .i64 o_3), (12, .int .i64 s_3.can12), (14, .int .i64 s_3.n14), (15, .bool o_8), (16, .int .i64 s_4.i16)]) (fun l_13 => [(b, .cells #[.slice qa0 na0 ca0, .slice qa1 na1 ca1] 50 (0, 0))]) (fun l_13 => []) ?_ ?_
            ·replace hm := h54
             refine jl ?_
             refine jX none (.free 0 (.free 1 (.free 2 (.free 3 (.hoist 4 (.free 5 (.free 6 (.free 7 (.hoist 8 (.free 9 (.one 10 (.free 11 (.free 12 (.free 13 (.free 14 (.free 15 (.free 16 (.hoist 17 (.free 18 (.free 19 (.free 20 (.free 21 (.hoist 22 (.one 23 (.free 24 (.free 25 (.free 26 .done))))))))))))))))))))))))))) _ rfl (by decide +kernel) (fun w k hh => hh.draw k) (fun w hh => hh) ?_
             refine kg rfl rfl rfl (kg rfl rfl rfl ?_)
             refine jD 103 rfl (fun h56 => ?_) (fun h56 => ?_)
             ·replace hm := ifT (h56) hm
              refine jO rfl rfl rfl rfl rfl rfl rfl (jO rfl rfl rfl rfl rfl rfl rfl (Qi rfl rfl rfl rfl rfl rfl (qB rfl rfl rfl rfl rfl rfl (qB rfl rfl rfl rfl rfl rfl (qB rfl rfl rfl rfl rfl rfl (Qi rfl rfl rfl rfl rfl rfl (qB rfl rfl rfl rfl rfl rfl ?_)))))))
              refine jK rfl ?_
              refine jZ rfl rfl rfl rfl rfl ?_
              refine ju (fun w hh => hh) (jO rfl rfl rfl rfl rfl rfl rfl (jk rfl rfl rfl rfl (fun _ _ => yG rfl rfl) (kg rfl rfl rfl (jO rfl rfl rfl rfl rfl rfl rfl (jO rfl rfl rfl rfl rfl rfl rfl (jO rfl rfl rfl rfl rfl rfl rfl (Qi rfl rfl rfl rfl rfl rfl ?_)))))))
              refine qB rfl rfl rfl rfl rfl rfl (qB rfl rfl rfl rfl rfl rfl (qB rfl rfl rfl rfl rfl rfl (qB rfl rfl rfl rfl rfl rfl (Qi rfl rfl rfl rfl rfl rfl (jK rfl ?_)))))
              refine jZ rfl rfl rfl rfl rfl ?_
              refine ju (fun w hh => hh) (jO rfl rfl rfl rfl rfl rfl rfl (jk rfl rfl rfl rfl (fun _ _ => yG rfl rfl) (jk rfl rfl rfl rfl (fun _ _ => jN rfl) (jI (js ?_)))))
              obtain rfl := sj hm
              exact jg () (trivial) (sE rfl) (fun w hh => hh)
             ·replace hm := ifN h56 hm
              refine jR rfl rfl rfl rfl rfl rfl (fun _ _ => qx rfl) (jR rfl rfl rfl rfl rfl rfl (fun _ _ => qx rfl) ?_)
              refine jD 105 rfl (fun h57 => ?_) (fun h57 => ?_)
              ·replace hm := ifT (h57) hm
               refine yB rfl rfl rfl rfl rfl rfl (fun w hh => kl (vs := [_, _]) (Try.isAgg50 w) (Try.sizeOf50 w) rfl (hh.cells 0 rfl rfl)) (jR rfl rfl rfl rfl rfl rfl (fun _ _ => qx rfl) (jR rfl rfl rfl rfl rfl rfl (fun _ _ => qx rfl) ?_))
               obtain ⟨t109, h58, hm⟩ := bindO hm
               refine jR rfl rfl rfl rfl rfl rfl (fun w _ => jW h58 (Try.runUnderlying32 w) (Try.sizeOf3 w) rfl rfl hna2 hqa2) (yB rfl rfl rfl rfl rfl rfl (fun w hh => jV RI 0 h58 (Try.isAgg3 w) rfl (hh.seg 2 rfl) rfl (Nat.add_zero _).symm) (jR rfl rfl rfl rfl rfl rfl (fun _ _ => qx rfl) (jK rfl (ja rfl rfl ?_))))
               obtain ⟨t112, h59, hm⟩ := bindO hm
               refine jd [] [] rfl rfl rfl rfl rfl rfl rfl Try.call87 (fun w hh => Jz s0 t109 s_3.n14 qa0 na0 ca0 qa1 na1 ca1 w (HV.callee (S0 := []) (vs0 := []) hh (roR hh 0 rfl (roR hh 1 rfl roN))) hna0 hqa0 hla0 hna1 hqa1 hla1 h59) (fun l_14 h60 => ?_)
               refine ju (fun w hh => hh) (jR rfl rfl rfl rfl rfl rfl (fun _ _ => yG rfl rfl) (jk rfl rfl rfl rfl (fun _ _ => yC rfl rfl) (kg rfl rfl rfl ?_)))
               refine jD 115 rfl (fun h61 => ?_) (fun h61 => ?_)
               ·replace hm := ifT (h61) hm
                refine jO rfl rfl rfl rfl rfl rfl rfl (jO rfl rfl rfl rfl rfl rfl rfl (jO rfl rfl rfl rfl rfl rfl rfl (Qi rfl rfl rfl rfl rfl rfl (qB rfl rfl rfl rfl rfl rfl (qB rfl rfl rfl rfl rfl rfl (qB rfl rfl rfl rfl rfl rfl (qB rfl rfl rfl rfl rfl rfl ?_)))))))
                refine Qi rfl rfl rfl rfl rfl rfl (jK rfl ?_)
                refine jZ rfl rfl rfl rfl rfl ?_
                refine ju (fun w hh => hh) (jO rfl rfl rfl rfl rfl rfl rfl (jk rfl rfl rfl rfl (fun _ _ => yG rfl rfl) (jk rfl rfl rfl rfl (fun _ _ => jN rfl) (jI (js ?_)))))
                obtain rfl := sj hm
                exact jg () (trivial) (sE rfl) (fun w hh => hh)
               ·replace hm := ifN h61 hm
                refine jR rfl rfl rfl rfl rfl rfl (fun _ _ => qx rfl) (jR rfl rfl rfl rfl rfl rfl (fun _ _ => kq rfl) (jR rfl rfl rfl rfl rfl rfl (fun _ _ => qx rfl) ?_))
                refine jD 118 rfl (fun h62 => ?_) (fun h62 => ?_)
                ·replace hm := ifT (h62) hm
                 refine yB rfl rfl rfl rfl rfl rfl (fun w hh => kl (vs := [_, _]) (Try.isAgg50 w) (Try.sizeOf50 w) rfl (hh.cells 0 rfl rfl)) (jR rfl rfl rfl rfl rfl rfl (fun _ _ => qx rfl) (jR rfl rfl rfl rfl rfl rfl (fun _ _ => qx rfl) (jR rfl rfl rfl rfl rfl rfl (fun _ _ => qx rfl) ?_)))
                 obtain ⟨t123, h63, hm⟩ := bindO hm
                 refine jR rfl rfl rfl rfl rfl rfl (fun w _ => jW h63 (Try.runUnderlying32 w) (Try.sizeOf3 w) rfl rfl hna2 hqa2) (yB rfl rfl rfl rfl rfl rfl (fun w hh => jV RI 0 h63 (Try.isAgg3 w) rfl (hh.seg 2 rfl) rfl (Nat.add_zero _).symm) (jK rfl (ja rfl rfl ?_)))
                 obtain ⟨t125, h64, hm⟩ := bindO hm
                 refine jd [] [] rfl rfl rfl rfl rfl rfl rfl Try.call87 (fun w hh => Jz s0 s_3.n14 t123 qa0 na0 ca0 qa1 na1 ca1 w (HV.callee (S0 := []) (vs0 := []) hh (roR hh 0 rfl (roR hh 1 rfl roN))) hna0 hqa0 hla0 hna1 hqa1 hla1 h64) (fun l_15 h65 => ?_)
                 refine ju (fun w hh => hh) (jR rfl rfl rfl rfl rfl rfl (fun _ _ => yG rfl rfl) (jk rfl rfl rfl rfl (fun _ _ => yC rfl rfl) (jk rfl rfl rfl rfl (fun _ _ => jN rfl) (jI (js ?_)))))
                 obtain rfl := sj hm
                 exact jg () (trivial) (sE rfl) (fun w hh => hh)
                ·replace hm := ifN h62 hm
                 refine Jh rfl rfl rfl rfl rfl rfl rfl (jO rfl rfl rfl rfl rfl rfl rfl (jO rfl rfl rfl rfl rfl rfl rfl (jO rfl rfl rfl rfl rfl rfl rfl (jO rfl rfl rfl rfl rfl rfl rfl (Jh rfl rfl rfl rfl rfl rfl rfl (jK rfl (g_k rfl rfl rfl rfl ?_)))))))
                 refine ju (fun w hh => hh) (jR rfl rfl rfl rfl rfl rfl (fun _ _ => yC rfl rfl) (jk rfl rfl rfl rfl (fun _ _ => yC rfl rfl) (jk rfl rfl rfl rfl (fun _ _ => jN rfl) (jI (js ?_)))))
                 obtain rfl := sj hm
                 exact jg () (trivial) (sE rfl) (fun w hh => hh)
              ·replace hm := ifN h57 hm
               refine Jh rfl rfl rfl rfl rfl rfl rfl (jO rfl rfl rfl rfl rfl rfl rfl (jO rfl rfl rfl rfl rfl rfl rfl (jO rfl rfl rfl rfl rfl rfl rfl (Jh rfl rfl rfl rfl rfl rfl rfl (jO rfl rfl rfl rfl rfl rfl rfl (jK rfl (g_k rfl rfl rfl rfl ?_)))))))
               refine ju (fun w hh => hh) (jR rfl rfl rfl rfl rfl rfl (fun _ _ => yC rfl rfl) (jk rfl rfl rfl rfl (fun _ _ => yC rfl rfl) (kg rfl rfl rfl (jR rfl rfl rfl rfl rfl rfl (fun _ _ => qx rfl) (jR rfl rfl rfl rfl rfl rfl (fun _ _ => kq rfl) (jR rfl rfl rfl rfl rfl rfl (fun _ _ => qx rfl) ?_))))))
               refine jD 118 rfl (fun h66 => ?_) (fun h66 => ?_)
               ·replace hm := ifT (h66) hm
                refine yB rfl rfl rfl rfl rfl rfl (fun w hh => kl (vs := [_, _]) (Try.isAgg50 w) (Try.sizeOf50 w) rfl (hh.cells 0 rfl rfl)) (jR rfl rfl rfl rfl rfl rfl (fun _ _ => qx rfl) (jR rfl rfl rfl rfl rfl rfl (fun _ _ => qx rfl) (jR rfl rfl rfl rfl rfl rfl (fun _ _ => qx rfl) ?_)))
                obtain ⟨t123_1, h67, hm⟩ := bindO hm
                refine jR rfl rfl rfl rfl rfl rfl (fun w _ => jW h67 (Try.runUnderlying32 w) (Try.sizeOf3 w) rfl rfl hna2 hqa2) (yB rfl rfl rfl rfl rfl rfl (fun w hh => jV RI 0 h67 (Try.isAgg3 w) rfl (hh.seg 2 rfl) rfl (Nat.add_zero _).symm) (jK rfl (ja rfl rfl ?_)))
                obtain ⟨t125_1, h68, hm⟩ := bindO hm
                refine jd [] [] rfl rfl rfl rfl rfl rfl rfl Try.call87 (fun w hh => Jz s0 s_3.n14 t123_1 qa0 na0 ca0 qa1 na1 ca1 w (HV.callee (S0 := []) (vs0 := []) hh (roR hh 0 rfl (roR hh 1 rfl roN))) hna0 hqa0 hla0 hna1 hqa1 hla1 h68) (fun l_16 h69 => ?_)
                refine ju (fun w hh => hh) (jR rfl rfl rfl rfl rfl rfl (fun _ _ => yG rfl rfl) (jk rfl rfl rfl rfl (fun _ _ => yC rfl rfl) (jk rfl rfl rfl rfl (fun _ _ => jN rfl) (jI (js ?_)))))
                obtain rfl := sj hm
                exact jg () (trivial) (sE rfl) (fun w hh => hh)
               ·replace hm := ifN h66 hm
                refine Jh rfl rfl rfl rfl rfl rfl rfl (jO rfl rfl rfl rfl rfl rfl rfl (jO rfl rfl rfl rfl rfl rfl rfl (jO rfl rfl rfl rfl rfl rfl rfl (jO rfl rfl rfl rfl rfl rfl rfl (Jh rfl rfl rfl rfl rfl rfl rfl (jK rfl (g_k rfl rfl rfl rfl ?_)))))))
                refine ju (fun w hh => hh) (jR rfl rfl rfl rfl rfl rfl (fun _ _ => yC rfl rfl) (jk rfl rfl rfl rfl (fun _ _ => yC rfl rfl) (jk rfl rfl rfl rfl (fun _ _ => jN rfl) (jI (js ?_)))))
                obtain rfl := sj hm
                exact jg () (trivial) (sE rfl) (fun w hh => hh)
            ·intro l_13 hj
             replace hm := h55
             refine jb (jh (jf rfl rfl ?_))
             obtain ⟨t101, h70, hm⟩ := bindO hm
             refine kt h70 rfl rfl rfl (jm rfl rfl (jv ?_))
             obtain rfl := sj hm
             refine jb ?_
             exact jy _ () rfl (trivial) (sE rfl) (fun w hh => hh)
           ·replace hm := ifE h53 hm
            refine jM (ji (ji (jz ?_)))
            obtain rfl := sj hm
            have hbo := h52 _ rfl
            subst hbo
            exact jg () (trivial) (sE rfl) (fun w hh => hh)
          ·intro l_11 hj
           replace hm := h51
           refine jb (jj ?_)
           obtain ⟨o_9, h71, h72⟩ := bindO hm
           refine jC (ι := Unit) (fun l_17 => True) (fun l_17 => [(1, .bool tenants1), (2, .slice qa2 na2 ca2), (3, ptr b 0), (8, .int .i64 o), (11, .int .i64 o_3), (12, .int .i64 o_9), (14, .int .i64 s_3.n14), (15, .bool o_7)]) (fun l_17 => [(b, .cells #[.slice qa0 na0 ca0, .slice qa1 na1 ca1] 50 (0, 0))]) (fun l_17 => []) ?_ ?_
           ·replace hm := h71
            refine jj ?_
            obtain ⟨o_10, h73, h74⟩ := bindO hm
            refine jC (ι := Unit) (fun l_18 => True) (fun l_18 => [(1, .bool tenants1), (2, .slice qa2 na2 ca2), (3, ptr b 0), (8, .int .i64 o), (11, .int .i64 o_3), (12, .int .i64 s_3.can12), (14, .int .i64 s_3.n14), (15, .bool o_7), (131, .bool o_10)]) (fun l_18 => [(b, .cells #[.slice qa0 na0 ca0, .slice qa1 na1 ca1] 50 (0, 0))]) (fun l_18 => []) ?_ ?_
            ·replace hm := h73
             refine jh (jf rfl rfl (jf rfl rfl ?_))
             refine jD 129 rfl (fun h75 => ?_) (fun h75 => ?_)
             ·replace hm := ifT (h75) hm
              refine ja rfl rfl (jf rfl rfl (j3 rfl rfl rfl (jv ?_)))
              obtain rfl := sj hm
              exact jg () (trivial) (sE rfl) (fun w hh => hh)
             ·replace hm := ifN h75 hm
              refine g_k rfl rfl rfl rfl (ki rfl rfl rfl (jv ?_))
              obtain rfl := sj hm
              exact jg () (trivial) (sE rfl) (fun w hh => hh)
            ·intro l_18 hj
             replace hm := h74
             refine jb ?_
             refine jq rfl (fun h76 => ?_) (fun h76 => ?_)
             ·replace hm := ifT (h76) hm
              refine jh (jf rfl rfl (kG [_, _] 0 Try.isAgg50 Try.sizeOf50 rfl rfl rfl rfl (jf rfl rfl ?_)))
              obtain ⟨t135, h77, hm⟩ := bindO hm
              refine jd [] [] rfl rfl rfl rfl rfl rfl rfl Try.call86 (fun w hh => Ye s0 s_3.n14 qa0 na0 ca0 qa1 na1 ca1 w (HV.callee (S0 := []) (vs0 := []) hh (roR hh 0 rfl (roR hh 1 rfl roN))) hna0 hqa0 hla0 hna1 hqa1 hla1 h77) (fun l_19 h78 => ?_)
              refine jc rfl rfl rfl (fun w _ => Yk 3 1 (Try.runUnderlying37 w) rfl (Try.isAgg3 w) rfl rfl) ?_
              obtain ⟨t137, h79, hm⟩ := bindO hm
              refine kt h79 rfl rfl rfl (jm rfl rfl (jv ?_))
              obtain rfl := sj hm
              exact jg () (trivial) (sE rfl) (fun w hh => hh)
             ·replace hm := ifN h76 hm
              refine jr ?_
              obtain rfl := sj hm
              exact jg () (trivial) (sE rfl) (fun w hh => hh)
           ·intro l_17 hj
            replace hm := h72
            refine jb (jj ?_)
            obtain ⟨o_11, h80, h81⟩ := bindO hm
            refine jC (ι := Unit) (fun l_20 => True) (fun l_20 => [(1, .bool tenants1), (2, .slice qa2 na2 ca2), (3, ptr b 0), (8, .int .i64 o), (11, .int .i64 o_3), (12, .int .i64 o_9), (14, .int .i64 s_3.n14), (142, .bool o_11)]) (fun l_20 => [(b, .cells #[.slice qa0 na0 ca0, .slice qa1 na1 ca1] 50 (0, 0))]) (fun l_20 => []) ?_ ?_
            ·replace hm := h80
             refine jh (jf rfl rfl (jf rfl rfl ?_))
             refine jD 139 rfl (fun h82 => ?_) (fun h82 => ?_)
             ·replace hm := ifT (h82) hm
              refine ja rfl rfl (jf rfl rfl (ja rfl rfl (jc rfl rfl rfl (fun _ _ => kq rfl) (j3 rfl rfl rfl (jv ?_)))))
              obtain rfl := sj hm
              exact jg () (trivial) (sE rfl) (fun w hh => hh)
             ·replace hm := ifN h82 hm
              refine g_k rfl rfl rfl rfl (g_k rfl rfl rfl rfl (ki rfl rfl rfl (jv ?_)))
              obtain rfl := sj hm
              exact jg () (trivial) (sE rfl) (fun w hh => hh)
            ·intro l_20 hj
             replace hm := h81
             refine jb ?_
             refine jq rfl (fun h83 => ?_) (fun h83 => ?_)
             ·replace hm := ifT (h83) hm
              refine jh (jf rfl rfl (jL 1 Try.runUnderlying50 rfl Try.sizeOf26 rfl rfl (jU 0 Try.isAgg26 rfl rfl rfl rfl (jf rfl rfl ?_))))
              obtain ⟨t147, h84, hm⟩ := bindO hm
              refine jc rfl rfl rfl (fun w _ => jW h84 (Try.runUnderlying26 w) (Try.sizeOf37 w) rfl rfl hna1 hqa1) (jL 1 Try.runUnderlying37 rfl Try.sizeOf3 rfl rfl (jc rfl rfl rfl (fun w hh => jV RSp 1 h84 (Try.isAgg3 w) rfl (hh.seg 1 rfl) rfl rfl) ?_))
              obtain ⟨t150, h85, hm⟩ := bindO hm
              refine kt h85 rfl rfl rfl (jm rfl rfl (jv (js ?_)))
              obtain rfl := sj hm
              exact jg () (trivial) (sE rfl) (fun w hh => hh)
             ·replace hm := ifN h83 hm
              refine jr (js ?_)
              obtain rfl := sj hm
              exact jg () (trivial) (sE rfl) (fun w hh => hh)
         ·intro l_10 hj
          replace hm := h49
          refine jb (jh (jf rfl rfl ?_))
          obtain ⟨t95, h86, hm⟩ := bindO hm
          refine kt h86 rfl rfl rfl (jm rfl rfl (jv ?_))
          obtain rfl := sj hm
          refine jb ?_
          exact jy _ () rfl (trivial) (sE rfl) (fun w hh => hh)
        ·replace hm := ifE h47 hm
         refine jM (ji (ji (jz ?_)))
         obtain rfl := sj hm
         have hbo := h44 _ rfl
         subst hbo
         exact jg () (trivial) (sE rfl) (fun w hh => hh)
       ·intro l_8 hj
        replace hm := h43
        refine jb (jj (jp (jf rfl rfl (jf rfl rfl (jc rfl rfl rfl (fun _ _ => YT rfl rfl) (jo ?_))))))
        refine jq rfl (fun h87 => ?_) (fun h87 => ?_)
        ·replace hm := ifD h87 hm
         refine jp (jm rfl rfl (jm rfl rfl (jo (jw (je ?_)))))
         obtain rfl := sj hm
         refine jn rfl (fun w hh => (.tmp rfl (.tmp rfl .nil))) (fun w hh => ⟨(), rfl, trivial, hh.se [] [] 3 rfl rfl rfl rfl⟩)
        ·replace hm := ifE h87 hm
         refine jr (jb (jp (jf rfl rfl (jf rfl rfl ?_))))
         obtain ⟨t156, h88, hm⟩ := bindO hm
         refine jc rfl rfl rfl (fun _ _ => k9 h88 rfl rfl) (jm rfl rfl (jm rfl rfl (jo (jw ?_))))
         obtain rfl := sj hm
         refine jn rfl (fun w hh => (.tmp rfl (.tmp rfl .nil))) (fun w hh => ⟨(), rfl, trivial, hh.se [] [] 3 rfl rfl rfl rfl⟩)
def qD (s10 : (List Strip)) (s21 : (List Strip)) (s : Int) : Option (Int ⊕ (Unit ⊕ Bool)) :=
 if s < (s10.length : Int) then
 ((ix s10 s).bind fun t18 =>
 (ix s21 s).bind fun t22 =>
 if (⟨t18.tenant, (⟨t18.lay.lo, t18.lay.hi⟩ : Span), (⟨t18.seeded.lo, t18.seeded.hi⟩ : Span), (⟨t18.left.lo, t18.left.hi⟩ : Span)⟩ : Strip) = (⟨t22.tenant, (⟨t22.lay.lo, t22.lay.hi⟩ : Span), (⟨t22.seeded.lo, t22.seeded.hi⟩ : Span), (⟨t22.left.lo, t22.left.hi⟩ : Span)⟩ : Strip) then
 ((addc s 1).bind fun t25 =>
 some (.inl t25)) else
 (some (.inr (.inr false)))) else
 (some (.inr (.inl ())))
def Jr (s10 : (List Strip)) (s21 : (List Strip)) : Option Bool :=
 if (s10.length : Int) = (s21.length : Int) then
 ((iterM FU (qD s10 s21) 0).bind fun o =>
 oc o (fun j => some true) (fun r_1 => some r_1)) else
 (some false)
theorem YW (s10 : (List Strip)) (s21 : (List Strip)) (qa0 : Option Addr) (na0 ca0 : Nat) (qa1 : Option Addr) (na1 ca1 : Nat) (w : World) (hw : HV w (keys [] []) [] [] [(aB qa0, aO qa0, RSt.enc s10), (aB qa1, aO qa1, RSt.enc s21)] w) (hna0 : s10.length = na0) (hqa0 : AOK na0 qa0) (hla0 : na0 ≤ ca0) (hna1 : s21.length = na1) (hqa1 : AOK na1 qa1) (hla1 : na1 ≤ ca1) {res : Bool} (hm : Jr s10 s21 = some res) :
    Calls Try.prog 125 #[.slice qa0 na0 ca0, .slice qa1 na1 ca1] w (fun en w' => ∃ l : Unit, en = .returned (.bool res) ∧ (True) ∧ HV w (keys [] []) [] [] [] w') := by
  unfold Jr at hm
  refine kb Try.func125 rfl Try.ntmps125 rfl (e := [(0, _), (1, _)]) rfl hw (jp (jm rfl rfl (jo (jj (jp (jf rfl rfl (jc rfl rfl rfl (fun w _ => jB hna0 (Try.runUnderlying25 w) rfl) ?_)))))))
  refine jf rfl rfl (jc rfl rfl rfl (fun w _ => jB hna1 (Try.runUnderlying25 w) rfl) (jc rfl rfl rfl (fun _ _ => kv rfl rfl) (jo ?_)))
  refine jq rfl (fun h1 => ?_) (fun h1 => ?_)
  ·replace hm := ifF (of_ndec_true h1) hm
   refine jp (jm rfl rfl (jo (jw (je ?_))))
   obtain rfl := sj hm
   refine jn rfl (fun w hh => (.tmp rfl .nil)) (fun w hh => ⟨(), rfl, trivial, hh.se [] [] 2 rfl rfl rfl rfl⟩)
  ·replace hm := ifT (of_ndec_false h1) hm
   refine jr (jb (jj (jp (jf rfl rfl (jc rfl rfl rfl (fun w _ => jB hna0 (Try.runUnderlying25 w) rfl) (jf rfl rfl (jo ?_)))))))
   obtain ⟨o, h2, h3⟩ := bindO hm
   refine jC (ι := Unit) (fun j => o = .inl j) (fun j => []) (fun j => []) (fun j => []) ?_ ?_
   ·replace hm := h2
    refine jl ?_
    refine jF (ι := Unit) hm (fun s l => True) (fun s l => [(0, .slice qa0 na0 ca0), (1, .slice qa1 na1 ca1), (12, .int .i64 (s10.length : Int)), (13, .int .i64 s)]) (fun s l => []) (fun s l => []) () (trivial) (sE rfl) (fun w hh => hh) (fun s l r hpl hm h4 => ?_)
    unfold qD at hm
    refine jp (qv rfl rfl rfl (jo (jj ?_)))
    refine jq rfl (fun h5 => ?_) (fun h5 => ?_)
    ·replace hm := ifD h5 hm
     refine jr (jb (jj (jl (jp (jf rfl rfl (jm rfl rfl (jo ?_)))))))
     refine jj ?_
     refine jX none (.free 0 (.free 1 (.free 2 (.hoist 3 (.free 4 (.free 5 (.free 6 (.hoist 7 (.free 8 .done))))))))) _ rfl (by decide +kernel) (fun w k hh => hh.draw k) (fun w hh => hh) ?_
     refine kg rfl rfl rfl (kg rfl rfl rfl ?_)
     obtain ⟨t18, h6, hm⟩ := bindO hm
     refine jk rfl rfl rfl rfl (fun w _ => jW h6 (Try.runUnderlying25 w) (Try.sizeOf77 w) rfl rfl hna0 hqa0) ?_
     refine jA rfl rfl rfl rfl (fun w hh => kk RSt 0 [.int .i64 t18.tenant, .int .i64 t18.lay.lo, .int .i64 t18.lay.hi, .int .i64 t18.seeded.lo, .int .i64 t18.seeded.hi, .int .i64 t18.left.lo, .int .i64 t18.left.hi] h6 (Try.isAgg77 w) (Try.sizeOf77 w) rfl (hh.seg 0 rfl) rfl (Nat.add_zero _).symm) ?_
     refine kg rfl rfl rfl (kg rfl rfl rfl ?_)
     obtain ⟨t22, h7, hm⟩ := bindO hm
     refine jk rfl rfl rfl rfl (fun w _ => jW h7 (Try.runUnderlying25 w) (Try.sizeOf77 w) rfl rfl hna1 hqa1) ?_
     refine jA rfl rfl rfl rfl (fun w hh => kk RSt 0 [.int .i64 t22.tenant, .int .i64 t22.lay.lo, .int .i64 t22.lay.hi, .int .i64 t22.seeded.lo, .int .i64 t22.seeded.hi, .int .i64 t22.left.lo, .int .i64 t22.left.hi] h7 (Try.isAgg77 w) (Try.sizeOf77 w) rfl (hh.seg 1 rfl) rfl (Nat.add_zero _).symm) ?_
     refine jk rfl rfl rfl rfl (fun w _ => ZH (jbd (⟨t18.tenant, (⟨t18.lay.lo, t18.lay.hi⟩ : Span), (⟨t18.seeded.lo, t18.seeded.hi⟩ : Span), (⟨t18.left.lo, t18.left.hi⟩ : Span)⟩ : Strip) (⟨t22.tenant, (⟨t22.lay.lo, t22.lay.hi⟩ : Span), (⟨t22.seeded.lo, t22.seeded.hi⟩ : Span), (⟨t22.left.lo, t22.left.hi⟩ : Span)⟩ : Strip) w) jaN rfl rfl) ?_
     refine jI (jb ?_)
     refine jq rfl (fun h8 => ?_) (fun h8 => ?_)
     ·replace hm := ifF (of_ndec_true h8) hm
      refine jp (jm rfl rfl (jo (jw (jx (je (je (jx ?_)))))))
      obtain rfl := sj hm
      have hbo := h4 _ rfl
      subst hbo
      refine je ?_
      replace hm := ocR h3
      refine je ?_
      obtain rfl := sj hm
      refine jn rfl (fun w hh => (.tmp rfl .nil)) (fun w hh => ⟨(), rfl, trivial, hh.se [] [] 2 rfl rfl rfl rfl⟩)
     ·replace hm := ifT (of_ndec_false h8) hm
      refine jr (js (jb (jh ?_)))
      obtain ⟨t25, h9, hm⟩ := bindO hm
      refine kt h9 rfl rfl rfl (jf rfl rfl (jv ?_))
      obtain rfl := sj hm
      refine jb ?_
      exact jy _ () rfl (trivial) (sE rfl) (fun w hh => hh)
    ·replace hm := ifE h5 hm
     refine jM (ji (ji (jz ?_)))
     obtain rfl := sj hm
     have hbo := h4 _ rfl
     subst hbo
     exact jg () (rfl) (.nil) (fun w hh => hh)
   ·intro j hj
    have h10 := hj
    subst h10
    replace hm := ocL h3
    refine jb (jp (jm rfl rfl (jo (jw ?_))))
    obtain rfl := sj hm
    refine jn rfl (fun w hh => (.tmp rfl .nil)) (fun w hh => ⟨(), rfl, trivial, hh.se [] [] 2 rfl rfl rfl rfl⟩)
def qb (a0 : (List Strip)) (b1 : (List Strip)) : Option Bool :=
 (Jr a0 b1).bind fun t7 =>
 some t7
theorem QY (a0 : (List Strip)) (b1 : (List Strip)) (qa0 : Option Addr) (na0 ca0 : Nat) (qa1 : Option Addr) (na1 ca1 : Nat) (w : World) (hw : HV w (keys [] []) [] [] [(aB qa0, aO qa0, RSt.enc a0), (aB qa1, aO qa1, RSt.enc b1)] w) (hna0 : a0.length = na0) (hqa0 : AOK na0 qa0) (hla0 : na0 ≤ ca0) (hna1 : b1.length = na1) (hqa1 : AOK na1 qa1) (hla1 : na1 ≤ ca1) {res : Bool} (hm : qb a0 b1 = some res) :
    Calls Try.prog 88 #[.slice qa0 na0 ca0, .slice qa1 na1 ca1] w (fun en w' => ∃ l : Unit, en = .returned (.bool res) ∧ (True) ∧ HV w (keys [] []) [] [] [] w') := by
  unfold qb at hm
  refine kb Try.func88 rfl Try.ntmps88 rfl (e := [(0, _), (1, _)]) rfl hw (jp (jm rfl rfl (j1 (jf rfl rfl (jf rfl rfl ?_)))))
  obtain ⟨t7, h1, hm⟩ := bindO hm
  refine jd [] [] rfl rfl rfl rfl rfl rfl rfl Try.call125 (fun w hh => YW a0 b1 qa0 na0 ca0 qa1 na1 ca1 w (HV.callee (S0 := []) (vs0 := []) hh (roR hh 0 rfl (roR hh 1 rfl roN))) hna0 hqa0 hla0 hna1 hqa1 hla1 h1) (fun l h2 => ?_)
  refine jm rfl rfl (jo (jw ?_))
  obtain rfl := sj hm
  refine jn rfl (fun w hh => (.tmp rfl .nil)) (fun w hh => ⟨(), rfl, trivial, hh.se [] [] 2 rfl rfl rfl rfl⟩)
def qE (s10 : (List Span)) (s21 : (List Span)) (s : Int) : Option (Int ⊕ (Unit ⊕ Bool)) :=
 if s < (s10.length : Int) then
 ((ix s10 s).bind fun t18 =>
 (ix s21 s).bind fun t22 =>
 if (⟨t18.lo, t18.hi⟩ : Span) = (⟨t22.lo, t22.hi⟩ : Span) then
 ((addc s 1).bind fun t25 =>
 some (.inl t25)) else
 (some (.inr (.inr false)))) else
 (some (.inr (.inl ())))
def Jo (s10 : (List Span)) (s21 : (List Span)) : Option Bool :=
 if (s10.length : Int) = (s21.length : Int) then
 ((iterM FU (qE s10 s21) 0).bind fun o =>
 oc o (fun j => some true) (fun r_1 => some r_1)) else
 (some false)
theorem Y4 (s10 : (List Span)) (s21 : (List Span)) (qa0 : Option Addr) (na0 ca0 : Nat) (qa1 : Option Addr) (na1 ca1 : Nat) (w : World) (hw : HV w (keys [] []) [] [] [(aB qa0, aO qa0, RSp.enc s10), (aB qa1, aO qa1, RSp.enc s21)] w) (hna0 : s10.length = na0) (hqa0 : AOK na0 qa0) (hla0 : na0 ≤ ca0) (hna1 : s21.length = na1) (hqa1 : AOK na1 qa1) (hla1 : na1 ≤ ca1) {res : Bool} (hm : Jo s10 s21 = some res) :
    Calls Try.prog 126 #[.slice qa0 na0 ca0, .slice qa1 na1 ca1] w (fun en w' => ∃ l : Unit, en = .returned (.bool res) ∧ (True) ∧ HV w (keys [] []) [] [] [] w') := by
  unfold Jo at hm
  refine kb Try.func126 rfl Try.ntmps126 rfl (e := [(0, _), (1, _)]) rfl hw (jp (jm rfl rfl (jo (jj (jp (jf rfl rfl (jc rfl rfl rfl (fun w _ => jB hna0 (Try.runUnderlying26 w) rfl) ?_)))))))
  refine jf rfl rfl (jc rfl rfl rfl (fun w _ => jB hna1 (Try.runUnderlying26 w) rfl) (jc rfl rfl rfl (fun _ _ => kv rfl rfl) (jo ?_)))
  refine jq rfl (fun h1 => ?_) (fun h1 => ?_)
  ·replace hm := ifF (of_ndec_true h1) hm
   refine jp (jm rfl rfl (jo (jw (je ?_))))
   obtain rfl := sj hm
   refine jn rfl (fun w hh => (.tmp rfl .nil)) (fun w hh => ⟨(), rfl, trivial, hh.se [] [] 2 rfl rfl rfl rfl⟩)
  ·replace hm := ifT (of_ndec_false h1) hm
   refine jr (jb (jj (jp (jf rfl rfl (jc rfl rfl rfl (fun w _ => jB hna0 (Try.runUnderlying26 w) rfl) (jf rfl rfl (jo ?_)))))))
   obtain ⟨o, h2, h3⟩ := bindO hm
   refine jC (ι := Unit) (fun j => o = .inl j) (fun j => []) (fun j => []) (fun j => []) ?_ ?_
   ·replace hm := h2
    refine jl ?_
    refine jF (ι := Unit) hm (fun s l => True) (fun s l => [(0, .slice qa0 na0 ca0), (1, .slice qa1 na1 ca1), (12, .int .i64 (s10.length : Int)), (13, .int .i64 s)]) (fun s l => []) (fun s l => []) () (trivial) (sE rfl) (fun w hh => hh) (fun s l r hpl hm h4 => ?_)
    unfold qE at hm
    refine jp (qv rfl rfl rfl (jo (jj ?_)))
    refine jq rfl (fun h5 => ?_) (fun h5 => ?_)
    ·replace hm := ifD h5 hm
     refine jr (jb (jj (jl (jp (jf rfl rfl (jm rfl rfl (jo ?_)))))))
     refine jj ?_
     refine jX none (.free 0 (.free 1 (.free 2 (.hoist 3 (.free 4 (.free 5 (.free 6 (.hoist 7 (.free 8 .done))))))))) _ rfl (by decide +kernel) (fun w k hh => hh.draw k) (fun w hh => hh) ?_
     refine kg rfl rfl rfl (kg rfl rfl rfl ?_)
     obtain ⟨t18, h6, hm⟩ := bindO hm
     refine jk rfl rfl rfl rfl (fun w _ => jW h6 (Try.runUnderlying26 w) (Try.sizeOf37 w) rfl rfl hna0 hqa0) ?_
     refine jA rfl rfl rfl rfl (fun w hh => kk RSp 0 [.int .i64 t18.lo, .int .i64 t18.hi] h6 (Try.isAgg37 w) (Try.sizeOf37 w) rfl (hh.seg 0 rfl) rfl (Nat.add_zero _).symm) ?_
     refine kg rfl rfl rfl (kg rfl rfl rfl ?_)
     obtain ⟨t22, h7, hm⟩ := bindO hm
     refine jk rfl rfl rfl rfl (fun w _ => jW h7 (Try.runUnderlying26 w) (Try.sizeOf37 w) rfl rfl hna1 hqa1) ?_
     refine jA rfl rfl rfl rfl (fun w hh => kk RSp 0 [.int .i64 t22.lo, .int .i64 t22.hi] h7 (Try.isAgg37 w) (Try.sizeOf37 w) rfl (hh.seg 1 rfl) rfl (Nat.add_zero _).symm) ?_
     refine jk rfl rfl rfl rfl (fun w _ => ZH (jaw (⟨t18.lo, t18.hi⟩ : Span) (⟨t22.lo, t22.hi⟩ : Span) w) Z3 rfl rfl) (jI (jb ?_))
     refine jq rfl (fun h8 => ?_) (fun h8 => ?_)
     ·replace hm := ifF (of_ndec_true h8) hm
      refine jp (jm rfl rfl (jo (jw (jx (je (je (jx ?_)))))))
      obtain rfl := sj hm
      have hbo := h4 _ rfl
      subst hbo
      refine je ?_
      replace hm := ocR h3
      refine je ?_
      obtain rfl := sj hm
      refine jn rfl (fun w hh => (.tmp rfl .nil)) (fun w hh => ⟨(), rfl, trivial, hh.se [] [] 2 rfl rfl rfl rfl⟩)
     ·replace hm := ifT (of_ndec_false h8) hm
      refine jr (js (jb (jh ?_)))
      obtain ⟨t25, h9, hm⟩ := bindO hm
      refine kt h9 rfl rfl rfl (jf rfl rfl (jv ?_))
      obtain rfl := sj hm
      refine jb ?_
      exact jy _ () rfl (trivial) (sE rfl) (fun w hh => hh)
    ·replace hm := ifE h5 hm
     refine jM (ji (ji (jz ?_)))
     obtain rfl := sj hm
     have hbo := h4 _ rfl
     subst hbo
     exact jg () (rfl) (.nil) (fun w hh => hh)
   ·intro j hj
    have h10 := hj
    subst h10
    replace hm := ocL h3
    refine jb (jp (jm rfl rfl (jo (jw ?_))))
    obtain rfl := sj hm
    refine jn rfl (fun w hh => (.tmp rfl .nil)) (fun w hh => ⟨(), rfl, trivial, hh.se [] [] 2 rfl rfl rfl rfl⟩)
end Go.Proofs.Ws

