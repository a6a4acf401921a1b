/- What the functions that the law StripTaken reaches come to, and why it holds: part 4. -/
import Derived.Test.YtnkphlgohnlooaaGreatStripTaken3
namespace Go.Proofs.Ws
set_option maxHeartbeats 4000000
set_option maxRecDepth 100000
open Go Go.Fw Go.Gx Go.Sp
set_option linter.unusedVariables false
structure Kv where
  r0 : Int
  r1 : Int
  r2 : Int
  r3 : Int
def qG (n00 : (List Wy)) (c1 : Change) : Option Kv :=
 (ix n00 c1.way).bind fun t15 =>
 if c1.more = true then
 ((subc t15.hi t15.goes).bind fun t29 =>
 some (⟨t15.fr, t15.dst, t15.cost, t29⟩ : Kv)) else
 ((negc t15.cost).bind fun t36 =>
 (Js t15.lo [t15.goes]).bind fun t44 =>
 (subc t15.goes t44).bind fun t45 =>
 some (⟨t15.dst, t15.fr, t36, t45⟩ : Kv))
theorem Kl (n00 : (List Wy)) (c1 : Change) (rb : Nat) (qa1 : Option Addr) (na1 ca1 : Nat) (w : World) (hw : HV w (keys [] []) [] [] [(rb, 0, [.slice qa1 na1 ca1]), (aB qa1, aO qa1, RWay.enc n00)] w)  (hna1 : n00.length = na1) (hqa1 : AOK na1 qa1) (hla1 : na1 ≤ ca1) {res : Kv} (hm : qG n00 c1 = some res) :
    Calls Tryz.prog 130 #[ptr rb 0, .agg #[.int .i64 c1.way, .bool c1.more]] w (fun en w' => ∃ l : Unit, en = .returned (.tuple #[.int .i64 res.r0, .int .i64 res.r1, .int .i64 res.r2, .int .i64 res.r3]) ∧ (True) ∧ HV w (keys [] []) [] [] [] w') := by
  unfold qG at hm
  refine j5 Tryz.func130 rfl Tryz.ntmps130 rfl (e := [(0, _), (1, _)]) rfl hw (jq ?_)
  refine jC rfl rfl (fun b h1 => ?_)
  refine jk rfl rfl (jk rfl rfl (jk rfl rfl (jk rfl rfl (jp (jj ?_)))))
  refine jX none (.free 0 (.free 1 (.free 2 (.hoist 3 (.free 4 (.hoist 5 (.free 6 (.hoist 7 (.one 8 (.one 9 .done)))))))))) _ rfl (by decide +kernel) (fun w k hh => hh.draw k) (fun w hh => hh) ?_
  refine ku rfl rfl rfl (ji rfl rfl rfl rfl (fun _ _ => jN rfl) (k5 0 Tryz.runUnderlying154 Tryz.sizeOf152 rfl rfl rfl rfl (jD rfl rfl rfl rfl (fun w hh => jR (Tryz.isAgg152 w) rfl (segCell (hh.seg 0 rfl) 0 rfl)) (k5 0 Tryz.runUnderlying164 Tryz.sizeOf3 rfl rfl rfl rfl (qY 0 Tryz.isAgg3 rfl rfl rfl rfl rfl ?_)))))
  obtain ⟨t15, h2, hm⟩ := bindO hm
  refine ji rfl rfl rfl rfl (fun w _ => ki h2 (Tryz.runUnderlying152 w) (Tryz.sizeOf156 w) rfl rfl hna1 hqa1) ?_
  refine jD rfl rfl rfl rfl (fun w hh => kt RWay 0 [.int .i64 t15.fr, .int .i64 t15.dst, .int .i64 t15.lo, .int .i64 t15.hi, .int .i64 t15.cost, .int .i64 t15.goes] h2 (Tryz.isAgg156 w) (Tryz.sizeOf156 w) rfl (hh.seg 1 rfl) rfl (Nat.add_zero _).symm) ?_
  refine jE rfl ?_
  refine jo (fun w => Tryz.zeroValue156 w) rfl (fun b_1 h3 => ?_)
  refine jr (hsE [1] [] 0 rfl rfl rfl rfl) (jE rfl (jy (us := #[_, _, _, _, _, _]) (cs' := [_, _, _, _, _, _]) (S' := [_, _]) 0 (fun w => Tryz.sizeOf156 w) rfl rfl rfl rfl rfl rfl rfl (jr (hsE [1] [] 0 rfl rfl rfl rfl) (jM (ja (jj (jq ?_)))))))
  refine jP 1 Tryz.runUnderlying164 rfl Tryz.sizeOf4 rfl rfl (jY 1 Tryz.isAgg4 rfl rfl rfl rfl (jp ?_))
  refine js rfl (fun h4 => ?_) (fun h4 => ?_)
  ·replace hm := ifT (h4) hm
   refine jj ?_
   refine jX none (.free 0 (.hoist 1 (.free 2 (.hoist 3 (.free 4 (.hoist 5 (.free 6 (.hoist 7 (.free 8 (.hoist 9 (.free 10 (.free 11 (.free 12 (.free 13 (.free 14 .done))))))))))))))) _ rfl (by decide +kernel) (fun w k hh => hh.draw k) (fun w hh => hh) ?_
   refine k5 0 Tryz.runUnderlying156 Tryz.sizeOf3 rfl rfl rfl rfl (qY 0 Tryz.isAgg3 rfl rfl rfl rfl rfl (k5 1 Tryz.runUnderlying156 Tryz.sizeOf3 rfl rfl rfl rfl (qY 0 Tryz.isAgg3 rfl rfl rfl rfl rfl (k5 4 Tryz.runUnderlying156 Tryz.sizeOf3 rfl rfl rfl rfl (qY 0 Tryz.isAgg3 rfl rfl rfl rfl rfl (k5 3 Tryz.runUnderlying156 Tryz.sizeOf3 rfl rfl rfl rfl (qY 0 Tryz.isAgg3 rfl rfl rfl rfl rfl ?_)))))))
   refine k5 5 Tryz.runUnderlying156 Tryz.sizeOf3 rfl rfl rfl rfl (qY 0 Tryz.isAgg3 rfl rfl rfl rfl rfl ?_)
   obtain ⟨t29, h5, hm⟩ := bindO hm
   refine ji rfl rfl rfl rfl (fun _ _ => yb h5 rfl rfl) (ji rfl rfl rfl rfl (fun _ _ => jH rfl) (ji rfl rfl rfl rfl (fun _ _ => jH rfl) (ji rfl rfl rfl rfl (fun _ _ => jH rfl) (ji rfl rfl rfl rfl (fun _ _ => jH rfl) (jM (ja (jw ?_)))))))
   refine jf ?_
   obtain rfl := sj hm
   refine jm rfl (fun w hh => (.tmp rfl (.tmp rfl (.tmp rfl (.tmp rfl .nil))))) (fun w hh => ⟨(), rfl, trivial, hh.se [] [] 2 rfl rfl rfl rfl⟩)
  ·replace hm := ifN h4 hm
   refine ju (ja (jj ?_))
   refine jX none (.free 0 (.hoist 1 (.free 2 (.hoist 3 (.free 4 (.hoist 5 (.free 6 (.free 7 (.hoist 8 (.free 9 (.hoist 10 (.free 11 (.hoist 12 (.one 13 (.one 14 (.free 15 (.free 16 (.free 17 (.free 18 (.free 19 .done)))))))))))))))))))) _ rfl (by decide +kernel) (fun w k hh => hh.draw k) (fun w hh => hh) ?_
   refine k5 1 Tryz.runUnderlying156 Tryz.sizeOf3 rfl rfl rfl rfl (qY 0 Tryz.isAgg3 rfl rfl rfl rfl rfl (k5 0 Tryz.runUnderlying156 Tryz.sizeOf3 rfl rfl rfl rfl (qY 0 Tryz.isAgg3 rfl rfl rfl rfl rfl (k5 4 Tryz.runUnderlying156 Tryz.sizeOf3 rfl rfl rfl rfl (qY 0 Tryz.isAgg3 rfl rfl rfl rfl rfl ?_)))))
   obtain ⟨t36, h6, hm⟩ := bindO hm
   refine ji rfl rfl rfl rfl (fun _ _ => Zm h6 rfl) (k5 5 Tryz.runUnderlying156 Tryz.sizeOf3 rfl rfl rfl rfl (qY 0 Tryz.isAgg3 rfl rfl rfl rfl rfl (k5 2 Tryz.runUnderlying156 Tryz.sizeOf3 rfl rfl rfl rfl (qY 0 Tryz.isAgg3 rfl rfl rfl rfl rfl (k5 5 Tryz.runUnderlying156 Tryz.sizeOf3 rfl rfl rfl rfl (qY 0 Tryz.isAgg3 rfl rfl rfl rfl rfl (jE rfl ?_)))))))
   refine kG RI [t15.goes] (ps := [(0, _)]) (cells := [_]) (fun w => Tryz.runUnderlying26 w) (fun w => Tryz.sizeOf3 w) (fun w => Tryz.zeroValue3 w) rfl rfl rfl rfl rfl rfl rfl rfl (fun L h7 => ?_)
   refine jr (hsE [0, 1] [] 0 rfl rfl rfl rfl) (jE rfl ?_)
   obtain ⟨t44, h8, hm⟩ := bindO hm
   refine jd [] [] rfl rfl rfl rfl rfl rfl rfl Tryz.call74 (fun w hh => KT t15.lo [t15.goes] (qA L.q) L.n L.cap w (HV.callee (S0 := []) (vs0 := []) hh (roC (hh.vsepA 0 rfl h7) roN)) (vlen RI h7 rfl) (AOK.q (vne h7)) (h7).hle h8) (fun l h9 => ?_)
   refine jr (hsE [0, 1] [] 0 rfl rfl rfl rfl) ?_
   obtain ⟨t45, h10, hm⟩ := bindO hm
   refine ji rfl rfl rfl rfl (fun _ _ => yb h10 rfl rfl) (ji rfl rfl rfl rfl (fun _ _ => jH rfl) (ji rfl rfl rfl rfl (fun _ _ => jH rfl) (ji rfl rfl rfl rfl (fun _ _ => jH rfl) (ji rfl rfl rfl rfl (fun _ _ => jH rfl) (jM (ja (jw ?_)))))))
   obtain rfl := sj hm
   refine jm rfl (fun w hh => (.tmp rfl (.tmp rfl (.tmp rfl (.tmp rfl .nil))))) (fun w hh => ⟨(), rfl, trivial, hh.se [] [] 2 rfl rfl rfl rfl⟩)
structure zi where
  a55_0 : (List Bool)
  a66_0 : (List Change)
def yr (c0 : Change) (a1 : Int) (b2 : Int) (cost3 : Int) (room4 : Int) (a550 : (List Bool)) (a660 : (List Change)) : Option zi :=
 ((ix a550 a1).bind fun t13 =>
 if t13 = true then
 ((ix a550 b2).bind fun t17 =>
 some (!t17)) else
 (some false)).bind fun o =>
 if o = true then
 ((ix a550 b2).bind fun t24 =>
 (some (a550.set (Int.toNat b2) true)).bind fun a55 =>
 (ix a660 b2).bind fun t25 =>
 (some (a660.set (Int.toNat b2) c0)).bind fun a66 =>
 some (⟨a55, a66⟩ : zi)) else
 (some (⟨a550, a660⟩ : zi))
theorem Y5 (c0 : Change) (a1 : Int) (b2 : Int) (cost3 : Int) (room4 : Int) (a550 : (List Bool)) (a660 : (List Change)) (pb : Nat) (pb_1 : Nat) (w : World) (hw : HV w (keys [(pb, .cells (RB.enc a550).toArray 158 (0, 0)), (pb_1, .cells (RCh.enc a660).toArray 171 (0, 0))] []) [(pb, .cells (RB.enc a550).toArray 158 (0, 0)), (pb_1, .cells (RCh.enc a660).toArray 171 (0, 0))] [] [] w) (hl_a550 : a550.length = 12) (hl_a660 : a660.length = 12) {res : zi} (hm : yr c0 a1 b2 cost3 room4 a550 a660 = some res) :
    Calls Tryz.prog 129 #[.agg #[.int .i64 c0.way, .bool c0.more], .int .i64 a1, .int .i64 b2, .int .i64 cost3, .int .i64 room4, ptr pb 0, ptr pb_1 0] w (fun en w' => ∃ l : Unit, en = .returned (.tuple #[]) ∧ (res.a55_0.length = 12 ∧ res.a66_0.length = 12) ∧ HV w (keys [(pb, .cells (RB.enc a550).toArray 158 (0, 0)), (pb_1, .cells (RCh.enc a660).toArray 171 (0, 0))] []) [(pb, .cells (RB.enc res.a55_0).toArray 158 (0, 0)), (pb_1, .cells (RCh.enc res.a66_0).toArray 171 (0, 0))] [] [] w') := by
  unfold yr at hm
  refine j5 Tryz.func129 rfl Tryz.ntmps129 rfl (e := [(0, _), (1, _), (2, _), (3, _), (4, _), (5, _), (6, _)]) rfl hw (jq ?_)
  refine jC rfl rfl (fun b h3 => ?_)
  refine jp (jj ?_)
  obtain ⟨o, h4, h5⟩ := bindO hm
  refine jF (ι := Unit) (fun l => True) (fun l => [(2, .int .i64 b2), (5, ptr pb 0), (6, ptr pb_1 0), (7, ptr b 0), (20, .bool o)]) (fun l => [(b, .cells #[.int .i64 c0.way, .bool c0.more] 164 (0, 0)), (pb, .cells (RB.enc a550).toArray 158 (0, 0)), (pb_1, .cells (RCh.enc a660).toArray 171 (0, 0))]) (fun l => []) ?_ ?_
  ·replace hm := h4
   refine jh (je rfl rfl ?_)
   obtain ⟨t13, h6, hm⟩ := bindO hm
   refine jc rfl rfl rfl (fun w _ => KM h6 hl_a550 (Tryz.runUnderlying158 w) (Tryz.sizeOf4 w) rfl rfl) (jc rfl rfl rfl (fun w hh => kl RB 0 h6 (Tryz.isAgg4 w) rfl (hh.bsegA 1 rfl) rfl (Nat.add_zero _).symm) (je rfl rfl ?_))
   refine jJ 15 rfl (fun h7 => ?_) (fun h7 => ?_)
   ·replace hm := ifT (h7) hm
    refine jb rfl rfl (je rfl rfl (jb rfl rfl ?_))
    obtain ⟨t17, h8, hm⟩ := bindO hm
    refine jc rfl rfl rfl (fun w _ => KM h8 hl_a550 (Tryz.runUnderlying158 w) (Tryz.sizeOf4 w) rfl rfl) (jb rfl rfl (jc rfl rfl rfl (fun w hh => kl RB 0 h8 (Tryz.isAgg4 w) rfl (hh.bsegA 1 rfl) rfl (Nat.add_zero _).symm) (jb rfl rfl (jc rfl rfl rfl (fun _ _ => kE rfl) (kx rfl rfl rfl (jv ?_))))))
    obtain rfl := sj hm
    exact jg () (trivial) (sE rfl) (fun w hh => hh)
   ·replace hm := ifN h7 hm
    refine g_k rfl rfl rfl rfl (g_k rfl rfl rfl rfl (g_k rfl rfl rfl rfl (g_k rfl rfl rfl rfl (j3 rfl rfl rfl (jv ?_)))))
    obtain rfl := sj hm
    exact jg () (trivial) (sE rfl) (fun w hh => hh)
  ·intro l hj
   replace hm := h5
   refine ja ?_
   refine js rfl (fun h9 => ?_) (fun h9 => ?_)
   ·replace hm := ifT (h9) hm
    refine jX none (.free 0 (.free 1 (.hoist 2 (.free 3 (.one 4 (.free 5 (.one 6 .done))))))) (HV _ _ [(b, .cells #[.int .i64 c0.way, .bool c0.more] 164 (0, 0))] [] _) rfl (by decide +kernel) (fun w k hh => hh.draw k) (hsE [0] [] 0 rfl rfl rfl rfl) ?_
    refine ku rfl rfl rfl (ku rfl rfl rfl (jD rfl rfl rfl rfl (fun w hh => j1 (vs := [_, _]) (Tryz.isAgg164 w) (Tryz.sizeOf164 w) rfl (hh.cells 0 rfl rfl)) ?_))
    obtain ⟨t24, h10, hm⟩ := bindO hm
    refine ji rfl rfl rfl rfl (fun w _ => KM h10 hl_a550 (Tryz.runUnderlying158 w) (Tryz.sizeOf4 w) rfl rfl) (jE rfl ?_)
    obtain ⟨a55, ha55, hm⟩ := bindO hm
    refine ja3 RB 1 0 true (S' := [_, _, _]) (fun w => Tryz.sizeOf4 w) rfl rfl rfl rfl hl_a550 (Nat.add_zero _).symm rfl h10 rfl rfl (Option.some.inj ha55) rfl (fun h11 => ?_)
    refine jr (hsE [0] [] 0 rfl rfl rfl rfl) ?_
    obtain ⟨t25, h12, hm⟩ := bindO hm
    refine ji rfl rfl rfl rfl (fun w _ => KM h12 hl_a660 (Tryz.runUnderlying171 w) (Tryz.sizeOf164 w) rfl rfl) (jE rfl ?_)
    obtain ⟨a66, ha66, hm⟩ := bindO hm
    refine jaJ (us := #[_, _]) RCh 2 c0 (S' := [_, _, _]) (fun w => Tryz.sizeOf164 w) rfl rfl rfl hl_a660 rfl rfl h12 rfl (Option.some.inj ha66) rfl (fun h13 => ?_)
    refine jr (hsE [0] [] 0 rfl rfl rfl rfl) (jM ?_)
    obtain rfl := sj hm
    refine JX rfl (fun w hh => .nil) (fun w hh => ⟨(), rfl, ⟨h11, h13⟩, hh.se [1, 2] [] 0 rfl rfl rfl rfl⟩)
   ·replace hm := ifN h9 hm
    refine ju ?_
    obtain rfl := sj hm
    refine JX rfl (fun w hh => .nil) (fun w hh => ⟨(), rfl, ⟨hl_a550, hl_a660⟩, hh.se [1, 2] [] 0 rfl rfl rfl rfl⟩)
structure Ja where
  f1_c0_0 : (List Bool)
  f1_c1_0 : (List Change)
structure J4 where
  f1_c0_0 : (List Bool)
  f1_c1_0 : (List Change)
structure qh where
  t17 : Int
  f1_c0_0 : (List Bool)
  f1_c1_0 : (List Change)
structure JY where
  f1_c0_0 : (List Bool)
  f1_c1_0 : (List Change)
structure yi where
  t22 : Int
  f1_c0_0 : (List Bool)
  f1_c1_0 : (List Change)
structure qd where
  f1_c0_0 : (List Bool)
  f1_c1_0 : (List Change)
def j9 (n00 : (List Wy)) (s : qh) (s_1 : yi) : Option (yi ⊕ JY) :=
 if s_1.t22 < ([true, false].length : Int) then
 (((ix [true, false] s_1.t22).bind fun t24 =>
 (qG n00 (⟨s.t17, t24⟩ : Change)).bind fun t32 =>
 if 0 < t32.r3 then
 ((yr (⟨s.t17, t24⟩ : Change) t32.r0 t32.r1 t32.r2 t32.r3 s_1.f1_c0_0 s_1.f1_c1_0).bind fun t45 =>
 some (⟨t45.a55_0, t45.a66_0⟩ : qd)) else
 (some (⟨s_1.f1_c0_0, s_1.f1_c1_0⟩ : qd))).bind fun o_2 =>
 (addc s_1.t22 1).bind fun t46 =>
 some (.inl (⟨t46, o_2.f1_c0_0, o_2.f1_c1_0⟩ : yi))) else
 (some (.inr (⟨s_1.f1_c0_0, s_1.f1_c1_0⟩ : JY)))
def qf (n00 : (List Wy)) (s : qh) : Option (qh ⊕ J4) :=
 if s.t17 < (n00.length : Int) then
 ((iterM FU (j9 n00 s) (⟨0, s.f1_c0_0, s.f1_c1_0⟩ : yi)).bind fun o_1 =>
 (addc s.t17 1).bind fun t47 =>
 some (.inl (⟨t47, o_1.f1_c0_0, o_1.f1_c1_0⟩ : qh))) else
 (some (.inr (⟨s.f1_c0_0, s.f1_c1_0⟩ : J4)))
def yC (n00 : (List Wy)) (f1_c00 : (List Bool)) (f1_c10 : (List Change)) : Option Ja :=
 (iterM FU (qf n00) (⟨0, f1_c00, f1_c10⟩ : qh)).bind fun o =>
 some (⟨o.f1_c0_0, o.f1_c1_0⟩ : Ja)
theorem YJ (n00 : (List Wy)) (f1_c00 : (List Bool)) (f1_c10 : (List Change)) (rb : Nat) (qa1 : Option Addr) (na1 ca1 : Nat) (pb : Nat) (pb_1 : Nat) (w : World) (hw : HV w (keys [(pb, .cells (RB.enc f1_c00).toArray 158 (0, 0)), (pb_1, .cells (RCh.enc f1_c10).toArray 171 (0, 0))] []) [(pb, .cells (RB.enc f1_c00).toArray 158 (0, 0)), (pb_1, .cells (RCh.enc f1_c10).toArray 171 (0, 0))] [] [(rb, 0, [.slice qa1 na1 ca1]), (aB qa1, aO qa1, RWay.enc n00)] w)  (hna1 : n00.length = na1) (hqa1 : AOK na1 qa1) (hla1 : na1 ≤ ca1) (hl_f1_c00 : f1_c00.length = 12) (hl_f1_c10 : f1_c10.length = 12) {res : Ja} (hm : yC n00 f1_c00 f1_c10 = some res) :
    Calls Tryz.prog 108 #[ptr rb 0, .func (.func 129) #[] #[ptr pb 0, ptr pb_1 0]] w (fun en w' => ∃ l : Unit, en = .returned (.tuple #[]) ∧ (res.f1_c0_0.length = 12 ∧ res.f1_c1_0.length = 12) ∧ HV w (keys [(pb, .cells (RB.enc f1_c00).toArray 158 (0, 0)), (pb_1, .cells (RCh.enc f1_c10).toArray 171 (0, 0))] []) [(pb, .cells (RB.enc res.f1_c0_0).toArray 158 (0, 0)), (pb_1, .cells (RCh.enc res.f1_c1_0).toArray 171 (0, 0))] [] [] w') := by
  unfold yC at hm
  refine j5 Tryz.func108 rfl Tryz.ntmps108 rfl (e := [(0, _), (1, _)]) rfl hw (jq (je rfl rfl (jc rfl rfl rfl (fun _ _ => jN rfl) (jP 0 Tryz.runUnderlying154 rfl Tryz.sizeOf152 rfl rfl (jc rfl rfl rfl (fun w hh => jR (Tryz.isAgg152 w) rfl (segCell (hh.seg 0 rfl) 0 rfl)) (jc rfl rfl rfl (fun w _ => jI hna1 (Tryz.runUnderlying152 w) rfl) (je rfl rfl ?_)))))))
  refine jp ?_
  obtain ⟨o, h3, h4⟩ := bindO hm
  refine jF (ι := Unit) (fun l => o.f1_c0_0.length = 12 ∧ o.f1_c1_0.length = 12) (fun l => []) (fun l => [(pb, .cells (RB.enc o.f1_c0_0).toArray 158 (0, 0)), (pb_1, .cells (RCh.enc o.f1_c1_0).toArray 171 (0, 0))]) (fun l => []) ?_ ?_
  ·replace hm := h3
   refine jn ?_
   refine jL (ι := Unit) hm (fun s l_1 => s.f1_c0_0.length = 12 ∧ s.f1_c1_0.length = 12) (fun s l_1 => [(0, ptr rb 0), (1, .func (.func 129) #[] #[ptr pb 0, ptr pb_1 0]), (16, .int .i64 (n00.length : Int)), (17, .int .i64 s.t17)]) (fun s l_1 => [(pb, .cells (RB.enc s.f1_c0_0).toArray 158 (0, 0)), (pb_1, .cells (RCh.enc s.f1_c1_0).toArray 171 (0, 0))]) (fun s l_1 => []) () (⟨hl_f1_c00, hl_f1_c10⟩) (sE rfl) (fun w hh => hh) (fun s l_1 r hpl hm h9 => ?_)
   obtain ⟨h7, h8⟩ := hpl
   unfold qf at hm
   refine jq (yY rfl rfl rfl (jp (jj ?_)))
   refine js rfl (fun h10 => ?_) (fun h10 => ?_)
   ·replace hm := ifD h10 hm
    refine ju (ja (jj (jn (jq (je rfl rfl (jk rfl rfl (j0 ?_)))))))
    refine kG RB [true, false] (ps := [(0, _), (1, _)]) (cells := [_, _]) (fun w => Tryz.runUnderlying93 w) (fun w => Tryz.sizeOf4 w) (fun w => Tryz.zeroValue4 w) rfl rfl rfl rfl rfl rfl rfl rfl (fun L h11 => ?_)
    refine jc rfl rfl rfl (fun w _ => Q1 (vlen RB h11 rfl) (Tryz.runUnderlying93 w) rfl) (je rfl rfl (jp ?_))
    obtain ⟨o_1, h12, h13⟩ := bindO hm
    refine jF (ι := Unit) (fun l_2 => o_1.f1_c0_0.length = 12 ∧ o_1.f1_c1_0.length = 12) (fun l_2 => [(0, ptr rb 0), (1, .func (.func 129) #[] #[ptr pb 0, ptr pb_1 0]), (16, .int .i64 (n00.length : Int)), (17, .int .i64 s.t17)]) (fun l_2 => [(pb, .cells (RB.enc o_1.f1_c0_0).toArray 158 (0, 0)), (pb_1, .cells (RCh.enc o_1.f1_c1_0).toArray 171 (0, 0))]) (fun l_2 => []) ?_ ?_
    ·replace hm := h12
     refine jn ?_
     refine jL (ι := Unit) hm (fun s_1 l_3 => s_1.f1_c0_0.length = 12 ∧ s_1.f1_c1_0.length = 12) (fun s_1 l_3 => [(0, ptr rb 0), (1, .func (.func 129) #[] #[ptr pb 0, ptr pb_1 0]), (4, .int .i64 s.t17), (16, .int .i64 (n00.length : Int)), (17, .int .i64 s.t17), (20, slv L.q L.n L.cap), (21, .int .i64 ([true, false].length : Int)), (22, .int .i64 s_1.t22)]) (fun s_1 l_3 => [(pb, .cells (RB.enc s_1.f1_c0_0).toArray 158 (0, 0)), (pb_1, .cells (RCh.enc s_1.f1_c1_0).toArray 171 (0, 0))]) (fun s_1 l_3 => [⟨4, RB.enc [true, false], L.sp, L.q, []⟩]) () (⟨h7, h8⟩) (sE rfl) (fun w hh => hh) (fun s_1 l_3 r_1 hpl hm h18 => ?_)
     obtain ⟨h16, h17⟩ := hpl
     unfold j9 at hm
     refine jq (yY rfl rfl rfl (jp (jj ?_)))
     refine js rfl (fun h19 => ?_) (fun h19 => ?_)
     ·replace hm := ifD h19 hm
      refine ju (ja (jj ?_))
      obtain ⟨o_2, h20, h21⟩ := bindO hm
      refine jF (ι := Unit) (fun l_4 => o_2.f1_c0_0.length = 12 ∧ o_2.f1_c1_0.length = 12) (fun l_4 => [(0, ptr rb 0), (1, .func (.func 129) #[] #[ptr pb 0, ptr pb_1 0]), (4, .int .i64 s.t17), (16, .int .i64 (n00.length : Int)), (17, .int .i64 s.t17), (20, slv L.q L.n L.cap), (21, .int .i64 ([true, false].length : Int)), (22, .int .i64 s_1.t22)]) (fun l_4 => [(pb, .cells (RB.enc o_2.f1_c0_0).toArray 158 (0, 0)), (pb_1, .cells (RCh.enc o_2.f1_c1_0).toArray 171 (0, 0))]) (fun l_4 => [⟨4, RB.enc [true, false], L.sp, L.q, []⟩]) ?_ ?_
      ·replace hm := h20
       refine jn (jq ?_)
       obtain ⟨t24, h24, hm⟩ := bindO hm
       refine jc rfl rfl rfl (fun w _ => qx h24 (Tryz.runUnderlying93 w) (Tryz.sizeOf4 w) rfl rfl (vlen RB h11 rfl) (vne h11)) (jc rfl rfl rfl (fun w hh => kl RB 0 h24 (Tryz.isAgg4 w) rfl (hh.vseg 0 rfl h11) rfl (Nat.add_zero _).symm) (jk rfl rfl (j0 (je rfl rfl (je rfl rfl (jc rfl rfl rfl (fun _ _ => jz (vs := [(0, _), (1, _)]) (cells := [_, _]) rfl rfl) ?_))))))
       refine jo (fun w => Tryz.zeroValue164 w) rfl (fun b h25 => ?_)
       refine jy (us := #[_, _]) (cs' := [_, _]) (S' := [_, _, _]) 0 (fun w => Tryz.sizeOf164 w) rfl rfl rfl rfl rfl rfl rfl (j0 (je rfl rfl (kD [_, _] 0 Tryz.isAgg164 Tryz.sizeOf164 rfl rfl rfl rfl ?_)))
       obtain ⟨t32, h26, hm⟩ := bindO hm
       refine jd [] [] rfl rfl rfl rfl rfl rfl rfl Tryz.call130 (fun w hh => Kl n00 (⟨s.t17, t24⟩ : Change) rb qa1 na1 ca1 w (HV.callee (S0 := []) (vs0 := []) hh (roR hh 0 rfl (roR hh 1 rfl roN))) hna1 hqa1 hla1 h26) (fun l_5 h27 => ?_)
       refine je rfl rfl (kp rfl rfl rfl (kp rfl rfl rfl (kp rfl rfl rfl (kp rfl rfl rfl (jk rfl rfl (jk rfl rfl (jk rfl rfl ?_)))))))
       refine jk rfl rfl (j0 (je rfl rfl (jc rfl rfl rfl (fun _ _ => Qy rfl rfl) (jp ?_))))
       refine js rfl (fun h28 => ?_) (fun h28 => ?_)
       ·replace hm := ifD h28 hm
        refine jh (je rfl rfl (kD [_, _] 0 Tryz.isAgg164 Tryz.sizeOf164 rfl rfl rfl rfl (je rfl rfl (je rfl rfl (je rfl rfl (je rfl rfl ?_))))))
        obtain ⟨t45, h29, hm⟩ := bindO hm
        refine jT (S' := [_, _, _]) (vs' := [_]) [1, 2, 0] [0] 0 rfl rfl rfl rfl ?_
        refine jd [_, _] [] rfl rfl rfl rfl rfl rfl rfl Tryz.call129 (fun w hh => Y5 (⟨s.t17, t24⟩ : Change) t32.r0 t32.r1 t32.r2 t32.r3 s_1.f1_c0_0 s_1.f1_c1_0 pb pb_1 w (HV.callee (S0 := [_, _]) (vs0 := []) hh roN) h16 h17 h29) (fun l_6 h30 => ?_)
        obtain ⟨h31, h32⟩ := h30
        refine jT (S' := [_, _, _]) (vs' := [_]) [0, 1, 2] [0] 0 rfl rfl rfl rfl (jv (jt ?_))
        obtain rfl := sj hm
        exact jg () (⟨h31, h32⟩) (sE rfl) (hsE [0, 1] [0] 0 rfl rfl rfl rfl)
       ·replace hm := ifE h28 hm
        refine ju (jt ?_)
        obtain rfl := sj hm
        exact jg () (⟨h16, h17⟩) (sE rfl) (hsE [1, 2] [0] 0 rfl rfl rfl rfl)
      ·intro l_4 hj
       obtain ⟨h22, h23⟩ := hj
       replace hm := h21
       refine ja (jh ?_)
       obtain ⟨t46, h33, hm⟩ := bindO hm
       refine qs h33 rfl rfl rfl (je rfl rfl (jv ?_))
       obtain rfl := sj hm
       refine ja ?_
       exact jA _ () rfl (⟨h22, h23⟩) (sE rfl) (fun w hh => hh)
     ·replace hm := ifE h19 hm
      refine jS (jl (jl (jG ?_)))
      obtain rfl := sj hm
      have hbo := h18 _ rfl
      subst hbo
      exact jg () (⟨h16, h17⟩) (sE rfl) (hsE [0, 1] [] 0 rfl rfl rfl rfl)
    ·intro l_2 hj
     obtain ⟨h14, h15⟩ := hj
     replace hm := h13
     refine jt (ja (jh ?_))
     obtain ⟨t47, h34, hm⟩ := bindO hm
     refine qs h34 rfl rfl rfl (je rfl rfl (jv ?_))
     obtain rfl := sj hm
     refine ja ?_
     exact jA _ () rfl (⟨h14, h15⟩) (sE rfl) (fun w hh => hh)
   ·replace hm := ifE h10 hm
    refine jS (jl (jl (jG ?_)))
    obtain rfl := sj hm
    have hbo := h9 _ rfl
    subst hbo
    exact jg () (⟨h7, h8⟩) (.nil) (fun w hh => hh)
  ·intro l hj
   obtain ⟨h5, h6⟩ := hj
   replace hm := h4
   obtain rfl := sj hm
   refine JX rfl (fun w hh => .nil) (fun w hh => ⟨(), rfl, ⟨h5, h6⟩, hh.se [0, 1] [] 2 rfl rfl rfl rfl⟩)
structure Kx where
  r1 : (List Bool)
  r0 : (List Change)
structure KQ where
  by9 : (List Change)
  met8 : (List Bool)
structure JT where
  by9 : (List Change)
  met8 : (List Bool)
def z6 (n00 : (List Wy)) (s : JT) : Option (JT ⊕ KQ) :=
 (yC n00 s.met8 s.by9).bind fun t18 =>
 if t18.f1_c0_0 = s.met8 then
 (some (.inr (⟨t18.f1_c1_0, t18.f1_c0_0⟩ : KQ))) else
 (some (.inl (⟨t18.f1_c1_0, t18.f1_c0_0⟩ : JT)))
structure zV where
  at12 : Int
  out11 : (List Change)
def zX (from1 : Int) (o : KQ) (n00 : (List Wy)) (s_1 : zV) : Option (zV ⊕ (List Change)) :=
 if s_1.at12 = from1 then
 (some (.inr s_1.out11)) else
 ((ix o.by9 s_1.at12).bind fun t33 =>
 (appc 16 s_1.out11 [(⟨t33.way, t33.more⟩ : Change)]).bind fun t36 =>
 (ix o.by9 s_1.at12).bind fun t40 =>
 (qG n00 t40).bind fun t42 =>
 some (.inl (⟨t42.r0, t36⟩ : zV)))
def J8 (n00 : (List Wy)) (from1 : Int) (to2 : Int) : Option Kx :=
 (ix (List.replicate 12 false : (List Bool)) from1).bind fun t14 =>
 (some ((List.replicate 12 false : (List Bool)).set (Int.toNat from1) true)).bind fun met8 =>
 (iterM FU (z6 n00) (⟨(List.replicate 12 (⟨0, false⟩ : Change) : (List Change)), met8⟩ : JT)).bind fun o =>
 (ix o.met8 to2).bind fun t23 =>
 if (!t23) = true then
 (some (⟨o.met8, []⟩ : Kx)) else
 ((iterM FU (zX from1 o n00) (⟨to2, []⟩ : zV)).bind fun o_1 =>
 some (⟨o.met8, o_1⟩ : Kx))
theorem jar (n00 : (List Wy)) (from1 : Int) (to2 : Int) (rb : Nat) (qa1 : Option Addr) (na1 ca1 : Nat) (w : World) (hw : HV w (keys [] []) [] [] [(rb, 0, [.slice qa1 na1 ca1]), (aB qa1, aO qa1, RWay.enc n00)] w)  (hna1 : n00.length = na1) (hqa1 : AOK na1 qa1) (hla1 : na1 ≤ ca1) {res : Kx} (hm : J8 n00 from1 to2 = some res) :
    Calls Tryz.prog 104 #[ptr rb 0, .int .i64 from1, .int .i64 to2] w (fun en w' => ∃ l : VL, en = .returned (.tuple #[slv l.q l.n l.cap, .agg (RB.enc res.r1).toArray]) ∧ (VOK 2 l.n l.cap (RCh.enc res.r0) l.sp l.q ∧ (l.q = none ↔ res.r0 = []) ∧ res.r1.length = 12) ∧ HV w (keys [] []) [] [⟨164, RCh.enc res.r0, l.sp, l.q, []⟩] [] w') := by
  unfold J8 at hm
  refine j5 Tryz.func104 rfl Tryz.ntmps104 rfl (e := [(0, _), (1, _), (2, _)]) rfl hw (jq (jc rfl rfl rfl (fun _ _ => kX rfl) ?_))
  refine Kr RB (l := (List.replicate 12 false : (List Bool))) (k := 12) (fun w => Tryz.zeroValue158 w) rfl rfl rfl (fun b h4 h5 => ?_)
  refine j0 ?_
  refine Kr RB (l := (List.replicate 12 false : (List Bool))) (k := 12) (fun w => Tryz.zeroValue158 w) rfl rfl rfl (fun b_1 h6 h7 => ?_)
  refine j0 ?_
  refine Kr RCh (l := (List.replicate 12 (⟨0, false⟩ : Change) : (List Change))) (k := 12) (fun w => Tryz.zeroValue171 w) rfl rfl rfl (fun b_2 h8 h9 => ?_)
  refine j0 (je rfl rfl ?_)
  obtain ⟨t14, h10, hm⟩ := bindO hm
  refine jc rfl rfl rfl (fun w _ => KM h10 h7 (Tryz.runUnderlying158 w) (Tryz.sizeOf4 w) rfl rfl) ?_
  obtain ⟨met8, hmet8, hm⟩ := bindO hm
  refine ja3 RB 1 0 true (S' := [_, _, _]) (fun w => Tryz.sizeOf4 w) rfl rfl rfl rfl h7 (Nat.add_zero _).symm rfl h10 rfl rfl (Option.some.inj hmet8) rfl (fun h11 => ?_)
  refine jp (jj ?_)
  obtain ⟨o, h12, h13⟩ := bindO hm
  refine jF (ι := Unit) (fun l => o.by9.length = 12 ∧ o.met8.length = 12) (fun l => [(0, ptr rb 0), (1, .int .i64 from1), (2, .int .i64 to2), (7, ptr b 0), (8, ptr b_1 0), (9, ptr b_2 0)]) (fun l => [(b_2, .cells (RCh.enc o.by9).toArray 171 (0, 0)), (b_1, .cells (RB.enc o.met8).toArray 158 (0, 0)), (b, .cells (RB.enc (List.replicate 12 false : (List Bool))).toArray 158 (0, 0))]) (fun l => []) ?_ ?_
  ·replace hm := h12
   refine jn ?_
   refine jL (ι := Unit) hm (fun s l_1 => s.by9.length = 12 ∧ s.met8.length = 12) (fun s l_1 => [(0, ptr rb 0), (1, .int .i64 from1), (2, .int .i64 to2), (7, ptr b 0), (8, ptr b_1 0), (9, ptr b_2 0)]) (fun s l_1 => [(b_2, .cells (RCh.enc s.by9).toArray 171 (0, 0)), (b_1, .cells (RB.enc s.met8).toArray 158 (0, 0)), (b, .cells (RB.enc (List.replicate 12 false : (List Bool))).toArray 158 (0, 0))]) (fun s l_1 => []) () (⟨h9, h11⟩) (sE rfl) (fun w hh => hh) (fun s l_1 r hpl hm h18 => ?_)
   obtain ⟨h16, h17⟩ := hpl
   unfold z6 at hm
   refine jn (jq (jc rfl rfl rfl (fun w hh => J9 RB h17 (Tryz.isAgg158 w) (Tryz.sizeOf158 w) rfl rfl (hh.bsegA 1 rfl)) ?_))
   refine Kr RB (l := (List.replicate 12 false : (List Bool))) (k := 12) (fun w => Tryz.zeroValue158 w) rfl rfl rfl (fun b_3 h19 h20 => ?_)
   refine jaz RB (S' := [_, _, _, _]) 0 (fun w => Tryz.sizeOf158 w) rfl rfl rfl h20 h17 rfl rfl (j0 (je rfl rfl (jc rfl rfl rfl (fun _ _ => jK (u := #[]) (u' := #[_, _]) rfl rfl) ?_)))
   obtain ⟨t18, h21, hm⟩ := bindO hm
   refine jT (S' := [_, _, _, _]) (vs' := []) [2, 1, 0, 3] [] 0 rfl rfl rfl rfl ?_
   refine jd [_, _] [] rfl rfl rfl rfl rfl rfl rfl Tryz.call108 (fun w hh => YJ n00 s.met8 s.by9 rb qa1 na1 ca1 b_1 b_2 w (HV.callee (S0 := [_, _]) (vs0 := []) hh (roR hh 0 rfl (roR hh 1 rfl roN))) hna1 hqa1 hla1 h17 h16 h21) (fun l_2 h22 => ?_)
   obtain ⟨h23, h24⟩ := h22
   refine jT (S' := [_, _, _, _]) (vs' := []) [0, 1, 2, 3] [] 0 rfl rfl rfl rfl (j0 (jc rfl rfl rfl (fun w hh => J9 RB h23 (Tryz.isAgg158 w) (Tryz.sizeOf158 w) rfl rfl (hh.bsegA 0 rfl)) (jc rfl rfl rfl (fun w hh => J9 RB h17 (Tryz.isAgg158 w) (Tryz.sizeOf158 w) rfl rfl (hh.bsegA 2 rfl)) ?_)))
   refine jc rfl rfl rfl (fun w _ => Qi (equal_arrB Tryz.underlying158 (fun w => Tryz.sizeOf4 w) (fun w => Tryz.isAgg4 w) Tryz.underlying4 h23 h17 w) jax rfl rfl) ?_
   refine jp ?_
   refine js rfl (fun h25 => ?_) (fun h25 => ?_)
   ·replace hm := ifD h25 hm
    refine jS (jag rfl (jl (jG ?_)))
    obtain rfl := sj hm
    have hbo := h18 _ rfl
    subst hbo
    exact jg () (⟨h24, h23⟩) (sE rfl) (hsE [1, 0, 3] [] 0 rfl rfl rfl rfl)
   ·replace hm := ifE h25 hm
    refine ju (jt ?_)
    obtain rfl := sj hm
    refine ja ?_
    exact jA _ () rfl (⟨h24, h23⟩) (sE rfl) (hsE [1, 0, 3] [] 0 rfl rfl rfl rfl)
  ·intro l hj
   obtain ⟨h14, h15⟩ := hj
   replace hm := h13
   refine ja (jj (jq (je rfl rfl ?_)))
   obtain ⟨t23, h26, hm⟩ := bindO hm
   refine jc rfl rfl rfl (fun w _ => KM h26 h15 (Tryz.runUnderlying158 w) (Tryz.sizeOf4 w) rfl rfl) (jc rfl rfl rfl (fun w hh => kl RB 0 h26 (Tryz.isAgg4 w) rfl (hh.bsegA 1 rfl) rfl (Nat.add_zero _).symm) (jc rfl rfl rfl (fun _ _ => kE rfl) (jp ?_)))
   refine js rfl (fun h27 => ?_) (fun h27 => ?_)
   ·replace hm := ifT (h27) hm
    refine jj ?_
    refine jX none (.hoist 0 (.free 1 (.one 2 .done))) (HV _ _ [(b_2, .cells (RCh.enc o.by9).toArray 171 (0, 0)), (b_1, .cells (RB.enc o.met8).toArray 158 (0, 0))] [] _) rfl (by decide +kernel) (fun w k hh => hh.draw k) (hsE [0, 1] [] 0 rfl rfl rfl rfl) ?_
    refine jD rfl rfl rfl rfl (fun w hh => J9 RB h15 (Tryz.isAgg158 w) (Tryz.sizeOf158 w) rfl rfl (hh.bsegA 1 rfl)) (ji rfl rfl rfl rfl (fun _ _ => kX rfl) (jE rfl (jaz RB (S' := [_, _, _]) 2 (fun w => Tryz.sizeOf158 w) rfl rfl rfl h5 h15 rfl rfl (jr (hsE [0, 1] [] 0 rfl rfl rfl rfl) (jM (ja (jw ?_)))))))
    refine jf (kC 164 ?_)
    obtain rfl := sj hm
    refine jm rfl (fun w hh => (.tmp rfl (.cell rfl (loadVar_arr RB h15 (Tryz.isAgg158 _) (Tryz.sizeOf158 _) rfl (hh.bsegA 2 rfl)) .nil))) (fun w hh => ⟨⟨none, 0, 0, []⟩, rfl, ⟨VOK.nil, nieN, h15⟩, hh.se [] [0] 2 rfl rfl rfl rfl⟩)
   ·replace hm := ifN h27 hm
    refine ju (ja (jq (jc rfl rfl rfl (fun _ _ => kX rfl) (jp (jj (jq (je rfl rfl ?_)))))))
    refine jk rfl rfl (jp (kC 164 ?_))
    obtain ⟨o_1, h28, h29⟩ := bindO hm
    refine jF (ι := VL) (fun l_3 => VOK 2 l_3.n l_3.cap (RCh.enc o_1) l_3.sp l_3.q ∧ (l_3.q = none ↔ o_1 = [])) (fun l_3 => [(7, ptr b 0), (8, ptr b_1 0), (11, slv l_3.q l_3.n l_3.cap)]) (fun l_3 => [(b_2, .cells (RCh.enc o.by9).toArray 171 (0, 0)), (b_1, .cells (RB.enc o.met8).toArray 158 (0, 0)), (b, .cells (RB.enc (List.replicate 12 false : (List Bool))).toArray 158 (0, 0))]) (fun l_3 => [⟨164, RCh.enc o_1, l_3.sp, l_3.q, []⟩]) ?_ ?_
    ·replace hm := h28
     refine jn ?_
     refine jL (ι := VL) hm (fun s_1 l_4 => VOK 2 l_4.n l_4.cap (RCh.enc s_1.out11) l_4.sp l_4.q ∧ (l_4.q = none ↔ s_1.out11 = [])) (fun s_1 l_4 => [(0, ptr rb 0), (1, .int .i64 from1), (7, ptr b 0), (8, ptr b_1 0), (9, ptr b_2 0), (11, slv l_4.q l_4.n l_4.cap), (12, .int .i64 s_1.at12)]) (fun s_1 l_4 => [(b_2, .cells (RCh.enc o.by9).toArray 171 (0, 0)), (b_1, .cells (RB.enc o.met8).toArray 158 (0, 0)), (b, .cells (RB.enc (List.replicate 12 false : (List Bool))).toArray 158 (0, 0))]) (fun s_1 l_4 => [⟨164, RCh.enc s_1.out11, l_4.sp, l_4.q, []⟩]) ⟨none, 0, 0, []⟩ (⟨VOK.nil, nieN⟩) (sE rfl) (fun w hh => hh) (fun s_1 l_4 r_1 hpl hm h34 => ?_)
     obtain ⟨h32, h33⟩ := hpl
     unfold zX at hm
     refine jj (jq (je rfl rfl (je rfl rfl (jc rfl rfl rfl (fun _ _ => q8 rfl rfl) (jp ?_)))))
     refine js rfl (fun h35 => ?_) (fun h35 => ?_)
     ·replace hm := ifF (of_ndec_true h35) hm
      refine ju (ja (jn (jq (je rfl rfl (je rfl rfl ?_)))))
      obtain ⟨t33, h36, hm⟩ := bindO hm
      refine jc rfl rfl rfl (fun w _ => KM h36 h14 (Tryz.runUnderlying171 w) (Tryz.sizeOf164 w) rfl rfl) ?_
      refine jc rfl rfl rfl (fun w hh => kt RCh 0 [.int .i64 t33.way, .bool t33.more] h36 (Tryz.isAgg164 w) (Tryz.sizeOf164 w) rfl (hh.bsegA 0 rfl) rfl (Nat.add_zero _).symm) ?_
      refine kG RCh [(⟨t33.way, t33.more⟩ : Change)] (ps := [(0, _)]) (cells := [_, _]) (fun w => Tryz.runUnderlying157 w) (fun w => Tryz.sizeOf164 w) (fun w => Tryz.zeroValue164 w) rfl rfl rfl rfl rfl rfl rfl rfl (fun L h37 => ?_)
      obtain ⟨t36, h38, hm⟩ := bindO hm
      refine yh RCh 1 h38 Tryz.underlying157 YU rfl rfl rfl rfl rfl h32 rfl rfl (vlen RCh h37 rfl) (AOK.q (vne h37)) (fun w hh => (hh.vsegA 0 rfl h37)) rfl (fun L_1 h39 h39n => ?_)
      refine jT (S' := [_, _, _]) (vs' := [_, _]) [0, 1, 2] [0, 1] 0 rfl rfl rfl rfl (jk rfl rfl (jp (jh (je rfl rfl (je rfl rfl ?_)))))
      obtain ⟨t40, h40, hm⟩ := bindO hm
      refine jc rfl rfl rfl (fun w _ => KM h40 h14 (Tryz.runUnderlying171 w) (Tryz.sizeOf164 w) rfl rfl) ?_
      refine jc rfl rfl rfl (fun w hh => kt RCh 0 [.int .i64 t40.way, .bool t40.more] h40 (Tryz.isAgg164 w) (Tryz.sizeOf164 w) rfl (hh.bsegA 0 rfl) rfl (Nat.add_zero _).symm) ?_
      obtain ⟨t42, h41, hm⟩ := bindO hm
      refine jd [] [] rfl rfl rfl rfl rfl rfl rfl Tryz.call130 (fun w hh => Kl n00 t40 rb qa1 na1 ca1 w (HV.callee (S0 := []) (vs0 := []) hh (roR hh 0 rfl (roR hh 1 rfl roN))) hna1 hqa1 hla1 h41) (fun l_5 h42 => ?_)
      refine je rfl rfl (kp rfl rfl rfl (kp rfl rfl rfl (kp rfl rfl rfl (kp rfl rfl rfl (jk rfl rfl (jv (jt ?_)))))))
      obtain rfl := sj hm
      refine ja ?_
      exact jA _ L_1 rfl (⟨h39, (h39n h33)⟩) (sE rfl) (hsE [0, 1, 2] [1] 0 rfl rfl rfl rfl)
     ·replace hm := ifT (of_ndec_false h35) hm
      refine jS (jl (jl (jG ?_)))
      obtain rfl := sj hm
      have hbo := h34 _ rfl
      subst hbo
      exact jg l_4 (⟨h32, h33⟩) (sE rfl) (fun w hh => hh)
    ·intro l_3 hj
     obtain ⟨h30, h31⟩ := hj
     replace hm := h29
     refine ja (jj ?_)
     refine jX none (.free 0 (.hoist 1 (.free 2 (.one 3 .done)))) (HV _ _ [(b_2, .cells (RCh.enc o.by9).toArray 171 (0, 0)), (b_1, .cells (RB.enc o.met8).toArray 158 (0, 0))] [⟨164, RCh.enc o_1, l_3.sp, l_3.q, []⟩] _) rfl (by decide +kernel) (fun w k hh => hh.draw k) (hsE [0, 1] [0] 0 rfl rfl rfl rfl) ?_
     refine ku rfl rfl rfl (jD rfl rfl rfl rfl (fun w hh => J9 RB h15 (Tryz.isAgg158 w) (Tryz.sizeOf158 w) rfl rfl (hh.bsegA 1 rfl)) (ji rfl rfl rfl rfl (fun _ _ => jH rfl) (jE rfl (jaz RB (S' := [_, _, _]) 2 (fun w => Tryz.sizeOf158 w) rfl rfl rfl h5 h15 rfl rfl (jr (hsE [0, 1] [0] 0 rfl rfl rfl rfl) (jM (ja ?_)))))))
     refine jw ?_
     obtain rfl := sj hm
     refine jm rfl (fun w hh => (.tmp rfl (.cell rfl (loadVar_arr RB h15 (Tryz.isAgg158 _) (Tryz.sizeOf158 _) rfl (hh.bsegA 2 rfl)) .nil))) (fun w hh => ⟨l_3, rfl, ⟨h30, h31, h15⟩, hh.se [] [0] 2 rfl rfl rfl rfl⟩)
structure zY where
  t22 : Int
  out7_of_ : (List Int)
def zW (d01 : (List Span)) (met2 : (List Bool)) (s : zY) : Option (zY ⊕ (List Int)) :=
 if s.t22 < (d01.length : Int) then
 (((addc 7 s.t22).bind fun t26 =>
 (ix met2 t26).bind fun t27 =>
 if (!t27) = true then
 ((appc 8 s.out7_of_ [s.t22]).bind fun t34 =>
 some t34) else
 (some s.out7_of_)).bind fun o_1 =>
 (addc s.t22 1).bind fun t36 =>
 some (.inl (⟨t36, o_1⟩ : zY))) else
 (some (.inr s.out7_of_))
structure z7 where
  t44 : Int
  out7_of_ : (List Int)
def zZ (d00 : (List Strip)) (met2 : (List Bool)) (s_1 : z7) : Option (z7 ⊕ (List Int)) :=
 if s_1.t44 < (d00.length : Int) then
 (((addc 1 s_1.t44).bind fun t48 =>
 (ix met2 t48).bind fun t49 =>
 if t49 = true then
 ((appc 8 s_1.out7_of_ [s_1.t44]).bind fun t55 =>
 some t55) else
 (some s_1.out7_of_)).bind fun o_3 =>
 (addc s_1.t44 1).bind fun t57 =>
 some (.inl (⟨t57, o_3⟩ : z7))) else
 (some (.inr s_1.out7_of_))
def K3 (d00 : (List Strip)) (d01 : (List Span)) (w1 : Wy) (met2 : (List Bool)) : Option Lack :=
 if w1.dst = 0 then
 ((iterM FU (zW d01 met2) (⟨0, []⟩ : zY)).bind fun o =>
 some (⟨(decide (w1.dst = 0)), o⟩ : Lack)) else
 ((iterM FU (zZ d00 met2) (⟨0, []⟩ : z7)).bind fun o_2 =>
 some (⟨(decide (w1.dst = 0)), o_2⟩ : Lack))
theorem jak (d00 : (List Strip)) (d01 : (List Span)) (w1 : Wy) (met2 : (List Bool)) (rb : Nat) (qa1 : Option Addr) (na1 ca1 : Nat) (qa2 : Option Addr) (na2 ca2 : Nat) (mv : Value) (w : World) (hw : HV w (keys [] []) [] [] [(rb, 0, [.slice qa1 na1 ca1, .slice qa2 na2 ca2, mv]), (aB qa1, aO qa1, RSt.enc d00), (aB qa2, aO qa2, RSp.enc d01)] w)  (hna1 : d00.length = na1) (hqa1 : AOK na1 qa1) (hla1 : na1 ≤ ca1) (hna2 : d01.length = na2) (hqa2 : AOK na2 qa2) (hla2 : na2 ≤ ca2) (hl_met2 : met2.length = 12) {res : Lack} (hm : K3 d00 d01 w1 met2 = some res) :
    Calls Tryz.prog 105 #[ptr rb 0, .agg #[.int .i64 w1.fr, .int .i64 w1.dst, .int .i64 w1.lo, .int .i64 w1.hi, .int .i64 w1.cost, .int .i64 w1.goes], .agg (RB.enc met2).toArray] w (fun en w' => ∃ l : VL, en = .returned (.agg #[.bool res.tenants, slv l.q l.n l.cap]) ∧ (VOK 1 l.n l.cap (RI.enc res.of_) l.sp l.q) ∧ HV w (keys [] []) [] [⟨3, RI.enc res.of_, l.sp, l.q, []⟩] [] w') := by
  unfold K3 at hm
  refine j5 Tryz.func105 rfl Tryz.ntmps105 rfl (e := [(0, _), (1, _), (2, _)]) rfl hw (jq ?_)
  refine jC rfl rfl (fun b h2 => ?_)
  refine jC rfl rfl (fun b_1 h3 => ?_)
  refine jo (fun w => Tryz.zeroValue30 w) rfl (fun b_2 h4 => ?_)
  refine j0 (jP 1 Tryz.runUnderlying156 rfl Tryz.sizeOf3 rfl rfl (jY 2 Tryz.isAgg3 rfl rfl rfl rfl (jc rfl rfl rfl (fun _ _ => yD rfl rfl) (jc rfl rfl rfl (fun _ _ => jz (vs := [(0, _)]) (cells := [_, _]) rfl rfl) ?_))))
  refine jo (fun w => Tryz.zeroValue30 w) rfl (fun b_3 h5 => ?_)
  refine jy (us := #[_, _]) (cs' := [_, _]) (S' := [_, _, _, _]) 0 (fun w => Tryz.sizeOf30 w) rfl rfl rfl rfl rfl rfl rfl (jp (jj (jq (jP 0 Tryz.runUnderlying30 rfl Tryz.sizeOf4 rfl rfl (jY 0 Tryz.isAgg4 rfl rfl rfl rfl (jp ?_))))))
  refine js rfl (fun h6 => ?_) (fun h6 => ?_)
  ·replace hm := ifD h6 hm
   refine jj (jq (je rfl rfl (jc rfl rfl rfl (fun _ _ => jN rfl) (jP 0 Tryz.runUnderlying144 rfl Tryz.sizeOf25 rfl rfl (jP 1 Tryz.runUnderlying25 rfl Tryz.sizeOf23 rfl rfl (jc rfl rfl rfl (fun w hh => jR (Tryz.isAgg23 w) rfl (segCell (hh.seg 0 rfl) 1 rfl)) (jc rfl rfl rfl (fun w _ => jI hna2 (Tryz.runUnderlying23 w) rfl) ?_)))))))
   refine je rfl rfl (jp (kC 3 ?_))
   obtain ⟨o, h7, h8⟩ := bindO hm
   refine jF (ι := VL) (fun l => VOK 1 l.n l.cap (RI.enc o) l.sp l.q) (fun l => [(6, ptr b_2 0), (7, ptr b_3 0)]) (fun l => [(b_3, .cells #[.bool (decide (w1.dst = 0)), slv l.q l.n l.cap] 30 (0, 0)), (b_2, .cells #[.bool false, slv none 0 0] 30 (0, 0)), (b_1, .cells (RB.enc met2).toArray 158 (0, 0)), (b, .cells #[.int .i64 w1.fr, .int .i64 w1.dst, .int .i64 w1.lo, .int .i64 w1.hi, .int .i64 w1.cost, .int .i64 w1.goes] 156 (0, 0))]) (fun l => [⟨3, RI.enc o, l.sp, l.q, []⟩]) ?_ ?_
   ·replace hm := h7
    refine jn ?_
    refine jL (ι := VL) hm (fun s l_1 => VOK 1 l_1.n l_1.cap (RI.enc s.out7_of_) l_1.sp l_1.q) (fun s l_1 => [(5, ptr b_1 0), (6, ptr b_2 0), (7, ptr b_3 0), (21, .int .i64 (d01.length : Int)), (22, .int .i64 s.t22)]) (fun s l_1 => [(b_3, .cells #[.bool (decide (w1.dst = 0)), slv l_1.q l_1.n l_1.cap] 30 (0, 0)), (b_2, .cells #[.bool false, slv none 0 0] 30 (0, 0)), (b_1, .cells (RB.enc met2).toArray 158 (0, 0)), (b, .cells #[.int .i64 w1.fr, .int .i64 w1.dst, .int .i64 w1.lo, .int .i64 w1.hi, .int .i64 w1.cost, .int .i64 w1.goes] 156 (0, 0))]) (fun s l_1 => [⟨3, RI.enc s.out7_of_, l_1.sp, l_1.q, []⟩]) ⟨none, 0, 0, []⟩ (VOK.nil) (sE rfl) (fun w hh => hh) (fun s l_1 r hpl hm h11 => ?_)
    have h10 := hpl
    unfold zW at hm
    refine jq (yY rfl rfl rfl (jp (jj ?_)))
    refine js rfl (fun h12 => ?_) (fun h12 => ?_)
    ·replace hm := ifD h12 hm
     refine ju (ja (jj ?_))
     obtain ⟨o_1, h13, h14⟩ := bindO hm
     refine jF (ι := VL) (fun l_2 => VOK 1 l_2.n l_2.cap (RI.enc o_1) l_2.sp l_2.q) (fun l_2 => [(5, ptr b_1 0), (6, ptr b_2 0), (7, ptr b_3 0), (21, .int .i64 (d01.length : Int)), (22, .int .i64 s.t22)]) (fun l_2 => [(b_3, .cells #[.bool (decide (w1.dst = 0)), slv l_2.q l_2.n l_2.cap] 30 (0, 0)), (b_2, .cells #[.bool false, slv none 0 0] 30 (0, 0)), (b_1, .cells (RB.enc met2).toArray 158 (0, 0)), (b, .cells #[.int .i64 w1.fr, .int .i64 w1.dst, .int .i64 w1.lo, .int .i64 w1.hi, .int .i64 w1.cost, .int .i64 w1.goes] 156 (0, 0))]) (fun l_2 => [⟨3, RI.enc o_1, l_2.sp, l_2.q, []⟩]) ?_ ?_
     ·replace hm := h13
      refine jn (jq (je rfl rfl (jk rfl rfl (j0 (je rfl rfl ?_)))))
      obtain ⟨t26, h16, hm⟩ := bindO hm
      refine qs h16 rfl rfl rfl ?_
      obtain ⟨t27, h17, hm⟩ := bindO hm
      refine jc rfl rfl rfl (fun w _ => KM h17 hl_met2 (Tryz.runUnderlying158 w) (Tryz.sizeOf4 w) rfl rfl) (jc rfl rfl rfl (fun w hh => kl RB 0 h17 (Tryz.isAgg4 w) rfl (hh.bsegA 2 rfl) rfl (Nat.add_zero _).symm) (jc rfl rfl rfl (fun _ _ => kE rfl) (jp ?_)))
      refine js rfl (fun h18 => ?_) (fun h18 => ?_)
      ·replace hm := ifT (h18) hm
       refine jh (jP 1 Tryz.runUnderlying30 rfl Tryz.sizeOf26 rfl rfl (jY 0 Tryz.isAgg26 rfl rfl rfl rfl (je rfl rfl ?_)))
       refine kG RI [s.t22] (ps := [(0, _)]) (cells := [_]) (fun w => Tryz.runUnderlying26 w) (fun w => Tryz.sizeOf3 w) (fun w => Tryz.zeroValue3 w) rfl rfl rfl rfl rfl rfl rfl rfl (fun L h19 => ?_)
       obtain ⟨t34, h20, hm⟩ := bindO hm
       refine yh RI 1 h20 Tryz.underlying26 JM rfl rfl rfl rfl rfl h10 rfl rfl (vlen RI h19 rfl) (AOK.q (vne h19)) (fun w hh => (hh.vsegA 0 rfl h19)) rfl (fun L_1 h21 h21n => ?_)
       refine jT (S' := [_, _, _, _]) (vs' := [_, _]) [0, 1, 2, 3] [0, 1] 0 rfl rfl rfl rfl (jP 1 Tryz.runUnderlying30 rfl Tryz.sizeOf26 rfl rfl (kY (cs' := #[_, _]) (S' := [_, _, _, _]) 0 (fun w => Tryz.sizeOf26 w) rfl rfl rfl rfl rfl rfl rfl (jv (jt ?_))))
       obtain rfl := sj hm
       exact jg L_1 (h21) (sE rfl) (hsE [0, 1, 2, 3] [1] 0 rfl rfl rfl rfl)
      ·replace hm := ifN h18 hm
       refine ju (jt ?_)
       obtain rfl := sj hm
       exact jg l_1 (h10) (sE rfl) (fun w hh => hh)
     ·intro l_2 hj
      have h15 := hj
      replace hm := h14
      refine ja (jh ?_)
      obtain ⟨t36, h22, hm⟩ := bindO hm
      refine qs h22 rfl rfl rfl (je rfl rfl (jv ?_))
      obtain rfl := sj hm
      refine ja ?_
      exact jA _ l_2 rfl (h15) (sE rfl) (fun w hh => hh)
    ·replace hm := ifE h12 hm
     refine jS (jl (jl (jG ?_)))
     obtain rfl := sj hm
     have hbo := h11 _ rfl
     subst hbo
     exact jg l_1 (h10) (sE rfl) (fun w hh => hh)
   ·intro l hj
    have h9 := hj
    replace hm := h8
    refine ja (jq (kD [_, _] 0 Tryz.isAgg30 Tryz.sizeOf30 rfl rfl rfl rfl (jy (us := #[_, _]) (cs' := [_, _]) (S' := [_, _, _, _]) 1 (fun w => Tryz.sizeOf30 w) rfl rfl rfl rfl rfl rfl rfl (jp (jw (jf ?_))))))
    obtain rfl := sj hm
    refine jm rfl (fun w hh => (.cell rfl (loadVar_agg (vs := [_, _]) (Tryz.isAgg30 _) (Tryz.sizeOf30 _) (hh.cells 1 rfl rfl)) .nil)) (fun w hh => ⟨l, rfl, h9, hh.se [] [0] 3 rfl rfl rfl rfl⟩)
  ·replace hm := ifE h6 hm
   refine ju (ja (jj (jq (je rfl rfl (jc rfl rfl rfl (fun _ _ => jN rfl) (jP 0 Tryz.runUnderlying144 rfl Tryz.sizeOf25 rfl rfl (jP 0 Tryz.runUnderlying25 rfl Tryz.sizeOf22 rfl rfl ?_)))))))
   refine jc rfl rfl rfl (fun w hh => jR (Tryz.isAgg22 w) rfl (segCell (hh.seg 0 rfl) 0 rfl)) (jc rfl rfl rfl (fun w _ => jI hna1 (Tryz.runUnderlying22 w) rfl) (je rfl rfl (jp (kC 3 ?_))))
   obtain ⟨o_2, h23, h24⟩ := bindO hm
   refine jF (ι := VL) (fun l_3 => VOK 1 l_3.n l_3.cap (RI.enc o_2) l_3.sp l_3.q) (fun l_3 => [(6, ptr b_2 0), (7, ptr b_3 0)]) (fun l_3 => [(b_3, .cells #[.bool (decide (w1.dst = 0)), slv l_3.q l_3.n l_3.cap] 30 (0, 0)), (b_2, .cells #[.bool false, slv none 0 0] 30 (0, 0)), (b_1, .cells (RB.enc met2).toArray 158 (0, 0)), (b, .cells #[.int .i64 w1.fr, .int .i64 w1.dst, .int .i64 w1.lo, .int .i64 w1.hi, .int .i64 w1.cost, .int .i64 w1.goes] 156 (0, 0))]) (fun l_3 => [⟨3, RI.enc o_2, l_3.sp, l_3.q, []⟩]) ?_ ?_
   ·replace hm := h23
    refine jn ?_
    refine jL (ι := VL) hm (fun s_1 l_4 => VOK 1 l_4.n l_4.cap (RI.enc s_1.out7_of_) l_4.sp l_4.q) (fun s_1 l_4 => [(5, ptr b_1 0), (6, ptr b_2 0), (7, ptr b_3 0), (43, .int .i64 (d00.length : Int)), (44, .int .i64 s_1.t44)]) (fun s_1 l_4 => [(b_3, .cells #[.bool (decide (w1.dst = 0)), slv l_4.q l_4.n l_4.cap] 30 (0, 0)), (b_2, .cells #[.bool false, slv none 0 0] 30 (0, 0)), (b_1, .cells (RB.enc met2).toArray 158 (0, 0)), (b, .cells #[.int .i64 w1.fr, .int .i64 w1.dst, .int .i64 w1.lo, .int .i64 w1.hi, .int .i64 w1.cost, .int .i64 w1.goes] 156 (0, 0))]) (fun s_1 l_4 => [⟨3, RI.enc s_1.out7_of_, l_4.sp, l_4.q, []⟩]) ⟨none, 0, 0, []⟩ (VOK.nil) (sE rfl) (fun w hh => hh) (fun s_1 l_4 r_1 hpl hm h27 => ?_)
    have h26 := hpl
    unfold zZ at hm
    refine jq (yY rfl rfl rfl (jp (jj ?_)))
    refine js rfl (fun h28 => ?_) (fun h28 => ?_)
    ·replace hm := ifD h28 hm
     refine ju (ja (jj ?_))
     obtain ⟨o_3, h29, h30⟩ := bindO hm
     refine jF (ι := VL) (fun l_5 => VOK 1 l_5.n l_5.cap (RI.enc o_3) l_5.sp l_5.q) (fun l_5 => [(5, ptr b_1 0), (6, ptr b_2 0), (7, ptr b_3 0), (43, .int .i64 (d00.length : Int)), (44, .int .i64 s_1.t44)]) (fun l_5 => [(b_3, .cells #[.bool (decide (w1.dst = 0)), slv l_5.q l_5.n l_5.cap] 30 (0, 0)), (b_2, .cells #[.bool false, slv none 0 0] 30 (0, 0)), (b_1, .cells (RB.enc met2).toArray 158 (0, 0)), (b, .cells #[.int .i64 w1.fr, .int .i64 w1.dst, .int .i64 w1.lo, .int .i64 w1.hi, .int .i64 w1.cost, .int .i64 w1.goes] 156 (0, 0))]) (fun l_5 => [⟨3, RI.enc o_3, l_5.sp, l_5.q, []⟩]) ?_ ?_
     ·replace hm := h29
      refine jn (jq (je rfl rfl (jk rfl rfl (j0 (je rfl rfl ?_)))))
      obtain ⟨t48, h32, hm⟩ := bindO hm
      refine qs h32 rfl rfl rfl ?_
      obtain ⟨t49, h33, hm⟩ := bindO hm
      refine jc rfl rfl rfl (fun w _ => KM h33 hl_met2 (Tryz.runUnderlying158 w) (Tryz.sizeOf4 w) rfl rfl) (jc rfl rfl rfl (fun w hh => kl RB 0 h33 (Tryz.isAgg4 w) rfl (hh.bsegA 2 rfl) rfl (Nat.add_zero _).symm) (jp ?_))
      refine js rfl (fun h34 => ?_) (fun h34 => ?_)
      ·replace hm := ifT (h34) hm
       refine jh (jP 1 Tryz.runUnderlying30 rfl Tryz.sizeOf26 rfl rfl (jY 0 Tryz.isAgg26 rfl rfl rfl rfl (je rfl rfl ?_)))
       refine kG RI [s_1.t44] (ps := [(0, _)]) (cells := [_]) (fun w => Tryz.runUnderlying26 w) (fun w => Tryz.sizeOf3 w) (fun w => Tryz.zeroValue3 w) rfl rfl rfl rfl rfl rfl rfl rfl (fun L_2 h35 => ?_)
       obtain ⟨t55, h36, hm⟩ := bindO hm
       refine yh RI 1 h36 Tryz.underlying26 JM rfl rfl rfl rfl rfl h26 rfl rfl (vlen RI h35 rfl) (AOK.q (vne h35)) (fun w hh => (hh.vsegA 0 rfl h35)) rfl (fun L_3 h37 h37n => ?_)
       refine jT (S' := [_, _, _, _]) (vs' := [_, _]) [0, 1, 2, 3] [0, 1] 0 rfl rfl rfl rfl (jP 1 Tryz.runUnderlying30 rfl Tryz.sizeOf26 rfl rfl (kY (cs' := #[_, _]) (S' := [_, _, _, _]) 0 (fun w => Tryz.sizeOf26 w) rfl rfl rfl rfl rfl rfl rfl (jv (jt ?_))))
       obtain rfl := sj hm
       exact jg L_3 (h37) (sE rfl) (hsE [0, 1, 2, 3] [1] 0 rfl rfl rfl rfl)
      ·replace hm := ifN h34 hm
       refine ju (jt ?_)
       obtain rfl := sj hm
       exact jg l_4 (h26) (sE rfl) (fun w hh => hh)
     ·intro l_5 hj
      have h31 := hj
      replace hm := h30
      refine ja (jh ?_)
      obtain ⟨t57, h38, hm⟩ := bindO hm
      refine qs h38 rfl rfl rfl (je rfl rfl (jv ?_))
      obtain rfl := sj hm
      refine ja ?_
      exact jA _ l_5 rfl (h31) (sE rfl) (fun w hh => hh)
    ·replace hm := ifE h28 hm
     refine jS (jl (jl (jG ?_)))
     obtain rfl := sj hm
     have hbo := h27 _ rfl
     subst hbo
     exact jg l_4 (h26) (sE rfl) (fun w hh => hh)
   ·intro l_3 hj
    have h25 := hj
    replace hm := h24
    refine ja (jq (kD [_, _] 0 Tryz.isAgg30 Tryz.sizeOf30 rfl rfl rfl rfl (jy (us := #[_, _]) (cs' := [_, _]) (S' := [_, _, _, _]) 1 (fun w => Tryz.sizeOf30 w) rfl rfl rfl rfl rfl rfl rfl (jp (jw ?_)))))
    obtain rfl := sj hm
    refine jm rfl (fun w hh => (.cell rfl (loadVar_agg (vs := [_, _]) (Tryz.isAgg30 _) (Tryz.sizeOf30 _) (hh.cells 1 rfl rfl)) .nil)) (fun w hh => ⟨l_3, rfl, h25, hh.se [] [0] 3 rfl rfl rfl rfl⟩)
structure zH where
  most2 : Int
  t16 : Int
def qO (l1 : (List Change)) (n00 : (List Wy)) (s : zH) : Option (zH ⊕ Int) :=
 if s.t16 < (l1.length : Int) then
 ((ix l1 s.t16).bind fun t18 =>
 (qG n00 t18).bind fun t23 =>
 (Js s.most2 [t23.r3]).bind fun t31 =>
 (addc s.t16 1).bind fun t32 =>
 some (.inl (⟨t31, t32⟩ : zH))) else
 (some (.inr s.most2))
structure zK where
  t35 : Int
  n00 : (List Wy)
def qN (l1 : (List Change)) (o : Int) (s_1 : zK) : Option (zK ⊕ (List Wy)) :=
 if s_1.t35 < (l1.length : Int) then
 (((ix l1 s_1.t35).bind fun t37 =>
 if t37.more = true then
 ((ix s_1.n00 t37.way).bind fun t47 =>
 (addc t47.goes o).bind fun t51 =>
 (ix s_1.n00 t37.way).bind fun t52 =>
 (some (s_1.n00.set (Int.toNat t37.way) (⟨t52.fr, t52.dst, t52.lo, t52.hi, t52.cost, t51⟩ : Wy))).bind fun n00_1 =>
 some n00_1) else
 ((ix s_1.n00 t37.way).bind fun t60 =>
 (subc t60.goes o).bind fun t64 =>
 (ix s_1.n00 t37.way).bind fun t65 =>
 (some (s_1.n00.set (Int.toNat t37.way) (⟨t65.fr, t65.dst, t65.lo, t65.hi, t65.cost, t64⟩ : Wy))).bind fun n00_2 =>
 some n00_2)).bind fun o_2 =>
 (addc s_1.t35 1).bind fun t67 =>
 some (.inl (⟨t67, o_2⟩ : zK))) else
 (some (.inr s_1.n00))
def zF (n00 : (List Wy)) (l1 : (List Change)) (most2 : Int) : Option (List Wy) :=
 (iterM FU (qO l1 n00) (⟨most2, 0⟩ : zH)).bind fun o =>
 (iterM FU (qN l1 o) (⟨0, n00⟩ : zK)).bind fun o_1 =>
 some o_1
theorem Yt (n00 : (List Wy)) (l1 : (List Change)) (most2 : Int) (rb : Nat) (V_n00 : VL) (qa1 : Option Addr) (na1 ca1 : Nat) (w : World) (hw : HV w (keys [] [⟨156, RWay.enc n00, V_n00.sp, V_n00.q, []⟩]) [] [⟨156, RWay.enc n00, V_n00.sp, V_n00.q, []⟩] [(rb, 0, [slv V_n00.q V_n00.n V_n00.cap]), (aB qa1, aO qa1, RCh.enc l1)] w)  (hv_n00 : VOK 6 V_n00.n V_n00.cap (RWay.enc n00) V_n00.sp V_n00.q) (hna1 : l1.length = na1) (hqa1 : AOK na1 qa1) (hla1 : na1 ≤ ca1) {res : (List Wy)} (hm : zF n00 l1 most2 = some res) :
    Calls Tryz.prog 106 #[ptr rb 0, .slice qa1 na1 ca1, .int .i64 most2] w (fun en w' => ∃ l : Unit, en = .returned (.tuple #[]) ∧ (VOK 6 V_n00.n V_n00.cap (RWay.enc res) V_n00.sp V_n00.q) ∧ HV w (keys [] [⟨156, RWay.enc n00, V_n00.sp, V_n00.q, []⟩]) [] [⟨156, RWay.enc res, V_n00.sp, V_n00.q, []⟩] [] w') := by
  unfold zF at hm
  refine j5 Tryz.func106 rfl Tryz.ntmps106 rfl (e := [(0, _), (1, _), (2, _)]) rfl hw (jj (jq (je rfl rfl (jc rfl rfl rfl (fun w _ => jI hna1 (Tryz.runUnderlying157 w) rfl) (je rfl rfl (jp ?_))))))
  obtain ⟨o, h2, h3⟩ := bindO hm
  refine jF (ι := Unit) (fun l => True) (fun l => [(0, ptr rb 0), (1, .slice qa1 na1 ca1), (2, .int .i64 o)]) (fun l => []) (fun l => [⟨156, RWay.enc n00, V_n00.sp, V_n00.q, []⟩]) ?_ ?_
  ·replace hm := h2
   refine jn ?_
   refine jL (ι := Unit) hm (fun s l_1 => True) (fun s l_1 => [(0, ptr rb 0), (1, .slice qa1 na1 ca1), (2, .int .i64 s.most2), (14, .slice qa1 na1 ca1), (15, .int .i64 (l1.length : Int)), (16, .int .i64 s.t16)]) (fun s l_1 => []) (fun s l_1 => [⟨156, RWay.enc n00, V_n00.sp, V_n00.q, []⟩]) () (trivial) (sE rfl) (fun w hh => hh) (fun s l_1 r hpl hm h4 => ?_)
   unfold qO at hm
   refine jq (yY rfl rfl rfl (jp (jj ?_)))
   refine js rfl (fun h5 => ?_) (fun h5 => ?_)
   ·replace hm := ifD h5 hm
    refine ju (ja (jj (jn (jq ?_))))
    obtain ⟨t18, h6, hm⟩ := bindO hm
    refine jc rfl rfl rfl (fun w _ => ki h6 (Tryz.runUnderlying157 w) (Tryz.sizeOf164 w) rfl rfl hna1 hqa1) ?_
    refine jc rfl rfl rfl (fun w hh => kt RCh 0 [.int .i64 t18.way, .bool t18.more] h6 (Tryz.isAgg164 w) (Tryz.sizeOf164 w) rfl (hh.seg 1 rfl) rfl (Nat.add_zero _).symm) ?_
    refine jo (fun w => Tryz.zeroValue164 w) rfl (fun b h7 => ?_)
    refine jy (us := #[_, _]) (cs' := [_, _]) (S' := [_]) 0 (fun w => Tryz.sizeOf164 w) rfl rfl rfl rfl rfl rfl rfl (j0 (je rfl rfl (kD [_, _] 0 Tryz.isAgg164 Tryz.sizeOf164 rfl rfl rfl rfl ?_)))
    obtain ⟨t23, h8, hm⟩ := bindO hm
    refine jd [] [] rfl rfl rfl rfl rfl rfl rfl Tryz.call130 (fun w hh => Kl n00 t18 rb (qA V_n00.q) V_n00.n V_n00.cap w (HV.callee (S0 := []) (vs0 := []) hh (roR hh 0 rfl (roC (hh.vsepA 0 rfl hv_n00) roN))) (vlen RWay hv_n00 rfl) (AOK.q (vne hv_n00)) (hv_n00).hle h8) (fun l_2 h9 => ?_)
    refine je rfl rfl (kp rfl rfl rfl (kp rfl rfl rfl (kp rfl rfl rfl (kp rfl rfl rfl (jk rfl rfl (jk rfl rfl (jk rfl rfl ?_)))))))
    refine jk rfl rfl (jp (jh (je rfl rfl (je rfl rfl ?_))))
    refine kG RI [t23.r3] (ps := [(0, _)]) (cells := [_]) (fun w => Tryz.runUnderlying26 w) (fun w => Tryz.sizeOf3 w) (fun w => Tryz.zeroValue3 w) rfl rfl rfl rfl rfl rfl rfl rfl (fun L h10 => ?_)
    obtain ⟨t31, h11, hm⟩ := bindO hm
    refine jd [] [] rfl rfl rfl rfl rfl rfl rfl Tryz.call74 (fun w hh => KT s.most2 [t23.r3] (qA L.q) L.n L.cap w (HV.callee (S0 := []) (vs0 := []) hh (roC (hh.vsepA 0 rfl h10) roN)) (vlen RI h10 rfl) (AOK.q (vne h10)) (h10).hle h11) (fun l_3 h12 => ?_)
    refine jk rfl rfl (jv (jt (ja (jh ?_))))
    obtain ⟨t32, h13, hm⟩ := bindO hm
    refine qs h13 rfl rfl rfl (je rfl rfl (jv ?_))
    obtain rfl := sj hm
    refine ja ?_
    exact jA _ () rfl (trivial) (sE rfl) (hsE [] [1] 0 rfl rfl rfl rfl)
   ·replace hm := ifE h5 hm
    refine jS (jl (jl (jG ?_)))
    obtain rfl := sj hm
    have hbo := h4 _ rfl
    subst hbo
    exact jg () (trivial) (sE rfl) (fun w hh => hh)
  ·intro l hj
   replace hm := h3
   refine ja (jq (je rfl rfl (jc rfl rfl rfl (fun w _ => jI hna1 (Tryz.runUnderlying157 w) rfl) (je rfl rfl (jp ?_)))))
   obtain ⟨o_1, h14, h15⟩ := bindO hm
   refine jF (ι := Unit) (fun l_4 => VOK 6 V_n00.n V_n00.cap (RWay.enc o_1) V_n00.sp V_n00.q) (fun l_4 => []) (fun l_4 => []) (fun l_4 => [⟨156, RWay.enc o_1, V_n00.sp, V_n00.q, []⟩]) ?_ ?_
   ·replace hm := h14
    refine jn ?_
    refine jL (ι := Unit) hm (fun s_1 l_5 => VOK 6 V_n00.n V_n00.cap (RWay.enc s_1.n00) V_n00.sp V_n00.q) (fun s_1 l_5 => [(0, ptr rb 0), (2, .int .i64 o), (33, .slice qa1 na1 ca1), (34, .int .i64 (l1.length : Int)), (35, .int .i64 s_1.t35)]) (fun s_1 l_5 => []) (fun s_1 l_5 => [⟨156, RWay.enc s_1.n00, V_n00.sp, V_n00.q, []⟩]) () (hv_n00) (sE rfl) (fun w hh => hh) (fun s_1 l_5 r_1 hpl hm h18 => ?_)
    have h17 := hpl
    unfold qN at hm
    refine jq (yY rfl rfl rfl (jp (jj ?_)))
    refine js rfl (fun h19 => ?_) (fun h19 => ?_)
    ·replace hm := ifD h19 hm
     refine ju (ja (jj ?_))
     obtain ⟨o_2, h20, h21⟩ := bindO hm
     refine jF (ι := Unit) (fun l_6 => VOK 6 V_n00.n V_n00.cap (RWay.enc o_2) V_n00.sp V_n00.q) (fun l_6 => [(0, ptr rb 0), (2, .int .i64 o), (33, .slice qa1 na1 ca1), (34, .int .i64 (l1.length : Int)), (35, .int .i64 s_1.t35)]) (fun l_6 => []) (fun l_6 => [⟨156, RWay.enc o_2, V_n00.sp, V_n00.q, []⟩]) ?_ ?_
     ·replace hm := h20
      refine jn (jq ?_)
      obtain ⟨t37, h23, hm⟩ := bindO hm
      refine jc rfl rfl rfl (fun w _ => ki h23 (Tryz.runUnderlying157 w) (Tryz.sizeOf164 w) rfl rfl hna1 hqa1) ?_
      refine jc rfl rfl rfl (fun w hh => kt RCh 0 [.int .i64 t37.way, .bool t37.more] h23 (Tryz.isAgg164 w) (Tryz.sizeOf164 w) rfl (hh.seg 1 rfl) rfl (Nat.add_zero _).symm) ?_
      refine jo (fun w => Tryz.zeroValue164 w) rfl (fun b_1 h24 => ?_)
      refine jy (us := #[_, _]) (cs' := [_, _]) (S' := [_]) 0 (fun w => Tryz.sizeOf164 w) rfl rfl rfl rfl rfl rfl rfl (j0 (jP 1 Tryz.runUnderlying164 rfl Tryz.sizeOf4 rfl rfl (jY 0 Tryz.isAgg4 rfl rfl rfl rfl (jp ?_))))
      refine js rfl (fun h25 => ?_) (fun h25 => ?_)
      ·replace hm := ifT (h25) hm
       refine jX (some 13) (.free 0 (.free 1 (.free 2 (.hoist 3 (.free 4 (.hoist 5 (.free 6 (.free 7 (.hoist 8 (.free 9 (.free 10 (.free 11 (.free 12 (.last 13 .done)))))))))))))) _ rfl (by decide +kernel) (fun w k hh => hh.draw k) (fun w hh => hh) ?_
       refine ku rfl rfl rfl (ji rfl rfl rfl rfl (fun _ _ => jN rfl) (k5 0 Tryz.runUnderlying154 Tryz.sizeOf152 rfl rfl rfl rfl (jD rfl rfl rfl rfl (fun w hh => jR (Tryz.isAgg152 w) rfl (segCell (hh.seg 0 rfl) 0 rfl)) (k5 0 Tryz.runUnderlying164 Tryz.sizeOf3 rfl rfl rfl rfl (qY 0 Tryz.isAgg3 rfl rfl rfl rfl rfl ?_)))))
       obtain ⟨t47, h26, hm⟩ := bindO hm
       refine ji rfl rfl rfl rfl (fun w _ => qx h26 (Tryz.runUnderlying152 w) (Tryz.sizeOf156 w) rfl rfl (vlen RWay h17 rfl) (vne h17)) (k5 5 Tryz.runUnderlying156 Tryz.sizeOf3 rfl rfl rfl rfl (jD rfl rfl rfl rfl (fun w hh => kl RWay 5 h26 (Tryz.isAgg3 w) rfl (hh.vseg 0 rfl h17) rfl rfl) (ku rfl rfl rfl ?_)))
       obtain ⟨t51, h27, hm⟩ := bindO hm
       refine ji rfl rfl rfl rfl (fun _ _ => KV h27 rfl rfl) ?_
       obtain ⟨t52, h28, hm⟩ := bindO hm
       refine ji rfl rfl rfl rfl (fun w _ => qx h28 (Tryz.runUnderlying152 w) (Tryz.sizeOf156 w) rfl rfl (vlen RWay h17 rfl) (vne h17)) (k5 5 Tryz.runUnderlying156 Tryz.sizeOf3 rfl rfl rfl rfl (Q2 rfl ?_))
       obtain ⟨n00_1, hn00_1, hm⟩ := bindO hm
       refine KO RWay 0 5 (⟨t52.fr, t52.dst, t52.lo, t52.hi, t52.cost, t51⟩ : Wy) (fun w => Tryz.sizeOf3 w) rfl rfl rfl rfl h17 rfl rfl rfl h28 rfl rfl (Option.some.inj hn00_1) (fun h29 => ?_)
       refine jT (S' := [_]) (vs' := [_]) [0] [0] 0 rfl rfl rfl rfl (K0 (jM (jt ?_)))
       obtain rfl := sj hm
       exact jg () (h29) (sE rfl) (hsE [] [0] 0 rfl rfl rfl rfl)
      ·replace hm := ifN h25 hm
       refine jX (some 13) (.free 0 (.free 1 (.free 2 (.hoist 3 (.free 4 (.hoist 5 (.free 6 (.free 7 (.hoist 8 (.free 9 (.free 10 (.free 11 (.free 12 (.last 13 .done)))))))))))))) _ rfl (by decide +kernel) (fun w k hh => hh.draw k) (fun w hh => hh) ?_
       refine ku rfl rfl rfl (ji rfl rfl rfl rfl (fun _ _ => jN rfl) (k5 0 Tryz.runUnderlying154 Tryz.sizeOf152 rfl rfl rfl rfl (jD rfl rfl rfl rfl (fun w hh => jR (Tryz.isAgg152 w) rfl (segCell (hh.seg 0 rfl) 0 rfl)) (k5 0 Tryz.runUnderlying164 Tryz.sizeOf3 rfl rfl rfl rfl (qY 0 Tryz.isAgg3 rfl rfl rfl rfl rfl ?_)))))
       obtain ⟨t60, h30, hm⟩ := bindO hm
       refine ji rfl rfl rfl rfl (fun w _ => qx h30 (Tryz.runUnderlying152 w) (Tryz.sizeOf156 w) rfl rfl (vlen RWay h17 rfl) (vne h17)) (k5 5 Tryz.runUnderlying156 Tryz.sizeOf3 rfl rfl rfl rfl (jD rfl rfl rfl rfl (fun w hh => kl RWay 5 h30 (Tryz.isAgg3 w) rfl (hh.vseg 0 rfl h17) rfl rfl) (ku rfl rfl rfl ?_)))
       obtain ⟨t64, h31, hm⟩ := bindO hm
       refine ji rfl rfl rfl rfl (fun _ _ => yb h31 rfl rfl) ?_
       obtain ⟨t65, h32, hm⟩ := bindO hm
       refine ji rfl rfl rfl rfl (fun w _ => qx h32 (Tryz.runUnderlying152 w) (Tryz.sizeOf156 w) rfl rfl (vlen RWay h17 rfl) (vne h17)) (k5 5 Tryz.runUnderlying156 Tryz.sizeOf3 rfl rfl rfl rfl (Q2 rfl ?_))
       obtain ⟨n00_2, hn00_2, hm⟩ := bindO hm
       refine KO RWay 0 5 (⟨t65.fr, t65.dst, t65.lo, t65.hi, t65.cost, t64⟩ : Wy) (fun w => Tryz.sizeOf3 w) rfl rfl rfl rfl h17 rfl rfl rfl h32 rfl rfl (Option.some.inj hn00_2) (fun h33 => ?_)
       refine jT (S' := [_]) (vs' := [_]) [0] [0] 0 rfl rfl rfl rfl (K0 (jM (jt ?_)))
       obtain rfl := sj hm
       exact jg () (h33) (sE rfl) (hsE [] [0] 0 rfl rfl rfl rfl)
     ·intro l_6 hj
      have h22 := hj
      replace hm := h21
      refine ja (jh ?_)
      obtain ⟨t67, h34, hm⟩ := bindO hm
      refine qs h34 rfl rfl rfl (je rfl rfl (jv ?_))
      obtain rfl := sj hm
      refine ja ?_
      exact jA _ () rfl (h22) (sE rfl) (fun w hh => hh)
    ·replace hm := ifE h19 hm
     refine jS (jl (jl (jG ?_)))
     obtain rfl := sj hm
     have hbo := h18 _ rfl
     subst hbo
     exact jg () (h17) (.nil) (fun w hh => hh)
   ·intro l_4 hj
    have h16 := hj
    replace hm := h15
    obtain rfl := sj hm
    refine JX rfl (fun w hh => .nil) (fun w hh => ⟨(), rfl, h16, hh.se [] [0] 2 rfl rfl rfl rfl⟩)
structure q4 where
  a55_0 : (List Int)
  a66_0 : (List Change)
  a77 : Int
def kT (c0 : Change) (a1 : Int) (b2 : Int) (cost3 : Int) (room4 : Int) (a550 : (List Int)) (a660 : (List Change)) (a77 : Int) : Option q4 :=
 (ix a550 a1).bind fun t14 =>
 (addc t14 cost3).bind fun t17 =>
 (ix a550 b2).bind fun t19 =>
 if t17 < t19 then
 ((ix a550 a1).bind fun t25 =>
 (addc t25 cost3).bind fun t28 =>
 (ix a550 b2).bind fun t31 =>
 (some (a550.set (Int.toNat b2) t28)).bind fun a55 =>
 (ix a660 b2).bind fun t32 =>
 (some (a660.set (Int.toNat b2) c0)).bind fun a66 =>
 some (⟨a55, a66, b2⟩ : q4)) else
 (some (⟨a550, a660, a77⟩ : q4))
theorem Yc (c0 : Change) (a1 : Int) (b2 : Int) (cost3 : Int) (room4 : Int) (a550 : (List Int)) (a660 : (List Change)) (a77 : Int) (pb : Nat) (pb_1 : Nat) (pb_2 : Nat) (w : World) (hw : HV w (keys [(pb, .cells (RI.enc a550).toArray 118 (0, 0)), (pb_1, .cells (RCh.enc a660).toArray 171 (0, 0)), (pb_2, .cells #[.int .i64 a77] 3 (0, 0))] []) [(pb, .cells (RI.enc a550).toArray 118 (0, 0)), (pb_1, .cells (RCh.enc a660).toArray 171 (0, 0)), (pb_2, .cells #[.int .i64 a77] 3 (0, 0))] [] [] w) (hl_a550 : a550.length = 12) (hl_a660 : a660.length = 12) {res : q4} (hm : kT c0 a1 b2 cost3 room4 a550 a660 a77 = some res) :
    Calls Tryz.prog 131 #[.agg #[.int .i64 c0.way, .bool c0.more], .int .i64 a1, .int .i64 b2, .int .i64 cost3, .int .i64 room4, ptr pb 0, ptr pb_1 0, ptr pb_2 0] w (fun en w' => ∃ l : Unit, en = .returned (.tuple #[]) ∧ (res.a55_0.length = 12 ∧ res.a66_0.length = 12) ∧ HV w (keys [(pb, .cells (RI.enc a550).toArray 118 (0, 0)), (pb_1, .cells (RCh.enc a660).toArray 171 (0, 0)), (pb_2, .cells #[.int .i64 a77] 3 (0, 0))] []) [(pb, .cells (RI.enc res.a55_0).toArray 118 (0, 0)), (pb_1, .cells (RCh.enc res.a66_0).toArray 171 (0, 0)), (pb_2, .cells #[.int .i64 res.a77] 3 (0, 0))] [] [] w') := by
  unfold kT at hm
  refine j5 Tryz.func131 rfl Tryz.ntmps131 rfl (e := [(0, _), (1, _), (2, _), (3, _), (4, _), (5, _), (6, _), (7, _)]) rfl hw (jq ?_)
  refine jC rfl rfl (fun b h3 => ?_)
  refine jp (jj ?_)
  refine jX none (.free 0 (.free 1 (.hoist 2 (.free 3 (.free 4 (.free 5 (.free 6 (.hoist 7 (.free 8 .done))))))))) _ rfl (by decide +kernel) (fun w k hh => hh.draw k) (fun w hh => hh) ?_
  refine ku rfl rfl rfl ?_
  obtain ⟨t14, h4, hm⟩ := bindO hm
  refine ji rfl rfl rfl rfl (fun w _ => KM h4 hl_a550 (Tryz.runUnderlying118 w) (Tryz.sizeOf3 w) rfl rfl) (jD rfl rfl rfl rfl (fun w hh => kl RI 0 h4 (Tryz.isAgg3 w) rfl (hh.bsegA 1 rfl) rfl (Nat.add_zero _).symm) (ku rfl rfl rfl ?_))
  obtain ⟨t17, h5, hm⟩ := bindO hm
  refine ji rfl rfl rfl rfl (fun _ _ => KV h5 rfl rfl) (ku rfl rfl rfl ?_)
  obtain ⟨t19, h6, hm⟩ := bindO hm
  refine ji rfl rfl rfl rfl (fun w _ => KM h6 hl_a550 (Tryz.runUnderlying118 w) (Tryz.sizeOf3 w) rfl rfl) (jD rfl rfl rfl rfl (fun w hh => kl RI 0 h6 (Tryz.isAgg3 w) rfl (hh.bsegA 1 rfl) rfl (Nat.add_zero _).symm) (ji rfl rfl rfl rfl (fun _ _ => YE rfl rfl) (jM (ja ?_))))
  refine js rfl (fun h7 => ?_) (fun h7 => ?_)
  ·replace hm := ifD h7 hm
   refine jX none (.free 0 (.free 1 (.free 2 (.free 3 (.free 5 (.hoist 7 (.free 8 (.one 4 (.free 6 (.free 9 (.one 10 (.free 11 (.one 12 (.one 13 .done)))))))))))))) (HV _ _ [(b, .cells #[.int .i64 c0.way, .bool c0.more] 164 (0, 0))] [] _) rfl (by decide +kernel) (fun w k hh => hh.draw k) (hsE [0] [] 0 rfl rfl rfl rfl) ?_
   refine ku rfl rfl rfl (ku rfl rfl rfl (ku rfl rfl rfl ?_))
   obtain ⟨t25, h8, hm⟩ := bindO hm
   refine ji rfl rfl rfl rfl (fun w _ => KM h8 hl_a550 (Tryz.runUnderlying118 w) (Tryz.sizeOf3 w) rfl rfl) (ku rfl rfl rfl (jD rfl rfl rfl rfl (fun w hh => j1 (vs := [_, _]) (Tryz.isAgg164 w) (Tryz.sizeOf164 w) rfl (hh.cells 0 rfl rfl)) (ku rfl rfl rfl (jE rfl (jc rfl rfl rfl (fun w hh => kl RI 0 h8 (Tryz.isAgg3 w) rfl (hh.bsegA 1 rfl) rfl (Nat.add_zero _).symm) (jr (hsE [0] [] 0 rfl rfl rfl rfl) ?_))))))
   obtain ⟨t28, h9, hm⟩ := bindO hm
   refine ji rfl rfl rfl rfl (fun _ _ => KV h9 rfl rfl) ?_
   obtain ⟨t31, h10, hm⟩ := bindO hm
   refine ji rfl rfl rfl rfl (fun w _ => KM h10 hl_a550 (Tryz.runUnderlying118 w) (Tryz.sizeOf3 w) rfl rfl) (jE rfl ?_)
   obtain ⟨a55, ha55, hm⟩ := bindO hm
   refine ja3 RI 1 0 t28 (S' := [_, _, _, _]) (fun w => Tryz.sizeOf3 w) rfl rfl rfl rfl hl_a550 (Nat.add_zero _).symm rfl h10 rfl rfl (Option.some.inj ha55) rfl (fun h11 => ?_)
   refine jr (hsE [0] [] 0 rfl rfl rfl rfl) ?_
   obtain ⟨t32, h12, hm⟩ := bindO hm
   refine ji rfl rfl rfl rfl (fun w _ => KM h12 hl_a660 (Tryz.runUnderlying171 w) (Tryz.sizeOf164 w) rfl rfl) (jE rfl ?_)
   obtain ⟨a66, ha66, hm⟩ := bindO hm
   refine jaJ (us := #[_, _]) RCh 2 c0 (S' := [_, _, _, _]) (fun w => Tryz.sizeOf164 w) rfl rfl rfl hl_a660 rfl rfl h12 rfl (Option.some.inj ha66) rfl (fun h13 => ?_)
   refine jr (hsE [0] [] 0 rfl rfl rfl rfl) (jE rfl (kY (cs' := #[_]) (S' := [_, _, _, _]) 3 (fun w => Tryz.sizeOf3 w) rfl rfl rfl rfl rfl rfl rfl (jr (hsE [0] [] 0 rfl rfl rfl rfl) (jM ?_))))
   obtain rfl := sj hm
   refine JX rfl (fun w hh => .nil) (fun w hh => ⟨(), rfl, ⟨h11, h13⟩, hh.se [1, 2, 3] [] 0 rfl rfl rfl rfl⟩)
  ·replace hm := ifE h7 hm
   refine ju ?_
   obtain rfl := sj hm
   refine JX rfl (fun w hh => .nil) (fun w hh => ⟨(), rfl, ⟨hl_a550, hl_a660⟩, hh.se [1, 2, 3] [] 0 rfl rfl rfl rfl⟩)
structure Jc where
  f1_c0_0 : (List Int)
  f1_c1_0 : (List Change)
  f1_c2 : Int
structure Km where
  f1_c0_0 : (List Int)
  f1_c1_0 : (List Change)
  f1_c2 : Int
structure qj where
  t17 : Int
  f1_c0_0 : (List Int)
  f1_c1_0 : (List Change)
  f1_c2 : Int
structure Kc where
  f1_c0_0 : (List Int)
  f1_c1_0 : (List Change)
  f1_c2 : Int
structure yl where
  t22 : Int
  f1_c0_0 : (List Int)
  f1_c1_0 : (List Change)
  f1_c2 : Int
structure qo where
  f1_c0_0 : (List Int)
  f1_c1_0 : (List Change)
  f1_c2 : Int
def j6 (n00 : (List Wy)) (s : qj) (s_1 : yl) : Option (yl ⊕ Kc) :=
 if s_1.t22 < ([true, false].length : Int) then
 (((ix [true, false] s_1.t22).bind fun t24 =>
 (qG n00 (⟨s.t17, t24⟩ : Change)).bind fun t32 =>
 if 0 < t32.r3 then
 ((kT (⟨s.t17, t24⟩ : Change) t32.r0 t32.r1 t32.r2 t32.r3 s_1.f1_c0_0 s_1.f1_c1_0 s_1.f1_c2).bind fun t45 =>
 some (⟨t45.a55_0, t45.a66_0, t45.a77⟩ : qo)) else
 (some (⟨s_1.f1_c0_0, s_1.f1_c1_0, s_1.f1_c2⟩ : qo))).bind fun o_2 =>
 (addc s_1.t22 1).bind fun t46 =>
 some (.inl (⟨t46, o_2.f1_c0_0, o_2.f1_c1_0, o_2.f1_c2⟩ : yl))) else
 (some (.inr (⟨s_1.f1_c0_0, s_1.f1_c1_0, s_1.f1_c2⟩ : Kc)))
def ql (n00 : (List Wy)) (s : qj) : Option (qj ⊕ Km) :=
 if s.t17 < (n00.length : Int) then
 ((iterM FU (j6 n00 s) (⟨0, s.f1_c0_0, s.f1_c1_0, s.f1_c2⟩ : yl)).bind fun o_1 =>
 (addc s.t17 1).bind fun t47 =>
 some (.inl (⟨t47, o_1.f1_c0_0, o_1.f1_c1_0, o_1.f1_c2⟩ : qj))) else
 (some (.inr (⟨s.f1_c0_0, s.f1_c1_0, s.f1_c2⟩ : Km)))
def yK (n00 : (List Wy)) (f1_c00 : (List Int)) (f1_c10 : (List Change)) (f1_c2 : Int) : Option Jc :=
 (iterM FU (ql n00) (⟨0, f1_c00, f1_c10, f1_c2⟩ : qj)).bind fun o =>
 some (⟨o.f1_c0_0, o.f1_c1_0, o.f1_c2⟩ : Jc)
theorem YI (n00 : (List Wy)) (f1_c00 : (List Int)) (f1_c10 : (List Change)) (f1_c2 : Int) (rb : Nat) (qa1 : Option Addr) (na1 ca1 : Nat) (pb : Nat) (pb_1 : Nat) (pb_2 : Nat) (w : World) (hw : HV w (keys [(pb, .cells (RI.enc f1_c00).toArray 118 (0, 0)), (pb_1, .cells (RCh.enc f1_c10).toArray 171 (0, 0)), (pb_2, .cells #[.int .i64 f1_c2] 3 (0, 0))] []) [(pb, .cells (RI.enc f1_c00).toArray 118 (0, 0)), (pb_1, .cells (RCh.enc f1_c10).toArray 171 (0, 0)), (pb_2, .cells #[.int .i64 f1_c2] 3 (0, 0))] [] [(rb, 0, [.slice qa1 na1 ca1]), (aB qa1, aO qa1, RWay.enc n00)] w)  (hna1 : n00.length = na1) (hqa1 : AOK na1 qa1) (hla1 : na1 ≤ ca1) (hl_f1_c00 : f1_c00.length = 12) (hl_f1_c10 : f1_c10.length = 12) {res : Jc} (hm : yK n00 f1_c00 f1_c10 f1_c2 = some res) :
    Calls Tryz.prog 108 #[ptr rb 0, .func (.func 131) #[] #[ptr pb 0, ptr pb_1 0, ptr pb_2 0]] w (fun en w' => ∃ l : Unit, en = .returned (.tuple #[]) ∧ (res.f1_c0_0.length = 12 ∧ res.f1_c1_0.length = 12) ∧ HV w (keys [(pb, .cells (RI.enc f1_c00).toArray 118 (0, 0)), (pb_1, .cells (RCh.enc f1_c10).toArray 171 (0, 0)), (pb_2, .cells #[.int .i64 f1_c2] 3 (0, 0))] []) [(pb, .cells (RI.enc res.f1_c0_0).toArray 118 (0, 0)), (pb_1, .cells (RCh.enc res.f1_c1_0).toArray 171 (0, 0)), (pb_2, .cells #[.int .i64 res.f1_c2] 3 (0, 0))] [] [] w') := by
  unfold yK at hm
  refine j5 Tryz.func108 rfl Tryz.ntmps108 rfl (e := [(0, _), (1, _)]) rfl hw (jq (je rfl rfl (jc rfl rfl rfl (fun _ _ => jN rfl) (jP 0 Tryz.runUnderlying154 rfl Tryz.sizeOf152 rfl rfl (jc rfl rfl rfl (fun w hh => jR (Tryz.isAgg152 w) rfl (segCell (hh.seg 0 rfl) 0 rfl)) (jc rfl rfl rfl (fun w _ => jI hna1 (Tryz.runUnderlying152 w) rfl) (je rfl rfl ?_)))))))
  refine jp ?_
  obtain ⟨o, h3, h4⟩ := bindO hm
  refine jF (ι := Unit) (fun l => o.f1_c0_0.length = 12 ∧ o.f1_c1_0.length = 12) (fun l => []) (fun l => [(pb, .cells (RI.enc o.f1_c0_0).toArray 118 (0, 0)), (pb_1, .cells (RCh.enc o.f1_c1_0).toArray 171 (0, 0)), (pb_2, .cells #[.int .i64 o.f1_c2] 3 (0, 0))]) (fun l => []) ?_ ?_
  ·replace hm := h3
   refine jn ?_
   refine jL (ι := Unit) hm (fun s l_1 => s.f1_c0_0.length = 12 ∧ s.f1_c1_0.length = 12) (fun s l_1 => [(0, ptr rb 0), (1, .func (.func 131) #[] #[ptr pb 0, ptr pb_1 0, ptr pb_2 0]), (16, .int .i64 (n00.length : Int)), (17, .int .i64 s.t17)]) (fun s l_1 => [(pb, .cells (RI.enc s.f1_c0_0).toArray 118 (0, 0)), (pb_1, .cells (RCh.enc s.f1_c1_0).toArray 171 (0, 0)), (pb_2, .cells #[.int .i64 s.f1_c2] 3 (0, 0))]) (fun s l_1 => []) () (⟨hl_f1_c00, hl_f1_c10⟩) (sE rfl) (fun w hh => hh) (fun s l_1 r hpl hm h9 => ?_)
   obtain ⟨h7, h8⟩ := hpl
   unfold ql at hm
   refine jq (yY rfl rfl rfl (jp (jj ?_)))
   refine js rfl (fun h10 => ?_) (fun h10 => ?_)
   ·replace hm := ifD h10 hm
    refine ju (ja (jj (jn (jq (je rfl rfl (jk rfl rfl (j0 ?_)))))))
    refine kG RB [true, false] (ps := [(0, _), (1, _)]) (cells := [_, _]) (fun w => Tryz.runUnderlying93 w) (fun w => Tryz.sizeOf4 w) (fun w => Tryz.zeroValue4 w) rfl rfl rfl rfl rfl rfl rfl rfl (fun L h11 => ?_)
    refine jc rfl rfl rfl (fun w _ => Q1 (vlen RB h11 rfl) (Tryz.runUnderlying93 w) rfl) (je rfl rfl (jp ?_))
    obtain ⟨o_1, h12, h13⟩ := bindO hm
    refine jF (ι := Unit) (fun l_2 => o_1.f1_c0_0.length = 12 ∧ o_1.f1_c1_0.length = 12) (fun l_2 => [(0, ptr rb 0), (1, .func (.func 131) #[] #[ptr pb 0, ptr pb_1 0, ptr pb_2 0]), (16, .int .i64 (n00.length : Int)), (17, .int .i64 s.t17)]) (fun l_2 => [(pb, .cells (RI.enc o_1.f1_c0_0).toArray 118 (0, 0)), (pb_1, .cells (RCh.enc o_1.f1_c1_0).toArray 171 (0, 0)), (pb_2, .cells #[.int .i64 o_1.f1_c2] 3 (0, 0))]) (fun l_2 => []) ?_ ?_
    ·replace hm := h12
     refine jn ?_
     refine jL (ι := Unit) hm (fun s_1 l_3 => s_1.f1_c0_0.length = 12 ∧ s_1.f1_c1_0.length = 12) (fun s_1 l_3 => [(0, ptr rb 0), (1, .func (.func 131) #[] #[ptr pb 0, ptr pb_1 0, ptr pb_2 0]), (4, .int .i64 s.t17), (16, .int .i64 (n00.length : Int)), (17, .int .i64 s.t17), (20, slv L.q L.n L.cap), (21, .int .i64 ([true, false].length : Int)), (22, .int .i64 s_1.t22)]) (fun s_1 l_3 => [(pb, .cells (RI.enc s_1.f1_c0_0).toArray 118 (0, 0)), (pb_1, .cells (RCh.enc s_1.f1_c1_0).toArray 171 (0, 0)), (pb_2, .cells #[.int .i64 s_1.f1_c2] 3 (0, 0))]) (fun s_1 l_3 => [⟨4, RB.enc [true, false], L.sp, L.q, []⟩]) () (⟨h7, h8⟩) (sE rfl) (fun w hh => hh) (fun s_1 l_3 r_1 hpl hm h18 => ?_)
     obtain ⟨h16, h17⟩ := hpl
     unfold j6 at hm
     refine jq (yY rfl rfl rfl (jp (jj ?_)))
     refine js rfl (fun h19 => ?_) (fun h19 => ?_)
     ·replace hm := ifD h19 hm
      refine ju (ja (jj ?_))
      obtain ⟨o_2, h20, h21⟩ := bindO hm
      refine jF (ι := Unit) (fun l_4 => o_2.f1_c0_0.length = 12 ∧ o_2.f1_c1_0.length = 12) (fun l_4 => [(0, ptr rb 0), (1, .func (.func 131) #[] #[ptr pb 0, ptr pb_1 0, ptr pb_2 0]), (4, .int .i64 s.t17), (16, .int .i64 (n00.length : Int)), (17, .int .i64 s.t17), (20, slv L.q L.n L.cap), (21, .int .i64 ([true, false].length : Int)), (22, .int .i64 s_1.t22)]) (fun l_4 => [(pb, .cells (RI.enc o_2.f1_c0_0).toArray 118 (0, 0)), (pb_1, .cells (RCh.enc o_2.f1_c1_0).toArray 171 (0, 0)), (pb_2, .cells #[.int .i64 o_2.f1_c2] 3 (0, 0))]) (fun l_4 => [⟨4, RB.enc [true, false], L.sp, L.q, []⟩]) ?_ ?_
      ·replace hm := h20
       refine jn (jq ?_)
       obtain ⟨t24, h24, hm⟩ := bindO hm
       refine jc rfl rfl rfl (fun w _ => qx h24 (Tryz.runUnderlying93 w) (Tryz.sizeOf4 w) rfl rfl (vlen RB h11 rfl) (vne h11)) (jc rfl rfl rfl (fun w hh => kl RB 0 h24 (Tryz.isAgg4 w) rfl (hh.vseg 0 rfl h11) rfl (Nat.add_zero _).symm) (jk rfl rfl (j0 (je rfl rfl (je rfl rfl (jc rfl rfl rfl (fun _ _ => jz (vs := [(0, _), (1, _)]) (cells := [_, _]) rfl rfl) ?_))))))
       refine jo (fun w => Tryz.zeroValue164 w) rfl (fun b h25 => ?_)
       refine jy (us := #[_, _]) (cs' := [_, _]) (S' := [_, _, _, _]) 0 (fun w => Tryz.sizeOf164 w) rfl rfl rfl rfl rfl rfl rfl (j0 (je rfl rfl (kD [_, _] 0 Tryz.isAgg164 Tryz.sizeOf164 rfl rfl rfl rfl ?_)))
       obtain ⟨t32, h26, hm⟩ := bindO hm
       refine jd [] [] rfl rfl rfl rfl rfl rfl rfl Tryz.call130 (fun w hh => Kl n00 (⟨s.t17, t24⟩ : Change) rb qa1 na1 ca1 w (HV.callee (S0 := []) (vs0 := []) hh (roR hh 0 rfl (roR hh 1 rfl roN))) hna1 hqa1 hla1 h26) (fun l_5 h27 => ?_)
       refine je rfl rfl (kp rfl rfl rfl (kp rfl rfl rfl (kp rfl rfl rfl (kp rfl rfl rfl (jk rfl rfl (jk rfl rfl (jk rfl rfl ?_)))))))
       refine jk rfl rfl (j0 (je rfl rfl (jc rfl rfl rfl (fun _ _ => Qy rfl rfl) (jp ?_))))
       refine js rfl (fun h28 => ?_) (fun h28 => ?_)
       ·replace hm := ifD h28 hm
        refine jh (je rfl rfl (kD [_, _] 0 Tryz.isAgg164 Tryz.sizeOf164 rfl rfl rfl rfl (je rfl rfl (je rfl rfl (je rfl rfl (je rfl rfl ?_))))))
        obtain ⟨t45, h29, hm⟩ := bindO hm
        refine jT (S' := [_, _, _, _]) (vs' := [_]) [1, 2, 3, 0] [0] 0 rfl rfl rfl rfl ?_
        refine jd [_, _, _] [] rfl rfl rfl rfl rfl rfl rfl Tryz.call131 (fun w hh => Yc (⟨s.t17, t24⟩ : Change) t32.r0 t32.r1 t32.r2 t32.r3 s_1.f1_c0_0 s_1.f1_c1_0 s_1.f1_c2 pb pb_1 pb_2 w (HV.callee (S0 := [_, _, _]) (vs0 := []) hh roN) h16 h17 h29) (fun l_6 h30 => ?_)
        obtain ⟨h31, h32⟩ := h30
        refine jT (S' := [_, _, _, _]) (vs' := [_]) [0, 1, 2, 3] [0] 0 rfl rfl rfl rfl (jv (jt ?_))
        obtain rfl := sj hm
        exact jg () (⟨h31, h32⟩) (sE rfl) (hsE [0, 1, 2] [0] 0 rfl rfl rfl rfl)
       ·replace hm := ifE h28 hm
        refine ju (jt ?_)
        obtain rfl := sj hm
        exact jg () (⟨h16, h17⟩) (sE rfl) (hsE [1, 2, 3] [0] 0 rfl rfl rfl rfl)
      ·intro l_4 hj
       obtain ⟨h22, h23⟩ := hj
       replace hm := h21
       refine ja (jh ?_)
       obtain ⟨t46, h33, hm⟩ := bindO hm
       refine qs h33 rfl rfl rfl (je rfl rfl (jv ?_))
       obtain rfl := sj hm
       refine ja ?_
       exact jA _ () rfl (⟨h22, h23⟩) (sE rfl) (fun w hh => hh)
     ·replace hm := ifE h19 hm
      refine jS (jl (jl (jG ?_)))
      obtain rfl := sj hm
      have hbo := h18 _ rfl
      subst hbo
      exact jg () (⟨h16, h17⟩) (sE rfl) (hsE [0, 1, 2] [] 0 rfl rfl rfl rfl)
    ·intro l_2 hj
     obtain ⟨h14, h15⟩ := hj
     replace hm := h13
     refine jt (ja (jh ?_))
     obtain ⟨t47, h34, hm⟩ := bindO hm
     refine qs h34 rfl rfl rfl (je rfl rfl (jv ?_))
     obtain rfl := sj hm
     refine ja ?_
     exact jA _ () rfl (⟨h14, h15⟩) (sE rfl) (fun w hh => hh)
   ·replace hm := ifE h10 hm
    refine jS (jl (jl (jG ?_)))
    obtain rfl := sj hm
    have hbo := h9 _ rfl
    subst hbo
    exact jg () (⟨h7, h8⟩) (.nil) (fun w hh => hh)
  ·intro l hj
   obtain ⟨h5, h6⟩ := hj
   replace hm := h4
   obtain rfl := sj hm
   refine JX rfl (fun w hh => .nil) (fun w hh => ⟨(), rfl, ⟨h5, h6⟩, hh.se [0, 1, 2] [] 2 rfl rfl rfl rfl⟩)
structure zl where
  last5 : Int
  by4 : (List Change)
  far3 : (List Int)
structure y5 where
  t9 : Int
  last5 : Int
  by4 : (List Change)
  far3 : (List Int)
def qr (n00 : (List Wy)) (s : y5) : Option (y5 ⊕ zl) :=
 if s.t9 < 13 then
 ((yK n00 s.far3 s.by4 (-1)).bind fun t13 =>
 (addc s.t9 1).bind fun t14 =>
 some (.inl (⟨t14, t13.f1_c2, t13.f1_c1_0, t13.f1_c0_0⟩ : y5))) else
 (some (.inr (⟨s.last5, s.by4, s.far3⟩ : zl)))
structure zm where
  at6 : Int
  t18 : Int
def qi (o : zl) (n00 : (List Wy)) (s_1 : zm) : Option (zm ⊕ Int) :=
 if s_1.t18 < 12 then
 ((ix o.by4 s_1.at6).bind fun t23 =>
 (qG n00 t23).bind fun t25 =>
 (addc s_1.t18 1).bind fun t30 =>
 some (.inl (⟨t25.r0, t30⟩ : zm))) else
 (some (.inr s_1.at6))
structure zf where
  at6 : Int
  out7 : (List Change)
def qe (o : zl) (n00 : (List Wy)) (o_1 : Int) (s_2 : zf) : Option (zf ⊕ (Unit ⊕ (List Change))) :=
 (ix o.by4 s_2.at6).bind fun t34 =>
 (appc 16 s_2.out7 [t34]).bind fun t37 =>
 (ix o.by4 s_2.at6).bind fun t41 =>
 (qG n00 t41).bind fun t43 =>
 if t43.r0 = o_1 then
 (some (.inr (.inr t37))) else
 (some (.inl (⟨t43.r0, t37⟩ : zf)))
def yX (n00 : (List Wy)) : Option (List Change) :=
 (iterM FU (qr n00) (⟨0, -1, (List.replicate 12 (⟨0, false⟩ : Change) : (List Change)), (List.replicate 12 0 : (List Int))⟩ : y5)).bind fun o =>
 if o.last5 < 0 then
 (some []) else
 ((iterM FU (qi o n00) (⟨o.last5, 0⟩ : zm)).bind fun o_1 =>
 (iterM FU (qe o n00 o_1) (⟨o_1, []⟩ : zf)).bind fun o_2 =>
 oc o_2 (fun j => none) (fun r_3 => some r_3))
theorem Zw (n00 : (List Wy)) (rb : Nat) (qa1 : Option Addr) (na1 ca1 : Nat) (w : World) (hw : HV w (keys [] []) [] [] [(rb, 0, [.slice qa1 na1 ca1]), (aB qa1, aO qa1, RWay.enc n00)] w)  (hna1 : n00.length = na1) (hqa1 : AOK na1 qa1) (hla1 : na1 ≤ ca1) {res : (List Change)} (hm : yX n00 = some res) :
    Calls Tryz.prog 107 #[ptr rb 0] w (fun en w' => ∃ l : VL, en = .returned (slv l.q l.n l.cap) ∧ (VOK 2 l.n l.cap (RCh.enc res) l.sp l.q ∧ (l.q = none ↔ res = [])) ∧ HV w (keys [] []) [] [⟨164, RCh.enc res, l.sp, l.q, []⟩] [] w') := by
  unfold yX at hm
  refine j5 Tryz.func107 rfl Tryz.ntmps107 rfl (e := [(0, _)]) rfl hw (jq (jc rfl rfl rfl (fun _ _ => kX rfl) (j0 ?_)))
  refine Kr RI (l := (List.replicate 12 0 : (List Int))) (k := 12) (fun w => Tryz.zeroValue118 w) rfl rfl rfl (fun b h3 h4 => ?_)
  refine j0 ?_
  refine Kr RCh (l := (List.replicate 12 (⟨0, false⟩ : Change) : (List Change))) (k := 12) (fun w => Tryz.zeroValue171 w) rfl rfl rfl (fun b_1 h5 h6 => ?_)
  refine j0 ?_
  refine jo (fun w => Tryz.zeroValue3 w) rfl (fun b_2 h7 => ?_)
  refine kY (cs' := #[_]) (S' := [_, _, _]) 0 (fun w => Tryz.sizeOf3 w) rfl rfl rfl rfl rfl rfl rfl (jp (jj (jq (je rfl rfl (jp ?_)))))
  obtain ⟨o, h8, h9⟩ := bindO hm
  refine jF (ι := Unit) (fun l => o.by4.length = 12 ∧ o.far3.length = 12) (fun l => [(0, ptr rb 0), (4, ptr b_1 0), (5, ptr b_2 0)]) (fun l => [(b_2, .cells #[.int .i64 o.last5] 3 (0, 0)), (b_1, .cells (RCh.enc o.by4).toArray 171 (0, 0)), (b, .cells (RI.enc o.far3).toArray 118 (0, 0))]) (fun l => []) ?_ ?_
  ·replace hm := h8
   refine jn ?_
   refine jL (ι := Unit) hm (fun s l_1 => s.by4.length = 12 ∧ s.far3.length = 12) (fun s l_1 => [(0, ptr rb 0), (3, ptr b 0), (4, ptr b_1 0), (5, ptr b_2 0), (9, .int .i64 s.t9)]) (fun s l_1 => [(b_2, .cells #[.int .i64 s.last5] 3 (0, 0)), (b_1, .cells (RCh.enc s.by4).toArray 171 (0, 0)), (b, .cells (RI.enc s.far3).toArray 118 (0, 0))]) (fun s l_1 => []) () (⟨h6, h4⟩) (sE rfl) (fun w hh => hh) (fun s l_1 r hpl hm h14 => ?_)
   obtain ⟨h12, h13⟩ := hpl
   unfold qr at hm
   refine jq (yY rfl rfl rfl (jp (jj ?_)))
   refine js rfl (fun h15 => ?_) (fun h15 => ?_)
   ·replace hm := ifD h15 hm
    refine ju (ja (jj (jn (jq (kY (cs' := #[_]) (S' := [_, _, _]) 0 (fun w => Tryz.sizeOf3 w) rfl rfl rfl rfl rfl rfl rfl (jp (jh ?_)))))))
    refine je rfl rfl (jc rfl rfl rfl (fun _ _ => jK (u := #[]) (u' := #[_, _, _]) rfl rfl) ?_)
    obtain ⟨t13, h16, hm⟩ := bindO hm
    refine jT (S' := [_, _, _]) (vs' := []) [2, 1, 0] [] 0 rfl rfl rfl rfl ?_
    refine jd [_, _, _] [] rfl rfl rfl rfl rfl rfl rfl Tryz.call108 (fun w hh => YI n00 s.far3 s.by4 (-1) rb qa1 na1 ca1 b b_1 b_2 w (HV.callee (S0 := [_, _, _]) (vs0 := []) hh (roR hh 0 rfl (roR hh 1 rfl roN))) hna1 hqa1 hla1 h13 h12 h16) (fun l_2 h17 => ?_)
    obtain ⟨h18, h19⟩ := h17
    refine jT (S' := [_, _, _]) (vs' := []) [0, 1, 2] [] 0 rfl rfl rfl rfl (jv (jt (ja (jh ?_))))
    obtain ⟨t14, h20, hm⟩ := bindO hm
    refine qs h20 rfl rfl rfl (je rfl rfl (jv ?_))
    obtain rfl := sj hm
    refine ja ?_
    exact jA _ () rfl (⟨h19, h18⟩) (sE rfl) (hsE [2, 1, 0] [] 0 rfl rfl rfl rfl)
   ·replace hm := ifE h15 hm
    refine jS (jl (jl (jG ?_)))
    obtain rfl := sj hm
    have hbo := h14 _ rfl
    subst hbo
    exact jg () (⟨h12, h13⟩) (sE rfl) (fun w hh => hh)
  ·intro l hj
   obtain ⟨h10, h11⟩ := hj
   replace hm := h9
   refine ja (jj (jq (jY 0 Tryz.isAgg3 rfl rfl rfl rfl (yY rfl rfl rfl (jp ?_)))))
   refine js rfl (fun h21 => ?_) (fun h21 => ?_)
   ·replace hm := ifD h21 hm
    refine jq (jc rfl rfl rfl (fun _ _ => kX rfl) (jp (jw (jf (kC 164 ?_)))))
    obtain rfl := sj hm
    refine jm rfl (fun w hh => (.tmp rfl .nil)) (fun w hh => ⟨⟨none, 0, 0, []⟩, rfl, ⟨VOK.nil, nieN⟩, hh.se [] [0] 2 rfl rfl rfl rfl⟩)
   ·replace hm := ifE h21 hm
    refine ju (ja (jq (jY 0 Tryz.isAgg3 rfl rfl rfl rfl (jk rfl rfl (jp (jj (jq ?_)))))))
    refine je rfl rfl (jp ?_)
    obtain ⟨o_1, h22, h23⟩ := bindO hm
    refine jF (ι := Unit) (fun l_3 => True) (fun l_3 => [(0, ptr rb 0), (4, ptr b_1 0), (6, .int .i64 o_1)]) (fun l_3 => [(b_2, .cells #[.int .i64 o.last5] 3 (0, 0)), (b_1, .cells (RCh.enc o.by4).toArray 171 (0, 0)), (b, .cells (RI.enc o.far3).toArray 118 (0, 0))]) (fun l_3 => []) ?_ ?_
    ·replace hm := h22
     refine jn ?_
     refine jL (ι := Unit) hm (fun s_1 l_4 => True) (fun s_1 l_4 => [(0, ptr rb 0), (4, ptr b_1 0), (6, .int .i64 s_1.at6), (18, .int .i64 s_1.t18)]) (fun s_1 l_4 => [(b_2, .cells #[.int .i64 o.last5] 3 (0, 0)), (b_1, .cells (RCh.enc o.by4).toArray 171 (0, 0)), (b, .cells (RI.enc o.far3).toArray 118 (0, 0))]) (fun s_1 l_4 => []) () (trivial) (sE rfl) (fun w hh => hh) (fun s_1 l_4 r_1 hpl hm h24 => ?_)
     unfold qi at hm
     refine jq (yY rfl rfl rfl (jp (jj ?_)))
     refine js rfl (fun h25 => ?_) (fun h25 => ?_)
     ·replace hm := ifD h25 hm
      refine ju (ja (jj (jn (jh (je rfl rfl (je rfl rfl ?_))))))
      obtain ⟨t23, h26, hm⟩ := bindO hm
      refine jc rfl rfl rfl (fun w _ => KM h26 h10 (Tryz.runUnderlying171 w) (Tryz.sizeOf164 w) rfl rfl) ?_
      refine jc rfl rfl rfl (fun w hh => kt RCh 0 [.int .i64 t23.way, .bool t23.more] h26 (Tryz.isAgg164 w) (Tryz.sizeOf164 w) rfl (hh.bsegA 1 rfl) rfl (Nat.add_zero _).symm) ?_
      obtain ⟨t25, h27, hm⟩ := bindO hm
      refine jd [] [] rfl rfl rfl rfl rfl rfl rfl Tryz.call130 (fun w hh => Kl n00 t23 rb qa1 na1 ca1 w (HV.callee (S0 := []) (vs0 := []) hh (roR hh 0 rfl (roR hh 1 rfl roN))) hna1 hqa1 hla1 h27) (fun l_5 h28 => ?_)
      refine je rfl rfl (kp rfl rfl rfl (kp rfl rfl rfl (kp rfl rfl rfl (kp rfl rfl rfl (jk rfl rfl (jv (jt ?_)))))))
      refine ja (jh ?_)
      obtain ⟨t30, h29, hm⟩ := bindO hm
      refine qs h29 rfl rfl rfl (je rfl rfl (jv ?_))
      obtain rfl := sj hm
      refine ja ?_
      exact jA _ () rfl (trivial) (sE rfl) (fun w hh => hh)
     ·replace hm := ifE h25 hm
      refine jS (jl (jl (jG ?_)))
      obtain rfl := sj hm
      have hbo := h24 _ rfl
      subst hbo
      exact jg () (trivial) (sE rfl) (fun w hh => hh)
    ·intro l_3 hj
     replace hm := h23
     refine ja (jq (jc rfl rfl rfl (fun _ _ => kX rfl) (j0 (je rfl rfl (jk rfl rfl (jp (kC 164 ?_)))))))
     obtain ⟨o_2, h30, h31⟩ := bindO hm
     refine jF (ι := Unit) (fun j => False) (fun j => []) (fun j => [(b_2, .cells #[.int .i64 o.last5] 3 (0, 0)), (b_1, .cells (RCh.enc o.by4).toArray 171 (0, 0)), (b, .cells (RI.enc o.far3).toArray 118 (0, 0))]) (fun j => []) ?_ ?_
     ·replace hm := h30
      refine jn ?_
      refine jL (ι := VL) hm (fun s_2 l_6 => VOK 2 l_6.n l_6.cap (RCh.enc s_2.out7) l_6.sp l_6.q ∧ (l_6.q = none ↔ s_2.out7 = [])) (fun s_2 l_6 => [(0, ptr rb 0), (4, ptr b_1 0), (6, .int .i64 s_2.at6), (7, slv l_6.q l_6.n l_6.cap), (8, .int .i64 o_1)]) (fun s_2 l_6 => [(b_2, .cells #[.int .i64 o.last5] 3 (0, 0)), (b_1, .cells (RCh.enc o.by4).toArray 171 (0, 0)), (b, .cells (RI.enc o.far3).toArray 118 (0, 0))]) (fun s_2 l_6 => [⟨164, RCh.enc s_2.out7, l_6.sp, l_6.q, []⟩]) ⟨none, 0, 0, []⟩ (⟨VOK.nil, nieN⟩) (sE rfl) (fun w hh => hh) (fun s_2 l_6 r_2 hpl hm h34 => ?_)
      obtain ⟨h32, h33⟩ := hpl
      unfold qe at hm
      refine jn (jq (je rfl rfl (je rfl rfl ?_)))
      obtain ⟨t34, h35, hm⟩ := bindO hm
      refine jc rfl rfl rfl (fun w _ => KM h35 h10 (Tryz.runUnderlying171 w) (Tryz.sizeOf164 w) rfl rfl) ?_
      refine jc rfl rfl rfl (fun w hh => kt RCh 0 [.int .i64 t34.way, .bool t34.more] h35 (Tryz.isAgg164 w) (Tryz.sizeOf164 w) rfl (hh.bsegA 1 rfl) rfl (Nat.add_zero _).symm) ?_
      refine kG RCh [t34] (ps := [(0, _)]) (cells := [_, _]) (fun w => Tryz.runUnderlying157 w) (fun w => Tryz.sizeOf164 w) (fun w => Tryz.zeroValue164 w) rfl rfl rfl rfl rfl rfl rfl rfl (fun L h36 => ?_)
      obtain ⟨t37, h37, hm⟩ := bindO hm
      refine yh RCh 1 h37 Tryz.underlying157 YU rfl rfl rfl rfl rfl h32 rfl rfl (vlen RCh h36 rfl) (AOK.q (vne h36)) (fun w hh => (hh.vsegA 0 rfl h36)) rfl (fun L_1 h38 h38n => ?_)
      refine jT (S' := [_, _, _]) (vs' := [_, _]) [0, 1, 2] [0, 1] 0 rfl rfl rfl rfl (jk rfl rfl (j0 (je rfl rfl (je rfl rfl ?_))))
      obtain ⟨t41, h39, hm⟩ := bindO hm
      refine jc rfl rfl rfl (fun w _ => KM h39 h10 (Tryz.runUnderlying171 w) (Tryz.sizeOf164 w) rfl rfl) ?_
      refine jc rfl rfl rfl (fun w hh => kt RCh 0 [.int .i64 t41.way, .bool t41.more] h39 (Tryz.isAgg164 w) (Tryz.sizeOf164 w) rfl (hh.bsegA 1 rfl) rfl (Nat.add_zero _).symm) ?_
      obtain ⟨t43, h40, hm⟩ := bindO hm
      refine jd [] [] rfl rfl rfl rfl rfl rfl rfl Tryz.call130 (fun w hh => Kl n00 t41 rb qa1 na1 ca1 w (HV.callee (S0 := []) (vs0 := []) hh (roR hh 0 rfl (roR hh 1 rfl roN))) hna1 hqa1 hla1 h40) (fun l_7 h41 => ?_)
      refine je rfl rfl (kp rfl rfl rfl (kp rfl rfl rfl (kp rfl rfl rfl (kp rfl rfl rfl (jk rfl rfl (j0 (je rfl rfl ?_)))))))
      refine je rfl rfl (jc rfl rfl rfl (fun _ _ => yD rfl rfl) (jp ?_))
      refine js rfl (fun h42 => ?_) (fun h42 => ?_)
      ·replace hm := ifD h42 hm
       refine jq (je rfl rfl (jk rfl rfl (jp (jw (jx (jf (jx ?_)))))))
       obtain rfl := sj hm
       have hbo := h34 _ rfl
       subst hbo
       refine jf ?_
       replace hm := ocR h31
       obtain rfl := sj hm
       refine jm rfl (fun w hh => (.tmp rfl .nil)) (fun w hh => ⟨L_1, rfl, ⟨h38, (h38n h33)⟩, hh.se [] [1] 2 rfl rfl rfl rfl⟩)
      ·replace hm := ifE h42 hm
       refine ju (jt ?_)
       obtain rfl := sj hm
       refine ja ?_
       exact jA _ L_1 rfl (⟨h38, (h38n h33)⟩) (sE rfl) (hsE [0, 1, 2] [1] 0 rfl rfl rfl rfl)
     ·exact fun _ hf => hf.elim
structure qJ where
  r1 : Lack
  t12 : (List Wy)
structure kV where
  t20 : Int
  t12 : (List Wy)
def qK (s : kV) (d00 : (List Strip)) (d01 : (List Span)) (s_1 : (List Wy)) : Option ((List Wy) ⊕ ((List Wy) ⊕ (Lack ⊕ qJ))) :=
 (ix s_1 s.t20).bind fun t28 =>
 (ix s_1 s.t20).bind fun t36 =>
 if t28.goes < t36.lo then
 ((ix s_1 s.t20).bind fun t45 =>
 (J8 s_1 t45.dst t45.fr).bind fun t53 =>
 if (t53.r0.isEmpty) = true then
 ((K3 d00 d01 t45 t53.r1).bind fun t61 =>
 some (.inr (.inr (.inl t61)))) else
 ((subc t45.lo t45.goes).bind fun t72 =>
 (appc 16 t53.r0 [(⟨s.t20, true⟩ : Change)]).bind fun t67 =>
 (zF s_1 t67 t72).bind fun t73 =>
 some (.inl t73))) else
 (some (.inr (.inl s_1)))
def qF (t14 : (List Wy)) (d00 : (List Strip)) (d01 : (List Span)) (s : kV) : Option (kV ⊕ ((List Wy) ⊕ (Lack ⊕ qJ))) :=
 if s.t20 < (t14.length : Int) then
 ((iterM FU (qK s d00 d01) s.t12).bind fun o_1 =>
 oc o_1 (fun j_1 => (addc s.t20 1).bind fun t74 =>
 some (.inl (⟨t74, j_1⟩ : kV))) (fun r_2 => some (.inr (.inr r_2)))) else
 (some (.inr (.inl s.t12)))
def qI  (s_2 : (List Wy)) : Option ((List Wy) ⊕ (List Wy)) :=
 (yX s_2).bind fun t76 =>
 if (t76.isEmpty) = true then
 (some (.inr s_2)) else
 ((zF s_2 t76 1000000).bind fun t81 =>
 some (.inl t81))
def j4 (d00 : (List Strip)) (d01 : (List Span)) (d02 : (List (Pair × Bool))) (c1_0 : (Pair → Option Int)) : Option (Lack ⊕ qJ) :=
 (JB d00 d01 d02 c1_0).bind fun t14 =>
 (iterM FU (qF t14 d00 d01) (⟨0, t14⟩ : kV)).bind fun o =>
 oc o (fun j => (iterM FU (qI) j).bind fun o_2 =>
 some (.inr (⟨(⟨false, []⟩ : Lack), o_2⟩ : qJ))) (fun r_4 => some r_4)
theorem kq (d00 : (List Strip)) (d01 : (List Span)) (d02 : (List (Pair × Bool))) (c1_0 : (Pair → Option Int)) (rb : Nat) (qa1 : Option Addr) (na1 ca1 : Nat) (qa2 : Option Addr) (na2 ca2 : Nat) (pb : Nat) (f_c1_0 : FuncId) (fs_c1_0 cs_c1_0 : Array Value) (T_c1_0 : List Sg) (w : World) (hw : HV w (keys [(pb, gobj (kR RPr) kB d02)] []) [(pb, gobj (kR RPr) kB d02)] [] ([(rb, 0, [.slice qa1 na1 ca1, .slice qa2 na2 ca2, .map (some pb)]), (aB qa1, aO qa1, RSt.enc d00), (aB qa2, aO qa2, RSp.enc d01)] ++ T_c1_0) w)  (hna1 : d00.length = na1) (hqa1 : AOK na1 qa1) (hla1 : na1 ≤ ca1) (hna2 : d01.length = na2) (hqa2 : AOK na2 qa2) (hla2 : na2 ≤ ca2) (hcl_c1_0 : ClOK Tryz.prog f_c1_0 fs_c1_0 cs_c1_0 T_c1_0 (fun x : Pair => [.agg #[.int .i64 x.tenant, .int .i64 x.strip]]) (fun x : Int => .int .i64 x) c1_0) {res : (Lack ⊕ qJ)} (hm : j4 d00 d01 d02 c1_0 = some res) :
    Calls Tryz.prog 58 #[ptr rb 0, .agg #[.func (.func f_c1_0) fs_c1_0 cs_c1_0]] w (fun en w' => match res with | .inl res_ => (∃ l : VL, en = .returned (.tuple #[.pointer none, .agg #[.bool res_.tenants, slv l.q l.n l.cap]]) ∧ (VOK 1 l.n l.cap (RI.enc res_.of_) l.sp l.q) ∧ HV w (keys [(pb, gobj (kR RPr) kB d02)] []) [(pb, gobj (kR RPr) kB d02)] [⟨3, RI.enc res_.of_, l.sp, l.q, []⟩] [] w') | .inr res_ => (∃ l : Nat × VL × VL, en = .returned (.tuple #[ptr l.1 0, .agg #[.bool res_.r1.tenants, slv l.2.1.q l.2.1.n l.2.1.cap]]) ∧ (VOK 1 l.2.1.n l.2.1.cap (RI.enc res_.r1.of_) l.2.1.sp l.2.1.q ∧ VOK 6 l.2.2.n l.2.2.cap (RWay.enc res_.t12) l.2.2.sp l.2.2.q) ∧ HV w (keys [(pb, gobj (kR RPr) kB d02)] []) [(pb, gobj (kR RPr) kB d02), (l.1, .cells #[slv l.2.2.q l.2.2.n l.2.2.cap] 154 (0, 0))] [⟨3, RI.enc res_.r1.of_, l.2.1.sp, l.2.1.q, []⟩, ⟨156, RWay.enc res_.t12, l.2.2.sp, l.2.2.q, []⟩] [] w')) := by
  unfold j4 at hm
  refine j5 Tryz.func58 rfl Tryz.ntmps58 rfl (e := [(0, _), (1, _)]) rfl hw (jq ?_)
  refine jC rfl rfl (fun b h4 => ?_)
  refine jk rfl rfl ?_
  refine jo (fun w => Tryz.zeroValue30 w) rfl (fun b_1 h5 => ?_)
  refine jp (ja5 (jq (je rfl rfl (kD [_] 1 Tryz.isAgg115 Tryz.sizeOf115 rfl rfl rfl rfl ?_))))
  obtain ⟨t14, h6, hm⟩ := bindO hm
  refine jT (S' := [_, _, _]) (vs' := []) [2, 0, 1] [] 0 rfl rfl rfl rfl ?_
  refine jd [_] [] rfl rfl rfl rfl rfl rfl rfl Tryz.call103 (fun w hh => Zy d00 d01 d02 c1_0 rb qa1 na1 ca1 qa2 na2 ca2 pb f_c1_0 fs_c1_0 cs_c1_0 T_c1_0 w (HV.callee (S0 := [_]) (vs0 := []) hh (roA (roR hh 0 rfl (roR hh 1 rfl (roR hh 2 rfl roN))) (hh.rsepT (fun t ht => (List.mem_cons_of_mem _ (List.mem_cons_of_mem _ (List.mem_cons_of_mem _ ht))))))) hna1 hqa1 hla1 hna2 hqa2 hla2 hcl_c1_0 h6) (fun l h7 => ?_)
  have h8 := h7
  refine jT (S' := [_, _, _, _]) (vs' := [_]) [0, 1, 2, 3] [0] 0 rfl rfl rfl rfl (jk rfl rfl (jp (jj (jq (je rfl rfl (jc rfl rfl rfl (fun _ _ => jN rfl) (jP 0 Tryz.runUnderlying154 rfl Tryz.sizeOf152 rfl rfl ?_)))))))
  refine jY 1 Tryz.isAgg152 rfl rfl rfl rfl (jc rfl rfl rfl (fun w _ => Q1 (vlen RWay h8 rfl) (Tryz.runUnderlying152 w) rfl) (je rfl rfl (jp ?_)))
  obtain ⟨o, h9, h10⟩ := bindO hm
  refine jF (ι := (List Wy)) (fun j => o = .inl j ∧ VOK 6 l.2.n l.2.cap (RWay.enc j) l.2.sp l.2.q) (fun j => [(5, ptr b_1 0), (6, ptr l.1 0)]) (fun j => [(pb, gobj (kR RPr) kB d02), (l.1, .cells #[slv l.2.q l.2.n l.2.cap] 154 (0, 0)), (b_1, .cells #[.bool false, slv none 0 0] 30 (0, 0)), (b, .cells #[.func (.func f_c1_0) fs_c1_0 cs_c1_0] 115 (0, 0))]) (fun j => [⟨156, RWay.enc j, l.2.sp, l.2.q, []⟩]) ?_ ?_
  ·replace hm := h9
   refine jn ?_
   refine jL (ι := Unit) hm (fun s l_1 => VOK 6 l.2.n l.2.cap (RWay.enc s.t12) l.2.sp l.2.q) (fun s l_1 => [(0, ptr rb 0), (5, ptr b_1 0), (6, ptr l.1 0), (19, .int .i64 (t14.length : Int)), (20, .int .i64 s.t20)]) (fun s l_1 => [(pb, gobj (kR RPr) kB d02), (l.1, .cells #[slv l.2.q l.2.n l.2.cap] 154 (0, 0)), (b_1, .cells #[.bool false, slv none 0 0] 30 (0, 0)), (b, .cells #[.func (.func f_c1_0) fs_c1_0 cs_c1_0] 115 (0, 0))]) (fun s l_1 => [⟨156, RWay.enc s.t12, l.2.sp, l.2.q, []⟩]) () (h8) (sE rfl) (fun w hh => hh) (fun s l_1 r hpl hm h13 => ?_)
   have h12 := hpl
   unfold qF at hm
   refine jq (yY rfl rfl rfl (jp (jj ?_)))
   refine js rfl (fun h14 => ?_) (fun h14 => ?_)
   ·replace hm := ifD h14 hm
    refine ju (ja (jj (jn (jq (je rfl rfl (jk rfl rfl (jp ?_)))))))
    obtain ⟨o_1, h15, h16⟩ := bindO hm
    refine jF (ι := (List Wy)) (fun j_1 => o_1 = .inl j_1 ∧ VOK 6 l.2.n l.2.cap (RWay.enc j_1) l.2.sp l.2.q) (fun j_1 => [(0, ptr rb 0), (5, ptr b_1 0), (6, ptr l.1 0), (19, .int .i64 (t14.length : Int)), (20, .int .i64 s.t20)]) (fun j_1 => [(pb, gobj (kR RPr) kB d02), (l.1, .cells #[slv l.2.q l.2.n l.2.cap] 154 (0, 0)), (b_1, .cells #[.bool false, slv none 0 0] 30 (0, 0)), (b, .cells #[.func (.func f_c1_0) fs_c1_0 cs_c1_0] 115 (0, 0))]) (fun j_1 => [⟨156, RWay.enc j_1, l.2.sp, l.2.q, []⟩]) ?_ ?_
    ·replace hm := h15
     refine jn ?_
     refine jL (ι := Unit) hm (fun s_1 l_2 => VOK 6 l.2.n l.2.cap (RWay.enc s_1) l.2.sp l.2.q) (fun s_1 l_2 => [(0, ptr rb 0), (5, ptr b_1 0), (6, ptr l.1 0), (7, .int .i64 s.t20), (19, .int .i64 (t14.length : Int)), (20, .int .i64 s.t20)]) (fun s_1 l_2 => [(pb, gobj (kR RPr) kB d02), (l.1, .cells #[slv l.2.q l.2.n l.2.cap] 154 (0, 0)), (b_1, .cells #[.bool false, slv none 0 0] 30 (0, 0)), (b, .cells #[.func (.func f_c1_0) fs_c1_0 cs_c1_0] 115 (0, 0))]) (fun s_1 l_2 => [⟨156, RWay.enc s_1, l.2.sp, l.2.q, []⟩]) () (h12) (sE rfl) (fun w hh => hh) (fun s_1 l_2 r_1 hpl hm h19 => ?_)
     have h18 := hpl
     unfold qK at hm
     refine jj (jj ?_)
     refine jX none (.free 0 (.free 1 (.free 2 (.hoist 3 (.free 4 (.free 5 (.free 6 (.hoist 7 (.free 8 (.free 9 (.free 10 (.hoist 11 (.free 12 (.free 13 (.free 14 (.hoist 15 (.free 16 .done))))))))))))))))) _ rfl (by decide +kernel) (fun w k hh => hh.draw k) (fun w hh => hh) ?_
     refine ku rfl rfl rfl (ji rfl rfl rfl rfl (fun _ _ => jN rfl) (k5 0 Tryz.runUnderlying154 Tryz.sizeOf152 rfl rfl rfl rfl (qY 1 Tryz.isAgg152 rfl rfl rfl rfl rfl (ku rfl rfl rfl ?_))))
     obtain ⟨t28, h20, hm⟩ := bindO hm
     refine ji rfl rfl rfl rfl (fun w _ => qx h20 (Tryz.runUnderlying152 w) (Tryz.sizeOf156 w) rfl rfl (vlen RWay h18 rfl) (vne h18)) (k5 5 Tryz.runUnderlying156 Tryz.sizeOf3 rfl rfl rfl rfl (jD rfl rfl rfl rfl (fun w hh => kl RWay 5 h20 (Tryz.isAgg3 w) rfl (hh.vseg 0 rfl h18) rfl rfl) (ku rfl rfl rfl (ji rfl rfl rfl rfl (fun _ _ => jN rfl) (k5 0 Tryz.runUnderlying154 Tryz.sizeOf152 rfl rfl rfl rfl (qY 1 Tryz.isAgg152 rfl rfl rfl rfl rfl (ku rfl rfl rfl ?_)))))))
     obtain ⟨t36, h21, hm⟩ := bindO hm
     refine ji rfl rfl rfl rfl (fun w _ => qx h21 (Tryz.runUnderlying152 w) (Tryz.sizeOf156 w) rfl rfl (vlen RWay h18 rfl) (vne h18)) (k5 2 Tryz.runUnderlying156 Tryz.sizeOf3 rfl rfl rfl rfl (jD rfl rfl rfl rfl (fun w hh => kl RWay 2 h21 (Tryz.isAgg3 w) rfl (hh.vseg 0 rfl h18) rfl rfl) (ji rfl rfl rfl rfl (fun _ _ => YE rfl rfl) (jM (ja ?_)))))
     refine js rfl (fun h22 => ?_) (fun h22 => ?_)
     ·replace hm := ifD h22 hm
      refine ju (ja (jn (jq (je rfl rfl (jc rfl rfl rfl (fun _ _ => jN rfl) (jP 0 Tryz.runUnderlying154 rfl Tryz.sizeOf152 rfl rfl (jY 1 Tryz.isAgg152 rfl rfl rfl rfl ?_)))))))
      refine je rfl rfl ?_
      obtain ⟨t45, h23, hm⟩ := bindO hm
      refine jc rfl rfl rfl (fun w _ => qx h23 (Tryz.runUnderlying152 w) (Tryz.sizeOf156 w) rfl rfl (vlen RWay h18 rfl) (vne h18)) ?_
      refine jc rfl rfl rfl (fun w hh => kt RWay 0 [.int .i64 t45.fr, .int .i64 t45.dst, .int .i64 t45.lo, .int .i64 t45.hi, .int .i64 t45.cost, .int .i64 t45.goes] h23 (Tryz.isAgg156 w) (Tryz.sizeOf156 w) rfl (hh.vseg 0 rfl h18) rfl (Nat.add_zero _).symm) ?_
      refine jo (fun w => Tryz.zeroValue156 w) rfl (fun b_2 h24 => ?_)
      refine jy (us := #[_, _, _, _, _, _]) (cs' := [_, _, _, _, _, _]) (S' := [_, _, _, _, _]) 0 (fun w => Tryz.sizeOf156 w) rfl rfl rfl rfl rfl rfl rfl (j0 (je rfl rfl (jP 1 Tryz.runUnderlying156 rfl Tryz.sizeOf3 rfl rfl (jY 0 Tryz.isAgg3 rfl rfl rfl rfl (jP 0 Tryz.runUnderlying156 rfl Tryz.sizeOf3 rfl rfl (jY 0 Tryz.isAgg3 rfl rfl rfl rfl ?_))))))
      obtain ⟨t53, h25, hm⟩ := bindO hm
      refine jd [] [] rfl rfl rfl rfl rfl rfl rfl Tryz.call104 (fun w hh => jar s_1 t45.dst t45.fr l.1 (qA l.2.q) l.2.n l.2.cap w (HV.callee (S0 := []) (vs0 := []) hh (roC (bsep (hh.bseg 2 rfl)) (roC (hh.vsepA 0 rfl h18) roN))) (vlen RWay h18 rfl) (AOK.q (vne h18)) (h18).hle h25) (fun l_3 h26 => ?_)
      obtain ⟨h27, h28, h29⟩ := h26
      refine jT (S' := [_, _, _, _, _]) (vs' := [_, _]) [0, 1, 2, 3, 4] [0, 1] 0 rfl rfl rfl rfl (je rfl rfl (kp rfl rfl rfl (kp rfl rfl rfl ?_)))
      refine Kr RB (l := (List.replicate 12 false : (List Bool))) (k := 12) (fun w => Tryz.zeroValue158 w) rfl rfl rfl (fun b_3 h30 h31 => ?_)
      refine jk rfl rfl (jaz RB (S' := [_, _, _, _, _, _]) 0 (fun w => Tryz.sizeOf158 w) rfl rfl rfl h31 h29 rfl rfl (jp (jj (jq (je rfl rfl (jc rfl rfl rfl (fun w _ => ZQ h28 (Tryz.runUnderlying157 w) rfl rfl) (jp ?_)))))))
      refine js rfl (fun h32 => ?_) (fun h32 => ?_)
      ·replace hm := ifT (h32) hm
       refine jq (je rfl rfl (kD [_, _, _, _, _, _] 1 Tryz.isAgg156 Tryz.sizeOf156 rfl rfl rfl rfl (jc rfl rfl rfl (fun w hh => J9 RB h29 (Tryz.isAgg158 w) (Tryz.sizeOf158 w) rfl rfl (hh.bsegA 0 rfl)) ?_)))
       obtain ⟨t61, h33, hm⟩ := bindO hm
       refine jd [] [] rfl rfl rfl rfl rfl rfl rfl Tryz.call105 (fun w hh => jak d00 d01 t45 t53.r1 rb qa1 na1 ca1 qa2 na2 ca2 (.map (some pb)) w (HV.callee (S0 := []) (vs0 := []) hh (roR hh 0 rfl (roR hh 1 rfl (roR hh 2 rfl roN)))) hna1 hqa1 hla1 hna2 hqa2 hla2 h29 h33) (fun l_4 h34 => ?_)
       have h35 := h34
       refine jT (S' := [_, _, _, _, _, _]) (vs' := [_, _, _]) [0, 1, 2, 3, 4, 5] [0, 1, 2] 0 rfl rfl rfl rfl (jk rfl rfl (jy (us := #[_, _]) (cs' := [_, _]) (S' := [_, _, _, _, _, _]) 4 (fun w => Tryz.sizeOf30 w) rfl rfl rfl rfl rfl rfl rfl (jp (jw (jf (jx (jf ?_)))))))
       refine jx ?_
       obtain rfl := sj hm
       have hbo := h19 _ rfl
       subst hbo
       refine jf ?_
       replace hm := ocR h16
       refine jx (jf (jf (jx ?_)))
       obtain rfl := sj hm
       have hbo := h13 _ rfl
       subst hbo
       refine jf ?_
       replace hm := ocR h10
       refine jf (jae ?_)
       obtain rfl := sj hm
       refine jm rfl (fun w hh => (.tmp rfl (.cell rfl (loadVar_agg (vs := [_, _]) (Tryz.isAgg30 _) (Tryz.sizeOf30 _) (hh.cells 4 rfl rfl)) .nil))) (fun w hh => ⟨l_4, rfl, h35, hh.selN [2] [0] (by decide) (by decide) rfl rfl⟩)
      ·replace hm := ifN h32 hm
       refine ju (ja ?_)
       refine jX none (.free 0 (.free 1 (.free 2 (.free 3 (.free 6 (.hoist 7 (.free 8 (.hoist 9 (.free 10 (.one 4 (.one 5 (.one 11 .done)))))))))))) (HV _ _ [(b_3, .cells (RB.enc t53.r1).toArray 158 (0, 0)), (b_2, .cells #[.int .i64 t45.fr, .int .i64 t45.dst, .int .i64 t45.lo, .int .i64 t45.hi, .int .i64 t45.cost, .int .i64 t45.goes] 156 (0, 0)), (pb, gobj (kR RPr) kB d02), (l.1, .cells #[slv l.2.q l.2.n l.2.cap] 154 (0, 0)), (b_1, .cells #[.bool false, slv none 0 0] 30 (0, 0)), (b, .cells #[.func (.func f_c1_0) fs_c1_0 cs_c1_0] 115 (0, 0))] [] _) rfl (by decide +kernel) (fun w k hh => hh.draw k) (hsE [0, 1, 2, 3, 4, 5] [] 0 rfl rfl rfl rfl) ?_
       refine ku rfl rfl rfl (ku rfl rfl rfl (ku rfl rfl rfl (ji rfl rfl rfl rfl (fun _ _ => jz (vs := [(0, _), (1, _)]) (cells := [_, _]) rfl rfl) (k5 2 Tryz.runUnderlying156 Tryz.sizeOf3 rfl rfl rfl rfl (qY 1 Tryz.isAgg3 rfl rfl rfl rfl rfl (k5 5 Tryz.runUnderlying156 Tryz.sizeOf3 rfl rfl rfl rfl (qY 1 Tryz.isAgg3 rfl rfl rfl rfl rfl ?_)))))))
       obtain ⟨t72, h36, hm⟩ := bindO hm
       refine ji rfl rfl rfl rfl (fun _ _ => yb h36 rfl rfl) (jE rfl ?_)
       refine kG RCh [(⟨s.t20, true⟩ : Change)] (ps := [(0, _)]) (cells := [_, _]) (fun w => Tryz.runUnderlying157 w) (fun w => Tryz.sizeOf164 w) (fun w => Tryz.zeroValue164 w) rfl rfl rfl rfl rfl rfl rfl rfl (fun L h37 => ?_)
       refine jr (hsE [0, 1, 2, 3, 4, 5] [] 0 rfl rfl rfl rfl) (jE rfl ?_)
       obtain ⟨t67, h38, hm⟩ := bindO hm
       refine yh RCh 1 h38 Tryz.underlying157 YU rfl rfl rfl rfl rfl h27 rfl rfl (vlen RCh h37 rfl) (AOK.q (vne h37)) (fun w hh => (hh.vsegA 0 rfl h37)) rfl (fun L_1 h39 h39n => ?_)
       refine jT (S' := [_, _, _, _, _, _]) (vs' := [_, _, _]) [0, 1, 2, 3, 4, 5] [0, 1, 2] 0 rfl rfl rfl rfl (jr (hsE [0, 1, 2, 3, 4, 5] [] 0 rfl rfl rfl rfl) (jE rfl ?_))
       obtain ⟨t73, h40, hm⟩ := bindO hm
       refine jT (S' := [_, _, _, _, _, _]) (vs' := [_, _, _]) [0, 1, 2, 3, 4, 5] [2, 0, 1] 0 rfl rfl rfl rfl ?_
       refine jd [] [_] rfl rfl rfl rfl rfl rfl rfl Tryz.call106 (fun w hh => Yt s_1 t67 t72 l.1 ⟨l.2.q, l.2.n, l.2.cap, l.2.sp⟩ (qA L_1.q) L_1.n L_1.cap w (HV.callee (S0 := []) (vs0 := [_]) hh (roC (hh.bsepH 3 rfl) (roC (hh.vsepA 1 rfl h39) roN))) h18 (vlen RCh h39 rfl) (AOK.q (vne h39)) (h39).hle h40) (fun l_5 h41 => ?_)
       have h42 := h41
       refine jT (S' := [_, _, _, _, _, _]) (vs' := [_, _, _]) [0, 1, 2, 3, 4, 5] [0, 1, 2] 0 rfl rfl rfl rfl (jr (hsE [0, 1, 2, 3, 4, 5] [] 0 rfl rfl rfl rfl) (jM (jt ?_)))
       obtain rfl := sj hm
       refine ja ?_
       exact jA _ () rfl (h42) (sE rfl) (hsE [2, 3, 4, 5] [0] 0 rfl rfl rfl rfl)
     ·replace hm := ifE h22 hm
      refine jS (jl (jl (jG ?_)))
      obtain rfl := sj hm
      have hbo := h19 _ rfl
      subst hbo
      exact jg s_1 (⟨rfl, h18⟩) (sE rfl) (fun w hh => hh)
    ·intro j_1 hj
     obtain ⟨h43, h17⟩ := hj
     subst h43
     replace hm := ocL h16
     refine jt (ja (jh ?_))
     obtain ⟨t74, h44, hm⟩ := bindO hm
     refine qs h44 rfl rfl rfl (je rfl rfl (jv ?_))
     obtain rfl := sj hm
     refine ja ?_
     exact jA _ () rfl (h17) (sE rfl) (fun w hh => hh)
   ·replace hm := ifE h14 hm
    refine jS (jl (jl (jG ?_)))
    obtain rfl := sj hm
    have hbo := h13 _ rfl
    subst hbo
    exact jg s.t12 (⟨rfl, h12⟩) (sE rfl) (fun w hh => hh)
  ·intro j hj
   obtain ⟨h45, h11⟩ := hj
   subst h45
   replace hm := ocL h10
   refine ja (jj (jaS (ja (jj ?_))))
   obtain ⟨o_2, h46, h47⟩ := bindO hm
   refine jF (ι := Unit) (fun l_6 => VOK 6 l.2.n l.2.cap (RWay.enc o_2) l.2.sp l.2.q) (fun l_6 => [(5, ptr b_1 0), (6, ptr l.1 0)]) (fun l_6 => [(pb, gobj (kR RPr) kB d02), (l.1, .cells #[slv l.2.q l.2.n l.2.cap] 154 (0, 0)), (b_1, .cells #[.bool false, slv none 0 0] 30 (0, 0)), (b, .cells #[.func (.func f_c1_0) fs_c1_0 cs_c1_0] 115 (0, 0))]) (fun l_6 => [⟨156, RWay.enc o_2, l.2.sp, l.2.q, []⟩]) ?_ ?_
   ·replace hm := h46
    refine jn ?_
    refine jL (ι := Unit) hm (fun s_2 l_7 => VOK 6 l.2.n l.2.cap (RWay.enc s_2) l.2.sp l.2.q) (fun s_2 l_7 => [(5, ptr b_1 0), (6, ptr l.1 0)]) (fun s_2 l_7 => [(pb, gobj (kR RPr) kB d02), (l.1, .cells #[slv l.2.q l.2.n l.2.cap] 154 (0, 0)), (b_1, .cells #[.bool false, slv none 0 0] 30 (0, 0)), (b, .cells #[.func (.func f_c1_0) fs_c1_0 cs_c1_0] 115 (0, 0))]) (fun s_2 l_7 => [⟨156, RWay.enc s_2, l.2.sp, l.2.q, []⟩]) () (h11) (sE rfl) (fun w hh => hh) (fun s_2 l_7 r_3 hpl hm h50 => ?_)
    have h49 := hpl
    unfold qI at hm
    refine jn (jq (je rfl rfl ?_))
    obtain ⟨t76, h51, hm⟩ := bindO hm
    refine jd [] [] rfl rfl rfl rfl rfl rfl rfl Tryz.call107 (fun w hh => Zw s_2 l.1 (qA l.2.q) l.2.n l.2.cap w (HV.callee (S0 := []) (vs0 := []) hh (roC (bsep (hh.bseg 1 rfl)) (roC (hh.vsepA 0 rfl h49) roN))) (vlen RWay h49 rfl) (AOK.q (vne h49)) (h49).hle h51) (fun l_8 h52 => ?_)
    obtain ⟨h53, h54⟩ := h52
    refine jT (S' := [_, _, _, _]) (vs' := [_, _]) [0, 1, 2, 3] [0, 1] 0 rfl rfl rfl rfl (jk rfl rfl (jp (jj (jq (je rfl rfl (jc rfl rfl rfl (fun w _ => ZQ h54 (Tryz.runUnderlying157 w) rfl rfl) (jp ?_)))))))
    refine js rfl (fun h55 => ?_) (fun h55 => ?_)
    ·replace hm := ifT (h55) hm
     refine jS (jl (jag rfl (jl (jG ?_))))
     obtain rfl := sj hm
     have hbo := h50 _ rfl
     subst hbo
     exact jg () (h49) (sE rfl) (hsE [0, 1, 2, 3] [1] 0 rfl rfl rfl rfl)
    ·replace hm := ifN h55 hm
     refine ju (ja (jh (je rfl rfl (je rfl rfl ?_))))
     obtain ⟨t81, h56, hm⟩ := bindO hm
     refine jT (S' := [_, _, _, _]) (vs' := [_, _]) [0, 1, 2, 3] [1, 0] 0 rfl rfl rfl rfl ?_
     refine jd [] [_] rfl rfl rfl rfl rfl rfl rfl Tryz.call106 (fun w hh => Yt s_2 t76 1000000 l.1 ⟨l.2.q, l.2.n, l.2.cap, l.2.sp⟩ (qA l_8.q) l_8.n l_8.cap w (HV.callee (S0 := []) (vs0 := [_]) hh (roC (hh.bsepH 1 rfl) (roC (hh.vsepA 0 rfl h53) roN))) h49 (vlen RCh h53 rfl) (AOK.q (vne h53)) (h53).hle h56) (fun l_9 h57 => ?_)
     have h58 := h57
     refine jT (S' := [_, _, _, _]) (vs' := [_, _]) [0, 1, 2, 3] [0, 1] 0 rfl rfl rfl rfl (jv (jt ?_))
     obtain rfl := sj hm
     refine ja ?_
     exact jA _ () rfl (h58) (sE rfl) (hsE [0, 1, 2, 3] [0] 0 rfl rfl rfl rfl)
   ·intro l_6 hj
    have h48 := hj
    replace hm := h47
    refine ja (jq (je rfl rfl (jc rfl rfl rfl (fun _ _ => jz (vs := []) (cells := [_, _]) rfl rfl) (jk rfl rfl (jy (us := #[_, _]) (cs' := [_, _]) (S' := [_, _, _, _]) 2 (fun w => Tryz.sizeOf30 w) rfl rfl rfl rfl rfl rfl rfl (jp (jw ?_)))))))
    refine jae (kC 3 ?_)
    obtain rfl := sj hm
    refine jm rfl (fun w hh => (.tmp rfl (.cell rfl (loadVar_agg (vs := [_, _]) (Tryz.isAgg30 _) (Tryz.sizeOf30 _) (hh.cells 2 rfl rfl)) .nil))) (fun w hh => ⟨(l.1, ⟨none, 0, 0, []⟩, l.2), rfl, ⟨VOK.nil, h48⟩, hh.selN [0, 1] [0, 1] (by decide) (by decide) rfl rfl⟩)
structure zM where
  t18 : Int
  out5 : (List (List Int))
def qP (t15 : (List (List Int))) (d10 : (List Strip)) (s : zM) : Option (zM ⊕ (List (List Int))) :=
 if s.t18 < (t15.length : Int) then
 ((makec 8 0 (d10.length : Int) (d10.length : Int)).bind fun t29 =>
 (ix s.out5 s.t18).bind fun t30 =>
 (some (s.out5.set (Int.toNat s.t18) t29)).bind fun out5 =>
 (addc s.t18 1).bind fun t31 =>
 some (.inl (⟨t31, out5⟩ : zM))) else
 (some (.inr s.out5))
structure yG where
  t37 : Int
  out5 : (List (List Int))
def yJ (n00 : (List Wy)) (s_1 : yG) : Option (yG ⊕ (List (List Int))) :=
 if s_1.t37 < (n00.length : Int) then
 (((ix n00 s_1.t37).bind fun t39 =>
 (if t39.fr = 0 then
 (some false) else
 (some (!decide (t39.dst = 0)))).bind fun o_3 =>
 if o_3 = true then
 ((subc t39.dst 1).bind fun t52 =>
 (subc t52 6).bind fun t53 =>
 (ix s_1.out5 t53).bind fun t54 =>
 (subc t39.fr 1).bind fun t58 =>
 (ix t54 t58).bind fun t61 =>
 (some (t54.set (Int.toNat t58) t39.goes)).bind fun row =>
 (some (s_1.out5.set (Int.toNat t53) row)).bind fun out5_1 =>
 some out5_1) else
 (some s_1.out5)).bind fun o_2 =>
 (addc s_1.t37 1).bind fun t62 =>
 some (.inl (⟨t62, o_2⟩ : yG))) else
 (some (.inr s_1.out5))
def yg (n00 : (List Wy)) (d10 : (List Strip)) (d11 : (List Span)) : Option (List (List Int)) :=
 (makec 24 ([] : (List Int)) (d11.length : Int) (d11.length : Int)).bind fun t15 =>
 (iterM FU (qP t15 d10) (⟨0, t15⟩ : zM)).bind fun o =>
 (iterM FU (yJ n00) (⟨0, o⟩ : yG)).bind fun o_1 =>
 some o_1
theorem Yh (n00 : (List Wy)) (d10 : (List Strip)) (d11 : (List Span)) (rb : Nat) (qa1 : Option Addr) (na1 ca1 : Nat) (rb_1 : Nat) (qa3 : Option Addr) (na3 ca3 : Nat) (qa4 : Option Addr) (na4 ca4 : Nat) (mv : Value) (w : World) (hw : HV w (keys [] []) [] [] [(rb, 0, [.slice qa1 na1 ca1]), (aB qa1, aO qa1, RWay.enc n00), (rb_1, 0, [.slice qa3 na3 ca3, .slice qa4 na4 ca4, mv]), (aB qa3, aO qa3, RSt.enc d10), (aB qa4, aO qa4, RSp.enc d11)] w)  (hna1 : n00.length = na1) (hqa1 : AOK na1 qa1) (hla1 : na1 ≤ ca1)  (hna3 : d10.length = na3) (hqa3 : AOK na3 qa3) (hla3 : na3 ≤ ca3) (hna4 : d11.length = na4) (hqa4 : AOK na4 qa4) (hla4 : na4 ≤ ca4) {res : (List (List Int))} (hm : yg n00 d10 d11 = some res) :
    Calls Tryz.prog 99 #[ptr rb 0, ptr rb_1 0] w (fun en w' => ∃ l : DL, en = .returned (slv l.v.q l.v.n l.v.cap) ∧ (VOK 1 l.v.n l.v.cap (RwH.enc l.rs) l.v.sp l.v.q ∧ DOK RI res l.rs) ∧ HV w (keys [] []) [] [⟨26, RwH.enc l.rs, l.v.sp, l.v.q, dbl 3 RI res l.rs⟩] [] w') := by
  unfold yg at hm
  refine j5 Tryz.func99 rfl Tryz.ntmps99 rfl (e := [(0, _), (1, _)]) rfl hw (jq (jc rfl rfl rfl (fun _ _ => kX rfl) (j0 (je rfl rfl (jc rfl rfl rfl (fun _ _ => jN rfl) (jP 0 Tryz.runUnderlying144 rfl Tryz.sizeOf25 rfl rfl (jP 1 Tryz.runUnderlying25 rfl Tryz.sizeOf23 rfl rfl ?_)))))))
  refine jc rfl rfl rfl (fun w hh => jR (Tryz.isAgg23 w) rfl (segCell (hh.seg 2 rfl) 1 rfl)) (jc rfl rfl rfl (fun w _ => jI hna4 (Tryz.runUnderlying23 w) rfl) ?_)
  obtain ⟨t15, h3, hm⟩ := bindO hm
  refine ks RwH vl0 (makecL vl0 h3) Tryz.underlying70 jaW rfl rfl rfl rfl rfl (fun L h4 => ?_)
  refine jal (E2 := 3) RI (Int.toNat (d11.length : Int)) (makecO h3).1.symm (fun h5 => ?_)
  refine jk rfl rfl (jp (jj (jq (je rfl rfl (jc rfl rfl rfl (fun w _ => Q1 (Eq.trans (h5).len (vlen RwH h4 rfl)) (Tryz.runUnderlying70 w) rfl) (je rfl rfl (jp ?_)))))))
  obtain ⟨o, h6, h7⟩ := bindO hm
  refine jF (ι := DL) (fun l => VOK 1 l.v.n l.v.cap (RwH.enc l.rs) l.v.sp l.v.q ∧ DOK RI o l.rs) (fun l => [(0, ptr rb 0), (5, slv l.v.q l.v.n l.v.cap)]) (fun l => []) (fun l => [⟨26, RwH.enc l.rs, l.v.sp, l.v.q, dbl 3 RI o l.rs⟩]) ?_ ?_
  ·replace hm := h6
   refine jn ?_
   refine jL (ι := DL) hm (fun s l_1 => VOK 1 l_1.v.n l_1.v.cap (RwH.enc l_1.rs) l_1.v.sp l_1.v.q ∧ DOK RI s.out5 l_1.rs) (fun s l_1 => [(0, ptr rb 0), (1, ptr rb_1 0), (5, slv l_1.v.q l_1.v.n l_1.v.cap), (17, .int .i64 (t15.length : Int)), (18, .int .i64 s.t18)]) (fun s l_1 => []) (fun s l_1 => [⟨26, RwH.enc l_1.rs, l_1.v.sp, l_1.v.q, dbl 3 RI s.out5 l_1.rs⟩]) (⟨⟨L.q, L.n, L.cap, L.sp⟩, (List.replicate (Int.toNat (d11.length : Int)) vl0)⟩) (⟨h4, h5⟩) (sE rfl) (fun w hh => hh) (fun s l_1 r hpl hm h12 => ?_)
   obtain ⟨h10, h11⟩ := hpl
   unfold qP at hm
   refine jq (yY rfl rfl rfl (jp (jj ?_)))
   refine js rfl (fun h13 => ?_) (fun h13 => ?_)
   ·replace hm := ifD h13 hm
    refine ju (ja (jj (jn (jq (je rfl rfl (jk rfl rfl (jp ?_)))))))
    refine jh (je rfl rfl (je rfl rfl (je rfl rfl (jc rfl rfl rfl (fun _ _ => jN rfl) (jP 0 Tryz.runUnderlying144 rfl Tryz.sizeOf25 rfl rfl (jP 0 Tryz.runUnderlying25 rfl Tryz.sizeOf22 rfl rfl (jc rfl rfl rfl (fun w hh => jR (Tryz.isAgg22 w) rfl (segCell (hh.seg 2 rfl) 0 rfl)) ?_)))))))
    refine jc rfl rfl rfl (fun w _ => jI hna3 (Tryz.runUnderlying22 w) rfl) ?_
    obtain ⟨t29, h14, hm⟩ := bindO hm
    refine ks RI 0 h14 Tryz.underlying26 JM rfl rfl rfl rfl rfl (fun L_1 h15 => ?_)
    obtain ⟨t30, h16, hm⟩ := bindO hm
    obtain ⟨L_2, h17, h18⟩ := (h11).row h16
    refine jc rfl rfl rfl (fun w _ => qx h17 (Tryz.runUnderlying70 w) (Tryz.sizeOf26 w) rfl rfl (vlen RwH h10 rfl) (vne h10)) ?_
    obtain ⟨out5, hout5, hm⟩ := bindO hm
    refine KO RwH 1 0 (⟨L_1.q, L_1.n, L_1.cap, L_1.sp⟩ : VL) (fun w => Tryz.sizeOf26 w) rfl rfl rfl rfl h10 rfl (Nat.add_zero _).symm rfl h17 rfl rfl rfl (fun h19 => ?_)
    refine jT (S' := []) (vs' := [_, _]) [] [0, 1] 0 rfl rfl rfl rfl (jT (S' := []) (vs' := [_, _]) [] [1, 0] 0 rfl rfl rfl rfl ?_)
    refine jah RI s.t18 L_1.n L_1.cap h11 h15 h16 (Option.some.inj hout5) (fun h20 => ?_)
    refine jv (jt (ja (jh ?_)))
    obtain ⟨t31, h21, hm⟩ := bindO hm
    refine qs h21 rfl rfl rfl (je rfl rfl (jv ?_))
    obtain rfl := sj hm
    refine ja ?_
    exact jA _ (⟨⟨l_1.v.q, l_1.v.n, l_1.v.cap, l_1.v.sp⟩, (l_1.rs.set (Int.toNat s.t18) (⟨L_1.q, L_1.n, L_1.cap, L_1.sp⟩ : VL))⟩) rfl (⟨h19, h20⟩) (sE rfl) (fun w hh => hh)
   ·replace hm := ifE h13 hm
    refine jS (jl (jl (jG ?_)))
    obtain rfl := sj hm
    have hbo := h12 _ rfl
    subst hbo
    exact jg l_1 (⟨h10, h11⟩) (sE rfl) (fun w hh => hh)
  ·intro l hj
   obtain ⟨h8, h9⟩ := hj
   replace hm := h7
   refine ja (jj (jq (je rfl rfl (jc rfl rfl rfl (fun _ _ => jN rfl) (jP 0 Tryz.runUnderlying154 rfl Tryz.sizeOf152 rfl rfl (jc rfl rfl rfl (fun w hh => jR (Tryz.isAgg152 w) rfl (segCell (hh.seg 0 rfl) 0 rfl)) (jc rfl rfl rfl (fun w _ => jI hna1 (Tryz.runUnderlying152 w) rfl) ?_)))))))
   refine je rfl rfl (jp ?_)
   obtain ⟨o_1, h22, h23⟩ := bindO hm
   refine jF (ι := Unit) (fun l_2 => DOK RI o_1 l.rs) (fun l_2 => [(5, slv l.v.q l.v.n l.v.cap)]) (fun l_2 => []) (fun l_2 => [⟨26, RwH.enc l.rs, l.v.sp, l.v.q, dbl 3 RI o_1 l.rs⟩]) ?_ ?_
   ·replace hm := h22
    refine jn ?_
    refine jL (ι := Unit) hm (fun s_1 l_3 => DOK RI s_1.out5 l.rs) (fun s_1 l_3 => [(5, slv l.v.q l.v.n l.v.cap), (35, .slice qa1 na1 ca1), (36, .int .i64 (n00.length : Int)), (37, .int .i64 s_1.t37)]) (fun s_1 l_3 => []) (fun s_1 l_3 => [⟨26, RwH.enc l.rs, l.v.sp, l.v.q, dbl 3 RI s_1.out5 l.rs⟩]) () (h9) (sE rfl) (fun w hh => hh) (fun s_1 l_3 r_1 hpl hm h26 => ?_)
    have h25 := hpl
    unfold yJ at hm
    refine jq (yY rfl rfl rfl (jp (jj ?_)))
    refine js rfl (fun h27 => ?_) (fun h27 => ?_)
    ·replace hm := ifD h27 hm
     refine ju (ja (jj ?_))
     obtain ⟨o_2, h28, h29⟩ := bindO hm
     refine jF (ι := Unit) (fun l_4 => DOK RI o_2 l.rs) (fun l_4 => [(5, slv l.v.q l.v.n l.v.cap), (35, .slice qa1 na1 ca1), (36, .int .i64 (n00.length : Int)), (37, .int .i64 s_1.t37)]) (fun l_4 => []) (fun l_4 => [⟨26, RwH.enc l.rs, l.v.sp, l.v.q, dbl 3 RI o_2 l.rs⟩]) ?_ ?_
     ·replace hm := h28
      refine jn (jq ?_)
      obtain ⟨t39, h31, hm⟩ := bindO hm
      refine jc rfl rfl rfl (fun w _ => ki h31 (Tryz.runUnderlying152 w) (Tryz.sizeOf156 w) rfl rfl hna1 hqa1) ?_
      refine jc rfl rfl rfl (fun w hh => kt RWay 0 [.int .i64 t39.fr, .int .i64 t39.dst, .int .i64 t39.lo, .int .i64 t39.hi, .int .i64 t39.cost, .int .i64 t39.goes] h31 (Tryz.isAgg156 w) (Tryz.sizeOf156 w) rfl (hh.seg 1 rfl) rfl (Nat.add_zero _).symm) ?_
      refine jo (fun w => Tryz.zeroValue156 w) rfl (fun b h32 => ?_)
      refine jy (us := #[_, _, _, _, _, _]) (cs' := [_, _, _, _, _, _]) (S' := [_]) 0 (fun w => Tryz.sizeOf156 w) rfl rfl rfl rfl rfl rfl rfl (jp (jj ?_))
      obtain ⟨o_3, h33, h34⟩ := bindO hm
      refine jF (ι := Unit) (fun l_5 => True) (fun l_5 => [(5, slv l.v.q l.v.n l.v.cap), (8, ptr b 0), (35, .slice qa1 na1 ca1), (36, .int .i64 (n00.length : Int)), (37, .int .i64 s_1.t37), (48, .bool o_3)]) (fun l_5 => [(b, .cells #[.int .i64 t39.fr, .int .i64 t39.dst, .int .i64 t39.lo, .int .i64 t39.hi, .int .i64 t39.cost, .int .i64 t39.goes] 156 (0, 0))]) (fun l_5 => [⟨26, RwH.enc l.rs, l.v.sp, l.v.q, dbl 3 RI s_1.out5 l.rs⟩]) ?_ ?_
      ·replace hm := h33
       refine jh (jP 0 Tryz.runUnderlying156 rfl Tryz.sizeOf3 rfl rfl (jY 0 Tryz.isAgg3 rfl rfl rfl rfl (jc rfl rfl rfl (fun _ _ => q8 rfl rfl) (je rfl rfl ?_))))
       refine jJ 44 rfl (fun h35 => ?_) (fun h35 => ?_)
       ·replace hm := ifF (of_ndec_true h35) hm
        refine jb rfl rfl (jP 1 Tryz.runUnderlying156 rfl Tryz.sizeOf3 rfl rfl (jb rfl rfl (jY 0 Tryz.isAgg3 rfl rfl rfl rfl (jb rfl rfl (jc rfl rfl rfl (fun _ _ => q8 rfl rfl) (kx rfl rfl rfl (jv ?_)))))))
        obtain rfl := sj hm
        exact jg () (trivial) (sE rfl) (fun w hh => hh)
       ·replace hm := ifT (of_ndec_false h35) hm
        refine g_k rfl rfl rfl rfl (g_k rfl rfl rfl rfl (g_k rfl rfl rfl rfl (j3 rfl rfl rfl (jv ?_))))
        obtain rfl := sj hm
        exact jg () (trivial) (sE rfl) (fun w hh => hh)
      ·intro l_5 hj
       replace hm := h34
       refine ja ?_
       refine js rfl (fun h36 => ?_) (fun h36 => ?_)
       ·replace hm := ifT (h36) hm
        refine jX (some 13) (.free 0 (.free 1 (.hoist 2 (.free 3 (.free 4 (.free 5 (.hoist 6 (.free 7 (.hoist 8 (.free 9 (.free 10 (.hoist 11 (.free 12 (.last 13 .done)))))))))))))) _ rfl (by decide +kernel) (fun w k hh => hh.draw k) (fun w hh => hh) ?_
        refine ku rfl rfl rfl (k5 1 Tryz.runUnderlying156 Tryz.sizeOf3 rfl rfl rfl rfl (qY 0 Tryz.isAgg3 rfl rfl rfl rfl rfl ?_))
        obtain ⟨t52, h37, hm⟩ := bindO hm
        refine ji rfl rfl rfl rfl (fun _ _ => yb h37 rfl rfl) ?_
        obtain ⟨t53, h38, hm⟩ := bindO hm
        refine ji rfl rfl rfl rfl (fun _ _ => yb h38 rfl rfl) ?_
        obtain ⟨t54, h39, hm⟩ := bindO hm
        obtain ⟨L_3, h40, h41⟩ := (h25).row h39
        refine ji rfl rfl rfl rfl (fun w _ => qx h40 (Tryz.runUnderlying70 w) (Tryz.sizeOf26 w) rfl rfl (vlen RwH h8 rfl) (vne h8)) (jD rfl rfl rfl rfl (fun w hh => kl RwH 0 h40 (Tryz.isAgg26 w) rfl (hh.vseg 0 rfl h8) rfl (Nat.add_zero _).symm) (k5 0 Tryz.runUnderlying156 Tryz.sizeOf3 rfl rfl rfl rfl (qY 0 Tryz.isAgg3 rfl rfl rfl rfl rfl ?_)))
        obtain ⟨t58, h42, hm⟩ := bindO hm
        refine ji rfl rfl rfl rfl (fun _ _ => yb h42 rfl rfl) (k5 5 Tryz.runUnderlying156 Tryz.sizeOf3 rfl rfl rfl rfl (qY 0 Tryz.isAgg3 rfl rfl rfl rfl rfl ?_))
        obtain ⟨t61, h43, hm⟩ := bindO hm
        refine ji rfl rfl rfl rfl (fun w _ => qx h43 (Tryz.runUnderlying26 w) (Tryz.sizeOf3 w) rfl rfl (vlen RI h41 rfl) (vne h41)) (Q2 rfl ?_)
        obtain ⟨row, hrow, hm⟩ := bindO hm
        obtain ⟨out5_1, hout5_1, hm⟩ := bindO hm
        refine jT (S' := [_]) (vs' := [_]) [0] [0] 0 rfl rfl rfl rfl ?_
        refine jaN RI t53 h25 h39 h40 (fun _ => ?_)
        refine KO RI 1 0 t39.goes (fun w => Tryz.sizeOf3 w) rfl rfl rfl rfl h41 rfl (Nat.add_zero _).symm rfl h43 rfl rfl (Option.some.inj hrow) (fun h44 => ?_)
        refine jT (S' := [_]) (vs' := [_, _]) [0] [0, 1] 0 rfl rfl rfl rfl ?_
        refine ja6 RI t53 h25 h39 h40 h44 (Option.some.inj hout5_1) (fun h45 => ?_)
        refine K0 (jM (jt ?_))
        obtain rfl := sj hm
        exact jg () (h45) (sE rfl) (hsE [] [0] 0 rfl rfl rfl rfl)
       ·replace hm := ifN h36 hm
        refine ju (jt ?_)
        obtain rfl := sj hm
        exact jg () (h25) (sE rfl) (hsE [] [0] 0 rfl rfl rfl rfl)
     ·intro l_4 hj
      have h30 := hj
      replace hm := h29
      refine ja (jh ?_)
      obtain ⟨t62, h46, hm⟩ := bindO hm
      refine qs h46 rfl rfl rfl (je rfl rfl (jv ?_))
      obtain rfl := sj hm
      refine ja ?_
      exact jA _ () rfl (h30) (sE rfl) (fun w hh => hh)
    ·replace hm := ifE h27 hm
     refine jS (jl (jl (jG ?_)))
     obtain rfl := sj hm
     have hbo := h26 _ rfl
     subst hbo
     exact jg () (h25) (sE rfl) (fun w hh => hh)
   ·intro l_2 hj
    have h24 := hj
    replace hm := h23
    refine ja (jq (je rfl rfl (jk rfl rfl (jp (jw ?_)))))
    obtain rfl := sj hm
    refine jm rfl (fun w hh => (.tmp rfl .nil)) (fun w hh => ⟨l, rfl, ⟨h8, h24⟩, hh.se [] [0] 5 rfl rfl rfl rfl⟩)
end Go.Proofs.Ws

namespace Go.Proofs.Ws
set_option maxHeartbeats 4000000
set_option maxRecDepth 100000
open Go Go.Fw Go.Gx Go.Sp
set_option linter.unusedVariables false
structure zS where
  sum3 : Int
  t11 : Int
def zR (n00 : (List Wy)) (s : zS) : Option (zS ⊕ Int) :=
 if s.t11 < (n00.length : Int) then
 ((ix n00 s.t11).bind fun t13 =>
 (mulc t13.cost t13.goes).bind fun t20 =>
 (addc s.sum3 t20).bind fun t21 =>
 (addc s.t11 1).bind fun t22 =>
 some (.inl (⟨t21, t22⟩ : zS))) else
 (some (.inr s.sum3))
def yI (n00 : (List Wy)) : Option Int :=
 (iterM FU (zR n00) (⟨0, 0⟩ : zS)).bind fun o =>
 some o
theorem Qd (n00 : (List Wy)) (rb : Nat) (qa1 : Option Addr) (na1 ca1 : Nat) (w : World) (hw : HV w (keys [] []) [] [] [(rb, 0, [.slice qa1 na1 ca1]), (aB qa1, aO qa1, RWay.enc n00)] w)  (hna1 : n00.length = na1) (hqa1 : AOK na1 qa1) (hla1 : na1 ≤ ca1) {res : Int} (hm : yI n00 = some res) :
    Calls Tryz.prog 100 #[ptr rb 0] w (fun en w' => ∃ l : Unit, en = .returned (.int .i64 res) ∧ (True) ∧ HV w (keys [] []) [] [] [] w') := by
  unfold yI at hm
  refine j5 Tryz.func100 rfl Tryz.ntmps100 rfl (e := [(0, _)]) rfl hw (jq (jk rfl rfl (j0 (jk rfl rfl (jp (jj (jq ?_)))))))
  refine je rfl rfl (jc rfl rfl rfl (fun _ _ => jN rfl) (jP 0 Tryz.runUnderlying154 rfl Tryz.sizeOf152 rfl rfl (jc rfl rfl rfl (fun w hh => jR (Tryz.isAgg152 w) rfl (segCell (hh.seg 0 rfl) 0 rfl)) (jc rfl rfl rfl (fun w _ => jI hna1 (Tryz.runUnderlying152 w) rfl) (je rfl rfl (jp ?_))))))
  obtain ⟨o, h1, h2⟩ := bindO hm
  refine jF (ι := Unit) (fun l => True) (fun l => [(3, .int .i64 o)]) (fun l => []) (fun l => []) ?_ ?_
  ·replace hm := h1
   refine jn ?_
   refine jL (ι := Unit) hm (fun s l_1 => True) (fun s l_1 => [(3, .int .i64 s.sum3), (9, .slice qa1 na1 ca1), (10, .int .i64 (n00.length : Int)), (11, .int .i64 s.t11)]) (fun s l_1 => []) (fun s l_1 => []) () (trivial) (sE rfl) (fun w hh => hh) (fun s l_1 r hpl hm h3 => ?_)
   unfold zR at hm
   refine jq (yY rfl rfl rfl (jp (jj ?_)))
   refine js rfl (fun h4 => ?_) (fun h4 => ?_)
   ·replace hm := ifD h4 hm
    refine ju (ja (jj (jn (jq ?_))))
    obtain ⟨t13, h5, hm⟩ := bindO hm
    refine jc rfl rfl rfl (fun w _ => ki h5 (Tryz.runUnderlying152 w) (Tryz.sizeOf156 w) rfl rfl hna1 hqa1) ?_
    refine jc rfl rfl rfl (fun w hh => kt RWay 0 [.int .i64 t13.fr, .int .i64 t13.dst, .int .i64 t13.lo, .int .i64 t13.hi, .int .i64 t13.cost, .int .i64 t13.goes] h5 (Tryz.isAgg156 w) (Tryz.sizeOf156 w) rfl (hh.seg 1 rfl) rfl (Nat.add_zero _).symm) ?_
    refine jo (fun w => Tryz.zeroValue156 w) rfl (fun b h6 => ?_)
    refine jy (us := #[_, _, _, _, _, _]) (cs' := [_, _, _, _, _, _]) (S' := [_]) 0 (fun w => Tryz.sizeOf156 w) rfl rfl rfl rfl rfl rfl rfl (jp (jh (je rfl rfl (jP 4 Tryz.runUnderlying156 rfl Tryz.sizeOf3 rfl rfl (jY 0 Tryz.isAgg3 rfl rfl rfl rfl (jP 5 Tryz.runUnderlying156 rfl Tryz.sizeOf3 rfl rfl (jY 0 Tryz.isAgg3 rfl rfl rfl rfl ?_)))))))
    obtain ⟨t20, h7, hm⟩ := bindO hm
    refine jc rfl rfl rfl (fun _ _ => Yn h7 rfl rfl) ?_
    obtain ⟨t21, h8, hm⟩ := bindO hm
    refine qs h8 rfl rfl rfl (jk rfl rfl (jv (jt (ja (jh ?_)))))
    obtain ⟨t22, h9, hm⟩ := bindO hm
    refine qs h9 rfl rfl rfl (je rfl rfl (jv ?_))
    obtain rfl := sj hm
    refine ja ?_
    exact jA _ () rfl (trivial) (sE rfl) (hsE [] [] 0 rfl rfl rfl rfl)
   ·replace hm := ifE h4 hm
    refine jS (jl (jl (jG ?_)))
    obtain rfl := sj hm
    have hbo := h3 _ rfl
    subst hbo
    exact jg () (trivial) (sE rfl) (fun w hh => hh)
  ·intro l hj
   replace hm := h2
   refine ja (jq (je rfl rfl (jk rfl rfl (jp (jw ?_)))))
   obtain rfl := sj hm
   refine jm rfl (fun w hh => (.tmp rfl .nil)) (fun w hh => ⟨(), rfl, trivial, hh.se [] [] 2 rfl rfl rfl rfl⟩)
structure Jx where
  r1 : Int
  r2 : Int
  r0 : (List (List Int))
def QB (s0 : Scalps) : Option Jx :=
 (kv s0).bind fun t11 =>
 oc t11 (fun t11a => some (⟨0, t11a, ([] : List (List Int))⟩ : Jx)) (fun t11b => (K5 s0.strips s0.carried).bind fun t20 =>
 (j4 s0.strips s0.carried t11b (fun p : Pair => j8 p s0.strips s0.carried)).bind fun t21 =>
 oc t21 (fun t21a => some (⟨0, 7, ([] : List (List Int))⟩ : Jx)) (fun t21b => (yg t21b.t12 s0.strips s0.carried).bind fun t28 =>
 (yI t21b.t12).bind fun t30 =>
 some (⟨t30, 0, t28⟩ : Jx)))
theorem Zr (s0 : Scalps) (qa0 : Option Addr) (na0 ca0 : Nat) (qa1 : Option Addr) (na1 ca1 : Nat) (w : World) (hw : HV w (keys [] []) [] [] [(aB qa0, aO qa0, RSt.enc s0.strips), (aB qa1, aO qa1, RSp.enc s0.carried)] w) (hna0 : s0.strips.length = na0) (hqa0 : AOK na0 qa0) (hla0 : na0 ≤ ca0) (hna1 : s0.carried.length = na1) (hqa1 : AOK na1 qa1) (hla1 : na1 ≤ ca1) {res : Jx} (hm : QB s0 = some res) :
    Calls Tryz.prog 45 #[.agg #[.slice qa0 na0 ca0, .slice qa1 na1 ca1]] w (fun en w' => ∃ l : DL, en = .returned (.tuple #[slv l.v.q l.v.n l.v.cap, .int .i64 res.r1, .int .i64 res.r2]) ∧ (VOK 1 l.v.n l.v.cap (RwH.enc l.rs) l.v.sp l.v.q ∧ DOK RI res.r0 l.rs) ∧ HV w (keys [] []) [] [⟨26, RwH.enc l.rs, l.v.sp, l.v.q, dbl 3 RI res.r0 l.rs⟩] [] w') := by
  unfold QB at hm
  refine j5 Tryz.func45 rfl Tryz.ntmps45 rfl (e := [(0, _)]) rfl hw (jq ?_)
  refine jC rfl rfl (fun b h3 => ?_)
  refine jc rfl rfl rfl (fun _ _ => kX rfl) (jk rfl rfl (jk rfl rfl (j0 (kD [_, _] 0 Tryz.isAgg25 Tryz.sizeOf25 rfl rfl rfl rfl ?_))))
  obtain ⟨t11, h4, hm⟩ := bindO hm
  rcases t11 with t11a | t11b
  ·replace hm := ocL hm
   refine jd [] [] rfl rfl rfl rfl rfl rfl rfl Tryz.call57 (fun w hh => kh s0 qa0 na0 ca0 qa1 na1 ca1 w (HV.callee (S0 := []) (vs0 := []) hh (roR hh 0 rfl (roR hh 1 rfl roN))) hna0 hqa0 hla0 hna1 hqa1 hla1 h4) (fun l h5 => ?_)
   have h6 := h5
   refine je rfl rfl (kp rfl rfl rfl (kp rfl rfl rfl (jk rfl rfl (jk rfl rfl (jp (jj (jq ?_)))))))
   refine je rfl rfl (jc rfl rfl rfl (fun _ _ => QI h6 rfl rfl) (jp (zd rfl rfl (jq (je rfl rfl (jc rfl rfl rfl (fun _ _ => kX rfl) (jk rfl rfl ?_)))))))
   refine jk rfl rfl (jp (jw (jf (kC 26 ?_))))
   obtain rfl := sj hm
   refine jm rfl (fun w hh => (.tmp rfl (.tmp rfl (.tmp rfl .nil)))) (fun w hh => ⟨⟨⟨none, 0, 0, []⟩, []⟩, rfl, ⟨VOK.nil, DOK.nil⟩, hh.se [] [0] 2 rfl rfl rfl rfl⟩)
  ·replace hm := ocR hm
   refine jd [] [] rfl rfl rfl rfl rfl rfl rfl Tryz.call57 (fun w hh => kh s0 qa0 na0 ca0 qa1 na1 ca1 w (HV.callee (S0 := []) (vs0 := []) hh (roR hh 0 rfl (roR hh 1 rfl roN))) hna0 hqa0 hla0 hna1 hqa1 hla1 h4) (fun l_1 h7 => ?_)
   refine jT (S' := [_, _, _]) (vs' := []) [0, 1, 2] [] 0 rfl rfl rfl rfl (je rfl rfl (kp rfl rfl rfl (kp rfl rfl rfl (jk rfl rfl (jk rfl rfl (jp (jj ?_)))))))
   refine jq (je rfl rfl (jc rfl rfl rfl (fun _ _ => q8 rfl rfl) (jp (qW rfl rfl (ju (ja (jq ?_)))))))
   refine je rfl rfl (je rfl rfl ?_)
   obtain ⟨t20, h8, hm⟩ := bindO hm
   refine jd [] [] rfl rfl rfl rfl rfl rfl rfl Tryz.call59 (fun w hh => Yk s0.strips s0.carried l_1.1 qa0 na0 ca0 qa1 na1 ca1 (.map (some l_1.2)) w (HV.callee (S0 := []) (vs0 := []) hh (roC (bsep (hh.bseg 0 rfl)) (roR hh 0 rfl (roR hh 1 rfl roN)))) hna0 hqa0 hla0 hna1 hqa1 hla1 h8) (fun l_2 h9 => ?_)
   refine jT (S' := [_, _, _, _]) (vs' := []) [0, 1, 2, 3] [] 0 rfl rfl rfl rfl ?_
   obtain ⟨t21, h10, hm⟩ := bindO hm
   rcases t21 with t21a | t21b
   ·replace hm := ocL hm
    refine jT (S' := [_, _, _, _]) (vs' := []) [2, 0, 1, 3] [] 0 rfl rfl rfl rfl ?_
    refine jd [_] [] rfl rfl rfl rfl rfl rfl rfl Tryz.call58 (fun w hh => kq s0.strips s0.carried t11b (fun p : Pair => j8 p s0.strips s0.carried) l_1.1 qa0 na0 ca0 qa1 na1 ca1 l_1.2 120 (#[]) (#[ptr l_2 0]) ([(l_2, 0, [.func (.func 83) #[ptr l_1.1 0] #[]]), (l_1.1, 0, [.slice qa0 na0 ca0, .slice qa1 na1 ca1, .map (some l_1.2)]), (aB qa0, aO qa0, RSt.enc s0.strips), (aB qa1, aO qa1, RSp.enc s0.carried)]) w (HV.callee (S0 := [_]) (vs0 := []) hh (roA (roC (hh.bsepH 1 rfl) (roR hh 0 rfl (roR hh 1 rfl roN))) (roC (hh.bsepH 0 rfl) (roC (hh.bsepH 1 rfl) (roR hh 0 rfl (roR hh 1 rfl roN)))))) hna0 hqa0 hla0 hna1 hqa1 hla1 (⟨fun a w => Tryz.call120 a w, (fun p r hr w hT => clRet (JZ p s0.strips s0.carried l_2 l_1.1 qa0 na0 ca0 qa1 na1 ca1 (.map (some l_1.2)) w (HVstart hT) hna0 hqa0 hla0 hna1 hqa1 hla1 hr))⟩ : ClOK Tryz.prog 120 #[] #[ptr l_2 0] ([(l_2, 0, [.func (.func 83) #[ptr l_1.1 0] #[]]), (l_1.1, 0, [.slice qa0 na0 ca0, .slice qa1 na1 ca1, .map (some l_1.2)]), (aB qa0, aO qa0, RSt.enc s0.strips), (aB qa1, aO qa1, RSp.enc s0.carried)]) (fun x : Pair => [.agg #[.int .i64 x.tenant, .int .i64 x.strip]]) (fun x : Int => .int .i64 x) (fun p : Pair => j8 p s0.strips s0.carried)) h10) (fun l_3 h11 => ?_)
    have h12 := h11
    refine jT (S' := [_, _, _, _]) (vs' := [_]) [0, 1, 2, 3] [0] 0 rfl rfl rfl rfl (je rfl rfl (kp rfl rfl rfl (kp rfl rfl rfl ?_)))
    refine jo (fun w => Tryz.zeroValue30 w) rfl (fun b_1 h13 => ?_)
    refine jk rfl rfl (jy (us := #[_, _]) (cs' := [_, _]) (S' := [_, _, _, _, _]) 0 (fun w => Tryz.sizeOf30 w) rfl rfl rfl rfl rfl rfl rfl (jp (jj (jq (je rfl rfl (jc rfl rfl rfl (fun w _ => JN (Tryz.runUnderlying110 w) rfl rfl) (jp ?_)))))))
    refine zd rfl rfl (jq (jc rfl rfl rfl (fun _ _ => kX rfl) (jk rfl rfl (jk rfl rfl (jp (jw (jf ?_)))))))
    refine kC 26 ?_
    obtain rfl := sj hm
    refine jm rfl (fun w hh => (.tmp rfl (.tmp rfl (.tmp rfl .nil)))) (fun w hh => ⟨⟨⟨none, 0, 0, []⟩, []⟩, rfl, ⟨VOK.nil, DOK.nil⟩, hh.se [] [0] 2 rfl rfl rfl rfl⟩)
   ·replace hm := ocR hm
    refine jT (S' := [_, _, _, _]) (vs' := []) [2, 0, 1, 3] [] 0 rfl rfl rfl rfl ?_
    refine jd [_] [] rfl rfl rfl rfl rfl rfl rfl Tryz.call58 (fun w hh => kq s0.strips s0.carried t11b (fun p : Pair => j8 p s0.strips s0.carried) l_1.1 qa0 na0 ca0 qa1 na1 ca1 l_1.2 120 (#[]) (#[ptr l_2 0]) ([(l_2, 0, [.func (.func 83) #[ptr l_1.1 0] #[]]), (l_1.1, 0, [.slice qa0 na0 ca0, .slice qa1 na1 ca1, .map (some l_1.2)]), (aB qa0, aO qa0, RSt.enc s0.strips), (aB qa1, aO qa1, RSp.enc s0.carried)]) w (HV.callee (S0 := [_]) (vs0 := []) hh (roA (roC (hh.bsepH 1 rfl) (roR hh 0 rfl (roR hh 1 rfl roN))) (roC (hh.bsepH 0 rfl) (roC (hh.bsepH 1 rfl) (roR hh 0 rfl (roR hh 1 rfl roN)))))) hna0 hqa0 hla0 hna1 hqa1 hla1 (⟨fun a w => Tryz.call120 a w, (fun p r hr w hT => clRet (JZ p s0.strips s0.carried l_2 l_1.1 qa0 na0 ca0 qa1 na1 ca1 (.map (some l_1.2)) w (HVstart hT) hna0 hqa0 hla0 hna1 hqa1 hla1 hr))⟩ : ClOK Tryz.prog 120 #[] #[ptr l_2 0] ([(l_2, 0, [.func (.func 83) #[ptr l_1.1 0] #[]]), (l_1.1, 0, [.slice qa0 na0 ca0, .slice qa1 na1 ca1, .map (some l_1.2)]), (aB qa0, aO qa0, RSt.enc s0.strips), (aB qa1, aO qa1, RSp.enc s0.carried)]) (fun x : Pair => [.agg #[.int .i64 x.tenant, .int .i64 x.strip]]) (fun x : Int => .int .i64 x) (fun p : Pair => j8 p s0.strips s0.carried)) h10) (fun l_4 h14 => ?_)
    obtain ⟨h15, h16⟩ := h14
    refine jT (S' := [_, _, _, _, _]) (vs' := [_, _]) [0, 1, 2, 3, 4] [0, 1] 0 rfl rfl rfl rfl (je rfl rfl (kp rfl rfl rfl (kp rfl rfl rfl ?_)))
    refine jo (fun w => Tryz.zeroValue30 w) rfl (fun b_2 h17 => ?_)
    refine jk rfl rfl (jy (us := #[_, _]) (cs' := [_, _]) (S' := [_, _, _, _, _, _]) 0 (fun w => Tryz.sizeOf30 w) rfl rfl rfl rfl rfl rfl rfl (jp (jj (jq (je rfl rfl (jc rfl rfl rfl (fun w _ => JN (Tryz.runUnderlying110 w) rfl rfl) (jp ?_)))))))
    refine qW rfl rfl (ju (ja (jq (je rfl rfl (je rfl rfl ?_)))))
    obtain ⟨t28, h18, hm⟩ := bindO hm
    refine jd [] [] rfl rfl rfl rfl rfl rfl rfl Tryz.call99 (fun w hh => Yh t21b.t12 s0.strips s0.carried l_4.1 (qA l_4.2.2.q) l_4.2.2.n l_4.2.2.cap l_1.1 qa0 na0 ca0 qa1 na1 ca1 (.map (some l_1.2)) w (HV.callee (S0 := []) (vs0 := []) hh (roC (bsep (hh.bseg 2 rfl)) (roC (hh.vsepA 1 rfl h16) (roC (bsep (hh.bseg 4 rfl)) (roR hh 0 rfl (roR hh 1 rfl roN)))))) (vlen RWay h16 rfl) (AOK.q (vne h16)) (h16).hle hna0 hqa0 hla0 hna1 hqa1 hla1 h18) (fun l_5 h19 => ?_)
    obtain ⟨h20, h21⟩ := h19
    refine jT (S' := [_, _, _, _, _, _]) (vs' := [_, _, _]) [0, 1, 2, 3, 4, 5] [0, 1, 2] 0 rfl rfl rfl rfl (je rfl rfl ?_)
    obtain ⟨t30, h22, hm⟩ := bindO hm
    refine jd [] [] rfl rfl rfl rfl rfl rfl rfl Tryz.call100 (fun w hh => Qd t21b.t12 l_4.1 (qA l_4.2.2.q) l_4.2.2.n l_4.2.2.cap w (HV.callee (S0 := []) (vs0 := []) hh (roC (bsep (hh.bseg 2 rfl)) (roC (hh.vsepA 2 rfl h16) roN))) (vlen RWay h16 rfl) (AOK.q (vne h16)) (h16).hle h22) (fun l_6 h23 => ?_)
    refine jk rfl rfl (jk rfl rfl (jk rfl rfl (jp (jw ?_))))
    obtain rfl := sj hm
    refine jm rfl (fun w hh => (.tmp rfl (.tmp rfl (.tmp rfl .nil)))) (fun w hh => ⟨l_5, rfl, ⟨h20, h21⟩, hh.se [] [0] 2 rfl rfl rfl rfl⟩)
def zz (p0 : Pair) (a110 : (Pair → Option Int)) : Option Int :=
 (a110 p0).bind fun t7 =>
 (negc t7).bind fun t8 =>
 some t8
theorem YP (p0 : Pair) (a110 : (Pair → Option Int)) (rb : Nat) (f_a110 : FuncId) (fs_a110 cs_a110 : Array Value) (T_a110 : List Sg) (w : World) (hw : HV w (keys [] []) [] [] ([(rb, 0, [.func (.func f_a110) fs_a110 cs_a110])] ++ T_a110) w)  (hcl_a110 : ClOK Tryz.prog f_a110 fs_a110 cs_a110 T_a110 (fun x : Pair => [.agg #[.int .i64 x.tenant, .int .i64 x.strip]]) (fun x : Int => .int .i64 x) a110) {res : Int} (hm : zz p0 a110 = some res) :
    Calls Tryz.prog 101 #[.agg #[.int .i64 p0.tenant, .int .i64 p0.strip], ptr rb 0] w (fun en w' => ∃ l : Unit, en = .returned (.int .i64 res) ∧ (True) ∧ HV w (keys [] []) [] [] [] w') := by
  unfold zz at hm
  refine j5 Tryz.func101 rfl Tryz.ntmps101 rfl (e := [(0, _), (1, _)]) rfl hw (jq ?_)
  refine jC rfl rfl (fun b h1 => ?_)
  refine jk rfl rfl (j0 (jP 0 Tryz.runUnderlying115 rfl Tryz.sizeOf113 rfl rfl (jc rfl rfl rfl (fun w hh => jR (Tryz.isAgg113 w) rfl (segCell (hh.seg 0 rfl) 0 rfl)) (kD [_, _] 0 Tryz.isAgg126 Tryz.sizeOf126 rfl rfl rfl rfl ?_))))
  obtain ⟨t7, h2, hm⟩ := bindO hm
  refine YT hcl_a110 (fun t ht => (List.mem_cons_of_mem _ ht)) h2 rfl rfl rfl rfl rfl rfl ?_
  obtain ⟨t8, h3, hm⟩ := bindO hm
  refine jc rfl rfl rfl (fun _ _ => Zm h3 rfl) (jk rfl rfl (jp (jw ?_)))
  obtain rfl := sj hm
  refine jm rfl (fun w hh => (.tmp rfl .nil)) (fun w hh => ⟨(), rfl, trivial, hh.selN [] [] (by decide) (by decide) rfl rfl⟩)
structure Kg where
  r1 : Int
  r2 : Int
  r0 : (List (List Int))
def Y0 (s0 : Scalps) : Option Kg :=
 (kv s0).bind fun t12 =>
 oc t12 (fun t12a => some (⟨0, t12a, ([] : List (List Int))⟩ : Kg)) (fun t12b => (K5 s0.strips s0.carried).bind fun t19 =>
 (j4 s0.strips s0.carried t12b (fun p : Pair => zz p (fun p_1 : Pair => j8 p_1 s0.strips s0.carried))).bind fun t24 =>
 oc t24 (fun t24a => some (⟨0, 7, ([] : List (List Int))⟩ : Kg)) (fun t24b => (yg t24b.t12 s0.strips s0.carried).bind fun t31 =>
 (yI t24b.t12).bind fun t33 =>
 (negc t33).bind fun t34 =>
 some (⟨t34, 0, t31⟩ : Kg)))
theorem jay (s0 : Scalps) (qa0 : Option Addr) (na0 ca0 : Nat) (qa1 : Option Addr) (na1 ca1 : Nat) (w : World) (hw : HV w (keys [] []) [] [] [(aB qa0, aO qa0, RSt.enc s0.strips), (aB qa1, aO qa1, RSp.enc s0.carried)] w) (hna0 : s0.strips.length = na0) (hqa0 : AOK na0 qa0) (hla0 : na0 ≤ ca0) (hna1 : s0.carried.length = na1) (hqa1 : AOK na1 qa1) (hla1 : na1 ≤ ca1) {res : Kg} (hm : Y0 s0 = some res) :
    Calls Tryz.prog 47 #[.agg #[.slice qa0 na0 ca0, .slice qa1 na1 ca1]] w (fun en w' => ∃ l : DL, en = .returned (.tuple #[slv l.v.q l.v.n l.v.cap, .int .i64 res.r1, .int .i64 res.r2]) ∧ (VOK 1 l.v.n l.v.cap (RwH.enc l.rs) l.v.sp l.v.q ∧ DOK RI res.r0 l.rs) ∧ HV w (keys [] []) [] [⟨26, RwH.enc l.rs, l.v.sp, l.v.q, dbl 3 RI res.r0 l.rs⟩] [] w') := by
  unfold Y0 at hm
  refine j5 Tryz.func47 rfl Tryz.ntmps47 rfl (e := [(0, _)]) rfl hw (jq ?_)
  refine jC rfl rfl (fun b h3 => ?_)
  refine jc rfl rfl rfl (fun _ _ => kX rfl) (jk rfl rfl (jk rfl rfl (j0 (kD [_, _] 0 Tryz.isAgg25 Tryz.sizeOf25 rfl rfl rfl rfl ?_))))
  obtain ⟨t12, h4, hm⟩ := bindO hm
  rcases t12 with t12a | t12b
  ·replace hm := ocL hm
   refine jd [] [] rfl rfl rfl rfl rfl rfl rfl Tryz.call57 (fun w hh => kh s0 qa0 na0 ca0 qa1 na1 ca1 w (HV.callee (S0 := []) (vs0 := []) hh (roR hh 0 rfl (roR hh 1 rfl roN))) hna0 hqa0 hla0 hna1 hqa1 hla1 h4) (fun l h5 => ?_)
   have h6 := h5
   refine je rfl rfl (kp rfl rfl rfl (kp rfl rfl rfl (jk rfl rfl (jk rfl rfl (jp (jj (jq ?_)))))))
   refine je rfl rfl (jc rfl rfl rfl (fun _ _ => QI h6 rfl rfl) (jp (zd rfl rfl (jq (je rfl rfl (jc rfl rfl rfl (fun _ _ => kX rfl) (jk rfl rfl ?_)))))))
   refine jk rfl rfl (jp (jw (jf (kC 26 ?_))))
   obtain rfl := sj hm
   refine jm rfl (fun w hh => (.tmp rfl (.tmp rfl (.tmp rfl .nil)))) (fun w hh => ⟨⟨⟨none, 0, 0, []⟩, []⟩, rfl, ⟨VOK.nil, DOK.nil⟩, hh.se [] [0] 2 rfl rfl rfl rfl⟩)
  ·replace hm := ocR hm
   refine jd [] [] rfl rfl rfl rfl rfl rfl rfl Tryz.call57 (fun w hh => kh s0 qa0 na0 ca0 qa1 na1 ca1 w (HV.callee (S0 := []) (vs0 := []) hh (roR hh 0 rfl (roR hh 1 rfl roN))) hna0 hqa0 hla0 hna1 hqa1 hla1 h4) (fun l_1 h7 => ?_)
   refine jT (S' := [_, _, _]) (vs' := []) [0, 1, 2] [] 0 rfl rfl rfl rfl (je rfl rfl (kp rfl rfl rfl (kp rfl rfl rfl (jk rfl rfl (jk rfl rfl (jp (jj ?_)))))))
   refine jq (je rfl rfl (jc rfl rfl rfl (fun _ _ => q8 rfl rfl) (jp (qW rfl rfl (ju (ja (jq ?_)))))))
   refine je rfl rfl ?_
   obtain ⟨t19, h8, hm⟩ := bindO hm
   refine jd [] [] rfl rfl rfl rfl rfl rfl rfl Tryz.call59 (fun w hh => Yk s0.strips s0.carried l_1.1 qa0 na0 ca0 qa1 na1 ca1 (.map (some l_1.2)) w (HV.callee (S0 := []) (vs0 := []) hh (roC (bsep (hh.bseg 0 rfl)) (roR hh 0 rfl (roR hh 1 rfl roN)))) hna0 hqa0 hla0 hna1 hqa1 hla1 h8) (fun l_2 h9 => ?_)
   refine jT (S' := [_, _, _, _]) (vs' := []) [0, 1, 2, 3] [] 0 rfl rfl rfl rfl ?_
   refine jo (fun w => Tryz.zeroValue115 w) rfl (fun b_1 h10 => ?_)
   refine jy (us := #[_]) (cs' := [_]) (S' := [_, _, _, _, _]) 0 (fun w => Tryz.sizeOf115 w) rfl rfl rfl rfl rfl rfl rfl (j0 (je rfl rfl (jc rfl rfl rfl (fun _ _ => jK (u := #[]) (u' := #[_]) rfl rfl) (jc rfl rfl rfl (fun _ _ => jz (vs := [(0, _)]) (cells := [_]) rfl rfl) ?_))))
   obtain ⟨t24, h11, hm⟩ := bindO hm
   rcases t24 with t24a | t24b
   ·replace hm := ocL hm
    refine jT (S' := [_, _, _, _, _]) (vs' := []) [3, 0, 1, 2, 4] [] 0 rfl rfl rfl rfl ?_
    refine jd [_] [] rfl rfl rfl rfl rfl rfl rfl Tryz.call58 (fun w hh => kq s0.strips s0.carried t12b (fun p : Pair => zz p (fun p_1 : Pair => j8 p_1 s0.strips s0.carried)) l_1.1 qa0 na0 ca0 qa1 na1 ca1 l_1.2 101 (#[]) (#[ptr b_1 0]) ([(b_1, 0, [.func (.func 120) #[] #[ptr l_2 0]])] ++ [(l_2, 0, [.func (.func 83) #[ptr l_1.1 0] #[]]), (l_1.1, 0, [.slice qa0 na0 ca0, .slice qa1 na1 ca1, .map (some l_1.2)]), (aB qa0, aO qa0, RSt.enc s0.strips), (aB qa1, aO qa1, RSp.enc s0.carried)]) w (HV.callee (S0 := [_]) (vs0 := []) hh (roA (roC (hh.bsepH 2 rfl) (roR hh 0 rfl (roR hh 1 rfl roN))) (roA (roC (hh.bsepH 0 rfl) roN) (roC (hh.bsepH 1 rfl) (roC (hh.bsepH 2 rfl) (roR hh 0 rfl (roR hh 1 rfl roN))))))) hna0 hqa0 hla0 hna1 hqa1 hla1 (⟨fun a w => Tryz.call101 a w, (fun p r hr w hT => clRet (YP p (fun p_1 : Pair => j8 p_1 s0.strips s0.carried) b_1 120 (#[]) (#[ptr l_2 0]) ([(l_2, 0, [.func (.func 83) #[ptr l_1.1 0] #[]]), (l_1.1, 0, [.slice qa0 na0 ca0, .slice qa1 na1 ca1, .map (some l_1.2)]), (aB qa0, aO qa0, RSt.enc s0.strips), (aB qa1, aO qa1, RSp.enc s0.carried)]) w (HVstart hT) (⟨fun a w => Tryz.call120 a w, (fun p_1 r hr w hT => clRet (JZ p_1 s0.strips s0.carried l_2 l_1.1 qa0 na0 ca0 qa1 na1 ca1 (.map (some l_1.2)) w (HVstart hT) hna0 hqa0 hla0 hna1 hqa1 hla1 hr))⟩ : ClOK Tryz.prog 120 #[] #[ptr l_2 0] ([(l_2, 0, [.func (.func 83) #[ptr l_1.1 0] #[]]), (l_1.1, 0, [.slice qa0 na0 ca0, .slice qa1 na1 ca1, .map (some l_1.2)]), (aB qa0, aO qa0, RSt.enc s0.strips), (aB qa1, aO qa1, RSp.enc s0.carried)]) (fun x : Pair => [.agg #[.int .i64 x.tenant, .int .i64 x.strip]]) (fun x : Int => .int .i64 x) (fun p_1 : Pair => j8 p_1 s0.strips s0.carried)) hr))⟩ : ClOK Tryz.prog 101 #[] #[ptr b_1 0] ([(b_1, 0, [.func (.func 120) #[] #[ptr l_2 0]])] ++ [(l_2, 0, [.func (.func 83) #[ptr l_1.1 0] #[]]), (l_1.1, 0, [.slice qa0 na0 ca0, .slice qa1 na1 ca1, .map (some l_1.2)]), (aB qa0, aO qa0, RSt.enc s0.strips), (aB qa1, aO qa1, RSp.enc s0.carried)]) (fun x : Pair => [.agg #[.int .i64 x.tenant, .int .i64 x.strip]]) (fun x : Int => .int .i64 x) (fun p : Pair => zz p (fun p_1 : Pair => j8 p_1 s0.strips s0.carried))) h11) (fun l_3 h12 => ?_)
    have h13 := h12
    refine jT (S' := [_, _, _, _, _]) (vs' := [_]) [0, 1, 2, 3, 4] [0] 0 rfl rfl rfl rfl (je rfl rfl (kp rfl rfl rfl (kp rfl rfl rfl ?_)))
    refine jo (fun w => Tryz.zeroValue30 w) rfl (fun b_2 h14 => ?_)
    refine jk rfl rfl (jy (us := #[_, _]) (cs' := [_, _]) (S' := [_, _, _, _, _, _]) 0 (fun w => Tryz.sizeOf30 w) rfl rfl rfl rfl rfl rfl rfl (jp (jj (jq (je rfl rfl (jc rfl rfl rfl (fun w _ => JN (Tryz.runUnderlying110 w) rfl rfl) (jp ?_)))))))
    refine zd rfl rfl (jq (jc rfl rfl rfl (fun _ _ => kX rfl) (jk rfl rfl (jk rfl rfl (jp (jw (jf ?_)))))))
    refine kC 26 ?_
    obtain rfl := sj hm
    refine jm rfl (fun w hh => (.tmp rfl (.tmp rfl (.tmp rfl .nil)))) (fun w hh => ⟨⟨⟨none, 0, 0, []⟩, []⟩, rfl, ⟨VOK.nil, DOK.nil⟩, hh.se [] [0] 2 rfl rfl rfl rfl⟩)
   ·replace hm := ocR hm
    refine jT (S' := [_, _, _, _, _]) (vs' := []) [3, 0, 1, 2, 4] [] 0 rfl rfl rfl rfl ?_
    refine jd [_] [] rfl rfl rfl rfl rfl rfl rfl Tryz.call58 (fun w hh => kq s0.strips s0.carried t12b (fun p : Pair => zz p (fun p_1 : Pair => j8 p_1 s0.strips s0.carried)) l_1.1 qa0 na0 ca0 qa1 na1 ca1 l_1.2 101 (#[]) (#[ptr b_1 0]) ([(b_1, 0, [.func (.func 120) #[] #[ptr l_2 0]])] ++ [(l_2, 0, [.func (.func 83) #[ptr l_1.1 0] #[]]), (l_1.1, 0, [.slice qa0 na0 ca0, .slice qa1 na1 ca1, .map (some l_1.2)]), (aB qa0, aO qa0, RSt.enc s0.strips), (aB qa1, aO qa1, RSp.enc s0.carried)]) w (HV.callee (S0 := [_]) (vs0 := []) hh (roA (roC (hh.bsepH 2 rfl) (roR hh 0 rfl (roR hh 1 rfl roN))) (roA (roC (hh.bsepH 0 rfl) roN) (roC (hh.bsepH 1 rfl) (roC (hh.bsepH 2 rfl) (roR hh 0 rfl (roR hh 1 rfl roN))))))) hna0 hqa0 hla0 hna1 hqa1 hla1 (⟨fun a w => Tryz.call101 a w, (fun p r hr w hT => clRet (YP p (fun p_1 : Pair => j8 p_1 s0.strips s0.carried) b_1 120 (#[]) (#[ptr l_2 0]) ([(l_2, 0, [.func (.func 83) #[ptr l_1.1 0] #[]]), (l_1.1, 0, [.slice qa0 na0 ca0, .slice qa1 na1 ca1, .map (some l_1.2)]), (aB qa0, aO qa0, RSt.enc s0.strips), (aB qa1, aO qa1, RSp.enc s0.carried)]) w (HVstart hT) (⟨fun a w => Tryz.call120 a w, (fun p_1 r hr w hT => clRet (JZ p_1 s0.strips s0.carried l_2 l_1.1 qa0 na0 ca0 qa1 na1 ca1 (.map (some l_1.2)) w (HVstart hT) hna0 hqa0 hla0 hna1 hqa1 hla1 hr))⟩ : ClOK Tryz.prog 120 #[] #[ptr l_2 0] ([(l_2, 0, [.func (.func 83) #[ptr l_1.1 0] #[]]), (l_1.1, 0, [.slice qa0 na0 ca0, .slice qa1 na1 ca1, .map (some l_1.2)]), (aB qa0, aO qa0, RSt.enc s0.strips), (aB qa1, aO qa1, RSp.enc s0.carried)]) (fun x : Pair => [.agg #[.int .i64 x.tenant, .int .i64 x.strip]]) (fun x : Int => .int .i64 x) (fun p_1 : Pair => j8 p_1 s0.strips s0.carried)) hr))⟩ : ClOK Tryz.prog 101 #[] #[ptr b_1 0] ([(b_1, 0, [.func (.func 120) #[] #[ptr l_2 0]])] ++ [(l_2, 0, [.func (.func 83) #[ptr l_1.1 0] #[]]), (l_1.1, 0, [.slice qa0 na0 ca0, .slice qa1 na1 ca1, .map (some l_1.2)]), (aB qa0, aO qa0, RSt.enc s0.strips), (aB qa1, aO qa1, RSp.enc s0.carried)]) (fun x : Pair => [.agg #[.int .i64 x.tenant, .int .i64 x.strip]]) (fun x : Int => .int .i64 x) (fun p : Pair => zz p (fun p_1 : Pair => j8 p_1 s0.strips s0.carried))) h11) (fun l_4 h15 => ?_)
    obtain ⟨h16, h17⟩ := h15
    refine jT (S' := [_, _, _, _, _, _]) (vs' := [_, _]) [0, 1, 2, 3, 4, 5] [0, 1] 0 rfl rfl rfl rfl (je rfl rfl (kp rfl rfl rfl (kp rfl rfl rfl ?_)))
    refine jo (fun w => Tryz.zeroValue30 w) rfl (fun b_3 h18 => ?_)
    refine jk rfl rfl (jy (us := #[_, _]) (cs' := [_, _]) (S' := [_, _, _, _, _, _, _]) 0 (fun w => Tryz.sizeOf30 w) rfl rfl rfl rfl rfl rfl rfl (jp (jj (jq (je rfl rfl (jc rfl rfl rfl (fun w _ => JN (Tryz.runUnderlying110 w) rfl rfl) (jp ?_)))))))
    refine qW rfl rfl (ju (ja (jq (je rfl rfl (je rfl rfl ?_)))))
    obtain ⟨t31, h19, hm⟩ := bindO hm
    refine jd [] [] rfl rfl rfl rfl rfl rfl rfl Tryz.call99 (fun w hh => Yh t24b.t12 s0.strips s0.carried l_4.1 (qA l_4.2.2.q) l_4.2.2.n l_4.2.2.cap l_1.1 qa0 na0 ca0 qa1 na1 ca1 (.map (some l_1.2)) w (HV.callee (S0 := []) (vs0 := []) hh (roC (bsep (hh.bseg 2 rfl)) (roC (hh.vsepA 1 rfl h17) (roC (bsep (hh.bseg 5 rfl)) (roR hh 0 rfl (roR hh 1 rfl roN)))))) (vlen RWay h17 rfl) (AOK.q (vne h17)) (h17).hle hna0 hqa0 hla0 hna1 hqa1 hla1 h19) (fun l_5 h20 => ?_)
    obtain ⟨h21, h22⟩ := h20
    refine jT (S' := [_, _, _, _, _, _, _]) (vs' := [_, _, _]) [0, 1, 2, 3, 4, 5, 6] [0, 1, 2] 0 rfl rfl rfl rfl (je rfl rfl ?_)
    obtain ⟨t33, h23, hm⟩ := bindO hm
    refine jd [] [] rfl rfl rfl rfl rfl rfl rfl Tryz.call100 (fun w hh => Qd t24b.t12 l_4.1 (qA l_4.2.2.q) l_4.2.2.n l_4.2.2.cap w (HV.callee (S0 := []) (vs0 := []) hh (roC (bsep (hh.bseg 2 rfl)) (roC (hh.vsepA 2 rfl h17) roN))) (vlen RWay h17 rfl) (AOK.q (vne h17)) (h17).hle h23) (fun l_6 h24 => ?_)
    obtain ⟨t34, h25, hm⟩ := bindO hm
    refine jc rfl rfl rfl (fun _ _ => Zm h25 rfl) (jk rfl rfl (jk rfl rfl (jk rfl rfl (jp (jw ?_)))))
    obtain rfl := sj hm
    refine jm rfl (fun w hh => (.tmp rfl (.tmp rfl (.tmp rfl .nil)))) (fun w hh => ⟨l_5, rfl, ⟨h21, h22⟩, hh.se [] [0] 2 rfl rfl rfl rfl⟩)
def J2 (holds0_c0 : Int) (holds0_c10 : (List Strip)) (holds0_c11 : (List Span)) : Option Unit :=
 some ()
theorem YL (holds0_c0 : Int) (holds0_c10 : (List Strip)) (holds0_c11 : (List Span)) (rb : Nat) (rb_1 : Nat) (rb_2 : Nat) (qa3 : Option Addr) (na3 ca3 : Nat) (qa4 : Option Addr) (na4 ca4 : Nat) (mv : Value) (w : World) (hw : HV w (keys [] []) [] [] [(rb, 0, [.int .i64 holds0_c0]), (rb_1, 0, [ptr rb_2 0]), (rb_2, 0, [.slice qa3 na3 ca3, .slice qa4 na4 ca4, mv]), (aB qa3, aO qa3, RSt.enc holds0_c10), (aB qa4, aO qa4, RSp.enc holds0_c11)] w)    (hna3 : holds0_c10.length = na3) (hqa3 : AOK na3 qa3) (hla3 : na3 ≤ ca3) (hna4 : holds0_c11.length = na4) (hqa4 : AOK na4 qa4) (hla4 : na4 ≤ ca4) {res : Unit} (hm : J2 holds0_c0 holds0_c10 holds0_c11 = some res) :
    Calls Tryz.prog 80 #[.func (.func 85) #[] #[ptr rb 0, ptr rb_1 0]] w (fun en w' => ∃ l : Nat, en = .returned (.agg #[.func (.func 120) #[] #[ptr l 0]]) ∧ (True) ∧ HV w (keys [] []) [(l, .cells #[.func (.func 85) #[] #[ptr rb 0, ptr rb_1 0]] 135 (0, 0))] [] [] w') := by
  unfold J2 at hm
  refine j5 Tryz.func80 rfl Tryz.ntmps80 rfl (e := [(0, _)]) rfl hw (jq ?_)
  refine jC rfl rfl (fun b h1 => ?_)
  refine jo (fun w => Tryz.zeroValue115 w) rfl (fun b_1 h2 => ?_)
  refine j0 (jc rfl rfl rfl (fun _ _ => jK (u := #[]) (u' := #[_]) rfl rfl) (jc rfl rfl rfl (fun _ _ => jz (vs := [(0, _)]) (cells := [_]) rfl rfl) (jy (us := #[_]) (cs' := [_]) (S' := [_, _]) 0 (fun w => Tryz.sizeOf115 w) rfl rfl rfl rfl rfl rfl rfl (jp (jw ?_)))))
  obtain rfl := sj hm
  refine jm rfl (fun w hh => (.cell rfl (loadVar_agg (vs := [_]) (Tryz.isAgg115 _) (Tryz.sizeOf115 _) (hh.cells 0 rfl rfl)) .nil)) (fun w hh => ⟨b, rfl, trivial, hh.se [1] [] 5 rfl rfl rfl rfl⟩)
def zJ (p0 : Pair) (a11 : Int) (a220 : (List Strip)) (a221 : (List Span)) : Option Bool :=
 (if p0.tenant = a11 then
 ((yV a220 a221 p0).bind fun t12 =>
 some t12) else
 (some false)).bind fun o =>
 some o
theorem YB (p0 : Pair) (a11 : Int) (a220 : (List Strip)) (a221 : (List Span)) (rb : Nat) (rb_1 : Nat) (rb_2 : Nat) (qa3 : Option Addr) (na3 ca3 : Nat) (qa4 : Option Addr) (na4 ca4 : Nat) (mv : Value) (w : World) (hw : HV w (keys [] []) [] [] [(rb, 0, [.int .i64 a11]), (rb_1, 0, [ptr rb_2 0]), (rb_2, 0, [.slice qa3 na3 ca3, .slice qa4 na4 ca4, mv]), (aB qa3, aO qa3, RSt.enc a220), (aB qa4, aO qa4, RSp.enc a221)] w)    (hna3 : a220.length = na3) (hqa3 : AOK na3 qa3) (hla3 : na3 ≤ ca3) (hna4 : a221.length = na4) (hqa4 : AOK na4 qa4) (hla4 : na4 ≤ ca4) {res : Bool} (hm : zJ p0 a11 a220 a221 = some res) :
    Calls Tryz.prog 85 #[.agg #[.int .i64 p0.tenant, .int .i64 p0.strip], ptr rb 0, ptr rb_1 0] w (fun en w' => ∃ l : Unit, en = .returned (.bool res) ∧ (True) ∧ HV w (keys [] []) [] [] [] w') := by
  unfold zJ at hm
  refine j5 Tryz.func85 rfl Tryz.ntmps85 rfl (e := [(0, _), (1, _), (2, _)]) rfl hw (jq ?_)
  refine jC rfl rfl (fun b h1 => ?_)
  refine jk rfl rfl (jp (jj ?_))
  obtain ⟨o, h2, h3⟩ := bindO hm
  refine jF (ι := Unit) (fun l => True) (fun l => [(4, .bool o)]) (fun l => [(b, .cells #[.int .i64 p0.tenant, .int .i64 p0.strip] 126 (0, 0))]) (fun l => []) ?_ ?_
  ·replace hm := h2
   refine jh (jP 0 Tryz.runUnderlying126 rfl Tryz.sizeOf3 rfl rfl (jY 0 Tryz.isAgg3 rfl rfl rfl rfl (jc rfl rfl rfl (fun w hh => jR (Tryz.isAgg3 w) rfl (segCell (hh.seg 0 rfl) 0 rfl)) (jc rfl rfl rfl (fun _ _ => yD rfl rfl) (je rfl rfl ?_)))))
   refine jJ 9 rfl (fun h4 => ?_) (fun h4 => ?_)
   ·replace hm := ifD h4 hm
    refine jb rfl rfl (jc rfl rfl rfl (fun w hh => jR (Tryz.isAgg107 w) rfl (segCell (hh.seg 1 rfl) 0 rfl)) (jb rfl rfl (kD [_, _] 0 Tryz.isAgg126 Tryz.sizeOf126 rfl rfl rfl rfl (jb rfl rfl ?_))))
    obtain ⟨t12, h5, hm⟩ := bindO hm
    refine jd [] [] rfl rfl rfl rfl rfl rfl rfl Tryz.call83 (fun w hh => Ql a220 a221 p0 rb_2 qa3 na3 ca3 qa4 na4 ca4 mv w (HV.callee (S0 := []) (vs0 := []) hh (roR hh 2 rfl (roR hh 3 rfl (roR hh 4 rfl roN)))) hna3 hqa3 hla3 hna4 hqa4 hla4 h5) (fun l_1 h6 => ?_)
    refine kx rfl rfl rfl (jk rfl rfl (jv ?_))
    obtain rfl := sj hm
    exact jg () (trivial) (sE rfl) (fun w hh => hh)
   ·replace hm := ifE h4 hm
    refine g_k rfl rfl rfl rfl (g_k rfl rfl rfl rfl (g_k rfl rfl rfl rfl (j3 rfl rfl rfl (jk rfl rfl (jv ?_)))))
    obtain rfl := sj hm
    exact jg () (trivial) (sE rfl) (fun w hh => hh)
  ·intro l hj
   replace hm := h3
   refine ja (jw ?_)
   obtain rfl := sj hm
   refine jm rfl (fun w hh => (.tmp rfl .nil)) (fun w hh => ⟨(), rfl, trivial, hh.se [] [] 5 rfl rfl rfl rfl⟩)
def j7 (p0 : Pair) (a11_c0 : Int) (a11_c10 : (List Strip)) (a11_c11 : (List Span)) : Option Int :=
 (zJ p0 a11_c0 a11_c10 a11_c11).bind fun t6 =>
 if t6 = true then
 (some 1) else
 (some 0)
theorem Qc (p0 : Pair) (a11_c0 : Int) (a11_c10 : (List Strip)) (a11_c11 : (List Span)) (rb : Nat) (rb_1 : Nat) (rb_2 : Nat) (rb_3 : Nat) (qa4 : Option Addr) (na4 ca4 : Nat) (qa5 : Option Addr) (na5 ca5 : Nat) (mv : Value) (w : World) (hw : HV w (keys [] []) [] [] [(rb, 0, [.func (.func 85) #[] #[ptr rb_1 0, ptr rb_2 0]]), (rb_1, 0, [.int .i64 a11_c0]), (rb_2, 0, [ptr rb_3 0]), (rb_3, 0, [.slice qa4 na4 ca4, .slice qa5 na5 ca5, mv]), (aB qa4, aO qa4, RSt.enc a11_c10), (aB qa5, aO qa5, RSp.enc a11_c11)] w)     (hna4 : a11_c10.length = na4) (hqa4 : AOK na4 qa4) (hla4 : na4 ≤ ca4) (hna5 : a11_c11.length = na5) (hqa5 : AOK na5 qa5) (hla5 : na5 ≤ ca5) {res : Int} (hm : j7 p0 a11_c0 a11_c10 a11_c11 = some res) :
    Calls Tryz.prog 120 #[.agg #[.int .i64 p0.tenant, .int .i64 p0.strip], ptr rb 0] w (fun en w' => ∃ l : Unit, en = .returned (.int .i64 res) ∧ (True) ∧ HV w (keys [] []) [] [] [] w') := by
  unfold j7 at hm
  refine j5 Tryz.func120 rfl Tryz.ntmps120 rfl (e := [(0, _), (1, _)]) rfl hw (jq ?_)
  refine jC rfl rfl (fun b h1 => ?_)
  refine jk rfl rfl (jp (jj (jq (jc rfl rfl rfl (fun w hh => jR (Tryz.isAgg135 w) rfl (segCell (hh.seg 0 rfl) 0 rfl)) (kD [_, _] 0 Tryz.isAgg126 Tryz.sizeOf126 rfl rfl rfl rfl ?_)))))
  obtain ⟨t6, h2, hm⟩ := bindO hm
  refine jd [] [] rfl rfl rfl rfl rfl rfl rfl Tryz.call85 (fun w hh => YB p0 a11_c0 a11_c10 a11_c11 rb_1 rb_2 rb_3 qa4 na4 ca4 qa5 na5 ca5 mv w (HV.callee (S0 := []) (vs0 := []) hh (roR hh 1 rfl (roR hh 2 rfl (roR hh 3 rfl (roR hh 4 rfl (roR hh 5 rfl roN)))))) hna4 hqa4 hla4 hna5 hqa5 hla5 h2) (fun l h3 => ?_)
  refine jp ?_
  refine js rfl (fun h4 => ?_) (fun h4 => ?_)
  ·replace hm := ifT (h4) hm
   refine jq (jk rfl rfl (jp (jw (jf ?_))))
   obtain rfl := sj hm
   refine jm rfl (fun w hh => (.tmp rfl .nil)) (fun w hh => ⟨(), rfl, trivial, hh.se [] [] 6 rfl rfl rfl rfl⟩)
  ·replace hm := ifN h4 hm
   refine ju (ja (jq (jk rfl rfl (jp (jw ?_)))))
   obtain rfl := sj hm
   refine jm rfl (fun w hh => (.tmp rfl .nil)) (fun w hh => ⟨(), rfl, trivial, hh.se [] [] 6 rfl rfl rfl rfl⟩)
def jU (p0 : Pair) (a110 : (Pair → Option Int)) : Option Int :=
 (a110 p0).bind fun t7 =>
 (negc t7).bind fun t8 =>
 some t8
theorem zn (p0 : Pair) (a110 : (Pair → Option Int)) (rb : Nat) (f_a110 : FuncId) (fs_a110 cs_a110 : Array Value) (T_a110 : List Sg) (w : World) (hw : HV w (keys [] []) [] [] ([(rb, 0, [.func (.func f_a110) fs_a110 cs_a110])] ++ T_a110) w)  (hcl_a110 : ClOK Tryz.prog f_a110 fs_a110 cs_a110 T_a110 (fun x : Pair => [.agg #[.int .i64 x.tenant, .int .i64 x.strip]]) (fun x : Int => .int .i64 x) a110) {res : Int} (hm : jU p0 a110 = some res) :
    Calls Tryz.prog 119 #[.agg #[.int .i64 p0.tenant, .int .i64 p0.strip], ptr rb 0] w (fun en w' => ∃ l : Unit, en = .returned (.int .i64 res) ∧ (True) ∧ HV w (keys [] []) [] [] [] w') := by
  unfold jU at hm
  refine j5 Tryz.func119 rfl Tryz.ntmps119 rfl (e := [(0, _), (1, _)]) rfl hw (jq ?_)
  refine jC rfl rfl (fun b h1 => ?_)
  refine jk rfl rfl (j0 (jP 0 Tryz.runUnderlying115 rfl Tryz.sizeOf113 rfl rfl (jc rfl rfl rfl (fun w hh => jR (Tryz.isAgg113 w) rfl (segCell (hh.seg 0 rfl) 0 rfl)) (kD [_, _] 0 Tryz.isAgg126 Tryz.sizeOf126 rfl rfl rfl rfl ?_))))
  obtain ⟨t7, h2, hm⟩ := bindO hm
  refine YT hcl_a110 (fun t ht => (List.mem_cons_of_mem _ ht)) h2 rfl rfl rfl rfl rfl rfl ?_
  obtain ⟨t8, h3, hm⟩ := bindO hm
  refine jc rfl rfl rfl (fun _ _ => Zm h3 rfl) (jk rfl rfl (jp (jw ?_)))
  obtain rfl := sj hm
  refine jm rfl (fun w hh => (.tmp rfl .nil)) (fun w hh => ⟨(), rfl, trivial, hh.selN [] [] (by decide) (by decide) rfl rfl⟩)
structure yf where
  r0 : Span
  r1 : Int
def kg (d00 : (List Strip)) (d01 : (List Span)) (d02 : (List (Pair × Bool))) (c1_0 : (Pair → Option Int)) : Option yf :=
 (j4 d00 d01 d02 c1_0).bind fun t13 =>
 oc t13 (fun t13a => (j4 d00 d01 d02 (fun p : Pair => jU p c1_0)).bind fun t20 =>
 oc t20 (fun t20a => some (⟨(⟨0, 0⟩ : Span), 7⟩ : yf)) (fun t20b => some (⟨(⟨0, 0⟩ : Span), 7⟩ : yf))) (fun t13b => (j4 d00 d01 d02 (fun p_1 : Pair => jU p_1 c1_0)).bind fun t20_1 =>
 oc t20_1 (fun t20_1a => (yI t13b.t12).bind fun t27 =>
 none) (fun t20_1b => (yI t13b.t12).bind fun t27_1 =>
 (yI t20_1b.t12).bind fun t29 =>
 (negc t29).bind fun t30 =>
 some (⟨(⟨t27_1, t30⟩ : Span), 0⟩ : yf)))
theorem yj (d00 : (List Strip)) (d01 : (List Span)) (d02 : (List (Pair × Bool))) (c1_0 : (Pair → Option Int)) (rb : Nat) (qa1 : Option Addr) (na1 ca1 : Nat) (qa2 : Option Addr) (na2 ca2 : Nat) (pb : Nat) (f_c1_0 : FuncId) (fs_c1_0 cs_c1_0 : Array Value) (T_c1_0 : List Sg) (w : World) (hw : HV w (keys [(pb, gobj (kR RPr) kB d02)] []) [(pb, gobj (kR RPr) kB d02)] [] ([(rb, 0, [.slice qa1 na1 ca1, .slice qa2 na2 ca2, .map (some pb)]), (aB qa1, aO qa1, RSt.enc d00), (aB qa2, aO qa2, RSp.enc d01)] ++ T_c1_0) w)  (hna1 : d00.length = na1) (hqa1 : AOK na1 qa1) (hla1 : na1 ≤ ca1) (hna2 : d01.length = na2) (hqa2 : AOK na2 qa2) (hla2 : na2 ≤ ca2) (hcl_c1_0 : ClOK Tryz.prog f_c1_0 fs_c1_0 cs_c1_0 T_c1_0 (fun x : Pair => [.agg #[.int .i64 x.tenant, .int .i64 x.strip]]) (fun x : Int => .int .i64 x) c1_0) {res : yf} (hm : kg d00 d01 d02 c1_0 = some res) :
    Calls Tryz.prog 79 #[ptr rb 0, .agg #[.func (.func f_c1_0) fs_c1_0 cs_c1_0]] w (fun en w' => ∃ l : Unit, en = .returned (.tuple #[.agg #[.int .i64 res.r0.lo, .int .i64 res.r0.hi], .int .i64 res.r1]) ∧ (True) ∧ HV w (keys [(pb, gobj (kR RPr) kB d02)] []) [(pb, gobj (kR RPr) kB d02)] [] [] w') := by
  unfold kg at hm
  refine j5 Tryz.func79 rfl Tryz.ntmps79 rfl (e := [(0, _), (1, _)]) rfl hw (jq ?_)
  refine jC rfl rfl (fun b h1 => ?_)
  refine jo (fun w => Tryz.zeroValue32 w) rfl (fun b_1 h2 => ?_)
  refine jk rfl rfl (j0 (je rfl rfl (kD [_] 1 Tryz.isAgg115 Tryz.sizeOf115 rfl rfl rfl rfl ?_)))
  obtain ⟨t13, h3, hm⟩ := bindO hm
  rcases t13 with t13a | t13b
  ·replace hm := ocL hm
   refine jT (S' := [_, _, _]) (vs' := []) [2, 0, 1] [] 0 rfl rfl rfl rfl ?_
   refine jd [_] [] rfl rfl rfl rfl rfl rfl rfl Tryz.call58 (fun w hh => kq d00 d01 d02 c1_0 rb qa1 na1 ca1 qa2 na2 ca2 pb f_c1_0 fs_c1_0 cs_c1_0 T_c1_0 w (HV.callee (S0 := [_]) (vs0 := []) hh (roA (roR hh 0 rfl (roR hh 1 rfl (roR hh 2 rfl roN))) (hh.rsepT (fun t ht => (List.mem_cons_of_mem _ (List.mem_cons_of_mem _ (List.mem_cons_of_mem _ ht))))))) hna1 hqa1 hla1 hna2 hqa2 hla2 hcl_c1_0 h3) (fun l h4 => ?_)
   have h5 := h4
   refine jT (S' := [_, _, _]) (vs' := [_]) [0, 1, 2] [0] 0 rfl rfl rfl rfl (je rfl rfl (kp rfl rfl rfl (kp rfl rfl rfl ?_)))
   refine jo (fun w => Tryz.zeroValue30 w) rfl (fun b_2 h6 => ?_)
   refine jk rfl rfl (jy (us := #[_, _]) (cs' := [_, _]) (S' := [_, _, _, _]) 0 (fun w => Tryz.sizeOf30 w) rfl rfl rfl rfl rfl rfl rfl (j0 (je rfl rfl (jc rfl rfl rfl (fun _ _ => jK (u := #[]) (u' := #[_]) rfl rfl) (jc rfl rfl rfl (fun _ _ => jz (vs := [(0, _)]) (cells := [_]) rfl rfl) ?_)))))
   obtain ⟨t20, h7, hm⟩ := bindO hm
   rcases t20 with t20a | t20b
   ·replace hm := ocL hm
    refine jT (S' := [_, _, _, _]) (vs' := [_]) [1, 0, 2, 3] [0] 0 rfl rfl rfl rfl ?_
    refine jd [_] [] rfl rfl rfl rfl rfl rfl rfl Tryz.call58 (fun w hh => kq d00 d01 d02 (fun p : Pair => jU p c1_0) rb qa1 na1 ca1 qa2 na2 ca2 pb 119 (#[]) (#[ptr b 0]) ([(b, 0, [.func (.func f_c1_0) fs_c1_0 cs_c1_0])] ++ T_c1_0) w (HV.callee (S0 := [_]) (vs0 := []) hh (roA (roR hh 0 rfl (roR hh 1 rfl (roR hh 2 rfl roN))) (roA (roC (hh.bsepH 2 rfl) roN) (hh.rsepT (fun t ht => (List.mem_cons_of_mem _ (List.mem_cons_of_mem _ (List.mem_cons_of_mem _ ht)))))))) hna1 hqa1 hla1 hna2 hqa2 hla2 (⟨fun a w => Tryz.call119 a w, (fun p r hr w hT => clRet (zn p c1_0 b f_c1_0 fs_c1_0 cs_c1_0 T_c1_0 w (HVstart hT) hcl_c1_0 hr))⟩ : ClOK Tryz.prog 119 #[] #[ptr b 0] ([(b, 0, [.func (.func f_c1_0) fs_c1_0 cs_c1_0])] ++ T_c1_0) (fun x : Pair => [.agg #[.int .i64 x.tenant, .int .i64 x.strip]]) (fun x : Int => .int .i64 x) (fun p : Pair => jU p c1_0)) h7) (fun l_1 h8 => ?_)
    have h9 := h8
    refine jT (S' := [_, _, _, _]) (vs' := [_, _]) [0, 1, 2, 3] [0, 1] 0 rfl rfl rfl rfl (je rfl rfl (kp rfl rfl rfl (kp rfl rfl rfl ?_)))
    refine jo (fun w => Tryz.zeroValue30 w) rfl (fun b_3 h10 => ?_)
    refine jk rfl rfl (jy (us := #[_, _]) (cs' := [_, _]) (S' := [_, _, _, _, _]) 0 (fun w => Tryz.sizeOf30 w) rfl rfl rfl rfl rfl rfl rfl (jp (jj (jq (je rfl rfl (jc rfl rfl rfl (fun w _ => JN (Tryz.runUnderlying110 w) rfl rfl) (jp ?_)))))))
    refine zd rfl rfl (jq (jc rfl rfl rfl (fun _ _ => jz (vs := []) (cells := [_, _]) rfl rfl) (jy (us := #[_, _]) (cs' := [_, _]) (S' := [_, _, _, _, _]) 3 (fun w => Tryz.sizeOf32 w) rfl rfl rfl rfl rfl rfl rfl (jk rfl rfl (jp (jw (jf ?_)))))))
    obtain rfl := sj hm
    refine jm rfl (fun w hh => (.cell rfl (loadVar_agg (vs := [_, _]) (Tryz.isAgg32 _) (Tryz.sizeOf32 _) (hh.cells 3 rfl rfl)) (.tmp rfl .nil))) (fun w hh => ⟨(), rfl, trivial, hh.selN [1] [] (by decide) (by decide) rfl rfl⟩)
   ·replace hm := ocR hm
    refine jT (S' := [_, _, _, _]) (vs' := [_]) [1, 0, 2, 3] [0] 0 rfl rfl rfl rfl ?_
    refine jd [_] [] rfl rfl rfl rfl rfl rfl rfl Tryz.call58 (fun w hh => kq d00 d01 d02 (fun p : Pair => jU p c1_0) rb qa1 na1 ca1 qa2 na2 ca2 pb 119 (#[]) (#[ptr b 0]) ([(b, 0, [.func (.func f_c1_0) fs_c1_0 cs_c1_0])] ++ T_c1_0) w (HV.callee (S0 := [_]) (vs0 := []) hh (roA (roR hh 0 rfl (roR hh 1 rfl (roR hh 2 rfl roN))) (roA (roC (hh.bsepH 2 rfl) roN) (hh.rsepT (fun t ht => (List.mem_cons_of_mem _ (List.mem_cons_of_mem _ (List.mem_cons_of_mem _ ht)))))))) hna1 hqa1 hla1 hna2 hqa2 hla2 (⟨fun a w => Tryz.call119 a w, (fun p r hr w hT => clRet (zn p c1_0 b f_c1_0 fs_c1_0 cs_c1_0 T_c1_0 w (HVstart hT) hcl_c1_0 hr))⟩ : ClOK Tryz.prog 119 #[] #[ptr b 0] ([(b, 0, [.func (.func f_c1_0) fs_c1_0 cs_c1_0])] ++ T_c1_0) (fun x : Pair => [.agg #[.int .i64 x.tenant, .int .i64 x.strip]]) (fun x : Int => .int .i64 x) (fun p : Pair => jU p c1_0)) h7) (fun l_2 h11 => ?_)
    obtain ⟨h12, h13⟩ := h11
    refine jT (S' := [_, _, _, _, _]) (vs' := [_, _, _]) [0, 1, 2, 3, 4] [0, 1, 2] 0 rfl rfl rfl rfl (je rfl rfl (kp rfl rfl rfl (kp rfl rfl rfl ?_)))
    refine jo (fun w => Tryz.zeroValue30 w) rfl (fun b_4 h14 => ?_)
    refine jk rfl rfl (jy (us := #[_, _]) (cs' := [_, _]) (S' := [_, _, _, _, _, _]) 0 (fun w => Tryz.sizeOf30 w) rfl rfl rfl rfl rfl rfl rfl (jp (jj (jq (je rfl rfl (jc rfl rfl rfl (fun w _ => JN (Tryz.runUnderlying110 w) rfl rfl) (jp ?_)))))))
    refine zd rfl rfl (jq (jc rfl rfl rfl (fun _ _ => jz (vs := []) (cells := [_, _]) rfl rfl) (jy (us := #[_, _]) (cs' := [_, _]) (S' := [_, _, _, _, _, _]) 4 (fun w => Tryz.sizeOf32 w) rfl rfl rfl rfl rfl rfl rfl (jk rfl rfl (jp (jw (jf ?_)))))))
    obtain rfl := sj hm
    refine jm rfl (fun w hh => (.cell rfl (loadVar_agg (vs := [_, _]) (Tryz.isAgg32 _) (Tryz.sizeOf32 _) (hh.cells 4 rfl rfl)) (.tmp rfl .nil))) (fun w hh => ⟨(), rfl, trivial, hh.selN [1] [] (by decide) (by decide) rfl rfl⟩)
  ·replace hm := ocR hm
   refine jT (S' := [_, _, _]) (vs' := []) [2, 0, 1] [] 0 rfl rfl rfl rfl ?_
   refine jd [_] [] rfl rfl rfl rfl rfl rfl rfl Tryz.call58 (fun w hh => kq d00 d01 d02 c1_0 rb qa1 na1 ca1 qa2 na2 ca2 pb f_c1_0 fs_c1_0 cs_c1_0 T_c1_0 w (HV.callee (S0 := [_]) (vs0 := []) hh (roA (roR hh 0 rfl (roR hh 1 rfl (roR hh 2 rfl roN))) (hh.rsepT (fun t ht => (List.mem_cons_of_mem _ (List.mem_cons_of_mem _ (List.mem_cons_of_mem _ ht))))))) hna1 hqa1 hla1 hna2 hqa2 hla2 hcl_c1_0 h3) (fun l_3 h15 => ?_)
   obtain ⟨h16, h17⟩ := h15
   refine jT (S' := [_, _, _, _]) (vs' := [_, _]) [0, 1, 2, 3] [0, 1] 0 rfl rfl rfl rfl (je rfl rfl (kp rfl rfl rfl (kp rfl rfl rfl ?_)))
   refine jo (fun w => Tryz.zeroValue30 w) rfl (fun b_5 h18 => ?_)
   refine jk rfl rfl (jy (us := #[_, _]) (cs' := [_, _]) (S' := [_, _, _, _, _]) 0 (fun w => Tryz.sizeOf30 w) rfl rfl rfl rfl rfl rfl rfl (j0 (je rfl rfl (jc rfl rfl rfl (fun _ _ => jK (u := #[]) (u' := #[_]) rfl rfl) (jc rfl rfl rfl (fun _ _ => jz (vs := [(0, _)]) (cells := [_]) rfl rfl) ?_)))))
   obtain ⟨t20_1, h19, hm⟩ := bindO hm
   rcases t20_1 with t20_1a | t20_1b
   ·replace hm := ocL hm
    refine jT (S' := [_, _, _, _, _]) (vs' := [_, _]) [1, 0, 2, 3, 4] [0, 1] 0 rfl rfl rfl rfl ?_
    refine jd [_] [] rfl rfl rfl rfl rfl rfl rfl Tryz.call58 (fun w hh => kq d00 d01 d02 (fun p_1 : Pair => jU p_1 c1_0) rb qa1 na1 ca1 qa2 na2 ca2 pb 119 (#[]) (#[ptr b 0]) ([(b, 0, [.func (.func f_c1_0) fs_c1_0 cs_c1_0])] ++ T_c1_0) w (HV.callee (S0 := [_]) (vs0 := []) hh (roA (roR hh 0 rfl (roR hh 1 rfl (roR hh 2 rfl roN))) (roA (roC (hh.bsepH 3 rfl) roN) (hh.rsepT (fun t ht => (List.mem_cons_of_mem _ (List.mem_cons_of_mem _ (List.mem_cons_of_mem _ ht)))))))) hna1 hqa1 hla1 hna2 hqa2 hla2 (⟨fun a w => Tryz.call119 a w, (fun p_1 r hr w hT => clRet (zn p_1 c1_0 b f_c1_0 fs_c1_0 cs_c1_0 T_c1_0 w (HVstart hT) hcl_c1_0 hr))⟩ : ClOK Tryz.prog 119 #[] #[ptr b 0] ([(b, 0, [.func (.func f_c1_0) fs_c1_0 cs_c1_0])] ++ T_c1_0) (fun x : Pair => [.agg #[.int .i64 x.tenant, .int .i64 x.strip]]) (fun x : Int => .int .i64 x) (fun p_1 : Pair => jU p_1 c1_0)) h19) (fun l_4 h20 => ?_)
    have h21 := h20
    refine jT (S' := [_, _, _, _, _]) (vs' := [_, _, _]) [0, 1, 2, 3, 4] [0, 1, 2] 0 rfl rfl rfl rfl (je rfl rfl (kp rfl rfl rfl (kp rfl rfl rfl ?_)))
    refine jo (fun w => Tryz.zeroValue30 w) rfl (fun b_6 h22 => ?_)
    refine jk rfl rfl (jy (us := #[_, _]) (cs' := [_, _]) (S' := [_, _, _, _, _, _]) 0 (fun w => Tryz.sizeOf30 w) rfl rfl rfl rfl rfl rfl rfl (jp (jj (jq (je rfl rfl (jc rfl rfl rfl (fun w _ => JN (Tryz.runUnderlying110 w) rfl rfl) (jp ?_)))))))
    refine qW rfl rfl (ju (ja (jq (je rfl rfl ?_))))
    obtain ⟨t27, h23, hm⟩ := bindO hm
    refine jd [] [] rfl rfl rfl rfl rfl rfl rfl Tryz.call100 (fun w hh => Qd t13b.t12 l_3.1 (qA l_3.2.2.q) l_3.2.2.n l_3.2.2.cap w (HV.callee (S0 := []) (vs0 := []) hh (roC (bsep (hh.bseg 3 rfl)) (roC (hh.vsepA 2 rfl h17) roN))) (vlen RWay h17 rfl) (AOK.q (vne h17)) (h17).hle h23) (fun l_5 h24 => ?_)
    refine je rfl rfl ?_
    exact absurd hm (by simp)
   ·replace hm := ocR hm
    refine jT (S' := [_, _, _, _, _]) (vs' := [_, _]) [1, 0, 2, 3, 4] [0, 1] 0 rfl rfl rfl rfl ?_
    refine jd [_] [] rfl rfl rfl rfl rfl rfl rfl Tryz.call58 (fun w hh => kq d00 d01 d02 (fun p_1 : Pair => jU p_1 c1_0) rb qa1 na1 ca1 qa2 na2 ca2 pb 119 (#[]) (#[ptr b 0]) ([(b, 0, [.func (.func f_c1_0) fs_c1_0 cs_c1_0])] ++ T_c1_0) w (HV.callee (S0 := [_]) (vs0 := []) hh (roA (roR hh 0 rfl (roR hh 1 rfl (roR hh 2 rfl roN))) (roA (roC (hh.bsepH 3 rfl) roN) (hh.rsepT (fun t ht => (List.mem_cons_of_mem _ (List.mem_cons_of_mem _ (List.mem_cons_of_mem _ ht)))))))) hna1 hqa1 hla1 hna2 hqa2 hla2 (⟨fun a w => Tryz.call119 a w, (fun p_1 r hr w hT => clRet (zn p_1 c1_0 b f_c1_0 fs_c1_0 cs_c1_0 T_c1_0 w (HVstart hT) hcl_c1_0 hr))⟩ : ClOK Tryz.prog 119 #[] #[ptr b 0] ([(b, 0, [.func (.func f_c1_0) fs_c1_0 cs_c1_0])] ++ T_c1_0) (fun x : Pair => [.agg #[.int .i64 x.tenant, .int .i64 x.strip]]) (fun x : Int => .int .i64 x) (fun p_1 : Pair => jU p_1 c1_0)) h19) (fun l_6 h25 => ?_)
    obtain ⟨h26, h27⟩ := h25
    refine jT (S' := [_, _, _, _, _, _]) (vs' := [_, _, _, _]) [0, 1, 2, 3, 4, 5] [0, 1, 2, 3] 0 rfl rfl rfl rfl (je rfl rfl (kp rfl rfl rfl (kp rfl rfl rfl ?_)))
    refine jo (fun w => Tryz.zeroValue30 w) rfl (fun b_7 h28 => ?_)
    refine jk rfl rfl (jy (us := #[_, _]) (cs' := [_, _]) (S' := [_, _, _, _, _, _, _]) 0 (fun w => Tryz.sizeOf30 w) rfl rfl rfl rfl rfl rfl rfl (jp (jj (jq (je rfl rfl (jc rfl rfl rfl (fun w _ => JN (Tryz.runUnderlying110 w) rfl rfl) (jp ?_)))))))
    refine qW rfl rfl (ju (ja (jq (je rfl rfl ?_))))
    obtain ⟨t27_1, h29, hm⟩ := bindO hm
    refine jd [] [] rfl rfl rfl rfl rfl rfl rfl Tryz.call100 (fun w hh => Qd t13b.t12 l_3.1 (qA l_3.2.2.q) l_3.2.2.n l_3.2.2.cap w (HV.callee (S0 := []) (vs0 := []) hh (roC (bsep (hh.bseg 4 rfl)) (roC (hh.vsepA 3 rfl h17) roN))) (vlen RWay h17 rfl) (AOK.q (vne h17)) (h17).hle h29) (fun l_7 h30 => ?_)
    refine je rfl rfl ?_
    obtain ⟨t29, h31, hm⟩ := bindO hm
    refine jd [] [] rfl rfl rfl rfl rfl rfl rfl Tryz.call100 (fun w hh => Qd t20_1b.t12 l_6.1 (qA l_6.2.2.q) l_6.2.2.n l_6.2.2.cap w (HV.callee (S0 := []) (vs0 := []) hh (roC (bsep (hh.bseg 2 rfl)) (roC (hh.vsepA 1 rfl h27) roN))) (vlen RWay h27 rfl) (AOK.q (vne h27)) (h27).hle h31) (fun l_8 h32 => ?_)
    obtain ⟨t30, h33, hm⟩ := bindO hm
    refine jc rfl rfl rfl (fun _ _ => Zm h33 rfl) (jc rfl rfl rfl (fun _ _ => jz (vs := [(0, _), (1, _)]) (cells := [_, _]) rfl rfl) (jy (us := #[_, _]) (cs' := [_, _]) (S' := [_, _, _, _, _, _, _]) 5 (fun w => Tryz.sizeOf32 w) rfl rfl rfl rfl rfl rfl rfl (jk rfl rfl (jp (jw ?_)))))
    obtain rfl := sj hm
    refine jm rfl (fun w hh => (.cell rfl (loadVar_agg (vs := [_, _]) (Tryz.isAgg32 _) (Tryz.sizeOf32 _) (hh.cells 5 rfl rfl)) (.tmp rfl .nil))) (fun w hh => ⟨(), rfl, trivial, hh.selN [1] [] (by decide) (by decide) rfl rfl⟩)
structure kZ where
  r1 : Int
  r0 : (List Int)
structure q9 where
  t21 : Int
  out6 : (List Int)
structure Yj where
  x8 : Span
  e9 : Int
def kJ (s0 : Scalps) (t12b : (List (Pair × Bool))) (s : q9) : Option (q9 ⊕ ((List Int) ⊕ kZ)) :=
 if s.t21 < (s0.carried.length : Int) then
 ((((J2 s.t21 s0.strips s0.carried).bind fun t27 =>
 (kg s0.strips s0.carried t12b (fun p_1 : Pair => j7 p_1 s.t21 s0.strips s0.carried)).bind fun t28 =>
 some (⟨t28.r0, t28.r1⟩ : Yj)).bind fun o_2 =>
 if o_2.e9 = 0 then
 (if o_2.x8.hi = 0 then
 ((appc 8 s.out6 [1]).bind fun t44 =>
 some (.inl t44)) else
 (if 0 < o_2.x8.lo then
 ((appc 8 s.out6 [2]).bind fun t51 =>
 some (.inl t51)) else
 ((appc 8 s.out6 [0]).bind fun t33 =>
 some (.inl t33)))) else
 (some (.inr (⟨o_2.e9, []⟩ : kZ)))).bind fun o_1 =>
 oc o_1 (fun j_2 => (addc s.t21 1).bind fun t52 =>
 some (.inl (⟨t52, j_2⟩ : q9))) (fun r_1 => some (.inr (.inr r_1)))) else
 (some (.inr (.inl s.out6)))
def kA (s0 : Scalps) : Option kZ :=
 (kv s0).bind fun t12 =>
 oc t12 (fun t12a => some (⟨t12a, []⟩ : kZ)) (fun t12b => (iterM FU (kJ s0 t12b) (⟨0, []⟩ : q9)).bind fun o =>
 oc o (fun j_3 => some (⟨0, j_3⟩ : kZ)) (fun r_2 => some r_2))
theorem Q7 (s0 : Scalps) (qa0 : Option Addr) (na0 ca0 : Nat) (qa1 : Option Addr) (na1 ca1 : Nat) (w : World) (hw : HV w (keys [] []) [] [] [(aB qa0, aO qa0, RSt.enc s0.strips), (aB qa1, aO qa1, RSp.enc s0.carried)] w) (hna0 : s0.strips.length = na0) (hqa0 : AOK na0 qa0) (hla0 : na0 ≤ ca0) (hna1 : s0.carried.length = na1) (hqa1 : AOK na1 qa1) (hla1 : na1 ≤ ca1) {res : kZ} (hm : kA s0 = some res) :
    Calls Tryz.prog 28 #[.agg #[.slice qa0 na0 ca0, .slice qa1 na1 ca1]] w (fun en w' => ∃ l : VL, en = .returned (.tuple #[slv l.q l.n l.cap, .int .i64 res.r1]) ∧ (VOK 1 l.n l.cap (RI.enc res.r0) l.sp l.q) ∧ HV w (keys [] []) [] [⟨62, RI.enc res.r0, l.sp, l.q, []⟩] [] w') := by
  unfold kA at hm
  refine j5 Tryz.func28 rfl Tryz.ntmps28 rfl (e := [(0, _)]) rfl hw (jq ?_)
  refine jC rfl rfl (fun b h2 => ?_)
  refine jc rfl rfl rfl (fun _ _ => kX rfl) (jk rfl rfl (j0 (kD [_, _] 0 Tryz.isAgg25 Tryz.sizeOf25 rfl rfl rfl rfl ?_)))
  obtain ⟨t12, h3, hm⟩ := bindO hm
  rcases t12 with t12a | t12b
  ·replace hm := ocL hm
   refine jd [] [] rfl rfl rfl rfl rfl rfl rfl Tryz.call57 (fun w hh => kh s0 qa0 na0 ca0 qa1 na1 ca1 w (HV.callee (S0 := []) (vs0 := []) hh (roR hh 0 rfl (roR hh 1 rfl roN))) hna0 hqa0 hla0 hna1 hqa1 hla1 h3) (fun l h4 => ?_)
   have h5 := h4
   refine je rfl rfl (kp rfl rfl rfl (kp rfl rfl rfl ?_))
   refine jo (fun w => Tryz.zeroValue107 w) rfl (fun b_1 h6 => ?_)
   refine kY (cs' := #[_]) (S' := [_, _]) 0 (fun w => Tryz.sizeOf107 w) rfl rfl rfl rfl rfl rfl rfl (jk rfl rfl (jp (jj (jq (je rfl rfl (jc rfl rfl rfl (fun _ _ => QI h5 rfl rfl) (jp ?_)))))))
   refine zd rfl rfl (jq (je rfl rfl (jc rfl rfl rfl (fun _ _ => kX rfl) (jk rfl rfl (jp (jw (jf ?_)))))))
   refine kC 62 ?_
   obtain rfl := sj hm
   refine jm rfl (fun w hh => (.tmp rfl (.tmp rfl .nil))) (fun w hh => ⟨⟨none, 0, 0, []⟩, rfl, VOK.nil, hh.se [] [0] 2 rfl rfl rfl rfl⟩)
  ·replace hm := ocR hm
   refine jd [] [] rfl rfl rfl rfl rfl rfl rfl Tryz.call57 (fun w hh => kh s0 qa0 na0 ca0 qa1 na1 ca1 w (HV.callee (S0 := []) (vs0 := []) hh (roR hh 0 rfl (roR hh 1 rfl roN))) hna0 hqa0 hla0 hna1 hqa1 hla1 h3) (fun l_1 h7 => ?_)
   refine jT (S' := [_, _, _]) (vs' := []) [0, 1, 2] [] 0 rfl rfl rfl rfl (je rfl rfl (kp rfl rfl rfl (kp rfl rfl rfl ?_)))
   refine jo (fun w => Tryz.zeroValue107 w) rfl (fun b_2 h8 => ?_)
   refine kY (cs' := #[_]) (S' := [_, _, _, _]) 0 (fun w => Tryz.sizeOf107 w) rfl rfl rfl rfl rfl rfl rfl (jk rfl rfl (jp (jj (jq (je rfl rfl (jc rfl rfl rfl (fun _ _ => q8 rfl rfl) (jp ?_)))))))
   refine qW rfl rfl (ju (ja (jq (jc rfl rfl rfl (fun _ _ => kX rfl) (jp (jj (jq ?_)))))))
   refine jP 1 Tryz.runUnderlying25 rfl Tryz.sizeOf23 rfl rfl (jY 3 Tryz.isAgg23 rfl rfl rfl rfl (jc rfl rfl rfl (fun w _ => jI hna1 (Tryz.runUnderlying23 w) rfl) (je rfl rfl (jp (kC 62 ?_)))))
   obtain ⟨o, h9, h10⟩ := bindO hm
   refine jF (ι := (List Int) × VL) (fun j => o = .inl j.1 ∧ VOK 1 j.2.n j.2.cap (RI.enc j.1) j.2.sp j.2.q) (fun j => [(6, slv j.2.q j.2.n j.2.cap)]) (fun j => [(b_2, .cells #[ptr l_1.1 0] 107 (0, 0)), (l_1.1, .cells #[.slice qa0 na0 ca0, .slice qa1 na1 ca1, .map (some l_1.2)] 144 (0, 0)), (l_1.2, gobj (kR RPr) kB t12b), (b, .cells #[.slice qa0 na0 ca0, .slice qa1 na1 ca1] 25 (0, 0))]) (fun j => [⟨62, RI.enc j.1, j.2.sp, j.2.q, []⟩]) ?_ ?_
   ·replace hm := h9
    refine jn ?_
    refine jL (ι := VL) hm (fun s l_2 => VOK 1 l_2.n l_2.cap (RI.enc s.out6) l_2.sp l_2.q) (fun s l_2 => [(4, ptr b_2 0), (6, slv l_2.q l_2.n l_2.cap), (20, .int .i64 (s0.carried.length : Int)), (21, .int .i64 s.t21)]) (fun s l_2 => [(b_2, .cells #[ptr l_1.1 0] 107 (0, 0)), (l_1.1, .cells #[.slice qa0 na0 ca0, .slice qa1 na1 ca1, .map (some l_1.2)] 144 (0, 0)), (l_1.2, gobj (kR RPr) kB t12b), (b, .cells #[.slice qa0 na0 ca0, .slice qa1 na1 ca1] 25 (0, 0))]) (fun s l_2 => [⟨62, RI.enc s.out6, l_2.sp, l_2.q, []⟩]) ⟨none, 0, 0, []⟩ (VOK.nil) (sE rfl) (fun w hh => hh) (fun s l_2 r hpl hm h13 => ?_)
    have h12 := hpl
    unfold kJ at hm
    refine jq (yY rfl rfl rfl (jp (jj ?_)))
    refine js rfl (fun h14 => ?_) (fun h14 => ?_)
    ·replace hm := ifD h14 hm
     refine ju (ja (jj ?_))
     obtain ⟨o_1, h15, h16⟩ := bindO hm
     refine jF (ι := (List Int) × VL) (fun j_1 => o_1 = .inl j_1.1 ∧ VOK 1 j_1.2.n j_1.2.cap (RI.enc j_1.1) j_1.2.sp j_1.2.q) (fun j_1 => [(4, ptr b_2 0), (6, slv j_1.2.q j_1.2.n j_1.2.cap), (20, .int .i64 (s0.carried.length : Int)), (21, .int .i64 s.t21)]) (fun j_1 => [(b_2, .cells #[ptr l_1.1 0] 107 (0, 0)), (l_1.1, .cells #[.slice qa0 na0 ca0, .slice qa1 na1 ca1, .map (some l_1.2)] 144 (0, 0)), (l_1.2, gobj (kR RPr) kB t12b), (b, .cells #[.slice qa0 na0 ca0, .slice qa1 na1 ca1] 25 (0, 0))]) (fun j_1 => [⟨62, RI.enc j_1.1, j_1.2.sp, j_1.2.q, []⟩]) ?_ ?_
     ·replace hm := h15
      refine jn (jq (je rfl rfl ?_))
      refine jo (fun w => Tryz.zeroValue3 w) rfl (fun b_3 h18 => ?_)
      refine kY (cs' := #[_]) (S' := [_, _, _, _, _]) 0 (fun w => Tryz.sizeOf3 w) rfl rfl rfl rfl rfl rfl rfl (jp (jj ?_))
      obtain ⟨o_2, h19, h20⟩ := bindO hm
      refine jF (ι := Nat) (fun l_3 => True) (fun l_3 => [(4, ptr b_2 0), (6, slv l_2.q l_2.n l_2.cap), (8, ptr l_3 0), (9, .int .i64 o_2.e9), (20, .int .i64 (s0.carried.length : Int)), (21, .int .i64 s.t21)]) (fun l_3 => [(b_3, .cells #[.int .i64 s.t21] 3 (0, 0)), (b_2, .cells #[ptr l_1.1 0] 107 (0, 0)), (l_1.1, .cells #[.slice qa0 na0 ca0, .slice qa1 na1 ca1, .map (some l_1.2)] 144 (0, 0)), (l_1.2, gobj (kR RPr) kB t12b), (b, .cells #[.slice qa0 na0 ca0, .slice qa1 na1 ca1] 25 (0, 0)), (l_3, .cells #[.int .i64 o_2.x8.lo, .int .i64 o_2.x8.hi] 32 (0, 0))]) (fun l_3 => [⟨62, RI.enc s.out6, l_2.sp, l_2.q, []⟩]) ?_ ?_
      ·replace hm := h19
       obtain ⟨t27, h21, hm⟩ := bindO hm
       obtain ⟨t28, h22, hm⟩ := bindO hm
       refine jX none (.hoist 0 (.free 1 (.br (.alt 2 (.br (.alt 3 (.free 4 (.free 5 (.free 6 (.one 7 (.one 8 (.free 9 .done)))))) (.alt 7 (.one 3 (.free 4 (.free 5 (.free 6 (.one 8 (.free 9 .done)))))) .nil))) (.alt 7 (.one 2 (.one 3 (.free 4 (.free 5 (.free 6 (.one 8 (.free 9 .done))))))) .nil))))) _ rfl (by decide +kernel) (fun w k hh => hh.draw k) (fun w hh => hh) ?_
       refine qY 1 Tryz.isAgg107 rfl rfl rfl rfl rfl (ji rfl rfl rfl rfl (fun _ _ => jK (u := #[]) (u' := #[_, _]) rfl rfl) (YH ?_))
       refine kN rfl ?_ ?_
       ·refine jd [] [] rfl rfl rfl rfl rfl rfl rfl Tryz.call80 (fun w hh => YL s.t21 s0.strips s0.carried b_3 b_2 l_1.1 qa0 na0 ca0 qa1 na1 ca1 (.map (some l_1.2)) w (HV.callee (S0 := []) (vs0 := []) hh (roC (bsep (hh.bseg 0 rfl)) (roC (bsep (hh.bseg 1 rfl)) (roC (bsep (hh.bseg 2 rfl)) (roR hh 0 rfl (roR hh 1 rfl roN)))))) hna0 hqa0 hla0 hna1 hqa1 hla1 h21) (fun l_4 h23 => ?_)
        refine jT (S' := [_, _, _, _, _, _]) (vs' := [_]) [0, 1, 2, 3, 4, 5] [0] 0 rfl rfl rfl rfl (jr (hsE [1, 2, 3, 4, 5] [0] 0 rfl rfl rfl rfl) (YH ?_))
        refine kN rfl ?_ ?_
        ·refine jT (S' := [_, _, _, _, _, _]) (vs' := [_]) [4, 0, 1, 2, 3, 5] [0] 0 rfl rfl rfl rfl ?_
         refine jd [_] [] rfl rfl rfl rfl rfl rfl rfl Tryz.call79 (fun w hh => yj s0.strips s0.carried t12b (fun p_1 : Pair => j7 p_1 s.t21 s0.strips s0.carried) l_1.1 qa0 na0 ca0 qa1 na1 ca1 l_1.2 120 (#[]) (#[ptr l_4 0]) ([(l_4, 0, [.func (.func 85) #[] #[ptr b_3 0, ptr b_2 0]]), (b_3, 0, [.int .i64 s.t21]), (b_2, 0, [ptr l_1.1 0]), (l_1.1, 0, [.slice qa0 na0 ca0, .slice qa1 na1 ca1, .map (some l_1.2)]), (aB qa0, aO qa0, RSt.enc s0.strips), (aB qa1, aO qa1, RSp.enc s0.carried)]) w (HV.callee (S0 := [_]) (vs0 := []) hh (roA (roC (hh.bsepH 3 rfl) (roR hh 0 rfl (roR hh 1 rfl roN))) (roC (hh.bsepH 0 rfl) (roC (hh.bsepH 1 rfl) (roC (hh.bsepH 2 rfl) (roC (hh.bsepH 3 rfl) (roR hh 0 rfl (roR hh 1 rfl roN)))))))) hna0 hqa0 hla0 hna1 hqa1 hla1 (⟨fun a w => Tryz.call120 a w, (fun p_1 r hr w hT => clRet (Qc p_1 s.t21 s0.strips s0.carried l_4 b_3 b_2 l_1.1 qa0 na0 ca0 qa1 na1 ca1 (.map (some l_1.2)) w (HVstart hT) hna0 hqa0 hla0 hna1 hqa1 hla1 hr))⟩ : ClOK Tryz.prog 120 #[] #[ptr l_4 0] ([(l_4, 0, [.func (.func 85) #[] #[ptr b_3 0, ptr b_2 0]]), (b_3, 0, [.int .i64 s.t21]), (b_2, 0, [ptr l_1.1 0]), (l_1.1, 0, [.slice qa0 na0 ca0, .slice qa1 na1 ca1, .map (some l_1.2)]), (aB qa0, aO qa0, RSt.enc s0.strips), (aB qa1, aO qa1, RSp.enc s0.carried)]) (fun x : Pair => [.agg #[.int .i64 x.tenant, .int .i64 x.strip]]) (fun x : Int => .int .i64 x) (fun p_1 : Pair => j7 p_1 s.t21 s0.strips s0.carried)) h22) (fun l_5 h24 => ?_)
         refine jT (S' := [_, _, _, _, _, _]) (vs' := [_]) [0, 1, 2, 3, 4, 5] [0] 0 rfl rfl rfl rfl (jr (hsE [2, 3, 4, 0, 5] [0] 0 rfl rfl rfl rfl) (ku rfl rfl rfl (ji rfl rfl rfl rfl (fun _ _ => jQ rfl rfl) (ji rfl rfl rfl rfl (fun _ _ => jQ rfl rfl) (jE rfl ?_)))))
         refine jo (fun w => Tryz.zeroValue32 w) rfl (fun b_4 h25 => ?_)
         refine jr (hsE [3, 4, 5, 1, 6] [0] 0 rfl rfl rfl rfl) (jE rfl (jy (us := #[_, _]) (cs' := [_, _]) (S' := [_, _, _, _, _, _, _]) 0 (fun w => Tryz.sizeOf32 w) rfl rfl rfl rfl rfl rfl rfl (jr (hsE [3, 4, 5, 1, 6] [0] 0 rfl rfl rfl rfl) (ji rfl rfl rfl rfl (fun _ _ => jH rfl) (jM ?_)))))
         obtain rfl := sj hm
         exact jg b_4 (trivial) (sE rfl) (hsE [3, 4, 5, 1, 6, 0] [0] 0 rfl rfl rfl rfl)
        refine kN rfl ?_ ?_
        ·refine jo (fun w => Tryz.zeroValue32 w) rfl (fun b_5 h26 => ?_)
         refine jr (hsE [2, 3, 4, 5, 6] [0] 0 rfl rfl rfl rfl) (jE rfl (jT (S' := [_, _, _, _, _, _, _]) (vs' := [_]) [5, 0, 1, 2, 3, 4, 6] [0] 0 rfl rfl rfl rfl ?_))
         refine jd [_] [] rfl rfl rfl rfl rfl rfl rfl Tryz.call79 (fun w hh => yj s0.strips s0.carried t12b (fun p_3 : Pair => j7 p_3 s.t21 s0.strips s0.carried) l_1.1 qa0 na0 ca0 qa1 na1 ca1 l_1.2 120 (#[]) (#[ptr l_4 0]) ([(l_4, 0, [.func (.func 85) #[] #[ptr b_3 0, ptr b_2 0]]), (b_3, 0, [.int .i64 s.t21]), (b_2, 0, [ptr l_1.1 0]), (l_1.1, 0, [.slice qa0 na0 ca0, .slice qa1 na1 ca1, .map (some l_1.2)]), (aB qa0, aO qa0, RSt.enc s0.strips), (aB qa1, aO qa1, RSp.enc s0.carried)]) w (HV.callee (S0 := [_]) (vs0 := []) hh (roA (roC (hh.bsepH 4 rfl) (roR hh 0 rfl (roR hh 1 rfl roN))) (roC (hh.bsepH 1 rfl) (roC (hh.bsepH 2 rfl) (roC (hh.bsepH 3 rfl) (roC (hh.bsepH 4 rfl) (roR hh 0 rfl (roR hh 1 rfl roN)))))))) hna0 hqa0 hla0 hna1 hqa1 hla1 (⟨fun a w => Tryz.call120 a w, (fun p_3 r hr w hT => clRet (Qc p_3 s.t21 s0.strips s0.carried l_4 b_3 b_2 l_1.1 qa0 na0 ca0 qa1 na1 ca1 (.map (some l_1.2)) w (HVstart hT) hna0 hqa0 hla0 hna1 hqa1 hla1 hr))⟩ : ClOK Tryz.prog 120 #[] #[ptr l_4 0] ([(l_4, 0, [.func (.func 85) #[] #[ptr b_3 0, ptr b_2 0]]), (b_3, 0, [.int .i64 s.t21]), (b_2, 0, [ptr l_1.1 0]), (l_1.1, 0, [.slice qa0 na0 ca0, .slice qa1 na1 ca1, .map (some l_1.2)]), (aB qa0, aO qa0, RSt.enc s0.strips), (aB qa1, aO qa1, RSp.enc s0.carried)]) (fun x : Pair => [.agg #[.int .i64 x.tenant, .int .i64 x.strip]]) (fun x : Int => .int .i64 x) (fun p_3 : Pair => j7 p_3 s.t21 s0.strips s0.carried)) h22) (fun l_6 h27 => ?_)
         refine jT (S' := [_, _, _, _, _, _, _]) (vs' := [_]) [0, 1, 2, 3, 4, 5, 6] [0] 0 rfl rfl rfl rfl (jr (hsE [3, 4, 5, 0, 6] [0] 0 rfl rfl rfl rfl) (ku rfl rfl rfl (ji rfl rfl rfl rfl (fun _ _ => jQ rfl rfl) (ji rfl rfl rfl rfl (fun _ _ => jQ rfl rfl) (jE rfl (jy (us := #[_, _]) (cs' := [_, _]) (S' := [_, _, _, _, _, _, _]) 1 (fun w => Tryz.sizeOf32 w) rfl rfl rfl rfl rfl rfl rfl (jr (hsE [3, 4, 5, 0, 6] [0] 0 rfl rfl rfl rfl) ?_)))))))
         refine ji rfl rfl rfl rfl (fun _ _ => jH rfl) (jM ?_)
         obtain rfl := sj hm
         exact jg b_5 (trivial) (sE rfl) (hsE [3, 4, 5, 0, 6, 1] [0] 0 rfl rfl rfl rfl)
        exact JU
       refine kN rfl ?_ ?_
       ·refine jo (fun w => Tryz.zeroValue32 w) rfl (fun b_6 h28 => ?_)
        refine jr (hsE [1, 2, 3, 4, 5] [0] 0 rfl rfl rfl rfl) (jE rfl ?_)
        refine jd [] [] rfl rfl rfl rfl rfl rfl rfl Tryz.call80 (fun w hh => YL s.t21 s0.strips s0.carried b_3 b_2 l_1.1 qa0 na0 ca0 qa1 na1 ca1 (.map (some l_1.2)) w (HV.callee (S0 := []) (vs0 := []) hh (roC (bsep (hh.bseg 1 rfl)) (roC (bsep (hh.bseg 2 rfl)) (roC (bsep (hh.bseg 3 rfl)) (roR hh 0 rfl (roR hh 1 rfl roN)))))) hna0 hqa0 hla0 hna1 hqa1 hla1 h21) (fun l_7 h29 => ?_)
        refine jT (S' := [_, _, _, _, _, _, _]) (vs' := [_]) [0, 1, 2, 3, 4, 5, 6] [0] 0 rfl rfl rfl rfl (jr (hsE [2, 3, 4, 5, 6] [0] 0 rfl rfl rfl rfl) (jE rfl (jT (S' := [_, _, _, _, _, _, _]) (vs' := [_]) [5, 0, 1, 2, 3, 4, 6] [0] 0 rfl rfl rfl rfl ?_)))
        refine jd [_] [] rfl rfl rfl rfl rfl rfl rfl Tryz.call79 (fun w hh => yj s0.strips s0.carried t12b (fun p_5 : Pair => j7 p_5 s.t21 s0.strips s0.carried) l_1.1 qa0 na0 ca0 qa1 na1 ca1 l_1.2 120 (#[]) (#[ptr l_7 0]) ([(l_7, 0, [.func (.func 85) #[] #[ptr b_3 0, ptr b_2 0]]), (b_3, 0, [.int .i64 s.t21]), (b_2, 0, [ptr l_1.1 0]), (l_1.1, 0, [.slice qa0 na0 ca0, .slice qa1 na1 ca1, .map (some l_1.2)]), (aB qa0, aO qa0, RSt.enc s0.strips), (aB qa1, aO qa1, RSp.enc s0.carried)]) w (HV.callee (S0 := [_]) (vs0 := []) hh (roA (roC (hh.bsepH 4 rfl) (roR hh 0 rfl (roR hh 1 rfl roN))) (roC (hh.bsepH 0 rfl) (roC (hh.bsepH 2 rfl) (roC (hh.bsepH 3 rfl) (roC (hh.bsepH 4 rfl) (roR hh 0 rfl (roR hh 1 rfl roN)))))))) hna0 hqa0 hla0 hna1 hqa1 hla1 (⟨fun a w => Tryz.call120 a w, (fun p_5 r hr w hT => clRet (Qc p_5 s.t21 s0.strips s0.carried l_7 b_3 b_2 l_1.1 qa0 na0 ca0 qa1 na1 ca1 (.map (some l_1.2)) w (HVstart hT) hna0 hqa0 hla0 hna1 hqa1 hla1 hr))⟩ : ClOK Tryz.prog 120 #[] #[ptr l_7 0] ([(l_7, 0, [.func (.func 85) #[] #[ptr b_3 0, ptr b_2 0]]), (b_3, 0, [.int .i64 s.t21]), (b_2, 0, [ptr l_1.1 0]), (l_1.1, 0, [.slice qa0 na0 ca0, .slice qa1 na1 ca1, .map (some l_1.2)]), (aB qa0, aO qa0, RSt.enc s0.strips), (aB qa1, aO qa1, RSp.enc s0.carried)]) (fun x : Pair => [.agg #[.int .i64 x.tenant, .int .i64 x.strip]]) (fun x : Int => .int .i64 x) (fun p_5 : Pair => j7 p_5 s.t21 s0.strips s0.carried)) h22) (fun l_8 h30 => ?_)
        refine jT (S' := [_, _, _, _, _, _, _]) (vs' := [_]) [0, 1, 2, 3, 4, 5, 6] [0] 0 rfl rfl rfl rfl (jr (hsE [3, 4, 5, 0, 6] [0] 0 rfl rfl rfl rfl) (ku rfl rfl rfl (ji rfl rfl rfl rfl (fun _ _ => jQ rfl rfl) (ji rfl rfl rfl rfl (fun _ _ => jQ rfl rfl) (jE rfl (jy (us := #[_, _]) (cs' := [_, _]) (S' := [_, _, _, _, _, _, _]) 2 (fun w => Tryz.sizeOf32 w) rfl rfl rfl rfl rfl rfl rfl (jr (hsE [3, 4, 5, 0, 6] [0] 0 rfl rfl rfl rfl) ?_)))))))
        refine ji rfl rfl rfl rfl (fun _ _ => jH rfl) (jM ?_)
        obtain rfl := sj hm
        exact jg b_6 (trivial) (sE rfl) (hsE [3, 4, 5, 0, 6, 2] [0] 0 rfl rfl rfl rfl)
       exact JU
      ·intro l_3 hj
       replace hm := h20
       refine ja (jn (jq (je rfl rfl (jc rfl rfl rfl (fun _ _ => q8 rfl rfl) (jk rfl rfl (jp ?_))))))
       refine js rfl (fun h31 => ?_) (fun h31 => ?_)
       ·replace hm := ifF (of_ndec_true h31) hm
        refine jq (je rfl rfl (jc rfl rfl rfl (fun _ _ => kX rfl) (jk rfl rfl (jp (jw (jx (jx ?_)))))))
        obtain rfl := sj hm
        refine jf ?_
        replace hm := ocR h16
        refine jf (jf (jx ?_))
        obtain rfl := sj hm
        have hbo := h13 _ rfl
        subst hbo
        refine jf ?_
        replace hm := ocR h10
        refine jf (kC 62 ?_)
        obtain rfl := sj hm
        refine jm rfl (fun w hh => (.tmp rfl (.tmp rfl .nil))) (fun w hh => ⟨⟨none, 0, 0, []⟩, rfl, VOK.nil, hh.se [] [0] 2 rfl rfl rfl rfl⟩)
       ·replace hm := ifT (of_ndec_false h31) hm
        refine jq (jP 1 Tryz.runUnderlying32 rfl Tryz.sizeOf3 rfl rfl (jY 5 Tryz.isAgg3 rfl rfl rfl rfl (jc rfl rfl rfl (fun _ _ => yD rfl rfl) (jk rfl rfl (jp ?_)))))
        refine js rfl (fun h32 => ?_) (fun h32 => ?_)
        ·replace hm := ifD h32 hm
         refine jh (je rfl rfl ?_)
         refine kG RI [1] (ps := [(0, _)]) (cells := [_]) (fun w => Tryz.runUnderlying60 w) (fun w => Tryz.sizeOf62 w) (fun w => Tryz.zeroValue62 w) rfl rfl rfl rfl rfl rfl rfl rfl (fun L h33 => ?_)
         obtain ⟨t44, h34, hm⟩ := bindO hm
         refine yh RI 1 h34 Tryz.underlying60 QT rfl rfl rfl rfl rfl h12 rfl rfl (vlen RI h33 rfl) (AOK.q (vne h33)) (fun w hh => (hh.vsegA 0 rfl h33)) rfl (fun L_1 h35 h35n => ?_)
         refine jT (S' := [_, _, _, _, _, _]) (vs' := [_, _]) [0, 1, 2, 3, 4, 5] [0, 1] 0 rfl rfl rfl rfl (jk rfl rfl (jv (jt (jt ?_))))
         obtain rfl := sj hm
         exact jg (t44, L_1) (⟨rfl, h35⟩) (sE rfl) (hsE [1, 2, 3, 4] [1] 0 rfl rfl rfl rfl)
        ·replace hm := ifE h32 hm
         refine jq (jP 0 Tryz.runUnderlying32 rfl Tryz.sizeOf3 rfl rfl (jY 5 Tryz.isAgg3 rfl rfl rfl rfl (jc rfl rfl rfl (fun _ _ => Qy rfl rfl) (jk rfl rfl (jp ?_)))))
         refine js rfl (fun h36 => ?_) (fun h36 => ?_)
         ·replace hm := ifD h36 hm
          refine jh (je rfl rfl ?_)
          refine kG RI [2] (ps := [(0, _)]) (cells := [_]) (fun w => Tryz.runUnderlying60 w) (fun w => Tryz.sizeOf62 w) (fun w => Tryz.zeroValue62 w) rfl rfl rfl rfl rfl rfl rfl rfl (fun L_2 h37 => ?_)
          obtain ⟨t51, h38, hm⟩ := bindO hm
          refine yh RI 1 h38 Tryz.underlying60 QT rfl rfl rfl rfl rfl h12 rfl rfl (vlen RI h37 rfl) (AOK.q (vne h37)) (fun w hh => (hh.vsegA 0 rfl h37)) rfl (fun L_3 h39 h39n => ?_)
          refine jT (S' := [_, _, _, _, _, _]) (vs' := [_, _]) [0, 1, 2, 3, 4, 5] [0, 1] 0 rfl rfl rfl rfl (jk rfl rfl (jv (jt (jt ?_))))
          obtain rfl := sj hm
          exact jg (t51, L_3) (⟨rfl, h39⟩) (sE rfl) (hsE [1, 2, 3, 4] [1] 0 rfl rfl rfl rfl)
         ·replace hm := ifE h36 hm
          refine jh (je rfl rfl ?_)
          refine kG RI [0] (ps := [(0, _)]) (cells := [_]) (fun w => Tryz.runUnderlying60 w) (fun w => Tryz.sizeOf62 w) (fun w => Tryz.zeroValue62 w) rfl rfl rfl rfl rfl rfl rfl rfl (fun L_4 h40 => ?_)
          obtain ⟨t33, h41, hm⟩ := bindO hm
          refine yh RI 1 h41 Tryz.underlying60 QT rfl rfl rfl rfl rfl h12 rfl rfl (vlen RI h40 rfl) (AOK.q (vne h40)) (fun w hh => (hh.vsegA 0 rfl h40)) rfl (fun L_5 h42 h42n => ?_)
          refine jT (S' := [_, _, _, _, _, _]) (vs' := [_, _]) [0, 1, 2, 3, 4, 5] [0, 1] 0 rfl rfl rfl rfl (jk rfl rfl (jv (jt (jt ?_))))
          obtain rfl := sj hm
          exact jg (t33, L_5) (⟨rfl, h42⟩) (sE rfl) (hsE [1, 2, 3, 4] [1] 0 rfl rfl rfl rfl)
     ·rintro ⟨j_2, l_9⟩ hj
      obtain ⟨h44, h43⟩ := hj
      subst h44
      replace hm := ocL h16
      refine ja (jh ?_)
      obtain ⟨t52, h45, hm⟩ := bindO hm
      refine qs h45 rfl rfl rfl (je rfl rfl (jv ?_))
      obtain rfl := sj hm
      refine ja ?_
      exact jA _ l_9 rfl (h43) (sE rfl) (fun w hh => hh)
    ·replace hm := ifE h14 hm
     refine jS (jl (jl (jG ?_)))
     obtain rfl := sj hm
     have hbo := h13 _ rfl
     subst hbo
     exact jg (s.out6, l_2) (⟨rfl, h12⟩) (sE rfl) (fun w hh => hh)
   ·rintro ⟨j_3, l_10⟩ hj
    obtain ⟨h47, h46⟩ := hj
    subst h47
    replace hm := ocL h10
    refine ja (jq (je rfl rfl (jk rfl rfl (jk rfl rfl (jp (jw ?_))))))
    obtain rfl := sj hm
    refine jm rfl (fun w hh => (.tmp rfl (.tmp rfl .nil))) (fun w hh => ⟨l_10, rfl, h46, hh.se [] [0] 2 rfl rfl rfl rfl⟩)
def KW (n0 : Int) : Option Bool :=
 (KX n0 (-20) 20).bind fun t4 =>
 some t4
theorem Zf (n0 : Int)  (w : World) (hw : HV w (keys [] []) [] [] [] w)  {res : Bool} (hm : KW n0 = some res) :
    Calls Tryz.prog 61 #[.int .i64 n0] w (fun en w' => ∃ l : Unit, en = .returned (.bool res) ∧ (True) ∧ HV w (keys [] []) [] [] [] w') := by
  unfold KW at hm
  refine j5 Tryz.func61 rfl Tryz.ntmps61 rfl (e := [(0, _)]) rfl hw (jq (jk rfl rfl (j0 (je rfl rfl ?_))))
  obtain ⟨t4, h1, hm⟩ := bindO hm
  refine jd [] [] rfl rfl rfl rfl rfl rfl rfl Tryz.call62 (fun w hh => Yp n0 (-20) 20 w (HV.callee (S0 := []) (vs0 := []) hh roN)  h1) (fun l h2 => ?_)
  refine jk rfl rfl (jp (jw ?_))
  obtain rfl := sj hm
  refine jm rfl (fun w hh => (.tmp rfl .nil)) (fun w hh => ⟨(), rfl, trivial, hh⟩)
def Jw (x0 : Int) : Option Bool :=
 (KW x0).bind fun t6 =>
 some (!t6)
theorem Yq (x0 : Int) (rb : Nat) (w : World) (hw : HV w (keys [] []) [] [] [(rb, 0, [.func (.func 61) #[] #[]])] w)  {res : Bool} (hm : Jw x0 = some res) :
    Calls Tryz.prog 111 #[.int .i64 x0, ptr rb 0] w (fun en w' => ∃ l : Unit, en = .returned (.bool res) ∧ (True) ∧ HV w (keys [] []) [] [] [] w') := by
  unfold Jw at hm
  refine j5 Tryz.func111 rfl Tryz.ntmps111 rfl (e := [(0, _), (1, _)]) rfl hw (jq (jk rfl rfl (j0 (jc rfl rfl rfl (fun w hh => jR (Tryz.isAgg120 w) rfl (segCell (hh.seg 0 rfl) 0 rfl)) (je rfl rfl ?_)))))
  obtain ⟨t6, h1, hm⟩ := bindO hm
  refine jd [] [] rfl rfl rfl rfl rfl rfl rfl Tryz.call61 (fun w hh => Zf x0 w (HV.callee (S0 := []) (vs0 := []) hh roN)  h1) (fun l h2 => ?_)
  refine jc rfl rfl rfl (fun _ _ => kE rfl) (jk rfl rfl (jp (jw ?_)))
  obtain rfl := sj hm
  refine jm rfl (fun w hh => (.tmp rfl .nil)) (fun w hh => ⟨(), rfl, trivial, hh.se [] [] 1 rfl rfl rfl rfl⟩)
def yQ (s0 : (List Int)) (s : Int) : Option (Int ⊕ (Unit ⊕ Int)) :=
 if s < (s0.length : Int) then
 ((ix s0 s).bind fun t14 =>
 (Jw t14).bind fun t16 =>
 if t16 = true then
 (some (.inr (.inr s))) else
 ((addc s 1).bind fun t18 =>
 some (.inl t18))) else
 (some (.inr (.inl ())))
def yc (s0 : (List Int)) : Option Int :=
 (iterM FU (yQ s0) 0).bind fun o =>
 oc o (fun j => some (-1)) (fun r_1 => some r_1)
theorem K4 (s0 : (List Int)) (qa0 : Option Addr) (na0 ca0 : Nat) (rb : Nat) (w : World) (hw : HV w (keys [] []) [] [] [(aB qa0, aO qa0, RI.enc s0), (rb, 0, [.func (.func 61) #[] #[]])] w) (hna0 : s0.length = na0) (hqa0 : AOK na0 qa0) (hla0 : na0 ≤ ca0)  {res : Int} (hm : yc s0 = some res) :
    Calls Tryz.prog 132 #[.slice qa0 na0 ca0, .func (.func 111) #[] #[ptr rb 0]] w (fun en w' => ∃ l : Unit, en = .returned (.int .i64 res) ∧ (True) ∧ HV w (keys [] []) [] [] [] w') := by
  unfold yc at hm
  refine j5 Tryz.func132 rfl Tryz.ntmps132 rfl (e := [(0, _), (1, _)]) rfl hw (jq (jk rfl rfl (jp (jj (jq (je rfl rfl (jc rfl rfl rfl (fun w _ => jI hna0 (Tryz.runUnderlying26 w) rfl) ?_)))))))
  refine je rfl rfl (jp ?_)
  obtain ⟨o, h1, h2⟩ := bindO hm
  refine jF (ι := Unit) (fun j => o = .inl j) (fun j => []) (fun j => []) (fun j => []) ?_ ?_
  ·replace hm := h1
   refine jn ?_
   refine jL (ι := Unit) hm (fun s l => True) (fun s l => [(0, .slice qa0 na0 ca0), (1, .func (.func 111) #[] #[ptr rb 0]), (7, .int .i64 (s0.length : Int)), (8, .int .i64 s)]) (fun s l => []) (fun s l => []) () (trivial) (sE rfl) (fun w hh => hh) (fun s l r hpl hm h3 => ?_)
   unfold yQ at hm
   refine jq (yY rfl rfl rfl (jp (jj ?_)))
   refine js rfl (fun h4 => ?_) (fun h4 => ?_)
   ·replace hm := ifD h4 hm
    refine ju (ja (jj (jn (jq (je rfl rfl (jk rfl rfl (j0 ?_)))))))
    refine je rfl rfl (je rfl rfl (je rfl rfl ?_))
    obtain ⟨t14, h5, hm⟩ := bindO hm
    refine jc rfl rfl rfl (fun w _ => ki h5 (Tryz.runUnderlying26 w) (Tryz.sizeOf3 w) rfl rfl hna0 hqa0) (jc rfl rfl rfl (fun w hh => kl RI 0 h5 (Tryz.isAgg3 w) rfl (hh.seg 0 rfl) rfl (Nat.add_zero _).symm) ?_)
    obtain ⟨t16, h6, hm⟩ := bindO hm
    refine jd [] [] rfl rfl rfl rfl rfl rfl rfl Tryz.call111 (fun w hh => Yq t14 rb w (HV.callee (S0 := []) (vs0 := []) hh (roR hh 1 rfl roN))  h6) (fun l_1 h7 => ?_)
    refine jp ?_
    refine js rfl (fun h8 => ?_) (fun h8 => ?_)
    ·replace hm := ifT (h8) hm
     refine jq (je rfl rfl (jk rfl rfl (jp (jw (jx (jf (jf ?_)))))))
     refine jx ?_
     obtain rfl := sj hm
     have hbo := h3 _ rfl
     subst hbo
     refine jf ?_
     replace hm := ocR h2
     refine jf ?_
     obtain rfl := sj hm
     refine jm rfl (fun w hh => (.tmp rfl .nil)) (fun w hh => ⟨(), rfl, trivial, hh.se [] [] 2 rfl rfl rfl rfl⟩)
    ·replace hm := ifN h8 hm
     refine ju (jt (ja (jh ?_)))
     obtain ⟨t18, h9, hm⟩ := bindO hm
     refine qs h9 rfl rfl rfl (je rfl rfl (jv ?_))
     obtain rfl := sj hm
     refine ja ?_
     exact jA _ () rfl (trivial) (sE rfl) (fun w hh => hh)
   ·replace hm := ifE h4 hm
    refine jS (jl (jl (jG ?_)))
    obtain rfl := sj hm
    have hbo := h3 _ rfl
    subst hbo
    exact jg () (rfl) (.nil) (fun w hh => hh)
  ·intro j hj
   have h10 := hj
   subst h10
   replace hm := ocL h2
   refine ja (jq (jk rfl rfl (jp (jw ?_))))
   obtain rfl := sj hm
   refine jm rfl (fun w hh => (.tmp rfl .nil)) (fun w hh => ⟨(), rfl, trivial, hh.se [] [] 2 rfl rfl rfl rfl⟩)
def qp (s0 : (List Int)) : Option Bool :=
 (yc s0).bind fun t7 =>
 some (decide (0 ≤ t7))
theorem Kh (s0 : (List Int)) (qa0 : Option Addr) (na0 ca0 : Nat) (rb : Nat) (w : World) (hw : HV w (keys [] []) [] [] [(aB qa0, aO qa0, RI.enc s0), (rb, 0, [.func (.func 61) #[] #[]])] w) (hna0 : s0.length = na0) (hqa0 : AOK na0 qa0) (hla0 : na0 ≤ ca0)  {res : Bool} (hm : qp s0 = some res) :
    Calls Tryz.prog 110 #[.slice qa0 na0 ca0, .func (.func 111) #[] #[ptr rb 0]] w (fun en w' => ∃ l : Unit, en = .returned (.bool res) ∧ (True) ∧ HV w (keys [] []) [] [] [] w') := by
  unfold qp at hm
  refine j5 Tryz.func110 rfl Tryz.ntmps110 rfl (e := [(0, _), (1, _)]) rfl hw (jq (jk rfl rfl (j0 (je rfl rfl (je rfl rfl ?_)))))
  obtain ⟨t7, h1, hm⟩ := bindO hm
  refine jd [] [] rfl rfl rfl rfl rfl rfl rfl Tryz.call132 (fun w hh => K4 s0 qa0 na0 ca0 rb w (HV.callee (S0 := []) (vs0 := []) hh (roR hh 0 rfl (roR hh 1 rfl roN))) hna0 hqa0 hla0 h1) (fun l h2 => ?_)
  refine jc rfl rfl rfl (fun _ _ => K1 rfl rfl) (jk rfl rfl (jp (jw ?_)))
  obtain rfl := sj hm
  refine jm rfl (fun w hh => (.tmp rfl .nil)) (fun w hh => ⟨(), rfl, trivial, hh.se [] [] 2 rfl rfl rfl rfl⟩)
def Jo (l0 : (List Int)) : Option Bool :=
 (qp l0).bind fun t7 =>
 some (!t7)
theorem QE (l0 : (List Int)) (qa0 : Option Addr) (na0 ca0 : Nat) (w : World) (hw : HV w (keys [] []) [] [] [(aB qa0, aO qa0, RI.enc l0)] w) (hna0 : l0.length = na0) (hqa0 : AOK na0 qa0) (hla0 : na0 ≤ ca0) {res : Bool} (hm : Jo l0 = some res) :
    Calls Tryz.prog 63 #[.slice qa0 na0 ca0, .func (.func 61) #[] #[]] w (fun en w' => ∃ l : Unit, en = .returned (.bool res) ∧ (True) ∧ HV w (keys [] []) [] [] [] w') := by
  unfold Jo at hm
  refine j5 Tryz.func63 rfl Tryz.ntmps63 rfl (e := [(0, _), (1, _)]) rfl hw (jq ?_)
  refine jC rfl rfl (fun b h1 => ?_)
  refine jk rfl rfl (j0 (je rfl rfl (jc rfl rfl rfl (fun _ _ => jK (u := #[]) (u' := #[_]) rfl rfl) ?_)))
  obtain ⟨t7, h2, hm⟩ := bindO hm
  refine jd [] [] rfl rfl rfl rfl rfl rfl rfl Tryz.call110 (fun w hh => Kh l0 qa0 na0 ca0 b w (HV.callee (S0 := []) (vs0 := []) hh (roR hh 0 rfl (roC (bsep (hh.bseg 0 rfl)) roN))) hna0 hqa0 hla0 h2) (fun l h3 => ?_)
  refine jc rfl rfl rfl (fun _ _ => kE rfl) (jk rfl rfl (jp (jw ?_)))
  obtain rfl := sj hm
  refine jm rfl (fun w hh => (.tmp rfl .nil)) (fun w hh => ⟨(), rfl, trivial, hh.se [] [] 1 rfl rfl rfl rfl⟩)
def Qe (mark0 : Int) (x1 : Span) : Option Int :=
 if 0 < mark0 then
 ((mulc mark0 x1.lo).bind fun t10 =>
 some t10) else
 ((mulc mark0 x1.hi).bind fun t14 =>
 some t14)
theorem YQ (mark0 : Int) (x1 : Span)  (w : World) (hw : HV w (keys [] []) [] [] [] w)  {res : Int} (hm : Qe mark0 x1 = some res) :
    Calls Tryz.prog 65 #[.int .i64 mark0, .agg #[.int .i64 x1.lo, .int .i64 x1.hi]] w (fun en w' => ∃ l : Unit, en = .returned (.int .i64 res) ∧ (True) ∧ HV w (keys [] []) [] [] [] w') := by
  unfold Qe at hm
  refine j5 Tryz.func65 rfl Tryz.ntmps65 rfl (e := [(0, _), (1, _)]) rfl hw (jq ?_)
  refine jC rfl rfl (fun b h1 => ?_)
  refine jk rfl rfl (jp (jj (jq (je rfl rfl (jc rfl rfl rfl (fun _ _ => Qy rfl rfl) (jp ?_))))))
  refine js rfl (fun h2 => ?_) (fun h2 => ?_)
  ·replace hm := ifD h2 hm
   refine jq (je rfl rfl (jP 0 Tryz.runUnderlying32 rfl Tryz.sizeOf3 rfl rfl (jY 0 Tryz.isAgg3 rfl rfl rfl rfl ?_)))
   obtain ⟨t10, h3, hm⟩ := bindO hm
   refine jc rfl rfl rfl (fun _ _ => Yn h3 rfl rfl) (jk rfl rfl (jp (jw (jf ?_))))
   obtain rfl := sj hm
   refine jm rfl (fun w hh => (.tmp rfl .nil)) (fun w hh => ⟨(), rfl, trivial, hh.se [] [] 0 rfl rfl rfl rfl⟩)
  ·replace hm := ifE h2 hm
   refine ju (ja (jq (je rfl rfl (jP 1 Tryz.runUnderlying32 rfl Tryz.sizeOf3 rfl rfl (jY 0 Tryz.isAgg3 rfl rfl rfl rfl ?_)))))
   obtain ⟨t14, h4, hm⟩ := bindO hm
   refine jc rfl rfl rfl (fun _ _ => Yn h4 rfl rfl) (jk rfl rfl (jp (jw ?_)))
   obtain rfl := sj hm
   refine jm rfl (fun w hh => (.tmp rfl .nil)) (fun w hh => ⟨(), rfl, trivial, hh.se [] [] 0 rfl rfl rfl rfl⟩)
structure qt where
  r0 : Int
  r1 : Int
structure za where
  sum10 : Int
  t60 : Int
def QG (m1 : Marks) (t63 : Int) (s : za) (s0 : Scalps) (x : Int) (s_1 : Unit) : Option (Unit ⊕ Int) :=
 (ix m1.strips x).bind fun t73 =>
 (addc t63 t73).bind fun t75 =>
 (j8 (⟨s.t60, x⟩ : Pair) s0.strips s0.carried).bind fun t81 =>
 if t81 < t75 then
 (some (.inr 8)) else
 (some (.inl ()))
def Qz (m1 : Marks) (s0 : Scalps) (t18b : (List (Pair × Bool))) (s : za) : Option (za ⊕ (Int ⊕ qt)) :=
 if s.t60 < (m1.tenants.length : Int) then
 ((ix m1.tenants s.t60).bind fun t63 =>
 (Kd s0.strips s0.carried s.t60).bind fun t67 =>
 if (s0.strips.length : Int) ≤ 1000000 then ((iterX (QG m1 t63 s s0) (reachL s0.strips.length t18b t67) ()).bind fun o_3 =>
 oc o_3 (fun s_1 => (ix s0.carried s.t60).bind fun t88 =>
 (Qe t63 t88).bind fun t90 =>
 (addc s.sum10 t90).bind fun t91 =>
 (addc s.t60 1).bind fun t92 =>
 some (.inl (⟨t91, t92⟩ : za))) (fun b_7 => some (.inr (.inr (⟨0, b_7⟩ : qt))))) else none) else
 (some (.inr (.inl s.sum10)))
structure Jr where
  sum10 : Int
  t96 : Int
def QH (m1 : Marks) (s0 : Scalps) (s_2 : Jr) : Option (Jr ⊕ Int) :=
 if s_2.t96 < (m1.strips.length : Int) then
 ((ix m1.strips s_2.t96).bind fun t99 =>
 (ix s0.strips s_2.t96).bind fun t106 =>
 (kc (⟨t106.tenant, (⟨t106.lay.lo, t106.lay.hi⟩ : Span), (⟨t106.seeded.lo, t106.seeded.hi⟩ : Span), (⟨t106.left.lo, t106.left.hi⟩ : Span)⟩ : Strip)).bind fun t108 =>
 (Qe t99 t108).bind fun t109 =>
 (addc s_2.sum10 t109).bind fun t110 =>
 (addc s_2.t96 1).bind fun t111 =>
 some (.inl (⟨t110, t111⟩ : Jr))) else
 (some (.inr s_2.sum10))
def QY (s0 : Scalps) (m1 : Marks) : Option qt :=
 (kv s0).bind fun t18 =>
 oc t18 (fun t18a => some (⟨0, t18a⟩ : qt)) (fun t18b => (if (m1.strips.length : Int) = (s0.strips.length : Int) then
 (some (!decide ((m1.tenants.length : Int) = (s0.carried.length : Int)))) else
 (some true)).bind fun o =>
 if o = true then
 (some (⟨0, 2⟩ : qt)) else
 (((Jo m1.strips).bind fun t46 =>
 if (!t46) = true then
 (some true) else
 ((Jo m1.tenants).bind fun t52 =>
 some (!t52))).bind fun o_1 =>
 if o_1 = true then
 (some (⟨0, 3⟩ : qt)) else
 ((K5 s0.strips s0.carried).bind fun t56 =>
 (iterM FU (Qz m1 s0 t18b) (⟨0, 0⟩ : za)).bind fun o_2 =>
 oc o_2 (fun j_1 => (iterM FU (QH m1 s0) (⟨j_1, 0⟩ : Jr)).bind fun o_4 =>
 some (⟨o_4, 0⟩ : qt)) (fun r_3 => some r_3))))
theorem ZS (s0 : Scalps) (m1 : Marks) (qa0 : Option Addr) (na0 ca0 : Nat) (qa1 : Option Addr) (na1 ca1 : Nat) (qa2 : Option Addr) (na2 ca2 : Nat) (qa3 : Option Addr) (na3 ca3 : Nat) (w : World) (hw : HV w (keys [] []) [] [] [(aB qa0, aO qa0, RSt.enc s0.strips), (aB qa1, aO qa1, RSp.enc s0.carried), (aB qa2, aO qa2, RI.enc m1.strips), (aB qa3, aO qa3, RI.enc m1.tenants)] w) (hna0 : s0.strips.length = na0) (hqa0 : AOK na0 qa0) (hla0 : na0 ≤ ca0) (hna1 : s0.carried.length = na1) (hqa1 : AOK na1 qa1) (hla1 : na1 ≤ ca1) (hna2 : m1.strips.length = na2) (hqa2 : AOK na2 qa2) (hla2 : na2 ≤ ca2) (hna3 : m1.tenants.length = na3) (hqa3 : AOK na3 qa3) (hla3 : na3 ≤ ca3) {res : qt} (hm : QY s0 m1 = some res) :
    Calls Tryz.prog 18 #[.agg #[.slice qa0 na0 ca0, .slice qa1 na1 ca1], .agg #[.slice qa2 na2 ca2, .slice qa3 na3 ca3]] w (fun en w' => ∃ l : Unit, en = .returned (.tuple #[.int .i64 res.r0, .int .i64 res.r1]) ∧ (True) ∧ HV w (keys [] []) [] [] [] w') := by
  unfold QY at hm
  refine ZO (args := [.agg #[.slice qa0 na0 ca0, .slice qa1 na1 ca1], .agg #[.slice qa2 na2 ca2, .slice qa3 na3 ca3]]) Tryz.func18 rfl Tryz.ntmps18 rfl (e := [(0, _), (1, _)]) rfl (H := HV w (keys [] []) [] [] [(aB qa0, aO qa0, RSt.enc s0.strips), (aB qa1, aO qa1, RSp.enc s0.carried), (aB qa2, aO qa2, RI.enc m1.strips), (aB qa3, aO qa3, RI.enc m1.tenants)]) hw ?_
  refine Zs (jq ?_)
  refine jC rfl rfl (fun b h1 => ?_)
  refine jC rfl rfl (fun b_1 h2 => ?_)
  refine jo (fun w => Tryz.zeroValue3 w) rfl (fun b_2 h3 => ?_)
  refine jo (fun w => Tryz.zeroValue41 w) rfl (fun b_3 h4 => ?_)
  refine j0 (kD [_, _] 3 Tryz.isAgg25 Tryz.sizeOf25 rfl rfl rfl rfl ?_)
  obtain ⟨t18, h5, hm⟩ := bindO hm
  rcases t18 with t18a | t18b
  ·replace hm := ocL hm
   refine jd [] [] rfl rfl rfl rfl rfl rfl rfl Tryz.call57 (fun w hh => kh s0 qa0 na0 ca0 qa1 na1 ca1 w (HV.callee (S0 := []) (vs0 := []) hh (roR hh 0 rfl (roR hh 1 rfl roN))) hna0 hqa0 hla0 hna1 hqa1 hla1 h5) (fun l h6 => ?_)
   have h7 := h6
   refine je rfl rfl (kp rfl rfl rfl (kp rfl rfl rfl (jk rfl rfl (jk rfl rfl (j0 (jk rfl rfl (jp ?_)))))))
   refine jj (jn (jq (je rfl rfl (jc rfl rfl rfl (fun _ _ => QI h7 rfl rfl) (jk rfl rfl (jp (zd rfl rfl ?_)))))))
   refine jq (je rfl rfl (kY (cs' := #[_]) (S' := [_, _, _, _]) 1 (fun w => Tryz.sizeOf3 w) rfl rfl rfl rfl rfl rfl rfl (kY (cs' := #[_]) (S' := [_, _, _, _]) 0 (fun w => Tryz.sizeOf41 w) rfl rfl rfl rfl rfl rfl rfl (jp (jw (jx (jf ?_)))))))
   obtain rfl := sj hm
   refine Qj rfl rfl rfl (fun w hh => (.cell rfl (loadVar_one (Tryz.isAgg3 _) (hh.cell 1 rfl rfl)) (.cell rfl (loadVar_one (Tryz.isAgg41 _) (hh.cell 0 rfl rfl)) .nil))) (fun w hh => ⟨(), rfl, trivial, hh.se [] [] 4 rfl rfl rfl rfl⟩)
  ·replace hm := ocR hm
   refine jd [] [] rfl rfl rfl rfl rfl rfl rfl Tryz.call57 (fun w hh => kh s0 qa0 na0 ca0 qa1 na1 ca1 w (HV.callee (S0 := []) (vs0 := []) hh (roR hh 0 rfl (roR hh 1 rfl roN))) hna0 hqa0 hla0 hna1 hqa1 hla1 h5) (fun l_1 h8 => ?_)
   refine jT (S' := [_, _, _, _, _, _]) (vs' := [_]) [0, 1, 2, 3, 4, 5] [0] 0 rfl rfl rfl rfl (je rfl rfl (kp rfl rfl rfl (kp rfl rfl rfl (jk rfl rfl (jk rfl rfl (j0 (jk rfl rfl ?_)))))))
   refine jp (jj (jn (jq (je rfl rfl (jc rfl rfl rfl (fun _ _ => q8 rfl rfl) (jk rfl rfl (jp ?_)))))))
   refine qW rfl rfl (jj ?_)
   obtain ⟨o, h9, h10⟩ := bindO hm
   refine YN (ι := Unit) (fun l_2 => mks []) (fun l_2 => True) (fun l_2 => [(2, ptr b 0), (3, ptr b_1 0), (4, ptr b_2 0), (5, ptr b_3 0), (6, ptr l_1.1 0), (8, .func (.func 61) #[] #[]), (25, .bool o)]) (fun l_2 => [(l_1.1, .cells #[.slice qa0 na0 ca0, .slice qa1 na1 ca1, .map (some l_1.2)] 144 (0, 0)), (l_1.2, gobj (kR RPr) kB t18b), (b_3, .cells #[.int .i64 0] 41 (0, 0)), (b_2, .cells #[.int .i64 0] 3 (0, 0)), (b_1, .cells #[.slice qa2 na2 ca2, .slice qa3 na3 ca3] 28 (0, 0)), (b, .cells #[.slice qa0 na0 ca0, .slice qa1 na1 ca1] 25 (0, 0))]) (fun l_2 => [mkV []]) ?_ ?_
   ·replace hm := h9
    refine jh (jP 0 Tryz.runUnderlying28 rfl Tryz.sizeOf26 rfl rfl (jY 4 Tryz.isAgg26 rfl rfl rfl rfl (jc rfl rfl rfl (fun w _ => jI hna2 (Tryz.runUnderlying26 w) rfl) (jP 0 Tryz.runUnderlying25 rfl Tryz.sizeOf22 rfl rfl (jY 5 Tryz.isAgg22 rfl rfl rfl rfl (jc rfl rfl rfl (fun w _ => jI hna0 (Tryz.runUnderlying22 w) rfl) (jc rfl rfl rfl (fun _ _ => q8 rfl rfl) ?_)))))))
    refine je rfl rfl ?_
    refine jJ 33 rfl (fun h11 => ?_) (fun h11 => ?_)
    ·replace hm := ifF (of_ndec_true h11) hm
     refine g_k rfl rfl rfl rfl (g_k rfl rfl rfl rfl (g_k rfl rfl rfl rfl (g_k rfl rfl rfl rfl (g_k rfl rfl rfl rfl (g_k rfl rfl rfl rfl (g_k rfl rfl rfl rfl (kx rfl rfl rfl ?_)))))))
     refine jk rfl rfl (jv ?_)
     obtain rfl := sj hm
     exact Qb () rfl (trivial) (sE rfl) (fun w hh => hh)
    ·replace hm := ifT (of_ndec_false h11) hm
     refine jb rfl rfl (jP 1 Tryz.runUnderlying28 rfl Tryz.sizeOf26 rfl rfl (jb rfl rfl (jY 4 Tryz.isAgg26 rfl rfl rfl rfl (jb rfl rfl (jc rfl rfl rfl (fun w _ => jI hna3 (Tryz.runUnderlying26 w) rfl) (jb rfl rfl (jP 1 Tryz.runUnderlying25 rfl Tryz.sizeOf23 rfl rfl ?_)))))))
     refine jb rfl rfl (jY 5 Tryz.isAgg23 rfl rfl rfl rfl (jb rfl rfl (jc rfl rfl rfl (fun w _ => jI hna1 (Tryz.runUnderlying23 w) rfl) (jb rfl rfl (jc rfl rfl rfl (fun _ _ => q8 rfl rfl) (j3 rfl rfl rfl (jk rfl rfl ?_)))))))
     refine jv ?_
     obtain rfl := sj hm
     exact Qb () rfl (trivial) (sE rfl) (fun w hh => hh)
   ·intro l_2 hj
    replace hm := h10
    refine ja ?_
    refine js rfl (fun h12 => ?_) (fun h12 => ?_)
    ·replace hm := ifT (h12) hm
     refine jq (kY (cs' := #[_]) (S' := [_, _, _, _, _, _]) 3 (fun w => Tryz.sizeOf3 w) rfl rfl rfl rfl rfl rfl rfl (kY (cs' := #[_]) (S' := [_, _, _, _, _, _]) 2 (fun w => Tryz.sizeOf41 w) rfl rfl rfl rfl rfl rfl rfl (jp (jw (jx (jf ?_))))))
     obtain rfl := sj hm
     refine Qj rfl rfl rfl (fun w hh => (.cell rfl (loadVar_one (Tryz.isAgg3 _) (hh.cell 3 rfl rfl)) (.cell rfl (loadVar_one (Tryz.isAgg41 _) (hh.cell 2 rfl rfl)) .nil))) (fun w hh => ⟨(), rfl, trivial, hh.se [] [] 4 rfl rfl rfl rfl⟩)
    ·replace hm := ifN h12 hm
     refine jj ?_
     obtain ⟨o_1, h13, h14⟩ := bindO hm
     refine YN (ι := Unit) (fun l_3 => mks []) (fun l_3 => True) (fun l_3 => [(2, ptr b 0), (3, ptr b_1 0), (4, ptr b_2 0), (5, ptr b_3 0), (6, ptr l_1.1 0), (42, .bool o_1)]) (fun l_3 => [(l_1.1, .cells #[.slice qa0 na0 ca0, .slice qa1 na1 ca1, .map (some l_1.2)] 144 (0, 0)), (l_1.2, gobj (kR RPr) kB t18b), (b_3, .cells #[.int .i64 0] 41 (0, 0)), (b_2, .cells #[.int .i64 0] 3 (0, 0)), (b_1, .cells #[.slice qa2 na2 ca2, .slice qa3 na3 ca3] 28 (0, 0)), (b, .cells #[.slice qa0 na0 ca0, .slice qa1 na1 ca1] 25 (0, 0))]) (fun l_3 => [mkV []]) ?_ ?_
     ·replace hm := h13
      refine jh (jP 0 Tryz.runUnderlying28 rfl Tryz.sizeOf26 rfl rfl (jY 4 Tryz.isAgg26 rfl rfl rfl rfl (je rfl rfl ?_)))
      obtain ⟨t46, h15, hm⟩ := bindO hm
      refine jd [] [] rfl rfl rfl rfl rfl rfl rfl Tryz.call63 (fun w hh => QE m1.strips qa2 na2 ca2 w (HV.callee (S0 := []) (vs0 := []) hh (roR hh 2 rfl roN)) hna2 hqa2 hla2 h15) (fun l_4 h16 => ?_)
      refine jc rfl rfl rfl (fun _ _ => kE rfl) (je rfl rfl ?_)
      refine jJ 48 rfl (fun h17 => ?_) (fun h17 => ?_)
      ·replace hm := ifT (h17) hm
       refine g_k rfl rfl rfl rfl (g_k rfl rfl rfl rfl (g_k rfl rfl rfl rfl (g_k rfl rfl rfl rfl (g_k rfl rfl rfl rfl (kx rfl rfl rfl (jk rfl rfl (jv ?_)))))))
       obtain rfl := sj hm
       exact Qb () rfl (trivial) (sE rfl) (fun w hh => hh)
      ·replace hm := ifN h17 hm
       refine jb rfl rfl (jP 1 Tryz.runUnderlying28 rfl Tryz.sizeOf26 rfl rfl (jb rfl rfl (jY 4 Tryz.isAgg26 rfl rfl rfl rfl (jb rfl rfl (je rfl rfl (jb rfl rfl ?_))))))
       obtain ⟨t52, h18, hm⟩ := bindO hm
       refine jd [] [] rfl rfl rfl rfl rfl rfl rfl Tryz.call63 (fun w hh => QE m1.tenants qa3 na3 ca3 w (HV.callee (S0 := []) (vs0 := []) hh (roR hh 3 rfl roN)) hna3 hqa3 hla3 h18) (fun l_5 h19 => ?_)
       refine jb rfl rfl (jc rfl rfl rfl (fun _ _ => kE rfl) (j3 rfl rfl rfl (jk rfl rfl (jv ?_))))
       obtain rfl := sj hm
       exact Qb () rfl (trivial) (sE rfl) (fun w hh => hh)
     ·intro l_3 hj
      replace hm := h14
      refine ja ?_
      refine js rfl (fun h20 => ?_) (fun h20 => ?_)
      ·replace hm := ifT (h20) hm
       refine jq (kY (cs' := #[_]) (S' := [_, _, _, _, _, _]) 3 (fun w => Tryz.sizeOf3 w) rfl rfl rfl rfl rfl rfl rfl (kY (cs' := #[_]) (S' := [_, _, _, _, _, _]) 2 (fun w => Tryz.sizeOf41 w) rfl rfl rfl rfl rfl rfl rfl (jp (jw (jx (jf ?_))))))
       obtain rfl := sj hm
       refine Qj rfl rfl rfl (fun w hh => (.cell rfl (loadVar_one (Tryz.isAgg3 _) (hh.cell 3 rfl rfl)) (.cell rfl (loadVar_one (Tryz.isAgg41 _) (hh.cell 2 rfl rfl)) .nil))) (fun w hh => ⟨(), rfl, trivial, hh.se [] [] 4 rfl rfl rfl rfl⟩)
      ·replace hm := ifN h20 hm
       refine ju (jt (ja (jq (je rfl rfl ?_))))
       obtain ⟨t56, h21, hm⟩ := bindO hm
       refine jd [] [] rfl rfl rfl rfl rfl rfl rfl Tryz.call59 (fun w hh => Yk s0.strips s0.carried l_1.1 qa0 na0 ca0 qa1 na1 ca1 (.map (some l_1.2)) w (HV.callee (S0 := []) (vs0 := []) hh (roC (bsep (hh.bseg 0 rfl)) (roR hh 0 rfl (roR hh 1 rfl roN)))) hna0 hqa0 hla0 hna1 hqa1 hla1 h21) (fun l_6 h22 => ?_)
       refine jT (S' := [_, _, _, _, _, _, _]) (vs' := [_]) [0, 1, 2, 3, 4, 5, 6] [0] 0 rfl rfl rfl rfl ?_
       refine jo (fun w => Tryz.zeroValue115 w) rfl (fun b_4 h23 => ?_)
       refine jy (us := #[_]) (cs' := [_]) (S' := [_, _, _, _, _, _, _, _]) 0 (fun w => Tryz.sizeOf115 w) rfl rfl rfl rfl rfl rfl rfl (j0 (jk rfl rfl (jp (jj (jq (jP 1 Tryz.runUnderlying28 rfl Tryz.sizeOf26 rfl rfl (jY 6 Tryz.isAgg26 rfl rfl rfl rfl ?_)))))))
       refine jc rfl rfl rfl (fun w _ => jI hna3 (Tryz.runUnderlying26 w) rfl) (je rfl rfl (jp ?_))
       obtain ⟨o_2, h24, h25⟩ := bindO hm
       refine YN (ι := Int × List Nat) (fun j => mks j.2) (fun j => o_2 = .inl j.1) (fun j => [(2, ptr b 0), (3, ptr b_1 0), (4, ptr b_2 0), (5, ptr b_3 0), (10, .int .i64 j.1)]) (fun j => [(b_4, .cells #[.func (.func 120) #[] #[ptr l_6 0]] 115 (0, 0)), (l_6, .cells #[.func (.func 83) #[ptr l_1.1 0] #[]] 135 (0, 0)), (l_1.1, .cells #[.slice qa0 na0 ca0, .slice qa1 na1 ca1, .map (some l_1.2)] 144 (0, 0)), (l_1.2, gobj (kR RPr) kB t18b), (b_3, .cells #[.int .i64 0] 41 (0, 0)), (b_2, .cells #[.int .i64 0] 3 (0, 0)), (b_1, .cells #[.slice qa2 na2 ca2, .slice qa3 na3 ca3] 28 (0, 0)), (b, .cells #[.slice qa0 na0 ca0, .slice qa1 na1 ca1] 25 (0, 0))]) (fun j => [mkV j.2]) ?_ ?_
       ·replace hm := h24
        refine jn ?_
        refine Yd (ι := List Nat) hm (fun s l_7 => mks l_7) (fun s l_7 => True) (fun s l_7 => [(2, ptr b 0), (3, ptr b_1 0), (4, ptr b_2 0), (5, ptr b_3 0), (6, ptr l_1.1 0), (9, ptr b_4 0), (10, .int .i64 s.sum10), (58, .slice qa3 na3 ca3), (59, .int .i64 (m1.tenants.length : Int)), (60, .int .i64 s.t60)]) (fun s l_7 => [(b_4, .cells #[.func (.func 120) #[] #[ptr l_6 0]] 115 (0, 0)), (l_6, .cells #[.func (.func 83) #[ptr l_1.1 0] #[]] 135 (0, 0)), (l_1.1, .cells #[.slice qa0 na0 ca0, .slice qa1 na1 ca1, .map (some l_1.2)] 144 (0, 0)), (l_1.2, gobj (kR RPr) kB t18b), (b_3, .cells #[.int .i64 0] 41 (0, 0)), (b_2, .cells #[.int .i64 0] 3 (0, 0)), (b_1, .cells #[.slice qa2 na2 ca2, .slice qa3 na3 ca3] 28 (0, 0)), (b, .cells #[.slice qa0 na0 ca0, .slice qa1 na1 ca1] 25 (0, 0))]) (fun s l_7 => [mkV l_7]) [] rfl (trivial) (sE rfl) (fun w hh => hh) (fun s l_7 r hpl hm h26 => ?_)
        unfold Qz at hm
        refine jq (yY rfl rfl rfl (jp (jj ?_)))
        refine js rfl (fun h27 => ?_) (fun h27 => ?_)
        ·replace hm := ifD h27 hm
         refine ju (ja (jj (jn (jq (je rfl rfl ?_)))))
         obtain ⟨t63, h28, hm⟩ := bindO hm
         refine jc rfl rfl rfl (fun w _ => ki h28 (Tryz.runUnderlying26 w) (Tryz.sizeOf3 w) rfl rfl hna3 hqa3) (jc rfl rfl rfl (fun w hh => kl RI 0 h28 (Tryz.isAgg3 w) rfl (hh.seg 3 rfl) rfl (Nat.add_zero _).symm) ?_)
         refine jo (fun w => Tryz.zeroValue3 w) rfl (fun b_5 h29 => ?_)
         refine jo (fun w => Tryz.zeroValue3 w) rfl (fun b_6 h30 => ?_)
         refine kY (cs' := #[_]) (S' := [_, _, _, _, _, _, _, _, _, _]) 1 (fun w => Tryz.sizeOf3 w) rfl rfl rfl rfl rfl rfl rfl (kY (cs' := #[_]) (S' := [_, _, _, _, _, _, _, _, _, _]) 0 (fun w => Tryz.sizeOf3 w) rfl rfl rfl rfl rfl rfl rfl (jp (jj (jq (je rfl rfl (jY 1 Tryz.isAgg3 rfl rfl rfl rfl ?_))))))
         obtain ⟨t67, h31, hm⟩ := bindO hm
         refine jd [] [] rfl rfl rfl rfl rfl rfl rfl Tryz.call64 (fun w hh => YM s0.strips s0.carried s.t60 l_1.1 qa0 na0 ca0 qa1 na1 ca1 (.map (some l_1.2)) w (HV.callee (S0 := []) (vs0 := []) hh (roC (bsep (hh.bseg 4 rfl)) (roR hh 0 rfl (roR hh 1 rfl roN)))) hna0 hqa0 hla0 hna1 hqa1 hla1 h31) (fun l_8 h32 => ?_)
         refine jT (S' := [_, _, _, _, _, _, _, _, _, _, _, _]) (vs' := [_]) [0, 1, 2, 3, 4, 5, 6, 7, 8, 9, 10, 11] [0] 0 rfl rfl rfl rfl (jp (jn ?_))
         obtain ⟨h33, hm⟩ := ifO hm
         refine ZU (e' := [(2, ptr b 0), (3, ptr b_1 0), (4, ptr b_2 0), (5, ptr b_3 0), (6, ptr l_1.1 0), (9, ptr b_4 0), (10, .int .i64 s.sum10), (11, ptr b_5 0), (12, ptr b_6 0), (58, .slice qa3 na3 ca3), (59, .int .i64 (m1.tenants.length : Int)), (60, .int .i64 s.t60), (67, .func (.func 112) #[] #[ptr l_8.1 0, ptr l_8.2 0])]) (sE rfl) ?_
         obtain ⟨o_3, h34, hm⟩ := bindO hm
         refine ZN (ι := Unit) (ι' := Unit) (reachL s0.strips.length t18b t67) (fun x => .int .i64 x) h34 (fun s_1 l_9 => True) (fun s_1 l_9 => [(l_8.1, .cells #[ptr l_1.1 0] 107 (0, 0)), (l_8.2, .cells #[.int .i64 t67] 3 (0, 0)), (b_6, .cells #[.int .i64 t63] 3 (0, 0)), (b_5, .cells #[.int .i64 s.t60] 3 (0, 0)), (b_4, .cells #[.func (.func 120) #[] #[ptr l_6 0]] 115 (0, 0)), (l_6, .cells #[.func (.func 83) #[ptr l_1.1 0] #[]] 135 (0, 0)), (l_1.1, .cells #[.slice qa0 na0 ca0, .slice qa1 na1 ca1, .map (some l_1.2)] 144 (0, 0)), (l_1.2, gobj (kR RPr) kB t18b), (b_3, .cells #[.int .i64 0] 41 (0, 0)), (b_2, .cells #[.int .i64 0] 3 (0, 0)), (b_1, .cells #[.slice qa2 na2 ca2, .slice qa3 na3 ca3] 28 (0, 0)), (b, .cells #[.slice qa0 na0 ca0, .slice qa1 na1 ca1] 25 (0, 0))]) (fun s_1 l_9 => [mkV l_7]) (fun b_7 l_10 => True) (fun b_7 l_10 => [(l_8.1, .cells #[ptr l_1.1 0] 107 (0, 0)), (l_8.2, .cells #[.int .i64 t67] 3 (0, 0)), (b_6, .cells #[.int .i64 t63] 3 (0, 0)), (b_5, .cells #[.int .i64 s.t60] 3 (0, 0)), (b_4, .cells #[.func (.func 120) #[] #[ptr l_6 0]] 115 (0, 0)), (l_6, .cells #[.func (.func 83) #[ptr l_1.1 0] #[]] 135 (0, 0)), (l_1.1, .cells #[.slice qa0 na0 ca0, .slice qa1 na1 ca1, .map (some l_1.2)] 144 (0, 0)), (l_1.2, gobj (kR RPr) kB t18b), (b_3, .cells #[.int .i64 b_7] 41 (0, 0)), (b_2, .cells #[.int .i64 0] 3 (0, 0)), (b_1, .cells #[.slice qa2 na2 ca2, .slice qa3 na3 ca3] 28 (0, 0)), (b, .cells #[.slice qa0 na0 ca0, .slice qa1 na1 ca1] 25 (0, 0))]) (fun b_7 l_10 => [mkV l_7]) () (trivial) (fun w hh => hh) (RdReach l_8.1 l_8.2 l_1.1 l_1.2 t67 qa0 na0 ca0 t18b) (fun s_1 l_9 w h35 hh => ⟨hh.cell 0 rfl rfl, hh.cell 1 rfl rfl, hh.cell 6 rfl rfl, hh.cell 6 rfl rfl, hh.get 7 rfl⟩) (fun b_7 l_10 w h35 hh => ⟨hh.cell 0 rfl rfl, hh.cell 1 rfl rfl, hh.cell 6 rfl rfl, hh.cell 6 rfl rfl, hh.get 7 rfl⟩) (it_reach _ _ _ l_8.1 l_8.2 l_1.1 l_1.2 t67 qa0 na0 ca0 s0.strips t18b hna0 h33) rfl Tryz.call112 rfl (e1 := fun x => (13, .int .i64 x) :: (68, .int .i64 x) :: [(2, ptr b 0), (3, ptr b_1 0), (4, ptr b_2 0), (5, ptr b_3 0), (6, ptr l_1.1 0), (9, ptr b_4 0), (10, .int .i64 s.sum10), (11, ptr b_5 0), (12, ptr b_6 0), (58, .slice qa3 na3 ca3), (59, .int .i64 (m1.tenants.length : Int)), (60, .int .i64 s.t60), (67, .func (.func 112) #[] #[ptr l_8.1 0, ptr l_8.2 0])]) (fun x lr H X hX => ?_) (fun x s_1 r_1 l_9 lr w1 h35 hm h36 => ?_) (fun s_1 l_9 D h37 h35 => ?_) (fun b_7 l_10 D h37 h35 => ?_)
         ·refine jh ?_
          refine jk rfl rfl (jp ?_)
          exact hX
         ·unfold QG at hm
          refine jn (jj ?_)
          refine jX none (.hoist 0 (.free 1 (.hoist 2 (.free 3 (.free 4 (.hoist 5 (.free 6 (.free 7 (.hoist 8 (.hoist 9 (.free 10 (.free 11 (.one 12 (.free 13 .done)))))))))))))) _ rfl (by decide +kernel) (fun w k hh => hh.draw k) (fun w hh => hh) ?_
          refine qY 2 Tryz.isAgg3 rfl rfl rfl rfl rfl (k5 0 Tryz.runUnderlying28 Tryz.sizeOf26 rfl rfl rfl rfl (qY 10 Tryz.isAgg26 rfl rfl rfl rfl rfl (ku rfl rfl rfl ?_)))
          obtain ⟨t73, h38, hm⟩ := bindO hm
          refine ji rfl rfl rfl rfl (fun w _ => ki h38 (Tryz.runUnderlying26 w) (Tryz.sizeOf3 w) rfl rfl hna2 hqa2) (jD rfl rfl rfl rfl (fun w hh => kl RI 0 h38 (Tryz.isAgg3 w) rfl (hh.seg 2 rfl) rfl (Nat.add_zero _).symm) ?_)
          obtain ⟨t75, h39, hm⟩ := bindO hm
          refine ji rfl rfl rfl rfl (fun _ _ => KV h39 rfl rfl) (k5 0 Tryz.runUnderlying115 Tryz.sizeOf113 rfl rfl rfl rfl (qY 4 Tryz.isAgg113 rfl rfl rfl rfl rfl (qY 3 Tryz.isAgg3 rfl rfl rfl rfl rfl (ku rfl rfl rfl (ji rfl rfl rfl rfl (fun _ _ => jz (vs := [(0, _), (1, _)]) (cells := [_, _]) rfl rfl) (jE rfl ?_))))))
          obtain ⟨t81, h40, hm⟩ := bindO hm
          refine jd [] [] rfl rfl rfl rfl rfl rfl rfl Tryz.call120 (fun w hh => JZ (⟨s.t60, x⟩ : Pair) s0.strips s0.carried l_6 l_1.1 qa0 na0 ca0 qa1 na1 ca1 (.map (some l_1.2)) w (HV.callee (S0 := []) (vs0 := []) hh (roC (bsep (hh.bseg 5 rfl)) (roC (bsep (hh.bseg 6 rfl)) (roR hh 0 rfl (roR hh 1 rfl roN))))) hna0 hqa0 hla0 hna1 hqa1 hla1 h40) (fun l_11 h41 => ?_)
          refine jr (fun w hh => hh) (ji rfl rfl rfl rfl (fun _ _ => Qy rfl rfl) (jM (ja ?_)))
          refine js rfl (fun h42 => ?_) (fun h42 => ?_)
          ·replace hm := ifD h42 hm
           refine jq (kY (cs' := #[_]) (S' := [_, _, _, _, _, _, _, _, _, _, _, _]) 9 (fun w => Tryz.sizeOf3 w) rfl rfl rfl rfl rfl rfl rfl (kY (cs' := #[_]) (S' := [_, _, _, _, _, _, _, _, _, _, _, _]) 8 (fun w => Tryz.sizeOf41 w) rfl rfl rfl rfl rfl rfl rfl (jp (jw (jx ?_)))))
           obtain rfl := sj hm
           exact ja7 8 () rfl (trivial) (hsE [0, 1, 2, 3, 4, 5, 6, 7, 8, 9, 10, 11] [0] 4 rfl rfl rfl rfl)
          ·replace hm := ifE h42 hm
           refine ju (jt ?_)
           obtain rfl := sj hm
           exact ja0 () () rfl (trivial) (hsE [0, 1, 2, 3, 4, 5, 6, 7, 8, 9, 10, 11] [0] 4 rfl rfl rfl rfl)
         ·subst h37
          replace hm := ocL hm
          refine Y4 0 rfl rfl (jt (ja ?_))
          refine jX none (.free 0 (.hoist 1 (.free 2 (.hoist 3 (.hoist 4 (.free 5 (.hoist 6 (.one 7 (.free 8 (.free 9 .done)))))))))) _ rfl (by decide +kernel) (fun w k hh => hh.draw k) (fun w hh => hh) ?_
          refine ku rfl rfl rfl (qY 2 Tryz.isAgg3 rfl rfl rfl rfl rfl (k5 1 Tryz.runUnderlying25 Tryz.sizeOf23 rfl rfl rfl rfl (qY 11 Tryz.isAgg23 rfl rfl rfl rfl rfl (qY 3 Tryz.isAgg3 rfl rfl rfl rfl rfl ?_))))
          obtain ⟨t88, h43, hm⟩ := bindO hm
          refine ji rfl rfl rfl rfl (fun w _ => ki h43 (Tryz.runUnderlying23 w) (Tryz.sizeOf32 w) rfl rfl hna1 hqa1) ?_
          refine jD rfl rfl rfl rfl (fun w hh => kt RSp 0 [.int .i64 t88.lo, .int .i64 t88.hi] h43 (Tryz.isAgg32 w) (Tryz.sizeOf32 w) rfl (hh.seg 1 rfl) rfl (Nat.add_zero _).symm) ?_
          refine jE rfl ?_
          obtain ⟨t90, h44, hm⟩ := bindO hm
          refine jd [] [] rfl rfl rfl rfl rfl rfl rfl Tryz.call65 (fun w hh => YQ t63 t88 w (HV.callee (S0 := []) (vs0 := []) hh roN)  h44) (fun l_12 h45 => ?_)
          refine jr (fun w hh => hh) ?_
          obtain ⟨t91, h46, hm⟩ := bindO hm
          refine ji rfl rfl rfl rfl (fun _ _ => KV h46 rfl rfl) (ji rfl rfl rfl rfl (fun _ _ => jH rfl) (jM (jt (ja (jh ?_)))))
          obtain ⟨t92, h47, hm⟩ := bindO hm
          refine qs h47 rfl rfl rfl (je rfl rfl (jv ?_))
          obtain rfl := sj hm
          refine ja ?_
          exact QK _ (D :: l_7) rfl rfl (trivial) (sE rfl) (hsE [4, 5, 6, 7, 8, 9, 10, 11] [0] 0 rfl rfl rfl rfl)
         ·subst h37
          replace hm := ocR hm
          refine Y4 0 rfl rfl (jx (jf (jx (jf (jf (jx ?_))))))
          obtain rfl := sj hm
          have hbo := h26 _ rfl
          subst hbo
          refine jf ?_
          replace hm := ocR h25
          refine jf ?_
          obtain rfl := sj hm
          refine Qj rfl rfl rfl (fun w hh => (.cell rfl (loadVar_one (Tryz.isAgg3 _) (hh.cell 9 rfl rfl)) (.cell rfl (loadVar_one (Tryz.isAgg41 _) (hh.cell 8 rfl rfl)) .nil))) (fun w hh => ⟨(), rfl, trivial, hh.se [] [] 4 rfl rfl rfl rfl⟩)
        ·replace hm := ifE h27 hm
         refine jS (jl (jl (jG ?_)))
         obtain rfl := sj hm
         have hbo := h26 _ rfl
         subst hbo
         exact Qb (s.sum10, l_7) rfl (rfl) (sE rfl) (fun w hh => hh)
       ·rintro ⟨j_1, l_13⟩ hj
        have h48 := hj
        subst h48
        replace hm := ocL h25
        refine ja (jj (jq (jP 0 Tryz.runUnderlying28 rfl Tryz.sizeOf26 rfl rfl (jY 6 Tryz.isAgg26 rfl rfl rfl rfl (jc rfl rfl rfl (fun w _ => jI hna2 (Tryz.runUnderlying26 w) rfl) (je rfl rfl (jp ?_)))))))
        obtain ⟨o_4, h49, h50⟩ := bindO hm
        refine YN (ι := Unit) (fun l_14 => mks l_13) (fun l_14 => True) (fun l_14 => [(4, ptr b_2 0), (5, ptr b_3 0), (10, .int .i64 o_4)]) (fun l_14 => [(b_4, .cells #[.func (.func 120) #[] #[ptr l_6 0]] 115 (0, 0)), (l_6, .cells #[.func (.func 83) #[ptr l_1.1 0] #[]] 135 (0, 0)), (l_1.1, .cells #[.slice qa0 na0 ca0, .slice qa1 na1 ca1, .map (some l_1.2)] 144 (0, 0)), (l_1.2, gobj (kR RPr) kB t18b), (b_3, .cells #[.int .i64 0] 41 (0, 0)), (b_2, .cells #[.int .i64 0] 3 (0, 0)), (b_1, .cells #[.slice qa2 na2 ca2, .slice qa3 na3 ca3] 28 (0, 0)), (b, .cells #[.slice qa0 na0 ca0, .slice qa1 na1 ca1] 25 (0, 0))]) (fun l_14 => [mkV l_13]) ?_ ?_
        ·replace hm := h49
         refine jn ?_
         refine Yd (ι := Unit) hm (fun s_2 l_15 => mks l_13) (fun s_2 l_15 => True) (fun s_2 l_15 => [(2, ptr b 0), (4, ptr b_2 0), (5, ptr b_3 0), (10, .int .i64 s_2.sum10), (94, .slice qa2 na2 ca2), (95, .int .i64 (m1.strips.length : Int)), (96, .int .i64 s_2.t96)]) (fun s_2 l_15 => [(b_4, .cells #[.func (.func 120) #[] #[ptr l_6 0]] 115 (0, 0)), (l_6, .cells #[.func (.func 83) #[ptr l_1.1 0] #[]] 135 (0, 0)), (l_1.1, .cells #[.slice qa0 na0 ca0, .slice qa1 na1 ca1, .map (some l_1.2)] 144 (0, 0)), (l_1.2, gobj (kR RPr) kB t18b), (b_3, .cells #[.int .i64 0] 41 (0, 0)), (b_2, .cells #[.int .i64 0] 3 (0, 0)), (b_1, .cells #[.slice qa2 na2 ca2, .slice qa3 na3 ca3] 28 (0, 0)), (b, .cells #[.slice qa0 na0 ca0, .slice qa1 na1 ca1] 25 (0, 0))]) (fun s_2 l_15 => [mkV l_13]) () rfl (trivial) (sE rfl) (fun w hh => hh) (fun s_2 l_15 r_2 hpl hm h51 => ?_)
         unfold QH at hm
         refine jq (yY rfl rfl rfl (jp (jj ?_)))
         refine js rfl (fun h52 => ?_) (fun h52 => ?_)
         ·replace hm := ifD h52 hm
          refine ju (ja (jj (jn (jq (je rfl rfl ?_)))))
          obtain ⟨t99, h53, hm⟩ := bindO hm
          refine jc rfl rfl rfl (fun w _ => ki h53 (Tryz.runUnderlying26 w) (Tryz.sizeOf3 w) rfl rfl hna2 hqa2) (jc rfl rfl rfl (fun w hh => kl RI 0 h53 (Tryz.isAgg3 w) rfl (hh.seg 2 rfl) rfl (Nat.add_zero _).symm) (jk rfl rfl (jk rfl rfl (jp (jh (je rfl rfl (je rfl rfl ?_)))))))
          refine jP 0 Tryz.runUnderlying25 rfl Tryz.sizeOf22 rfl rfl (jY 7 Tryz.isAgg22 rfl rfl rfl rfl (je rfl rfl ?_))
          obtain ⟨t106, h54, hm⟩ := bindO hm
          refine jc rfl rfl rfl (fun w _ => ki h54 (Tryz.runUnderlying22 w) (Tryz.sizeOf85 w) rfl rfl hna0 hqa0) ?_
          refine jc rfl rfl rfl (fun w hh => kt RSt 0 [.int .i64 t106.tenant, .int .i64 t106.lay.lo, .int .i64 t106.lay.hi, .int .i64 t106.seeded.lo, .int .i64 t106.seeded.hi, .int .i64 t106.left.lo, .int .i64 t106.left.hi] h54 (Tryz.isAgg85 w) (Tryz.sizeOf85 w) rfl (hh.seg 0 rfl) rfl (Nat.add_zero _).symm) ?_
          obtain ⟨t108, h55, hm⟩ := bindO hm
          refine jd [] [] rfl rfl rfl rfl rfl rfl rfl Tryz.call66 (fun w hh => qM (⟨t106.tenant, (⟨t106.lay.lo, t106.lay.hi⟩ : Span), (⟨t106.seeded.lo, t106.seeded.hi⟩ : Span), (⟨t106.left.lo, t106.left.hi⟩ : Span)⟩ : Strip) w (HV.callee (S0 := []) (vs0 := []) hh roN)  h55) (fun l_16 h56 => ?_)
          obtain ⟨t109, h57, hm⟩ := bindO hm
          refine jd [] [] rfl rfl rfl rfl rfl rfl rfl Tryz.call65 (fun w hh => YQ t99 t108 w (HV.callee (S0 := []) (vs0 := []) hh roN)  h57) (fun l_17 h58 => ?_)
          obtain ⟨t110, h59, hm⟩ := bindO hm
          refine qs h59 rfl rfl rfl (jk rfl rfl (jv (jt (ja (jh ?_)))))
          obtain ⟨t111, h60, hm⟩ := bindO hm
          refine qs h60 rfl rfl rfl (je rfl rfl (jv ?_))
          obtain rfl := sj hm
          refine ja ?_
          exact QK _ () rfl rfl (trivial) (sE rfl) (fun w hh => hh)
         ·replace hm := ifE h52 hm
          refine jS (jl (jl (jG ?_)))
          obtain rfl := sj hm
          have hbo := h51 _ rfl
          subst hbo
          exact Qb () rfl (trivial) (sE rfl) (fun w hh => hh)
        ·intro l_14 hj
         replace hm := h50
         refine ja (jq (je rfl rfl (kY (cs' := #[_]) (S' := [_, _, _, _, _, _, _, _]) 5 (fun w => Tryz.sizeOf3 w) rfl rfl rfl rfl rfl rfl rfl (kY (cs' := #[_]) (S' := [_, _, _, _, _, _, _, _]) 4 (fun w => Tryz.sizeOf41 w) rfl rfl rfl rfl rfl rfl rfl (jp (jw ?_))))))
         obtain rfl := sj hm
         refine Qj rfl rfl rfl (fun w hh => (.cell rfl (loadVar_one (Tryz.isAgg3 _) (hh.cell 5 rfl rfl)) (.cell rfl (loadVar_one (Tryz.isAgg41 _) (hh.cell 4 rfl rfl)) .nil))) (fun w hh => ⟨(), rfl, trivial, hh.se [] [] 4 rfl rfl rfl rfl⟩)
def jO (s10 : (List Int)) (s21 : (List Int)) (s : Int) : Option (Int ⊕ (Unit ⊕ Bool)) :=
 if s < (s10.length : Int) then
 ((ix s10 s).bind fun t18 =>
 (ix s21 s).bind fun t22 =>
 if t18 = t22 then
 ((addc s 1).bind fun t25 =>
 some (.inl t25)) else
 (some (.inr (.inr false)))) else
 (some (.inr (.inl ())))
def jW (s10 : (List Int)) (s21 : (List Int)) : Option Bool :=
 if (s10.length : Int) = (s21.length : Int) then
 ((iterM FU (jO s10 s21) 0).bind fun o =>
 oc o (fun j => some true) (fun r_1 => some r_1)) else
 (some false)
theorem yP (s10 : (List Int)) (s21 : (List Int)) (qa0 : Option Addr) (na0 ca0 : Nat) (qa1 : Option Addr) (na1 ca1 : Nat) (w : World) (hw : HV w (keys [] []) [] [] [(aB qa0, aO qa0, RI.enc s10), (aB qa1, aO qa1, RI.enc s21)] w) (hna0 : s10.length = na0) (hqa0 : AOK na0 qa0) (hla0 : na0 ≤ ca0) (hna1 : s21.length = na1) (hqa1 : AOK na1 qa1) (hla1 : na1 ≤ ca1) {res : Bool} (hm : jW s10 s21 = some res) :
    Calls Tryz.prog 86 #[.slice qa0 na0 ca0, .slice qa1 na1 ca1] w (fun en w' => ∃ l : Unit, en = .returned (.bool res) ∧ (True) ∧ HV w (keys [] []) [] [] [] w') := by
  unfold jW at hm
  refine j5 Tryz.func86 rfl Tryz.ntmps86 rfl (e := [(0, _), (1, _)]) rfl hw (jq (jk rfl rfl (jp (jj (jq (je rfl rfl (jc rfl rfl rfl (fun w _ => jI hna0 (Tryz.runUnderlying60 w) rfl) ?_)))))))
  refine je rfl rfl (jc rfl rfl rfl (fun w _ => jI hna1 (Tryz.runUnderlying60 w) rfl) (jc rfl rfl rfl (fun _ _ => q8 rfl rfl) (jp ?_)))
  refine js rfl (fun h1 => ?_) (fun h1 => ?_)
  ·replace hm := ifF (of_ndec_true h1) hm
   refine jq (jk rfl rfl (jp (jw (jf ?_))))
   obtain rfl := sj hm
   refine jm rfl (fun w hh => (.tmp rfl .nil)) (fun w hh => ⟨(), rfl, trivial, hh.se [] [] 2 rfl rfl rfl rfl⟩)
  ·replace hm := ifT (of_ndec_false h1) hm
   refine ju (ja (jj (jq (je rfl rfl (jc rfl rfl rfl (fun w _ => jI hna0 (Tryz.runUnderlying60 w) rfl) (je rfl rfl (jp ?_)))))))
   obtain ⟨o, h2, h3⟩ := bindO hm
   refine jF (ι := Unit) (fun j => o = .inl j) (fun j => []) (fun j => []) (fun j => []) ?_ ?_
   ·replace hm := h2
    refine jn ?_
    refine jL (ι := Unit) hm (fun s l => True) (fun s l => [(0, .slice qa0 na0 ca0), (1, .slice qa1 na1 ca1), (12, .int .i64 (s10.length : Int)), (13, .int .i64 s)]) (fun s l => []) (fun s l => []) () (trivial) (sE rfl) (fun w hh => hh) (fun s l r hpl hm h4 => ?_)
    unfold jO at hm
    refine jq (yY rfl rfl rfl (jp (jj ?_)))
    refine js rfl (fun h5 => ?_) (fun h5 => ?_)
    ·replace hm := ifD h5 hm
     refine ju (ja (jj (jn (jq (je rfl rfl (jk rfl rfl (jp ?_)))))))
     refine jj ?_
     refine jX none (.free 0 (.free 1 (.free 2 (.hoist 3 (.free 4 (.free 5 (.free 6 (.hoist 7 (.free 8 .done))))))))) _ rfl (by decide +kernel) (fun w k hh => hh.draw k) (fun w hh => hh) ?_
     refine ku rfl rfl rfl (ku rfl rfl rfl ?_)
     obtain ⟨t18, h6, hm⟩ := bindO hm
     refine ji rfl rfl rfl rfl (fun w _ => ki h6 (Tryz.runUnderlying60 w) (Tryz.sizeOf62 w) rfl rfl hna0 hqa0) (jD rfl rfl rfl rfl (fun w hh => kl RI 0 h6 (Tryz.isAgg62 w) rfl (hh.seg 0 rfl) rfl (Nat.add_zero _).symm) (ku rfl rfl rfl (ku rfl rfl rfl ?_)))
     obtain ⟨t22, h7, hm⟩ := bindO hm
     refine ji rfl rfl rfl rfl (fun w _ => ki h7 (Tryz.runUnderlying60 w) (Tryz.sizeOf62 w) rfl rfl hna1 hqa1) (jD rfl rfl rfl rfl (fun w hh => kl RI 0 h7 (Tryz.isAgg62 w) rfl (hh.seg 1 rfl) rfl (Nat.add_zero _).symm) (ji rfl rfl rfl rfl (fun _ _ => q8 rfl rfl) (jM (ja ?_))))
     refine js rfl (fun h8 => ?_) (fun h8 => ?_)
     ·replace hm := ifF (of_ndec_true h8) hm
      refine jq (jk rfl rfl (jp (jw (jx (jf (jf (jx ?_)))))))
      obtain rfl := sj hm
      have hbo := h4 _ rfl
      subst hbo
      refine jf ?_
      replace hm := ocR h3
      refine jf ?_
      obtain rfl := sj hm
      refine jm rfl (fun w hh => (.tmp rfl .nil)) (fun w hh => ⟨(), rfl, trivial, hh.se [] [] 2 rfl rfl rfl rfl⟩)
     ·replace hm := ifT (of_ndec_false h8) hm
      refine ju (jt (ja (jh ?_)))
      obtain ⟨t25, h9, hm⟩ := bindO hm
      refine qs h9 rfl rfl rfl (je rfl rfl (jv ?_))
      obtain rfl := sj hm
      refine ja ?_
      exact jA _ () rfl (trivial) (sE rfl) (fun w hh => hh)
    ·replace hm := ifE h5 hm
     refine jS (jl (jl (jG ?_)))
     obtain rfl := sj hm
     have hbo := h4 _ rfl
     subst hbo
     exact jg () (rfl) (.nil) (fun w hh => hh)
   ·intro j hj
    have h10 := hj
    subst h10
    replace hm := ocL h3
    refine ja (jq (jk rfl rfl (jp (jw ?_))))
    obtain rfl := sj hm
    refine jm rfl (fun w hh => (.tmp rfl .nil)) (fun w hh => ⟨(), rfl, trivial, hh.se [] [] 2 rfl rfl rfl rfl⟩)
def ko (a0 : (List Int)) (b1 : (List Int)) : Option Bool :=
 (jW a0 b1).bind fun t7 =>
 some t7
theorem JE (a0 : (List Int)) (b1 : (List Int)) (qa0 : Option Addr) (na0 ca0 : Nat) (qa1 : Option Addr) (na1 ca1 : Nat) (w : World) (hw : HV w (keys [] []) [] [] [(aB qa0, aO qa0, RI.enc a0), (aB qa1, aO qa1, RI.enc b1)] w) (hna0 : a0.length = na0) (hqa0 : AOK na0 qa0) (hla0 : na0 ≤ ca0) (hna1 : b1.length = na1) (hqa1 : AOK na1 qa1) (hla1 : na1 ≤ ca1) {res : Bool} (hm : ko a0 b1 = some res) :
    Calls Tryz.prog 29 #[.slice qa0 na0 ca0, .slice qa1 na1 ca1] w (fun en w' => ∃ l : Unit, en = .returned (.bool res) ∧ (True) ∧ HV w (keys [] []) [] [] [] w') := by
  unfold ko at hm
  refine j5 Tryz.func29 rfl Tryz.ntmps29 rfl (e := [(0, _), (1, _)]) rfl hw (jq (jk rfl rfl (j0 (je rfl rfl (je rfl rfl ?_)))))
  obtain ⟨t7, h1, hm⟩ := bindO hm
  refine jd [] [] rfl rfl rfl rfl rfl rfl rfl Tryz.call86 (fun w hh => yP a0 b1 qa0 na0 ca0 qa1 na1 ca1 w (HV.callee (S0 := []) (vs0 := []) hh (roR hh 0 rfl (roR hh 1 rfl roN))) hna0 hqa0 hla0 hna1 hqa1 hla1 h1) (fun l h2 => ?_)
  refine jk rfl rfl (jp (jw ?_))
  obtain rfl := sj hm
  refine jm rfl (fun w hh => (.tmp rfl .nil)) (fun w hh => ⟨(), rfl, trivial, hh.se [] [] 2 rfl rfl rfl rfl⟩)
def zt (x0 : Int) (a11_f0 : Scalps) : Option Bool :=
 (jZ a11_f0 x0).bind fun t6 =>
 some (!t6)
theorem QO (x0 : Int) (a11_f0 : Scalps) (rb : Nat) (qa1 : Option Addr) (na1 ca1 : Nat) (qa2 : Option Addr) (na2 ca2 : Nat) (w : World) (hw : HV w (keys [] []) [] [] [(rb, 0, [.func (.func 68) #[.agg #[.slice qa1 na1 ca1, .slice qa2 na2 ca2]] #[]]), (aB qa1, aO qa1, RSt.enc a11_f0.strips), (aB qa2, aO qa2, RSp.enc a11_f0.carried)] w)  (hna1 : a11_f0.strips.length = na1) (hqa1 : AOK na1 qa1) (hla1 : na1 ≤ ca1) (hna2 : a11_f0.carried.length = na2) (hqa2 : AOK na2 qa2) (hla2 : na2 ≤ ca2) {res : Bool} (hm : zt x0 a11_f0 = some res) :
    Calls Tryz.prog 111 #[.int .i64 x0, ptr rb 0] w (fun en w' => ∃ l : Unit, en = .returned (.bool res) ∧ (True) ∧ HV w (keys [] []) [] [] [] w') := by
  unfold zt at hm
  refine j5 Tryz.func111 rfl Tryz.ntmps111 rfl (e := [(0, _), (1, _)]) rfl hw (jq (jk rfl rfl (j0 (jc rfl rfl rfl (fun w hh => jR (Tryz.isAgg120 w) rfl (segCell (hh.seg 0 rfl) 0 rfl)) (je rfl rfl ?_)))))
  obtain ⟨t6, h1, hm⟩ := bindO hm
  refine jd [] [] rfl rfl rfl rfl rfl rfl rfl Tryz.call68 (fun w hh => qq a11_f0 x0 qa1 na1 ca1 qa2 na2 ca2 w (HV.callee (S0 := []) (vs0 := []) hh (roR hh 1 rfl (roR hh 2 rfl roN))) hna1 hqa1 hla1 hna2 hqa2 hla2 h1) (fun l h2 => ?_)
  refine jc rfl rfl rfl (fun _ _ => kE rfl) (jk rfl rfl (jp (jw ?_)))
  obtain rfl := sj hm
  refine jm rfl (fun w hh => (.tmp rfl .nil)) (fun w hh => ⟨(), rfl, trivial, hh.se [] [] 3 rfl rfl rfl rfl⟩)
def yx (s0 : (List Int)) (f1_c0_f0 : Scalps) (s : Int) : Option (Int ⊕ (Unit ⊕ Int)) :=
 if s < (s0.length : Int) then
 ((ix s0 s).bind fun t14 =>
 (zt t14 f1_c0_f0).bind fun t16 =>
 if t16 = true then
 (some (.inr (.inr s))) else
 ((addc s 1).bind fun t18 =>
 some (.inl t18))) else
 (some (.inr (.inl ())))
def qw (s0 : (List Int)) (f1_c0_f0 : Scalps) : Option Int :=
 (iterM FU (yx s0 f1_c0_f0) 0).bind fun o =>
 oc o (fun j => some (-1)) (fun r_1 => some r_1)
theorem Kq (s0 : (List Int)) (f1_c0_f0 : Scalps) (qa0 : Option Addr) (na0 ca0 : Nat) (rb : Nat) (qa2 : Option Addr) (na2 ca2 : Nat) (qa3 : Option Addr) (na3 ca3 : Nat) (w : World) (hw : HV w (keys [] []) [] [] [(aB qa0, aO qa0, RI.enc s0), (rb, 0, [.func (.func 68) #[.agg #[.slice qa2 na2 ca2, .slice qa3 na3 ca3]] #[]]), (aB qa2, aO qa2, RSt.enc f1_c0_f0.strips), (aB qa3, aO qa3, RSp.enc f1_c0_f0.carried)] w) (hna0 : s0.length = na0) (hqa0 : AOK na0 qa0) (hla0 : na0 ≤ ca0)  (hna2 : f1_c0_f0.strips.length = na2) (hqa2 : AOK na2 qa2) (hla2 : na2 ≤ ca2) (hna3 : f1_c0_f0.carried.length = na3) (hqa3 : AOK na3 qa3) (hla3 : na3 ≤ ca3) {res : Int} (hm : qw s0 f1_c0_f0 = some res) :
    Calls Tryz.prog 132 #[.slice qa0 na0 ca0, .func (.func 111) #[] #[ptr rb 0]] w (fun en w' => ∃ l : Unit, en = .returned (.int .i64 res) ∧ (True) ∧ HV w (keys [] []) [] [] [] w') := by
  unfold qw at hm
  refine j5 Tryz.func132 rfl Tryz.ntmps132 rfl (e := [(0, _), (1, _)]) rfl hw (jq (jk rfl rfl (jp (jj (jq (je rfl rfl (jc rfl rfl rfl (fun w _ => jI hna0 (Tryz.runUnderlying26 w) rfl) ?_)))))))
  refine je rfl rfl (jp ?_)
  obtain ⟨o, h1, h2⟩ := bindO hm
  refine jF (ι := Unit) (fun j => o = .inl j) (fun j => []) (fun j => []) (fun j => []) ?_ ?_
  ·replace hm := h1
   refine jn ?_
   refine jL (ι := Unit) hm (fun s l => True) (fun s l => [(0, .slice qa0 na0 ca0), (1, .func (.func 111) #[] #[ptr rb 0]), (7, .int .i64 (s0.length : Int)), (8, .int .i64 s)]) (fun s l => []) (fun s l => []) () (trivial) (sE rfl) (fun w hh => hh) (fun s l r hpl hm h3 => ?_)
   unfold yx at hm
   refine jq (yY rfl rfl rfl (jp (jj ?_)))
   refine js rfl (fun h4 => ?_) (fun h4 => ?_)
   ·replace hm := ifD h4 hm
    refine ju (ja (jj (jn (jq (je rfl rfl (jk rfl rfl (j0 ?_)))))))
    refine je rfl rfl (je rfl rfl (je rfl rfl ?_))
    obtain ⟨t14, h5, hm⟩ := bindO hm
    refine jc rfl rfl rfl (fun w _ => ki h5 (Tryz.runUnderlying26 w) (Tryz.sizeOf3 w) rfl rfl hna0 hqa0) (jc rfl rfl rfl (fun w hh => kl RI 0 h5 (Tryz.isAgg3 w) rfl (hh.seg 0 rfl) rfl (Nat.add_zero _).symm) ?_)
    obtain ⟨t16, h6, hm⟩ := bindO hm
    refine jd [] [] rfl rfl rfl rfl rfl rfl rfl Tryz.call111 (fun w hh => QO t14 f1_c0_f0 rb qa2 na2 ca2 qa3 na3 ca3 w (HV.callee (S0 := []) (vs0 := []) hh (roR hh 1 rfl (roR hh 2 rfl (roR hh 3 rfl roN)))) hna2 hqa2 hla2 hna3 hqa3 hla3 h6) (fun l_1 h7 => ?_)
    refine jp ?_
    refine js rfl (fun h8 => ?_) (fun h8 => ?_)
    ·replace hm := ifT (h8) hm
     refine jq (je rfl rfl (jk rfl rfl (jp (jw (jx (jf (jf ?_)))))))
     refine jx ?_
     obtain rfl := sj hm
     have hbo := h3 _ rfl
     subst hbo
     refine jf ?_
     replace hm := ocR h2
     refine jf ?_
     obtain rfl := sj hm
     refine jm rfl (fun w hh => (.tmp rfl .nil)) (fun w hh => ⟨(), rfl, trivial, hh.se [] [] 4 rfl rfl rfl rfl⟩)
    ·replace hm := ifN h8 hm
     refine ju (jt (ja (jh ?_)))
     obtain ⟨t18, h9, hm⟩ := bindO hm
     refine qs h9 rfl rfl rfl (je rfl rfl (jv ?_))
     obtain rfl := sj hm
     refine ja ?_
     exact jA _ () rfl (trivial) (sE rfl) (fun w hh => hh)
   ·replace hm := ifE h4 hm
    refine jS (jl (jl (jG ?_)))
    obtain rfl := sj hm
    have hbo := h3 _ rfl
    subst hbo
    exact jg () (rfl) (.nil) (fun w hh => hh)
  ·intro j hj
   have h10 := hj
   subst h10
   replace hm := ocL h2
   refine ja (jq (jk rfl rfl (jp (jw ?_))))
   obtain rfl := sj hm
   refine jm rfl (fun w hh => (.tmp rfl .nil)) (fun w hh => ⟨(), rfl, trivial, hh.se [] [] 4 rfl rfl rfl rfl⟩)
end Go.Proofs.Ws

