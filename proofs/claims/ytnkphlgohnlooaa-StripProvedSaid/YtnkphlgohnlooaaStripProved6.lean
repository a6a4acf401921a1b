/- What the functions that the law StripProved reaches come to, and why it holds: part 6. -/
import Derived.Test.YtnkphlgohnlooaaStripProved5
namespace Go.Proofs.Ws
set_option maxHeartbeats 4000000
set_option maxRecDepth 100000
open Go Go.Fw Go.Gx Go.Sp
set_option linter.unusedVariables false

structure m_laurelkit_Pile_R where
  t5_1 : Int
  t5_2 : Int
def m_laurelkit_Pile (shells0 : (List Int)) : Option m_laurelkit_Pile_R :=
 some (⟨0, 0⟩ : m_laurelkit_Pile_R)
theorem c_laurelkit_Pile (shells0 : (List Int)) (qa0 : Option Addr) (na0 ca0 : Nat) (w : World) (hw : HV w (keys [] []) [] [] [(aB qa0, aO qa0, RU8.enc shells0)] w) (hna0 : shells0.length = na0) (hqa0 : AOK na0 qa0) (hla0 : na0 ≤ ca0) {res : m_laurelkit_Pile_R} (hm : m_laurelkit_Pile shells0 = some res) :
    Calls Try.prog 12 #[.slice qa0 na0 ca0] w (fun en w' => ∃ l : Nat, en = .returned (ptr l 0) ∧ (True) ∧ HV w (keys [] []) [(l, .cells #[.slice qa0 na0 ca0, .int .i64 res.t5_1, .int .u32 res.t5_2] 105 (0, 0))] [] [] w') := by
  unfold m_laurelkit_Pile at hm
  refine g_en Try.func12 rfl Try.ntmps12 rfl (e := [(0, _)]) rfl hw (g_sr (g_as rfl rfl (g_nx (g_mv rfl rfl (g_val rfl rfl rfl (fun _ _ => v_build (vs := [(0, _)]) (cells := [_, _, _]) rfl rfl) ?_)))))
  refine g_boxV rfl rfl (fun b h1 => ?_)
  refine g_as rfl rfl (g_nt (g_ret ?_))
  obtain rfl := sj hm
  refine g_done rfl (fun w hh => (.tmp rfl .nil)) (fun w hh => ⟨b, rfl, trivial, hh.se [0] [] 1 rfl rfl rfl rfl⟩)
structure m_laurelkit_Heap_pick_1_R where
  r0 : Int
  h0_1 : Int
  h0_2 : Int
structure m_laurelkit_Heap_pick_1_C1 where
  h0_1 : Int
  h0_2 : Int
def m_laurelkit_Heap_pick_1 (h00 : (List Int)) (h01 : Int) (h02 : Int) : Option m_laurelkit_Heap_pick_1_R :=
 (if h01 < (h00.length : Int) then
 ((ix h00 h01).bind fun t29 =>
 some (IntKind.u32.wrap ((IntKind.u32.wrap (40503 * (IntKind.u32.wrap (h02 + 1)))) + (IntKind.u32.wrap (331 * (IntKind.u32.wrap t29)))))) else
 (some (IntKind.u32.wrap (40503 * (IntKind.u32.wrap (h02 + 1)))))).bind fun o =>
 ((addc h01 1).bind fun t38 =>
 if (h00.length : Int) ≤ t38 then
 (some (⟨0, (IntKind.u32.wrap (h02 + 1))⟩ : m_laurelkit_Heap_pick_1_C1)) else
 (some (⟨t38, h02⟩ : m_laurelkit_Heap_pick_1_C1))).bind fun o_1 =>
 some (⟨(IntKind.i64.wrap (IntKind.u32.wrap (BitVec.ofInt IntKind.u32.bits (IntKind.u32.wrap (BitVec.ofInt IntKind.u32.bits o ^^^ BitVec.ofInt IntKind.u32.bits (Int.fdiv o (2 ^ min (Int.toNat 9) IntKind.u32.bits))).toNat) &&& BitVec.ofInt IntKind.u32.bits 32767).toNat)), o_1.h0_1, o_1.h0_2⟩ : m_laurelkit_Heap_pick_1_R)
theorem c_laurelkit_Heap_pick_1 (h00 : (List Int)) (h01 : Int) (h02 : Int) (pb : Nat) (qa0 : Option Addr) (na0 ca0 : Nat) (w : World) (hw : HV w (keys [(pb, .cells #[.slice qa0 na0 ca0, .int .i64 h01, .int .u32 h02] 105 (0, 0))] []) [(pb, .cells #[.slice qa0 na0 ca0, .int .i64 h01, .int .u32 h02] 105 (0, 0))] [] [(aB qa0, aO qa0, RU8.enc h00)] w) (hna0 : h00.length = na0) (hqa0 : AOK na0 qa0) (hla0 : na0 ≤ ca0) {res : m_laurelkit_Heap_pick_1_R} (hm : m_laurelkit_Heap_pick_1 h00 h01 h02 = some res) :
    Calls Try.prog 90 #[ptr pb 0] w (fun en w' => ∃ l : Unit, en = .returned (.int .i64 res.r0) ∧ (True) ∧ HV w (keys [(pb, .cells #[.slice qa0 na0 ca0, .int .i64 h01, .int .u32 h02] 105 (0, 0))] []) [(pb, .cells #[.slice qa0 na0 ca0, .int .i64 res.h0_1, .int .u32 res.h0_2] 105 (0, 0))] [] [] w') := by
  unfold m_laurelkit_Heap_pick_1 at hm
  refine g_en Try.func90 rfl Try.ntmps90 rfl (e := [(0, _)]) rfl hw (g_sr (g_as rfl rfl (g_nx (g_mv rfl rfl (g_val rfl rfl rfl (fun _ _ => v_nilCheck rfl) (g_fa 2 Try.runUnderlying105 rfl Try.sizeOf103 rfl rfl (g_lc 0 Try.isAgg103 rfl rfl rfl rfl ?_)))))))
  refine g_val rfl rfl rfl (fun _ _ => v_addW rfl rfl) (g_val rfl rfl rfl (fun _ _ => v_mulW rfl rfl) (g_as rfl rfl (g_nt (g_seq ?_))))
  obtain ⟨o, h1, h2⟩ := bindO hm
  refine g_cut (ι := Unit) (fun l => True) (fun l => [(0, ptr pb 0), (3, .int .u32 o)]) (fun l => [(pb, .cells #[.slice qa0 na0 ca0, .int .i64 h01, .int .u32 h02] 105 (0, 0))]) (fun l => []) ?_ ?_
  ·replace hm := h1
   refine g_seq ?_
   refine g_draw none (.free 0 (.free 1 (.free 2 (.hoist 3 (.free 4 (.free 5 (.free 6 (.hoist 7 (.free 8 (.free 9 .done)))))))))) _ rfl (by decide +kernel) (fun w k hh => hh.draw k) (fun w hh => hh) ?_
   refine p_mv rfl rfl rfl (p_free rfl rfl rfl rfl (fun _ _ => v_nilCheck rfl) (p_fa 1 Try.runUnderlying105 Try.sizeOf3 rfl rfl rfl rfl (p_lc 0 Try.isAgg3 rfl rfl rfl rfl rfl (p_mv rfl rfl rfl (p_free rfl rfl rfl rfl (fun _ _ => v_nilCheck rfl) (p_fa 0 Try.runUnderlying105 Try.sizeOf22 rfl rfl rfl rfl (p_lc 0 Try.isAgg22 rfl rfl rfl rfl rfl ?_)))))))
   refine p_free rfl rfl rfl rfl (fun w _ => v_lenR hna0 (Try.runUnderlying22 w) rfl) (p_free rfl rfl rfl rfl (fun _ _ => v_lss rfl rfl) (p_done (g_n_then ?_)))
   refine g_cond rfl (fun h3 => ?_) (fun h3 => ?_)
   ·replace hm := ifD h3 hm
    refine g_draw none (.free 0 (.free 1 (.free 2 (.free 3 (.hoist 4 (.free 5 (.free 6 (.free 7 (.hoist 8 (.free 9 (.hoist 10 (.free 11 (.free 12 (.free 13 (.free 14 .done))))))))))))))) _ rfl (by decide +kernel) (fun w k hh => hh.draw k) (fun w hh => hh) ?_
    refine p_mv rfl rfl rfl (p_mv rfl rfl rfl (p_free rfl rfl rfl rfl (fun _ _ => v_nilCheck rfl) (p_fa 0 Try.runUnderlying105 Try.sizeOf22 rfl rfl rfl rfl (p_lc 0 Try.isAgg22 rfl rfl rfl rfl rfl (p_mv rfl rfl rfl (p_free rfl rfl rfl rfl (fun _ _ => v_nilCheck rfl) (p_fa 1 Try.runUnderlying105 Try.sizeOf3 rfl rfl rfl rfl ?_)))))))
    refine p_lc 0 Try.isAgg3 rfl rfl rfl rfl rfl ?_
    obtain ⟨t29, h4, hm⟩ := bindO hm
    refine p_free rfl rfl rfl rfl (fun w _ => v_ixR h4 (Try.runUnderlying22 w) (Try.sizeOf5 w) rfl rfl hna0 hqa0) (p_hoist rfl rfl rfl rfl (fun w hh => v_ldE RU8 0 h4 (Try.isAgg5 w) rfl (hh.seg 0 rfl) rfl (Nat.add_zero _).symm) (p_free rfl rfl rfl rfl (fun w _ => v_conv (Try.runUnderlying5 w) (Try.runUnderlying103 w) rfl) (p_free rfl rfl rfl rfl (fun _ _ => v_mulW rfl rfl) (p_free rfl rfl rfl rfl (fun _ _ => v_addW rfl rfl) (p_free rfl rfl rfl rfl (fun _ _ => v_assign rfl) (p_done ?_))))))
    obtain rfl := sj hm
    exact g_leaf () (trivial) (sE rfl) (fun w hh => hh)
   ·replace hm := ifE h3 hm
    refine g_skip ?_
    obtain rfl := sj hm
    exact g_leaf () (trivial) (sE rfl) (fun w hh => hh)
  ·intro l hj
   replace hm := h2
   refine g_n_then (g_seq ?_)
   obtain ⟨o_1, h5, h6⟩ := bindO hm
   refine g_cut (ι := Unit) (fun l_1 => True) (fun l_1 => [(3, .int .u32 o)]) (fun l_1 => [(pb, .cells #[.slice qa0 na0 ca0, .int .i64 o_1.h0_1, .int .u32 o_1.h0_2] 105 (0, 0))]) (fun l_1 => []) ?_ ?_
   ·replace hm := h5
    refine g_sr (g_mv rfl rfl (g_val rfl rfl rfl (fun _ _ => v_nilCheck rfl) (g_fa 1 Try.runUnderlying105 rfl Try.sizeOf3 rfl rfl (g_lc 0 Try.isAgg3 rfl rfl rfl rfl ?_))))
    obtain ⟨t38, h7, hm⟩ := bindO hm
    refine g_ac h7 rfl rfl rfl (g_val rfl rfl rfl (fun _ _ => v_nilCheck rfl) (g_fa 1 Try.runUnderlying105 rfl Try.sizeOf3 rfl rfl (g_stS (cs' := #[_, _, _]) (S' := [_]) 0 (fun w => Try.sizeOf3 w) rfl rfl rfl rfl rfl rfl rfl (g_nt (g_seq ?_)))))
    refine g_draw none (.free 0 (.free 1 (.free 2 (.hoist 3 (.free 4 (.free 5 (.free 6 (.hoist 7 (.free 8 (.free 9 .done)))))))))) _ rfl (by decide +kernel) (fun w k hh => hh.draw k) (fun w hh => hh) ?_
    refine p_mv rfl rfl rfl (p_free rfl rfl rfl rfl (fun _ _ => v_nilCheck rfl) (p_fa 1 Try.runUnderlying105 Try.sizeOf3 rfl rfl rfl rfl (p_lc 0 Try.isAgg3 rfl rfl rfl rfl rfl (p_mv rfl rfl rfl (p_free rfl rfl rfl rfl (fun _ _ => v_nilCheck rfl) (p_fa 0 Try.runUnderlying105 Try.sizeOf22 rfl rfl rfl rfl (p_lc 0 Try.isAgg22 rfl rfl rfl rfl rfl ?_)))))))
    refine p_free rfl rfl rfl rfl (fun w _ => v_lenR hna0 (Try.runUnderlying22 w) rfl) (p_free rfl rfl rfl rfl (fun _ _ => v_geq rfl rfl) (p_done (g_n_then ?_)))
    refine g_cond rfl (fun h8 => ?_) (fun h8 => ?_)
    ·replace hm := ifD h8 hm
     refine g_region (g_mv rfl rfl (g_mv rfl rfl (g_mv rfl rfl (g_val rfl rfl rfl (fun _ _ => v_nilCheck rfl) (g_fa 2 Try.runUnderlying105 rfl Try.sizeOf103 rfl rfl (g_lc 0 Try.isAgg103 rfl rfl rfl rfl (g_val rfl rfl rfl (fun _ _ => v_addW rfl rfl) ?_)))))))
     refine g_val rfl rfl rfl (fun _ _ => v_nilCheck rfl) (g_fa 1 Try.runUnderlying105 rfl Try.sizeOf3 rfl rfl (g_stS (cs' := #[_, _, _]) (S' := [_]) 0 (fun w => Try.sizeOf3 w) rfl rfl rfl rfl rfl rfl rfl (g_val rfl rfl rfl (fun _ _ => v_nilCheck rfl) (g_fa 2 Try.runUnderlying105 rfl Try.sizeOf103 rfl rfl (g_stS (cs' := #[_, _, _]) (S' := [_]) 0 (fun w => Try.sizeOf103 w) rfl rfl rfl rfl rfl rfl rfl (g_nil ?_))))))
     obtain rfl := sj hm
     exact g_leaf () (trivial) (sE rfl) (fun w hh => hh)
    ·replace hm := ifE h8 hm
     refine g_skip ?_
     obtain rfl := sj hm
     exact g_leaf () (trivial) (sE rfl) (fun w hh => hh)
   ·intro l_1 hj
    replace hm := h6
    refine g_n_then (g_sr (g_mv rfl rfl (g_mv rfl rfl (g_val rfl rfl rfl (fun _ _ => v_shr rfl rfl (by decide)) (g_val rfl rfl rfl (fun _ _ => v_bits rfl rfl rfl) (g_val rfl rfl rfl (fun _ _ => v_bits rfl rfl rfl) (g_val rfl rfl rfl (fun w _ => v_conv (Try.runUnderlying103 w) (Try.runUnderlying3 w) rfl) ?_)))))))
    refine g_as rfl rfl (g_nt (g_ret ?_))
    obtain rfl := sj hm
    refine g_done rfl (fun w hh => (.tmp rfl .nil)) (fun w hh => ⟨(), rfl, trivial, hh.se [0] [] 1 rfl rfl rfl rfl⟩)
structure m_laurelkit_Heap_Upto_1_R where
  r0 : Int
  h0_1 : Int
  h0_2 : Int
def m_laurelkit_Heap_Upto_1 (h00 : (List Int)) (h01 : Int) (h02 : Int) (n1 : Int) : Option m_laurelkit_Heap_Upto_1_R :=
 (m_laurelkit_Heap_pick_1 h00 h01 h02).bind fun t6 =>
 (addc n1 1).bind fun t8 =>
 (remc t6.r0 (max 1 t8)).bind fun t10 =>
 some (⟨t10, t6.h0_1, t6.h0_2⟩ : m_laurelkit_Heap_Upto_1_R)
theorem c_laurelkit_Heap_Upto_1 (h00 : (List Int)) (h01 : Int) (h02 : Int) (n1 : Int) (pb : Nat) (qa0 : Option Addr) (na0 ca0 : Nat) (w : World) (hw : HV w (keys [(pb, .cells #[.slice qa0 na0 ca0, .int .i64 h01, .int .u32 h02] 105 (0, 0))] []) [(pb, .cells #[.slice qa0 na0 ca0, .int .i64 h01, .int .u32 h02] 105 (0, 0))] [] [(aB qa0, aO qa0, RU8.enc h00)] w) (hna0 : h00.length = na0) (hqa0 : AOK na0 qa0) (hla0 : na0 ≤ ca0) {res : m_laurelkit_Heap_Upto_1_R} (hm : m_laurelkit_Heap_Upto_1 h00 h01 h02 n1 = some res) :
    Calls Try.prog 33 #[ptr pb 0, .int .i64 n1] w (fun en w' => ∃ l : Unit, en = .returned (.int .i64 res.r0) ∧ (True) ∧ HV w (keys [(pb, .cells #[.slice qa0 na0 ca0, .int .i64 h01, .int .u32 h02] 105 (0, 0))] []) [(pb, .cells #[.slice qa0 na0 ca0, .int .i64 res.h0_1, .int .u32 res.h0_2] 105 (0, 0))] [] [] w') := by
  unfold m_laurelkit_Heap_Upto_1 at hm
  refine g_en Try.func33 rfl Try.ntmps33 rfl (e := [(0, _), (1, _)]) rfl hw (g_sr (g_as rfl rfl (g_nx (g_mv rfl rfl ?_))))
  obtain ⟨t6, h1, hm⟩ := bindO hm
  refine g_callH [_] [] rfl rfl rfl rfl rfl rfl rfl Try.call90 (fun w hh => c_laurelkit_Heap_pick_1 h00 h01 h02 pb qa0 na0 ca0 w (HV.callee (S0 := [_]) (vs0 := []) hh (roR hh 0 rfl roN)) hna0 hqa0 hla0 h1) (fun l h2 => ?_)
  refine g_se (S' := [_]) (vs' := []) [0] [] 0 rfl rfl rfl rfl (g_mv rfl rfl ?_)
  obtain ⟨t8, h3, hm⟩ := bindO hm
  refine g_ac h3 rfl rfl rfl (g_val rfl rfl rfl (fun _ _ => v_max rfl rfl) ?_)
  obtain ⟨t10, h4, hm⟩ := bindO hm
  refine g_val rfl rfl rfl (fun _ _ => v_remc h4 rfl rfl) (g_as rfl rfl (g_nt (g_ret ?_)))
  obtain rfl := sj hm
  refine g_done rfl (fun w hh => (.tmp rfl .nil)) (fun w hh => ⟨(), rfl, trivial, hh.se [0] [] 1 rfl rfl rfl rfl⟩)
structure m_laurelkit_Heap_From_1_R where
  r0 : Int
  h0_1 : Int
  h0_2 : Int
def m_laurelkit_Heap_From_1 (h00 : (List Int)) (h01 : Int) (h02 : Int) (lo1 : Int) (hi2 : Int) : Option m_laurelkit_Heap_From_1_R :=
 (subc hi2 lo1).bind fun t11 =>
 (m_laurelkit_Heap_Upto_1 h00 h01 h02 t11).bind fun t12 =>
 (addc lo1 t12.r0).bind fun t13 =>
 some (⟨t13, t12.h0_1, t12.h0_2⟩ : m_laurelkit_Heap_From_1_R)
theorem c_laurelkit_Heap_From_1 (h00 : (List Int)) (h01 : Int) (h02 : Int) (lo1 : Int) (hi2 : Int) (pb : Nat) (qa0 : Option Addr) (na0 ca0 : Nat) (w : World) (hw : HV w (keys [(pb, .cells #[.slice qa0 na0 ca0, .int .i64 h01, .int .u32 h02] 105 (0, 0))] []) [(pb, .cells #[.slice qa0 na0 ca0, .int .i64 h01, .int .u32 h02] 105 (0, 0))] [] [(aB qa0, aO qa0, RU8.enc h00)] w) (hna0 : h00.length = na0) (hqa0 : AOK na0 qa0) (hla0 : na0 ≤ ca0) {res : m_laurelkit_Heap_From_1_R} (hm : m_laurelkit_Heap_From_1 h00 h01 h02 lo1 hi2 = some res) :
    Calls Try.prog 42 #[ptr pb 0, .int .i64 lo1, .int .i64 hi2] w (fun en w' => ∃ l : Unit, en = .returned (.int .i64 res.r0) ∧ (True) ∧ HV w (keys [(pb, .cells #[.slice qa0 na0 ca0, .int .i64 h01, .int .u32 h02] 105 (0, 0))] []) [(pb, .cells #[.slice qa0 na0 ca0, .int .i64 res.h0_1, .int .u32 res.h0_2] 105 (0, 0))] [] [] w') := by
  unfold m_laurelkit_Heap_From_1 at hm
  refine g_en Try.func42 rfl Try.ntmps42 rfl (e := [(0, _), (1, _), (2, _)]) rfl hw (g_sr (g_as rfl rfl (g_nx (g_mv rfl rfl (g_mv rfl rfl (g_mv rfl rfl (g_mv rfl rfl ?_)))))))
  obtain ⟨t11, h1, hm⟩ := bindO hm
  refine g_val rfl rfl rfl (fun _ _ => v_subc h1 rfl rfl) ?_
  obtain ⟨t12, h2, hm⟩ := bindO hm
  refine g_callH [_] [] rfl rfl rfl rfl rfl rfl rfl Try.call33 (fun w hh => c_laurelkit_Heap_Upto_1 h00 h01 h02 t11 pb qa0 na0 ca0 w (HV.callee (S0 := [_]) (vs0 := []) hh (roR hh 0 rfl roN)) hna0 hqa0 hla0 h2) (fun l h3 => ?_)
  refine g_se (S' := [_]) (vs' := []) [0] [] 0 rfl rfl rfl rfl ?_
  obtain ⟨t13, h4, hm⟩ := bindO hm
  refine g_ac h4 rfl rfl rfl (g_as rfl rfl (g_nt (g_ret ?_)))
  obtain rfl := sj hm
  refine g_done rfl (fun w hh => (.tmp rfl .nil)) (fun w hh => ⟨(), rfl, trivial, hh.se [0] [] 1 rfl rfl rfl rfl⟩)
def m_laurellaw09_reaches_L0 (s0 : Scalps) (tenant1 : Int) (which2 : Int) (s : Int) : Option (Int ⊕ (Unit ⊕ Bool)) :=
 if s < (s0.strips.length : Int) then
 ((ix s0.strips s).bind fun t15 =>
 (if t15.tenant = tenant1 then
 ((subc s which2).bind fun t24 =>
 (subc which2 s).bind fun t27 =>
 some (decide ((max t24 t27) < 2))) else
 (some false)).bind fun o_1 =>
 if o_1 = true then
 (some (.inr (.inr true))) else
 ((addc s 1).bind fun t31 =>
 some (.inl t31))) else
 (some (.inr (.inl ())))
def m_laurellaw09_reaches (s0 : Scalps) (tenant1 : Int) (which2 : Int) : Option Bool :=
 (iterM FU (m_laurellaw09_reaches_L0 s0 tenant1 which2) 0).bind fun o =>
 oc o (fun j => some false) (fun r_1 => some r_1)
theorem c_laurellaw09_reaches (s0 : Scalps) (tenant1 : Int) (which2 : Int) (qa0 : Option Addr) (na0 ca0 : Nat) (qa1 : Option Addr) (na1 ca1 : Nat) (w : World) (hw : HV w (keys [] []) [] [] [(aB qa0, aO qa0, RSt.enc s0.strips), (aB qa1, aO qa1, RSp.enc s0.carried)] w) (hna0 : s0.strips.length = na0) (hqa0 : AOK na0 qa0) (hla0 : na0 ≤ ca0) (hna1 : s0.carried.length = na1) (hqa1 : AOK na1 qa1) (hla1 : na1 ≤ ca1) {res : Bool} (hm : m_laurellaw09_reaches s0 tenant1 which2 = some res) :
    Calls Try.prog 43 #[.agg #[.slice qa0 na0 ca0, .slice qa1 na1 ca1], .int .i64 tenant1, .int .i64 which2] w (fun en w' => ∃ l : Unit, en = .returned (.bool res) ∧ (True) ∧ HV w (keys [] []) [] [] [] w') := by
  unfold m_laurellaw09_reaches at hm
  refine g_en Try.func43 rfl Try.ntmps43 rfl (e := [(0, _), (1, _), (2, _)]) rfl hw (g_sr ?_)
  refine g_boxV rfl rfl (fun b h1 => ?_)
  refine g_as rfl rfl (g_nt (g_seq (g_sr (g_fa 0 Try.runUnderlying28 rfl Try.sizeOf25 rfl rfl (g_lc 0 Try.isAgg25 rfl rfl rfl rfl (g_val rfl rfl rfl (fun w _ => v_lenR hna0 (Try.runUnderlying25 w) rfl) (g_mv rfl rfl ?_)))))))
  refine g_nt ?_
  obtain ⟨o, h2, h3⟩ := bindO hm
  refine g_cut (ι := Unit) (fun j => o = .inl j) (fun j => []) (fun j => [(b, .cells #[.slice qa0 na0 ca0, .slice qa1 na1 ca1] 28 (0, 0))]) (fun j => []) ?_ ?_
  ·replace hm := h2
   refine g_block ?_
   refine g_loopF (ι := Unit) hm (fun s l => True) (fun s l => [(1, .int .i64 tenant1), (2, .int .i64 which2), (10, .slice qa0 na0 ca0), (11, .int .i64 (s0.strips.length : Int)), (12, .int .i64 s)]) (fun s l => [(b, .cells #[.slice qa0 na0 ca0, .slice qa1 na1 ca1] 28 (0, 0))]) (fun s l => []) () (trivial) (sE rfl) (fun w hh => hh) (fun s l r hpl hm h4 => ?_)
   unfold m_laurellaw09_reaches_L0 at hm
   refine g_sr (g_ls rfl rfl rfl (g_nt (g_seq ?_)))
   refine g_cond rfl (fun h5 => ?_) (fun h5 => ?_)
   ·replace hm := ifD h5 hm
    refine g_skip (g_n_then (g_seq (g_block (g_sr (g_mv rfl rfl ?_)))))
    obtain ⟨t15, h6, hm⟩ := bindO hm
    refine g_val rfl rfl rfl (fun w _ => v_ixR h6 (Try.runUnderlying25 w) (Try.sizeOf77 w) rfl rfl hna0 hqa0) ?_
    refine g_val rfl rfl rfl (fun w hh => v_ldEA RSt 0 [.int .i64 t15.tenant, .int .i64 t15.lay.lo, .int .i64 t15.lay.hi, .int .i64 t15.seeded.lo, .int .i64 t15.seeded.hi, .int .i64 t15.left.lo, .int .i64 t15.left.hi] h6 (Try.isAgg77 w) (Try.sizeOf77 w) rfl (hh.seg 0 rfl) rfl (Nat.add_zero _).symm) ?_
    refine g_allocV (fun w => Try.zeroValue77 w) rfl (fun b_1 h7 => ?_)
    refine g_as rfl rfl (g_stSA (us := #[_, _, _, _, _, _, _]) (cs' := [_, _, _, _, _, _, _]) (S' := [_, _]) 0 (fun w => Try.sizeOf77 w) rfl rfl rfl rfl rfl rfl rfl (g_nt (g_seq ?_)))
    obtain ⟨o_1, h8, h9⟩ := bindO hm
    refine g_cut (ι := Unit) (fun l_1 => True) (fun l_1 => [(1, .int .i64 tenant1), (2, .int .i64 which2), (10, .slice qa0 na0 ca0), (11, .int .i64 (s0.strips.length : Int)), (12, .int .i64 s), (30, .bool o_1)]) (fun l_1 => [(b_1, .cells #[.int .i64 t15.tenant, .int .i64 t15.lay.lo, .int .i64 t15.lay.hi, .int .i64 t15.seeded.lo, .int .i64 t15.seeded.hi, .int .i64 t15.left.lo, .int .i64 t15.left.hi] 77 (0, 0)), (b, .cells #[.slice qa0 na0 ca0, .slice qa1 na1 ca1] 28 (0, 0))]) (fun l_1 => []) ?_ ?_
    ·replace hm := h8
     refine g_region (g_fa 0 Try.runUnderlying77 rfl Try.sizeOf3 rfl rfl (g_lc 0 Try.isAgg3 rfl rfl rfl rfl (g_mv rfl rfl (g_val rfl rfl rfl (fun _ _ => v_eql rfl rfl) (g_mv rfl rfl ?_)))))
     refine g_case 21 rfl (fun h10 => ?_) (fun h10 => ?_)
     ·replace hm := ifD h10 hm
      refine v_unguard rfl rfl (g_mv rfl rfl (v_unguard rfl rfl (g_mv rfl rfl (v_unguard rfl rfl ?_))))
      obtain ⟨t24, h11, hm⟩ := bindO hm
      refine g_val rfl rfl rfl (fun _ _ => v_subc h11 rfl rfl) (v_unguard rfl rfl (g_mv rfl rfl (v_unguard rfl rfl (g_mv rfl rfl (v_unguard rfl rfl ?_)))))
      obtain ⟨t27, h12, hm⟩ := bindO hm
      refine g_val rfl rfl rfl (fun _ _ => v_subc h12 rfl rfl) (v_unguard rfl rfl (g_val rfl rfl rfl (fun _ _ => v_max rfl rfl) (v_unguard rfl rfl (g_ls rfl rfl rfl (g_pt rfl rfl rfl (g_nil ?_))))))
      obtain rfl := sj hm
      exact g_leaf () (trivial) (sE rfl) (fun w hh => hh)
     ·replace hm := ifE h10 hm
      refine g_k rfl rfl rfl rfl (g_k rfl rfl rfl rfl (g_k rfl rfl rfl rfl (g_k rfl rfl rfl rfl (g_k rfl rfl rfl rfl (g_k rfl rfl rfl rfl (g_k rfl rfl rfl rfl (g_k rfl rfl rfl rfl ?_)))))))
      refine g_pf rfl rfl rfl (g_nil ?_)
      obtain rfl := sj hm
      exact g_leaf () (trivial) (sE rfl) (fun w hh => hh)
    ·intro l_1 hj
     replace hm := h9
     refine g_n_then ?_
     refine g_cond rfl (fun h13 => ?_) (fun h13 => ?_)
     ·replace hm := ifT (h13) hm
      refine g_sr (g_as rfl rfl (g_nt (g_ret (g_r_blk (g_r_then (g_r_then (g_r_blk ?_)))))))
      obtain rfl := sj hm
      have hbo := h4 _ rfl
      subst hbo
      refine g_r_then ?_
      replace hm := ocR h3
      refine g_r_then ?_
      obtain rfl := sj hm
      refine g_done rfl (fun w hh => (.tmp rfl .nil)) (fun w hh => ⟨(), rfl, trivial, hh.se [] [] 2 rfl rfl rfl rfl⟩)
     ·replace hm := ifN h13 hm
      refine g_skip (g_n_blk (g_n_then (g_region ?_)))
      obtain ⟨t31, h14, hm⟩ := bindO hm
      refine g_ac h14 rfl rfl rfl (g_mv rfl rfl (g_nil ?_))
      obtain rfl := sj hm
      refine g_n_then ?_
      exact g_again' _ () rfl (trivial) (sE rfl) (hsE [1] [] 0 rfl rfl rfl rfl)
   ·replace hm := ifE h5 hm
    refine g_exit (g_x_then (g_x_then (g_x_blk ?_)))
    obtain rfl := sj hm
    have hbo := h4 _ rfl
    subst hbo
    exact g_leaf () (rfl) (.nil) (fun w hh => hh)
  ·intro j hj
   have h15 := hj
   subst h15
   replace hm := ocL h3
   refine g_n_then (g_sr (g_as rfl rfl (g_nt (g_ret ?_))))
   obtain rfl := sj hm
   refine g_done rfl (fun w hh => (.tmp rfl .nil)) (fun w hh => ⟨(), rfl, trivial, hh.se [] [] 2 rfl rfl rfl rfl⟩)
structure m_laurelkit_Heap_Once_1_R where
  r0 : Bool
  h0_1 : Int
  h0_2 : Int
def m_laurelkit_Heap_Once_1 (h00 : (List Int)) (h01 : Int) (h02 : Int) (n1 : Int) : Option m_laurelkit_Heap_Once_1_R :=
 (subc n1 1).bind fun t7 =>
 (m_laurelkit_Heap_Upto_1 h00 h01 h02 t7).bind fun t8 =>
 some (⟨(decide (t8.r0 = 0)), t8.h0_1, t8.h0_2⟩ : m_laurelkit_Heap_Once_1_R)
theorem c_laurelkit_Heap_Once_1 (h00 : (List Int)) (h01 : Int) (h02 : Int) (n1 : Int) (pb : Nat) (qa0 : Option Addr) (na0 ca0 : Nat) (w : World) (hw : HV w (keys [(pb, .cells #[.slice qa0 na0 ca0, .int .i64 h01, .int .u32 h02] 105 (0, 0))] []) [(pb, .cells #[.slice qa0 na0 ca0, .int .i64 h01, .int .u32 h02] 105 (0, 0))] [] [(aB qa0, aO qa0, RU8.enc h00)] w) (hna0 : h00.length = na0) (hqa0 : AOK na0 qa0) (hla0 : na0 ≤ ca0) {res : m_laurelkit_Heap_Once_1_R} (hm : m_laurelkit_Heap_Once_1 h00 h01 h02 n1 = some res) :
    Calls Try.prog 34 #[ptr pb 0, .int .i64 n1] w (fun en w' => ∃ l : Unit, en = .returned (.bool res.r0) ∧ (True) ∧ HV w (keys [(pb, .cells #[.slice qa0 na0 ca0, .int .i64 h01, .int .u32 h02] 105 (0, 0))] []) [(pb, .cells #[.slice qa0 na0 ca0, .int .i64 res.h0_1, .int .u32 res.h0_2] 105 (0, 0))] [] [] w') := by
  unfold m_laurelkit_Heap_Once_1 at hm
  refine g_en Try.func34 rfl Try.ntmps34 rfl (e := [(0, _), (1, _)]) rfl hw (g_sr (g_as rfl rfl (g_nx (g_mv rfl rfl (g_mv rfl rfl ?_)))))
  obtain ⟨t7, h1, hm⟩ := bindO hm
  refine g_val rfl rfl rfl (fun _ _ => v_subc h1 rfl rfl) ?_
  obtain ⟨t8, h2, hm⟩ := bindO hm
  refine g_callH [_] [] rfl rfl rfl rfl rfl rfl rfl Try.call33 (fun w hh => c_laurelkit_Heap_Upto_1 h00 h01 h02 t7 pb qa0 na0 ca0 w (HV.callee (S0 := [_]) (vs0 := []) hh (roR hh 0 rfl roN)) hna0 hqa0 hla0 h2) (fun l h3 => ?_)
  refine g_se (S' := [_]) (vs' := []) [0] [] 0 rfl rfl rfl rfl (g_val rfl rfl rfl (fun _ _ => v_eql rfl rfl) (g_as rfl rfl (g_nt (g_ret ?_))))
  obtain rfl := sj hm
  refine g_done rfl (fun w hh => (.tmp rfl .nil)) (fun w hh => ⟨(), rfl, trivial, hh.se [0] [] 1 rfl rfl rfl rfl⟩)
structure m_laurellaw09_around_1_R where
  r0 : Span
  b0_1 : Int
  b0_2 : Int
def m_laurellaw09_around_1 (b00 : (List Int)) (b01 : Int) (b02 : Int) (n1 : Int) (wider2 : Int) : Option m_laurellaw09_around_1_R :=
 (m_laurelkit_Heap_Upto_1 b00 b01 b02 wider2).bind fun t10 =>
 (subc n1 t10.r0).bind fun t11 =>
 (m_laurelkit_Heap_Upto_1 b00 t10.h0_1 t10.h0_2 wider2).bind fun t16 =>
 (addc n1 t16.r0).bind fun t17 =>
 some (⟨(⟨(max 0 t11), (min 30 t17)⟩ : Span), t16.h0_1, t16.h0_2⟩ : m_laurellaw09_around_1_R)
theorem c_laurellaw09_around_1 (b00 : (List Int)) (b01 : Int) (b02 : Int) (n1 : Int) (wider2 : Int) (pb : Nat) (qa0 : Option Addr) (na0 ca0 : Nat) (w : World) (hw : HV w (keys [(pb, .cells #[.slice qa0 na0 ca0, .int .i64 b01, .int .u32 b02] 105 (0, 0))] []) [(pb, .cells #[.slice qa0 na0 ca0, .int .i64 b01, .int .u32 b02] 105 (0, 0))] [] [(aB qa0, aO qa0, RU8.enc b00)] w) (hna0 : b00.length = na0) (hqa0 : AOK na0 qa0) (hla0 : na0 ≤ ca0) {res : m_laurellaw09_around_1_R} (hm : m_laurellaw09_around_1 b00 b01 b02 n1 wider2 = some res) :
    Calls Try.prog 35 #[ptr pb 0, .int .i64 n1, .int .i64 wider2] w (fun en w' => ∃ l : Unit, en = .returned (.agg #[.int .i64 res.r0.lo, .int .i64 res.r0.hi]) ∧ (True) ∧ HV w (keys [(pb, .cells #[.slice qa0 na0 ca0, .int .i64 b01, .int .u32 b02] 105 (0, 0))] []) [(pb, .cells #[.slice qa0 na0 ca0, .int .i64 res.b0_1, .int .u32 res.b0_2] 105 (0, 0))] [] [] w') := by
  unfold m_laurellaw09_around_1 at hm
  refine g_en Try.func35 rfl Try.ntmps35 rfl (e := [(0, _), (1, _), (2, _)]) rfl hw (g_sr ?_)
  refine g_allocV (fun w => Try.zeroValue37 w) rfl (fun b h1 => ?_)
  refine g_nx (g_mv rfl rfl (g_mv rfl rfl (g_mv rfl rfl ?_)))
  obtain ⟨t10, h2, hm⟩ := bindO hm
  refine g_se (S' := [_, _]) (vs' := []) [1, 0] [] 0 rfl rfl rfl rfl ?_
  refine g_callH [_] [] rfl rfl rfl rfl rfl rfl rfl Try.call33 (fun w hh => c_laurelkit_Heap_Upto_1 b00 b01 b02 wider2 pb qa0 na0 ca0 w (HV.callee (S0 := [_]) (vs0 := []) hh (roR hh 0 rfl roN)) hna0 hqa0 hla0 h2) (fun l h3 => ?_)
  refine g_se (S' := [_, _]) (vs' := []) [0, 1] [] 0 rfl rfl rfl rfl ?_
  obtain ⟨t11, h4, hm⟩ := bindO hm
  refine g_val rfl rfl rfl (fun _ _ => v_subc h4 rfl rfl) (g_val rfl rfl rfl (fun _ _ => v_max rfl rfl) (g_mv rfl rfl (g_mv rfl rfl (g_mv rfl rfl ?_))))
  obtain ⟨t16, h5, hm⟩ := bindO hm
  refine g_callH [_] [] rfl rfl rfl rfl rfl rfl rfl Try.call33 (fun w hh => c_laurelkit_Heap_Upto_1 b00 t10.h0_1 t10.h0_2 wider2 pb qa0 na0 ca0 w (HV.callee (S0 := [_]) (vs0 := []) hh (roR hh 0 rfl roN)) hna0 hqa0 hla0 h5) (fun l_1 h6 => ?_)
  refine g_se (S' := [_, _]) (vs' := []) [0, 1] [] 0 rfl rfl rfl rfl ?_
  obtain ⟨t17, h7, hm⟩ := bindO hm
  refine g_ac h7 rfl rfl rfl (g_val rfl rfl rfl (fun _ _ => v_min rfl rfl) (g_val rfl rfl rfl (fun _ _ => v_build (vs := [(0, _), (1, _)]) (cells := [_, _]) rfl rfl) (g_stSA (us := #[_, _]) (cs' := [_, _]) (S' := [_, _]) 1 (fun w => Try.sizeOf37 w) rfl rfl rfl rfl rfl rfl rfl (g_nt (g_ret ?_)))))
  obtain rfl := sj hm
  refine g_done rfl (fun w hh => (.cell rfl (loadVar_agg (vs := [_, _]) (Try.isAgg37 _) (Try.sizeOf37 _) (hh.cells 1 rfl rfl)) .nil)) (fun w hh => ⟨(), rfl, trivial, hh.se [0] [] 1 rfl rfl rfl rfl⟩)
structure m_laurellaw09_Made_1_R where
  r0 : Scalps
  b0_1 : Int
  b0_2 : Int
  r1 : (List (List Int))
structure m_laurellaw09_Made_1_C0 where
  b0_1 : Int
  b0_2 : Int
  s8_strips : (List Strip)
structure m_laurellaw09_Made_1_S0 where
  t29 : Int
  b0_1 : Int
  b0_2 : Int
  s8_strips : (List Strip)
def m_laurellaw09_Made_1_L0 (t24 : m_laurelkit_Heap_From_1_R) (t27 : m_laurelkit_Heap_From_1_R) (b00 : (List Int)) (s : m_laurellaw09_Made_1_S0) : Option (m_laurellaw09_Made_1_S0 ⊕ m_laurellaw09_Made_1_C0) :=
 if s.t29 < t24.r0 then
 ((subc t27.r0 1).bind fun t35 =>
 (m_laurelkit_Heap_Upto_1 b00 s.b0_1 s.b0_2 t35).bind fun t36 =>
 (appc 56 s.s8_strips [(⟨t36.r0, (⟨0, 0⟩ : Span), (⟨0, 0⟩ : Span), (⟨0, 0⟩ : Span)⟩ : Strip)]).bind fun t39 =>
 (addc s.t29 1).bind fun t41 =>
 some (.inl (⟨t41, t36.h0_1, t36.h0_2, t39⟩ : m_laurellaw09_Made_1_S0))) else
 (some (.inr (⟨s.b0_1, s.b0_2, s.s8_strips⟩ : m_laurellaw09_Made_1_C0)))
structure m_laurellaw09_Made_1_C1 where
  b0_1 : Int
  b0_2 : Int
  real11 : (List (List Int))
  s8_carried : (List Span)
structure m_laurellaw09_Made_1_S1 where
  t46 : Int
  b0_1 : Int
  b0_2 : Int
  real11 : (List (List Int))
  s8_carried : (List Span)
structure m_laurellaw09_Made_1_C2 where
  sum13 : Int
  b0_1 : Int
  b0_2 : Int
  real11 : (List (List Int))
structure m_laurellaw09_Made_1_S2 where
  sum13 : Int
  t50 : Int
  b0_1 : Int
  b0_2 : Int
  real11 : (List (List Int))
structure m_laurellaw09_Made_1_C3 where
  n15 : Int
  b0_1 : Int
  b0_2 : Int
structure m_laurellaw09_Made_1_C4 where
  t70 : Bool
  b0_1 : Int
  b0_2 : Int
def m_laurellaw09_Made_1_L2 (t24 : m_laurelkit_Heap_From_1_R) (o : m_laurellaw09_Made_1_C0) (s_1 : m_laurellaw09_Made_1_S1) (b00 : (List Int)) (s_2 : m_laurellaw09_Made_1_S2) : Option (m_laurellaw09_Made_1_S2 ⊕ m_laurellaw09_Made_1_C2) :=
 if s_2.t50 < t24.r0 then
 ((((m_laurellaw09_reaches (⟨o.s8_strips, s_1.s8_carried⟩ : Scalps) s_1.t46 s_2.t50).bind fun t56 =>
 if t56 = true then
 ((ix o.s8_strips s_2.t50).bind fun t61 =>
 if t61.tenant = s_1.t46 then
 (some (⟨true, s_2.b0_1, s_2.b0_2⟩ : m_laurellaw09_Made_1_C4)) else
 ((m_laurelkit_Heap_Once_1 b00 s_2.b0_1 s_2.b0_2 4).bind fun t68 =>
 some (⟨t68.r0, t68.h0_1, t68.h0_2⟩ : m_laurellaw09_Made_1_C4))) else
 (some (⟨false, s_2.b0_1, s_2.b0_2⟩ : m_laurellaw09_Made_1_C4))).bind fun o_4 =>
 if o_4.t70 = true then
 ((m_laurelkit_Heap_Upto_1 b00 o_4.b0_1 o_4.b0_2 4).bind fun t72 =>
 some (⟨t72.r0, t72.h0_1, t72.h0_2⟩ : m_laurellaw09_Made_1_C3)) else
 (some (⟨0, o_4.b0_1, o_4.b0_2⟩ : m_laurellaw09_Made_1_C3))).bind fun o_3 =>
 (ix s_2.real11 s_1.t46).bind fun t77 =>
 (appc 8 t77 [o_3.n15]).bind fun t81 =>
 (addc s_2.sum13 o_3.n15).bind fun t84 =>
 (ix s_2.real11 s_1.t46).bind fun t85 =>
 (some (s_2.real11.set (Int.toNat s_1.t46) t81)).bind fun real11 =>
 (addc s_2.t50 1).bind fun t86 =>
 some (.inl (⟨t84, t86, o_3.b0_1, o_3.b0_2, real11⟩ : m_laurellaw09_Made_1_S2))) else
 (some (.inr (⟨s_2.sum13, s_2.b0_1, s_2.b0_2, s_2.real11⟩ : m_laurellaw09_Made_1_C2)))
def m_laurellaw09_Made_1_L1 (t43 : (List (List Int))) (t24 : m_laurelkit_Heap_From_1_R) (o : m_laurellaw09_Made_1_C0) (b00 : (List Int)) (s_1 : m_laurellaw09_Made_1_S1) : Option (m_laurellaw09_Made_1_S1 ⊕ m_laurellaw09_Made_1_C1) :=
 if s_1.t46 < (t43.length : Int) then
 ((iterM FU (m_laurellaw09_Made_1_L2 t24 o s_1 b00) (⟨0, 0, s_1.b0_1, s_1.b0_2, s_1.real11⟩ : m_laurellaw09_Made_1_S2)).bind fun o_2 =>
 (m_laurellaw09_around_1 b00 o_2.b0_1 o_2.b0_2 o_2.sum13 2).bind fun t91 =>
 (appc 16 s_1.s8_carried [t91.r0]).bind fun t93 =>
 (addc s_1.t46 1).bind fun t95 =>
 some (.inl (⟨t95, t91.b0_1, t91.b0_2, o_2.real11, t93⟩ : m_laurellaw09_Made_1_S1))) else
 (some (.inr (⟨s_1.b0_1, s_1.b0_2, s_1.real11, s_1.s8_carried⟩ : m_laurellaw09_Made_1_C1)))
structure m_laurellaw09_Made_1_C5 where
  b0_1 : Int
  b0_2 : Int
  s8_strips : (List Strip)
structure m_laurellaw09_Made_1_S3 where
  t97 : Int
  b0_1 : Int
  b0_2 : Int
  s8_strips : (List Strip)
structure m_laurellaw09_Made_1_S4 where
  gone17 : Int
  t102 : Int
def m_laurellaw09_Made_1_L4 (o_1 : m_laurellaw09_Made_1_C1) (s_3 : m_laurellaw09_Made_1_S3) (s_4 : m_laurellaw09_Made_1_S4) : Option (m_laurellaw09_Made_1_S4 ⊕ Int) :=
 if s_4.t102 < (o_1.real11.length : Int) then
 ((ix o_1.real11 s_4.t102).bind fun t108 =>
 (ix t108 s_3.t97).bind fun t111 =>
 (addc s_4.gone17 t111).bind fun t113 =>
 (addc s_4.t102 1).bind fun t114 =>
 some (.inl (⟨t113, t114⟩ : m_laurellaw09_Made_1_S4))) else
 (some (.inr s_4.gone17))
def m_laurellaw09_Made_1_L3 (t24 : m_laurelkit_Heap_From_1_R) (o_1 : m_laurellaw09_Made_1_C1) (b00 : (List Int)) (s_3 : m_laurellaw09_Made_1_S3) : Option (m_laurellaw09_Made_1_S3 ⊕ m_laurellaw09_Made_1_C5) :=
 if s_3.t97 < t24.r0 then
 ((iterM FU (m_laurellaw09_Made_1_L4 o_1 s_3) (⟨0, 0⟩ : m_laurellaw09_Made_1_S4)).bind fun o_6 =>
 (m_laurelkit_Heap_Upto_1 b00 s_3.b0_1 s_3.b0_2 3).bind fun t116 =>
 (m_laurelkit_Heap_Upto_1 b00 t116.h0_1 t116.h0_2 2).bind fun t118 =>
 (addc o_6 t116.r0).bind fun t121 =>
 (ix s_3.s8_strips s_3.t97).bind fun t126 =>
 (addc o_6 t116.r0).bind fun t133 =>
 (subc t133 (min t118.r0 t121)).bind fun t135 =>
 (m_laurellaw09_around_1 b00 t118.h0_1 t118.h0_2 t135 1).bind fun t136 =>
 (m_laurellaw09_around_1 b00 t136.b0_1 t136.b0_2 (min t118.r0 t121) 1).bind fun t139 =>
 (m_laurellaw09_around_1 b00 t139.b0_1 t139.b0_2 t116.r0 1).bind fun t142 =>
 (some (s_3.s8_strips.set (Int.toNat s_3.t97) (⟨t126.tenant, t136.r0, t126.seeded, t126.left⟩ : Strip))).bind fun s8_strips =>
 (ix s8_strips s_3.t97).bind fun x =>
 (some (s8_strips.set (Int.toNat s_3.t97) (⟨x.tenant, x.lay, t139.r0, x.left⟩ : Strip))).bind fun s8_strips_1 =>
 (ix s8_strips_1 s_3.t97).bind fun x_1 =>
 (some (s8_strips_1.set (Int.toNat s_3.t97) (⟨x_1.tenant, x_1.lay, x_1.seeded, t142.r0⟩ : Strip))).bind fun s8_strips_2 =>
 (addc s_3.t97 1).bind fun t149 =>
 some (.inl (⟨t149, t142.b0_1, t142.b0_2, s8_strips_2⟩ : m_laurellaw09_Made_1_S3))) else
 (some (.inr (⟨s_3.b0_1, s_3.b0_2, s_3.s8_strips⟩ : m_laurellaw09_Made_1_C5)))
def m_laurellaw09_Made_1 (b00 : (List Int)) (b01 : Int) (b02 : Int) (strips1 : Int) (tenants2 : Int) : Option m_laurellaw09_Made_1_R :=
 (m_laurelkit_Heap_From_1 b00 b01 b02 1 strips1).bind fun t24 =>
 (m_laurelkit_Heap_From_1 b00 t24.h0_1 t24.h0_2 1 tenants2).bind fun t27 =>
 (iterM FU (m_laurellaw09_Made_1_L0 t24 t27 b00) (⟨0, t27.h0_1, t27.h0_2, []⟩ : m_laurellaw09_Made_1_S0)).bind fun o =>
 (makec 24 ([] : (List Int)) t27.r0 t27.r0).bind fun t43 =>
 (iterM FU (m_laurellaw09_Made_1_L1 t43 t24 o b00) (⟨0, o.b0_1, o.b0_2, t43, []⟩ : m_laurellaw09_Made_1_S1)).bind fun o_1 =>
 (iterM FU (m_laurellaw09_Made_1_L3 t24 o_1 b00) (⟨0, o_1.b0_1, o_1.b0_2, o.s8_strips⟩ : m_laurellaw09_Made_1_S3)).bind fun o_5 =>
 some (⟨(⟨o_5.s8_strips, o_1.s8_carried⟩ : Scalps), o_5.b0_1, o_5.b0_2, o_1.real11⟩ : m_laurellaw09_Made_1_R)
theorem c_laurellaw09_Made_1 (b00 : (List Int)) (b01 : Int) (b02 : Int) (strips1 : Int) (tenants2 : Int) (pb : Nat) (qa0 : Option Addr) (na0 ca0 : Nat) (w : World) (hw : HV w (keys [(pb, .cells #[.slice qa0 na0 ca0, .int .i64 b01, .int .u32 b02] 105 (0, 0))] []) [(pb, .cells #[.slice qa0 na0 ca0, .int .i64 b01, .int .u32 b02] 105 (0, 0))] [] [(aB qa0, aO qa0, RU8.enc b00)] w) (hna0 : b00.length = na0) (hqa0 : AOK na0 qa0) (hla0 : na0 ≤ ca0) {res : m_laurellaw09_Made_1_R} (hm : m_laurellaw09_Made_1 b00 b01 b02 strips1 tenants2 = some res) :
    Calls Try.prog 13 #[ptr pb 0, .int .i64 strips1, .int .i64 tenants2] w (fun en w' => ∃ l : VL × VL × DL, en = .returned (.tuple #[.agg #[slv l.1.q l.1.n l.1.cap, slv l.2.1.q l.2.1.n l.2.1.cap], slv l.2.2.v.q l.2.2.v.n l.2.2.v.cap]) ∧ (VOK 7 l.1.n l.1.cap (RSt.enc res.r0.strips) l.1.sp l.1.q ∧ VOK 2 l.2.1.n l.2.1.cap (RSp.enc res.r0.carried) l.2.1.sp l.2.1.q ∧ VOK 1 l.2.2.v.n l.2.2.v.cap (RwH.enc l.2.2.rs) l.2.2.v.sp l.2.2.v.q ∧ DOK RI res.r1 l.2.2.rs) ∧ HV w (keys [(pb, .cells #[.slice qa0 na0 ca0, .int .i64 b01, .int .u32 b02] 105 (0, 0))] []) [(pb, .cells #[.slice qa0 na0 ca0, .int .i64 res.b0_1, .int .u32 res.b0_2] 105 (0, 0))] [⟨77, RSt.enc res.r0.strips, l.1.sp, l.1.q, []⟩, ⟨37, RSp.enc res.r0.carried, l.2.1.sp, l.2.1.q, []⟩, ⟨32, RwH.enc l.2.2.rs, l.2.2.v.sp, l.2.2.v.q, dbl 3 RI res.r1 l.2.2.rs⟩] [] w') := by
  unfold m_laurellaw09_Made_1 at hm
  refine g_en Try.func13 rfl Try.ntmps13 rfl (e := [(0, _), (1, _), (2, _)]) rfl hw (g_sr ?_)
  refine g_allocV (fun w => Try.zeroValue28 w) rfl (fun b h5 => ?_)
  refine g_val rfl rfl rfl (fun _ _ => v_nilS rfl) (g_nx ?_)
  refine g_allocV (fun w => Try.zeroValue28 w) rfl (fun b_1 h6 => ?_)
  refine g_nx (g_mv rfl rfl (g_mv rfl rfl ?_))
  obtain ⟨t24, h7, hm⟩ := bindO hm
  refine g_se (S' := [_, _, _]) (vs' := []) [2, 0, 1] [] 0 rfl rfl rfl rfl ?_
  refine g_callH [_] [] rfl rfl rfl rfl rfl rfl rfl Try.call42 (fun w hh => c_laurelkit_Heap_From_1 b00 b01 b02 1 strips1 pb qa0 na0 ca0 w (HV.callee (S0 := [_]) (vs0 := []) hh (roR hh 0 rfl roN)) hna0 hqa0 hla0 h7) (fun l h8 => ?_)
  refine g_se (S' := [_, _, _]) (vs' := []) [0, 1, 2] [] 0 rfl rfl rfl rfl (g_mv rfl rfl (g_mv rfl rfl ?_))
  obtain ⟨t27, h9, hm⟩ := bindO hm
  refine g_callH [_] [] rfl rfl rfl rfl rfl rfl rfl Try.call42 (fun w hh => c_laurelkit_Heap_From_1 b00 t24.h0_1 t24.h0_2 1 tenants2 pb qa0 na0 ca0 w (HV.callee (S0 := [_]) (vs0 := []) hh (roR hh 0 rfl roN)) hna0 hqa0 hla0 h9) (fun l_1 h10 => ?_)
  refine g_se (S' := [_, _, _]) (vs' := []) [0, 1, 2] [] 0 rfl rfl rfl rfl (g_as rfl rfl (g_as rfl rfl (g_nt (g_seq (g_sr (g_mv rfl rfl (g_mv rfl rfl ?_)))))))
  refine g_nt (g_vnil 77 ?_)
  obtain ⟨o, h11, h12⟩ := bindO hm
  refine g_cut (ι := VL) (fun l_2 => VOK 7 l_2.n l_2.cap (RSt.enc o.s8_strips) l_2.sp l_2.q) (fun l_2 => [(0, ptr pb 0), (6, ptr b 0), (8, ptr b_1 0), (9, .int .i64 t24.r0), (10, .int .i64 t27.r0)]) (fun l_2 => [(pb, .cells #[.slice qa0 na0 ca0, .int .i64 o.b0_1, .int .u32 o.b0_2] 105 (0, 0)), (b_1, .cells #[slv l_2.q l_2.n l_2.cap, slv none 0 0] 28 (0, 0)), (b, .cells #[slv none 0 0, slv none 0 0] 28 (0, 0))]) (fun l_2 => [⟨77, RSt.enc o.s8_strips, l_2.sp, l_2.q, []⟩]) ?_ ?_
  ·replace hm := h11
   refine g_block ?_
   refine g_loopF (ι := VL) hm (fun s l_3 => VOK 7 l_3.n l_3.cap (RSt.enc s.s8_strips) l_3.sp l_3.q) (fun s l_3 => [(0, ptr pb 0), (6, ptr b 0), (8, ptr b_1 0), (9, .int .i64 t24.r0), (10, .int .i64 t27.r0), (28, .int .i64 t24.r0), (29, .int .i64 s.t29)]) (fun s l_3 => [(pb, .cells #[.slice qa0 na0 ca0, .int .i64 s.b0_1, .int .u32 s.b0_2] 105 (0, 0)), (b_1, .cells #[slv l_3.q l_3.n l_3.cap, slv none 0 0] 28 (0, 0)), (b, .cells #[slv none 0 0, slv none 0 0] 28 (0, 0))]) (fun s l_3 => [⟨77, RSt.enc s.s8_strips, l_3.sp, l_3.q, []⟩]) ⟨none, 0, 0, []⟩ (VOK.nil) (sE rfl) (fun w hh => hh) (fun s l_3 r hpl hm h15 => ?_)
   have h14 := hpl
   unfold m_laurellaw09_Made_1_L0 at hm
   refine g_sr (g_ls rfl rfl rfl (g_nt (g_seq ?_)))
   refine g_cond rfl (fun h16 => ?_) (fun h16 => ?_)
   ·replace hm := ifD h16 hm
    refine g_skip (g_n_then (g_seq (g_block ?_)))
    refine g_draw (some 10) (.free 0 (.hoist 1 (.free 2 (.free 3 (.free 4 (.one 5 (.free 6 (.one 7 (.one 8 (.free 9 (.last 10 .done))))))))))) (HV _ _ [(b_1, .cells #[slv l_3.q l_3.n l_3.cap, slv none 0 0] 28 (0, 0)), (b, .cells #[slv none 0 0, slv none 0 0] 28 (0, 0))] [] _) rfl (by decide +kernel) (fun w k hh => hh.draw k) (hsE [1, 2] [] 0 rfl rfl rfl rfl) ?_
    refine p_fa 0 Try.runUnderlying28 Try.sizeOf25 rfl rfl rfl rfl (p_lc 0 Try.isAgg25 rfl rfl rfl rfl rfl (p_mv rfl rfl rfl (p_mv rfl rfl rfl ?_)))
    obtain ⟨t35, h17, hm⟩ := bindO hm
    refine p_free rfl rfl rfl rfl (fun _ _ => v_subc h17 rfl rfl) (p_one rfl ?_)
    obtain ⟨t36, h18, hm⟩ := bindO hm
    refine g_callH [_] [] rfl rfl rfl rfl rfl rfl rfl Try.call33 (fun w hh => c_laurelkit_Heap_Upto_1 b00 s.b0_1 s.b0_2 t35 pb qa0 na0 ca0 w (HV.callee (S0 := [_]) (vs0 := []) hh (roR hh 0 rfl roN)) hna0 hqa0 hla0 h18) (fun l_4 h19 => ?_)
    refine g_se (S' := [_, _, _]) (vs' := [_]) [0, 1, 2] [0] 0 rfl rfl rfl rfl (p_next (hsE [1, 2] [] 0 rfl rfl rfl rfl) (p_free rfl rfl rfl rfl (fun _ _ => v_build (vs := [(0, _)]) (cells := [_, _, _, _, _, _, _]) rfl rfl) (p_one rfl ?_)))
    refine g_vlit RSt [(⟨t36.r0, (⟨0, 0⟩ : Span), (⟨0, 0⟩ : Span), (⟨0, 0⟩ : Span)⟩ : Strip)] (ps := [(0, _)]) (cells := [_, _, _, _, _, _, _]) (fun w => Try.runUnderlying25 w) (fun w => Try.sizeOf77 w) (fun w => Try.zeroValue77 w) rfl rfl rfl rfl rfl rfl rfl rfl (fun L h20 => ?_)
    refine p_next (hsE [1, 2] [] 0 rfl rfl rfl rfl) (p_one rfl ?_)
    obtain ⟨t39, h21, hm⟩ := bindO hm
    refine g_vapp RSt 1 h21 Try.underlying25 gxinf77 rfl rfl rfl rfl rfl h14 rfl rfl (vlen RSt h20 rfl) (AOK.q (vne h20)) (fun w hh => (hh.vsegA 0 rfl h20)) rfl (fun L_1 h22 h22n => ?_)
    refine g_se (S' := [_, _, _]) (vs' := [_, _]) [0, 1, 2] [0, 1] 0 rfl rfl rfl rfl (p_next (hsE [1, 2] [] 0 rfl rfl rfl rfl) (p_fa 0 Try.runUnderlying28 Try.sizeOf25 rfl rfl rfl rfl (p_last rfl (g_stS (cs' := #[_, _]) (S' := [_, _, _]) 1 (fun w => Try.sizeOf25 w) rfl rfl rfl rfl rfl rfl rfl (p_nextL (p_done (g_n_blk ?_)))))))
    refine g_n_then (g_region ?_)
    obtain ⟨t41, h23, hm⟩ := bindO hm
    refine g_ac h23 rfl rfl rfl (g_mv rfl rfl (g_nil ?_))
    obtain rfl := sj hm
    refine g_n_then ?_
    exact g_again' _ L_1 rfl (h22) (sE rfl) (hsE [0, 1, 2] [1] 0 rfl rfl rfl rfl)
   ·replace hm := ifE h16 hm
    refine g_exit (g_x_then (g_x_then (g_x_blk ?_)))
    obtain rfl := sj hm
    have hbo := h15 _ rfl
    subst hbo
    exact g_leaf l_3 (h14) (sE rfl) (fun w hh => hh)
  ·intro l_2 hj
   have h13 := hj
   replace hm := h12
   refine g_n_then (g_sr (g_mv rfl rfl ?_))
   obtain ⟨t43, h24, hm⟩ := bindO hm
   refine g_vmake RwH vl0 (makecL vl0 h24) Try.underlying29 gxinf32 rfl rfl rfl rfl rfl (fun L_2 h25 => ?_)
   refine g_drep (E2 := 3) RI (Int.toNat t27.r0) (makecO h24).1.symm (fun h26 => ?_)
   refine g_as rfl rfl (g_nt (g_seq (g_sr (g_mv rfl rfl (g_val rfl rfl rfl (fun w _ => v_lenN (Eq.trans (h26).len (vlen RwH h25 rfl)) (Try.runUnderlying29 w) rfl) (g_mv rfl rfl (g_nt ?_)))))))
   refine g_vnil 37 ?_
   obtain ⟨o_1, h27, h28⟩ := bindO hm
   refine g_cut (ι := DL × VL) (fun l_5 => VOK 1 l_5.1.v.n l_5.1.v.cap (RwH.enc l_5.1.rs) l_5.1.v.sp l_5.1.v.q ∧ DOK RI o_1.real11 l_5.1.rs ∧ VOK 2 l_5.2.n l_5.2.cap (RSp.enc o_1.s8_carried) l_5.2.sp l_5.2.q) (fun l_5 => [(0, ptr pb 0), (6, ptr b 0), (8, ptr b_1 0), (9, .int .i64 t24.r0), (11, slv l_5.1.v.q l_5.1.v.n l_5.1.v.cap)]) (fun l_5 => [(pb, .cells #[.slice qa0 na0 ca0, .int .i64 o_1.b0_1, .int .u32 o_1.b0_2] 105 (0, 0)), (b_1, .cells #[slv l_2.q l_2.n l_2.cap, slv l_5.2.q l_5.2.n l_5.2.cap] 28 (0, 0)), (b, .cells #[slv none 0 0, slv none 0 0] 28 (0, 0))]) (fun l_5 => [⟨32, RwH.enc l_5.1.rs, l_5.1.v.sp, l_5.1.v.q, dbl 3 RI o_1.real11 l_5.1.rs⟩, ⟨77, RSt.enc o.s8_strips, l_2.sp, l_2.q, []⟩, ⟨37, RSp.enc o_1.s8_carried, l_5.2.sp, l_5.2.q, []⟩]) ?_ ?_
   ·replace hm := h27
    refine g_block ?_
    refine g_loopF (ι := DL × VL) hm (fun s_1 l_6 => VOK 1 l_6.1.v.n l_6.1.v.cap (RwH.enc l_6.1.rs) l_6.1.v.sp l_6.1.v.q ∧ DOK RI s_1.real11 l_6.1.rs ∧ VOK 2 l_6.2.n l_6.2.cap (RSp.enc s_1.s8_carried) l_6.2.sp l_6.2.q) (fun s_1 l_6 => [(0, ptr pb 0), (6, ptr b 0), (8, ptr b_1 0), (9, .int .i64 t24.r0), (11, slv l_6.1.v.q l_6.1.v.n l_6.1.v.cap), (45, .int .i64 (t43.length : Int)), (46, .int .i64 s_1.t46)]) (fun s_1 l_6 => [(pb, .cells #[.slice qa0 na0 ca0, .int .i64 s_1.b0_1, .int .u32 s_1.b0_2] 105 (0, 0)), (b_1, .cells #[slv l_2.q l_2.n l_2.cap, slv l_6.2.q l_6.2.n l_6.2.cap] 28 (0, 0)), (b, .cells #[slv none 0 0, slv none 0 0] 28 (0, 0))]) (fun s_1 l_6 => [⟨32, RwH.enc l_6.1.rs, l_6.1.v.sp, l_6.1.v.q, dbl 3 RI s_1.real11 l_6.1.rs⟩, ⟨77, RSt.enc o.s8_strips, l_2.sp, l_2.q, []⟩, ⟨37, RSp.enc s_1.s8_carried, l_6.2.sp, l_6.2.q, []⟩]) (⟨⟨L_2.q, L_2.n, L_2.cap, L_2.sp⟩, (List.replicate (Int.toNat t27.r0) vl0)⟩, ⟨none, 0, 0, []⟩) (⟨h25, h26, VOK.nil⟩) (sE rfl) (hsE [0, 1, 2] [1, 2, 0] 0 rfl rfl rfl rfl) (fun s_1 l_6 r_1 hpl hm h35 => ?_)
    obtain ⟨h32, h33, h34⟩ := hpl
    unfold m_laurellaw09_Made_1_L1 at hm
    refine g_sr (g_ls rfl rfl rfl (g_nt (g_seq ?_)))
    refine g_cond rfl (fun h36 => ?_) (fun h36 => ?_)
    ·replace hm := ifD h36 hm
     refine g_skip (g_n_then (g_seq (g_block (g_sr (g_mv rfl rfl (g_as rfl rfl (g_nx ?_)))))))
     refine g_as rfl rfl (g_nt (g_seq (g_sr (g_mv rfl rfl (g_mv rfl rfl (g_nt ?_))))))
     obtain ⟨o_2, h37, h38⟩ := bindO hm
     refine g_cut (ι := DL) (fun l_7 => VOK 1 l_7.v.n l_7.v.cap (RwH.enc l_7.rs) l_7.v.sp l_7.v.q ∧ DOK RI o_2.real11 l_7.rs) (fun l_7 => [(0, ptr pb 0), (6, ptr b 0), (8, ptr b_1 0), (9, .int .i64 t24.r0), (11, slv l_7.v.q l_7.v.n l_7.v.cap), (13, .int .i64 o_2.sum13), (45, .int .i64 (t43.length : Int)), (46, .int .i64 s_1.t46)]) (fun l_7 => [(pb, .cells #[.slice qa0 na0 ca0, .int .i64 o_2.b0_1, .int .u32 o_2.b0_2] 105 (0, 0)), (b_1, .cells #[slv l_2.q l_2.n l_2.cap, slv l_6.2.q l_6.2.n l_6.2.cap] 28 (0, 0)), (b, .cells #[slv none 0 0, slv none 0 0] 28 (0, 0))]) (fun l_7 => [⟨32, RwH.enc l_7.rs, l_7.v.sp, l_7.v.q, dbl 3 RI o_2.real11 l_7.rs⟩, ⟨77, RSt.enc o.s8_strips, l_2.sp, l_2.q, []⟩, ⟨37, RSp.enc s_1.s8_carried, l_6.2.sp, l_6.2.q, []⟩]) ?_ ?_
     ·replace hm := h37
      refine g_block ?_
      refine g_loopF (ι := DL) hm (fun s_2 l_8 => VOK 1 l_8.v.n l_8.v.cap (RwH.enc l_8.rs) l_8.v.sp l_8.v.q ∧ DOK RI s_2.real11 l_8.rs) (fun s_2 l_8 => [(0, ptr pb 0), (6, ptr b 0), (8, ptr b_1 0), (9, .int .i64 t24.r0), (11, slv l_8.v.q l_8.v.n l_8.v.cap), (12, .int .i64 s_1.t46), (13, .int .i64 s_2.sum13), (45, .int .i64 (t43.length : Int)), (46, .int .i64 s_1.t46), (49, .int .i64 t24.r0), (50, .int .i64 s_2.t50)]) (fun s_2 l_8 => [(pb, .cells #[.slice qa0 na0 ca0, .int .i64 s_2.b0_1, .int .u32 s_2.b0_2] 105 (0, 0)), (b_1, .cells #[slv l_2.q l_2.n l_2.cap, slv l_6.2.q l_6.2.n l_6.2.cap] 28 (0, 0)), (b, .cells #[slv none 0 0, slv none 0 0] 28 (0, 0))]) (fun s_2 l_8 => [⟨32, RwH.enc l_8.rs, l_8.v.sp, l_8.v.q, dbl 3 RI s_2.real11 l_8.rs⟩, ⟨77, RSt.enc o.s8_strips, l_2.sp, l_2.q, []⟩, ⟨37, RSp.enc s_1.s8_carried, l_6.2.sp, l_6.2.q, []⟩]) l_6.1 (⟨h32, h33⟩) (sE rfl) (fun w hh => hh) (fun s_2 l_8 r_2 hpl hm h43 => ?_)
      obtain ⟨h41, h42⟩ := hpl
      unfold m_laurellaw09_Made_1_L2 at hm
      refine g_sr (g_ls rfl rfl rfl (g_nt (g_seq ?_)))
      refine g_cond rfl (fun h44 => ?_) (fun h44 => ?_)
      ·replace hm := ifD h44 hm
       refine g_skip (g_n_then (g_seq (g_block (g_sr (g_mv rfl rfl (g_as rfl rfl (g_nx ?_)))))))
       refine g_as rfl rfl (g_nt (g_seq ?_))
       obtain ⟨o_3, h45, h46⟩ := bindO hm
       refine g_cut (ι := Unit) (fun l_9 => True) (fun l_9 => [(0, ptr pb 0), (6, ptr b 0), (8, ptr b_1 0), (9, .int .i64 t24.r0), (11, slv l_8.v.q l_8.v.n l_8.v.cap), (12, .int .i64 s_1.t46), (13, .int .i64 s_2.sum13), (15, .int .i64 o_3.n15), (45, .int .i64 (t43.length : Int)), (46, .int .i64 s_1.t46), (49, .int .i64 t24.r0), (50, .int .i64 s_2.t50)]) (fun l_9 => [(pb, .cells #[.slice qa0 na0 ca0, .int .i64 o_3.b0_1, .int .u32 o_3.b0_2] 105 (0, 0)), (b_1, .cells #[slv l_2.q l_2.n l_2.cap, slv l_6.2.q l_6.2.n l_6.2.cap] 28 (0, 0)), (b, .cells #[slv none 0 0, slv none 0 0] 28 (0, 0))]) (fun l_9 => [⟨32, RwH.enc l_8.rs, l_8.v.sp, l_8.v.q, dbl 3 RI s_2.real11 l_8.rs⟩, ⟨77, RSt.enc o.s8_strips, l_2.sp, l_2.q, []⟩, ⟨37, RSp.enc s_1.s8_carried, l_6.2.sp, l_6.2.q, []⟩]) ?_ ?_
       ·replace hm := h45
        refine g_seq ?_
        obtain ⟨o_4, h47, h48⟩ := bindO hm
        refine g_cut (ι := Unit) (fun l_10 => True) (fun l_10 => [(0, ptr pb 0), (6, ptr b 0), (8, ptr b_1 0), (9, .int .i64 t24.r0), (11, slv l_8.v.q l_8.v.n l_8.v.cap), (12, .int .i64 s_1.t46), (13, .int .i64 s_2.sum13), (15, .int .i64 0), (45, .int .i64 (t43.length : Int)), (46, .int .i64 s_1.t46), (49, .int .i64 t24.r0), (50, .int .i64 s_2.t50), (70, .bool o_4.t70)]) (fun l_10 => [(pb, .cells #[.slice qa0 na0 ca0, .int .i64 o_4.b0_1, .int .u32 o_4.b0_2] 105 (0, 0)), (b_1, .cells #[slv l_2.q l_2.n l_2.cap, slv l_6.2.q l_6.2.n l_6.2.cap] 28 (0, 0)), (b, .cells #[slv none 0 0, slv none 0 0] 28 (0, 0))]) (fun l_10 => [⟨32, RwH.enc l_8.rs, l_8.v.sp, l_8.v.q, dbl 3 RI s_2.real11 l_8.rs⟩, ⟨77, RSt.enc o.s8_strips, l_2.sp, l_2.q, []⟩, ⟨37, RSp.enc s_1.s8_carried, l_6.2.sp, l_6.2.q, []⟩]) ?_ ?_
        ·replace hm := h47
         refine g_region (g_la [_, _] 1 Try.isAgg28 Try.sizeOf28 rfl rfl rfl rfl (g_mv rfl rfl (g_mv rfl rfl ?_)))
         obtain ⟨t56, h49, hm⟩ := bindO hm
         refine g_callH [] [] rfl rfl rfl rfl rfl rfl rfl Try.call43 (fun w hh => c_laurellaw09_reaches (⟨o.s8_strips, s_1.s8_carried⟩ : Scalps) s_1.t46 s_2.t50 (qA l_2.q) l_2.n l_2.cap (qA l_6.2.q) l_6.2.n l_6.2.cap w (HV.callee (S0 := []) (vs0 := []) hh (roC (hh.vsepA 1 rfl h13) (roC (hh.vsepA 2 rfl h34) roN))) (vlen RSt h13 rfl) (AOK.q (vne h13)) (h13).hle (vlen RSp h34 rfl) (AOK.q (vne h34)) (h34).hle h49) (fun l_11 h50 => ?_)
         refine g_mv rfl rfl ?_
         refine g_case 57 rfl (fun h51 => ?_) (fun h51 => ?_)
         ·replace hm := ifT (h51) hm
          refine v_unguard rfl rfl (g_fa 0 Try.runUnderlying28 rfl Try.sizeOf25 rfl rfl (v_unguard rfl rfl (g_lc 1 Try.isAgg25 rfl rfl rfl rfl (v_unguard rfl rfl (g_mv rfl rfl (v_unguard rfl rfl ?_))))))
          obtain ⟨t61, h52, hm⟩ := bindO hm
          refine g_val rfl rfl rfl (fun w _ => v_ixA h52 (Try.runUnderlying25 w) (Try.sizeOf77 w) rfl rfl (vlen RSt h13 rfl) (vne h13)) (v_unguard rfl rfl (g_fa 0 Try.runUnderlying77 rfl Try.sizeOf3 rfl rfl (v_unguard rfl rfl (g_val rfl rfl rfl (fun w hh => v_ldE RSt 0 h52 (Try.isAgg3 w) rfl (hh.vseg 1 rfl h13) rfl rfl) (v_unguard rfl rfl (g_mv rfl rfl (v_unguard rfl rfl ?_)))))))
          refine g_val rfl rfl rfl (fun _ _ => v_eql rfl rfl) (v_unguard rfl rfl (g_mv rfl rfl ?_))
          refine g_case 66 rfl (fun h53 => ?_) (fun h53 => ?_)
          ·replace hm := ifD h53 hm
           refine g_k rfl rfl rfl rfl (g_k rfl rfl rfl rfl (v_unguard rfl rfl (g_pt rfl rfl rfl (g_pt rfl rfl rfl (g_nil ?_)))))
           obtain rfl := sj hm
           exact g_leaf () (trivial) (sE rfl) (fun w hh => hh)
          ·replace hm := ifE h53 hm
           refine v_unguard rfl rfl (g_mv rfl rfl (v_unguard rfl rfl ?_))
           obtain ⟨t68, h54, hm⟩ := bindO hm
           refine g_callH [_] [] rfl rfl rfl rfl rfl rfl rfl Try.call34 (fun w hh => c_laurelkit_Heap_Once_1 b00 s_2.b0_1 s_2.b0_2 4 pb qa0 na0 ca0 w (HV.callee (S0 := [_]) (vs0 := []) hh (roR hh 0 rfl roN)) hna0 hqa0 hla0 h54) (fun l_12 h55 => ?_)
           refine g_se (S' := [_, _, _]) (vs' := [_, _, _]) [0, 1, 2] [0, 1, 2] 0 rfl rfl rfl rfl (v_unguard rfl rfl (g_pf rfl rfl rfl (g_pt rfl rfl rfl (g_nil ?_))))
           obtain rfl := sj hm
           exact g_leaf () (trivial) (sE rfl) (fun w hh => hh)
         ·replace hm := ifN h51 hm
          refine g_k rfl rfl rfl rfl (g_k rfl rfl rfl rfl (g_k rfl rfl rfl rfl (g_k rfl rfl rfl rfl (g_k rfl rfl rfl rfl (g_k rfl rfl rfl rfl (g_k rfl rfl rfl rfl (g_k rfl rfl rfl rfl ?_)))))))
          refine g_k rfl rfl rfl rfl ?_
          refine g_skipU' rfl rfl rfl rfl rfl ?_
          refine g_skipU' rfl rfl rfl rfl rfl ?_
          refine g_k rfl rfl rfl rfl (g_pf rfl rfl rfl (g_nil ?_))
          obtain rfl := sj hm
          exact g_leaf () (trivial) (sE rfl) (fun w hh => hh)
        ·intro l_10 hj
         replace hm := h48
         refine g_n_then ?_
         refine g_cond rfl (fun h56 => ?_) (fun h56 => ?_)
         ·replace hm := ifT (h56) hm
          refine g_region (g_mv rfl rfl ?_)
          obtain ⟨t72, h57, hm⟩ := bindO hm
          refine g_callH [_] [] rfl rfl rfl rfl rfl rfl rfl Try.call33 (fun w hh => c_laurelkit_Heap_Upto_1 b00 o_4.b0_1 o_4.b0_2 4 pb qa0 na0 ca0 w (HV.callee (S0 := [_]) (vs0 := []) hh (roR hh 0 rfl roN)) hna0 hqa0 hla0 h57) (fun l_13 h58 => ?_)
          refine g_se (S' := [_, _, _]) (vs' := [_, _, _]) [0, 1, 2] [0, 1, 2] 0 rfl rfl rfl rfl (g_as rfl rfl (g_nil ?_))
          obtain rfl := sj hm
          exact g_leaf () (trivial) (sE rfl) (fun w hh => hh)
         ·replace hm := ifN h56 hm
          refine g_skip ?_
          obtain rfl := sj hm
          exact g_leaf () (trivial) (sE rfl) (fun w hh => hh)
       ·intro l_9 hj
        replace hm := h46
        refine g_n_then (g_region (g_mv rfl rfl (g_mv rfl rfl (g_mv rfl rfl (g_mv rfl rfl ?_)))))
        obtain ⟨t77, h59, hm⟩ := bindO hm
        obtain ⟨L_3, h60, h61⟩ := (h42).row h59
        refine g_val rfl rfl rfl (fun w _ => v_ixA h60 (Try.runUnderlying29 w) (Try.sizeOf32 w) rfl rfl (vlen RwH h41 rfl) (vne h41)) (g_val rfl rfl rfl (fun w hh => v_ldE RwH 0 h60 (Try.isAgg32 w) rfl (hh.vseg 0 rfl h41) rfl (Nat.add_zero _).symm) (g_mv rfl rfl ?_))
        refine g_vlit RI [o_3.n15] (ps := [(0, _)]) (cells := [_]) (fun w => Try.runUnderlying32 w) (fun w => Try.sizeOf3 w) (fun w => Try.zeroValue3 w) rfl rfl rfl rfl rfl rfl rfl rfl (fun L_4 h62 => ?_)
        refine g_se (S' := [_, _, _]) (vs' := [_, _, _, _]) [0, 1, 2] [1, 0, 2, 3] 0 rfl rfl rfl rfl ?_
        refine g_dtake RI s_1.t46 h42 h59 h60 (fun _ => ?_)
        obtain ⟨t81, h63, hm⟩ := bindO hm
        refine g_vapp RI 1 h63 Try.underlying32 gxinf3 rfl rfl rfl rfl rfl h61 rfl rfl (vlen RI h62 rfl) (AOK.q (vne h62)) (fun w hh => (hh.vsegA 2 rfl h62)) rfl (fun L_5 h64 h64n => ?_)
        refine g_se (S' := [_, _, _]) (vs' := [_, _, _, _, _]) [0, 1, 2] [0, 1, 2, 3, 4] 0 rfl rfl rfl rfl (g_mv rfl rfl (g_mv rfl rfl ?_))
        obtain ⟨t84, h65, hm⟩ := bindO hm
        refine g_ac h65 rfl rfl rfl ?_
        obtain ⟨t85, h66, hm⟩ := bindO hm
        obtain ⟨L_6, h67, h68⟩ := (h42).row h66
        refine g_val rfl rfl rfl (fun w _ => v_ixA h67 (Try.runUnderlying29 w) (Try.sizeOf32 w) rfl rfl (vlen RwH h41 rfl) (vne h41)) ?_
        obtain ⟨real11, hreal11, hm⟩ := bindO hm
        refine g_vst RwH 0 0 (⟨L_5.q, L_5.n, L_5.cap, L_5.sp⟩ : VL) (fun w => Try.sizeOf32 w) rfl rfl rfl rfl h41 rfl (Nat.add_zero _).symm rfl h60 rfl rfl rfl (fun h69 => ?_)
        refine g_se (S' := [_, _, _]) (vs' := [_, _, _, _, _]) [0, 1, 2] [0, 1, 2, 3, 4] 0 rfl rfl rfl rfl (g_se (S' := [_, _, _]) (vs' := [_, _, _, _, _]) [0, 1, 2] [0, 1, 2, 3, 4] 0 rfl rfl rfl rfl ?_)
        refine g_dback' RI s_1.t46 L_5.n L_5.cap h42 h59 h60 h64 (Option.some.inj hreal11) (fun h70 => ?_)
        refine g_as rfl rfl (g_nil (g_n_blk (g_n_then (g_region ?_))))
        obtain ⟨t86, h71, hm⟩ := bindO hm
        refine g_ac h71 rfl rfl rfl (g_mv rfl rfl (g_nil ?_))
        obtain rfl := sj hm
        refine g_n_then ?_
        exact g_again' _ (⟨⟨l_8.v.q, l_8.v.n, l_8.v.cap, l_8.v.sp⟩, (l_8.rs.set (Int.toNat s_1.t46) (⟨L_5.q, L_5.n, L_5.cap, L_5.sp⟩ : VL))⟩) rfl (⟨h69, h70⟩) (sE rfl) (hsE [0, 1, 2] [0, 2, 3] 0 rfl rfl rfl rfl)
      ·replace hm := ifE h44 hm
       refine g_exit (g_x_then (g_x_then (g_x_blk ?_)))
       obtain rfl := sj hm
       have hbo := h43 _ rfl
       subst hbo
       exact g_leaf l_8 (⟨h41, h42⟩) (sE rfl) (fun w hh => hh)
     ·intro l_7 hj
      obtain ⟨h39, h40⟩ := hj
      replace hm := h38
      refine g_n_then ?_
      refine g_draw (some 8) (.free 0 (.hoist 1 (.free 2 (.free 3 (.one 4 (.one 5 (.one 6 (.free 7 (.last 8 .done))))))))) (HV _ _ [(b_1, .cells #[slv l_2.q l_2.n l_2.cap, slv l_6.2.q l_6.2.n l_6.2.cap] 28 (0, 0)), (b, .cells #[slv none 0 0, slv none 0 0] 28 (0, 0))] [⟨32, RwH.enc l_7.rs, l_7.v.sp, l_7.v.q, dbl 3 RI o_2.real11 l_7.rs⟩, ⟨77, RSt.enc o.s8_strips, l_2.sp, l_2.q, []⟩] _) rfl (by decide +kernel) (fun w k hh => hh.draw k) (hsE [1, 2] [0, 1] 0 rfl rfl rfl rfl) ?_
      refine p_fa 1 Try.runUnderlying28 Try.sizeOf26 rfl rfl rfl rfl (p_lc 0 Try.isAgg26 rfl rfl rfl rfl rfl (p_mv rfl rfl rfl (p_mv rfl rfl rfl (p_one rfl ?_))))
      obtain ⟨t91, h72, hm⟩ := bindO hm
      refine g_callH [_] [] rfl rfl rfl rfl rfl rfl rfl Try.call35 (fun w hh => c_laurellaw09_around_1 b00 o_2.b0_1 o_2.b0_2 o_2.sum13 2 pb qa0 na0 ca0 w (HV.callee (S0 := [_]) (vs0 := []) hh (roR hh 0 rfl roN)) hna0 hqa0 hla0 h72) (fun l_14 h73 => ?_)
      refine g_se (S' := [_, _, _]) (vs' := [_, _, _]) [0, 1, 2] [0, 1, 2] 0 rfl rfl rfl rfl (p_next (hsE [1, 2] [0, 1] 0 rfl rfl rfl rfl) (p_one rfl ?_))
      refine g_vlit RSp [t91.r0] (ps := [(0, _)]) (cells := [_, _]) (fun w => Try.runUnderlying26 w) (fun w => Try.sizeOf37 w) (fun w => Try.zeroValue37 w) rfl rfl rfl rfl rfl rfl rfl rfl (fun L_7 h74 => ?_)
      refine p_next (hsE [1, 2] [1, 2] 0 rfl rfl rfl rfl) (p_one rfl ?_)
      obtain ⟨t93, h75, hm⟩ := bindO hm
      refine g_vapp RSp 3 h75 Try.underlying26 gxinf37 rfl rfl rfl rfl rfl h34 rfl rfl (vlen RSp h74 rfl) (AOK.q (vne h74)) (fun w hh => (hh.vsegA 0 rfl h74)) rfl (fun L_8 h76 h76n => ?_)
      refine g_se (S' := [_, _, _]) (vs' := [_, _, _, _]) [0, 1, 2] [0, 1, 2, 3] 0 rfl rfl rfl rfl (p_next (hsE [1, 2] [1, 2] 0 rfl rfl rfl rfl) (p_fa 1 Try.runUnderlying28 Try.sizeOf26 rfl rfl rfl rfl (p_last rfl (g_stS (cs' := #[_, _]) (S' := [_, _, _]) 1 (fun w => Try.sizeOf26 w) rfl rfl rfl rfl rfl rfl rfl (p_nextL (p_done (g_n_blk ?_)))))))
      refine g_n_then (g_region ?_)
      obtain ⟨t95, h77, hm⟩ := bindO hm
      refine g_ac h77 rfl rfl rfl (g_mv rfl rfl (g_nil ?_))
      obtain rfl := sj hm
      refine g_n_then ?_
      exact g_again' _ (l_7, L_8) rfl (⟨h39, h40, h76⟩) (sE rfl) (hsE [0, 1, 2] [1, 2, 3] 0 rfl rfl rfl rfl)
    ·replace hm := ifE h36 hm
     refine g_exit (g_x_then (g_x_then (g_x_blk ?_)))
     obtain rfl := sj hm
     have hbo := h35 _ rfl
     subst hbo
     exact g_leaf (l_6.1, l_6.2) (⟨h32, h33, h34⟩) (sE rfl) (fun w hh => hh)
   ·intro l_5 hj
    obtain ⟨h29, h30, h31⟩ := hj
    replace hm := h28
    refine g_n_then (g_seq (g_sr (g_mv rfl rfl (g_mv rfl rfl (g_nt ?_)))))
    obtain ⟨o_5, h78, h79⟩ := bindO hm
    refine g_cut (ι := Unit) (fun l_15 => VOK 7 l_2.n l_2.cap (RSt.enc o_5.s8_strips) l_2.sp l_2.q) (fun l_15 => [(6, ptr b 0), (8, ptr b_1 0), (11, slv l_5.1.v.q l_5.1.v.n l_5.1.v.cap)]) (fun l_15 => [(pb, .cells #[.slice qa0 na0 ca0, .int .i64 o_5.b0_1, .int .u32 o_5.b0_2] 105 (0, 0)), (b_1, .cells #[slv l_2.q l_2.n l_2.cap, slv l_5.2.q l_5.2.n l_5.2.cap] 28 (0, 0)), (b, .cells #[slv none 0 0, slv none 0 0] 28 (0, 0))]) (fun l_15 => [⟨32, RwH.enc l_5.1.rs, l_5.1.v.sp, l_5.1.v.q, dbl 3 RI o_1.real11 l_5.1.rs⟩, ⟨77, RSt.enc o_5.s8_strips, l_2.sp, l_2.q, []⟩, ⟨37, RSp.enc o_1.s8_carried, l_5.2.sp, l_5.2.q, []⟩]) ?_ ?_
    ·replace hm := h78
     refine g_block ?_
     refine g_loopF (ι := Unit) hm (fun s_3 l_16 => VOK 7 l_2.n l_2.cap (RSt.enc s_3.s8_strips) l_2.sp l_2.q) (fun s_3 l_16 => [(0, ptr pb 0), (6, ptr b 0), (8, ptr b_1 0), (11, slv l_5.1.v.q l_5.1.v.n l_5.1.v.cap), (96, .int .i64 t24.r0), (97, .int .i64 s_3.t97)]) (fun s_3 l_16 => [(pb, .cells #[.slice qa0 na0 ca0, .int .i64 s_3.b0_1, .int .u32 s_3.b0_2] 105 (0, 0)), (b_1, .cells #[slv l_2.q l_2.n l_2.cap, slv l_5.2.q l_5.2.n l_5.2.cap] 28 (0, 0)), (b, .cells #[slv none 0 0, slv none 0 0] 28 (0, 0))]) (fun s_3 l_16 => [⟨32, RwH.enc l_5.1.rs, l_5.1.v.sp, l_5.1.v.q, dbl 3 RI o_1.real11 l_5.1.rs⟩, ⟨77, RSt.enc s_3.s8_strips, l_2.sp, l_2.q, []⟩, ⟨37, RSp.enc o_1.s8_carried, l_5.2.sp, l_5.2.q, []⟩]) () (h13) (sE rfl) (fun w hh => hh) (fun s_3 l_16 r_3 hpl hm h82 => ?_)
     have h81 := hpl
     unfold m_laurellaw09_Made_1_L3 at hm
     refine g_sr (g_ls rfl rfl rfl (g_nt (g_seq ?_)))
     refine g_cond rfl (fun h83 => ?_) (fun h83 => ?_)
     ·replace hm := ifD h83 hm
      refine g_skip (g_n_then (g_seq (g_block (g_sr (g_mv rfl rfl (g_as rfl rfl (g_nx ?_)))))))
      refine g_as rfl rfl (g_nt (g_seq (g_sr (g_mv rfl rfl (g_val rfl rfl rfl (fun w _ => v_lenN (Eq.trans (h30).len (vlen RwH h29 rfl)) (Try.runUnderlying29 w) rfl) (g_mv rfl rfl (g_nt ?_)))))))
      obtain ⟨o_6, h84, h85⟩ := bindO hm
      refine g_cut (ι := Unit) (fun l_17 => True) (fun l_17 => [(0, ptr pb 0), (6, ptr b 0), (8, ptr b_1 0), (11, slv l_5.1.v.q l_5.1.v.n l_5.1.v.cap), (16, .int .i64 s_3.t97), (17, .int .i64 o_6), (96, .int .i64 t24.r0), (97, .int .i64 s_3.t97)]) (fun l_17 => [(pb, .cells #[.slice qa0 na0 ca0, .int .i64 s_3.b0_1, .int .u32 s_3.b0_2] 105 (0, 0)), (b_1, .cells #[slv l_2.q l_2.n l_2.cap, slv l_5.2.q l_5.2.n l_5.2.cap] 28 (0, 0)), (b, .cells #[slv none 0 0, slv none 0 0] 28 (0, 0))]) (fun l_17 => [⟨32, RwH.enc l_5.1.rs, l_5.1.v.sp, l_5.1.v.q, dbl 3 RI o_1.real11 l_5.1.rs⟩, ⟨77, RSt.enc s_3.s8_strips, l_2.sp, l_2.q, []⟩, ⟨37, RSp.enc o_1.s8_carried, l_5.2.sp, l_5.2.q, []⟩]) ?_ ?_
      ·replace hm := h84
       refine g_block ?_
       refine g_loopF (ι := Unit) hm (fun s_4 l_18 => True) (fun s_4 l_18 => [(0, ptr pb 0), (6, ptr b 0), (8, ptr b_1 0), (11, slv l_5.1.v.q l_5.1.v.n l_5.1.v.cap), (16, .int .i64 s_3.t97), (17, .int .i64 s_4.gone17), (96, .int .i64 t24.r0), (97, .int .i64 s_3.t97), (101, .int .i64 (o_1.real11.length : Int)), (102, .int .i64 s_4.t102)]) (fun s_4 l_18 => [(pb, .cells #[.slice qa0 na0 ca0, .int .i64 s_3.b0_1, .int .u32 s_3.b0_2] 105 (0, 0)), (b_1, .cells #[slv l_2.q l_2.n l_2.cap, slv l_5.2.q l_5.2.n l_5.2.cap] 28 (0, 0)), (b, .cells #[slv none 0 0, slv none 0 0] 28 (0, 0))]) (fun s_4 l_18 => [⟨32, RwH.enc l_5.1.rs, l_5.1.v.sp, l_5.1.v.q, dbl 3 RI o_1.real11 l_5.1.rs⟩, ⟨77, RSt.enc s_3.s8_strips, l_2.sp, l_2.q, []⟩, ⟨37, RSp.enc o_1.s8_carried, l_5.2.sp, l_5.2.q, []⟩]) () (trivial) (sE rfl) (fun w hh => hh) (fun s_4 l_18 r_4 hpl hm h86 => ?_)
       unfold m_laurellaw09_Made_1_L4 at hm
       refine g_sr (g_ls rfl rfl rfl (g_nt (g_seq ?_)))
       refine g_cond rfl (fun h87 => ?_) (fun h87 => ?_)
       ·replace hm := ifD h87 hm
        refine g_skip (g_n_then (g_seq (g_block (g_sr (g_mv rfl rfl (g_as rfl rfl (g_nt ?_)))))))
        refine g_region (g_mv rfl rfl (g_mv rfl rfl (g_mv rfl rfl ?_)))
        obtain ⟨t108, h88, hm⟩ := bindO hm
        obtain ⟨L_9, h89, h90⟩ := (h30).row h88
        refine g_val rfl rfl rfl (fun w _ => v_ixA h89 (Try.runUnderlying29 w) (Try.sizeOf32 w) rfl rfl (vlen RwH h29 rfl) (vne h29)) (g_val rfl rfl rfl (fun w hh => v_ldE RwH 0 h89 (Try.isAgg32 w) rfl (hh.vseg 0 rfl h29) rfl (Nat.add_zero _).symm) (g_mv rfl rfl ?_))
        obtain ⟨t111, h91, hm⟩ := bindO hm
        refine g_val rfl rfl rfl (fun w _ => v_ixA h91 (Try.runUnderlying32 w) (Try.sizeOf3 w) rfl rfl (vlen RI h90 rfl) (vne h90)) (g_val rfl rfl rfl (fun w hh => v_ldE RI 0 h91 (Try.isAgg3 w) rfl (hh.dseg 0 rfl h88 h89 h90) rfl (Nat.add_zero _).symm) ?_)
        obtain ⟨t113, h92, hm⟩ := bindO hm
        refine g_ac h92 rfl rfl rfl (g_as rfl rfl (g_nil (g_n_blk (g_n_then (g_region ?_)))))
        obtain ⟨t114, h93, hm⟩ := bindO hm
        refine g_ac h93 rfl rfl rfl (g_mv rfl rfl (g_nil ?_))
        obtain rfl := sj hm
        refine g_n_then ?_
        exact g_again' _ () rfl (trivial) (sE rfl) (fun w hh => hh)
       ·replace hm := ifE h87 hm
        refine g_exit (g_x_then (g_x_then (g_x_blk ?_)))
        obtain rfl := sj hm
        have hbo := h86 _ rfl
        subst hbo
        exact g_leaf () (trivial) (sE rfl) (fun w hh => hh)
      ·intro l_17 hj
       replace hm := h85
       refine g_n_then (g_sr (g_mv rfl rfl ?_))
       obtain ⟨t116, h94, hm⟩ := bindO hm
       refine g_callH [_] [] rfl rfl rfl rfl rfl rfl rfl Try.call33 (fun w hh => c_laurelkit_Heap_Upto_1 b00 s_3.b0_1 s_3.b0_2 3 pb qa0 na0 ca0 w (HV.callee (S0 := [_]) (vs0 := []) hh (roR hh 0 rfl roN)) hna0 hqa0 hla0 h94) (fun l_19 h95 => ?_)
       refine g_se (S' := [_, _, _]) (vs' := [_, _, _]) [0, 1, 2] [0, 1, 2] 0 rfl rfl rfl rfl (g_as rfl rfl (g_nx (g_mv rfl rfl ?_)))
       obtain ⟨t118, h96, hm⟩ := bindO hm
       refine g_callH [_] [] rfl rfl rfl rfl rfl rfl rfl Try.call33 (fun w hh => c_laurelkit_Heap_Upto_1 b00 t116.h0_1 t116.h0_2 2 pb qa0 na0 ca0 w (HV.callee (S0 := [_]) (vs0 := []) hh (roR hh 0 rfl roN)) hna0 hqa0 hla0 h96) (fun l_20 h97 => ?_)
       refine g_se (S' := [_, _, _]) (vs' := [_, _, _]) [0, 1, 2] [0, 1, 2] 0 rfl rfl rfl rfl (g_mv rfl rfl (g_mv rfl rfl ?_))
       obtain ⟨t121, h98, hm⟩ := bindO hm
       refine g_ac h98 rfl rfl rfl (g_val rfl rfl rfl (fun _ _ => v_min rfl rfl) (g_as rfl rfl (g_nx (g_fa 0 Try.runUnderlying28 rfl Try.sizeOf25 rfl rfl (g_lc 1 Try.isAgg25 rfl rfl rfl rfl (g_mv rfl rfl ?_))))))
       obtain ⟨t126, h99, hm⟩ := bindO hm
       refine g_val rfl rfl rfl (fun w _ => v_ixA h99 (Try.runUnderlying25 w) (Try.sizeOf77 w) rfl rfl (vlen RSt h81 rfl) (vne h81)) (g_as rfl rfl (g_nt (g_region (g_mv rfl rfl (g_mv rfl rfl (g_mv rfl rfl (g_mv rfl rfl ?_)))))))
       refine g_mv rfl rfl (g_mv rfl rfl ?_)
       obtain ⟨t133, h100, hm⟩ := bindO hm
       refine g_ac h100 rfl rfl rfl (g_mv rfl rfl ?_)
       obtain ⟨t135, h101, hm⟩ := bindO hm
       refine g_val rfl rfl rfl (fun _ _ => v_subc h101 rfl rfl) ?_
       obtain ⟨t136, h102, hm⟩ := bindO hm
       refine g_callH [_] [] rfl rfl rfl rfl rfl rfl rfl Try.call35 (fun w hh => c_laurellaw09_around_1 b00 t118.h0_1 t118.h0_2 t135 1 pb qa0 na0 ca0 w (HV.callee (S0 := [_]) (vs0 := []) hh (roR hh 0 rfl roN)) hna0 hqa0 hla0 h102) (fun l_21 h103 => ?_)
       refine g_se (S' := [_, _, _]) (vs' := [_, _, _]) [0, 1, 2] [0, 1, 2] 0 rfl rfl rfl rfl (g_mv rfl rfl (g_mv rfl rfl ?_))
       obtain ⟨t139, h104, hm⟩ := bindO hm
       refine g_callH [_] [] rfl rfl rfl rfl rfl rfl rfl Try.call35 (fun w hh => c_laurellaw09_around_1 b00 t136.b0_1 t136.b0_2 (min t118.r0 t121) 1 pb qa0 na0 ca0 w (HV.callee (S0 := [_]) (vs0 := []) hh (roR hh 0 rfl roN)) hna0 hqa0 hla0 h104) (fun l_22 h105 => ?_)
       refine g_se (S' := [_, _, _]) (vs' := [_, _, _]) [0, 1, 2] [0, 1, 2] 0 rfl rfl rfl rfl (g_mv rfl rfl (g_mv rfl rfl ?_))
       obtain ⟨t142, h106, hm⟩ := bindO hm
       refine g_callH [_] [] rfl rfl rfl rfl rfl rfl rfl Try.call35 (fun w hh => c_laurellaw09_around_1 b00 t139.b0_1 t139.b0_2 t116.r0 1 pb qa0 na0 ca0 w (HV.callee (S0 := [_]) (vs0 := []) hh (roR hh 0 rfl roN)) hna0 hqa0 hla0 h106) (fun l_23 h107 => ?_)
       refine g_se (S' := [_, _, _]) (vs' := [_, _, _]) [0, 1, 2] [0, 1, 2] 0 rfl rfl rfl rfl (g_val rfl rfl rfl (fun _ _ => v_nilCheck rfl) (g_fa 1 Try.runUnderlying77 rfl Try.sizeOf37 rfl rfl ?_))
       obtain ⟨s8_strips, hs8_strips, hm⟩ := bindO hm
       refine g_vstP (us := #[_, _]) RSt 1 1 (⟨t126.tenant, t136.r0, t126.seeded, t126.left⟩ : Strip) (fun w => Try.sizeOf37 w) rfl rfl rfl h81 rfl rfl rfl rfl rfl rfl h99 rfl (Option.some.inj hs8_strips) (fun h108 => ?_)
       refine g_se (S' := [_, _, _]) (vs' := [_, _, _]) [0, 1, 2] [0, 1, 2] 0 rfl rfl rfl rfl (g_val rfl rfl rfl (fun _ _ => v_nilCheck rfl) (g_fa 3 Try.runUnderlying77 rfl Try.sizeOf37 rfl rfl ?_))
       obtain ⟨x, h109, hm⟩ := bindO hm
       obtain ⟨s8_strips_1, hs8_strips_1, hm⟩ := bindO hm
       refine g_vstP (us := #[_, _]) RSt 1 3 (⟨x.tenant, x.lay, t139.r0, x.left⟩ : Strip) (fun w => Try.sizeOf37 w) rfl rfl rfl h108 rfl rfl rfl rfl rfl rfl h109 rfl (Option.some.inj hs8_strips_1) (fun h110 => ?_)
       refine g_se (S' := [_, _, _]) (vs' := [_, _, _]) [0, 1, 2] [0, 1, 2] 0 rfl rfl rfl rfl (g_val rfl rfl rfl (fun _ _ => v_nilCheck rfl) (g_fa 5 Try.runUnderlying77 rfl Try.sizeOf37 rfl rfl ?_))
       obtain ⟨x_1, h111, hm⟩ := bindO hm
       obtain ⟨s8_strips_2, hs8_strips_2, hm⟩ := bindO hm
       refine g_vstP (us := #[_, _]) RSt 1 5 (⟨x_1.tenant, x_1.lay, x_1.seeded, t142.r0⟩ : Strip) (fun w => Try.sizeOf37 w) rfl rfl rfl h110 rfl rfl rfl rfl rfl rfl h111 rfl (Option.some.inj hs8_strips_2) (fun h112 => ?_)
       refine g_se (S' := [_, _, _]) (vs' := [_, _, _]) [0, 1, 2] [0, 1, 2] 0 rfl rfl rfl rfl (g_nil (g_n_blk (g_n_then (g_region ?_))))
       obtain ⟨t149, h113, hm⟩ := bindO hm
       refine g_ac h113 rfl rfl rfl (g_mv rfl rfl (g_nil ?_))
       obtain rfl := sj hm
       refine g_n_then ?_
       exact g_again' _ () rfl (h112) (sE rfl) (fun w hh => hh)
     ·replace hm := ifE h83 hm
      refine g_exit (g_x_then (g_x_then (g_x_blk ?_)))
      obtain rfl := sj hm
      have hbo := h82 _ rfl
      subst hbo
      exact g_leaf () (h81) (sE rfl) (fun w hh => hh)
    ·intro l_15 hj
     have h80 := hj
     replace hm := h79
     refine g_n_then (g_sr (g_la [_, _] 1 Try.isAgg28 Try.sizeOf28 rfl rfl rfl rfl (g_mv rfl rfl (g_stSA (us := #[_, _]) (cs' := [_, _]) (S' := [_, _, _]) 2 (fun w => Try.sizeOf28 w) rfl rfl rfl rfl rfl rfl rfl (g_as rfl rfl (g_nt (g_ret ?_)))))))
     obtain rfl := sj hm
     refine g_done rfl (fun w hh => (.cell rfl (loadVar_agg (vs := [_, _]) (Try.isAgg28 _) (Try.sizeOf28 _) (hh.cells 2 rfl rfl)) (.tmp rfl .nil))) (fun w hh => ⟨(l_2, l_5.2, l_5.1), rfl, ⟨h80, h31, h29, h30⟩, hh.se [0] [1, 2, 0] 1 rfl rfl rfl rfl⟩)
end Go.Proofs.Ws

namespace Go.Proofs.Ws
set_option maxHeartbeats 4000000
set_option maxRecDepth 100000
open Go Go.Fw Go.Gx Go.Sp
set_option linter.unusedVariables false
def m_laurellaw09_gone (x0 : Strip) : Option Span :=
 (addc x0.lay.lo x0.seeded.lo).bind fun t9 =>
 (subc t9 x0.left.hi).bind fun t13 =>
 (addc x0.lay.hi x0.seeded.hi).bind fun t21 =>
 (subc t21 x0.left.lo).bind fun t25 =>
 some (⟨(max 0 t13), t25⟩ : Span)
theorem c_laurellaw09_gone (x0 : Strip)  (w : World) (hw : HV w (keys [] []) [] [] [] w)  {res : Span} (hm : m_laurellaw09_gone x0 = some res) :
    Calls Try.prog 48 #[.agg #[.int .i64 x0.tenant, .int .i64 x0.lay.lo, .int .i64 x0.lay.hi, .int .i64 x0.seeded.lo, .int .i64 x0.seeded.hi, .int .i64 x0.left.lo, .int .i64 x0.left.hi]] w (fun en w' => ∃ l : Unit, en = .returned (.agg #[.int .i64 res.lo, .int .i64 res.hi]) ∧ (True) ∧ HV w (keys [] []) [] [] [] w') := by
  unfold m_laurellaw09_gone at hm
  refine g_en Try.func48 rfl Try.ntmps48 rfl (e := [(0, _)]) rfl hw (g_sr ?_)
  refine g_boxV rfl rfl (fun b h1 => ?_)
  refine g_allocV (fun w => Try.zeroValue37 w) rfl (fun b_1 h2 => ?_)
  refine g_nx (g_fa 1 Try.runUnderlying77 rfl Try.sizeOf37 rfl rfl (g_fa 0 Try.runUnderlying37 rfl Try.sizeOf3 rfl rfl (g_lc 1 Try.isAgg3 rfl rfl rfl rfl (g_fa 3 Try.runUnderlying77 rfl Try.sizeOf37 rfl rfl (g_fa 0 Try.runUnderlying37 rfl Try.sizeOf3 rfl rfl (g_lc 1 Try.isAgg3 rfl rfl rfl rfl ?_))))))
  obtain ⟨t9, h3, hm⟩ := bindO hm
  refine g_ac h3 rfl rfl rfl (g_fa 5 Try.runUnderlying77 rfl Try.sizeOf37 rfl rfl (g_fa 1 Try.runUnderlying37 rfl Try.sizeOf3 rfl rfl (g_lc 1 Try.isAgg3 rfl rfl rfl rfl ?_)))
  obtain ⟨t13, h4, hm⟩ := bindO hm
  refine g_val rfl rfl rfl (fun _ _ => v_subc h4 rfl rfl) (g_val rfl rfl rfl (fun _ _ => v_max rfl rfl) (g_fa 1 Try.runUnderlying77 rfl Try.sizeOf37 rfl rfl (g_fa 1 Try.runUnderlying37 rfl Try.sizeOf3 rfl rfl (g_lc 1 Try.isAgg3 rfl rfl rfl rfl (g_fa 3 Try.runUnderlying77 rfl Try.sizeOf37 rfl rfl (g_fa 1 Try.runUnderlying37 rfl Try.sizeOf3 rfl rfl (g_lc 1 Try.isAgg3 rfl rfl rfl rfl ?_)))))))
  obtain ⟨t21, h5, hm⟩ := bindO hm
  refine g_ac h5 rfl rfl rfl (g_fa 5 Try.runUnderlying77 rfl Try.sizeOf37 rfl rfl (g_fa 0 Try.runUnderlying37 rfl Try.sizeOf3 rfl rfl (g_lc 1 Try.isAgg3 rfl rfl rfl rfl ?_)))
  obtain ⟨t25, h6, hm⟩ := bindO hm
  refine g_val rfl rfl rfl (fun _ _ => v_subc h6 rfl rfl) (g_val rfl rfl rfl (fun _ _ => v_build (vs := [(0, _), (1, _)]) (cells := [_, _]) rfl rfl) (g_stSA (us := #[_, _]) (cs' := [_, _]) (S' := [_, _]) 0 (fun w => Try.sizeOf37 w) rfl rfl rfl rfl rfl rfl rfl (g_nt (g_ret ?_))))
  obtain rfl := sj hm
  refine g_done rfl (fun w hh => (.cell rfl (loadVar_agg (vs := [_, _]) (Try.isAgg37 _) (Try.sizeOf37 _) (hh.cells 0 rfl rfl)) .nil)) (fun w hh => ⟨(), rfl, trivial, hh.se [] [] 0 rfl rfl rfl rfl⟩)
structure m_laurellaw09_fits_S0 where
  t26 : Int
  t23 : (List Int)
structure m_laurellaw09_fits_C1 where
  sum8 : Int
  t23 : (List Int)
structure m_laurellaw09_fits_S1 where
  sum8 : Int
  t38 : Int
  t23 : (List Int)
def m_laurellaw09_fits_L1 (t29 : (List Int)) (s0 : Scalps) (s : m_laurellaw09_fits_S0) (s_1 : m_laurellaw09_fits_S1) : Option (m_laurellaw09_fits_S1 ⊕ (m_laurellaw09_fits_C1 ⊕ Bool)) :=
 if s_1.t38 < (t29.length : Int) then
 ((ix t29 s_1.t38).bind fun t41 =>
 (if t41 < 0 then
 (some true) else
 (if 60 < t41 then
 (some true) else
 (if 0 < t41 then
 ((m_laurellaw09_reaches s0 s.t26 s_1.t38).bind fun t56 =>
 some (!t56)) else
 (some false)))).bind fun o_2 =>
 if o_2 = true then
 (some (.inr (.inr false))) else
 ((addc s_1.sum8 t41).bind fun t64 =>
 (ix s_1.t23 s_1.t38).bind fun t67 =>
 (addc t67 t41).bind fun t70 =>
 (ix s_1.t23 s_1.t38).bind fun t71 =>
 (some (s_1.t23.set (Int.toNat s_1.t38) t70)).bind fun t23_1 =>
 (addc s_1.t38 1).bind fun t72 =>
 some (.inl (⟨t64, t72, t23_1⟩ : m_laurellaw09_fits_S1)))) else
 (some (.inr (.inl (⟨s_1.sum8, s_1.t23⟩ : m_laurellaw09_fits_C1))))
def m_laurellaw09_fits_L0 (shares1 : (List (List Int))) (s0 : Scalps) (s : m_laurellaw09_fits_S0) : Option (m_laurellaw09_fits_S0 ⊕ ((List Int) ⊕ Bool)) :=
 if s.t26 < (shares1.length : Int) then
 ((ix shares1 s.t26).bind fun t29 =>
 if (t29.length : Int) = (s.t23.length : Int) then
 ((iterM FU (m_laurellaw09_fits_L1 t29 s0 s) (⟨0, 0, s.t23⟩ : m_laurellaw09_fits_S1)).bind fun o_1 =>
 oc o_1 (fun j_1 => ((ix s0.carried s.t26).bind fun t77 =>
 if j_1.sum8 < t77.lo then
 (some true) else
 ((ix s0.carried s.t26).bind fun t86 =>
 some (decide (t86.hi < j_1.sum8)))).bind fun o_3 =>
 if o_3 = true then
 (some (.inr (.inr false))) else
 ((addc s.t26 1).bind fun t91 =>
 some (.inl (⟨t91, j_1.t23⟩ : m_laurellaw09_fits_S0)))) (fun r_2 => some (.inr (.inr r_2)))) else
 (some (.inr (.inr false)))) else
 (some (.inr (.inl s.t23)))
def m_laurellaw09_fits_L2 (j : (List Int)) (s0 : Scalps) (s_2 : Int) : Option (Int ⊕ (Unit ⊕ Bool)) :=
 if s_2 < (j.length : Int) then
 ((ix j s_2).bind fun t97 =>
 (ix s0.strips s_2).bind fun t102 =>
 (m_laurellaw09_gone (⟨t102.tenant, (⟨t102.lay.lo, t102.lay.hi⟩ : Span), (⟨t102.seeded.lo, t102.seeded.hi⟩ : Span), (⟨t102.left.lo, t102.left.hi⟩ : Span)⟩ : Strip)).bind fun t104 =>
 (if t97 < t104.lo then
 (some true) else
 (some (decide (t104.hi < t97)))).bind fun o_5 =>
 if o_5 = true then
 (some (.inr (.inr false))) else
 ((addc s_2 1).bind fun t115 =>
 some (.inl t115))) else
 (some (.inr (.inl ())))
def m_laurellaw09_fits (s0 : Scalps) (shares1 : (List (List Int))) : Option Bool :=
 if (shares1.length : Int) = (s0.carried.length : Int) then
 ((makec 8 0 (s0.strips.length : Int) (s0.strips.length : Int)).bind fun t23 =>
 (iterM FU (m_laurellaw09_fits_L0 shares1 s0) (⟨0, t23⟩ : m_laurellaw09_fits_S0)).bind fun o =>
 oc o (fun j => (iterM FU (m_laurellaw09_fits_L2 j s0) 0).bind fun o_4 =>
 oc o_4 (fun j_2 => some true) (fun r_4 => some r_4)) (fun r_5 => some r_5)) else
 (some false)
theorem c_laurellaw09_fits (s0 : Scalps) (shares1 : (List (List Int))) (qa0 : Option Addr) (na0 ca0 : Nat) (qa1 : Option Addr) (na1 ca1 : Nat) (qa2 : Option Addr) (na2 ca2 : Nat) (ar2 : List AL) (w : World) (hw : HV w (keys [] []) [] [] [(aB qa0, aO qa0, RSt.enc s0.strips), (aB qa1, aO qa1, RSp.enc s0.carried), (aB qa2, aO qa2, RwA.enc ar2)] w) (hna0 : s0.strips.length = na0) (hqa0 : AOK na0 qa0) (hla0 : na0 ≤ ca0) (hna1 : s0.carried.length = na1) (hqa1 : AOK na1 qa1) (hla1 : na1 ≤ ca1) (hna2 : shares1.length = na2) (hqa2 : AOK na2 qa2) (hla2 : na2 ≤ ca2) (hda2 : DRO shares1 ar2) (hTa2 : ∀ t, t ∈ rsg RI shares1 ar2 → segOK w t ∧ (t.2.2 ≠ [] → t.1 ∉ keys [] [])) {res : Bool} (hm : m_laurellaw09_fits s0 shares1 = some res) :
    Calls Try.prog 16 #[.agg #[.slice qa0 na0 ca0, .slice qa1 na1 ca1], .slice qa2 na2 ca2] w (fun en w' => ∃ l : Unit, en = .returned (.bool res) ∧ (True) ∧ HV w (keys [] []) [] [] [] w') := by
  unfold m_laurellaw09_fits at hm
  refine g_en Try.func16 rfl Try.ntmps16 rfl (e := [(0, _), (1, _)]) rfl hw (g_sr ?_)
  refine g_boxV rfl rfl (fun b h1 => ?_)
  refine g_as rfl rfl (g_nt (g_seq (g_sr (g_mv rfl rfl (g_val rfl rfl rfl (fun w _ => v_lenR hna2 (Try.runUnderlying29 w) rfl) (g_fa 1 Try.runUnderlying28 rfl Try.sizeOf26 rfl rfl (g_lc 0 Try.isAgg26 rfl rfl rfl rfl ?_)))))))
  refine g_val rfl rfl rfl (fun w _ => v_lenR hna1 (Try.runUnderlying26 w) rfl) (g_val rfl rfl rfl (fun _ _ => v_neq rfl rfl) (g_nt ?_))
  refine g_cond rfl (fun h2 => ?_) (fun h2 => ?_)
  ·replace hm := ifF (of_ndec_true h2) hm
   refine g_sr (g_as rfl rfl (g_nt (g_ret (g_r_then ?_))))
   obtain rfl := sj hm
   refine g_done rfl (fun w hh => (.tmp rfl .nil)) (fun w hh => ⟨(), rfl, trivial, hh.se [] [] 3 rfl rfl rfl rfl⟩)
  ·replace hm := ifT (of_ndec_false h2) hm
   refine g_skip (g_n_then (g_sr (g_fa 0 Try.runUnderlying28 rfl Try.sizeOf25 rfl rfl (g_lc 0 Try.isAgg25 rfl rfl rfl rfl (g_val rfl rfl rfl (fun w _ => v_lenR hna0 (Try.runUnderlying25 w) rfl) ?_)))))
   obtain ⟨t23, h3, hm⟩ := bindO hm
   refine g_vmake RI 0 h3 Try.underlying32 gxinf3 rfl rfl rfl rfl rfl (fun L h4 => ?_)
   refine g_as rfl rfl (g_nt (g_seq (g_sr (g_mv rfl rfl (g_val rfl rfl rfl (fun w _ => v_lenR hna2 (Try.runUnderlying29 w) rfl) (g_mv rfl rfl (g_nt ?_)))))))
   obtain ⟨o, h5, h6⟩ := bindO hm
   refine g_cut (ι := (List Int)) (fun j => o = .inl j ∧ VOK 1 L.n L.cap (RI.enc j) L.sp L.q) (fun j => [(2, ptr b 0), (5, slv L.q L.n L.cap)]) (fun j => [(b, .cells #[.slice qa0 na0 ca0, .slice qa1 na1 ca1] 28 (0, 0))]) (fun j => [⟨3, RI.enc j, L.sp, L.q, []⟩]) ?_ ?_
   ·replace hm := h5
    refine g_block ?_
    refine g_loopF (ι := Unit) hm (fun s l => VOK 1 L.n L.cap (RI.enc s.t23) L.sp L.q) (fun s l => [(2, ptr b 0), (5, slv L.q L.n L.cap), (24, .slice qa2 na2 ca2), (25, .int .i64 (shares1.length : Int)), (26, .int .i64 s.t26)]) (fun s l => [(b, .cells #[.slice qa0 na0 ca0, .slice qa1 na1 ca1] 28 (0, 0))]) (fun s l => [⟨3, RI.enc s.t23, L.sp, L.q, []⟩]) () (h4) (sE rfl) (fun w hh => hh) (fun s l r hpl hm h9 => ?_)
    have h8 := hpl
    unfold m_laurellaw09_fits_L0 at hm
    refine g_sr (g_ls rfl rfl rfl (g_nt (g_seq ?_)))
    refine g_cond rfl (fun h10 => ?_) (fun h10 => ?_)
    ·replace hm := ifD h10 hm
     refine g_skip (g_n_then (g_seq (g_block (g_sr (g_mv rfl rfl ?_)))))
     obtain ⟨t29, h11, hm⟩ := bindO hm
     obtain ⟨A, h12, h13, h14, h15⟩ := (hda2).row h11
     refine g_val rfl rfl rfl (fun w _ => v_ixR h12 (Try.runUnderlying29 w) (Try.sizeOf32 w) rfl rfl (Eq.trans (hda2).len.symm hna2) hqa2) (g_val rfl rfl rfl (fun w hh => v_ldE RwA 0 h12 (Try.isAgg32 w) rfl (hh.seg 2 rfl) rfl (Nat.add_zero _).symm) (g_as rfl rfl (g_as rfl rfl (g_nt (g_seq (g_sr (g_mv rfl rfl ?_)))))))
     refine g_val rfl rfl rfl (fun w _ => v_lenR h13 (Try.runUnderlying32 w) rfl) (g_mv rfl rfl (g_val rfl rfl rfl (fun w _ => v_lenN (vlen RI h8 rfl) (Try.runUnderlying32 w) rfl) (g_val rfl rfl rfl (fun _ _ => v_neq rfl rfl) (g_nt ?_))))
     refine g_cond rfl (fun h16 => ?_) (fun h16 => ?_)
     ·replace hm := ifF (of_ndec_true h16) hm
      refine g_sr (g_as rfl rfl (g_nt (g_ret (g_r_then (g_r_blk (g_r_then (g_r_then ?_)))))))
      refine g_r_blk ?_
      obtain rfl := sj hm
      have hbo := h9 _ rfl
      subst hbo
      refine g_r_then ?_
      replace hm := ocR h6
      refine g_r_then ?_
      obtain rfl := sj hm
      refine g_done rfl (fun w hh => (.tmp rfl .nil)) (fun w hh => ⟨(), rfl, trivial, hh.se [] [] 3 rfl rfl rfl rfl⟩)
     ·replace hm := ifT (of_ndec_false h16) hm
      refine g_skip (g_n_then (g_sr (g_as rfl rfl (g_nt (g_seq (g_sr (g_mv rfl rfl ?_)))))))
      refine g_val rfl rfl rfl (fun w _ => v_lenR h13 (Try.runUnderlying32 w) rfl) (g_mv rfl rfl (g_nt ?_))
      obtain ⟨o_1, h17, h18⟩ := bindO hm
      refine g_cut (ι := m_laurellaw09_fits_C1) (fun j_1 => o_1 = .inl j_1 ∧ VOK 1 L.n L.cap (RI.enc j_1.t23) L.sp L.q) (fun j_1 => [(2, ptr b 0), (5, slv L.q L.n L.cap), (6, .int .i64 s.t26), (8, .int .i64 j_1.sum8), (24, .slice qa2 na2 ca2), (25, .int .i64 (shares1.length : Int)), (26, .int .i64 s.t26)]) (fun j_1 => [(b, .cells #[.slice qa0 na0 ca0, .slice qa1 na1 ca1] 28 (0, 0))]) (fun j_1 => [⟨3, RI.enc j_1.t23, L.sp, L.q, []⟩]) ?_ ?_
      ·replace hm := h17
       refine g_block ?_
       refine g_loopF (ι := Unit) hm (fun s_1 l_1 => VOK 1 L.n L.cap (RI.enc s_1.t23) L.sp L.q) (fun s_1 l_1 => [(2, ptr b 0), (5, slv L.q L.n L.cap), (6, .int .i64 s.t26), (8, .int .i64 s_1.sum8), (24, .slice qa2 na2 ca2), (25, .int .i64 (shares1.length : Int)), (26, .int .i64 s.t26), (36, .slice A.a A.n A.cap), (37, .int .i64 (t29.length : Int)), (38, .int .i64 s_1.t38)]) (fun s_1 l_1 => [(b, .cells #[.slice qa0 na0 ca0, .slice qa1 na1 ca1] 28 (0, 0))]) (fun s_1 l_1 => [⟨3, RI.enc s_1.t23, L.sp, L.q, []⟩]) () (h8) (sE rfl) (fun w hh => hh) (fun s_1 l_1 r_1 hpl hm h21 => ?_)
       have h20 := hpl
       unfold m_laurellaw09_fits_L1 at hm
       refine g_sr (g_ls rfl rfl rfl (g_nt (g_seq ?_)))
       refine g_cond rfl (fun h22 => ?_) (fun h22 => ?_)
       ·replace hm := ifD h22 hm
        refine g_skip (g_n_then (g_seq (g_block (g_sr (g_mv rfl rfl ?_)))))
        obtain ⟨t41, h23, hm⟩ := bindO hm
        refine g_val rfl rfl rfl (fun w _ => v_ixR h23 (Try.runUnderlying32 w) (Try.sizeOf3 w) rfl rfl h13 h14) (g_val rfl rfl rfl (fun w hh => v_ldE RI 0 h23 (Try.isAgg3 w) rfl (hh.oldseg (hTa2 _ (rsg_ix h11 h12))) rfl (Nat.add_zero _).symm) (g_as rfl rfl (g_as rfl rfl (g_nt (g_seq (g_seq ?_))))))
        obtain ⟨o_2, h24, h25⟩ := bindO hm
        refine g_cut (ι := Unit) (fun l_2 => True) (fun l_2 => [(2, ptr b 0), (5, slv L.q L.n L.cap), (6, .int .i64 s.t26), (8, .int .i64 s_1.sum8), (9, .int .i64 s_1.t38), (10, .int .i64 t41), (24, .slice qa2 na2 ca2), (25, .int .i64 (shares1.length : Int)), (26, .int .i64 s.t26), (36, .slice A.a A.n A.cap), (37, .int .i64 (t29.length : Int)), (38, .int .i64 s_1.t38), (59, .bool o_2)]) (fun l_2 => [(b, .cells #[.slice qa0 na0 ca0, .slice qa1 na1 ca1] 28 (0, 0))]) (fun l_2 => [⟨3, RI.enc s_1.t23, L.sp, L.q, []⟩]) ?_ ?_
        ·replace hm := h24
         refine g_region (g_mv rfl rfl (g_ls rfl rfl rfl (g_mv rfl rfl ?_)))
         refine g_case 45 rfl (fun h26 => ?_) (fun h26 => ?_)
         ·replace hm := ifD h26 hm
          refine g_k rfl rfl rfl rfl (g_k rfl rfl rfl rfl (g_pt rfl rfl rfl (g_mv rfl rfl (g_k rfl rfl rfl rfl (g_k rfl rfl rfl rfl (g_k rfl rfl rfl rfl ?_))))))
          refine g_skipU' rfl rfl rfl rfl rfl ?_
          refine g_skipU' rfl rfl rfl rfl rfl ?_
          refine g_skipU' rfl rfl rfl rfl rfl ?_
          refine g_skipU' rfl rfl rfl rfl rfl ?_
          refine g_skipU' rfl rfl rfl rfl rfl ?_
          refine g_k rfl rfl rfl rfl (g_pt rfl rfl rfl (g_nil ?_))
          obtain rfl := sj hm
          exact g_leaf () (trivial) (sE rfl) (fun w hh => hh)
         ·replace hm := ifE h26 hm
          refine v_unguard rfl rfl (g_mv rfl rfl (v_unguard rfl rfl (g_val rfl rfl rfl (fun _ _ => v_gtr rfl rfl) (g_pf rfl rfl rfl (g_mv rfl rfl ?_)))))
          refine g_case 49 rfl (fun h27 => ?_) (fun h27 => ?_)
          ·replace hm := ifD h27 hm
           refine g_k rfl rfl rfl rfl (g_k rfl rfl rfl rfl (g_k rfl rfl rfl rfl ?_))
           refine g_skipU' rfl rfl rfl rfl rfl ?_
           refine g_skipU' rfl rfl rfl rfl rfl ?_
           refine g_skipU' rfl rfl rfl rfl rfl ?_
           refine g_skipU' rfl rfl rfl rfl rfl ?_
           refine g_skipU' rfl rfl rfl rfl rfl ?_
           refine g_k rfl rfl rfl rfl (g_pt rfl rfl rfl (g_nil ?_))
           obtain rfl := sj hm
           exact g_leaf () (trivial) (sE rfl) (fun w hh => hh)
          ·replace hm := ifE h27 hm
           refine v_unguard rfl rfl (g_mv rfl rfl (v_unguard rfl rfl (g_val rfl rfl rfl (fun _ _ => v_gtr rfl rfl) (v_unguard rfl rfl (g_mv rfl rfl ?_)))))
           refine g_case 52 rfl (fun h28 => ?_) (fun h28 => ?_)
           ·replace hm := ifD h28 hm
            refine v_unguard rfl rfl (g_la [_, _] 0 Try.isAgg28 Try.sizeOf28 rfl rfl rfl rfl (v_unguard rfl rfl (g_mv rfl rfl (v_unguard rfl rfl (g_mv rfl rfl (v_unguard rfl rfl ?_))))))
            obtain ⟨t56, h29, hm⟩ := bindO hm
            refine g_callH [] [] rfl rfl rfl rfl rfl rfl rfl Try.call43 (fun w hh => c_laurellaw09_reaches s0 s.t26 s_1.t38 qa0 na0 ca0 qa1 na1 ca1 w (HV.callee (S0 := []) (vs0 := []) hh (roR hh 0 rfl (roR hh 1 rfl roN))) hna0 hqa0 hla0 hna1 hqa1 hla1 h29) (fun l_3 h30 => ?_)
            refine v_unguard rfl rfl (g_val rfl rfl rfl (fun _ _ => v_not rfl) (v_unguard rfl rfl (g_pt rfl rfl rfl (g_pf rfl rfl rfl (g_nil ?_)))))
            obtain rfl := sj hm
            exact g_leaf () (trivial) (sE rfl) (fun w hh => hh)
           ·replace hm := ifE h28 hm
            refine g_k rfl rfl rfl rfl (g_k rfl rfl rfl rfl (g_k rfl rfl rfl rfl (g_k rfl rfl rfl rfl (g_k rfl rfl rfl rfl (v_unguard rfl rfl (g_pf rfl rfl rfl (g_pf rfl rfl rfl ?_)))))))
            refine g_nil ?_
            obtain rfl := sj hm
            exact g_leaf () (trivial) (sE rfl) (fun w hh => hh)
        ·intro l_2 hj
         replace hm := h25
         refine g_n_then ?_
         refine g_cond rfl (fun h31 => ?_) (fun h31 => ?_)
         ·replace hm := ifT (h31) hm
          refine g_sr (g_as rfl rfl (g_nt (g_ret (g_r_then (g_r_blk (g_r_then (g_r_then ?_)))))))
          refine g_r_blk ?_
          obtain rfl := sj hm
          have hbo := h21 _ rfl
          subst hbo
          refine g_r_then ?_
          replace hm := ocR h18
          refine g_r_then (g_r_blk (g_r_then (g_r_then (g_r_blk ?_))))
          obtain rfl := sj hm
          have hbo := h9 _ rfl
          subst hbo
          refine g_r_then ?_
          replace hm := ocR h6
          refine g_r_then ?_
          obtain rfl := sj hm
          refine g_done rfl (fun w hh => (.tmp rfl .nil)) (fun w hh => ⟨(), rfl, trivial, hh.se [] [] 3 rfl rfl rfl rfl⟩)
         ·replace hm := ifN h31 hm
          refine g_skip (g_n_then ?_)
          refine g_draw (some 13) (.free 0 (.free 1 (.free 2 (.free 3 (.free 4 (.free 5 (.free 6 (.free 7 (.hoist 8 (.free 9 (.free 10 (.free 11 (.free 12 (.last 13 .done)))))))))))))) _ rfl (by decide +kernel) (fun w k hh => hh.draw k) (fun w hh => hh) ?_
          refine p_mv rfl rfl rfl (p_mv rfl rfl rfl (p_mv rfl rfl rfl (p_mv rfl rfl rfl ?_)))
          obtain ⟨t64, h32, hm⟩ := bindO hm
          refine p_free rfl rfl rfl rfl (fun _ _ => v_addc h32 rfl rfl) (p_mv rfl rfl rfl (p_mv rfl rfl rfl ?_))
          obtain ⟨t67, h33, hm⟩ := bindO hm
          refine p_free rfl rfl rfl rfl (fun w _ => v_ixA h33 (Try.runUnderlying32 w) (Try.sizeOf3 w) rfl rfl (vlen RI h20 rfl) (vne h20)) (p_hoist rfl rfl rfl rfl (fun w hh => v_ldE RI 0 h33 (Try.isAgg3 w) rfl (hh.vseg 0 rfl h20) rfl (Nat.add_zero _).symm) (p_mv rfl rfl rfl ?_))
          obtain ⟨t70, h34, hm⟩ := bindO hm
          refine p_free rfl rfl rfl rfl (fun _ _ => v_addc h34 rfl rfl) (p_free rfl rfl rfl rfl (fun _ _ => v_assign rfl) ?_)
          obtain ⟨t71, h35, hm⟩ := bindO hm
          refine p_free rfl rfl rfl rfl (fun w _ => v_ixA h35 (Try.runUnderlying32 w) (Try.sizeOf3 w) rfl rfl (vlen RI h20 rfl) (vne h20)) (p_last rfl ?_)
          obtain ⟨t23_1, ht23_1, hm⟩ := bindO hm
          refine g_vst RI 0 0 t70 (fun w => Try.sizeOf3 w) rfl rfl rfl rfl h20 rfl (Nat.add_zero _).symm rfl h35 rfl rfl (Option.some.inj ht23_1) (fun h36 => ?_)
          refine g_se (S' := [_]) (vs' := [_]) [0] [0] 0 rfl rfl rfl rfl (p_nextL (p_done (g_n_blk (g_n_then (g_region ?_)))))
          obtain ⟨t72, h37, hm⟩ := bindO hm
          refine g_ac h37 rfl rfl rfl (g_mv rfl rfl (g_nil ?_))
          obtain rfl := sj hm
          refine g_n_then ?_
          exact g_again' _ () rfl (h36) (sE rfl) (fun w hh => hh)
       ·replace hm := ifE h22 hm
        refine g_exit (g_x_then (g_x_then (g_x_blk ?_)))
        obtain rfl := sj hm
        have hbo := h21 _ rfl
        subst hbo
        exact g_leaf (⟨s_1.sum8, s_1.t23⟩ : m_laurellaw09_fits_C1) (⟨rfl, h20⟩) (sE rfl) (fun w hh => hh)
      ·intro j_1 hj
       obtain ⟨h38, h19⟩ := hj
       subst h38
       replace hm := ocL h18
       refine g_n_then (g_seq ?_)
       obtain ⟨o_3, h39, h40⟩ := bindO hm
       refine g_cut (ι := Unit) (fun l_4 => True) (fun l_4 => [(2, ptr b 0), (5, slv L.q L.n L.cap), (24, .slice qa2 na2 ca2), (25, .int .i64 (shares1.length : Int)), (26, .int .i64 s.t26), (90, .bool o_3)]) (fun l_4 => [(b, .cells #[.slice qa0 na0 ca0, .slice qa1 na1 ca1] 28 (0, 0))]) (fun l_4 => [⟨3, RI.enc j_1.t23, L.sp, L.q, []⟩]) ?_ ?_
       ·replace hm := h39
        refine g_region (g_mv rfl rfl (g_fa 1 Try.runUnderlying28 rfl Try.sizeOf26 rfl rfl (g_lc 0 Try.isAgg26 rfl rfl rfl rfl (g_mv rfl rfl ?_))))
        obtain ⟨t77, h41, hm⟩ := bindO hm
        refine g_val rfl rfl rfl (fun w _ => v_ixR h41 (Try.runUnderlying26 w) (Try.sizeOf37 w) rfl rfl hna1 hqa1) (g_fa 0 Try.runUnderlying37 rfl Try.sizeOf3 rfl rfl (g_val rfl rfl rfl (fun w hh => v_ldE RSp 0 h41 (Try.isAgg3 w) rfl (hh.seg 1 rfl) rfl rfl) (g_ls rfl rfl rfl (g_mv rfl rfl ?_))))
        refine g_case 81 rfl (fun h42 => ?_) (fun h42 => ?_)
        ·replace hm := ifD h42 hm
         refine g_k rfl rfl rfl rfl (g_k rfl rfl rfl rfl (g_k rfl rfl rfl rfl (g_k rfl rfl rfl rfl (g_k rfl rfl rfl rfl (g_k rfl rfl rfl rfl (g_k rfl rfl rfl rfl (g_k rfl rfl rfl rfl ?_)))))))
         refine g_pt rfl rfl rfl (g_nil ?_)
         obtain rfl := sj hm
         exact g_leaf () (trivial) (sE rfl) (fun w hh => hh)
        ·replace hm := ifE h42 hm
         refine v_unguard rfl rfl (g_mv rfl rfl (v_unguard rfl rfl (g_fa 1 Try.runUnderlying28 rfl Try.sizeOf26 rfl rfl (v_unguard rfl rfl (g_lc 0 Try.isAgg26 rfl rfl rfl rfl (v_unguard rfl rfl (g_mv rfl rfl ?_)))))))
         refine v_unguard rfl rfl ?_
         obtain ⟨t86, h43, hm⟩ := bindO hm
         refine g_val rfl rfl rfl (fun w _ => v_ixR h43 (Try.runUnderlying26 w) (Try.sizeOf37 w) rfl rfl hna1 hqa1) (v_unguard rfl rfl (g_fa 1 Try.runUnderlying37 rfl Try.sizeOf3 rfl rfl (v_unguard rfl rfl (g_val rfl rfl rfl (fun w hh => v_ldE RSp 1 h43 (Try.isAgg3 w) rfl (hh.seg 1 rfl) rfl rfl) (v_unguard rfl rfl (g_val rfl rfl rfl (fun _ _ => v_gtr rfl rfl) (g_pf rfl rfl rfl ?_)))))))
         refine g_nil ?_
         obtain rfl := sj hm
         exact g_leaf () (trivial) (sE rfl) (fun w hh => hh)
       ·intro l_4 hj
        replace hm := h40
        refine g_n_then ?_
        refine g_cond rfl (fun h44 => ?_) (fun h44 => ?_)
        ·replace hm := ifT (h44) hm
         refine g_sr (g_as rfl rfl (g_nt (g_ret (g_r_blk (g_r_then (g_r_then (g_r_blk ?_)))))))
         obtain rfl := sj hm
         have hbo := h9 _ rfl
         subst hbo
         refine g_r_then ?_
         replace hm := ocR h6
         refine g_r_then ?_
         obtain rfl := sj hm
         refine g_done rfl (fun w hh => (.tmp rfl .nil)) (fun w hh => ⟨(), rfl, trivial, hh.se [] [] 3 rfl rfl rfl rfl⟩)
        ·replace hm := ifN h44 hm
         refine g_skip (g_n_blk (g_n_then (g_region ?_)))
         obtain ⟨t91, h45, hm⟩ := bindO hm
         refine g_ac h45 rfl rfl rfl (g_mv rfl rfl (g_nil ?_))
         obtain rfl := sj hm
         refine g_n_then ?_
         exact g_again' _ () rfl (h19) (sE rfl) (fun w hh => hh)
    ·replace hm := ifE h10 hm
     refine g_exit (g_x_then (g_x_then (g_x_blk ?_)))
     obtain rfl := sj hm
     have hbo := h9 _ rfl
     subst hbo
     exact g_leaf s.t23 (⟨rfl, h8⟩) (sE rfl) (fun w hh => hh)
   ·intro j hj
    obtain ⟨h46, h7⟩ := hj
    subst h46
    replace hm := ocL h6
    refine g_n_then (g_seq (g_sr (g_mv rfl rfl (g_val rfl rfl rfl (fun w _ => v_lenN (vlen RI h7 rfl) (Try.runUnderlying32 w) rfl) (g_mv rfl rfl (g_nt ?_))))))
    obtain ⟨o_4, h47, h48⟩ := bindO hm
    refine g_cut (ι := Unit) (fun j_2 => o_4 = .inl j_2) (fun j_2 => []) (fun j_2 => [(b, .cells #[.slice qa0 na0 ca0, .slice qa1 na1 ca1] 28 (0, 0))]) (fun j_2 => []) ?_ ?_
    ·replace hm := h47
     refine g_block ?_
     refine g_loopF (ι := Unit) hm (fun s_2 l_5 => True) (fun s_2 l_5 => [(2, ptr b 0), (92, slv L.q L.n L.cap), (93, .int .i64 (j.length : Int)), (94, .int .i64 s_2)]) (fun s_2 l_5 => [(b, .cells #[.slice qa0 na0 ca0, .slice qa1 na1 ca1] 28 (0, 0))]) (fun s_2 l_5 => [⟨3, RI.enc j, L.sp, L.q, []⟩]) () (trivial) (sE rfl) (fun w hh => hh) (fun s_2 l_5 r_3 hpl hm h49 => ?_)
     unfold m_laurellaw09_fits_L2 at hm
     refine g_sr (g_ls rfl rfl rfl (g_nt (g_seq ?_)))
     refine g_cond rfl (fun h50 => ?_) (fun h50 => ?_)
     ·replace hm := ifD h50 hm
      refine g_skip (g_n_then (g_seq (g_block (g_sr (g_mv rfl rfl ?_)))))
      obtain ⟨t97, h51, hm⟩ := bindO hm
      refine g_val rfl rfl rfl (fun w _ => v_ixA h51 (Try.runUnderlying32 w) (Try.sizeOf3 w) rfl rfl (vlen RI h7 rfl) (vne h7)) (g_val rfl rfl rfl (fun w hh => v_ldE RI 0 h51 (Try.isAgg3 w) rfl (hh.vseg 0 rfl h7) rfl (Nat.add_zero _).symm) (g_as rfl rfl (g_as rfl rfl (g_nx (g_fa 0 Try.runUnderlying28 rfl Try.sizeOf25 rfl rfl (g_lc 0 Try.isAgg25 rfl rfl rfl rfl (g_mv rfl rfl ?_)))))))
      obtain ⟨t102, h52, hm⟩ := bindO hm
      refine g_val rfl rfl rfl (fun w _ => v_ixR h52 (Try.runUnderlying25 w) (Try.sizeOf77 w) rfl rfl hna0 hqa0) ?_
      refine g_val rfl rfl rfl (fun w hh => v_ldEA RSt 0 [.int .i64 t102.tenant, .int .i64 t102.lay.lo, .int .i64 t102.lay.hi, .int .i64 t102.seeded.lo, .int .i64 t102.seeded.hi, .int .i64 t102.left.lo, .int .i64 t102.left.hi] h52 (Try.isAgg77 w) (Try.sizeOf77 w) rfl (hh.seg 0 rfl) rfl (Nat.add_zero _).symm) ?_
      obtain ⟨t104, h53, hm⟩ := bindO hm
      refine g_callH [] [] rfl rfl rfl rfl rfl rfl rfl Try.call48 (fun w hh => c_laurellaw09_gone (⟨t102.tenant, (⟨t102.lay.lo, t102.lay.hi⟩ : Span), (⟨t102.seeded.lo, t102.seeded.hi⟩ : Span), (⟨t102.left.lo, t102.left.hi⟩ : Span)⟩ : Strip) w (HV.callee (S0 := []) (vs0 := []) hh roN)  h53) (fun l_6 h54 => ?_)
      refine g_allocV (fun w => Try.zeroValue37 w) rfl (fun b_1 h55 => ?_)
      refine g_stSA (us := #[_, _]) (cs' := [_, _]) (S' := [_, _]) 0 (fun w => Try.sizeOf37 w) rfl rfl rfl rfl rfl rfl rfl (g_nt (g_seq ?_))
      obtain ⟨o_5, h56, h57⟩ := bindO hm
      refine g_cut (ι := Unit) (fun l_7 => True) (fun l_7 => [(2, ptr b 0), (92, slv L.q L.n L.cap), (93, .int .i64 (j.length : Int)), (94, .int .i64 s_2), (114, .bool o_5)]) (fun l_7 => [(b_1, .cells #[.int .i64 t104.lo, .int .i64 t104.hi] 37 (0, 0)), (b, .cells #[.slice qa0 na0 ca0, .slice qa1 na1 ca1] 28 (0, 0))]) (fun l_7 => [⟨3, RI.enc j, L.sp, L.q, []⟩]) ?_ ?_
      ·replace hm := h56
       refine g_region (g_mv rfl rfl (g_fa 0 Try.runUnderlying37 rfl Try.sizeOf3 rfl rfl (g_lc 0 Try.isAgg3 rfl rfl rfl rfl (g_ls rfl rfl rfl (g_mv rfl rfl ?_)))))
       refine g_case 109 rfl (fun h58 => ?_) (fun h58 => ?_)
       ·replace hm := ifD h58 hm
        refine g_k rfl rfl rfl rfl (g_k rfl rfl rfl rfl (g_k rfl rfl rfl rfl (g_k rfl rfl rfl rfl (g_pt rfl rfl rfl (g_nil ?_)))))
        obtain rfl := sj hm
        exact g_leaf () (trivial) (sE rfl) (fun w hh => hh)
       ·replace hm := ifE h58 hm
        refine v_unguard rfl rfl (g_mv rfl rfl (v_unguard rfl rfl (g_fa 1 Try.runUnderlying37 rfl Try.sizeOf3 rfl rfl (v_unguard rfl rfl (g_lc 0 Try.isAgg3 rfl rfl rfl rfl (v_unguard rfl rfl (g_val rfl rfl rfl (fun _ _ => v_gtr rfl rfl) ?_)))))))
        refine g_pf rfl rfl rfl (g_nil ?_)
        obtain rfl := sj hm
        exact g_leaf () (trivial) (sE rfl) (fun w hh => hh)
      ·intro l_7 hj
       replace hm := h57
       refine g_n_then ?_
       refine g_cond rfl (fun h59 => ?_) (fun h59 => ?_)
       ·replace hm := ifT (h59) hm
        refine g_sr (g_as rfl rfl (g_nt (g_ret (g_r_blk (g_r_then (g_r_then (g_r_blk ?_)))))))
        obtain rfl := sj hm
        have hbo := h49 _ rfl
        subst hbo
        refine g_r_then ?_
        replace hm := ocR h48
        refine g_r_then ?_
        obtain rfl := sj hm
        refine g_done rfl (fun w hh => (.tmp rfl .nil)) (fun w hh => ⟨(), rfl, trivial, hh.se [] [] 3 rfl rfl rfl rfl⟩)
       ·replace hm := ifN h59 hm
        refine g_skip (g_n_blk (g_n_then (g_region ?_)))
        obtain ⟨t115, h60, hm⟩ := bindO hm
        refine g_ac h60 rfl rfl rfl (g_mv rfl rfl (g_nil ?_))
        obtain rfl := sj hm
        refine g_n_then ?_
        exact g_again' _ () rfl (trivial) (sE rfl) (hsE [1] [0] 0 rfl rfl rfl rfl)
     ·replace hm := ifE h50 hm
      refine g_exit (g_x_then (g_x_then (g_x_blk ?_)))
      obtain rfl := sj hm
      have hbo := h49 _ rfl
      subst hbo
      exact g_leaf () (rfl) (.nil) (hsE [0] [] 0 rfl rfl rfl rfl)
    ·intro j_2 hj
     have h61 := hj
     subst h61
     replace hm := ocL h48
     refine g_n_then (g_sr (g_as rfl rfl (g_nt (g_ret ?_))))
     obtain rfl := sj hm
     refine g_done rfl (fun w hh => (.tmp rfl .nil)) (fun w hh => ⟨(), rfl, trivial, hh.se [] [] 3 rfl rfl rfl rfl⟩)
structure m_laurellaw09_stolen_S0 where
  sum7 : Int
  t14 : Int
structure m_laurellaw09_stolen_S1 where
  sum7 : Int
  t21 : Int
def m_laurellaw09_stolen_L1 (t17 : (List Int)) (tenant2 : Int) (s0 : Scalps) (s : m_laurellaw09_stolen_S0) (s_1 : m_laurellaw09_stolen_S1) : Option (m_laurellaw09_stolen_S1 ⊕ Int) :=
 if s_1.t21 < (t17.length : Int) then
 (((ix t17 s_1.t21).bind fun t24 =>
 (if tenant2 < 0 then
 ((ix s0.strips s_1.t21).bind fun t37 =>
 some (!decide (t37.tenant = s.t14))) else
 (if s.t14 = tenant2 then
 ((ix s0.strips s_1.t21).bind fun t37_1 =>
 some (!decide (t37_1.tenant = s.t14))) else
 (some false))).bind fun o_3 =>
 if o_3 = true then
 ((addc s_1.sum7 t24).bind fun t45 =>
 some t45) else
 (some s_1.sum7)).bind fun o_2 =>
 (addc s_1.t21 1).bind fun t46 =>
 some (.inl (⟨o_2, t46⟩ : m_laurellaw09_stolen_S1))) else
 (some (.inr s_1.sum7))
def m_laurellaw09_stolen_L0 (shares1 : (List (List Int))) (tenant2 : Int) (s0 : Scalps) (s : m_laurellaw09_stolen_S0) : Option (m_laurellaw09_stolen_S0 ⊕ Int) :=
 if s.t14 < (shares1.length : Int) then
 ((ix shares1 s.t14).bind fun t17 =>
 (iterM FU (m_laurellaw09_stolen_L1 t17 tenant2 s0 s) (⟨s.sum7, 0⟩ : m_laurellaw09_stolen_S1)).bind fun o_1 =>
 (addc s.t14 1).bind fun t47 =>
 some (.inl (⟨o_1, t47⟩ : m_laurellaw09_stolen_S0))) else
 (some (.inr s.sum7))
def m_laurellaw09_stolen (s0 : Scalps) (shares1 : (List (List Int))) (tenant2 : Int) : Option Int :=
 (iterM FU (m_laurellaw09_stolen_L0 shares1 tenant2 s0) (⟨0, 0⟩ : m_laurellaw09_stolen_S0)).bind fun o =>
 some o
theorem c_laurellaw09_stolen (s0 : Scalps) (shares1 : (List (List Int))) (tenant2 : Int) (qa0 : Option Addr) (na0 ca0 : Nat) (qa1 : Option Addr) (na1 ca1 : Nat) (qa2 : Option Addr) (na2 ca2 : Nat) (ar2 : List AL) (w : World) (hw : HV w (keys [] []) [] [] [(aB qa0, aO qa0, RSt.enc s0.strips), (aB qa1, aO qa1, RSp.enc s0.carried), (aB qa2, aO qa2, RwA.enc ar2)] w) (hna0 : s0.strips.length = na0) (hqa0 : AOK na0 qa0) (hla0 : na0 ≤ ca0) (hna1 : s0.carried.length = na1) (hqa1 : AOK na1 qa1) (hla1 : na1 ≤ ca1) (hna2 : shares1.length = na2) (hqa2 : AOK na2 qa2) (hla2 : na2 ≤ ca2) (hda2 : DRO shares1 ar2) (hTa2 : ∀ t, t ∈ rsg RI shares1 ar2 → segOK w t ∧ (t.2.2 ≠ [] → t.1 ∉ keys [] [])) {res : Int} (hm : m_laurellaw09_stolen s0 shares1 tenant2 = some res) :
    Calls Try.prog 41 #[.agg #[.slice qa0 na0 ca0, .slice qa1 na1 ca1], .slice qa2 na2 ca2, .int .i64 tenant2] w (fun en w' => ∃ l : Unit, en = .returned (.int .i64 res) ∧ (True) ∧ HV w (keys [] []) [] [] [] w') := by
  unfold m_laurellaw09_stolen at hm
  refine g_en Try.func41 rfl Try.ntmps41 rfl (e := [(0, _), (1, _), (2, _)]) rfl hw (g_sr ?_)
  refine g_boxV rfl rfl (fun b h1 => ?_)
  refine g_as rfl rfl (g_nx (g_as rfl rfl (g_nt (g_seq (g_sr (g_mv rfl rfl (g_val rfl rfl rfl (fun w _ => v_lenR hna2 (Try.runUnderlying29 w) rfl) ?_)))))))
  refine g_mv rfl rfl (g_nt ?_)
  obtain ⟨o, h2, h3⟩ := bindO hm
  refine g_cut (ι := Unit) (fun l => True) (fun l => [(7, .int .i64 o)]) (fun l => [(b, .cells #[.slice qa0 na0 ca0, .slice qa1 na1 ca1] 28 (0, 0))]) (fun l => []) ?_ ?_
  ·replace hm := h2
   refine g_block ?_
   refine g_loopF (ι := Unit) hm (fun s l_1 => True) (fun s l_1 => [(2, .int .i64 tenant2), (3, ptr b 0), (7, .int .i64 s.sum7), (12, .slice qa2 na2 ca2), (13, .int .i64 (shares1.length : Int)), (14, .int .i64 s.t14)]) (fun s l_1 => [(b, .cells #[.slice qa0 na0 ca0, .slice qa1 na1 ca1] 28 (0, 0))]) (fun s l_1 => []) () (trivial) (sE rfl) (fun w hh => hh) (fun s l_1 r hpl hm h4 => ?_)
   unfold m_laurellaw09_stolen_L0 at hm
   refine g_sr (g_ls rfl rfl rfl (g_nt (g_seq ?_)))
   refine g_cond rfl (fun h5 => ?_) (fun h5 => ?_)
   ·replace hm := ifD h5 hm
    refine g_skip (g_n_then (g_seq (g_block (g_sr (g_mv rfl rfl ?_)))))
    obtain ⟨t17, h6, hm⟩ := bindO hm
    obtain ⟨A, h7, h8, h9, h10⟩ := (hda2).row h6
    refine g_val rfl rfl rfl (fun w _ => v_ixR h7 (Try.runUnderlying29 w) (Try.sizeOf32 w) rfl rfl (Eq.trans (hda2).len.symm hna2) hqa2) (g_val rfl rfl rfl (fun w hh => v_ldE RwA 0 h7 (Try.isAgg32 w) rfl (hh.seg 2 rfl) rfl (Nat.add_zero _).symm) (g_as rfl rfl (g_as rfl rfl (g_nx (g_mv rfl rfl (g_val rfl rfl rfl (fun w _ => v_lenR h8 (Try.runUnderlying32 w) rfl) (g_mv rfl rfl ?_)))))))
    refine g_nt ?_
    obtain ⟨o_1, h11, h12⟩ := bindO hm
    refine g_cut (ι := Unit) (fun l_2 => True) (fun l_2 => [(2, .int .i64 tenant2), (3, ptr b 0), (7, .int .i64 o_1), (12, .slice qa2 na2 ca2), (13, .int .i64 (shares1.length : Int)), (14, .int .i64 s.t14)]) (fun l_2 => [(b, .cells #[.slice qa0 na0 ca0, .slice qa1 na1 ca1] 28 (0, 0))]) (fun l_2 => []) ?_ ?_
    ·replace hm := h11
     refine g_block ?_
     refine g_loopF (ι := Unit) hm (fun s_1 l_3 => True) (fun s_1 l_3 => [(2, .int .i64 tenant2), (3, ptr b 0), (7, .int .i64 s_1.sum7), (8, .int .i64 s.t14), (12, .slice qa2 na2 ca2), (13, .int .i64 (shares1.length : Int)), (14, .int .i64 s.t14), (19, .slice A.a A.n A.cap), (20, .int .i64 (t17.length : Int)), (21, .int .i64 s_1.t21)]) (fun s_1 l_3 => [(b, .cells #[.slice qa0 na0 ca0, .slice qa1 na1 ca1] 28 (0, 0))]) (fun s_1 l_3 => []) () (trivial) (sE rfl) (fun w hh => hh) (fun s_1 l_3 r_1 hpl hm h13 => ?_)
     unfold m_laurellaw09_stolen_L1 at hm
     refine g_sr (g_ls rfl rfl rfl (g_nt (g_seq ?_)))
     refine g_cond rfl (fun h14 => ?_) (fun h14 => ?_)
     ·replace hm := ifD h14 hm
      refine g_skip (g_n_then (g_seq ?_))
      obtain ⟨o_2, h15, h16⟩ := bindO hm
      refine g_cut (ι := Unit) (fun l_4 => True) (fun l_4 => [(2, .int .i64 tenant2), (3, ptr b 0), (7, .int .i64 o_2), (8, .int .i64 s.t14), (12, .slice qa2 na2 ca2), (13, .int .i64 (shares1.length : Int)), (14, .int .i64 s.t14), (19, .slice A.a A.n A.cap), (20, .int .i64 (t17.length : Int)), (21, .int .i64 s_1.t21)]) (fun l_4 => [(b, .cells #[.slice qa0 na0 ca0, .slice qa1 na1 ca1] 28 (0, 0))]) (fun l_4 => []) ?_ ?_
      ·replace hm := h15
       refine g_block (g_sr (g_mv rfl rfl ?_))
       obtain ⟨t24, h17, hm⟩ := bindO hm
       refine g_val rfl rfl rfl (fun w _ => v_ixR h17 (Try.runUnderlying32 w) (Try.sizeOf3 w) rfl rfl h8 h9) (g_val rfl rfl rfl (fun w hh => v_ldE RI 0 h17 (Try.isAgg3 w) rfl (hh.oldseg (hTa2 _ (rsg_ix h6 h7))) rfl (Nat.add_zero _).symm) (g_as rfl rfl (g_as rfl rfl (g_nt (g_seq ?_)))))
       obtain ⟨o_3, h18, h19⟩ := bindO hm
       refine g_cut (ι := Unit) (fun l_5 => True) (fun l_5 => [(2, .int .i64 tenant2), (3, ptr b 0), (7, .int .i64 s_1.sum7), (8, .int .i64 s.t14), (11, .int .i64 t24), (12, .slice qa2 na2 ca2), (13, .int .i64 (shares1.length : Int)), (14, .int .i64 s.t14), (19, .slice A.a A.n A.cap), (20, .int .i64 (t17.length : Int)), (21, .int .i64 s_1.t21), (42, .bool o_3)]) (fun l_5 => [(b, .cells #[.slice qa0 na0 ca0, .slice qa1 na1 ca1] 28 (0, 0))]) (fun l_5 => []) ?_ ?_
       ·replace hm := h18
        refine g_region (g_mv rfl rfl (g_ls rfl rfl rfl (g_mv rfl rfl ?_)))
        refine g_case 28 rfl (fun h20 => ?_) (fun h20 => ?_)
        ·replace hm := ifD h20 hm
         refine g_k rfl rfl rfl rfl (g_k rfl rfl rfl rfl (g_k rfl rfl rfl rfl (g_pt rfl rfl rfl (g_mv rfl rfl (v_unguard rfl rfl (g_fa 0 Try.runUnderlying28 rfl Try.sizeOf25 rfl rfl (v_unguard rfl rfl ?_)))))))
         refine g_lc 0 Try.isAgg25 rfl rfl rfl rfl (v_unguard rfl rfl (g_mv rfl rfl (v_unguard rfl rfl ?_)))
         obtain ⟨t37, h21, hm⟩ := bindO hm
         refine g_val rfl rfl rfl (fun w _ => v_ixR h21 (Try.runUnderlying25 w) (Try.sizeOf77 w) rfl rfl hna0 hqa0) (v_unguard rfl rfl (g_fa 0 Try.runUnderlying77 rfl Try.sizeOf3 rfl rfl (v_unguard rfl rfl (g_val rfl rfl rfl (fun w hh => v_ldE RSt 0 h21 (Try.isAgg3 w) rfl (hh.seg 0 rfl) rfl rfl) (v_unguard rfl rfl (g_mv rfl rfl (v_unguard rfl rfl ?_)))))))
         refine g_val rfl rfl rfl (fun _ _ => v_neq rfl rfl) (g_pt rfl rfl rfl (g_nil ?_))
         obtain rfl := sj hm
         exact g_leaf () (trivial) (sE rfl) (fun w hh => hh)
        ·replace hm := ifE h20 hm
         refine v_unguard rfl rfl (g_mv rfl rfl (v_unguard rfl rfl (g_mv rfl rfl (v_unguard rfl rfl (g_val rfl rfl rfl (fun _ _ => v_eql rfl rfl) (g_pf rfl rfl rfl (g_mv rfl rfl ?_)))))))
         refine g_case 33 rfl (fun h22 => ?_) (fun h22 => ?_)
         ·replace hm := ifD h22 hm
          refine v_unguard rfl rfl (g_fa 0 Try.runUnderlying28 rfl Try.sizeOf25 rfl rfl (v_unguard rfl rfl (g_lc 0 Try.isAgg25 rfl rfl rfl rfl (v_unguard rfl rfl (g_mv rfl rfl (v_unguard rfl rfl ?_))))))
          obtain ⟨t37_1, h23, hm⟩ := bindO hm
          refine g_val rfl rfl rfl (fun w _ => v_ixR h23 (Try.runUnderlying25 w) (Try.sizeOf77 w) rfl rfl hna0 hqa0) (v_unguard rfl rfl (g_fa 0 Try.runUnderlying77 rfl Try.sizeOf3 rfl rfl (v_unguard rfl rfl (g_val rfl rfl rfl (fun w hh => v_ldE RSt 0 h23 (Try.isAgg3 w) rfl (hh.seg 0 rfl) rfl rfl) (v_unguard rfl rfl (g_mv rfl rfl (v_unguard rfl rfl ?_)))))))
          refine g_val rfl rfl rfl (fun _ _ => v_neq rfl rfl) (g_pt rfl rfl rfl (g_nil ?_))
          obtain rfl := sj hm
          exact g_leaf () (trivial) (sE rfl) (fun w hh => hh)
         ·replace hm := ifE h22 hm
          refine g_k rfl rfl rfl rfl (g_k rfl rfl rfl rfl (g_k rfl rfl rfl rfl (g_k rfl rfl rfl rfl (g_k rfl rfl rfl rfl (g_k rfl rfl rfl rfl (g_k rfl rfl rfl rfl (g_k rfl rfl rfl rfl ?_)))))))
          refine g_pf rfl rfl rfl (g_nil ?_)
          obtain rfl := sj hm
          exact g_leaf () (trivial) (sE rfl) (fun w hh => hh)
       ·intro l_5 hj
        replace hm := h19
        refine g_n_then ?_
        refine g_cond rfl (fun h24 => ?_) (fun h24 => ?_)
        ·replace hm := ifT (h24) hm
         refine g_region (g_mv rfl rfl (g_mv rfl rfl ?_))
         obtain ⟨t45, h25, hm⟩ := bindO hm
         refine g_ac h25 rfl rfl rfl (g_as rfl rfl (g_nil (g_n_blk ?_)))
         obtain rfl := sj hm
         exact g_leaf () (trivial) (sE rfl) (fun w hh => hh)
        ·replace hm := ifN h24 hm
         refine g_skip (g_n_blk ?_)
         obtain rfl := sj hm
         exact g_leaf () (trivial) (sE rfl) (fun w hh => hh)
      ·intro l_4 hj
       replace hm := h16
       refine g_n_then (g_region ?_)
       obtain ⟨t46, h26, hm⟩ := bindO hm
       refine g_ac h26 rfl rfl rfl (g_mv rfl rfl (g_nil ?_))
       obtain rfl := sj hm
       refine g_n_then ?_
       exact g_again' _ () rfl (trivial) (sE rfl) (fun w hh => hh)
     ·replace hm := ifE h14 hm
      refine g_exit (g_x_then (g_x_then (g_x_blk ?_)))
      obtain rfl := sj hm
      have hbo := h13 _ rfl
      subst hbo
      exact g_leaf () (trivial) (sE rfl) (fun w hh => hh)
    ·intro l_2 hj
     replace hm := h12
     refine g_n_blk (g_n_then (g_region ?_))
     obtain ⟨t47, h27, hm⟩ := bindO hm
     refine g_ac h27 rfl rfl rfl (g_mv rfl rfl (g_nil ?_))
     obtain rfl := sj hm
     refine g_n_then ?_
     exact g_again' _ () rfl (trivial) (sE rfl) (fun w hh => hh)
   ·replace hm := ifE h5 hm
    refine g_exit (g_x_then (g_x_then (g_x_blk ?_)))
    obtain rfl := sj hm
    have hbo := h4 _ rfl
    subst hbo
    exact g_leaf () (trivial) (sE rfl) (fun w hh => hh)
  ·intro l hj
   replace hm := h3
   refine g_n_then (g_sr (g_mv rfl rfl (g_as rfl rfl (g_nt (g_ret ?_)))))
   obtain rfl := sj hm
   refine g_done rfl (fun w hh => (.tmp rfl .nil)) (fun w hh => ⟨(), rfl, trivial, hh.se [] [] 3 rfl rfl rfl rfl⟩)
end Go.Proofs.Ws

namespace Go.Proofs.Ws
set_option maxHeartbeats 4000000
set_option maxRecDepth 100000
open Go Go.Fw Go.Gx Go.Sp
set_option linter.unusedVariables false
theorem gxeqg151 : Try.prog.eqGuardType Try.prog.depth 151 = false := by decide +kernel
def m_strip_net_far_1_1 (c0 : Change) (a1 : Int) (b2 : Int) (cost3 : Int) (room4 : Int) (a550 : (List Int)) : Option (List Int) :=
 (ix a550 b2).bind fun t13 =>
 (ix a550 a1).bind fun t16 =>
 (addc t16 cost3).bind fun t19 =>
 (m_strip_least t13 [t19]).bind fun t21 =>
 (ix a550 b2).bind fun t22 =>
 (some (a550.set (Int.toNat b2) t21)).bind fun a55 =>
 some a55
theorem c_strip_net_far_1_1 (c0 : Change) (a1 : Int) (b2 : Int) (cost3 : Int) (room4 : Int) (a550 : (List Int)) (pb : Nat) (w : World) (hw : HV w (keys [(pb, .cells (RI.enc a550).toArray 151 (0, 0))] []) [(pb, .cells (RI.enc a550).toArray 151 (0, 0))] [] [] w) (hl_a550 : a550.length = 12) {res : (List Int)} (hm : m_strip_net_far_1_1 c0 a1 b2 cost3 room4 a550 = some res) :
    Calls Try.prog 133 #[.agg #[.int .i64 c0.way, .bool c0.more], .int .i64 a1, .int .i64 b2, .int .i64 cost3, .int .i64 room4, ptr pb 0] w (fun en w' => ∃ l : Unit, en = .returned (.tuple #[]) ∧ (res.length = 12) ∧ HV w (keys [(pb, .cells (RI.enc a550).toArray 151 (0, 0))] []) [(pb, .cells (RI.enc res).toArray 151 (0, 0))] [] [] w') := by
  unfold m_strip_net_far_1_1 at hm
  refine g_en Try.func133 rfl Try.ntmps133 rfl (e := [(0, _), (1, _), (2, _), (3, _), (4, _), (5, _)]) rfl hw (g_sr ?_)
  refine g_boxV rfl rfl (fun b h2 => ?_)
  refine g_nt ?_
  refine g_draw (some 12) (.free 0 (.free 1 (.free 2 (.hoist 3 (.free 4 (.free 5 (.hoist 6 (.free 7 (.free 8 (.one 9 (.one 10 (.free 11 (.last 12 .done))))))))))))) _ rfl (by decide +kernel) (fun w k hh => hh.draw k) (fun w hh => hh) ?_
  refine p_mv rfl rfl rfl (p_mv rfl rfl rfl ?_)
  obtain ⟨t13, h3, hm⟩ := bindO hm
  refine p_free rfl rfl rfl rfl (fun w _ => v_ixB h3 hl_a550 (Try.runUnderlying151 w) (Try.sizeOf3 w) rfl rfl) (p_hoist rfl rfl rfl rfl (fun w hh => v_ldE RI 0 h3 (Try.isAgg3 w) rfl (hh.bsegA 1 rfl) rfl (Nat.add_zero _).symm) (p_mv rfl rfl rfl ?_))
  obtain ⟨t16, h4, hm⟩ := bindO hm
  refine p_free rfl rfl rfl rfl (fun w _ => v_ixB h4 hl_a550 (Try.runUnderlying151 w) (Try.sizeOf3 w) rfl rfl) (p_hoist rfl rfl rfl rfl (fun w hh => v_ldE RI 0 h4 (Try.isAgg3 w) rfl (hh.bsegA 1 rfl) rfl (Nat.add_zero _).symm) (p_mv rfl rfl rfl ?_))
  obtain ⟨t19, h5, hm⟩ := bindO hm
  refine p_free rfl rfl rfl rfl (fun _ _ => v_addc h5 rfl rfl) (p_one rfl ?_)
  refine g_vlit RI [t19] (ps := [(0, _)]) (cells := [_]) (fun w => Try.runUnderlying32 w) (fun w => Try.sizeOf3 w) (fun w => Try.zeroValue3 w) rfl rfl rfl rfl rfl rfl rfl rfl (fun L h6 => ?_)
  refine p_next (hsE [0, 1] [] 0 rfl rfl rfl rfl) (p_one rfl ?_)
  obtain ⟨t21, h7, hm⟩ := bindO hm
  refine g_callH [] [] rfl rfl rfl rfl rfl rfl rfl Try.call55 (fun w hh => c_strip_least t13 [t19] (qA L.q) L.n L.cap w (HV.callee (S0 := []) (vs0 := []) hh (roC (hh.vsepA 0 rfl h6) roN)) (vlen RI h6 rfl) (AOK.q (vne h6)) (h6).hle h7) (fun l h8 => ?_)
  refine p_next (hsE [0, 1] [] 0 rfl rfl rfl rfl) ?_
  obtain ⟨t22, h9, hm⟩ := bindO hm
  refine p_free rfl rfl rfl rfl (fun w _ => v_ixB h9 hl_a550 (Try.runUnderlying151 w) (Try.sizeOf3 w) rfl rfl) (p_last rfl ?_)
  obtain ⟨a55, ha55, hm⟩ := bindO hm
  refine g_stE RI 1 0 t21 (S' := [_, _]) (fun w => Try.sizeOf3 w) rfl rfl rfl rfl hl_a550 (Nat.add_zero _).symm rfl h9 rfl rfl (Option.some.inj ha55) rfl (fun h10 => ?_)
  refine p_nextL (p_done ?_)
  obtain rfl := sj hm
  refine g_doneN rfl (fun w hh => .nil) (fun w hh => ⟨(), rfl, h10, hh.se [1] [] 0 rfl rfl rfl rfl⟩)
structure m_strip_net_changes_5_S0 where
  t17 : Int
  f1_c0_0 : (List Int)
structure m_strip_net_changes_5_S1 where
  t22 : Int
  f1_c0_0 : (List Int)
def m_strip_net_changes_5_L1 (n00 : (List Wy)) (s : m_strip_net_changes_5_S0) (s_1 : m_strip_net_changes_5_S1) : Option (m_strip_net_changes_5_S1 ⊕ (List Int)) :=
 if s_1.t22 < ([true, false].length : Int) then
 (((ix [true, false] s_1.t22).bind fun t24 =>
 (m_strip_net_ends n00 (⟨s.t17, t24⟩ : Change)).bind fun t32 =>
 if 0 < t32.r3 then
 ((m_strip_net_far_1_1 (⟨s.t17, t24⟩ : Change) t32.r0 t32.r1 t32.r2 t32.r3 s_1.f1_c0_0).bind fun t45 =>
 some t45) else
 (some s_1.f1_c0_0)).bind fun o_2 =>
 (addc s_1.t22 1).bind fun t46 =>
 some (.inl (⟨t46, o_2⟩ : m_strip_net_changes_5_S1))) else
 (some (.inr s_1.f1_c0_0))
def m_strip_net_changes_5_L0 (n00 : (List Wy)) (s : m_strip_net_changes_5_S0) : Option (m_strip_net_changes_5_S0 ⊕ (List Int)) :=
 if s.t17 < (n00.length : Int) then
 ((iterM FU (m_strip_net_changes_5_L1 n00 s) (⟨0, s.f1_c0_0⟩ : m_strip_net_changes_5_S1)).bind fun o_1 =>
 (addc s.t17 1).bind fun t47 =>
 some (.inl (⟨t47, o_1⟩ : m_strip_net_changes_5_S0))) else
 (some (.inr s.f1_c0_0))
def m_strip_net_changes_5 (n00 : (List Wy)) (f1_c00 : (List Int)) : Option (List Int) :=
 (iterM FU (m_strip_net_changes_5_L0 n00) (⟨0, f1_c00⟩ : m_strip_net_changes_5_S0)).bind fun o =>
 some o
theorem c_strip_net_changes_5 (n00 : (List Wy)) (f1_c00 : (List Int)) (rb : Nat) (qa1 : Option Addr) (na1 ca1 : Nat) (pb : Nat) (w : World) (hw : HV w (keys [(pb, .cells (RI.enc f1_c00).toArray 151 (0, 0))] []) [(pb, .cells (RI.enc f1_c00).toArray 151 (0, 0))] [] [(rb, 0, [.slice qa1 na1 ca1]), (aB qa1, aO qa1, RWay.enc n00)] w)  (hna1 : n00.length = na1) (hqa1 : AOK na1 qa1) (hla1 : na1 ≤ ca1) (hl_f1_c00 : f1_c00.length = 12) {res : (List Int)} (hm : m_strip_net_changes_5 n00 f1_c00 = some res) :
    Calls Try.prog 132 #[ptr rb 0, .func (.func 133) #[] #[ptr pb 0]] w (fun en w' => ∃ l : Unit, en = .returned (.tuple #[]) ∧ (res.length = 12) ∧ HV w (keys [(pb, .cells (RI.enc f1_c00).toArray 151 (0, 0))] []) [(pb, .cells (RI.enc res).toArray 151 (0, 0))] [] [] w') := by
  unfold m_strip_net_changes_5 at hm
  refine g_en Try.func132 rfl Try.ntmps132 rfl (e := [(0, _), (1, _)]) rfl hw (g_sr (g_mv rfl rfl (g_val rfl rfl rfl (fun _ _ => v_nilCheck rfl) (g_fa 0 Try.runUnderlying168 rfl Try.sizeOf166 rfl rfl (g_val rfl rfl rfl (fun w hh => v_load (Try.isAgg166 w) rfl (segCell (hh.seg 0 rfl) 0 rfl)) (g_val rfl rfl rfl (fun w _ => v_lenR hna1 (Try.runUnderlying166 w) rfl) (g_mv rfl rfl ?_)))))))
  refine g_nt ?_
  obtain ⟨o, h2, h3⟩ := bindO hm
  refine g_cut (ι := Unit) (fun l => o.length = 12) (fun l => []) (fun l => [(pb, .cells (RI.enc o).toArray 151 (0, 0))]) (fun l => []) ?_ ?_
  ·replace hm := h2
   refine g_block ?_
   refine g_loopF (ι := Unit) hm (fun s l_1 => s.f1_c0_0.length = 12) (fun s l_1 => [(0, ptr rb 0), (1, .func (.func 133) #[] #[ptr pb 0]), (16, .int .i64 (n00.length : Int)), (17, .int .i64 s.t17)]) (fun s l_1 => [(pb, .cells (RI.enc s.f1_c0_0).toArray 151 (0, 0))]) (fun s l_1 => []) () (hl_f1_c00) (sE rfl) (fun w hh => hh) (fun s l_1 r hpl hm h6 => ?_)
   have h5 := hpl
   unfold m_strip_net_changes_5_L0 at hm
   refine g_sr (g_ls rfl rfl rfl (g_nt (g_seq ?_)))
   refine g_cond rfl (fun h7 => ?_) (fun h7 => ?_)
   ·replace hm := ifD h7 hm
    refine g_skip (g_n_then (g_seq (g_block (g_sr (g_mv rfl rfl (g_as rfl rfl (g_nx ?_)))))))
    refine g_vlit RB [true, false] (ps := [(0, _), (1, _)]) (cells := [_, _]) (fun w => Try.runUnderlying136 w) (fun w => Try.sizeOf4 w) (fun w => Try.zeroValue4 w) rfl rfl rfl rfl rfl rfl rfl rfl (fun L h8 => ?_)
    refine g_val rfl rfl rfl (fun w _ => v_lenN (vlen RB h8 rfl) (Try.runUnderlying136 w) rfl) (g_mv rfl rfl (g_nt ?_))
    obtain ⟨o_1, h9, h10⟩ := bindO hm
    refine g_cut (ι := Unit) (fun l_2 => o_1.length = 12) (fun l_2 => [(0, ptr rb 0), (1, .func (.func 133) #[] #[ptr pb 0]), (16, .int .i64 (n00.length : Int)), (17, .int .i64 s.t17)]) (fun l_2 => [(pb, .cells (RI.enc o_1).toArray 151 (0, 0))]) (fun l_2 => []) ?_ ?_
    ·replace hm := h9
     refine g_block ?_
     refine g_loopF (ι := Unit) hm (fun s_1 l_3 => s_1.f1_c0_0.length = 12) (fun s_1 l_3 => [(0, ptr rb 0), (1, .func (.func 133) #[] #[ptr pb 0]), (4, .int .i64 s.t17), (16, .int .i64 (n00.length : Int)), (17, .int .i64 s.t17), (20, slv L.q L.n L.cap), (21, .int .i64 ([true, false].length : Int)), (22, .int .i64 s_1.t22)]) (fun s_1 l_3 => [(pb, .cells (RI.enc s_1.f1_c0_0).toArray 151 (0, 0))]) (fun s_1 l_3 => [⟨4, RB.enc [true, false], L.sp, L.q, []⟩]) () (h5) (sE rfl) (fun w hh => hh) (fun s_1 l_3 r_1 hpl hm h13 => ?_)
     have h12 := hpl
     unfold m_strip_net_changes_5_L1 at hm
     refine g_sr (g_ls rfl rfl rfl (g_nt (g_seq ?_)))
     refine g_cond rfl (fun h14 => ?_) (fun h14 => ?_)
     ·replace hm := ifD h14 hm
      refine g_skip (g_n_then (g_seq ?_))
      obtain ⟨o_2, h15, h16⟩ := bindO hm
      refine g_cut (ι := Unit) (fun l_4 => o_2.length = 12) (fun l_4 => [(0, ptr rb 0), (1, .func (.func 133) #[] #[ptr pb 0]), (4, .int .i64 s.t17), (16, .int .i64 (n00.length : Int)), (17, .int .i64 s.t17), (20, slv L.q L.n L.cap), (21, .int .i64 ([true, false].length : Int)), (22, .int .i64 s_1.t22)]) (fun l_4 => [(pb, .cells (RI.enc o_2).toArray 151 (0, 0))]) (fun l_4 => [⟨4, RB.enc [true, false], L.sp, L.q, []⟩]) ?_ ?_
      ·replace hm := h15
       refine g_block (g_sr ?_)
       obtain ⟨t24, h18, hm⟩ := bindO hm
       refine g_val rfl rfl rfl (fun w _ => v_ixA h18 (Try.runUnderlying136 w) (Try.sizeOf4 w) rfl rfl (vlen RB h8 rfl) (vne h8)) (g_val rfl rfl rfl (fun w hh => v_ldE RB 0 h18 (Try.isAgg4 w) rfl (hh.vseg 0 rfl h8) rfl (Nat.add_zero _).symm) (g_as rfl rfl (g_nx (g_mv rfl rfl (g_mv rfl rfl (g_val rfl rfl rfl (fun _ _ => v_build (vs := [(0, _), (1, _)]) (cells := [_, _]) rfl rfl) ?_))))))
       refine g_allocV (fun w => Try.zeroValue178 w) rfl (fun b h19 => ?_)
       refine g_stSA (us := #[_, _]) (cs' := [_, _]) (S' := [_, _]) 0 (fun w => Try.sizeOf178 w) rfl rfl rfl rfl rfl rfl rfl (g_nx (g_mv rfl rfl (g_la [_, _] 0 Try.isAgg178 Try.sizeOf178 rfl rfl rfl rfl ?_)))
       obtain ⟨t32, h20, hm⟩ := bindO hm
       refine g_callH [] [] rfl rfl rfl rfl rfl rfl rfl Try.call144 (fun w hh => c_strip_net_ends n00 (⟨s.t17, t24⟩ : Change) rb qa1 na1 ca1 w (HV.callee (S0 := []) (vs0 := []) hh (roR hh 0 rfl (roR hh 1 rfl roN))) hna1 hqa1 hla1 h20) (fun l_5 h21 => ?_)
       refine g_mv rfl rfl (g_xt rfl rfl rfl (g_xt rfl rfl rfl (g_xt rfl rfl rfl (g_xt rfl rfl rfl (g_as rfl rfl (g_as rfl rfl (g_as rfl rfl ?_)))))))
       refine g_as rfl rfl (g_nx (g_mv rfl rfl (g_val rfl rfl rfl (fun _ _ => v_gtr rfl rfl) (g_nt ?_))))
       refine g_cond rfl (fun h22 => ?_) (fun h22 => ?_)
       ·replace hm := ifD h22 hm
        refine g_region (g_mv rfl rfl (g_la [_, _] 0 Try.isAgg178 Try.sizeOf178 rfl rfl rfl rfl (g_mv rfl rfl (g_mv rfl rfl (g_mv rfl rfl (g_mv rfl rfl ?_))))))
        obtain ⟨t45, h23, hm⟩ := bindO hm
        refine g_se (S' := [_, _]) (vs' := [_]) [1, 0] [0] 0 rfl rfl rfl rfl ?_
        refine g_callH [_] [] rfl rfl rfl rfl rfl rfl rfl Try.call133 (fun w hh => c_strip_net_far_1_1 (⟨s.t17, t24⟩ : Change) t32.r0 t32.r1 t32.r2 t32.r3 s_1.f1_c0_0 pb w (HV.callee (S0 := [_]) (vs0 := []) hh roN) h12 h23) (fun l_6 h24 => ?_)
        have h25 := h24
        refine g_se (S' := [_, _]) (vs' := [_]) [0, 1] [0] 0 rfl rfl rfl rfl (g_nil (g_n_blk ?_))
        obtain rfl := sj hm
        exact g_leaf () (h25) (sE rfl) (hsE [0] [0] 0 rfl rfl rfl rfl)
       ·replace hm := ifE h22 hm
        refine g_skip (g_n_blk ?_)
        obtain rfl := sj hm
        exact g_leaf () (h12) (sE rfl) (hsE [1] [0] 0 rfl rfl rfl rfl)
      ·intro l_4 hj
       have h17 := hj
       replace hm := h16
       refine g_n_then (g_region ?_)
       obtain ⟨t46, h26, hm⟩ := bindO hm
       refine g_ac h26 rfl rfl rfl (g_mv rfl rfl (g_nil ?_))
       obtain rfl := sj hm
       refine g_n_then ?_
       exact g_again' _ () rfl (h17) (sE rfl) (fun w hh => hh)
     ·replace hm := ifE h14 hm
      refine g_exit (g_x_then (g_x_then (g_x_blk ?_)))
      obtain rfl := sj hm
      have hbo := h13 _ rfl
      subst hbo
      exact g_leaf () (h12) (sE rfl) (hsE [0] [] 0 rfl rfl rfl rfl)
    ·intro l_2 hj
     have h11 := hj
     replace hm := h10
     refine g_n_blk (g_n_then (g_region ?_))
     obtain ⟨t47, h27, hm⟩ := bindO hm
     refine g_ac h27 rfl rfl rfl (g_mv rfl rfl (g_nil ?_))
     obtain rfl := sj hm
     refine g_n_then ?_
     exact g_again' _ () rfl (h11) (sE rfl) (fun w hh => hh)
   ·replace hm := ifE h7 hm
    refine g_exit (g_x_then (g_x_then (g_x_blk ?_)))
    obtain rfl := sj hm
    have hbo := h6 _ rfl
    subst hbo
    exact g_leaf () (h5) (.nil) (fun w hh => hh)
  ·intro l hj
   have h4 := hj
   replace hm := h3
   obtain rfl := sj hm
   refine g_doneN rfl (fun w hh => .nil) (fun w hh => ⟨(), rfl, h4, hh.se [0] [] 2 rfl rfl rfl rfl⟩)
def m_strip_net_far_L0 (n00 : (List Wy)) (s : (List Int)) : Option ((List Int) ⊕ (Unit ⊕ (List Int))) :=
 (m_strip_net_changes_5 n00 s).bind fun t8 =>
 if t8 = s then
 (some (.inr (.inr t8))) else
 (some (.inl t8))
def m_strip_net_far (n00 : (List Wy)) : Option (List Int) :=
 (iterM FU (m_strip_net_far_L0 n00) (List.replicate 12 0 : (List Int))).bind fun o =>
 oc o (fun j => none) (fun r_1 => some r_1)
theorem c_strip_net_far (n00 : (List Wy)) (rb : Nat) (qa1 : Option Addr) (na1 ca1 : Nat) (w : World) (hw : HV w (keys [] []) [] [] [(rb, 0, [.slice qa1 na1 ca1]), (aB qa1, aO qa1, RWay.enc n00)] w)  (hna1 : n00.length = na1) (hqa1 : AOK na1 qa1) (hla1 : na1 ≤ ca1) {res : (List Int)} (hm : m_strip_net_far n00 = some res) :
    Calls Try.prog 98 #[ptr rb 0] w (fun en w' => ∃ l : Unit, en = .returned (.agg (RI.enc res).toArray) ∧ (res.length = 12) ∧ HV w (keys [] []) [] [] [] w') := by
  unfold m_strip_net_far at hm
  refine g_en Try.func98 rfl Try.ntmps98 rfl (e := [(0, _)]) rfl hw (g_sr ?_)
  refine g_allocA RI (l := (List.replicate 12 0 : (List Int))) (k := 12) (fun w => Try.zeroValue151 w) rfl rfl rfl (fun b h2 h3 => ?_)
  refine g_nx ?_
  refine g_allocA RI (l := (List.replicate 12 0 : (List Int))) (k := 12) (fun w => Try.zeroValue151 w) rfl rfl rfl (fun b_1 h4 h5 => ?_)
  refine g_nt ?_
  obtain ⟨o, h6, h7⟩ := bindO hm
  refine g_cut (ι := Unit) (fun j => False) (fun j => []) (fun j => [(b_1, .cells (RI.enc (List.replicate 12 0 : (List Int))).toArray 151 (0, 0)), (b, .cells (RI.enc (List.replicate 12 0 : (List Int))).toArray 151 (0, 0))]) (fun j => []) ?_ ?_
  ·replace hm := h6
   refine g_block ?_
   refine g_loopF (ι := Unit) hm (fun s l => s.length = 12) (fun s l => [(0, ptr rb 0), (2, ptr b 0), (3, ptr b_1 0)]) (fun s l => [(b_1, .cells (RI.enc s).toArray 151 (0, 0)), (b, .cells (RI.enc (List.replicate 12 0 : (List Int))).toArray 151 (0, 0))]) (fun s l => []) () (h5) (sE rfl) (fun w hh => hh) (fun s l r hpl hm h9 => ?_)
   have h8 := hpl
   unfold m_strip_net_far_L0 at hm
   refine g_block (g_sr (g_val rfl rfl rfl (fun w hh => v_loadArr RI h8 (Try.isAgg151 w) (Try.sizeOf151 w) rfl rfl (hh.bsegA 0 rfl)) ?_))
   refine g_allocA RI (l := (List.replicate 12 0 : (List Int))) (k := 12) (fun w => Try.zeroValue151 w) rfl rfl rfl (fun b_2 h10 h11 => ?_)
   refine g_stW RI (S' := [_, _, _]) 0 (fun w => Try.sizeOf151 w) rfl rfl rfl h11 h8 rfl rfl (g_nx (g_mv rfl rfl (g_val rfl rfl rfl (fun _ _ => v_makeFunc (u := #[]) (u' := #[_]) rfl rfl) ?_)))
   obtain ⟨t8, h12, hm⟩ := bindO hm
   refine g_se (S' := [_, _, _]) (vs' := []) [1, 0, 2] [] 0 rfl rfl rfl rfl ?_
   refine g_callH [_] [] rfl rfl rfl rfl rfl rfl rfl Try.call132 (fun w hh => c_strip_net_changes_5 n00 s rb qa1 na1 ca1 b_1 w (HV.callee (S0 := [_]) (vs0 := []) hh (roR hh 0 rfl (roR hh 1 rfl roN))) hna1 hqa1 hla1 h8 h12) (fun l_1 h13 => ?_)
   have h14 := h13
   refine g_se (S' := [_, _, _]) (vs' := []) [0, 1, 2] [] 0 rfl rfl rfl rfl (g_nx (g_val rfl rfl rfl (fun w hh => v_loadArr RI h14 (Try.isAgg151 w) (Try.sizeOf151 w) rfl rfl (hh.bsegA 0 rfl)) (g_val rfl rfl rfl (fun w hh => v_loadArr RI h8 (Try.isAgg151 w) (Try.sizeOf151 w) rfl rfl (hh.bsegA 1 rfl)) ?_)))
   refine g_val rfl rfl rfl (fun w _ => v_eqlAgg (equal_arrI Try.underlying151 (fun w => Try.sizeOf3 w) (fun w => Try.isAgg3 w) Try.underlying3 h14 h8 w) gxeqg151 rfl rfl) ?_
   refine g_nt ?_
   refine g_cond rfl (fun h15 => ?_) (fun h15 => ?_)
   ·replace hm := ifD h15 hm
    refine g_sr (g_val rfl rfl rfl (fun w hh => v_loadArr RI h14 (Try.isAgg151 w) (Try.sizeOf151 w) rfl rfl (hh.bsegA 0 rfl)) (g_stW RI (S' := [_, _, _]) 2 (fun w => Try.sizeOf151 w) rfl rfl rfl h3 h14 rfl rfl (g_nt (g_ret (g_r_blk (g_r_then (g_r_blk ?_)))))))
    obtain rfl := sj hm
    have hbo := h9 _ rfl
    subst hbo
    refine g_r_then ?_
    replace hm := ocR h7
    obtain rfl := sj hm
    refine g_done rfl (fun w hh => (.cell rfl (loadVar_arr RI h14 (Try.isAgg151 _) (Try.sizeOf151 _) rfl (hh.bsegA 2 rfl)) .nil)) (fun w hh => ⟨(), rfl, h14, hh.se [] [] 2 rfl rfl rfl rfl⟩)
   ·replace hm := ifE h15 hm
    refine g_skip (g_n_blk ?_)
    obtain rfl := sj hm
    refine g_n_then ?_
    exact g_again' _ () rfl (h14) (sE rfl) (hsE [0, 2] [] 0 rfl rfl rfl rfl)
  ·exact fun _ hf => hf.elim
structure m_strip_Mark_R where
  r0 : Marks
  r1 : Int
structure m_strip_Mark_S0 where
  t36 : Int
  out8_strips : (List Int)
def m_strip_Mark_L0 (s0 : Scalps) (t32 : (List Int)) (s : m_strip_Mark_S0) : Option (m_strip_Mark_S0 ⊕ (List Int)) :=
 if s.t36 < (s0.strips.length : Int) then
 ((ix t32 0).bind fun t41 =>
 (addc 1 s.t36).bind fun t44 =>
 (ix t32 t44).bind fun t45 =>
 (subc t41 t45).bind fun t47 =>
 (appc 8 s.out8_strips [t47]).bind fun t49 =>
 (addc s.t36 1).bind fun t51 =>
 some (.inl (⟨t51, t49⟩ : m_strip_Mark_S0))) else
 (some (.inr s.out8_strips))
structure m_strip_Mark_S1 where
  t55 : Int
  out8_tenants : (List Int)
def m_strip_Mark_L1 (s0 : Scalps) (t32 : (List Int)) (s_1 : m_strip_Mark_S1) : Option (m_strip_Mark_S1 ⊕ (List Int)) :=
 if s_1.t55 < (s0.carried.length : Int) then
 ((addc 7 s_1.t55).bind fun t61 =>
 (ix t32 t61).bind fun t62 =>
 (ix t32 0).bind fun t64 =>
 (subc t62 t64).bind fun t66 =>
 (appc 8 s_1.out8_tenants [t66]).bind fun t68 =>
 (addc s_1.t55 1).bind fun t70 =>
 some (.inl (⟨t70, t68⟩ : m_strip_Mark_S1))) else
 (some (.inr s_1.out8_tenants))
def m_strip_Mark (s0 : Scalps) : Option m_strip_Mark_R :=
 (m_strip_opened s0).bind fun t14 =>
 oc t14 (fun t14a => some (⟨(⟨[], []⟩ : Marks), t14a⟩ : m_strip_Mark_R)) (fun t14b => (m_strip_theft s0.strips s0.carried).bind fun t24 =>
 (m_strip_desk_filled_1 s0.strips s0.carried t14b (fun p : Pair => m_strip_some_1 p s0.strips s0.carried)).bind fun t25 =>
 oc t25 (fun t25a => some (⟨(⟨[], []⟩ : Marks), 7⟩ : m_strip_Mark_R)) (fun t25b => (m_strip_net_far t25b.t12).bind fun t32 =>
 (iterM FU (m_strip_Mark_L0 s0 t32) (⟨0, []⟩ : m_strip_Mark_S0)).bind fun o =>
 (iterM FU (m_strip_Mark_L1 s0 t32) (⟨0, []⟩ : m_strip_Mark_S1)).bind fun o_1 =>
 some (⟨(⟨o, o_1⟩ : Marks), 0⟩ : m_strip_Mark_R)))
theorem c_strip_Mark (s0 : Scalps) (qa0 : Option Addr) (na0 ca0 : Nat) (qa1 : Option Addr) (na1 ca1 : Nat) (w : World) (hw : HV w (keys [] []) [] [] [(aB qa0, aO qa0, RSt.enc s0.strips), (aB qa1, aO qa1, RSp.enc s0.carried)] w) (hna0 : s0.strips.length = na0) (hqa0 : AOK na0 qa0) (hla0 : na0 ≤ ca0) (hna1 : s0.carried.length = na1) (hqa1 : AOK na1 qa1) (hla1 : na1 ≤ ca1) {res : m_strip_Mark_R} (hm : m_strip_Mark s0 = some res) :
    Calls Try.prog 39 #[.agg #[.slice qa0 na0 ca0, .slice qa1 na1 ca1]] w (fun en w' => ∃ l : VL × VL, en = .returned (.tuple #[.agg #[slv l.1.q l.1.n l.1.cap, slv l.2.q l.2.n l.2.cap], .int .i64 res.r1]) ∧ (VOK 1 l.1.n l.1.cap (RI.enc res.r0.strips) l.1.sp l.1.q ∧ VOK 1 l.2.n l.2.cap (RI.enc res.r0.tenants) l.2.sp l.2.q) ∧ HV w (keys [] []) [] [⟨3, RI.enc res.r0.strips, l.1.sp, l.1.q, []⟩, ⟨3, RI.enc res.r0.tenants, l.2.sp, l.2.q, []⟩] [] w') := by
  unfold m_strip_Mark at hm
  refine g_en Try.func39 rfl Try.ntmps39 rfl (e := [(0, _)]) rfl hw (g_sr ?_)
  refine g_boxV rfl rfl (fun b h3 => ?_)
  refine g_allocV (fun w => Try.zeroValue81 w) rfl (fun b_1 h4 => ?_)
  refine g_as rfl rfl (g_nx (g_la [_, _] 1 Try.isAgg28 Try.sizeOf28 rfl rfl rfl rfl ?_))
  obtain ⟨t14, h5, hm⟩ := bindO hm
  rcases t14 with t14a | t14b
  ·replace hm := ocL hm
   refine g_callH [] [] rfl rfl rfl rfl rfl rfl rfl Try.call65 (fun w hh => c_strip_opened s0 qa0 na0 ca0 qa1 na1 ca1 w (HV.callee (S0 := []) (vs0 := []) hh (roR hh 0 rfl (roR hh 1 rfl roN))) hna0 hqa0 hla0 hna1 hqa1 hla1 h5) (fun l h6 => ?_)
   have h7 := h6
   refine g_mv rfl rfl (g_xt rfl rfl rfl (g_xt rfl rfl rfl (g_as rfl rfl (g_as rfl rfl (g_nt (g_seq (g_sr ?_)))))))
   refine g_mv rfl rfl (g_val rfl rfl rfl (fun _ _ => v_neqT h7 rfl rfl) (g_nt (g_condT rfl rfl (g_sr (g_val rfl rfl rfl (fun _ _ => v_build (vs := []) (cells := [_, _]) rfl rfl) (g_mv rfl rfl (g_stSA (us := #[_, _]) (cs' := [_, _]) (S' := [_, _]) 0 (fun w => Try.sizeOf81 w) rfl rfl rfl rfl rfl rfl rfl ?_)))))))
   refine g_as rfl rfl (g_nt (g_ret (g_r_then (g_vnil 3 (g_vnil 3 ?_)))))
   obtain rfl := sj hm
   refine g_done rfl (fun w hh => (.cell rfl (loadVar_agg (vs := [_, _]) (Try.isAgg81 _) (Try.sizeOf81 _) (hh.cells 0 rfl rfl)) (.tmp rfl .nil))) (fun w hh => ⟨(⟨none, 0, 0, []⟩, ⟨none, 0, 0, []⟩), rfl, ⟨VOK.nil, VOK.nil⟩, hh.se [] [1, 0] 2 rfl rfl rfl rfl⟩)
  ·replace hm := ocR hm
   refine g_callH [] [] rfl rfl rfl rfl rfl rfl rfl Try.call65 (fun w hh => c_strip_opened s0 qa0 na0 ca0 qa1 na1 ca1 w (HV.callee (S0 := []) (vs0 := []) hh (roR hh 0 rfl (roR hh 1 rfl roN))) hna0 hqa0 hla0 hna1 hqa1 hla1 h5) (fun l_1 h8 => ?_)
   refine g_se (S' := [_, _, _, _]) (vs' := []) [0, 1, 2, 3] [] 0 rfl rfl rfl rfl (g_mv rfl rfl (g_xt rfl rfl rfl (g_xt rfl rfl rfl (g_as rfl rfl (g_as rfl rfl (g_nt (g_seq ?_)))))))
   refine g_sr (g_mv rfl rfl (g_val rfl rfl rfl (fun _ _ => v_neq rfl rfl) (g_nt (g_condF rfl rfl (g_skip (g_n_then (g_sr ?_)))))))
   refine g_mv rfl rfl (g_mv rfl rfl ?_)
   obtain ⟨t24, h9, hm⟩ := bindO hm
   refine g_callH [] [] rfl rfl rfl rfl rfl rfl rfl Try.call67 (fun w hh => c_strip_theft s0.strips s0.carried l_1.1 qa0 na0 ca0 qa1 na1 ca1 (.map (some l_1.2)) w (HV.callee (S0 := []) (vs0 := []) hh (roC (bsep (hh.bseg 0 rfl)) (roR hh 0 rfl (roR hh 1 rfl roN)))) hna0 hqa0 hla0 hna1 hqa1 hla1 h9) (fun l_2 h10 => ?_)
   refine g_se (S' := [_, _, _, _, _]) (vs' := []) [0, 1, 2, 3, 4] [] 0 rfl rfl rfl rfl ?_
   obtain ⟨t25, h11, hm⟩ := bindO hm
   rcases t25 with t25a | t25b
   ·replace hm := ocL hm
    refine g_se (S' := [_, _, _, _, _]) (vs' := []) [2, 0, 1, 3, 4] [] 0 rfl rfl rfl rfl ?_
    refine g_callH [_] [] rfl rfl rfl rfl rfl rfl rfl Try.call66 (fun w hh => c_strip_desk_filled_1 s0.strips s0.carried t14b (fun p : Pair => m_strip_some_1 p s0.strips s0.carried) l_1.1 qa0 na0 ca0 qa1 na1 ca1 l_1.2 122 (#[]) (#[ptr l_2 0]) ([(l_2, 0, [.func (.func 97) #[ptr l_1.1 0] #[]]), (l_1.1, 0, [.slice qa0 na0 ca0, .slice qa1 na1 ca1, .map (some l_1.2)]), (aB qa0, aO qa0, RSt.enc s0.strips), (aB qa1, aO qa1, RSp.enc s0.carried)]) w (HV.callee (S0 := [_]) (vs0 := []) hh (roA (roC (hh.bsepH 1 rfl) (roR hh 0 rfl (roR hh 1 rfl roN))) (roC (hh.bsepH 0 rfl) (roC (hh.bsepH 1 rfl) (roR hh 0 rfl (roR hh 1 rfl roN)))))) hna0 hqa0 hla0 hna1 hqa1 hla1 (⟨fun a w => Try.call122 a w, (fun p r hr w hT => clRet (c_strip_some_1 p s0.strips s0.carried l_2 l_1.1 qa0 na0 ca0 qa1 na1 ca1 (.map (some l_1.2)) w (HVstart hT) hna0 hqa0 hla0 hna1 hqa1 hla1 hr))⟩ : ClOK Try.prog 122 #[] #[ptr l_2 0] ([(l_2, 0, [.func (.func 97) #[ptr l_1.1 0] #[]]), (l_1.1, 0, [.slice qa0 na0 ca0, .slice qa1 na1 ca1, .map (some l_1.2)]), (aB qa0, aO qa0, RSt.enc s0.strips), (aB qa1, aO qa1, RSp.enc s0.carried)]) (fun x : Pair => [.agg #[.int .i64 x.tenant, .int .i64 x.strip]]) (fun x : Int => .int .i64 x) (fun p : Pair => m_strip_some_1 p s0.strips s0.carried)) h11) (fun l_3 h12 => ?_)
    have h13 := h12
    refine g_se (S' := [_, _, _, _, _]) (vs' := [_]) [0, 1, 2, 3, 4] [0] 0 rfl rfl rfl rfl (g_mv rfl rfl (g_xt rfl rfl rfl (g_xt rfl rfl rfl ?_)))
    refine g_allocV (fun w => Try.zeroValue61 w) rfl (fun b_2 h14 => ?_)
    refine g_as rfl rfl (g_stSA (us := #[_, _]) (cs' := [_, _]) (S' := [_, _, _, _, _, _]) 0 (fun w => Try.sizeOf61 w) rfl rfl rfl rfl rfl rfl rfl (g_nt (g_seq (g_sr (g_mv rfl rfl (g_val rfl rfl rfl (fun w _ => v_eqlPtr (Try.runUnderlying118 w) rfl rfl) (g_nt ?_)))))))
    refine g_condT rfl rfl (g_sr (g_val rfl rfl rfl (fun _ _ => v_build (vs := []) (cells := [_, _]) rfl rfl) (g_stSA (us := #[_, _]) (cs' := [_, _]) (S' := [_, _, _, _, _, _]) 4 (fun w => Try.sizeOf81 w) rfl rfl rfl rfl rfl rfl rfl (g_as rfl rfl (g_nt (g_ret (g_r_then ?_)))))))
    refine g_vnil 3 (g_vnil 3 ?_)
    obtain rfl := sj hm
    refine g_done rfl (fun w hh => (.cell rfl (loadVar_agg (vs := [_, _]) (Try.isAgg81 _) (Try.sizeOf81 _) (hh.cells 4 rfl rfl)) (.tmp rfl .nil))) (fun w hh => ⟨(⟨none, 0, 0, []⟩, ⟨none, 0, 0, []⟩), rfl, ⟨VOK.nil, VOK.nil⟩, hh.se [] [1, 0] 2 rfl rfl rfl rfl⟩)
   ·replace hm := ocR hm
    refine g_se (S' := [_, _, _, _, _]) (vs' := []) [2, 0, 1, 3, 4] [] 0 rfl rfl rfl rfl ?_
    refine g_callH [_] [] rfl rfl rfl rfl rfl rfl rfl Try.call66 (fun w hh => c_strip_desk_filled_1 s0.strips s0.carried t14b (fun p : Pair => m_strip_some_1 p s0.strips s0.carried) l_1.1 qa0 na0 ca0 qa1 na1 ca1 l_1.2 122 (#[]) (#[ptr l_2 0]) ([(l_2, 0, [.func (.func 97) #[ptr l_1.1 0] #[]]), (l_1.1, 0, [.slice qa0 na0 ca0, .slice qa1 na1 ca1, .map (some l_1.2)]), (aB qa0, aO qa0, RSt.enc s0.strips), (aB qa1, aO qa1, RSp.enc s0.carried)]) w (HV.callee (S0 := [_]) (vs0 := []) hh (roA (roC (hh.bsepH 1 rfl) (roR hh 0 rfl (roR hh 1 rfl roN))) (roC (hh.bsepH 0 rfl) (roC (hh.bsepH 1 rfl) (roR hh 0 rfl (roR hh 1 rfl roN)))))) hna0 hqa0 hla0 hna1 hqa1 hla1 (⟨fun a w => Try.call122 a w, (fun p r hr w hT => clRet (c_strip_some_1 p s0.strips s0.carried l_2 l_1.1 qa0 na0 ca0 qa1 na1 ca1 (.map (some l_1.2)) w (HVstart hT) hna0 hqa0 hla0 hna1 hqa1 hla1 hr))⟩ : ClOK Try.prog 122 #[] #[ptr l_2 0] ([(l_2, 0, [.func (.func 97) #[ptr l_1.1 0] #[]]), (l_1.1, 0, [.slice qa0 na0 ca0, .slice qa1 na1 ca1, .map (some l_1.2)]), (aB qa0, aO qa0, RSt.enc s0.strips), (aB qa1, aO qa1, RSp.enc s0.carried)]) (fun x : Pair => [.agg #[.int .i64 x.tenant, .int .i64 x.strip]]) (fun x : Int => .int .i64 x) (fun p : Pair => m_strip_some_1 p s0.strips s0.carried)) h11) (fun l_4 h15 => ?_)
    obtain ⟨h16, h17⟩ := h15
    refine g_se (S' := [_, _, _, _, _, _]) (vs' := [_, _]) [0, 1, 2, 3, 4, 5] [0, 1] 0 rfl rfl rfl rfl (g_mv rfl rfl (g_xt rfl rfl rfl (g_xt rfl rfl rfl ?_)))
    refine g_allocV (fun w => Try.zeroValue61 w) rfl (fun b_3 h18 => ?_)
    refine g_as rfl rfl (g_stSA (us := #[_, _]) (cs' := [_, _]) (S' := [_, _, _, _, _, _, _]) 0 (fun w => Try.sizeOf61 w) rfl rfl rfl rfl rfl rfl rfl (g_nt (g_seq (g_sr (g_mv rfl rfl (g_val rfl rfl rfl (fun w _ => v_eqlPtr (Try.runUnderlying118 w) rfl rfl) (g_nt ?_)))))))
    refine g_condF rfl rfl (g_skip (g_n_then (g_sr ?_)))
    refine g_allocV (fun w => Try.zeroValue81 w) rfl (fun b_4 h19 => ?_)
    refine g_nx (g_mv rfl rfl ?_)
    obtain ⟨t32, h20, hm⟩ := bindO hm
    refine g_callH [] [] rfl rfl rfl rfl rfl rfl rfl Try.call98 (fun w hh => c_strip_net_far t25b.t12 l_4.1 (qA l_4.2.2.q) l_4.2.2.n l_4.2.2.cap w (HV.callee (S0 := []) (vs0 := []) hh (roC (bsep (hh.bseg 3 rfl)) (roC (hh.vsepA 1 rfl h17) roN))) (vlen RWay h17 rfl) (AOK.q (vne h17)) (h17).hle h20) (fun l_5 h21 => ?_)
    have h22 := h21
    refine g_allocA RI (l := (List.replicate 12 0 : (List Int))) (k := 12) (fun w => Try.zeroValue151 w) rfl rfl rfl (fun b_5 h23 h24 => ?_)
    refine g_stW RI (S' := [_, _, _, _, _, _, _, _, _]) 0 (fun w => Try.sizeOf151 w) rfl rfl rfl h24 h22 rfl rfl (g_nt (g_seq (g_sr (g_fa 0 Try.runUnderlying28 rfl Try.sizeOf25 rfl rfl (g_lc 8 Try.isAgg25 rfl rfl rfl rfl (g_val rfl rfl rfl (fun w _ => v_lenR hna0 (Try.runUnderlying25 w) rfl) (g_mv rfl rfl ?_)))))))
    refine g_nt (g_vnil 3 ?_)
    obtain ⟨o, h25, h26⟩ := bindO hm
    refine g_cut (ι := VL) (fun l_6 => VOK 1 l_6.n l_6.cap (RI.enc o) l_6.sp l_6.q) (fun l_6 => [(1, ptr b 0), (2, ptr b_1 0), (8, ptr b_4 0), (9, ptr b_5 0)]) (fun l_6 => [(b_5, .cells (RI.enc t32).toArray 151 (0, 0)), (b_4, .cells #[slv l_6.q l_6.n l_6.cap, slv none 0 0] 81 (0, 0)), (b_3, .cells #[.bool t25b.r1.tenants, slv l_4.2.1.q l_4.2.1.n l_4.2.1.cap] 61 (0, 0)), (l_1.2, gobj (kR RPr) kB t14b), (l_4.1, .cells #[slv l_4.2.2.q l_4.2.2.n l_4.2.2.cap] 168 (0, 0)), (l_2, .cells #[.func (.func 97) #[ptr l_1.1 0] #[]] 131 (0, 0)), (l_1.1, .cells #[.slice qa0 na0 ca0, .slice qa1 na1 ca1, .map (some l_1.2)] 163 (0, 0)), (b_1, .cells #[slv none 0 0, slv none 0 0] 81 (0, 0)), (b, .cells #[.slice qa0 na0 ca0, .slice qa1 na1 ca1] 28 (0, 0))]) (fun l_6 => [⟨3, RI.enc o, l_6.sp, l_6.q, []⟩, ⟨3, RI.enc t25b.r1.of_, l_4.2.1.sp, l_4.2.1.q, []⟩, ⟨170, RWay.enc t25b.t12, l_4.2.2.sp, l_4.2.2.q, []⟩]) ?_ ?_
    ·replace hm := h25
     refine g_block ?_
     refine g_loopF (ι := VL) hm (fun s l_7 => VOK 1 l_7.n l_7.cap (RI.enc s.out8_strips) l_7.sp l_7.q) (fun s l_7 => [(1, ptr b 0), (2, ptr b_1 0), (8, ptr b_4 0), (9, ptr b_5 0), (35, .int .i64 (s0.strips.length : Int)), (36, .int .i64 s.t36)]) (fun s l_7 => [(b_5, .cells (RI.enc t32).toArray 151 (0, 0)), (b_4, .cells #[slv l_7.q l_7.n l_7.cap, slv none 0 0] 81 (0, 0)), (b_3, .cells #[.bool t25b.r1.tenants, slv l_4.2.1.q l_4.2.1.n l_4.2.1.cap] 61 (0, 0)), (l_1.2, gobj (kR RPr) kB t14b), (l_4.1, .cells #[slv l_4.2.2.q l_4.2.2.n l_4.2.2.cap] 168 (0, 0)), (l_2, .cells #[.func (.func 97) #[ptr l_1.1 0] #[]] 131 (0, 0)), (l_1.1, .cells #[.slice qa0 na0 ca0, .slice qa1 na1 ca1, .map (some l_1.2)] 163 (0, 0)), (b_1, .cells #[slv none 0 0, slv none 0 0] 81 (0, 0)), (b, .cells #[.slice qa0 na0 ca0, .slice qa1 na1 ca1] 28 (0, 0))]) (fun s l_7 => [⟨3, RI.enc s.out8_strips, l_7.sp, l_7.q, []⟩, ⟨3, RI.enc t25b.r1.of_, l_4.2.1.sp, l_4.2.1.q, []⟩, ⟨170, RWay.enc t25b.t12, l_4.2.2.sp, l_4.2.2.q, []⟩]) ⟨none, 0, 0, []⟩ (VOK.nil) (sE rfl) (fun w hh => hh) (fun s l_7 r hpl hm h29 => ?_)
     have h28 := hpl
     unfold m_strip_Mark_L0 at hm
     refine g_sr (g_ls rfl rfl rfl (g_nt (g_seq ?_)))
     refine g_cond rfl (fun h30 => ?_) (fun h30 => ?_)
     ·replace hm := ifD h30 hm
      refine g_skip (g_n_then (g_seq (g_block (g_sr (g_mv rfl rfl (g_as rfl rfl (g_nt ?_)))))))
      refine g_draw (some 12) (.free 0 (.hoist 1 (.free 2 (.hoist 3 (.free 4 (.free 5 (.free 6 (.hoist 7 (.free 8 (.one 9 (.one 10 (.free 11 (.last 12 .done))))))))))))) (HV _ _ [(b_5, .cells (RI.enc t32).toArray 151 (0, 0)), (b_4, .cells #[slv l_7.q l_7.n l_7.cap, slv none 0 0] 81 (0, 0)), (b_3, .cells #[.bool t25b.r1.tenants, slv l_4.2.1.q l_4.2.1.n l_4.2.1.cap] 61 (0, 0)), (l_1.2, gobj (kR RPr) kB t14b), (l_4.1, .cells #[slv l_4.2.2.q l_4.2.2.n l_4.2.2.cap] 168 (0, 0)), (l_2, .cells #[.func (.func 97) #[ptr l_1.1 0] #[]] 131 (0, 0)), (l_1.1, .cells #[.slice qa0 na0 ca0, .slice qa1 na1 ca1, .map (some l_1.2)] 163 (0, 0)), (b_1, .cells #[slv none 0 0, slv none 0 0] 81 (0, 0)), (b, .cells #[.slice qa0 na0 ca0, .slice qa1 na1 ca1] 28 (0, 0))] [⟨3, RI.enc t25b.r1.of_, l_4.2.1.sp, l_4.2.1.q, []⟩, ⟨170, RWay.enc t25b.t12, l_4.2.2.sp, l_4.2.2.q, []⟩] _) rfl (by decide +kernel) (fun w k hh => hh.draw k) (hsE [0, 1, 2, 3, 4, 5, 6, 7, 8] [1, 2] 0 rfl rfl rfl rfl) ?_
      refine p_fa 0 Try.runUnderlying81 Try.sizeOf32 rfl rfl rfl rfl (p_lc 1 Try.isAgg32 rfl rfl rfl rfl rfl ?_)
      obtain ⟨t41, h31, hm⟩ := bindO hm
      refine p_free rfl rfl rfl rfl (fun w _ => v_ixB h31 h22 (Try.runUnderlying151 w) (Try.sizeOf3 w) rfl rfl) (p_hoist rfl rfl rfl rfl (fun w hh => v_ldE RI 0 h31 (Try.isAgg3 w) rfl (hh.bsegA 0 rfl) rfl (Nat.add_zero _).symm) (p_mv rfl rfl rfl ?_))
      obtain ⟨t44, h32, hm⟩ := bindO hm
      refine p_free rfl rfl rfl rfl (fun _ _ => v_addc h32 rfl rfl) ?_
      obtain ⟨t45, h33, hm⟩ := bindO hm
      refine p_free rfl rfl rfl rfl (fun w _ => v_ixB h33 h22 (Try.runUnderlying151 w) (Try.sizeOf3 w) rfl rfl) (p_hoist rfl rfl rfl rfl (fun w hh => v_ldE RI 0 h33 (Try.isAgg3 w) rfl (hh.bsegA 0 rfl) rfl (Nat.add_zero _).symm) ?_)
      obtain ⟨t47, h34, hm⟩ := bindO hm
      refine p_free rfl rfl rfl rfl (fun _ _ => v_subc h34 rfl rfl) (p_one rfl ?_)
      refine g_vlit RI [t47] (ps := [(0, _)]) (cells := [_]) (fun w => Try.runUnderlying32 w) (fun w => Try.sizeOf3 w) (fun w => Try.zeroValue3 w) rfl rfl rfl rfl rfl rfl rfl rfl (fun L h35 => ?_)
      refine p_next (hsE [0, 1, 2, 3, 4, 5, 6, 7, 8] [2, 3] 0 rfl rfl rfl rfl) (p_one rfl ?_)
      obtain ⟨t49, h36, hm⟩ := bindO hm
      refine g_vapp RI 1 h36 Try.underlying32 gxinf3 rfl rfl rfl rfl rfl h28 rfl rfl (vlen RI h35 rfl) (AOK.q (vne h35)) (fun w hh => (hh.vsegA 0 rfl h35)) rfl (fun L_1 h37 h37n => ?_)
      refine g_se (S' := [_, _, _, _, _, _, _, _, _]) (vs' := [_, _, _, _]) [0, 1, 2, 3, 4, 5, 6, 7, 8] [0, 1, 2, 3] 0 rfl rfl rfl rfl (p_next (hsE [0, 1, 2, 3, 4, 5, 6, 7, 8] [2, 3] 0 rfl rfl rfl rfl) (p_fa 0 Try.runUnderlying81 Try.sizeOf32 rfl rfl rfl rfl (p_last rfl (g_stS (cs' := #[_, _]) (S' := [_, _, _, _, _, _, _, _, _]) 1 (fun w => Try.sizeOf32 w) rfl rfl rfl rfl rfl rfl rfl (p_nextL (p_done (g_n_blk ?_)))))))
      refine g_n_then (g_region ?_)
      obtain ⟨t51, h38, hm⟩ := bindO hm
      refine g_ac h38 rfl rfl rfl (g_mv rfl rfl (g_nil ?_))
      obtain rfl := sj hm
      refine g_n_then ?_
      exact g_again' _ L_1 rfl (h37) (sE rfl) (hsE [0, 1, 2, 3, 4, 5, 6, 7, 8] [1, 2, 3] 0 rfl rfl rfl rfl)
     ·replace hm := ifE h30 hm
      refine g_exit (g_x_then (g_x_then (g_x_blk ?_)))
      obtain rfl := sj hm
      have hbo := h29 _ rfl
      subst hbo
      exact g_leaf l_7 (h28) (sE rfl) (fun w hh => hh)
    ·intro l_6 hj
     have h27 := hj
     replace hm := h26
     refine g_n_then (g_seq (g_sr (g_fa 1 Try.runUnderlying28 rfl Try.sizeOf26 rfl rfl (g_lc 8 Try.isAgg26 rfl rfl rfl rfl (g_val rfl rfl rfl (fun w _ => v_lenR hna1 (Try.runUnderlying26 w) rfl) (g_mv rfl rfl (g_nt ?_)))))))
     refine g_vnil 3 ?_
     obtain ⟨o_1, h39, h40⟩ := bindO hm
     refine g_cut (ι := VL) (fun l_8 => VOK 1 l_8.n l_8.cap (RI.enc o_1) l_8.sp l_8.q) (fun l_8 => [(2, ptr b_1 0), (8, ptr b_4 0)]) (fun l_8 => [(b_5, .cells (RI.enc t32).toArray 151 (0, 0)), (b_4, .cells #[slv l_6.q l_6.n l_6.cap, slv l_8.q l_8.n l_8.cap] 81 (0, 0)), (b_3, .cells #[.bool t25b.r1.tenants, slv l_4.2.1.q l_4.2.1.n l_4.2.1.cap] 61 (0, 0)), (l_1.2, gobj (kR RPr) kB t14b), (l_4.1, .cells #[slv l_4.2.2.q l_4.2.2.n l_4.2.2.cap] 168 (0, 0)), (l_2, .cells #[.func (.func 97) #[ptr l_1.1 0] #[]] 131 (0, 0)), (l_1.1, .cells #[.slice qa0 na0 ca0, .slice qa1 na1 ca1, .map (some l_1.2)] 163 (0, 0)), (b_1, .cells #[slv none 0 0, slv none 0 0] 81 (0, 0)), (b, .cells #[.slice qa0 na0 ca0, .slice qa1 na1 ca1] 28 (0, 0))]) (fun l_8 => [⟨3, RI.enc o, l_6.sp, l_6.q, []⟩, ⟨3, RI.enc o_1, l_8.sp, l_8.q, []⟩, ⟨3, RI.enc t25b.r1.of_, l_4.2.1.sp, l_4.2.1.q, []⟩, ⟨170, RWay.enc t25b.t12, l_4.2.2.sp, l_4.2.2.q, []⟩]) ?_ ?_
     ·replace hm := h39
      refine g_block ?_
      refine g_loopF (ι := VL) hm (fun s_1 l_9 => VOK 1 l_9.n l_9.cap (RI.enc s_1.out8_tenants) l_9.sp l_9.q) (fun s_1 l_9 => [(2, ptr b_1 0), (8, ptr b_4 0), (9, ptr b_5 0), (54, .int .i64 (s0.carried.length : Int)), (55, .int .i64 s_1.t55)]) (fun s_1 l_9 => [(b_5, .cells (RI.enc t32).toArray 151 (0, 0)), (b_4, .cells #[slv l_6.q l_6.n l_6.cap, slv l_9.q l_9.n l_9.cap] 81 (0, 0)), (b_3, .cells #[.bool t25b.r1.tenants, slv l_4.2.1.q l_4.2.1.n l_4.2.1.cap] 61 (0, 0)), (l_1.2, gobj (kR RPr) kB t14b), (l_4.1, .cells #[slv l_4.2.2.q l_4.2.2.n l_4.2.2.cap] 168 (0, 0)), (l_2, .cells #[.func (.func 97) #[ptr l_1.1 0] #[]] 131 (0, 0)), (l_1.1, .cells #[.slice qa0 na0 ca0, .slice qa1 na1 ca1, .map (some l_1.2)] 163 (0, 0)), (b_1, .cells #[slv none 0 0, slv none 0 0] 81 (0, 0)), (b, .cells #[.slice qa0 na0 ca0, .slice qa1 na1 ca1] 28 (0, 0))]) (fun s_1 l_9 => [⟨3, RI.enc o, l_6.sp, l_6.q, []⟩, ⟨3, RI.enc s_1.out8_tenants, l_9.sp, l_9.q, []⟩, ⟨3, RI.enc t25b.r1.of_, l_4.2.1.sp, l_4.2.1.q, []⟩, ⟨170, RWay.enc t25b.t12, l_4.2.2.sp, l_4.2.2.q, []⟩]) ⟨none, 0, 0, []⟩ (VOK.nil) (sE rfl) (hsE [0, 1, 2, 3, 4, 5, 6, 7, 8] [1, 0, 2, 3] 0 rfl rfl rfl rfl) (fun s_1 l_9 r_1 hpl hm h43 => ?_)
      have h42 := hpl
      unfold m_strip_Mark_L1 at hm
      refine g_sr (g_ls rfl rfl rfl (g_nt (g_seq ?_)))
      refine g_cond rfl (fun h44 => ?_) (fun h44 => ?_)
      ·replace hm := ifD h44 hm
       refine g_skip (g_n_then (g_seq (g_block (g_sr (g_mv rfl rfl (g_as rfl rfl (g_nt ?_)))))))
       refine g_draw (some 12) (.free 0 (.hoist 1 (.free 2 (.free 3 (.free 4 (.hoist 5 (.free 6 (.hoist 7 (.free 8 (.one 9 (.one 10 (.free 11 (.last 12 .done))))))))))))) (HV _ _ [(b_5, .cells (RI.enc t32).toArray 151 (0, 0)), (b_4, .cells #[slv l_6.q l_6.n l_6.cap, slv l_9.q l_9.n l_9.cap] 81 (0, 0)), (b_3, .cells #[.bool t25b.r1.tenants, slv l_4.2.1.q l_4.2.1.n l_4.2.1.cap] 61 (0, 0)), (l_1.2, gobj (kR RPr) kB t14b), (l_4.1, .cells #[slv l_4.2.2.q l_4.2.2.n l_4.2.2.cap] 168 (0, 0)), (l_2, .cells #[.func (.func 97) #[ptr l_1.1 0] #[]] 131 (0, 0)), (l_1.1, .cells #[.slice qa0 na0 ca0, .slice qa1 na1 ca1, .map (some l_1.2)] 163 (0, 0)), (b_1, .cells #[slv none 0 0, slv none 0 0] 81 (0, 0)), (b, .cells #[.slice qa0 na0 ca0, .slice qa1 na1 ca1] 28 (0, 0))] [⟨3, RI.enc o, l_6.sp, l_6.q, []⟩, ⟨3, RI.enc t25b.r1.of_, l_4.2.1.sp, l_4.2.1.q, []⟩, ⟨170, RWay.enc t25b.t12, l_4.2.2.sp, l_4.2.2.q, []⟩] _) rfl (by decide +kernel) (fun w k hh => hh.draw k) (hsE [0, 1, 2, 3, 4, 5, 6, 7, 8] [0, 2, 3] 0 rfl rfl rfl rfl) ?_
       refine p_fa 1 Try.runUnderlying81 Try.sizeOf32 rfl rfl rfl rfl (p_lc 1 Try.isAgg32 rfl rfl rfl rfl rfl (p_mv rfl rfl rfl ?_))
       obtain ⟨t61, h45, hm⟩ := bindO hm
       refine p_free rfl rfl rfl rfl (fun _ _ => v_addc h45 rfl rfl) ?_
       obtain ⟨t62, h46, hm⟩ := bindO hm
       refine p_free rfl rfl rfl rfl (fun w _ => v_ixB h46 h22 (Try.runUnderlying151 w) (Try.sizeOf3 w) rfl rfl) (p_hoist rfl rfl rfl rfl (fun w hh => v_ldE RI 0 h46 (Try.isAgg3 w) rfl (hh.bsegA 0 rfl) rfl (Nat.add_zero _).symm) ?_)
       obtain ⟨t64, h47, hm⟩ := bindO hm
       refine p_free rfl rfl rfl rfl (fun w _ => v_ixB h47 h22 (Try.runUnderlying151 w) (Try.sizeOf3 w) rfl rfl) (p_hoist rfl rfl rfl rfl (fun w hh => v_ldE RI 0 h47 (Try.isAgg3 w) rfl (hh.bsegA 0 rfl) rfl (Nat.add_zero _).symm) ?_)
       obtain ⟨t66, h48, hm⟩ := bindO hm
       refine p_free rfl rfl rfl rfl (fun _ _ => v_subc h48 rfl rfl) (p_one rfl ?_)
       refine g_vlit RI [t66] (ps := [(0, _)]) (cells := [_]) (fun w => Try.runUnderlying32 w) (fun w => Try.sizeOf3 w) (fun w => Try.zeroValue3 w) rfl rfl rfl rfl rfl rfl rfl rfl (fun L_2 h49 => ?_)
       refine p_next (hsE [0, 1, 2, 3, 4, 5, 6, 7, 8] [1, 3, 4] 0 rfl rfl rfl rfl) (p_one rfl ?_)
       obtain ⟨t68, h50, hm⟩ := bindO hm
       refine g_vapp RI 2 h50 Try.underlying32 gxinf3 rfl rfl rfl rfl rfl h42 rfl rfl (vlen RI h49 rfl) (AOK.q (vne h49)) (fun w hh => (hh.vsegA 0 rfl h49)) rfl (fun L_3 h51 h51n => ?_)
       refine g_se (S' := [_, _, _, _, _, _, _, _, _]) (vs' := [_, _, _, _, _]) [0, 1, 2, 3, 4, 5, 6, 7, 8] [0, 1, 2, 3, 4] 0 rfl rfl rfl rfl (p_next (hsE [0, 1, 2, 3, 4, 5, 6, 7, 8] [1, 3, 4] 0 rfl rfl rfl rfl) (p_fa 1 Try.runUnderlying81 Try.sizeOf32 rfl rfl rfl rfl (p_last rfl (g_stS (cs' := #[_, _]) (S' := [_, _, _, _, _, _, _, _, _]) 1 (fun w => Try.sizeOf32 w) rfl rfl rfl rfl rfl rfl rfl (p_nextL (p_done (g_n_blk ?_)))))))
       refine g_n_then (g_region ?_)
       obtain ⟨t70, h52, hm⟩ := bindO hm
       refine g_ac h52 rfl rfl rfl (g_mv rfl rfl (g_nil ?_))
       obtain rfl := sj hm
       refine g_n_then ?_
       exact g_again' _ L_3 rfl (h51) (sE rfl) (hsE [0, 1, 2, 3, 4, 5, 6, 7, 8] [1, 2, 3, 4] 0 rfl rfl rfl rfl)
      ·replace hm := ifE h44 hm
       refine g_exit (g_x_then (g_x_then (g_x_blk ?_)))
       obtain rfl := sj hm
       have hbo := h43 _ rfl
       subst hbo
       exact g_leaf l_9 (h42) (sE rfl) (fun w hh => hh)
     ·intro l_8 hj
      have h41 := hj
      replace hm := h40
      refine g_n_then (g_sr (g_la [_, _] 1 Try.isAgg81 Try.sizeOf81 rfl rfl rfl rfl (g_stSA (us := #[_, _]) (cs' := [_, _]) (S' := [_, _, _, _, _, _, _, _, _]) 7 (fun w => Try.sizeOf81 w) rfl rfl rfl rfl rfl rfl rfl (g_as rfl rfl (g_nt (g_ret ?_))))))
      obtain rfl := sj hm
      refine g_done rfl (fun w hh => (.cell rfl (loadVar_agg (vs := [_, _]) (Try.isAgg81 _) (Try.sizeOf81 _) (hh.cells 7 rfl rfl)) (.tmp rfl .nil))) (fun w hh => ⟨(l_6, l_8), rfl, ⟨h27, h41⟩, hh.se [] [0, 1] 2 rfl rfl rfl rfl⟩)
end Go.Proofs.Ws

namespace Go.Proofs.Ws
set_option maxHeartbeats 4000000
set_option maxRecDepth 100000
open Go Go.Fw Go.Gx Go.Sp
set_option linter.unusedVariables false
structure m_laurellaw09_StripProved_C2 where
  t5_1 : Int
  t5_2 : Int
structure m_laurellaw09_StripProved_S0 where
  t135 : Int
  t5_1 : Int
  t5_2 : Int
structure m_laurellaw09_StripProved_C3 where
  t5_1 : Int
  t5_2 : Int
  own19_strips : (List Int)
structure m_laurellaw09_StripProved_S1 where
  t140 : Int
  t5_1 : Int
  t5_2 : Int
  own19_strips : (List Int)
def m_laurellaw09_StripProved_L1 (t33 : m_laurellaw09_Made_1_R) (t50 : m_strip_Mark_R) (tries1 : (List Int)) (s_1 : m_laurellaw09_StripProved_S1) : Option (m_laurellaw09_StripProved_S1 ⊕ m_laurellaw09_StripProved_C3) :=
 if s_1.t140 < (t33.r0.strips.length : Int) then
 ((ix t50.r0.strips s_1.t140).bind fun t148 =>
 (m_laurelkit_Heap_From_1 tries1 s_1.t5_1 s_1.t5_2 (-1) 1).bind fun t151 =>
 (addc t148 t151.r0).bind fun t152 =>
 (appc 8 s_1.own19_strips [t152]).bind fun t154 =>
 (addc s_1.t140 1).bind fun t156 =>
 some (.inl (⟨t156, t151.h0_1, t151.h0_2, t154⟩ : m_laurellaw09_StripProved_S1))) else
 (some (.inr (⟨s_1.t5_1, s_1.t5_2, s_1.own19_strips⟩ : m_laurellaw09_StripProved_C3)))
structure m_laurellaw09_StripProved_C4 where
  t5_1 : Int
  t5_2 : Int
  own19_tenants : (List Int)
structure m_laurellaw09_StripProved_S2 where
  t160 : Int
  t5_1 : Int
  t5_2 : Int
  own19_tenants : (List Int)
def m_laurellaw09_StripProved_L2 (t33 : m_laurellaw09_Made_1_R) (t50 : m_strip_Mark_R) (tries1 : (List Int)) (s_2 : m_laurellaw09_StripProved_S2) : Option (m_laurellaw09_StripProved_S2 ⊕ m_laurellaw09_StripProved_C4) :=
 if s_2.t160 < (t33.r0.carried.length : Int) then
 ((ix t50.r0.tenants s_2.t160).bind fun t168 =>
 (m_laurelkit_Heap_From_1 tries1 s_2.t5_1 s_2.t5_2 (-1) 1).bind fun t171 =>
 (addc t168 t171.r0).bind fun t172 =>
 (appc 8 s_2.own19_tenants [t172]).bind fun t174 =>
 (addc s_2.t160 1).bind fun t176 =>
 some (.inl (⟨t176, t171.h0_1, t171.h0_2, t174⟩ : m_laurellaw09_StripProved_S2))) else
 (some (.inr (⟨s_2.t5_1, s_2.t5_2, s_2.own19_tenants⟩ : m_laurellaw09_StripProved_C4)))
structure m_laurellaw09_StripProved_S3 where
  holds22 : Bool
  t180 : Int
structure m_laurellaw09_StripProved_S4 where
  holds22 : Bool
  t188 : Int
def m_laurellaw09_StripProved_L4 (o_3 : m_laurellaw09_StripProved_C3) (t33 : m_laurellaw09_Made_1_R) (s_3 : m_laurellaw09_StripProved_S3) (t183 : Int) (s_4 : m_laurellaw09_StripProved_S4) : Option (m_laurellaw09_StripProved_S4 ⊕ Bool) :=
 if s_4.t188 < (o_3.own19_strips.length : Int) then
 (((ix o_3.own19_strips s_4.t188).bind fun t191 =>
 ((ix t33.r0.strips s_4.t188).bind fun t196 =>
 if t196.tenant = s_3.t180 then
 (some 0) else
 (some 1)).bind fun o_8 =>
 if s_4.holds22 = true then
 ((m_laurellaw09_reaches t33.r0 s_3.t180 s_4.t188).bind fun t206 =>
 if (!t206) = true then
 (some true) else
 ((addc t183 t191).bind fun t211 =>
 some (decide (t211 ≤ o_8)))) else
 (some false)).bind fun o_7 =>
 (addc s_4.t188 1).bind fun t216 =>
 some (.inl (⟨o_7, t216⟩ : m_laurellaw09_StripProved_S4))) else
 (some (.inr s_4.holds22))
def m_laurellaw09_StripProved_L3 (o_4 : m_laurellaw09_StripProved_C4) (o_3 : m_laurellaw09_StripProved_C3) (t33 : m_laurellaw09_Made_1_R) (s_3 : m_laurellaw09_StripProved_S3) : Option (m_laurellaw09_StripProved_S3 ⊕ Bool) :=
 if s_3.t180 < (o_4.own19_tenants.length : Int) then
 ((ix o_4.own19_tenants s_3.t180).bind fun t183 =>
 (iterM FU (m_laurellaw09_StripProved_L4 o_3 t33 s_3 t183) (⟨s_3.holds22, 0⟩ : m_laurellaw09_StripProved_S4)).bind fun o_6 =>
 (addc s_3.t180 1).bind fun t217 =>
 some (.inl (⟨o_6, t217⟩ : m_laurellaw09_StripProved_S3))) else
 (some (.inr s_3.holds22))
def m_laurellaw09_StripProved_L0 (t33 : m_laurellaw09_Made_1_R) (t50 : m_strip_Mark_R) (tries1 : (List Int)) (t38 : m_strip_Least_R) (s : m_laurellaw09_StripProved_S0) : Option (m_laurellaw09_StripProved_S0 ⊕ (m_laurellaw09_StripProved_C2 ⊕ Bool)) :=
 if s.t135 < 12 then
 ((iterM FU (m_laurellaw09_StripProved_L1 t33 t50 tries1) (⟨0, s.t5_1, s.t5_2, []⟩ : m_laurellaw09_StripProved_S1)).bind fun o_3 =>
 (iterM FU (m_laurellaw09_StripProved_L2 t33 t50 tries1) (⟨0, o_3.t5_1, o_3.t5_2, []⟩ : m_laurellaw09_StripProved_S2)).bind fun o_4 =>
 (iterM FU (m_laurellaw09_StripProved_L3 o_4 o_3 t33) (⟨true, 0⟩ : m_laurellaw09_StripProved_S3)).bind fun o_5 =>
 (m_strip_Proves t33.r0 (⟨o_3.own19_strips, o_4.own19_tenants⟩ : Marks)).bind fun t221 =>
 (if t221.r1 = 0 then
 (if t221.r1 = 0 then
 (if (!o_5) = true then
 (some true) else
 (if t38.r1 < t221.r0 then
 (some true) else
 (if t221.r1 = 8 then
 (some o_5) else
 (some false)))) else
 (if t221.r1 = 8 then
 (some o_5) else
 (some false))) else
 (if t221.r1 = 8 then
 (if t221.r1 = 0 then
 (if (!o_5) = true then
 (some true) else
 (if t38.r1 < t221.r0 then
 (some true) else
 (if t221.r1 = 8 then
 (some o_5) else
 (some false)))) else
 (if t221.r1 = 8 then
 (some o_5) else
 (some false))) else
 (if t221.r1 = 3 then
 (if t221.r1 = 0 then
 (if (!o_5) = true then
 (some true) else
 (if t38.r1 < t221.r0 then
 (some true) else
 (if t221.r1 = 8 then
 (some o_5) else
 (some false)))) else
 (if t221.r1 = 8 then
 (some o_5) else
 (some false))) else
 (some true)))).bind fun o_9 =>
 if o_9 = true then
 (some (.inr (.inr false))) else
 ((addc s.t135 1).bind fun t254 =>
 some (.inl (⟨t254, o_4.t5_1, o_4.t5_2⟩ : m_laurellaw09_StripProved_S0)))) else
 (some (.inr (.inl (⟨s.t5_1, s.t5_2⟩ : m_laurellaw09_StripProved_C2))))
def m_laurellaw09_StripProved (numbers0 : (List Int)) (tries1 : (List Int)) : Option Bool :=
 (m_laurelkit_Pile numbers0).bind fun t32 =>
 (m_laurellaw09_Made_1 numbers0 t32.t5_1 t32.t5_2 6 5).bind fun t33 =>
 (m_strip_Least t33.r0).bind fun t38 =>
 (m_strip_Most t33.r0).bind fun t44 =>
 (m_strip_Mark t33.r0).bind fun t50 =>
 (m_strip_Proves t33.r0 t50.r0).bind fun t56 =>
 (if t38.r2 = 0 then
 (if t44.r2 = 0 then
 (if t50.r1 = 0 then
 (if t56.r1 = 0 then
 (if (t50.r0.strips.length : Int) = (t33.r0.strips.length : Int) then
 (if (t50.r0.tenants.length : Int) = (t33.r0.carried.length : Int) then
 (if t56.r0 = t38.r1 then
 ((m_laurellaw09_fits t33.r0 t38.r0).bind fun t99 =>
 if (!t99) = true then
 (some true) else
 ((m_laurellaw09_fits t33.r0 t44.r0).bind fun t105 =>
 if (!t105) = true then
 (some true) else
 ((m_laurellaw09_stolen t33.r0 t38.r0 (-1)).bind fun t111 =>
 if t111 = t38.r1 then
 ((m_laurellaw09_stolen t33.r0 t44.r0 (-1)).bind fun t118 =>
 some (!decide (t118 = t44.r1))) else
 (some true)))) else
 (some true)) else
 (some true)) else
 (some true)) else
 (some true)) else
 (some true)) else
 (some true)) else
 (some true)).bind fun o =>
 if o = true then
 (some false) else
 ((m_laurellaw09_stolen t33.r0 t33.r1 (-1)).bind fun t124 =>
 (if t124 < t38.r1 then
 (some true) else
 (some (decide (t44.r1 < t124)))).bind fun o_1 =>
 if o_1 = true then
 (some false) else
 ((m_laurelkit_Pile tries1).bind fun t134 =>
 (iterM FU (m_laurellaw09_StripProved_L0 t33 t50 tries1 t38) (⟨0, t134.t5_1, t134.t5_2⟩ : m_laurellaw09_StripProved_S0)).bind fun o_2 =>
 oc o_2 (fun j => (m_laurellaw09_awake).bind fun t255 =>
 some t255) (fun r_5 => some r_5)))
theorem c_laurellaw09_StripProved (numbers0 : (List Int)) (tries1 : (List Int)) (qa0 : Option Addr) (na0 ca0 : Nat) (qa1 : Option Addr) (na1 ca1 : Nat) (w : World) (hw : HV w (keys [] []) [] [] [(aB qa0, aO qa0, RU8.enc numbers0), (aB qa1, aO qa1, RU8.enc tries1)] w) (hna0 : numbers0.length = na0) (hqa0 : AOK na0 qa0) (hla0 : na0 ≤ ca0) (hna1 : tries1.length = na1) (hqa1 : AOK na1 qa1) (hla1 : na1 ≤ ca1) {res : Bool} (hm : m_laurellaw09_StripProved numbers0 tries1 = some res) :
    Calls Try.prog 7 #[.slice qa0 na0 ca0, .slice qa1 na1 ca1] w (fun en w' => ∃ l : Unit, en = .returned (.bool res) ∧ (True) ∧ HV w (keys [] []) [] [] [] w') := by
  unfold m_laurellaw09_StripProved at hm
  refine g_en Try.func7 rfl Try.ntmps7 rfl (e := [(0, _), (1, _)]) rfl hw (g_sr (g_as rfl rfl (g_nx (g_mv rfl rfl ?_))))
  obtain ⟨t32, h1, hm⟩ := bindO hm
  refine g_callH [] [] rfl rfl rfl rfl rfl rfl rfl Try.call12 (fun w hh => c_laurelkit_Pile numbers0 qa0 na0 ca0 w (HV.callee (S0 := []) (vs0 := []) hh (roR hh 0 rfl roN)) hna0 hqa0 hla0 h1) (fun l h2 => ?_)
  refine g_se (S' := [_]) (vs' := []) [0] [] 0 rfl rfl rfl rfl ?_
  obtain ⟨t33, h3, hm⟩ := bindO hm
  refine g_callH [_] [] rfl rfl rfl rfl rfl rfl rfl Try.call13 (fun w hh => c_laurellaw09_Made_1 numbers0 t32.t5_1 t32.t5_2 6 5 l qa0 na0 ca0 w (HV.callee (S0 := [_]) (vs0 := []) hh (roR hh 0 rfl roN)) hna0 hqa0 hla0 h3) (fun l_1 h4 => ?_)
  obtain ⟨h5, h6, h7, h8⟩ := h4
  refine g_se (S' := [_]) (vs' := [_, _, _]) [0] [0, 1, 2] 0 rfl rfl rfl rfl (g_mv rfl rfl (g_xt rfl rfl rfl (g_xt rfl rfl rfl ?_)))
  refine g_allocV (fun w => Try.zeroValue28 w) rfl (fun b h9 => ?_)
  refine g_stSA (us := #[_, _]) (cs' := [_, _]) (S' := [_, _]) 0 (fun w => Try.sizeOf28 w) rfl rfl rfl rfl rfl rfl rfl (g_as rfl rfl (g_nx (g_la [_, _] 0 Try.isAgg28 Try.sizeOf28 rfl rfl rfl rfl ?_)))
  obtain ⟨t38, h10, hm⟩ := bindO hm
  refine g_callH [] [] rfl rfl rfl rfl rfl rfl rfl Try.call17 (fun w hh => c_strip_Least t33.r0 (qA l_1.1.q) l_1.1.n l_1.1.cap (qA l_1.2.1.q) l_1.2.1.n l_1.2.1.cap w (HV.callee (S0 := []) (vs0 := []) hh (roC (hh.vsepA 0 rfl h5) (roC (hh.vsepA 1 rfl h6) roN))) (vlen RSt h5 rfl) (AOK.q (vne h5)) (h5).hle (vlen RSp h6 rfl) (AOK.q (vne h6)) (h6).hle h10) (fun l_2 h11 => ?_)
  obtain ⟨h12, h13⟩ := h11
  refine g_se (S' := [_, _]) (vs' := [_, _, _, _]) [0, 1] [0, 1, 2, 3] 0 rfl rfl rfl rfl (g_mv rfl rfl (g_xt rfl rfl rfl (g_xt rfl rfl rfl (g_xt rfl rfl rfl (g_as rfl rfl (g_as rfl rfl (g_as rfl rfl ?_)))))))
  refine g_nx (g_la [_, _] 0 Try.isAgg28 Try.sizeOf28 rfl rfl rfl rfl ?_)
  obtain ⟨t44, h14, hm⟩ := bindO hm
  refine g_callH [] [] rfl rfl rfl rfl rfl rfl rfl Try.call18 (fun w hh => c_strip_Most t33.r0 (qA l_1.1.q) l_1.1.n l_1.1.cap (qA l_1.2.1.q) l_1.2.1.n l_1.2.1.cap w (HV.callee (S0 := []) (vs0 := []) hh (roC (hh.vsepA 1 rfl h5) (roC (hh.vsepA 2 rfl h6) roN))) (vlen RSt h5 rfl) (AOK.q (vne h5)) (h5).hle (vlen RSp h6 rfl) (AOK.q (vne h6)) (h6).hle h14) (fun l_3 h15 => ?_)
  obtain ⟨h16, h17⟩ := h15
  refine g_se (S' := [_, _]) (vs' := [_, _, _, _, _]) [0, 1] [0, 1, 2, 3, 4] 0 rfl rfl rfl rfl (g_mv rfl rfl (g_xt rfl rfl rfl (g_xt rfl rfl rfl (g_xt rfl rfl rfl (g_as rfl rfl (g_as rfl rfl (g_as rfl rfl ?_)))))))
  refine g_nx (g_la [_, _] 0 Try.isAgg28 Try.sizeOf28 rfl rfl rfl rfl ?_)
  obtain ⟨t50, h18, hm⟩ := bindO hm
  refine g_callH [] [] rfl rfl rfl rfl rfl rfl rfl Try.call39 (fun w hh => c_strip_Mark t33.r0 (qA l_1.1.q) l_1.1.n l_1.1.cap (qA l_1.2.1.q) l_1.2.1.n l_1.2.1.cap w (HV.callee (S0 := []) (vs0 := []) hh (roC (hh.vsepA 2 rfl h5) (roC (hh.vsepA 3 rfl h6) roN))) (vlen RSt h5 rfl) (AOK.q (vne h5)) (h5).hle (vlen RSp h6 rfl) (AOK.q (vne h6)) (h6).hle h18) (fun l_4 h19 => ?_)
  obtain ⟨h20, h21⟩ := h19
  refine g_se (S' := [_, _]) (vs' := [_, _, _, _, _, _, _]) [0, 1] [0, 1, 2, 3, 4, 5, 6] 0 rfl rfl rfl rfl (g_mv rfl rfl (g_xt rfl rfl rfl (g_xt rfl rfl rfl ?_)))
  refine g_allocV (fun w => Try.zeroValue81 w) rfl (fun b_1 h22 => ?_)
  refine g_stSA (us := #[_, _]) (cs' := [_, _]) (S' := [_, _, _]) 0 (fun w => Try.sizeOf81 w) rfl rfl rfl rfl rfl rfl rfl (g_as rfl rfl (g_nx (g_la [_, _] 1 Try.isAgg28 Try.sizeOf28 rfl rfl rfl rfl (g_la [_, _] 0 Try.isAgg81 Try.sizeOf81 rfl rfl rfl rfl ?_))))
  obtain ⟨t56, h23, hm⟩ := bindO hm
  refine g_callH [] [] rfl rfl rfl rfl rfl rfl rfl Try.call40 (fun w hh => c_strip_Proves t33.r0 t50.r0 (qA l_1.1.q) l_1.1.n l_1.1.cap (qA l_1.2.1.q) l_1.2.1.n l_1.2.1.cap (qA l_4.1.q) l_4.1.n l_4.1.cap (qA l_4.2.q) l_4.2.n l_4.2.cap w (HV.callee (S0 := []) (vs0 := []) hh (roC (hh.vsepA 4 rfl h5) (roC (hh.vsepA 5 rfl h6) (roC (hh.vsepA 0 rfl h20) (roC (hh.vsepA 1 rfl h21) roN))))) (vlen RSt h5 rfl) (AOK.q (vne h5)) (h5).hle (vlen RSp h6 rfl) (AOK.q (vne h6)) (h6).hle (vlen RI h20 rfl) (AOK.q (vne h20)) (h20).hle (vlen RI h21 rfl) (AOK.q (vne h21)) (h21).hle h23) (fun l_5 h24 => ?_)
  refine g_mv rfl rfl (g_xt rfl rfl rfl (g_xt rfl rfl rfl (g_as rfl rfl (g_as rfl rfl (g_nt (g_seq (g_seq ?_)))))))
  obtain ⟨o, h25, h26⟩ := bindO hm
  refine g_cut (ι := Unit) (fun l_6 => True) (fun l_6 => [(1, .slice qa1 na1 ca1), (5, ptr b 0), (6, slv l_1.2.2.v.q l_1.2.2.v.n l_1.2.2.v.cap), (8, .int .i64 t38.r1), (11, .int .i64 t44.r1), (13, ptr b_1 0), (121, .bool o)]) (fun l_6 => [(b_1, .cells #[slv l_4.1.q l_4.1.n l_4.1.cap, slv l_4.2.q l_4.2.n l_4.2.cap] 81 (0, 0)), (b, .cells #[slv l_1.1.q l_1.1.n l_1.1.cap, slv l_1.2.1.q l_1.2.1.n l_1.2.1.cap] 28 (0, 0)), (l, .cells #[.slice qa0 na0 ca0, .int .i64 t33.b0_1, .int .u32 t33.b0_2] 105 (0, 0))]) (fun l_6 => [⟨32, RwH.enc l_1.2.2.rs, l_1.2.2.v.sp, l_1.2.2.v.q, dbl 3 RI t33.r1 l_1.2.2.rs⟩, ⟨3, RI.enc t50.r0.strips, l_4.1.sp, l_4.1.q, []⟩, ⟨3, RI.enc t50.r0.tenants, l_4.2.sp, l_4.2.q, []⟩, ⟨77, RSt.enc t33.r0.strips, l_1.1.sp, l_1.1.q, []⟩, ⟨37, RSp.enc t33.r0.carried, l_1.2.1.sp, l_1.2.1.q, []⟩]) ?_ ?_
  ·replace hm := h25
   refine g_region (g_mv rfl rfl (g_val rfl rfl rfl (fun _ _ => v_neq rfl rfl) (g_mv rfl rfl ?_)))
   refine g_case 61 rfl (fun h27 => ?_) (fun h27 => ?_)
   ·replace hm := ifF (of_ndec_true h27) hm
    refine g_k rfl rfl rfl rfl (g_k rfl rfl rfl rfl (g_pt rfl rfl rfl (g_mv rfl rfl (g_k rfl rfl rfl rfl (g_k rfl rfl rfl rfl (g_pt rfl rfl rfl (g_mv rfl rfl ?_)))))))
    refine g_k rfl rfl rfl rfl (g_k rfl rfl rfl rfl (g_pt rfl rfl rfl (g_mv rfl rfl (g_k rfl rfl rfl rfl (g_k rfl rfl rfl rfl (g_k rfl rfl rfl rfl (g_k rfl rfl rfl rfl ?_)))))))
    refine g_k rfl rfl rfl rfl (g_k rfl rfl rfl rfl (g_k rfl rfl rfl rfl (g_pt rfl rfl rfl (g_mv rfl rfl (g_k rfl rfl rfl rfl (g_k rfl rfl rfl rfl (g_k rfl rfl rfl rfl ?_)))))))
    refine g_k rfl rfl rfl rfl (g_k rfl rfl rfl rfl (g_k rfl rfl rfl rfl (g_k rfl rfl rfl rfl (g_pt rfl rfl rfl (g_mv rfl rfl (g_k rfl rfl rfl rfl (g_k rfl rfl rfl rfl ?_)))))))
    refine g_k rfl rfl rfl rfl (g_pt rfl rfl rfl (g_mv rfl rfl (g_k rfl rfl rfl rfl (g_k rfl rfl rfl rfl (g_k rfl rfl rfl rfl (g_k rfl rfl rfl rfl (g_pt rfl rfl rfl ?_)))))))
    refine g_mv rfl rfl (g_k rfl rfl rfl rfl (g_k rfl rfl rfl rfl (g_k rfl rfl rfl rfl (g_k rfl rfl rfl rfl (g_pt rfl rfl rfl (g_mv rfl rfl (g_k rfl rfl rfl rfl ?_)))))))
    refine g_k rfl rfl rfl rfl (g_k rfl rfl rfl rfl (g_k rfl rfl rfl rfl (g_k rfl rfl rfl rfl (g_pt rfl rfl rfl (g_mv rfl rfl (g_k rfl rfl rfl rfl (g_k rfl rfl rfl rfl ?_)))))))
    refine g_k rfl rfl rfl rfl (g_k rfl rfl rfl rfl (g_k rfl rfl rfl rfl (g_pt rfl rfl rfl (g_nil ?_))))
    obtain rfl := sj hm
    exact g_leaf () (trivial) (sE rfl) (hsE [0, 1, 2] [6, 0, 1, 4, 5] 0 rfl rfl rfl rfl)
   ·replace hm := ifT (of_ndec_false h27) hm
    refine v_unguard rfl rfl (g_mv rfl rfl (v_unguard rfl rfl (g_val rfl rfl rfl (fun _ _ => v_neq rfl rfl) (g_pf rfl rfl rfl (g_mv rfl rfl ?_)))))
    refine g_case 65 rfl (fun h28 => ?_) (fun h28 => ?_)
    ·replace hm := ifF (of_ndec_true h28) hm
     refine g_k rfl rfl rfl rfl (g_k rfl rfl rfl rfl (g_pt rfl rfl rfl (g_mv rfl rfl (g_k rfl rfl rfl rfl (g_k rfl rfl rfl rfl (g_pt rfl rfl rfl (g_mv rfl rfl ?_)))))))
     refine g_k rfl rfl rfl rfl (g_k rfl rfl rfl rfl (g_k rfl rfl rfl rfl (g_k rfl rfl rfl rfl (g_k rfl rfl rfl rfl (g_k rfl rfl rfl rfl (g_k rfl rfl rfl rfl (g_pt rfl rfl rfl ?_)))))))
     refine g_mv rfl rfl (g_k rfl rfl rfl rfl (g_k rfl rfl rfl rfl (g_k rfl rfl rfl rfl (g_k rfl rfl rfl rfl (g_k rfl rfl rfl rfl (g_k rfl rfl rfl rfl (g_k rfl rfl rfl rfl ?_)))))))
     refine g_pt rfl rfl rfl (g_mv rfl rfl (g_k rfl rfl rfl rfl (g_k rfl rfl rfl rfl (g_k rfl rfl rfl rfl (g_pt rfl rfl rfl (g_mv rfl rfl (g_k rfl rfl rfl rfl ?_)))))))
     refine g_k rfl rfl rfl rfl (g_k rfl rfl rfl rfl (g_k rfl rfl rfl rfl (g_pt rfl rfl rfl (g_mv rfl rfl (g_k rfl rfl rfl rfl (g_k rfl rfl rfl rfl (g_k rfl rfl rfl rfl ?_)))))))
     refine g_k rfl rfl rfl rfl (g_pt rfl rfl rfl (g_mv rfl rfl (g_k rfl rfl rfl rfl (g_k rfl rfl rfl rfl (g_k rfl rfl rfl rfl (g_k rfl rfl rfl rfl (g_k rfl rfl rfl rfl ?_)))))))
     refine g_pt rfl rfl rfl (g_mv rfl rfl (g_k rfl rfl rfl rfl (g_k rfl rfl rfl rfl (g_k rfl rfl rfl rfl (g_k rfl rfl rfl rfl (g_k rfl rfl rfl rfl (g_pt rfl rfl rfl ?_)))))))
     refine g_nil ?_
     obtain rfl := sj hm
     exact g_leaf () (trivial) (sE rfl) (hsE [0, 1, 2] [6, 0, 1, 4, 5] 0 rfl rfl rfl rfl)
    ·replace hm := ifT (of_ndec_false h28) hm
     refine v_unguard rfl rfl (g_mv rfl rfl (v_unguard rfl rfl (g_val rfl rfl rfl (fun _ _ => v_neq rfl rfl) (g_pf rfl rfl rfl (g_mv rfl rfl ?_)))))
     refine g_case 69 rfl (fun h29 => ?_) (fun h29 => ?_)
     ·replace hm := ifF (of_ndec_true h29) hm
      refine g_k rfl rfl rfl rfl (g_k rfl rfl rfl rfl (g_pt rfl rfl rfl (g_mv rfl rfl (g_k rfl rfl rfl rfl (g_k rfl rfl rfl rfl (g_k rfl rfl rfl rfl (g_k rfl rfl rfl rfl ?_)))))))
      refine g_k rfl rfl rfl rfl (g_k rfl rfl rfl rfl (g_k rfl rfl rfl rfl (g_pt rfl rfl rfl (g_mv rfl rfl (g_k rfl rfl rfl rfl (g_k rfl rfl rfl rfl (g_k rfl rfl rfl rfl ?_)))))))
      refine g_k rfl rfl rfl rfl (g_k rfl rfl rfl rfl (g_k rfl rfl rfl rfl (g_k rfl rfl rfl rfl (g_pt rfl rfl rfl (g_mv rfl rfl (g_k rfl rfl rfl rfl (g_k rfl rfl rfl rfl ?_)))))))
      refine g_k rfl rfl rfl rfl (g_pt rfl rfl rfl (g_mv rfl rfl (g_k rfl rfl rfl rfl (g_k rfl rfl rfl rfl (g_k rfl rfl rfl rfl (g_k rfl rfl rfl rfl (g_pt rfl rfl rfl ?_)))))))
      refine g_mv rfl rfl (g_k rfl rfl rfl rfl (g_k rfl rfl rfl rfl (g_k rfl rfl rfl rfl (g_k rfl rfl rfl rfl (g_pt rfl rfl rfl (g_mv rfl rfl (g_k rfl rfl rfl rfl ?_)))))))
      refine g_k rfl rfl rfl rfl (g_k rfl rfl rfl rfl (g_k rfl rfl rfl rfl (g_k rfl rfl rfl rfl (g_pt rfl rfl rfl (g_mv rfl rfl (g_k rfl rfl rfl rfl (g_k rfl rfl rfl rfl ?_)))))))
      refine g_k rfl rfl rfl rfl (g_k rfl rfl rfl rfl (g_k rfl rfl rfl rfl (g_pt rfl rfl rfl (g_nil ?_))))
      obtain rfl := sj hm
      exact g_leaf () (trivial) (sE rfl) (hsE [0, 1, 2] [6, 0, 1, 4, 5] 0 rfl rfl rfl rfl)
     ·replace hm := ifT (of_ndec_false h29) hm
      refine v_unguard rfl rfl (g_mv rfl rfl (v_unguard rfl rfl (g_val rfl rfl rfl (fun _ _ => v_neq rfl rfl) (g_pf rfl rfl rfl (g_mv rfl rfl ?_)))))
      refine g_case 73 rfl (fun h30 => ?_) (fun h30 => ?_)
      ·replace hm := ifF (of_ndec_true h30) hm
       refine g_k rfl rfl rfl rfl (g_k rfl rfl rfl rfl (g_k rfl rfl rfl rfl (g_k rfl rfl rfl rfl (g_k rfl rfl rfl rfl (g_k rfl rfl rfl rfl (g_k rfl rfl rfl rfl (g_pt rfl rfl rfl ?_)))))))
       refine g_mv rfl rfl (g_k rfl rfl rfl rfl (g_k rfl rfl rfl rfl (g_k rfl rfl rfl rfl (g_k rfl rfl rfl rfl (g_k rfl rfl rfl rfl (g_k rfl rfl rfl rfl (g_k rfl rfl rfl rfl ?_)))))))
       refine g_pt rfl rfl rfl (g_mv rfl rfl (g_k rfl rfl rfl rfl (g_k rfl rfl rfl rfl (g_k rfl rfl rfl rfl (g_pt rfl rfl rfl (g_mv rfl rfl (g_k rfl rfl rfl rfl ?_)))))))
       refine g_k rfl rfl rfl rfl (g_k rfl rfl rfl rfl (g_k rfl rfl rfl rfl (g_pt rfl rfl rfl (g_mv rfl rfl (g_k rfl rfl rfl rfl (g_k rfl rfl rfl rfl (g_k rfl rfl rfl rfl ?_)))))))
       refine g_k rfl rfl rfl rfl (g_pt rfl rfl rfl (g_mv rfl rfl (g_k rfl rfl rfl rfl (g_k rfl rfl rfl rfl (g_k rfl rfl rfl rfl (g_k rfl rfl rfl rfl (g_k rfl rfl rfl rfl ?_)))))))
       refine g_pt rfl rfl rfl (g_mv rfl rfl (g_k rfl rfl rfl rfl (g_k rfl rfl rfl rfl (g_k rfl rfl rfl rfl (g_k rfl rfl rfl rfl (g_k rfl rfl rfl rfl (g_pt rfl rfl rfl ?_)))))))
       refine g_nil ?_
       obtain rfl := sj hm
       exact g_leaf () (trivial) (sE rfl) (hsE [0, 1, 2] [6, 0, 1, 4, 5] 0 rfl rfl rfl rfl)
      ·replace hm := ifT (of_ndec_false h30) hm
       refine v_unguard rfl rfl (g_fa 0 Try.runUnderlying81 rfl Try.sizeOf32 rfl rfl (v_unguard rfl rfl (g_lc 0 Try.isAgg32 rfl rfl rfl rfl (v_unguard rfl rfl (g_val rfl rfl rfl (fun w _ => v_lenN (vlen RI h20 rfl) (Try.runUnderlying32 w) rfl) (v_unguard rfl rfl (g_fa 0 Try.runUnderlying28 rfl Try.sizeOf25 rfl rfl ?_)))))))
       refine v_unguard rfl rfl (g_lc 1 Try.isAgg25 rfl rfl rfl rfl (v_unguard rfl rfl (g_val rfl rfl rfl (fun w _ => v_lenN (vlen RSt h5 rfl) (Try.runUnderlying25 w) rfl) (v_unguard rfl rfl (g_val rfl rfl rfl (fun _ _ => v_neq rfl rfl) (g_pf rfl rfl rfl (g_mv rfl rfl ?_)))))))
       refine g_case 82 rfl (fun h31 => ?_) (fun h31 => ?_)
       ·replace hm := ifF (of_ndec_true h31) hm
        refine g_k rfl rfl rfl rfl (g_k rfl rfl rfl rfl (g_k rfl rfl rfl rfl (g_k rfl rfl rfl rfl (g_k rfl rfl rfl rfl (g_k rfl rfl rfl rfl (g_k rfl rfl rfl rfl (g_pt rfl rfl rfl ?_)))))))
        refine g_mv rfl rfl (g_k rfl rfl rfl rfl (g_k rfl rfl rfl rfl (g_k rfl rfl rfl rfl (g_pt rfl rfl rfl (g_mv rfl rfl (g_k rfl rfl rfl rfl (g_k rfl rfl rfl rfl ?_)))))))
        refine g_k rfl rfl rfl rfl (g_k rfl rfl rfl rfl (g_pt rfl rfl rfl (g_mv rfl rfl (g_k rfl rfl rfl rfl (g_k rfl rfl rfl rfl (g_k rfl rfl rfl rfl (g_k rfl rfl rfl rfl ?_)))))))
        refine g_pt rfl rfl rfl (g_mv rfl rfl (g_k rfl rfl rfl rfl (g_k rfl rfl rfl rfl (g_k rfl rfl rfl rfl (g_k rfl rfl rfl rfl (g_k rfl rfl rfl rfl (g_pt rfl rfl rfl ?_)))))))
        refine g_mv rfl rfl (g_k rfl rfl rfl rfl (g_k rfl rfl rfl rfl (g_k rfl rfl rfl rfl (g_k rfl rfl rfl rfl (g_k rfl rfl rfl rfl (g_pt rfl rfl rfl (g_nil ?_)))))))
        obtain rfl := sj hm
        exact g_leaf () (trivial) (sE rfl) (hsE [0, 1, 2] [6, 0, 1, 4, 5] 0 rfl rfl rfl rfl)
       ·replace hm := ifT (of_ndec_false h31) hm
        refine v_unguard rfl rfl (g_fa 1 Try.runUnderlying81 rfl Try.sizeOf32 rfl rfl (v_unguard rfl rfl (g_lc 0 Try.isAgg32 rfl rfl rfl rfl (v_unguard rfl rfl (g_val rfl rfl rfl (fun w _ => v_lenN (vlen RI h21 rfl) (Try.runUnderlying32 w) rfl) (v_unguard rfl rfl (g_fa 1 Try.runUnderlying28 rfl Try.sizeOf26 rfl rfl ?_)))))))
        refine v_unguard rfl rfl (g_lc 1 Try.isAgg26 rfl rfl rfl rfl (v_unguard rfl rfl (g_val rfl rfl rfl (fun w _ => v_lenN (vlen RSp h6 rfl) (Try.runUnderlying26 w) rfl) (v_unguard rfl rfl (g_val rfl rfl rfl (fun _ _ => v_neq rfl rfl) (g_pf rfl rfl rfl (g_mv rfl rfl ?_)))))))
        refine g_case 91 rfl (fun h32 => ?_) (fun h32 => ?_)
        ·replace hm := ifF (of_ndec_true h32) hm
         refine g_k rfl rfl rfl rfl (g_k rfl rfl rfl rfl (g_k rfl rfl rfl rfl (g_pt rfl rfl rfl (g_mv rfl rfl (g_k rfl rfl rfl rfl (g_k rfl rfl rfl rfl (g_k rfl rfl rfl rfl ?_)))))))
         refine g_k rfl rfl rfl rfl (g_pt rfl rfl rfl (g_mv rfl rfl (g_k rfl rfl rfl rfl (g_k rfl rfl rfl rfl (g_k rfl rfl rfl rfl (g_k rfl rfl rfl rfl (g_pt rfl rfl rfl ?_)))))))
         refine g_mv rfl rfl (g_k rfl rfl rfl rfl (g_k rfl rfl rfl rfl (g_k rfl rfl rfl rfl (g_k rfl rfl rfl rfl (g_k rfl rfl rfl rfl (g_pt rfl rfl rfl (g_mv rfl rfl ?_)))))))
         refine g_k rfl rfl rfl rfl (g_k rfl rfl rfl rfl (g_k rfl rfl rfl rfl (g_k rfl rfl rfl rfl (g_k rfl rfl rfl rfl (g_pt rfl rfl rfl (g_nil ?_))))))
         obtain rfl := sj hm
         exact g_leaf () (trivial) (sE rfl) (hsE [0, 1, 2] [6, 0, 1, 4, 5] 0 rfl rfl rfl rfl)
        ·replace hm := ifT (of_ndec_false h32) hm
         refine v_unguard rfl rfl (g_mv rfl rfl (v_unguard rfl rfl (g_mv rfl rfl (v_unguard rfl rfl (g_val rfl rfl rfl (fun _ _ => v_neq rfl rfl) (g_pf rfl rfl rfl (g_mv rfl rfl ?_)))))))
         refine g_case 96 rfl (fun h33 => ?_) (fun h33 => ?_)
         ·replace hm := ifF (of_ndec_true h33) hm
          refine g_k rfl rfl rfl rfl (g_k rfl rfl rfl rfl (g_k rfl rfl rfl rfl (g_k rfl rfl rfl rfl (g_pt rfl rfl rfl (g_mv rfl rfl (g_k rfl rfl rfl rfl (g_k rfl rfl rfl rfl ?_)))))))
          refine g_k rfl rfl rfl rfl (g_k rfl rfl rfl rfl (g_pt rfl rfl rfl (g_mv rfl rfl (g_k rfl rfl rfl rfl (g_k rfl rfl rfl rfl (g_k rfl rfl rfl rfl (g_k rfl rfl rfl rfl ?_)))))))
          refine g_k rfl rfl rfl rfl (g_pt rfl rfl rfl (g_mv rfl rfl (g_k rfl rfl rfl rfl (g_k rfl rfl rfl rfl (g_k rfl rfl rfl rfl (g_k rfl rfl rfl rfl (g_k rfl rfl rfl rfl ?_)))))))
          refine g_pt rfl rfl rfl (g_nil ?_)
          obtain rfl := sj hm
          exact g_leaf () (trivial) (sE rfl) (hsE [0, 1, 2] [6, 0, 1, 4, 5] 0 rfl rfl rfl rfl)
         ·replace hm := ifT (of_ndec_false h33) hm
          refine v_unguard rfl rfl (g_la [_, _] 1 Try.isAgg28 Try.sizeOf28 rfl rfl rfl rfl (v_unguard rfl rfl (g_mv rfl rfl (v_unguard rfl rfl ?_))))
          obtain ⟨t99, h34, hm⟩ := bindO hm
          refine g_callH [] [] rfl rfl rfl rfl rfl rfl rfl Try.call16 (fun w hh => c_laurellaw09_fits t33.r0 t38.r0 (qA l_1.1.q) l_1.1.n l_1.1.cap (qA l_1.2.1.q) l_1.2.1.n l_1.2.1.cap (qA l_2.v.q) l_2.v.n l_2.v.cap (toAL l_2.rs) w (HV.callee (S0 := []) (vs0 := []) hh (roC (hh.vsepA 4 rfl h5) (roC (hh.vsepA 5 rfl h6) (roC (hh.vsepD 3 rfl h12) roN)))) (vlen RSt h5 rfl) (AOK.q (vne h5)) (h5).hle (vlen RSp h6 rfl) (AOK.q (vne h6)) (h6).hle (Eq.trans (h13).len (vlen RwH h12 rfl)) (AOK.q (vne h12)) (h12).hle ((h13).toDRO rfl) (hh.dsepT 3 rfl h13) h34) (fun l_7 h35 => ?_)
          refine v_unguard rfl rfl (g_val rfl rfl rfl (fun _ _ => v_not rfl) (g_pf rfl rfl rfl (g_mv rfl rfl ?_)))
          refine g_case 102 rfl (fun h36 => ?_) (fun h36 => ?_)
          ·replace hm := ifT (h36) hm
           refine g_k rfl rfl rfl rfl (g_k rfl rfl rfl rfl (g_k rfl rfl rfl rfl (g_k rfl rfl rfl rfl (g_pt rfl rfl rfl (g_mv rfl rfl (g_k rfl rfl rfl rfl (g_k rfl rfl rfl rfl ?_)))))))
           refine g_k rfl rfl rfl rfl (g_k rfl rfl rfl rfl (g_k rfl rfl rfl rfl (g_pt rfl rfl rfl (g_mv rfl rfl (g_k rfl rfl rfl rfl (g_k rfl rfl rfl rfl (g_k rfl rfl rfl rfl ?_)))))))
           refine g_k rfl rfl rfl rfl (g_k rfl rfl rfl rfl (g_pt rfl rfl rfl (g_nil ?_)))
           obtain rfl := sj hm
           exact g_leaf () (trivial) (sE rfl) (hsE [0, 1, 2] [6, 0, 1, 4, 5] 0 rfl rfl rfl rfl)
          ·replace hm := ifN h36 hm
           refine v_unguard rfl rfl (g_la [_, _] 1 Try.isAgg28 Try.sizeOf28 rfl rfl rfl rfl (v_unguard rfl rfl (g_mv rfl rfl (v_unguard rfl rfl ?_))))
           obtain ⟨t105, h37, hm⟩ := bindO hm
           refine g_callH [] [] rfl rfl rfl rfl rfl rfl rfl Try.call16 (fun w hh => c_laurellaw09_fits t33.r0 t44.r0 (qA l_1.1.q) l_1.1.n l_1.1.cap (qA l_1.2.1.q) l_1.2.1.n l_1.2.1.cap (qA l_3.v.q) l_3.v.n l_3.v.cap (toAL l_3.rs) w (HV.callee (S0 := []) (vs0 := []) hh (roC (hh.vsepA 4 rfl h5) (roC (hh.vsepA 5 rfl h6) (roC (hh.vsepD 2 rfl h16) roN)))) (vlen RSt h5 rfl) (AOK.q (vne h5)) (h5).hle (vlen RSp h6 rfl) (AOK.q (vne h6)) (h6).hle (Eq.trans (h17).len (vlen RwH h16 rfl)) (AOK.q (vne h16)) (h16).hle ((h17).toDRO rfl) (hh.dsepT 2 rfl h17) h37) (fun l_8 h38 => ?_)
           refine v_unguard rfl rfl (g_val rfl rfl rfl (fun _ _ => v_not rfl) (g_pf rfl rfl rfl (g_mv rfl rfl ?_)))
           refine g_case 108 rfl (fun h39 => ?_) (fun h39 => ?_)
           ·replace hm := ifT (h39) hm
            refine g_k rfl rfl rfl rfl (g_k rfl rfl rfl rfl (g_k rfl rfl rfl rfl (g_k rfl rfl rfl rfl (g_k rfl rfl rfl rfl (g_pt rfl rfl rfl (g_mv rfl rfl (g_k rfl rfl rfl rfl ?_)))))))
            refine g_k rfl rfl rfl rfl (g_k rfl rfl rfl rfl (g_k rfl rfl rfl rfl (g_k rfl rfl rfl rfl (g_pt rfl rfl rfl (g_nil ?_)))))
            obtain rfl := sj hm
            exact g_leaf () (trivial) (sE rfl) (hsE [0, 1, 2] [6, 0, 1, 4, 5] 0 rfl rfl rfl rfl)
           ·replace hm := ifN h39 hm
            refine v_unguard rfl rfl (g_la [_, _] 1 Try.isAgg28 Try.sizeOf28 rfl rfl rfl rfl (v_unguard rfl rfl (g_mv rfl rfl (v_unguard rfl rfl ?_))))
            obtain ⟨t111, h40, hm⟩ := bindO hm
            refine g_callH [] [] rfl rfl rfl rfl rfl rfl rfl Try.call41 (fun w hh => c_laurellaw09_stolen t33.r0 t38.r0 (-1) (qA l_1.1.q) l_1.1.n l_1.1.cap (qA l_1.2.1.q) l_1.2.1.n l_1.2.1.cap (qA l_2.v.q) l_2.v.n l_2.v.cap (toAL l_2.rs) w (HV.callee (S0 := []) (vs0 := []) hh (roC (hh.vsepA 4 rfl h5) (roC (hh.vsepA 5 rfl h6) (roC (hh.vsepD 3 rfl h12) roN)))) (vlen RSt h5 rfl) (AOK.q (vne h5)) (h5).hle (vlen RSp h6 rfl) (AOK.q (vne h6)) (h6).hle (Eq.trans (h13).len (vlen RwH h12 rfl)) (AOK.q (vne h12)) (h12).hle ((h13).toDRO rfl) (hh.dsepT 3 rfl h13) h40) (fun l_9 h41 => ?_)
            refine v_unguard rfl rfl (g_mv rfl rfl (v_unguard rfl rfl (g_val rfl rfl rfl (fun _ _ => v_neq rfl rfl) (g_pf rfl rfl rfl (g_mv rfl rfl ?_)))))
            refine g_case 115 rfl (fun h42 => ?_) (fun h42 => ?_)
            ·replace hm := ifF (of_ndec_true h42) hm
             refine g_k rfl rfl rfl rfl (g_k rfl rfl rfl rfl (g_k rfl rfl rfl rfl (g_k rfl rfl rfl rfl (g_k rfl rfl rfl rfl (g_pt rfl rfl rfl (g_nil ?_))))))
             obtain rfl := sj hm
             exact g_leaf () (trivial) (sE rfl) (hsE [0, 1, 2] [6, 0, 1, 4, 5] 0 rfl rfl rfl rfl)
            ·replace hm := ifT (of_ndec_false h42) hm
             refine v_unguard rfl rfl (g_la [_, _] 1 Try.isAgg28 Try.sizeOf28 rfl rfl rfl rfl (v_unguard rfl rfl (g_mv rfl rfl (v_unguard rfl rfl ?_))))
             obtain ⟨t118, h43, hm⟩ := bindO hm
             refine g_callH [] [] rfl rfl rfl rfl rfl rfl rfl Try.call41 (fun w hh => c_laurellaw09_stolen t33.r0 t44.r0 (-1) (qA l_1.1.q) l_1.1.n l_1.1.cap (qA l_1.2.1.q) l_1.2.1.n l_1.2.1.cap (qA l_3.v.q) l_3.v.n l_3.v.cap (toAL l_3.rs) w (HV.callee (S0 := []) (vs0 := []) hh (roC (hh.vsepA 4 rfl h5) (roC (hh.vsepA 5 rfl h6) (roC (hh.vsepD 2 rfl h16) roN)))) (vlen RSt h5 rfl) (AOK.q (vne h5)) (h5).hle (vlen RSp h6 rfl) (AOK.q (vne h6)) (h6).hle (Eq.trans (h17).len (vlen RwH h16 rfl)) (AOK.q (vne h16)) (h16).hle ((h17).toDRO rfl) (hh.dsepT 2 rfl h17) h43) (fun l_10 h44 => ?_)
             refine v_unguard rfl rfl (g_mv rfl rfl (v_unguard rfl rfl (g_val rfl rfl rfl (fun _ _ => v_neq rfl rfl) (g_pf rfl rfl rfl (g_nil ?_)))))
             obtain rfl := sj hm
             exact g_leaf () (trivial) (sE rfl) (hsE [0, 1, 2] [6, 0, 1, 4, 5] 0 rfl rfl rfl rfl)
  ·intro l_6 hj
   replace hm := h26
   refine g_n_then ?_
   refine g_cond rfl (fun h45 => ?_) (fun h45 => ?_)
   ·replace hm := ifT (h45) hm
    refine g_sr (g_as rfl rfl (g_nt (g_ret (g_r_then ?_))))
    obtain rfl := sj hm
    refine g_done rfl (fun w hh => (.tmp rfl .nil)) (fun w hh => ⟨(), rfl, trivial, hh.se [] [] 2 rfl rfl rfl rfl⟩)
   ·replace hm := ifN h45 hm
    refine g_skip (g_n_then (g_seq (g_sr (g_la [_, _] 1 Try.isAgg28 Try.sizeOf28 rfl rfl rfl rfl (g_mv rfl rfl ?_)))))
    obtain ⟨t124, h46, hm⟩ := bindO hm
    refine g_callH [] [] rfl rfl rfl rfl rfl rfl rfl Try.call41 (fun w hh => c_laurellaw09_stolen t33.r0 t33.r1 (-1) (qA l_1.1.q) l_1.1.n l_1.1.cap (qA l_1.2.1.q) l_1.2.1.n l_1.2.1.cap (qA l_1.2.2.v.q) l_1.2.2.v.n l_1.2.2.v.cap (toAL l_1.2.2.rs) w (HV.callee (S0 := []) (vs0 := []) hh (roC (hh.vsepA 3 rfl h5) (roC (hh.vsepA 4 rfl h6) (roC (hh.vsepD 0 rfl h7) roN)))) (vlen RSt h5 rfl) (AOK.q (vne h5)) (h5).hle (vlen RSp h6 rfl) (AOK.q (vne h6)) (h6).hle (Eq.trans (h8).len (vlen RwH h7 rfl)) (AOK.q (vne h7)) (h7).hle ((h8).toDRO rfl) (hh.dsepT 0 rfl h8) h46) (fun l_11 h47 => ?_)
    refine g_as rfl rfl (g_nt (g_seq ?_))
    obtain ⟨o_1, h48, h49⟩ := bindO hm
    refine g_cut (ι := Unit) (fun l_12 => True) (fun l_12 => [(1, .slice qa1 na1 ca1), (5, ptr b 0), (8, .int .i64 t38.r1), (13, ptr b_1 0), (132, .bool o_1)]) (fun l_12 => [(b_1, .cells #[slv l_4.1.q l_4.1.n l_4.1.cap, slv l_4.2.q l_4.2.n l_4.2.cap] 81 (0, 0)), (b, .cells #[slv l_1.1.q l_1.1.n l_1.1.cap, slv l_1.2.1.q l_1.2.1.n l_1.2.1.cap] 28 (0, 0)), (l, .cells #[.slice qa0 na0 ca0, .int .i64 t33.b0_1, .int .u32 t33.b0_2] 105 (0, 0))]) (fun l_12 => [⟨3, RI.enc t50.r0.strips, l_4.1.sp, l_4.1.q, []⟩, ⟨3, RI.enc t50.r0.tenants, l_4.2.sp, l_4.2.q, []⟩, ⟨77, RSt.enc t33.r0.strips, l_1.1.sp, l_1.1.q, []⟩, ⟨37, RSp.enc t33.r0.carried, l_1.2.1.sp, l_1.2.1.q, []⟩]) ?_ ?_
    ·replace hm := h48
     refine g_region (g_mv rfl rfl (g_mv rfl rfl (g_ls rfl rfl rfl (g_mv rfl rfl ?_))))
     refine g_case 128 rfl (fun h50 => ?_) (fun h50 => ?_)
     ·replace hm := ifD h50 hm
      refine g_k rfl rfl rfl rfl (g_k rfl rfl rfl rfl (g_k rfl rfl rfl rfl (g_pt rfl rfl rfl (g_nil ?_))))
      obtain rfl := sj hm
      exact g_leaf () (trivial) (sE rfl) (hsE [0, 1, 2] [1, 2, 3, 4] 0 rfl rfl rfl rfl)
     ·replace hm := ifE h50 hm
      refine v_unguard rfl rfl (g_mv rfl rfl (v_unguard rfl rfl (g_mv rfl rfl (v_unguard rfl rfl (g_val rfl rfl rfl (fun _ _ => v_gtr rfl rfl) (g_pf rfl rfl rfl (g_nil ?_)))))))
      obtain rfl := sj hm
      exact g_leaf () (trivial) (sE rfl) (hsE [0, 1, 2] [1, 2, 3, 4] 0 rfl rfl rfl rfl)
    ·intro l_12 hj
     replace hm := h49
     refine g_n_then ?_
     refine g_cond rfl (fun h51 => ?_) (fun h51 => ?_)
     ·replace hm := ifT (h51) hm
      refine g_sr (g_as rfl rfl (g_nt (g_ret (g_r_then ?_))))
      obtain rfl := sj hm
      refine g_done rfl (fun w hh => (.tmp rfl .nil)) (fun w hh => ⟨(), rfl, trivial, hh.se [] [] 2 rfl rfl rfl rfl⟩)
     ·replace hm := ifN h51 hm
      refine g_skip (g_n_then (g_sr (g_mv rfl rfl ?_)))
      obtain ⟨t134, h52, hm⟩ := bindO hm
      refine g_callH [] [] rfl rfl rfl rfl rfl rfl rfl Try.call12 (fun w hh => c_laurelkit_Pile tries1 qa1 na1 ca1 w (HV.callee (S0 := []) (vs0 := []) hh (roR hh 1 rfl roN)) hna1 hqa1 hla1 h52) (fun l_13 h53 => ?_)
      refine g_se (S' := [_, _, _, _]) (vs' := [_, _, _, _]) [0, 1, 2, 3] [0, 1, 2, 3] 0 rfl rfl rfl rfl (g_as rfl rfl (g_nt (g_seq (g_sr (g_mv rfl rfl (g_nt ?_))))))
      obtain ⟨o_2, h54, h55⟩ := bindO hm
      refine g_cut (ι := m_laurellaw09_StripProved_C2) (fun j => o_2 = .inl j) (fun j => []) (fun j => [(l_13, .cells #[.slice qa1 na1 ca1, .int .i64 j.t5_1, .int .u32 j.t5_2] 105 (0, 0)), (b_1, .cells #[slv l_4.1.q l_4.1.n l_4.1.cap, slv l_4.2.q l_4.2.n l_4.2.cap] 81 (0, 0)), (b, .cells #[slv l_1.1.q l_1.1.n l_1.1.cap, slv l_1.2.1.q l_1.2.1.n l_1.2.1.cap] 28 (0, 0)), (l, .cells #[.slice qa0 na0 ca0, .int .i64 t33.b0_1, .int .u32 t33.b0_2] 105 (0, 0))]) (fun j => [⟨3, RI.enc t50.r0.strips, l_4.1.sp, l_4.1.q, []⟩, ⟨3, RI.enc t50.r0.tenants, l_4.2.sp, l_4.2.q, []⟩, ⟨77, RSt.enc t33.r0.strips, l_1.1.sp, l_1.1.q, []⟩, ⟨37, RSp.enc t33.r0.carried, l_1.2.1.sp, l_1.2.1.q, []⟩]) ?_ ?_
      ·replace hm := h54
       refine g_block ?_
       refine g_loopF (ι := Unit) hm (fun s l_14 => True) (fun s l_14 => [(5, ptr b 0), (8, .int .i64 t38.r1), (13, ptr b_1 0), (18, ptr l_13 0), (135, .int .i64 s.t135)]) (fun s l_14 => [(l_13, .cells #[.slice qa1 na1 ca1, .int .i64 s.t5_1, .int .u32 s.t5_2] 105 (0, 0)), (b_1, .cells #[slv l_4.1.q l_4.1.n l_4.1.cap, slv l_4.2.q l_4.2.n l_4.2.cap] 81 (0, 0)), (b, .cells #[slv l_1.1.q l_1.1.n l_1.1.cap, slv l_1.2.1.q l_1.2.1.n l_1.2.1.cap] 28 (0, 0)), (l, .cells #[.slice qa0 na0 ca0, .int .i64 t33.b0_1, .int .u32 t33.b0_2] 105 (0, 0))]) (fun s l_14 => [⟨3, RI.enc t50.r0.strips, l_4.1.sp, l_4.1.q, []⟩, ⟨3, RI.enc t50.r0.tenants, l_4.2.sp, l_4.2.q, []⟩, ⟨77, RSt.enc t33.r0.strips, l_1.1.sp, l_1.1.q, []⟩, ⟨37, RSp.enc t33.r0.carried, l_1.2.1.sp, l_1.2.1.q, []⟩]) () (trivial) (sE rfl) (fun w hh => hh) (fun s l_14 r hpl hm h56 => ?_)
       unfold m_laurellaw09_StripProved_L0 at hm
       refine g_sr (g_ls rfl rfl rfl (g_nt (g_seq ?_)))
       refine g_cond rfl (fun h57 => ?_) (fun h57 => ?_)
       ·replace hm := ifD h57 hm
        refine g_skip (g_n_then (g_seq (g_block (g_sr ?_))))
        refine g_allocV (fun w => Try.zeroValue81 w) rfl (fun b_2 h58 => ?_)
        refine g_nt (g_seq (g_sr (g_fa 0 Try.runUnderlying28 rfl Try.sizeOf25 rfl rfl (g_lc 3 Try.isAgg25 rfl rfl rfl rfl (g_val rfl rfl rfl (fun w _ => v_lenN (vlen RSt h5 rfl) (Try.runUnderlying25 w) rfl) (g_mv rfl rfl (g_nt ?_)))))))
        refine g_vnil 3 ?_
        obtain ⟨o_3, h59, h60⟩ := bindO hm
        refine g_cut (ι := VL) (fun l_15 => VOK 1 l_15.n l_15.cap (RI.enc o_3.own19_strips) l_15.sp l_15.q) (fun l_15 => [(5, ptr b 0), (8, .int .i64 t38.r1), (13, ptr b_1 0), (18, ptr l_13 0), (19, ptr b_2 0), (135, .int .i64 s.t135)]) (fun l_15 => [(b_2, .cells #[slv l_15.q l_15.n l_15.cap, slv none 0 0] 81 (0, 0)), (l_13, .cells #[.slice qa1 na1 ca1, .int .i64 o_3.t5_1, .int .u32 o_3.t5_2] 105 (0, 0)), (b_1, .cells #[slv l_4.1.q l_4.1.n l_4.1.cap, slv l_4.2.q l_4.2.n l_4.2.cap] 81 (0, 0)), (b, .cells #[slv l_1.1.q l_1.1.n l_1.1.cap, slv l_1.2.1.q l_1.2.1.n l_1.2.1.cap] 28 (0, 0)), (l, .cells #[.slice qa0 na0 ca0, .int .i64 t33.b0_1, .int .u32 t33.b0_2] 105 (0, 0))]) (fun l_15 => [⟨3, RI.enc o_3.own19_strips, l_15.sp, l_15.q, []⟩, ⟨3, RI.enc t50.r0.strips, l_4.1.sp, l_4.1.q, []⟩, ⟨3, RI.enc t50.r0.tenants, l_4.2.sp, l_4.2.q, []⟩, ⟨77, RSt.enc t33.r0.strips, l_1.1.sp, l_1.1.q, []⟩, ⟨37, RSp.enc t33.r0.carried, l_1.2.1.sp, l_1.2.1.q, []⟩]) ?_ ?_
        ·replace hm := h59
         refine g_block ?_
         refine g_loopF (ι := VL) hm (fun s_1 l_16 => VOK 1 l_16.n l_16.cap (RI.enc s_1.own19_strips) l_16.sp l_16.q) (fun s_1 l_16 => [(5, ptr b 0), (8, .int .i64 t38.r1), (13, ptr b_1 0), (18, ptr l_13 0), (19, ptr b_2 0), (135, .int .i64 s.t135), (139, .int .i64 (t33.r0.strips.length : Int)), (140, .int .i64 s_1.t140)]) (fun s_1 l_16 => [(b_2, .cells #[slv l_16.q l_16.n l_16.cap, slv none 0 0] 81 (0, 0)), (l_13, .cells #[.slice qa1 na1 ca1, .int .i64 s_1.t5_1, .int .u32 s_1.t5_2] 105 (0, 0)), (b_1, .cells #[slv l_4.1.q l_4.1.n l_4.1.cap, slv l_4.2.q l_4.2.n l_4.2.cap] 81 (0, 0)), (b, .cells #[slv l_1.1.q l_1.1.n l_1.1.cap, slv l_1.2.1.q l_1.2.1.n l_1.2.1.cap] 28 (0, 0)), (l, .cells #[.slice qa0 na0 ca0, .int .i64 t33.b0_1, .int .u32 t33.b0_2] 105 (0, 0))]) (fun s_1 l_16 => [⟨3, RI.enc s_1.own19_strips, l_16.sp, l_16.q, []⟩, ⟨3, RI.enc t50.r0.strips, l_4.1.sp, l_4.1.q, []⟩, ⟨3, RI.enc t50.r0.tenants, l_4.2.sp, l_4.2.q, []⟩, ⟨77, RSt.enc t33.r0.strips, l_1.1.sp, l_1.1.q, []⟩, ⟨37, RSp.enc t33.r0.carried, l_1.2.1.sp, l_1.2.1.q, []⟩]) ⟨none, 0, 0, []⟩ (VOK.nil) (sE rfl) (fun w hh => hh) (fun s_1 l_16 r_1 hpl hm h63 => ?_)
         have h62 := hpl
         unfold m_laurellaw09_StripProved_L1 at hm
         refine g_sr (g_ls rfl rfl rfl (g_nt (g_seq ?_)))
         refine g_cond rfl (fun h64 => ?_) (fun h64 => ?_)
         ·replace hm := ifD h64 hm
          refine g_skip (g_n_then (g_seq (g_block (g_sr (g_mv rfl rfl (g_as rfl rfl (g_nt ?_)))))))
          refine g_draw (some 13) (.free 0 (.hoist 1 (.free 2 (.hoist 3 (.free 4 (.free 5 (.hoist 6 (.free 7 (.one 8 (.free 9 (.one 10 (.one 11 (.free 12 (.last 13 .done)))))))))))))) (HV _ _ [(b_2, .cells #[slv l_16.q l_16.n l_16.cap, slv none 0 0] 81 (0, 0)), (b_1, .cells #[slv l_4.1.q l_4.1.n l_4.1.cap, slv l_4.2.q l_4.2.n l_4.2.cap] 81 (0, 0)), (b, .cells #[slv l_1.1.q l_1.1.n l_1.1.cap, slv l_1.2.1.q l_1.2.1.n l_1.2.1.cap] 28 (0, 0)), (l, .cells #[.slice qa0 na0 ca0, .int .i64 t33.b0_1, .int .u32 t33.b0_2] 105 (0, 0))] [⟨3, RI.enc t50.r0.strips, l_4.1.sp, l_4.1.q, []⟩, ⟨3, RI.enc t50.r0.tenants, l_4.2.sp, l_4.2.q, []⟩, ⟨77, RSt.enc t33.r0.strips, l_1.1.sp, l_1.1.q, []⟩, ⟨37, RSp.enc t33.r0.carried, l_1.2.1.sp, l_1.2.1.q, []⟩] _) rfl (by decide +kernel) (fun w k hh => hh.draw k) (hsE [0, 2, 3, 4] [1, 2, 3, 4] 0 rfl rfl rfl rfl) ?_
          refine p_fa 0 Try.runUnderlying81 Try.sizeOf32 rfl rfl rfl rfl (p_lc 0 Try.isAgg32 rfl rfl rfl rfl rfl (p_fa 0 Try.runUnderlying81 Try.sizeOf32 rfl rfl rfl rfl (p_lc 1 Try.isAgg32 rfl rfl rfl rfl rfl (p_mv rfl rfl rfl ?_))))
          obtain ⟨t148, h65, hm⟩ := bindO hm
          refine p_free rfl rfl rfl rfl (fun w _ => v_ixA h65 (Try.runUnderlying32 w) (Try.sizeOf3 w) rfl rfl (vlen RI h20 rfl) (vne h20)) (p_hoist rfl rfl rfl rfl (fun w hh => v_ldE RI 0 h65 (Try.isAgg3 w) rfl (hh.vseg 0 rfl h20) rfl (Nat.add_zero _).symm) (p_mv rfl rfl rfl (p_one rfl ?_)))
          obtain ⟨t151, h66, hm⟩ := bindO hm
          refine g_se (S' := [_, _, _, _, _]) (vs' := [_, _, _, _, _]) [1, 0, 2, 3, 4] [0, 1, 2, 3, 4] 0 rfl rfl rfl rfl ?_
          refine g_callH [_] [] rfl rfl rfl rfl rfl rfl rfl Try.call42 (fun w hh => c_laurelkit_Heap_From_1 tries1 s_1.t5_1 s_1.t5_2 (-1) 1 l_13 qa1 na1 ca1 w (HV.callee (S0 := [_]) (vs0 := []) hh (roR hh 1 rfl roN)) hna1 hqa1 hla1 h66) (fun l_17 h67 => ?_)
          refine g_se (S' := [_, _, _, _, _]) (vs' := [_, _, _, _, _]) [0, 1, 2, 3, 4] [0, 1, 2, 3, 4] 0 rfl rfl rfl rfl (p_next (hsE [1, 2, 3, 4] [1, 2, 3, 4] 0 rfl rfl rfl rfl) ?_)
          obtain ⟨t152, h68, hm⟩ := bindO hm
          refine p_free rfl rfl rfl rfl (fun _ _ => v_addc h68 rfl rfl) (p_one rfl ?_)
          refine g_vlit RI [t152] (ps := [(0, _)]) (cells := [_]) (fun w => Try.runUnderlying32 w) (fun w => Try.sizeOf3 w) (fun w => Try.zeroValue3 w) rfl rfl rfl rfl rfl rfl rfl rfl (fun L h69 => ?_)
          refine p_next (hsE [1, 2, 3, 4] [2, 3, 4, 5] 0 rfl rfl rfl rfl) (p_one rfl ?_)
          obtain ⟨t154, h70, hm⟩ := bindO hm
          refine g_vapp RI 1 h70 Try.underlying32 gxinf3 rfl rfl rfl rfl rfl h62 rfl rfl (vlen RI h69 rfl) (AOK.q (vne h69)) (fun w hh => (hh.vsegA 0 rfl h69)) rfl (fun L_1 h71 h71n => ?_)
          refine g_se (S' := [_, _, _, _, _]) (vs' := [_, _, _, _, _, _]) [0, 1, 2, 3, 4] [0, 1, 2, 3, 4, 5] 0 rfl rfl rfl rfl (p_next (hsE [1, 2, 3, 4] [2, 3, 4, 5] 0 rfl rfl rfl rfl) (p_fa 0 Try.runUnderlying81 Try.sizeOf32 rfl rfl rfl rfl (p_last rfl (g_stS (cs' := #[_, _]) (S' := [_, _, _, _, _]) 1 (fun w => Try.sizeOf32 w) rfl rfl rfl rfl rfl rfl rfl (p_nextL (p_done (g_n_blk ?_)))))))
          refine g_n_then (g_region ?_)
          obtain ⟨t156, h72, hm⟩ := bindO hm
          refine g_ac h72 rfl rfl rfl (g_mv rfl rfl (g_nil ?_))
          obtain rfl := sj hm
          refine g_n_then ?_
          exact g_again' _ L_1 rfl (h71) (sE rfl) (hsE [1, 0, 2, 3, 4] [1, 2, 3, 4, 5] 0 rfl rfl rfl rfl)
         ·replace hm := ifE h64 hm
          refine g_exit (g_x_then (g_x_then (g_x_blk ?_)))
          obtain rfl := sj hm
          have hbo := h63 _ rfl
          subst hbo
          exact g_leaf l_16 (h62) (sE rfl) (fun w hh => hh)
        ·intro l_15 hj
         have h61 := hj
         replace hm := h60
         refine g_n_then (g_seq (g_sr (g_fa 1 Try.runUnderlying28 rfl Try.sizeOf26 rfl rfl (g_lc 3 Try.isAgg26 rfl rfl rfl rfl (g_val rfl rfl rfl (fun w _ => v_lenN (vlen RSp h6 rfl) (Try.runUnderlying26 w) rfl) (g_mv rfl rfl (g_nt ?_)))))))
         refine g_vnil 3 ?_
         obtain ⟨o_4, h73, h74⟩ := bindO hm
         refine g_cut (ι := VL) (fun l_18 => VOK 1 l_18.n l_18.cap (RI.enc o_4.own19_tenants) l_18.sp l_18.q) (fun l_18 => [(5, ptr b 0), (8, .int .i64 t38.r1), (13, ptr b_1 0), (18, ptr l_13 0), (19, ptr b_2 0), (135, .int .i64 s.t135)]) (fun l_18 => [(b_2, .cells #[slv l_15.q l_15.n l_15.cap, slv l_18.q l_18.n l_18.cap] 81 (0, 0)), (l_13, .cells #[.slice qa1 na1 ca1, .int .i64 o_4.t5_1, .int .u32 o_4.t5_2] 105 (0, 0)), (b_1, .cells #[slv l_4.1.q l_4.1.n l_4.1.cap, slv l_4.2.q l_4.2.n l_4.2.cap] 81 (0, 0)), (b, .cells #[slv l_1.1.q l_1.1.n l_1.1.cap, slv l_1.2.1.q l_1.2.1.n l_1.2.1.cap] 28 (0, 0)), (l, .cells #[.slice qa0 na0 ca0, .int .i64 t33.b0_1, .int .u32 t33.b0_2] 105 (0, 0))]) (fun l_18 => [⟨3, RI.enc o_3.own19_strips, l_15.sp, l_15.q, []⟩, ⟨3, RI.enc o_4.own19_tenants, l_18.sp, l_18.q, []⟩, ⟨3, RI.enc t50.r0.strips, l_4.1.sp, l_4.1.q, []⟩, ⟨3, RI.enc t50.r0.tenants, l_4.2.sp, l_4.2.q, []⟩, ⟨77, RSt.enc t33.r0.strips, l_1.1.sp, l_1.1.q, []⟩, ⟨37, RSp.enc t33.r0.carried, l_1.2.1.sp, l_1.2.1.q, []⟩]) ?_ ?_
         ·replace hm := h73
          refine g_block ?_
          refine g_loopF (ι := VL) hm (fun s_2 l_19 => VOK 1 l_19.n l_19.cap (RI.enc s_2.own19_tenants) l_19.sp l_19.q) (fun s_2 l_19 => [(5, ptr b 0), (8, .int .i64 t38.r1), (13, ptr b_1 0), (18, ptr l_13 0), (19, ptr b_2 0), (135, .int .i64 s.t135), (159, .int .i64 (t33.r0.carried.length : Int)), (160, .int .i64 s_2.t160)]) (fun s_2 l_19 => [(b_2, .cells #[slv l_15.q l_15.n l_15.cap, slv l_19.q l_19.n l_19.cap] 81 (0, 0)), (l_13, .cells #[.slice qa1 na1 ca1, .int .i64 s_2.t5_1, .int .u32 s_2.t5_2] 105 (0, 0)), (b_1, .cells #[slv l_4.1.q l_4.1.n l_4.1.cap, slv l_4.2.q l_4.2.n l_4.2.cap] 81 (0, 0)), (b, .cells #[slv l_1.1.q l_1.1.n l_1.1.cap, slv l_1.2.1.q l_1.2.1.n l_1.2.1.cap] 28 (0, 0)), (l, .cells #[.slice qa0 na0 ca0, .int .i64 t33.b0_1, .int .u32 t33.b0_2] 105 (0, 0))]) (fun s_2 l_19 => [⟨3, RI.enc o_3.own19_strips, l_15.sp, l_15.q, []⟩, ⟨3, RI.enc s_2.own19_tenants, l_19.sp, l_19.q, []⟩, ⟨3, RI.enc t50.r0.strips, l_4.1.sp, l_4.1.q, []⟩, ⟨3, RI.enc t50.r0.tenants, l_4.2.sp, l_4.2.q, []⟩, ⟨77, RSt.enc t33.r0.strips, l_1.1.sp, l_1.1.q, []⟩, ⟨37, RSp.enc t33.r0.carried, l_1.2.1.sp, l_1.2.1.q, []⟩]) ⟨none, 0, 0, []⟩ (VOK.nil) (sE rfl) (hsE [0, 1, 2, 3, 4] [1, 0, 2, 3, 4, 5] 0 rfl rfl rfl rfl) (fun s_2 l_19 r_2 hpl hm h77 => ?_)
          have h76 := hpl
          unfold m_laurellaw09_StripProved_L2 at hm
          refine g_sr (g_ls rfl rfl rfl (g_nt (g_seq ?_)))
          refine g_cond rfl (fun h78 => ?_) (fun h78 => ?_)
          ·replace hm := ifD h78 hm
           refine g_skip (g_n_then (g_seq (g_block (g_sr (g_mv rfl rfl (g_as rfl rfl (g_nt ?_)))))))
           refine g_draw (some 13) (.free 0 (.hoist 1 (.free 2 (.hoist 3 (.free 4 (.free 5 (.hoist 6 (.free 7 (.one 8 (.free 9 (.one 10 (.one 11 (.free 12 (.last 13 .done)))))))))))))) (HV _ _ [(b_2, .cells #[slv l_15.q l_15.n l_15.cap, slv l_19.q l_19.n l_19.cap] 81 (0, 0)), (b_1, .cells #[slv l_4.1.q l_4.1.n l_4.1.cap, slv l_4.2.q l_4.2.n l_4.2.cap] 81 (0, 0)), (b, .cells #[slv l_1.1.q l_1.1.n l_1.1.cap, slv l_1.2.1.q l_1.2.1.n l_1.2.1.cap] 28 (0, 0)), (l, .cells #[.slice qa0 na0 ca0, .int .i64 t33.b0_1, .int .u32 t33.b0_2] 105 (0, 0))] [⟨3, RI.enc o_3.own19_strips, l_15.sp, l_15.q, []⟩, ⟨3, RI.enc t50.r0.strips, l_4.1.sp, l_4.1.q, []⟩, ⟨3, RI.enc t50.r0.tenants, l_4.2.sp, l_4.2.q, []⟩, ⟨77, RSt.enc t33.r0.strips, l_1.1.sp, l_1.1.q, []⟩, ⟨37, RSp.enc t33.r0.carried, l_1.2.1.sp, l_1.2.1.q, []⟩] _) rfl (by decide +kernel) (fun w k hh => hh.draw k) (hsE [0, 2, 3, 4] [0, 2, 3, 4, 5] 0 rfl rfl rfl rfl) ?_
           refine p_fa 1 Try.runUnderlying81 Try.sizeOf32 rfl rfl rfl rfl (p_lc 0 Try.isAgg32 rfl rfl rfl rfl rfl (p_fa 1 Try.runUnderlying81 Try.sizeOf32 rfl rfl rfl rfl (p_lc 1 Try.isAgg32 rfl rfl rfl rfl rfl (p_mv rfl rfl rfl ?_))))
           obtain ⟨t168, h79, hm⟩ := bindO hm
           refine p_free rfl rfl rfl rfl (fun w _ => v_ixA h79 (Try.runUnderlying32 w) (Try.sizeOf3 w) rfl rfl (vlen RI h21 rfl) (vne h21)) (p_hoist rfl rfl rfl rfl (fun w hh => v_ldE RI 0 h79 (Try.isAgg3 w) rfl (hh.vseg 2 rfl h21) rfl (Nat.add_zero _).symm) (p_mv rfl rfl rfl (p_one rfl ?_)))
           obtain ⟨t171, h80, hm⟩ := bindO hm
           refine g_se (S' := [_, _, _, _, _]) (vs' := [_, _, _, _, _, _]) [1, 0, 2, 3, 4] [0, 1, 2, 3, 4, 5] 0 rfl rfl rfl rfl ?_
           refine g_callH [_] [] rfl rfl rfl rfl rfl rfl rfl Try.call42 (fun w hh => c_laurelkit_Heap_From_1 tries1 s_2.t5_1 s_2.t5_2 (-1) 1 l_13 qa1 na1 ca1 w (HV.callee (S0 := [_]) (vs0 := []) hh (roR hh 1 rfl roN)) hna1 hqa1 hla1 h80) (fun l_20 h81 => ?_)
           refine g_se (S' := [_, _, _, _, _]) (vs' := [_, _, _, _, _, _]) [0, 1, 2, 3, 4] [0, 1, 2, 3, 4, 5] 0 rfl rfl rfl rfl (p_next (hsE [1, 2, 3, 4] [0, 2, 3, 4, 5] 0 rfl rfl rfl rfl) ?_)
           obtain ⟨t172, h82, hm⟩ := bindO hm
           refine p_free rfl rfl rfl rfl (fun _ _ => v_addc h82 rfl rfl) (p_one rfl ?_)
           refine g_vlit RI [t172] (ps := [(0, _)]) (cells := [_]) (fun w => Try.runUnderlying32 w) (fun w => Try.sizeOf3 w) (fun w => Try.zeroValue3 w) rfl rfl rfl rfl rfl rfl rfl rfl (fun L_2 h83 => ?_)
           refine p_next (hsE [1, 2, 3, 4] [1, 3, 4, 5, 6] 0 rfl rfl rfl rfl) (p_one rfl ?_)
           obtain ⟨t174, h84, hm⟩ := bindO hm
           refine g_vapp RI 2 h84 Try.underlying32 gxinf3 rfl rfl rfl rfl rfl h76 rfl rfl (vlen RI h83 rfl) (AOK.q (vne h83)) (fun w hh => (hh.vsegA 0 rfl h83)) rfl (fun L_3 h85 h85n => ?_)
           refine g_se (S' := [_, _, _, _, _]) (vs' := [_, _, _, _, _, _, _]) [0, 1, 2, 3, 4] [0, 1, 2, 3, 4, 5, 6] 0 rfl rfl rfl rfl (p_next (hsE [1, 2, 3, 4] [1, 3, 4, 5, 6] 0 rfl rfl rfl rfl) (p_fa 1 Try.runUnderlying81 Try.sizeOf32 rfl rfl rfl rfl (p_last rfl (g_stS (cs' := #[_, _]) (S' := [_, _, _, _, _]) 1 (fun w => Try.sizeOf32 w) rfl rfl rfl rfl rfl rfl rfl (p_nextL (p_done (g_n_blk ?_)))))))
           refine g_n_then (g_region ?_)
           obtain ⟨t176, h86, hm⟩ := bindO hm
           refine g_ac h86 rfl rfl rfl (g_mv rfl rfl (g_nil ?_))
           obtain rfl := sj hm
           refine g_n_then ?_
           exact g_again' _ L_3 rfl (h85) (sE rfl) (hsE [1, 0, 2, 3, 4] [1, 2, 3, 4, 5, 6] 0 rfl rfl rfl rfl)
          ·replace hm := ifE h78 hm
           refine g_exit (g_x_then (g_x_then (g_x_blk ?_)))
           obtain rfl := sj hm
           have hbo := h77 _ rfl
           subst hbo
           exact g_leaf l_19 (h76) (sE rfl) (fun w hh => hh)
         ·intro l_18 hj
          have h75 := hj
          replace hm := h74
          refine g_n_then (g_sr (g_as rfl rfl (g_nt (g_seq (g_sr (g_fa 1 Try.runUnderlying81 rfl Try.sizeOf32 rfl rfl (g_lc 0 Try.isAgg32 rfl rfl rfl rfl ?_)))))))
          refine g_val rfl rfl rfl (fun w _ => v_lenN (vlen RI h75 rfl) (Try.runUnderlying32 w) rfl) (g_mv rfl rfl (g_nt ?_))
          obtain ⟨o_5, h87, h88⟩ := bindO hm
          refine g_cut (ι := Unit) (fun l_21 => True) (fun l_21 => [(5, ptr b 0), (8, .int .i64 t38.r1), (13, ptr b_1 0), (18, ptr l_13 0), (19, ptr b_2 0), (22, .bool o_5), (135, .int .i64 s.t135)]) (fun l_21 => [(b_2, .cells #[slv l_15.q l_15.n l_15.cap, slv l_18.q l_18.n l_18.cap] 81 (0, 0)), (l_13, .cells #[.slice qa1 na1 ca1, .int .i64 o_4.t5_1, .int .u32 o_4.t5_2] 105 (0, 0)), (b_1, .cells #[slv l_4.1.q l_4.1.n l_4.1.cap, slv l_4.2.q l_4.2.n l_4.2.cap] 81 (0, 0)), (b, .cells #[slv l_1.1.q l_1.1.n l_1.1.cap, slv l_1.2.1.q l_1.2.1.n l_1.2.1.cap] 28 (0, 0)), (l, .cells #[.slice qa0 na0 ca0, .int .i64 t33.b0_1, .int .u32 t33.b0_2] 105 (0, 0))]) (fun l_21 => [⟨3, RI.enc o_3.own19_strips, l_15.sp, l_15.q, []⟩, ⟨3, RI.enc o_4.own19_tenants, l_18.sp, l_18.q, []⟩, ⟨3, RI.enc t50.r0.strips, l_4.1.sp, l_4.1.q, []⟩, ⟨3, RI.enc t50.r0.tenants, l_4.2.sp, l_4.2.q, []⟩, ⟨77, RSt.enc t33.r0.strips, l_1.1.sp, l_1.1.q, []⟩, ⟨37, RSp.enc t33.r0.carried, l_1.2.1.sp, l_1.2.1.q, []⟩]) ?_ ?_
          ·replace hm := h87
           refine g_block ?_
           refine g_loopF (ι := Unit) hm (fun s_3 l_22 => True) (fun s_3 l_22 => [(5, ptr b 0), (8, .int .i64 t38.r1), (13, ptr b_1 0), (18, ptr l_13 0), (19, ptr b_2 0), (22, .bool s_3.holds22), (135, .int .i64 s.t135), (178, slv l_18.q l_18.n l_18.cap), (179, .int .i64 (o_4.own19_tenants.length : Int)), (180, .int .i64 s_3.t180)]) (fun s_3 l_22 => [(b_2, .cells #[slv l_15.q l_15.n l_15.cap, slv l_18.q l_18.n l_18.cap] 81 (0, 0)), (l_13, .cells #[.slice qa1 na1 ca1, .int .i64 o_4.t5_1, .int .u32 o_4.t5_2] 105 (0, 0)), (b_1, .cells #[slv l_4.1.q l_4.1.n l_4.1.cap, slv l_4.2.q l_4.2.n l_4.2.cap] 81 (0, 0)), (b, .cells #[slv l_1.1.q l_1.1.n l_1.1.cap, slv l_1.2.1.q l_1.2.1.n l_1.2.1.cap] 28 (0, 0)), (l, .cells #[.slice qa0 na0 ca0, .int .i64 t33.b0_1, .int .u32 t33.b0_2] 105 (0, 0))]) (fun s_3 l_22 => [⟨3, RI.enc o_4.own19_tenants, l_18.sp, l_18.q, []⟩, ⟨3, RI.enc o_3.own19_strips, l_15.sp, l_15.q, []⟩, ⟨3, RI.enc t50.r0.strips, l_4.1.sp, l_4.1.q, []⟩, ⟨3, RI.enc t50.r0.tenants, l_4.2.sp, l_4.2.q, []⟩, ⟨77, RSt.enc t33.r0.strips, l_1.1.sp, l_1.1.q, []⟩, ⟨37, RSp.enc t33.r0.carried, l_1.2.1.sp, l_1.2.1.q, []⟩]) () (trivial) (sE rfl) (hsE [0, 1, 2, 3, 4] [1, 0, 2, 3, 4, 5] 0 rfl rfl rfl rfl) (fun s_3 l_22 r_3 hpl hm h89 => ?_)
           unfold m_laurellaw09_StripProved_L3 at hm
           refine g_sr (g_ls rfl rfl rfl (g_nt (g_seq ?_)))
           refine g_cond rfl (fun h90 => ?_) (fun h90 => ?_)
           ·replace hm := ifD h90 hm
            refine g_skip (g_n_then (g_seq (g_block (g_sr (g_mv rfl rfl ?_)))))
            obtain ⟨t183, h91, hm⟩ := bindO hm
            refine g_val rfl rfl rfl (fun w _ => v_ixA h91 (Try.runUnderlying32 w) (Try.sizeOf3 w) rfl rfl (vlen RI h75 rfl) (vne h75)) (g_val rfl rfl rfl (fun w hh => v_ldE RI 0 h91 (Try.isAgg3 w) rfl (hh.vseg 0 rfl h75) rfl (Nat.add_zero _).symm) (g_as rfl rfl (g_as rfl rfl (g_nx (g_fa 0 Try.runUnderlying81 rfl Try.sizeOf32 rfl rfl (g_lc 0 Try.isAgg32 rfl rfl rfl rfl (g_val rfl rfl rfl (fun w _ => v_lenN (vlen RI h61 rfl) (Try.runUnderlying32 w) rfl) ?_)))))))
            refine g_mv rfl rfl (g_nt ?_)
            obtain ⟨o_6, h92, h93⟩ := bindO hm
            refine g_cut (ι := Unit) (fun l_23 => True) (fun l_23 => [(5, ptr b 0), (8, .int .i64 t38.r1), (13, ptr b_1 0), (18, ptr l_13 0), (19, ptr b_2 0), (22, .bool o_6), (135, .int .i64 s.t135), (178, slv l_18.q l_18.n l_18.cap), (179, .int .i64 (o_4.own19_tenants.length : Int)), (180, .int .i64 s_3.t180)]) (fun l_23 => [(b_2, .cells #[slv l_15.q l_15.n l_15.cap, slv l_18.q l_18.n l_18.cap] 81 (0, 0)), (l_13, .cells #[.slice qa1 na1 ca1, .int .i64 o_4.t5_1, .int .u32 o_4.t5_2] 105 (0, 0)), (b_1, .cells #[slv l_4.1.q l_4.1.n l_4.1.cap, slv l_4.2.q l_4.2.n l_4.2.cap] 81 (0, 0)), (b, .cells #[slv l_1.1.q l_1.1.n l_1.1.cap, slv l_1.2.1.q l_1.2.1.n l_1.2.1.cap] 28 (0, 0)), (l, .cells #[.slice qa0 na0 ca0, .int .i64 t33.b0_1, .int .u32 t33.b0_2] 105 (0, 0))]) (fun l_23 => [⟨3, RI.enc o_4.own19_tenants, l_18.sp, l_18.q, []⟩, ⟨3, RI.enc o_3.own19_strips, l_15.sp, l_15.q, []⟩, ⟨3, RI.enc t50.r0.strips, l_4.1.sp, l_4.1.q, []⟩, ⟨3, RI.enc t50.r0.tenants, l_4.2.sp, l_4.2.q, []⟩, ⟨77, RSt.enc t33.r0.strips, l_1.1.sp, l_1.1.q, []⟩, ⟨37, RSp.enc t33.r0.carried, l_1.2.1.sp, l_1.2.1.q, []⟩]) ?_ ?_
            ·replace hm := h92
             refine g_block ?_
             refine g_loopF (ι := Unit) hm (fun s_4 l_24 => True) (fun s_4 l_24 => [(5, ptr b 0), (8, .int .i64 t38.r1), (13, ptr b_1 0), (18, ptr l_13 0), (19, ptr b_2 0), (22, .bool s_4.holds22), (23, .int .i64 s_3.t180), (24, .int .i64 t183), (135, .int .i64 s.t135), (178, slv l_18.q l_18.n l_18.cap), (179, .int .i64 (o_4.own19_tenants.length : Int)), (180, .int .i64 s_3.t180), (186, slv l_15.q l_15.n l_15.cap), (187, .int .i64 (o_3.own19_strips.length : Int)), (188, .int .i64 s_4.t188)]) (fun s_4 l_24 => [(b_2, .cells #[slv l_15.q l_15.n l_15.cap, slv l_18.q l_18.n l_18.cap] 81 (0, 0)), (l_13, .cells #[.slice qa1 na1 ca1, .int .i64 o_4.t5_1, .int .u32 o_4.t5_2] 105 (0, 0)), (b_1, .cells #[slv l_4.1.q l_4.1.n l_4.1.cap, slv l_4.2.q l_4.2.n l_4.2.cap] 81 (0, 0)), (b, .cells #[slv l_1.1.q l_1.1.n l_1.1.cap, slv l_1.2.1.q l_1.2.1.n l_1.2.1.cap] 28 (0, 0)), (l, .cells #[.slice qa0 na0 ca0, .int .i64 t33.b0_1, .int .u32 t33.b0_2] 105 (0, 0))]) (fun s_4 l_24 => [⟨3, RI.enc o_4.own19_tenants, l_18.sp, l_18.q, []⟩, ⟨3, RI.enc o_3.own19_strips, l_15.sp, l_15.q, []⟩, ⟨3, RI.enc t50.r0.strips, l_4.1.sp, l_4.1.q, []⟩, ⟨3, RI.enc t50.r0.tenants, l_4.2.sp, l_4.2.q, []⟩, ⟨77, RSt.enc t33.r0.strips, l_1.1.sp, l_1.1.q, []⟩, ⟨37, RSp.enc t33.r0.carried, l_1.2.1.sp, l_1.2.1.q, []⟩]) () (trivial) (sE rfl) (fun w hh => hh) (fun s_4 l_24 r_4 hpl hm h94 => ?_)
             unfold m_laurellaw09_StripProved_L4 at hm
             refine g_sr (g_ls rfl rfl rfl (g_nt (g_seq ?_)))
             refine g_cond rfl (fun h95 => ?_) (fun h95 => ?_)
             ·replace hm := ifD h95 hm
              refine g_skip (g_n_then (g_seq ?_))
              obtain ⟨o_7, h96, h97⟩ := bindO hm
              refine g_cut (ι := Unit) (fun l_25 => True) (fun l_25 => [(5, ptr b 0), (8, .int .i64 t38.r1), (13, ptr b_1 0), (18, ptr l_13 0), (19, ptr b_2 0), (22, .bool o_7), (23, .int .i64 s_3.t180), (24, .int .i64 t183), (135, .int .i64 s.t135), (178, slv l_18.q l_18.n l_18.cap), (179, .int .i64 (o_4.own19_tenants.length : Int)), (180, .int .i64 s_3.t180), (186, slv l_15.q l_15.n l_15.cap), (187, .int .i64 (o_3.own19_strips.length : Int)), (188, .int .i64 s_4.t188)]) (fun l_25 => [(b_2, .cells #[slv l_15.q l_15.n l_15.cap, slv l_18.q l_18.n l_18.cap] 81 (0, 0)), (l_13, .cells #[.slice qa1 na1 ca1, .int .i64 o_4.t5_1, .int .u32 o_4.t5_2] 105 (0, 0)), (b_1, .cells #[slv l_4.1.q l_4.1.n l_4.1.cap, slv l_4.2.q l_4.2.n l_4.2.cap] 81 (0, 0)), (b, .cells #[slv l_1.1.q l_1.1.n l_1.1.cap, slv l_1.2.1.q l_1.2.1.n l_1.2.1.cap] 28 (0, 0)), (l, .cells #[.slice qa0 na0 ca0, .int .i64 t33.b0_1, .int .u32 t33.b0_2] 105 (0, 0))]) (fun l_25 => [⟨3, RI.enc o_4.own19_tenants, l_18.sp, l_18.q, []⟩, ⟨3, RI.enc o_3.own19_strips, l_15.sp, l_15.q, []⟩, ⟨3, RI.enc t50.r0.strips, l_4.1.sp, l_4.1.q, []⟩, ⟨3, RI.enc t50.r0.tenants, l_4.2.sp, l_4.2.q, []⟩, ⟨77, RSt.enc t33.r0.strips, l_1.1.sp, l_1.1.q, []⟩, ⟨37, RSp.enc t33.r0.carried, l_1.2.1.sp, l_1.2.1.q, []⟩]) ?_ ?_
              ·replace hm := h96
               refine g_block (g_sr (g_mv rfl rfl ?_))
               obtain ⟨t191, h98, hm⟩ := bindO hm
               refine g_val rfl rfl rfl (fun w _ => v_ixA h98 (Try.runUnderlying32 w) (Try.sizeOf3 w) rfl rfl (vlen RI h61 rfl) (vne h61)) (g_val rfl rfl rfl (fun w hh => v_ldE RI 0 h98 (Try.isAgg3 w) rfl (hh.vseg 1 rfl h61) rfl (Nat.add_zero _).symm) (g_as rfl rfl (g_as rfl rfl (g_nx (g_as rfl rfl (g_nt (g_seq ?_)))))))
               obtain ⟨o_8, h99, h100⟩ := bindO hm
               refine g_cut (ι := Unit) (fun l_26 => True) (fun l_26 => [(5, ptr b 0), (8, .int .i64 t38.r1), (13, ptr b_1 0), (18, ptr l_13 0), (19, ptr b_2 0), (22, .bool s_4.holds22), (23, .int .i64 s_3.t180), (24, .int .i64 t183), (25, .int .i64 s_4.t188), (26, .int .i64 t191), (27, .int .i64 o_8), (135, .int .i64 s.t135), (178, slv l_18.q l_18.n l_18.cap), (179, .int .i64 (o_4.own19_tenants.length : Int)), (180, .int .i64 s_3.t180), (186, slv l_15.q l_15.n l_15.cap), (187, .int .i64 (o_3.own19_strips.length : Int)), (188, .int .i64 s_4.t188)]) (fun l_26 => [(b_2, .cells #[slv l_15.q l_15.n l_15.cap, slv l_18.q l_18.n l_18.cap] 81 (0, 0)), (l_13, .cells #[.slice qa1 na1 ca1, .int .i64 o_4.t5_1, .int .u32 o_4.t5_2] 105 (0, 0)), (b_1, .cells #[slv l_4.1.q l_4.1.n l_4.1.cap, slv l_4.2.q l_4.2.n l_4.2.cap] 81 (0, 0)), (b, .cells #[slv l_1.1.q l_1.1.n l_1.1.cap, slv l_1.2.1.q l_1.2.1.n l_1.2.1.cap] 28 (0, 0)), (l, .cells #[.slice qa0 na0 ca0, .int .i64 t33.b0_1, .int .u32 t33.b0_2] 105 (0, 0))]) (fun l_26 => [⟨3, RI.enc o_4.own19_tenants, l_18.sp, l_18.q, []⟩, ⟨3, RI.enc o_3.own19_strips, l_15.sp, l_15.q, []⟩, ⟨3, RI.enc t50.r0.strips, l_4.1.sp, l_4.1.q, []⟩, ⟨3, RI.enc t50.r0.tenants, l_4.2.sp, l_4.2.q, []⟩, ⟨77, RSt.enc t33.r0.strips, l_1.1.sp, l_1.1.q, []⟩, ⟨37, RSp.enc t33.r0.carried, l_1.2.1.sp, l_1.2.1.q, []⟩]) ?_ ?_
               ·replace hm := h99
                refine g_sr (g_fa 0 Try.runUnderlying28 rfl Try.sizeOf25 rfl rfl (g_lc 3 Try.isAgg25 rfl rfl rfl rfl (g_mv rfl rfl ?_)))
                obtain ⟨t196, h101, hm⟩ := bindO hm
                refine g_val rfl rfl rfl (fun w _ => v_ixA h101 (Try.runUnderlying25 w) (Try.sizeOf77 w) rfl rfl (vlen RSt h5 rfl) (vne h5)) (g_fa 0 Try.runUnderlying77 rfl Try.sizeOf3 rfl rfl (g_val rfl rfl rfl (fun w hh => v_ldE RSt 0 h101 (Try.isAgg3 w) rfl (hh.vseg 4 rfl h5) rfl rfl) (g_mv rfl rfl (g_val rfl rfl rfl (fun _ _ => v_eql rfl rfl) (g_nt ?_)))))
                refine g_cond rfl (fun h102 => ?_) (fun h102 => ?_)
                ·replace hm := ifD h102 hm
                 refine g_region (g_as rfl rfl (g_nil ?_))
                 obtain rfl := sj hm
                 exact g_leaf () (trivial) (sE rfl) (fun w hh => hh)
                ·replace hm := ifE h102 hm
                 refine g_skip ?_
                 obtain rfl := sj hm
                 exact g_leaf () (trivial) (sE rfl) (fun w hh => hh)
               ·intro l_26 hj
                replace hm := h100
                refine g_n_then (g_region (g_mv rfl rfl (g_mv rfl rfl ?_)))
                refine g_case 202 rfl (fun h103 => ?_) (fun h103 => ?_)
                ·replace hm := ifT (h103) hm
                 refine v_unguard rfl rfl (g_la [_, _] 3 Try.isAgg28 Try.sizeOf28 rfl rfl rfl rfl (v_unguard rfl rfl (g_mv rfl rfl (v_unguard rfl rfl (g_mv rfl rfl (v_unguard rfl rfl ?_))))))
                 obtain ⟨t206, h104, hm⟩ := bindO hm
                 refine g_callH [] [] rfl rfl rfl rfl rfl rfl rfl Try.call43 (fun w hh => c_laurellaw09_reaches t33.r0 s_3.t180 s_4.t188 (qA l_1.1.q) l_1.1.n l_1.1.cap (qA l_1.2.1.q) l_1.2.1.n l_1.2.1.cap w (HV.callee (S0 := []) (vs0 := []) hh (roC (hh.vsepA 4 rfl h5) (roC (hh.vsepA 5 rfl h6) roN))) (vlen RSt h5 rfl) (AOK.q (vne h5)) (h5).hle (vlen RSp h6 rfl) (AOK.q (vne h6)) (h6).hle h104) (fun l_27 h105 => ?_)
                 refine v_unguard rfl rfl (g_val rfl rfl rfl (fun _ _ => v_not rfl) (v_unguard rfl rfl (g_mv rfl rfl ?_)))
                 refine g_case 208 rfl (fun h106 => ?_) (fun h106 => ?_)
                 ·replace hm := ifT (h106) hm
                  refine g_k rfl rfl rfl rfl (g_k rfl rfl rfl rfl (g_k rfl rfl rfl rfl (g_k rfl rfl rfl rfl (g_k rfl rfl rfl rfl (v_unguard rfl rfl (g_pt rfl rfl rfl (g_pt rfl rfl rfl ?_)))))))
                  refine g_as rfl rfl (g_nil (g_n_blk ?_))
                  obtain rfl := sj hm
                  exact g_leaf () (trivial) (sE rfl) (fun w hh => hh)
                 ·replace hm := ifN h106 hm
                  refine v_unguard rfl rfl (g_mv rfl rfl (v_unguard rfl rfl (g_mv rfl rfl (v_unguard rfl rfl ?_))))
                  obtain ⟨t211, h107, hm⟩ := bindO hm
                  refine g_ac h107 rfl rfl rfl (v_unguard rfl rfl (g_mv rfl rfl (v_unguard rfl rfl (g_val rfl rfl rfl (fun _ _ => v_leq rfl rfl) (v_unguard rfl rfl (g_pf rfl rfl rfl (g_pt rfl rfl rfl ?_)))))))
                  refine g_as rfl rfl (g_nil (g_n_blk ?_))
                  obtain rfl := sj hm
                  exact g_leaf () (trivial) (sE rfl) (fun w hh => hh)
                ·replace hm := ifN h103 hm
                 refine g_k rfl rfl rfl rfl (g_k rfl rfl rfl rfl (g_k rfl rfl rfl rfl (g_k rfl rfl rfl rfl (g_k rfl rfl rfl rfl (g_k rfl rfl rfl rfl ?_)))))
                 refine g_skipU' rfl rfl rfl rfl rfl ?_
                 refine g_skipU' rfl rfl rfl rfl rfl ?_
                 refine g_skipU' rfl rfl rfl rfl rfl ?_
                 refine g_skipU' rfl rfl rfl rfl rfl ?_
                 refine g_skipU' rfl rfl rfl rfl rfl ?_
                 refine g_k rfl rfl rfl rfl (g_pf rfl rfl rfl (g_as rfl rfl (g_nil (g_n_blk ?_))))
                 obtain rfl := sj hm
                 exact g_leaf () (trivial) (sE rfl) (fun w hh => hh)
              ·intro l_25 hj
               replace hm := h97
               refine g_n_then (g_region ?_)
               obtain ⟨t216, h108, hm⟩ := bindO hm
               refine g_ac h108 rfl rfl rfl (g_mv rfl rfl (g_nil ?_))
               obtain rfl := sj hm
               refine g_n_then ?_
               exact g_again' _ () rfl (trivial) (sE rfl) (fun w hh => hh)
             ·replace hm := ifE h95 hm
              refine g_exit (g_x_then (g_x_then (g_x_blk ?_)))
              obtain rfl := sj hm
              have hbo := h94 _ rfl
              subst hbo
              exact g_leaf () (trivial) (sE rfl) (fun w hh => hh)
            ·intro l_23 hj
             replace hm := h93
             refine g_n_blk (g_n_then (g_region ?_))
             obtain ⟨t217, h109, hm⟩ := bindO hm
             refine g_ac h109 rfl rfl rfl (g_mv rfl rfl (g_nil ?_))
             obtain rfl := sj hm
             refine g_n_then ?_
             exact g_again' _ () rfl (trivial) (sE rfl) (fun w hh => hh)
           ·replace hm := ifE h90 hm
            refine g_exit (g_x_then (g_x_then (g_x_blk ?_)))
            obtain rfl := sj hm
            have hbo := h89 _ rfl
            subst hbo
            exact g_leaf () (trivial) (sE rfl) (hsE [0, 1, 2, 3, 4] [1, 0, 2, 3, 4, 5] 0 rfl rfl rfl rfl)
          ·intro l_21 hj
           replace hm := h88
           refine g_n_then (g_sr (g_la [_, _] 3 Try.isAgg28 Try.sizeOf28 rfl rfl rfl rfl (g_la [_, _] 0 Try.isAgg81 Try.sizeOf81 rfl rfl rfl rfl ?_)))
           obtain ⟨t221, h110, hm⟩ := bindO hm
           refine g_callH [] [] rfl rfl rfl rfl rfl rfl rfl Try.call40 (fun w hh => c_strip_Proves t33.r0 (⟨o_3.own19_strips, o_4.own19_tenants⟩ : Marks) (qA l_1.1.q) l_1.1.n l_1.1.cap (qA l_1.2.1.q) l_1.2.1.n l_1.2.1.cap (qA l_15.q) l_15.n l_15.cap (qA l_18.q) l_18.n l_18.cap w (HV.callee (S0 := []) (vs0 := []) hh (roC (hh.vsepA 4 rfl h5) (roC (hh.vsepA 5 rfl h6) (roC (hh.vsepA 0 rfl h61) (roC (hh.vsepA 1 rfl h75) roN))))) (vlen RSt h5 rfl) (AOK.q (vne h5)) (h5).hle (vlen RSp h6 rfl) (AOK.q (vne h6)) (h6).hle (vlen RI h61 rfl) (AOK.q (vne h61)) (h61).hle (vlen RI h75 rfl) (AOK.q (vne h75)) (h75).hle h110) (fun l_28 h111 => ?_)
           refine g_mv rfl rfl (g_xt rfl rfl rfl (g_xt rfl rfl rfl (g_as rfl rfl (g_as rfl rfl (g_nt (g_seq ?_))))))
           obtain ⟨o_9, h112, h113⟩ := bindO hm
           refine g_cut (ι := Unit) (fun l_29 => True) (fun l_29 => [(5, ptr b 0), (8, .int .i64 t38.r1), (13, ptr b_1 0), (18, ptr l_13 0), (135, .int .i64 s.t135), (253, .bool o_9)]) (fun l_29 => [(b_2, .cells #[slv l_15.q l_15.n l_15.cap, slv l_18.q l_18.n l_18.cap] 81 (0, 0)), (l_13, .cells #[.slice qa1 na1 ca1, .int .i64 o_4.t5_1, .int .u32 o_4.t5_2] 105 (0, 0)), (b_1, .cells #[slv l_4.1.q l_4.1.n l_4.1.cap, slv l_4.2.q l_4.2.n l_4.2.cap] 81 (0, 0)), (b, .cells #[slv l_1.1.q l_1.1.n l_1.1.cap, slv l_1.2.1.q l_1.2.1.n l_1.2.1.cap] 28 (0, 0)), (l, .cells #[.slice qa0 na0 ca0, .int .i64 t33.b0_1, .int .u32 t33.b0_2] 105 (0, 0))]) (fun l_29 => [⟨3, RI.enc o_3.own19_strips, l_15.sp, l_15.q, []⟩, ⟨3, RI.enc o_4.own19_tenants, l_18.sp, l_18.q, []⟩, ⟨3, RI.enc t50.r0.strips, l_4.1.sp, l_4.1.q, []⟩, ⟨3, RI.enc t50.r0.tenants, l_4.2.sp, l_4.2.q, []⟩, ⟨77, RSt.enc t33.r0.strips, l_1.1.sp, l_1.1.q, []⟩, ⟨37, RSp.enc t33.r0.carried, l_1.2.1.sp, l_1.2.1.q, []⟩]) ?_ ?_
           ·replace hm := h112
            refine g_region (g_mv rfl rfl (g_val rfl rfl rfl (fun _ _ => v_neq rfl rfl) (g_mv rfl rfl ?_)))
            refine g_case 226 rfl (fun h114 => ?_) (fun h114 => ?_)
            ·replace hm := ifF (of_ndec_true h114) hm
             refine v_unguard rfl rfl (g_mv rfl rfl (v_unguard rfl rfl (g_val rfl rfl rfl (fun _ _ => v_neq rfl rfl) (g_pt rfl rfl rfl (g_mv rfl rfl ?_)))))
             refine g_case 230 rfl (fun h115 => ?_) (fun h115 => ?_)
             ·replace hm := ifF (of_ndec_true h115) hm
              refine v_unguard rfl rfl (g_mv rfl rfl (v_unguard rfl rfl (g_val rfl rfl rfl (fun _ _ => v_neq rfl rfl) (g_pt rfl rfl rfl (g_mv rfl rfl ?_)))))
              refine g_case 234 rfl (fun h116 => ?_) (fun h116 => ?_)
              ·replace hm := ifF (of_ndec_true h116) hm
               refine g_k rfl rfl rfl rfl (g_k rfl rfl rfl rfl (g_k rfl rfl rfl rfl ?_))
               refine g_skipU' rfl rfl rfl rfl rfl ?_
               refine g_skipU' rfl rfl rfl rfl rfl ?_
               refine g_skipU' rfl rfl rfl rfl rfl ?_
               refine g_skipU' rfl rfl rfl rfl rfl ?_
               refine g_skipU' rfl rfl rfl rfl rfl ?_
               refine g_skipU' rfl rfl rfl rfl rfl ?_
               refine g_skipU' rfl rfl rfl rfl rfl ?_
               refine g_k rfl rfl rfl rfl (g_pt rfl rfl rfl (g_mv rfl rfl (g_k rfl rfl rfl rfl (g_k rfl rfl rfl rfl (g_k rfl rfl rfl rfl ?_)))))
               refine g_skipU' rfl rfl rfl rfl rfl ?_
               refine g_k rfl rfl rfl rfl (g_pt rfl rfl rfl (g_nil ?_))
               obtain rfl := sj hm
               exact g_leaf () (trivial) (sE rfl) (fun w hh => hh)
              ·replace hm := ifT (of_ndec_false h116) hm
               refine v_unguard rfl rfl (g_mv rfl rfl (v_unguard rfl rfl (g_val rfl rfl rfl (fun _ _ => v_eql rfl rfl) (v_unguard rfl rfl (g_mv rfl rfl ?_)))))
               refine g_case 237 rfl (fun h117 => ?_) (fun h117 => ?_)
               ·replace hm := ifD h117 hm
                refine v_unguard rfl rfl (g_mv rfl rfl (v_unguard rfl rfl (g_val rfl rfl rfl (fun _ _ => v_not rfl) (v_unguard rfl rfl (g_mv rfl rfl ?_)))))
                refine g_case 240 rfl (fun h118 => ?_) (fun h118 => ?_)
                ·replace hm := ifT (h118) hm
                 refine g_k rfl rfl rfl rfl (g_k rfl rfl rfl rfl (g_k rfl rfl rfl rfl (v_unguard rfl rfl (g_pt rfl rfl rfl (v_unguard rfl rfl (g_pt rfl rfl rfl (g_pf rfl rfl rfl ?_)))))))
                 refine g_mv rfl rfl (g_k rfl rfl rfl rfl (g_k rfl rfl rfl rfl (g_k rfl rfl rfl rfl ?_)))
                 refine g_skipU' rfl rfl rfl rfl rfl ?_
                 refine g_k rfl rfl rfl rfl (g_pt rfl rfl rfl (g_nil ?_))
                 obtain rfl := sj hm
                 exact g_leaf () (trivial) (sE rfl) (fun w hh => hh)
                ·replace hm := ifN h118 hm
                 refine v_unguard rfl rfl (g_mv rfl rfl (v_unguard rfl rfl (g_mv rfl rfl (v_unguard rfl rfl (g_val rfl rfl rfl (fun _ _ => v_gtr rfl rfl) (v_unguard rfl rfl (g_pf rfl rfl rfl ?_)))))))
                 refine v_unguard rfl rfl (g_pt rfl rfl rfl (g_pf rfl rfl rfl (g_mv rfl rfl ?_)))
                 refine g_case 247 rfl (fun h119 => ?_) (fun h119 => ?_)
                 ·replace hm := ifD h119 hm
                  refine g_k rfl rfl rfl rfl (g_k rfl rfl rfl rfl (g_k rfl rfl rfl rfl ?_))
                  refine g_skipU' rfl rfl rfl rfl rfl ?_
                  refine g_k rfl rfl rfl rfl (g_pt rfl rfl rfl (g_nil ?_))
                  obtain rfl := sj hm
                  exact g_leaf () (trivial) (sE rfl) (fun w hh => hh)
                 ·replace hm := ifE h119 hm
                  refine v_unguard rfl rfl (g_mv rfl rfl (v_unguard rfl rfl (g_val rfl rfl rfl (fun _ _ => v_eql rfl rfl) (v_unguard rfl rfl (g_mv rfl rfl ?_)))))
                  refine g_case 250 rfl (fun h120 => ?_) (fun h120 => ?_)
                  ·replace hm := ifD h120 hm
                   refine v_unguard rfl rfl (g_mv rfl rfl (v_unguard rfl rfl (g_pt rfl rfl rfl (g_pf rfl rfl rfl (g_nil ?_)))))
                   obtain rfl := sj hm
                   exact g_leaf () (trivial) (sE rfl) (fun w hh => hh)
                  ·replace hm := ifE h120 hm
                   refine g_k rfl rfl rfl rfl (v_unguard rfl rfl (g_pf rfl rfl rfl (g_pf rfl rfl rfl (g_nil ?_))))
                   obtain rfl := sj hm
                   exact g_leaf () (trivial) (sE rfl) (fun w hh => hh)
               ·replace hm := ifE h117 hm
                refine g_k rfl rfl rfl rfl (g_k rfl rfl rfl rfl (g_k rfl rfl rfl rfl ?_))
                refine g_skipU' rfl rfl rfl rfl rfl ?_
                refine g_skipU' rfl rfl rfl rfl rfl ?_
                refine g_skipU' rfl rfl rfl rfl rfl ?_
                refine g_k rfl rfl rfl rfl (v_unguard rfl rfl (g_pf rfl rfl rfl (g_pf rfl rfl rfl (g_mv rfl rfl (v_unguard rfl rfl (g_mv rfl rfl (v_unguard rfl rfl ?_)))))))
                refine g_val rfl rfl rfl (fun _ _ => v_eql rfl rfl) (v_unguard rfl rfl (g_mv rfl rfl ?_))
                refine g_case 250 rfl (fun h121 => ?_) (fun h121 => ?_)
                ·replace hm := ifD h121 hm
                 refine v_unguard rfl rfl (g_mv rfl rfl (v_unguard rfl rfl (g_pt rfl rfl rfl (g_pf rfl rfl rfl (g_nil ?_)))))
                 obtain rfl := sj hm
                 exact g_leaf () (trivial) (sE rfl) (fun w hh => hh)
                ·replace hm := ifE h121 hm
                 refine g_k rfl rfl rfl rfl (v_unguard rfl rfl (g_pf rfl rfl rfl (g_pf rfl rfl rfl (g_nil ?_))))
                 obtain rfl := sj hm
                 exact g_leaf () (trivial) (sE rfl) (fun w hh => hh)
             ·replace hm := ifT (of_ndec_false h115) hm
              refine g_k rfl rfl rfl rfl (g_k rfl rfl rfl rfl (g_pf rfl rfl rfl (g_mv rfl rfl (v_unguard rfl rfl (g_mv rfl rfl (v_unguard rfl rfl (g_val rfl rfl rfl (fun _ _ => v_eql rfl rfl) ?_)))))))
              refine v_unguard rfl rfl (g_mv rfl rfl ?_)
              refine g_case 237 rfl (fun h122 => ?_) (fun h122 => ?_)
              ·replace hm := ifD h122 hm
               refine v_unguard rfl rfl (g_mv rfl rfl (v_unguard rfl rfl (g_val rfl rfl rfl (fun _ _ => v_not rfl) (v_unguard rfl rfl (g_mv rfl rfl ?_)))))
               refine g_case 240 rfl (fun h123 => ?_) (fun h123 => ?_)
               ·replace hm := ifT (h123) hm
                refine g_k rfl rfl rfl rfl (g_k rfl rfl rfl rfl (g_k rfl rfl rfl rfl (v_unguard rfl rfl (g_pt rfl rfl rfl (v_unguard rfl rfl (g_pt rfl rfl rfl (g_pf rfl rfl rfl ?_)))))))
                refine g_mv rfl rfl (g_k rfl rfl rfl rfl (g_k rfl rfl rfl rfl (g_k rfl rfl rfl rfl ?_)))
                refine g_skipU' rfl rfl rfl rfl rfl ?_
                refine g_k rfl rfl rfl rfl (g_pt rfl rfl rfl (g_nil ?_))
                obtain rfl := sj hm
                exact g_leaf () (trivial) (sE rfl) (fun w hh => hh)
               ·replace hm := ifN h123 hm
                refine v_unguard rfl rfl (g_mv rfl rfl (v_unguard rfl rfl (g_mv rfl rfl (v_unguard rfl rfl (g_val rfl rfl rfl (fun _ _ => v_gtr rfl rfl) (v_unguard rfl rfl (g_pf rfl rfl rfl ?_)))))))
                refine v_unguard rfl rfl (g_pt rfl rfl rfl (g_pf rfl rfl rfl (g_mv rfl rfl ?_)))
                refine g_case 247 rfl (fun h124 => ?_) (fun h124 => ?_)
                ·replace hm := ifD h124 hm
                 refine g_k rfl rfl rfl rfl (g_k rfl rfl rfl rfl (g_k rfl rfl rfl rfl ?_))
                 refine g_skipU' rfl rfl rfl rfl rfl ?_
                 refine g_k rfl rfl rfl rfl (g_pt rfl rfl rfl (g_nil ?_))
                 obtain rfl := sj hm
                 exact g_leaf () (trivial) (sE rfl) (fun w hh => hh)
                ·replace hm := ifE h124 hm
                 refine v_unguard rfl rfl (g_mv rfl rfl (v_unguard rfl rfl (g_val rfl rfl rfl (fun _ _ => v_eql rfl rfl) (v_unguard rfl rfl (g_mv rfl rfl ?_)))))
                 refine g_case 250 rfl (fun h125 => ?_) (fun h125 => ?_)
                 ·replace hm := ifD h125 hm
                  refine v_unguard rfl rfl (g_mv rfl rfl (v_unguard rfl rfl (g_pt rfl rfl rfl (g_pf rfl rfl rfl (g_nil ?_)))))
                  obtain rfl := sj hm
                  exact g_leaf () (trivial) (sE rfl) (fun w hh => hh)
                 ·replace hm := ifE h125 hm
                  refine g_k rfl rfl rfl rfl (v_unguard rfl rfl (g_pf rfl rfl rfl (g_pf rfl rfl rfl (g_nil ?_))))
                  obtain rfl := sj hm
                  exact g_leaf () (trivial) (sE rfl) (fun w hh => hh)
              ·replace hm := ifE h122 hm
               refine g_k rfl rfl rfl rfl (g_k rfl rfl rfl rfl (g_k rfl rfl rfl rfl ?_))
               refine g_skipU' rfl rfl rfl rfl rfl ?_
               refine g_skipU' rfl rfl rfl rfl rfl ?_
               refine g_skipU' rfl rfl rfl rfl rfl ?_
               refine g_k rfl rfl rfl rfl (v_unguard rfl rfl (g_pf rfl rfl rfl (g_pf rfl rfl rfl (g_mv rfl rfl (v_unguard rfl rfl (g_mv rfl rfl (v_unguard rfl rfl ?_)))))))
               refine g_val rfl rfl rfl (fun _ _ => v_eql rfl rfl) (v_unguard rfl rfl (g_mv rfl rfl ?_))
               refine g_case 250 rfl (fun h126 => ?_) (fun h126 => ?_)
               ·replace hm := ifD h126 hm
                refine v_unguard rfl rfl (g_mv rfl rfl (v_unguard rfl rfl (g_pt rfl rfl rfl (g_pf rfl rfl rfl (g_nil ?_)))))
                obtain rfl := sj hm
                exact g_leaf () (trivial) (sE rfl) (fun w hh => hh)
               ·replace hm := ifE h126 hm
                refine g_k rfl rfl rfl rfl (v_unguard rfl rfl (g_pf rfl rfl rfl (g_pf rfl rfl rfl (g_nil ?_))))
                obtain rfl := sj hm
                exact g_leaf () (trivial) (sE rfl) (fun w hh => hh)
            ·replace hm := ifT (of_ndec_false h114) hm
             refine g_k rfl rfl rfl rfl (g_k rfl rfl rfl rfl (g_pf rfl rfl rfl (g_mv rfl rfl (g_k rfl rfl rfl rfl (g_k rfl rfl rfl rfl (g_pf rfl rfl rfl (g_mv rfl rfl ?_)))))))
             refine v_unguard rfl rfl (g_mv rfl rfl (v_unguard rfl rfl (g_val rfl rfl rfl (fun _ _ => v_eql rfl rfl) (v_unguard rfl rfl (g_mv rfl rfl ?_)))))
             refine g_case 237 rfl (fun h127 => ?_) (fun h127 => ?_)
             ·replace hm := ifD h127 hm
              refine v_unguard rfl rfl (g_mv rfl rfl (v_unguard rfl rfl (g_val rfl rfl rfl (fun _ _ => v_not rfl) (v_unguard rfl rfl (g_mv rfl rfl ?_)))))
              refine g_case 240 rfl (fun h128 => ?_) (fun h128 => ?_)
              ·replace hm := ifT (h128) hm
               refine g_k rfl rfl rfl rfl (g_k rfl rfl rfl rfl (g_k rfl rfl rfl rfl (v_unguard rfl rfl (g_pt rfl rfl rfl (v_unguard rfl rfl (g_pt rfl rfl rfl (g_pf rfl rfl rfl ?_)))))))
               refine g_mv rfl rfl (g_k rfl rfl rfl rfl (g_k rfl rfl rfl rfl (g_k rfl rfl rfl rfl ?_)))
               refine g_skipU' rfl rfl rfl rfl rfl ?_
               refine g_k rfl rfl rfl rfl (g_pt rfl rfl rfl (g_nil ?_))
               obtain rfl := sj hm
               exact g_leaf () (trivial) (sE rfl) (fun w hh => hh)
              ·replace hm := ifN h128 hm
               refine v_unguard rfl rfl (g_mv rfl rfl (v_unguard rfl rfl (g_mv rfl rfl (v_unguard rfl rfl (g_val rfl rfl rfl (fun _ _ => v_gtr rfl rfl) (v_unguard rfl rfl (g_pf rfl rfl rfl ?_)))))))
               refine v_unguard rfl rfl (g_pt rfl rfl rfl (g_pf rfl rfl rfl (g_mv rfl rfl ?_)))
               refine g_case 247 rfl (fun h129 => ?_) (fun h129 => ?_)
               ·replace hm := ifD h129 hm
                refine g_k rfl rfl rfl rfl (g_k rfl rfl rfl rfl (g_k rfl rfl rfl rfl ?_))
                refine g_skipU' rfl rfl rfl rfl rfl ?_
                refine g_k rfl rfl rfl rfl (g_pt rfl rfl rfl (g_nil ?_))
                obtain rfl := sj hm
                exact g_leaf () (trivial) (sE rfl) (fun w hh => hh)
               ·replace hm := ifE h129 hm
                refine v_unguard rfl rfl (g_mv rfl rfl (v_unguard rfl rfl (g_val rfl rfl rfl (fun _ _ => v_eql rfl rfl) (v_unguard rfl rfl (g_mv rfl rfl ?_)))))
                refine g_case 250 rfl (fun h130 => ?_) (fun h130 => ?_)
                ·replace hm := ifD h130 hm
                 refine v_unguard rfl rfl (g_mv rfl rfl (v_unguard rfl rfl (g_pt rfl rfl rfl (g_pf rfl rfl rfl (g_nil ?_)))))
                 obtain rfl := sj hm
                 exact g_leaf () (trivial) (sE rfl) (fun w hh => hh)
                ·replace hm := ifE h130 hm
                 refine g_k rfl rfl rfl rfl (v_unguard rfl rfl (g_pf rfl rfl rfl (g_pf rfl rfl rfl (g_nil ?_))))
                 obtain rfl := sj hm
                 exact g_leaf () (trivial) (sE rfl) (fun w hh => hh)
             ·replace hm := ifE h127 hm
              refine g_k rfl rfl rfl rfl (g_k rfl rfl rfl rfl (g_k rfl rfl rfl rfl ?_))
              refine g_skipU' rfl rfl rfl rfl rfl ?_
              refine g_skipU' rfl rfl rfl rfl rfl ?_
              refine g_skipU' rfl rfl rfl rfl rfl ?_
              refine g_k rfl rfl rfl rfl (v_unguard rfl rfl (g_pf rfl rfl rfl (g_pf rfl rfl rfl (g_mv rfl rfl (v_unguard rfl rfl (g_mv rfl rfl (v_unguard rfl rfl ?_)))))))
              refine g_val rfl rfl rfl (fun _ _ => v_eql rfl rfl) (v_unguard rfl rfl (g_mv rfl rfl ?_))
              refine g_case 250 rfl (fun h131 => ?_) (fun h131 => ?_)
              ·replace hm := ifD h131 hm
               refine v_unguard rfl rfl (g_mv rfl rfl (v_unguard rfl rfl (g_pt rfl rfl rfl (g_pf rfl rfl rfl (g_nil ?_)))))
               obtain rfl := sj hm
               exact g_leaf () (trivial) (sE rfl) (fun w hh => hh)
              ·replace hm := ifE h131 hm
               refine g_k rfl rfl rfl rfl (v_unguard rfl rfl (g_pf rfl rfl rfl (g_pf rfl rfl rfl (g_nil ?_))))
               obtain rfl := sj hm
               exact g_leaf () (trivial) (sE rfl) (fun w hh => hh)
           ·intro l_29 hj
            replace hm := h113
            refine g_n_then ?_
            refine g_cond rfl (fun h132 => ?_) (fun h132 => ?_)
            ·replace hm := ifT (h132) hm
             refine g_sr (g_as rfl rfl (g_nt (g_ret (g_r_blk (g_r_then (g_r_then (g_r_blk ?_)))))))
             obtain rfl := sj hm
             have hbo := h56 _ rfl
             subst hbo
             refine g_r_then ?_
             replace hm := ocR h55
             refine g_r_then ?_
             obtain rfl := sj hm
             refine g_done rfl (fun w hh => (.tmp rfl .nil)) (fun w hh => ⟨(), rfl, trivial, hh.se [] [] 2 rfl rfl rfl rfl⟩)
            ·replace hm := ifN h132 hm
             refine g_skip (g_n_blk (g_n_then (g_region ?_)))
             obtain ⟨t254, h133, hm⟩ := bindO hm
             refine g_ac h133 rfl rfl rfl (g_mv rfl rfl (g_nil ?_))
             obtain rfl := sj hm
             refine g_n_then ?_
             exact g_again' _ () rfl (trivial) (sE rfl) (hsE [1, 2, 3, 4] [2, 3, 4, 5] 0 rfl rfl rfl rfl)
       ·replace hm := ifE h57 hm
        refine g_exit (g_x_then (g_x_then (g_x_blk ?_)))
        obtain rfl := sj hm
        have hbo := h56 _ rfl
        subst hbo
        exact g_leaf (⟨s.t5_1, s.t5_2⟩ : m_laurellaw09_StripProved_C2) (rfl) (.nil) (fun w hh => hh)
      ·intro j hj
       have h134 := hj
       subst h134
       replace hm := ocL h55
       refine g_n_then (g_sr ?_)
       obtain ⟨t255, h135, hm⟩ := bindO hm
       refine g_callH [] [] rfl rfl rfl rfl rfl rfl rfl Try.call20 (fun w hh => c_laurellaw09_awake  w (HV.callee (S0 := []) (vs0 := []) hh roN)  h135) (fun l_30 h136 => ?_)
       refine g_as rfl rfl (g_nt (g_ret ?_))
       obtain rfl := sj hm
       refine g_done rfl (fun w hh => (.tmp rfl .nil)) (fun w hh => ⟨(), rfl, trivial, hh.se [] [] 2 rfl rfl rfl rfl⟩)
end Go.Proofs.Ws

namespace Go.Proofs.Ws
open Go Go.Fw Go.Gx Go.Sp
set_option linter.unusedVariables false
def HOK (l : List Int) (p : Int) : Prop := 0 ≤ p ∧ (p < (l.length : Int) ∨ p = 0)
theorem pick_ok {l : List Int} {p r : Int} (hl : l.length ≤ 9223372036854775807) (hp : HOK l p) : ∃ x, m_laurelkit_Heap_pick_1 l p r = some x ∧ (0 ≤ x.r0 ∧ x.r0 ≤ 32767) ∧ HOK l x.h0_1 := by
  obtain ⟨h0, h1⟩ := hp
  unfold m_laurelkit_Heap_pick_1
  have e1 : addc p 1 = some (p + 1) := addc_eq (by omega)
  by_cases hlt : p < (l.length : Int)
  · rw [if_pos hlt, ix_eq 0 h0 hlt, e1]
    simp only [Option.bind_some]
    by_cases hge : (l.length : Int) ≤ p + 1
    · rw [if_pos hge]
      exact ⟨_, rfl, Go.Fw.and_bound _ _ rfl, Int.le_refl _, .inr rfl⟩
    · rw [if_neg hge]
      exact ⟨_, rfl, Go.Fw.and_bound _ _ rfl, by simp only; omega, .inl (by simp only; omega)⟩
  · rw [if_neg hlt, e1]
    simp only [Option.bind_some]
    by_cases hge : (l.length : Int) ≤ p + 1
    · rw [if_pos hge]
      exact ⟨_, rfl, Go.Fw.and_bound _ _ rfl, Int.le_refl _, .inr rfl⟩
    · rw [if_neg hge]
      exact ⟨_, rfl, Go.Fw.and_bound _ _ rfl, by simp only; omega, .inl (by simp only; omega)⟩
theorem upto_ok {l : List Int} {p r n : Int} (hl : l.length ≤ 9223372036854775807) (hp : HOK l p) (hn : -1000000 ≤ n ∧ n ≤ 1000000) : ∃ x, m_laurelkit_Heap_Upto_1 l p r n = some x ∧ (0 ≤ x.r0 ∧ x.r0 ≤ max 0 n) ∧ HOK l x.h0_1 := by
  obtain ⟨x, hx, hb, hk⟩ := pick_ok (r := r) hl hp
  unfold m_laurelkit_Heap_Upto_1
  rw [hx, Option.bind_some, addc_eq (by omega), Option.bind_some, remc_eq (by omega), Option.bind_some]
  refine ⟨_, rfl, ?_, hk⟩
  have h1 := Int.tmod_nonneg (max 1 (n + 1)) hb.1
  have h2 := Int.tmod_lt_of_pos x.r0 (show 0 < max 1 (n + 1) by omega)
  simp only
  omega
theorem from_ok {l : List Int} {p r lo hi : Int} (hl : l.length ≤ 9223372036854775807) (hp : HOK l p) (hn : (-400000 ≤ lo ∧ lo ≤ 400000) ∧ -400000 ≤ hi ∧ hi ≤ 400000) : ∃ x, m_laurelkit_Heap_From_1 l p r lo hi = some x ∧ (lo ≤ x.r0 ∧ x.r0 ≤ max lo hi) ∧ HOK l x.h0_1 := by
  unfold m_laurelkit_Heap_From_1
  rw [subc_eq (by omega), Option.bind_some]
  obtain ⟨x, hx, hb, hk⟩ := upto_ok (r := r) (n := hi - lo) hl hp (by omega)
  rw [hx, Option.bind_some, addc_eq (by omega), Option.bind_some]
  exact ⟨_, rfl, by simp only; omega, hk⟩
theorem once_ok {l : List Int} {p r n : Int} (hl : l.length ≤ 9223372036854775807) (hp : HOK l p) (hn : -400000 ≤ n ∧ n ≤ 400000) : ∃ x, m_laurelkit_Heap_Once_1 l p r n = some x ∧ HOK l x.h0_1 := by
  unfold m_laurelkit_Heap_Once_1
  rw [subc_eq (by omega), Option.bind_some]
  obtain ⟨x, hx, hb, hk⟩ := upto_ok (r := r) (n := n - 1) hl hp (by omega)
  rw [hx, Option.bind_some]
  exact ⟨_, rfl, hk⟩
theorem around_ok {l : List Int} {p r n wd : Int} (hl : l.length ≤ 9223372036854775807) (hp : HOK l p) (hn : 0 ≤ n ∧ n ≤ 30) (hw : 0 ≤ wd ∧ wd ≤ 10) : ∃ x, m_laurellaw09_around_1 l p r n wd = some x ∧ (0 ≤ x.r0.lo ∧ x.r0.lo ≤ n ∧ n ≤ x.r0.hi ∧ x.r0.hi ≤ 30) ∧ HOK l x.b0_1 := by
  unfold m_laurellaw09_around_1
  obtain ⟨x, hx, hb, hk⟩ := upto_ok (r := r) (n := wd) hl hp (by omega)
  rw [hx, Option.bind_some, subc_eq (by omega), Option.bind_some]
  obtain ⟨z, hz, hb2, hk2⟩ := upto_ok (r := x.h0_2) (n := wd) hl hk (by omega)
  rw [hz, Option.bind_some, addc_eq (by omega), Option.bind_some]
  exact ⟨_, rfl, by simp only; omega, hk2⟩
theorem m_reaches_eq {s : Scalps} (h6 : s.strips.length ≤ 1000) {t k : Nat} (hk : k ≤ 1000) : m_laurellaw09_reaches s (t : Int) (k : Int) = some (reachB s.strips t k) := by
  unfold m_laurellaw09_reaches reachB
  have key := iterM_any0 (f := m_laurellaw09_reaches_L0 s (t : Int) (k : Int)) s.strips.length (fun j => decide (j ≤ k + 1 ∧ k ≤ j + 1 ∧ (s.strips.getD j default).tenant = (t : Int))) true (fun j hj => ?_) ?_ (N := FU) (FU_lt (by omega))
  · rw [key, Option.bind_some]
    cases h : (List.range s.strips.length).any fun j => decide (j ≤ k + 1 ∧ k ≤ j + 1 ∧ (s.strips.getD j default).tenant = (t : Int)) <;> rfl
  · unfold m_laurellaw09_reaches_L0
    have hlt : (j : Int) < (s.strips.length : Int) := by omega
    rw [if_pos hlt, ix_nat default hj, Option.bind_some]
    by_cases ht : (s.strips.getD j default).tenant = (t : Int)
    · rw [if_pos ht, subc_eq (by omega), Option.bind_some, subc_eq (by omega), Option.bind_some, Option.bind_some]
      by_cases hd : j ≤ k + 1 ∧ k ≤ j + 1
      · rw [if_pos (decide_eq_true (show max ((j : Int) - (k : Int)) ((k : Int) - (j : Int)) < 2 by omega)), if_pos (decide_eq_true ⟨hd.1, hd.2, ht⟩)]
      · rw [if_neg (fun h => by have := of_decide_eq_true h; omega), if_neg (fun h => by have := of_decide_eq_true h; omega), addc_eq (by omega), Option.bind_some]
    · rw [if_neg ht, Option.bind_some, if_neg (by simp), if_neg (fun h => ht (of_decide_eq_true h).2.2), addc_eq (by omega), Option.bind_some]
  · unfold m_laurellaw09_reaches_L0
    rw [if_neg (by omega)]
theorem reachB_congr {a b : List Strip} (h : a.map (·.tenant) = b.map (·.tenant)) (t k : Nat) : reachB a t k = reachB b t k := by
  have hl : a.length = b.length := by have := congrArg List.length h; simpa using this
  unfold reachB
  rw [hl, Bool.eq_iff_iff, List.any_eq_true, List.any_eq_true]
  have hg : ∀ j, j < b.length → (a.getD j default).tenant = (b.getD j default).tenant := fun j hj => by
    have h2 : (a.map (·.tenant))[j]? = (b.map (·.tenant))[j]? := by rw [h]
    rw [List.getElem?_map, List.getElem?_map] at h2
    rw [List.getD_eq_getElem?_getD, List.getD_eq_getElem?_getD, List.getElem?_eq_getElem (by omega), List.getElem?_eq_getElem hj]
    rw [List.getElem?_eq_getElem (by omega), List.getElem?_eq_getElem hj] at h2
    simpa using h2
  constructor
  · rintro ⟨j, h1, h2⟩
    obtain ⟨a1, a2, a3⟩ := of_decide_eq_true h2
    exact ⟨j, h1, decide_eq_true ⟨a1, a2, by rw [← hg j (List.mem_range.1 h1)]; exact a3⟩⟩
  · rintro ⟨j, h1, h2⟩
    obtain ⟨a1, a2, a3⟩ := of_decide_eq_true h2
    exact ⟨j, h1, decide_eq_true ⟨a1, a2, by rw [hg j (List.mem_range.1 h1)]; exact a3⟩⟩
def rowsM (T S : Nat) (y : Nat → Nat → Int) (j k : Nat) : List (List Int) := (List.range T).map fun t => if t < j then (List.range S).map (y t) else if t = j then (List.range k).map (y t) else []
def putY (y : Nat → Nat → Int) (t k : Nat) (n : Int) : Nat → Nat → Int := fun t' k' => if t' = t ∧ k' = k then n else y t' k'
theorem rowsM_next {T S : Nat} {y : Nat → Nat → Int} {j : Nat} : rowsM T S y j S = rowsM T S y (j + 1) 0 := by
  unfold rowsM
  refine List.map_congr_left fun t _ => ?_
  by_cases h1 : t < j
  · rw [if_pos h1, if_pos (by omega)]
  · rw [if_neg h1]
    by_cases h2 : t = j
    · rw [if_pos h2, if_pos (by omega)]
    · rw [if_neg h2, if_neg (by omega)]
      split <;> rfl
theorem rowsM_put {T S : Nat} {y : Nat → Nat → Int} {j k : Nat} {n : Int} : (rowsM T S y j k).set j ((List.range k).map (y j) ++ [n]) = rowsM T S (putY y j k n) j (k + 1) := by
  unfold rowsM
  rw [range_set]
  refine List.map_congr_left fun t _ => ?_
  by_cases h2 : t = j
  · subst h2
    rw [if_pos rfl, if_neg (Nat.lt_irrefl _), if_pos rfl, List.range_succ, List.map_append]
    congr 1
    · refine List.map_congr_left fun i hi => ?_
      have := List.mem_range.1 hi
      unfold putY
      rw [if_neg (by omega)]
    · simp [putY]
  · rw [if_neg h2, if_neg h2]
    by_cases h1 : t < j
    · rw [if_pos h1, if_pos h1]
      refine List.map_congr_left fun i hi => ?_
      unfold putY
      rw [if_neg (by omega)]
    · rw [if_neg h1, if_neg h1, if_neg h2]
theorem rowsM_at {T S : Nat} {y : Nat → Nat → Int} {j k : Nat} (h : j < T) : ix (rowsM T S y j k) (j : Int) = some ((List.range k).map (y j)) := by
  unfold rowsM
  rw [range_ix h, if_neg (Nat.lt_irrefl _), if_pos rfl]
theorem rowsM_mat {T S : Nat} {y : Nat → Nat → Int} : rowsM T S y T 0 = mat T S y := by
  unfold rowsM mat
  refine List.map_congr_left fun t ht => ?_
  rw [if_pos (List.mem_range.1 ht)]
def YOK (st : List Strip) (y : Nat → Nat → Int) : Prop := ∀ t k, 0 ≤ y t k ∧ y t k ≤ 4 ∧ (0 < y t k → reachB st t k = true)
theorem putY_sum {y : Nat → Nat → Int} {t k : Nat} {n : Int} : sumTo (putY y t k n t) (k + 1) = sumTo (y t) k + n := by
  simp only [sumTo]
  rw [sumTo_congr (g := y t) (fun i hi => by unfold putY; rw [if_neg (by omega)])]
  unfold putY
  rw [if_pos ⟨rfl, rfl⟩]
theorem putY_row {y : Nat → Nat → Int} {t k t' S : Nat} {n : Int} (h : t' ≠ t) : sumTo (putY y t k n t') S = sumTo (y t') S := by
  refine sumTo_congr fun i _ => ?_
  unfold putY
  rw [if_neg (fun e => h e.1)]
end Go.Proofs.Ws

namespace Go.Proofs.Ws
open Go Go.Fw Go.Gx Go.Sp
set_option linter.unusedVariables false
theorem made_L0 {l : List Int} (hl : l.length ≤ 9223372036854775807) {t24 t27 : m_laurelkit_Heap_From_1_R} (hS : 1 ≤ t24.r0 ∧ t24.r0 ≤ 6) (hT : 1 ≤ t27.r0 ∧ t27.r0 ≤ 5) {p r : Int} (hp : HOK l p) :
    ∃ o, iterM FU (m_laurellaw09_Made_1_L0 t24 t27 l) ⟨0, p, r, []⟩ = some o ∧ HOK l o.b0_1 ∧ (o.s8_strips.length : Int) = t24.r0 ∧ ∀ x, x ∈ o.s8_strips → 0 ≤ x.tenant ∧ x.tenant < t27.r0 := by
  refine iterM_inv (f := m_laurellaw09_Made_1_L0 t24 t27 l) (fun s => 0 ≤ s.t29 ∧ s.t29 ≤ t24.r0 ∧ HOK l s.b0_1 ∧ (s.s8_strips.length : Int) = s.t29 ∧ ∀ x, x ∈ s.s8_strips → 0 ≤ x.tenant ∧ x.tenant < t27.r0) (fun s => (t24.r0 - s.t29).toNat) _ (fun s hs => ?_) FU _ (FU_lt (by simp only; omega)) ⟨by simp, by simp only; omega, hp, rfl, by simp⟩
  obtain ⟨h0, h1, hk, hlen, hx⟩ := hs
  unfold m_laurellaw09_Made_1_L0
  by_cases hlt : s.t29 < t24.r0
  · left
    rw [if_pos hlt, subc_eq (by omega), Option.bind_some]
    obtain ⟨z, hz, hb, hk2⟩ := upto_ok (r := s.b0_2) (n := t27.r0 - 1) hl hk (by omega)
    rw [hz, Option.bind_some, appc_eq (by simp only [List.length_cons, List.length_nil]; omega), Option.bind_some, addc_eq (by omega), Option.bind_some]
    refine ⟨_, rfl, ⟨by simp only; omega, by simp only; omega, hk2, by simp only [List.length_append, List.length_cons, List.length_nil]; omega, fun x hx' => ?_⟩, by simp only; omega⟩
    rcases List.mem_append.1 hx' with h | h
    · exact hx x h
    · rw [List.mem_singleton] at h
      subst h
      simp only; omega
  · right
    rw [if_neg hlt]
    exact ⟨_, rfl, hk, by simp only; omega, hx⟩
theorem made_L2 {l : List Int} (hl : l.length ≤ 9223372036854775807) {t24 : m_laurelkit_Heap_From_1_R} {o : m_laurellaw09_Made_1_C0} {T : Nat} (hT : T ≤ 5) (hS : (o.s8_strips.length : Int) = t24.r0) (h6 : o.s8_strips.length ≤ 6) {s1 : m_laurellaw09_Made_1_S1} {j : Nat} (hj : j < T) (hsj : s1.t46 = (j : Int)) {y : Nat → Nat → Int} (hy : YOK o.s8_strips y) {p r : Int} (hp : HOK l p) :
    ∃ o2, iterM FU (m_laurellaw09_Made_1_L2 t24 o s1 l) ⟨0, 0, p, r, rowsM T o.s8_strips.length y j 0⟩ = some o2 ∧ HOK l o2.b0_1 ∧ ∃ y', YOK o.s8_strips y' ∧ o2.real11 = rowsM T o.s8_strips.length y' j o.s8_strips.length ∧ o2.sum13 = sumTo (y' j) o.s8_strips.length ∧ ∀ t, t ≠ j → sumTo (y' t) o.s8_strips.length = sumTo (y t) o.s8_strips.length := by
  refine iterM_inv (f := m_laurellaw09_Made_1_L2 t24 o s1 l) (fun s => ∃ k : Nat, s.t50 = (k : Int) ∧ k ≤ o.s8_strips.length ∧ HOK l s.b0_1 ∧ ∃ y', YOK o.s8_strips y' ∧ s.real11 = rowsM T o.s8_strips.length y' j k ∧ s.sum13 = sumTo (y' j) k ∧ ∀ t, t ≠ j → sumTo (y' t) o.s8_strips.length = sumTo (y t) o.s8_strips.length) (fun s => o.s8_strips.length - s.t50.toNat) _ (fun s hs => ?_) FU _ (FU_lt (by simp only; omega)) ⟨0, rfl, Nat.zero_le _, hp, y, hy, rfl, rfl, fun _ _ => rfl⟩
  obtain ⟨k, hk, hkle, hh, y', hy', hre, hsum, hoth⟩ := hs
  unfold m_laurellaw09_Made_1_L2
  rw [hk, hre, hsum]
  by_cases hlt : (k : Int) < t24.r0
  · left
    have hkl : k < o.s8_strips.length := by omega
    rw [if_pos hlt, hsj, m_reaches_eq (s := ⟨o.s8_strips, s1.s8_carried⟩) (by simp only; omega) (by omega), Option.bind_some]
    have hc : ∃ z : m_laurellaw09_Made_1_C3, (((if reachB o.s8_strips j k = true then ((ix o.s8_strips (k : Int)).bind fun t61 => if t61.tenant = (j : Int) then (some (⟨true, s.b0_1, s.b0_2⟩ : m_laurellaw09_Made_1_C4)) else ((m_laurelkit_Heap_Once_1 l s.b0_1 s.b0_2 4).bind fun t68 => some (⟨t68.r0, t68.h0_1, t68.h0_2⟩ : m_laurellaw09_Made_1_C4))) else (some (⟨false, s.b0_1, s.b0_2⟩ : m_laurellaw09_Made_1_C4))).bind fun o_4 => if o_4.t70 = true then ((m_laurelkit_Heap_Upto_1 l o_4.b0_1 o_4.b0_2 4).bind fun t72 => some (⟨t72.r0, t72.h0_1, t72.h0_2⟩ : m_laurellaw09_Made_1_C3)) else (some (⟨0, o_4.b0_1, o_4.b0_2⟩ : m_laurellaw09_Made_1_C3)))) = some z ∧ HOK l z.b0_1 ∧ 0 ≤ z.n15 ∧ z.n15 ≤ 4 ∧ (0 < z.n15 → reachB o.s8_strips j k = true) := by
      by_cases hr : reachB o.s8_strips j k = true
      · rw [if_pos hr, ix_nat default hkl, Option.bind_some]
        have hc4 : ∃ z4 : m_laurellaw09_Made_1_C4, (if (o.s8_strips.getD k default).tenant = (j : Int) then (some (⟨true, s.b0_1, s.b0_2⟩ : m_laurellaw09_Made_1_C4)) else ((m_laurelkit_Heap_Once_1 l s.b0_1 s.b0_2 4).bind fun t68 => some (⟨t68.r0, t68.h0_1, t68.h0_2⟩ : m_laurellaw09_Made_1_C4))) = some z4 ∧ HOK l z4.b0_1 := by
          split
          · exact ⟨_, rfl, hh⟩
          · obtain ⟨x, hx, hk2⟩ := once_ok (r := s.b0_2) (n := 4) hl hh (by omega)
            rw [hx, Option.bind_some]
            exact ⟨_, rfl, hk2⟩
        obtain ⟨z4, hz4, hk4⟩ := hc4
        rw [hz4, Option.bind_some]
        split
        · obtain ⟨x, hx, hb, hk2⟩ := upto_ok (r := z4.b0_2) (n := 4) hl hk4 (by omega)
          rw [hx, Option.bind_some]
          exact ⟨_, rfl, hk2, by simp only; omega, by simp only; omega, fun _ => hr⟩
        · exact ⟨_, rfl, hk4, by simp, by simp, fun _ => hr⟩
      · rw [if_neg hr, Option.bind_some, if_neg (by simp)]
        exact ⟨_, rfl, hh, by simp, by simp, fun h => absurd h (Int.lt_irrefl _)⟩
    obtain ⟨z, hz, hzk, hz0, hz4, hzr⟩ := hc
    rw [hz, Option.bind_some, rowsM_at hj, Option.bind_some, appc_eq (by simp only [List.length_map, List.length_range, List.length_cons, List.length_nil]; omega), Option.bind_some]
    have hb := sumTo_bound (f := y' j) (b := 4) (n := k) (fun i _ => ⟨(hy' j i).1, (hy' j i).2.1⟩)
    rw [addc_eq (by omega), Option.bind_some, Option.bind_some, Option.bind_some, addc_eq (by omega), Option.bind_some, show Int.toNat (j : Int) = j by omega, rowsM_put]
    refine ⟨_, rfl, ⟨k + 1, rfl, by omega, hzk, putY y' j k z.n15, fun t k' => ?_, rfl, ?_, fun t ht => ?_⟩, by simp only; omega⟩
    · unfold putY
      split
      · rename_i he
        obtain ⟨e1, e2⟩ := he
        subst e1; subst e2
        exact ⟨hz0, hz4, hzr⟩
      · exact hy' t k'
    · rw [putY_sum]
    · rw [putY_row ht]; exact hoth t ht
  · right
    have : k = o.s8_strips.length := by omega
    subst this
    rw [if_neg hlt]
    exact ⟨_, rfl, hh, y', hy', rfl, rfl, hoth⟩
structure CarOK (S : Nat) (y : Nat → Nat → Int) (ca : List Span) (n : Nat) : Prop where
  len : ca.length = n
  ok : ∀ t, t < n → 0 ≤ (hOf ca t).lo ∧ (hOf ca t).lo ≤ sumTo (y t) S ∧ sumTo (y t) S ≤ (hOf ca t).hi ∧ (hOf ca t).hi ≤ 30
theorem made_L1 {l : List Int} (hl : l.length ≤ 9223372036854775807) {t24 : m_laurelkit_Heap_From_1_R} {o : m_laurellaw09_Made_1_C0} {T : Nat} (hT : T ≤ 5) (hS : (o.s8_strips.length : Int) = t24.r0) (h6 : o.s8_strips.length ≤ 6) {t43 : List (List Int)} (h43 : t43.length = T) {p r : Int} (hp : HOK l p) :
    ∃ o1, iterM FU (m_laurellaw09_Made_1_L1 t43 t24 o l) ⟨0, p, r, rowsM T o.s8_strips.length (fun _ _ => 0) 0 0, []⟩ = some o1 ∧ HOK l o1.b0_1 ∧ ∃ y, YOK o.s8_strips y ∧ o1.real11 = mat T o.s8_strips.length y ∧ CarOK o.s8_strips.length y o1.s8_carried T := by
  refine iterM_inv (f := m_laurellaw09_Made_1_L1 t43 t24 o l) (fun s => ∃ j : Nat, s.t46 = (j : Int) ∧ j ≤ T ∧ HOK l s.b0_1 ∧ ∃ y, YOK o.s8_strips y ∧ s.real11 = rowsM T o.s8_strips.length y j 0 ∧ CarOK o.s8_strips.length y s.s8_carried j) (fun s => T - s.t46.toNat) _ (fun s hs => ?_) FU _ (FU_lt (by simp only; omega)) ⟨0, rfl, Nat.zero_le _, hp, fun _ _ => 0, fun t k => ⟨Int.le_refl _, (by decide : (0 : Int) ≤ 4), fun h => absurd h (Int.lt_irrefl _)⟩, rfl, rfl, fun t ht => by omega⟩
  obtain ⟨j, hj, hjle, hh, y, hy, hre, hca⟩ := hs
  have hcl := hca.len
  unfold m_laurellaw09_Made_1_L1
  rw [hj, hre, h43]
  by_cases hlt : (j : Int) < (T : Int)
  · left
    rw [if_pos hlt]
    obtain ⟨o2, ho2, hk2, y', hy', hre', hsum', hoth⟩ := made_L2 hl (t24 := t24) hT hS h6 (s1 := s) (j := j) (by omega) hj hy (r := s.b0_2) hh
    rw [ho2, Option.bind_some, hsum']
    have hb := sumTo_bound (f := y' j) (b := 4) (n := o.s8_strips.length) (fun i _ => ⟨(hy' j i).1, (hy' j i).2.1⟩)
    obtain ⟨x, hx, hb2, hk3⟩ := around_ok (r := o2.b0_2) (n := sumTo (y' j) o.s8_strips.length) (wd := 2) hl hk2 (by omega) (by omega)
    rw [hx, Option.bind_some, appc_eq (by simp only [List.length_cons, List.length_nil]; omega), Option.bind_some, addc_eq (by omega), Option.bind_some]
    refine ⟨_, rfl, ⟨j + 1, rfl, by omega, hk3, y', hy', ?_, ?_, fun t ht => ?_⟩, by simp only; omega⟩
    · simp only; rw [hre', rowsM_next]
    · simp only [List.length_append, List.length_cons, List.length_nil]; omega
    · unfold hOf
      simp only
      rw [List.getD_eq_getElem?_getD]
      by_cases htj : t = j
      · subst htj
        rw [List.getElem?_append_right (by omega), hcl, Nat.sub_self]
        simp only [List.getElem?_cons_zero, Option.getD_some]
        omega
      · rw [List.getElem?_append_left (by omega), hoth t htj]
        have := hca.ok t (by omega)
        unfold hOf at this
        rw [List.getD_eq_getElem?_getD] at this
        exact this
  · right
    have : j = T := by omega
    subst this
    rw [if_neg hlt]
    exact ⟨_, rfl, hh, y, hy, by simp only; rw [rowsM_mat], hca⟩
theorem made_L4 {T S : Nat} (hT : T ≤ 5) {o1 : m_laurellaw09_Made_1_C1} {y : Nat → Nat → Int} (hy : ∀ t k, 0 ≤ y t k ∧ y t k ≤ 4) (hr : o1.real11 = mat T S y) {s3 : m_laurellaw09_Made_1_S3} {k : Nat} (hk : k < S) (hs : s3.t97 = (k : Int)) :
    iterM FU (m_laurellaw09_Made_1_L4 o1 s3) ⟨0, 0⟩ = some (sumTo (fun t => y t k) T) := by
  have key := iterM_run (f := m_laurellaw09_Made_1_L4 o1 s3) (fun j => ⟨sumTo (fun t => y t k) j, (j : Int)⟩) T (b := sumTo (fun t => y t k) T) (fun j hj => ?_) ?_ FU (FU_lt (by omega))
  · exact key
  · unfold m_laurellaw09_Made_1_L4
    have hlt : (j : Int) < (o1.real11.length : Int) := by rw [hr]; simp [mat]; omega
    simp only
    have hb := sumTo_bound (f := fun t => y t k) (b := 4) (n := j) (fun i _ => hy i k)
    have hb2 := hy j k
    rw [if_pos hlt, hr, mat_row hj, Option.bind_some, hs, range_ix hk, Option.bind_some, addc_eq (by omega), Option.bind_some, addc_eq (by omega), Option.bind_some]
    rfl
  · unfold m_laurellaw09_Made_1_L4
    simp only
    rw [if_neg (by rw [hr]; simp [mat])]
structure StOK (T : Nat) (y : Nat → Nat → Int) (x : Strip) (k : Nat) : Prop where
  a : In30 x.lay
  b : In30 x.seeded
  c : In30 x.left
  o1 : x.lay.lo ≤ x.lay.hi
  o2 : x.seeded.lo ≤ x.seeded.hi
  o3 : x.left.lo ≤ x.left.hi
  g1 : (goneP x).lo ≤ sumTo (fun t => y t k) T
  g2 : sumTo (fun t => y t k) T ≤ (goneP x).hi
theorem made_L3 {l : List Int} (hl : l.length ≤ 9223372036854775807) {t24 : m_laurelkit_Heap_From_1_R} {st : List Strip} {T : Nat} (hT : T ≤ 5) (hS : (st.length : Int) = t24.r0) (h6 : st.length ≤ 6) {o1 : m_laurellaw09_Made_1_C1} {y : Nat → Nat → Int} (hy : ∀ t k, 0 ≤ y t k ∧ y t k ≤ 4) (hr : o1.real11 = mat T st.length y) {p r : Int} (hp : HOK l p) :
    ∃ o5, iterM FU (m_laurellaw09_Made_1_L3 t24 o1 l) ⟨0, p, r, st⟩ = some o5 ∧ HOK l o5.b0_1 ∧ o5.s8_strips.map (·.tenant) = st.map (·.tenant) ∧ ∀ k, k < st.length → StOK T y (o5.s8_strips.getD k default) k := by
  refine iterM_inv (f := m_laurellaw09_Made_1_L3 t24 o1 l) (fun s => ∃ k : Nat, s.t97 = (k : Int) ∧ k ≤ st.length ∧ HOK l s.b0_1 ∧ s.s8_strips.map (·.tenant) = st.map (·.tenant) ∧ ∀ i, i < k → StOK T y (s.s8_strips.getD i default) i) (fun s => st.length - s.t97.toNat) _ (fun s hs => ?_) FU _ (FU_lt (by simp only; omega)) ⟨0, rfl, Nat.zero_le _, hp, rfl, fun i hi => by omega⟩
  obtain ⟨k, hk, hkle, hh, hten, hok⟩ := hs
  have hlen : s.s8_strips.length = st.length := by have := congrArg List.length hten; simpa using this
  unfold m_laurellaw09_Made_1_L3
  by_cases hlt : (k : Int) < t24.r0
  · left
    have hkl : k < st.length := by omega
    rw [hk, if_pos hlt, made_L4 hT hy hr hkl hk, Option.bind_some]
    have hb := sumTo_bound (f := fun t => y t k) (b := 4) (n := T) (fun i _ => hy i k)
    generalize hg : sumTo (fun t => y t k) T = g at hb
    obtain ⟨x1, e1, b1, k1⟩ := upto_ok (r := s.b0_2) (n := 3) hl hh (by omega)
    rw [e1, Option.bind_some]
    obtain ⟨x2, e2, b2, k2⟩ := upto_ok (r := x1.h0_2) (n := 2) hl k1 (by omega)
    rw [e2, Option.bind_some, addc_eq (by omega), Option.bind_some, ix_nat default (by omega), Option.bind_some, Option.bind_some, subc_eq (by omega), Option.bind_some]
    obtain ⟨x3, e3, b3, k3⟩ := around_ok (r := x2.h0_2) (n := g + x1.r0 - min x2.r0 (g + x1.r0)) (wd := 1) hl k2 (by omega) (by omega)
    rw [e3, Option.bind_some]
    obtain ⟨x4, e4, b4, k4⟩ := around_ok (r := x3.b0_2) (n := min x2.r0 (g + x1.r0)) (wd := 1) hl k3 (by omega) (by omega)
    rw [e4, Option.bind_some]
    obtain ⟨x5, e5, b5, k5⟩ := around_ok (r := x4.b0_2) (n := x1.r0) (wd := 1) hl k4 (by omega) (by omega)
    rw [e5, Option.bind_some, Option.bind_some, show Int.toNat (k : Int) = k by omega, ix_nat default (by rw [List.length_set]; omega), Option.bind_some, Option.bind_some, ix_nat default (by rw [List.length_set, List.length_set]; omega), Option.bind_some, Option.bind_some, addc_eq (by omega), Option.bind_some]
    have hgs : ∀ (l : List Strip) (v : Strip), k < l.length → (l.set k v).getD k default = v := fun l v h => by
      rw [List.getD_eq_getElem?_getD, List.getElem?_set_self h]; rfl
    rw [hgs _ _ (by omega), hgs _ _ (by rw [List.length_set]; omega), List.set_set, List.set_set]
    simp only
    refine ⟨_, rfl, ⟨k + 1, rfl, by omega, k5, ?_, fun i hi => ?_⟩, by simp only; omega⟩
    · simp only
      rw [List.map_set]
      simp only
      rw [← hten]
      apply List.ext_getElem?
      intro i
      rw [List.getElem?_set]
      by_cases hik : k = i
      · subst hik
        rw [if_pos rfl, if_pos (by rw [List.length_map]; omega), List.getElem?_map, List.getD_eq_getElem?_getD, List.getElem?_eq_getElem (by omega)]
        rfl
      · rw [if_neg hik]
    · by_cases hik : i = k
      · subst hik
        rw [hgs _ _ (by omega)]
        unfold In30 at *
        refine ⟨by unfold In30; simp only; omega, by unfold In30; simp only; omega, by unfold In30; simp only; omega, by simp only; omega, by simp only; omega, by simp only; omega, ?_, ?_⟩
        · rw [hg]; unfold goneP; simp only; omega
        · rw [hg]; unfold goneP; simp only; omega
      · simp only
        rw [List.getD_eq_getElem?_getD, List.getElem?_set_ne (fun e => hik e.symm), ← List.getD_eq_getElem?_getD]
        exact hok i (by omega)
  · right
    have : k = st.length := by omega
    subst this
    rw [hk, if_neg hlt]
    exact ⟨_, rfl, hh, hten, hok⟩
theorem Made_spec {l : List Int} (hl : l.length ≤ 9223372036854775807) {p r S0 T0 : Int} (hp : HOK l p) (hS : 1 ≤ S0 ∧ S0 ≤ 6) (hT : 1 ≤ T0 ∧ T0 ≤ 5) :
    ∃ x y, m_laurellaw09_Made_1 l p r S0 T0 = some x ∧ HOK l x.b0_1 ∧ Right x.r0 ∧ x.r1 = mat x.r0.carried.length x.r0.strips.length y ∧ FitsS x.r0 y ∧ YOK x.r0.strips y ∧ (x.r0.strips.length : Int) ≤ S0 ∧ (x.r0.carried.length : Int) ≤ T0 := by
  unfold m_laurellaw09_Made_1
  obtain ⟨t24, e24, b24, k24⟩ := from_ok (r := r) (lo := 1) (hi := S0) hl hp (by omega)
  rw [e24, Option.bind_some]
  obtain ⟨t27, e27, b27, k27⟩ := from_ok (r := t24.h0_2) (lo := 1) (hi := T0) hl k24 (by omega)
  rw [e27, Option.bind_some]
  obtain ⟨o, eo, ko, lo, to⟩ := made_L0 (t24 := t24) (t27 := t27) (r := t27.h0_2) hl (by omega) (by omega) k27
  rw [eo, Option.bind_some, makec_eq (by omega), Option.bind_some]
  obtain ⟨T, hTn⟩ : ∃ T : Nat, t27.r0 = (T : Int) := ⟨t27.r0.toNat, by omega⟩
  have hrep : List.replicate t27.r0.toNat ([] : List Int) = rowsM T o.s8_strips.length (fun _ _ => 0) 0 0 := by
    unfold rowsM
    symm
    rw [List.eq_replicate_iff]
    refine ⟨by simp; omega, fun b hb => ?_⟩
    obtain ⟨t, _, rfl⟩ := List.mem_map.1 hb
    simp
  obtain ⟨o1, e1, k1, y, hy, hr1, hca⟩ := made_L1 (l := l) hl (t24 := t24) (o := o) (T := T) (by omega) lo (by omega) (t43 := List.replicate t27.r0.toNat ([] : List Int)) (by simp; omega) (r := o.b0_2) ko
  rw [← hrep] at e1
  rw [e1, Option.bind_some]
  obtain ⟨o5, e5, k5, ht5, hs5⟩ := made_L3 (l := l) hl (t24 := t24) (st := o.s8_strips) (T := T) (by omega) lo (by omega) (o1 := o1) (y := y) (fun t k => ⟨(hy t k).1, (hy t k).2.1⟩) hr1 (r := o1.b0_2) k1
  rw [e5, Option.bind_some]
  have hl5 : o5.s8_strips.length = o.s8_strips.length := by have := congrArg List.length ht5; simpa using this
  have hcl := hca.len
  have hre : ∀ t k, reachB o5.s8_strips t k = reachB o.s8_strips t k := reachB_congr ht5
  have hst : ∀ x, x ∈ o5.s8_strips → ∃ k, k < o.s8_strips.length ∧ StOK T y x k := fun x hx => by
    obtain ⟨k, hk, rfl⟩ := List.getElem_of_mem hx
    have := hs5 k (by omega)
    rw [List.getD_eq_getElem?_getD, List.getElem?_eq_getElem hk] at this
    exact ⟨k, by omega, this⟩
  refine ⟨_, y, rfl, k5, ⟨⟨by simp only; omega, by simp only; omega, fun x hx => ?_, fun x hx => ?_⟩, by simp only; omega, by simp only; omega, fun x hx => ?_, fun x hx => ?_⟩, ?_, ⟨fun t k ht hk => ?_, fun t ht => ?_, fun k hk => ?_⟩, fun t k => ?_, by simp only; omega, by simp only; omega⟩
  · obtain ⟨k, hk, h⟩ := hst x hx
    exact ⟨h.a, h.b, h.c, Int.le_trans h.g1 h.g2⟩
  · obtain ⟨t, ht, rfl⟩ := List.getElem_of_mem hx
    simp only at ht
    have := hca.ok t (by omega)
    unfold hOf at this
    rw [List.getD_eq_getElem?_getD, List.getElem?_eq_getElem ht, Option.getD_some] at this
    unfold In30
    simp only
    omega
  · have hm : x.tenant ∈ o5.s8_strips.map (·.tenant) := List.mem_map.2 ⟨x, hx, rfl⟩
    rw [ht5] at hm
    obtain ⟨x', hx', he⟩ := List.mem_map.1 hm
    have := to x' hx'
    rw [he] at this
    simp only
    omega
  · obtain ⟨k, hk, h⟩ := hst x hx
    exact ⟨h.o1, h.o2, h.o3⟩
  · simp only
    rw [hr1, hcl, hl5]
  · simp only at ht hk ⊢
    rw [hre]
    exact ⟨(hy t k).1, (hy t k).2.2⟩
  · simp only at ht ⊢
    rw [hl5]
    have := hca.ok t (by omega)
    exact ⟨this.2.1, this.2.2.1⟩
  · simp only at hk ⊢
    rw [hcl]
    have := hs5 k (by omega)
    exact ⟨this.g1, this.g2⟩
  · simp only
    rw [hre]
    exact hy t k
end Go.Proofs.Ws

