/- What the functions that the law StripWeighed reaches come to, and why it holds: part 6. -/
import Derived.Test.YtnkphlgohnlooaaStripWeighed5
import Derived.Deep.Slices
import Derived.ChangeArms
namespace Go.Proofs.Ws
set_option maxHeartbeats 4000000
set_option maxRecDepth 100000
open Go Go.Fw Go.Gx Go.Sp
set_option linter.unusedVariables false

structure m_laurelkit_Pile_R where
  t5_1 : Int
  t5_2 : Int
def m_laurelkit_Pile (shells0 : (List Int)) : Option m_laurelkit_Pile_R :=
 some (⟨0, 0⟩ : m_laurelkit_Pile_R)
theorem c_laurelkit_Pile (shells0 : (List Int)) (qa0 : Option Addr) (na0 ca0 : Nat) (w : World) (hw : HV w (keys [] []) [] [] [(aB qa0, aO qa0, RU8.enc shells0)] w) (hna0 : shells0.length = na0) (hqa0 : AOK na0 qa0) (hla0 : na0 ≤ ca0) {res : m_laurelkit_Pile_R} (hm : m_laurelkit_Pile shells0 = some res) :
    Calls Try.prog 12 #[.slice qa0 na0 ca0] w (fun en w' => ∃ l : Nat, en = .returned (ptr l 0) ∧ (True) ∧ HV w (keys [] []) [(l, .cells #[.slice qa0 na0 ca0, .int .i64 res.t5_1, .int .u32 res.t5_2] 105 (0, 0))] [] [] w') := by
  unfold m_laurelkit_Pile at hm
  refine g_en Try.func12 rfl Try.ntmps12 rfl (e := [(0, _)]) rfl hw (g_sr (g_as rfl rfl (g_nx (g_mv rfl rfl (g_val rfl rfl rfl (fun _ _ => v_build (vs := [(0, _)]) (cells := [_, _, _]) rfl rfl) ?_)))))
  refine g_boxV rfl rfl (fun b h1 => ?_)
  refine g_as rfl rfl (g_nt (g_ret ?_))
  obtain rfl := sj hm
  refine g_done rfl (fun w hh => (.tmp rfl .nil)) (fun w hh => ⟨b, rfl, trivial, hh.se [0] [] 1 rfl rfl rfl rfl⟩)
structure m_laurelkit_Heap_pick_1_R where
  r0 : Int
  h0_1 : Int
  h0_2 : Int
structure m_laurelkit_Heap_pick_1_C1 where
  h0_1 : Int
  h0_2 : Int
def m_laurelkit_Heap_pick_1 (h00 : (List Int)) (h01 : Int) (h02 : Int) : Option m_laurelkit_Heap_pick_1_R :=
 (if h01 < (h00.length : Int) then
 ((ix h00 h01).bind fun t29 =>
 some (IntKind.u32.wrap ((IntKind.u32.wrap (40503 * (IntKind.u32.wrap (h02 + 1)))) + (IntKind.u32.wrap (331 * (IntKind.u32.wrap t29)))))) else
 (some (IntKind.u32.wrap (40503 * (IntKind.u32.wrap (h02 + 1)))))).bind fun o =>
 ((addc h01 1).bind fun t38 =>
 if (h00.length : Int) ≤ t38 then
 (some (⟨0, (IntKind.u32.wrap (h02 + 1))⟩ : m_laurelkit_Heap_pick_1_C1)) else
 (some (⟨t38, h02⟩ : m_laurelkit_Heap_pick_1_C1))).bind fun o_1 =>
 some (⟨(IntKind.i64.wrap (IntKind.u32.wrap (BitVec.ofInt IntKind.u32.bits (IntKind.u32.wrap (BitVec.ofInt IntKind.u32.bits o ^^^ BitVec.ofInt IntKind.u32.bits (Int.fdiv o (2 ^ min (Int.toNat 9) IntKind.u32.bits))).toNat) &&& BitVec.ofInt IntKind.u32.bits 32767).toNat)), o_1.h0_1, o_1.h0_2⟩ : m_laurelkit_Heap_pick_1_R)
theorem c_laurelkit_Heap_pick_1 (h00 : (List Int)) (h01 : Int) (h02 : Int) (pb : Nat) (qa0 : Option Addr) (na0 ca0 : Nat) (w : World) (hw : HV w (keys [(pb, .cells #[.slice qa0 na0 ca0, .int .i64 h01, .int .u32 h02] 105 (0, 0))] []) [(pb, .cells #[.slice qa0 na0 ca0, .int .i64 h01, .int .u32 h02] 105 (0, 0))] [] [(aB qa0, aO qa0, RU8.enc h00)] w) (hna0 : h00.length = na0) (hqa0 : AOK na0 qa0) (hla0 : na0 ≤ ca0) {res : m_laurelkit_Heap_pick_1_R} (hm : m_laurelkit_Heap_pick_1 h00 h01 h02 = some res) :
    Calls Try.prog 90 #[ptr pb 0] w (fun en w' => ∃ l : Unit, en = .returned (.int .i64 res.r0) ∧ (True) ∧ HV w (keys [(pb, .cells #[.slice qa0 na0 ca0, .int .i64 h01, .int .u32 h02] 105 (0, 0))] []) [(pb, .cells #[.slice qa0 na0 ca0, .int .i64 res.h0_1, .int .u32 res.h0_2] 105 (0, 0))] [] [] w') := by
  unfold m_laurelkit_Heap_pick_1 at hm
  refine g_en Try.func90 rfl Try.ntmps90 rfl (e := [(0, _)]) rfl hw (g_sr (g_as rfl rfl (g_nx (g_mv rfl rfl (g_val rfl rfl rfl (fun _ _ => v_nilCheck rfl) (g_fa 2 Try.runUnderlying105 rfl Try.sizeOf103 rfl rfl (g_lc 0 Try.isAgg103 rfl rfl rfl rfl ?_)))))))
  refine g_val rfl rfl rfl (fun _ _ => v_addW rfl rfl) (g_val rfl rfl rfl (fun _ _ => v_mulW rfl rfl) (g_as rfl rfl (g_nt (g_seq ?_))))
  obtain ⟨o, h1, h2⟩ := bindO hm
  refine g_cut (ι := Unit) (fun l => True) (fun l => [(0, ptr pb 0), (3, .int .u32 o)]) (fun l => [(pb, .cells #[.slice qa0 na0 ca0, .int .i64 h01, .int .u32 h02] 105 (0, 0))]) (fun l => []) ?_ ?_
  ·replace hm := h1
   refine g_seq ?_
   refine g_draw none (.free 0 (.free 1 (.free 2 (.hoist 3 (.free 4 (.free 5 (.free 6 (.hoist 7 (.free 8 (.free 9 .done)))))))))) _ rfl (by decide +kernel) (fun w k hh => hh.draw k) (fun w hh => hh) ?_
   refine p_free rfl rfl rfl rfl (fun _ _ => v_move rfl) (p_free rfl rfl rfl rfl (fun _ _ => v_nilCheck rfl) (p_free rfl rfl rfl rfl (fun w _ => v_fieldAddr 1 (Try.runUnderlying105 w) rfl (Try.sizeOf3 w) rfl) (p_hoist rfl rfl rfl rfl (fun w hh => v_load (Try.isAgg3 w) rfl (hh.cell 0 rfl rfl)) (p_free rfl rfl rfl rfl (fun _ _ => v_move rfl) (p_free rfl rfl rfl rfl (fun _ _ => v_nilCheck rfl) (p_free rfl rfl rfl rfl (fun w _ => v_fieldAddr 0 (Try.runUnderlying105 w) rfl (Try.sizeOf22 w) rfl) (p_hoist rfl rfl rfl rfl (fun w hh => v_load (Try.isAgg22 w) rfl (hh.cell 0 rfl rfl)) ?_)))))))
   refine p_free rfl rfl rfl rfl (fun w _ => v_lenR hna0 (Try.runUnderlying22 w) rfl) (p_free rfl rfl rfl rfl (fun _ _ => v_lss rfl rfl) (p_done (g_n_then ?_)))
   refine g_cond rfl (fun h3 => ?_) (fun h3 => ?_)
   ·replace hm := ifD h3 hm
    refine g_draw none (.free 0 (.free 1 (.free 2 (.free 3 (.hoist 4 (.free 5 (.free 6 (.free 7 (.hoist 8 (.free 9 (.hoist 10 (.free 11 (.free 12 (.free 13 (.free 14 .done))))))))))))))) _ rfl (by decide +kernel) (fun w k hh => hh.draw k) (fun w hh => hh) ?_
    refine p_free rfl rfl rfl rfl (fun _ _ => v_move rfl) (p_free rfl rfl rfl rfl (fun _ _ => v_move rfl) (p_free rfl rfl rfl rfl (fun _ _ => v_nilCheck rfl) (p_free rfl rfl rfl rfl (fun w _ => v_fieldAddr 0 (Try.runUnderlying105 w) rfl (Try.sizeOf22 w) rfl) (p_hoist rfl rfl rfl rfl (fun w hh => v_load (Try.isAgg22 w) rfl (hh.cell 0 rfl rfl)) (p_free rfl rfl rfl rfl (fun _ _ => v_move rfl) (p_free rfl rfl rfl rfl (fun _ _ => v_nilCheck rfl) (p_free rfl rfl rfl rfl (fun w _ => v_fieldAddr 1 (Try.runUnderlying105 w) rfl (Try.sizeOf3 w) rfl) ?_)))))))
    refine p_hoist rfl rfl rfl rfl (fun w hh => v_load (Try.isAgg3 w) rfl (hh.cell 0 rfl rfl)) ?_
    obtain ⟨t29, h4, hm⟩ := bindO hm
    refine p_free rfl rfl rfl rfl (fun w _ => v_ixR h4 (Try.runUnderlying22 w) (Try.sizeOf5 w) rfl rfl hna0 hqa0) (p_hoist rfl rfl rfl rfl (fun w hh => v_ldE RU8 0 h4 (Try.isAgg5 w) rfl (hh.seg 0 rfl) rfl (Nat.add_zero _).symm) (p_free rfl rfl rfl rfl (fun w _ => v_conv (Try.runUnderlying5 w) (Try.runUnderlying103 w) rfl) (p_free rfl rfl rfl rfl (fun _ _ => v_mulW rfl rfl) (p_free rfl rfl rfl rfl (fun _ _ => v_addW rfl rfl) (p_free rfl rfl rfl rfl (fun _ _ => v_assign rfl) (p_done ?_))))))
    obtain rfl := sj hm
    exact g_leaf () (trivial) (sE rfl) (fun w hh => hh)
   ·replace hm := ifE h3 hm
    refine g_skip ?_
    obtain rfl := sj hm
    exact g_leaf () (trivial) (sE rfl) (fun w hh => hh)
  ·intro l hj
   replace hm := h2
   refine g_n_then (g_seq ?_)
   obtain ⟨o_1, h5, h6⟩ := bindO hm
   refine g_cut (ι := Unit) (fun l_1 => True) (fun l_1 => [(3, .int .u32 o)]) (fun l_1 => [(pb, .cells #[.slice qa0 na0 ca0, .int .i64 o_1.h0_1, .int .u32 o_1.h0_2] 105 (0, 0))]) (fun l_1 => []) ?_ ?_
   ·replace hm := h5
    refine g_sr (g_mv rfl rfl (g_val rfl rfl rfl (fun _ _ => v_nilCheck rfl) (g_fa 1 Try.runUnderlying105 rfl Try.sizeOf3 rfl rfl (g_lc 0 Try.isAgg3 rfl rfl rfl rfl ?_))))
    obtain ⟨t38, h7, hm⟩ := bindO hm
    refine g_ac h7 rfl rfl rfl (g_val rfl rfl rfl (fun _ _ => v_nilCheck rfl) (g_fa 1 Try.runUnderlying105 rfl Try.sizeOf3 rfl rfl (g_stS (cs' := #[_, _, _]) (S' := [_]) 0 (fun w => Try.sizeOf3 w) rfl rfl rfl rfl rfl rfl rfl (g_nt (g_seq ?_)))))
    refine g_draw none (.free 0 (.free 1 (.free 2 (.hoist 3 (.free 4 (.free 5 (.free 6 (.hoist 7 (.free 8 (.free 9 .done)))))))))) _ rfl (by decide +kernel) (fun w k hh => hh.draw k) (fun w hh => hh) ?_
    refine p_free rfl rfl rfl rfl (fun _ _ => v_move rfl) (p_free rfl rfl rfl rfl (fun _ _ => v_nilCheck rfl) (p_free rfl rfl rfl rfl (fun w _ => v_fieldAddr 1 (Try.runUnderlying105 w) rfl (Try.sizeOf3 w) rfl) (p_hoist rfl rfl rfl rfl (fun w hh => v_load (Try.isAgg3 w) rfl (hh.cell 0 rfl rfl)) (p_free rfl rfl rfl rfl (fun _ _ => v_move rfl) (p_free rfl rfl rfl rfl (fun _ _ => v_nilCheck rfl) (p_free rfl rfl rfl rfl (fun w _ => v_fieldAddr 0 (Try.runUnderlying105 w) rfl (Try.sizeOf22 w) rfl) (p_hoist rfl rfl rfl rfl (fun w hh => v_load (Try.isAgg22 w) rfl (hh.cell 0 rfl rfl)) ?_)))))))
    refine p_free rfl rfl rfl rfl (fun w _ => v_lenR hna0 (Try.runUnderlying22 w) rfl) (p_free rfl rfl rfl rfl (fun _ _ => v_geq rfl rfl) (p_done (g_n_then ?_)))
    refine g_cond rfl (fun h8 => ?_) (fun h8 => ?_)
    ·replace hm := ifD h8 hm
     refine g_region (g_mv rfl rfl (g_mv rfl rfl (g_mv rfl rfl (g_val rfl rfl rfl (fun _ _ => v_nilCheck rfl) (g_fa 2 Try.runUnderlying105 rfl Try.sizeOf103 rfl rfl (g_lc 0 Try.isAgg103 rfl rfl rfl rfl (g_val rfl rfl rfl (fun _ _ => v_addW rfl rfl) ?_)))))))
     refine g_val rfl rfl rfl (fun _ _ => v_nilCheck rfl) (g_fa 1 Try.runUnderlying105 rfl Try.sizeOf3 rfl rfl (g_stS (cs' := #[_, _, _]) (S' := [_]) 0 (fun w => Try.sizeOf3 w) rfl rfl rfl rfl rfl rfl rfl (g_val rfl rfl rfl (fun _ _ => v_nilCheck rfl) (g_fa 2 Try.runUnderlying105 rfl Try.sizeOf103 rfl rfl (g_stS (cs' := #[_, _, _]) (S' := [_]) 0 (fun w => Try.sizeOf103 w) rfl rfl rfl rfl rfl rfl rfl (g_nil ?_))))))
     obtain rfl := sj hm
     exact g_leaf () (trivial) (sE rfl) (fun w hh => hh)
    ·replace hm := ifE h8 hm
     refine g_skip ?_
     obtain rfl := sj hm
     exact g_leaf () (trivial) (sE rfl) (fun w hh => hh)
   ·intro l_1 hj
    replace hm := h6
    refine g_n_then (g_sr (g_mv rfl rfl (g_mv rfl rfl (g_val rfl rfl rfl (fun _ _ => v_shr rfl rfl (by decide)) (g_val rfl rfl rfl (fun _ _ => v_bits rfl rfl rfl) (g_val rfl rfl rfl (fun _ _ => v_bits rfl rfl rfl) (g_val rfl rfl rfl (fun w _ => v_conv (Try.runUnderlying103 w) (Try.runUnderlying3 w) rfl) ?_)))))))
    refine g_as rfl rfl (g_nt (g_ret ?_))
    obtain rfl := sj hm
    refine g_done rfl (fun w hh => (.tmp rfl .nil)) (fun w hh => ⟨(), rfl, trivial, hh.se [0] [] 1 rfl rfl rfl rfl⟩)
structure m_laurelkit_Heap_Upto_1_R where
  r0 : Int
  h0_1 : Int
  h0_2 : Int
def m_laurelkit_Heap_Upto_1 (h00 : (List Int)) (h01 : Int) (h02 : Int) (n1 : Int) : Option m_laurelkit_Heap_Upto_1_R :=
 (m_laurelkit_Heap_pick_1 h00 h01 h02).bind fun t6 =>
 (addc n1 1).bind fun t8 =>
 (remc t6.r0 (max 1 t8)).bind fun t10 =>
 some (⟨t10, t6.h0_1, t6.h0_2⟩ : m_laurelkit_Heap_Upto_1_R)
theorem c_laurelkit_Heap_Upto_1 (h00 : (List Int)) (h01 : Int) (h02 : Int) (n1 : Int) (pb : Nat) (qa0 : Option Addr) (na0 ca0 : Nat) (w : World) (hw : HV w (keys [(pb, .cells #[.slice qa0 na0 ca0, .int .i64 h01, .int .u32 h02] 105 (0, 0))] []) [(pb, .cells #[.slice qa0 na0 ca0, .int .i64 h01, .int .u32 h02] 105 (0, 0))] [] [(aB qa0, aO qa0, RU8.enc h00)] w) (hna0 : h00.length = na0) (hqa0 : AOK na0 qa0) (hla0 : na0 ≤ ca0) {res : m_laurelkit_Heap_Upto_1_R} (hm : m_laurelkit_Heap_Upto_1 h00 h01 h02 n1 = some res) :
    Calls Try.prog 33 #[ptr pb 0, .int .i64 n1] w (fun en w' => ∃ l : Unit, en = .returned (.int .i64 res.r0) ∧ (True) ∧ HV w (keys [(pb, .cells #[.slice qa0 na0 ca0, .int .i64 h01, .int .u32 h02] 105 (0, 0))] []) [(pb, .cells #[.slice qa0 na0 ca0, .int .i64 res.h0_1, .int .u32 res.h0_2] 105 (0, 0))] [] [] w') := by
  unfold m_laurelkit_Heap_Upto_1 at hm
  refine g_en Try.func33 rfl Try.ntmps33 rfl (e := [(0, _), (1, _)]) rfl hw (g_sr (g_as rfl rfl (g_nx (g_mv rfl rfl ?_))))
  obtain ⟨t6, h1, hm⟩ := bindO hm
  refine g_callH [_] [] rfl rfl rfl rfl rfl rfl rfl Try.call90 (fun w hh => c_laurelkit_Heap_pick_1 h00 h01 h02 pb qa0 na0 ca0 w (HV.callee (S0 := [_]) (vs0 := []) hh (roC (hh.rsep 0 rfl) roN)) hna0 hqa0 hla0 h1) (fun l h2 => ?_)
  refine g_se (S' := [_]) (vs' := []) [0] [] 0 rfl rfl rfl rfl (g_mv rfl rfl ?_)
  obtain ⟨t8, h3, hm⟩ := bindO hm
  refine g_ac h3 rfl rfl rfl (g_val rfl rfl rfl (fun _ _ => v_max rfl rfl) ?_)
  obtain ⟨t10, h4, hm⟩ := bindO hm
  refine g_val rfl rfl rfl (fun _ _ => v_remc h4 rfl rfl) (g_as rfl rfl (g_nt (g_ret ?_)))
  obtain rfl := sj hm
  refine g_done rfl (fun w hh => (.tmp rfl .nil)) (fun w hh => ⟨(), rfl, trivial, hh.se [0] [] 1 rfl rfl rfl rfl⟩)
structure m_laurelkit_Heap_From_1_R where
  r0 : Int
  h0_1 : Int
  h0_2 : Int
def m_laurelkit_Heap_From_1 (h00 : (List Int)) (h01 : Int) (h02 : Int) (lo1 : Int) (hi2 : Int) : Option m_laurelkit_Heap_From_1_R :=
 (subc hi2 lo1).bind fun t11 =>
 (m_laurelkit_Heap_Upto_1 h00 h01 h02 t11).bind fun t12 =>
 (addc lo1 t12.r0).bind fun t13 =>
 some (⟨t13, t12.h0_1, t12.h0_2⟩ : m_laurelkit_Heap_From_1_R)
theorem c_laurelkit_Heap_From_1 (h00 : (List Int)) (h01 : Int) (h02 : Int) (lo1 : Int) (hi2 : Int) (pb : Nat) (qa0 : Option Addr) (na0 ca0 : Nat) (w : World) (hw : HV w (keys [(pb, .cells #[.slice qa0 na0 ca0, .int .i64 h01, .int .u32 h02] 105 (0, 0))] []) [(pb, .cells #[.slice qa0 na0 ca0, .int .i64 h01, .int .u32 h02] 105 (0, 0))] [] [(aB qa0, aO qa0, RU8.enc h00)] w) (hna0 : h00.length = na0) (hqa0 : AOK na0 qa0) (hla0 : na0 ≤ ca0) {res : m_laurelkit_Heap_From_1_R} (hm : m_laurelkit_Heap_From_1 h00 h01 h02 lo1 hi2 = some res) :
    Calls Try.prog 42 #[ptr pb 0, .int .i64 lo1, .int .i64 hi2] w (fun en w' => ∃ l : Unit, en = .returned (.int .i64 res.r0) ∧ (True) ∧ HV w (keys [(pb, .cells #[.slice qa0 na0 ca0, .int .i64 h01, .int .u32 h02] 105 (0, 0))] []) [(pb, .cells #[.slice qa0 na0 ca0, .int .i64 res.h0_1, .int .u32 res.h0_2] 105 (0, 0))] [] [] w') := by
  unfold m_laurelkit_Heap_From_1 at hm
  refine g_en Try.func42 rfl Try.ntmps42 rfl (e := [(0, _), (1, _), (2, _)]) rfl hw (g_sr (g_as rfl rfl (g_nx (g_mv rfl rfl (g_mv rfl rfl (g_mv rfl rfl (g_mv rfl rfl ?_)))))))
  obtain ⟨t11, h1, hm⟩ := bindO hm
  refine g_val rfl rfl rfl (fun _ _ => v_subc h1 rfl rfl) ?_
  obtain ⟨t12, h2, hm⟩ := bindO hm
  refine g_callH [_] [] rfl rfl rfl rfl rfl rfl rfl Try.call33 (fun w hh => c_laurelkit_Heap_Upto_1 h00 h01 h02 t11 pb qa0 na0 ca0 w (HV.callee (S0 := [_]) (vs0 := []) hh (roC (hh.rsep 0 rfl) roN)) hna0 hqa0 hla0 h2) (fun l h3 => ?_)
  refine g_se (S' := [_]) (vs' := []) [0] [] 0 rfl rfl rfl rfl ?_
  obtain ⟨t13, h4, hm⟩ := bindO hm
  refine g_ac h4 rfl rfl rfl (g_as rfl rfl (g_nt (g_ret ?_)))
  obtain rfl := sj hm
  refine g_done rfl (fun w hh => (.tmp rfl .nil)) (fun w hh => ⟨(), rfl, trivial, hh.se [0] [] 1 rfl rfl rfl rfl⟩)
def m_laurellaw09_reaches_L0 (s0 : Scalps) (tenant1 : Int) (which2 : Int) (s : Int) : Option (Int ⊕ (Unit ⊕ Bool)) :=
 if s < (s0.strips.length : Int) then
 ((ix s0.strips s).bind fun t15 =>
 (if t15.tenant = tenant1 then
 ((subc s which2).bind fun t24 =>
 (subc which2 s).bind fun t27 =>
 some (decide ((max t24 t27) < 2))) else
 (some false)).bind fun o_1 =>
 if o_1 = true then
 (some (.inr (.inr true))) else
 ((addc s 1).bind fun t31 =>
 some (.inl t31))) else
 (some (.inr (.inl ())))
def m_laurellaw09_reaches (s0 : Scalps) (tenant1 : Int) (which2 : Int) : Option Bool :=
 (iterM FU (m_laurellaw09_reaches_L0 s0 tenant1 which2) 0).bind fun o =>
 oc o (fun j => some false) (fun r_1 => some r_1)
theorem c_laurellaw09_reaches (s0 : Scalps) (tenant1 : Int) (which2 : Int) (qa0 : Option Addr) (na0 ca0 : Nat) (qa1 : Option Addr) (na1 ca1 : Nat) (w : World) (hw : HV w (keys [] []) [] [] [(aB qa0, aO qa0, RSt.enc s0.strips), (aB qa1, aO qa1, RSp.enc s0.carried)] w) (hna0 : s0.strips.length = na0) (hqa0 : AOK na0 qa0) (hla0 : na0 ≤ ca0) (hna1 : s0.carried.length = na1) (hqa1 : AOK na1 qa1) (hla1 : na1 ≤ ca1) {res : Bool} (hm : m_laurellaw09_reaches s0 tenant1 which2 = some res) :
    Calls Try.prog 43 #[.agg #[.slice qa0 na0 ca0, .slice qa1 na1 ca1], .int .i64 tenant1, .int .i64 which2] w (fun en w' => ∃ l : Unit, en = .returned (.bool res) ∧ (True) ∧ HV w (keys [] []) [] [] [] w') := by
  unfold m_laurellaw09_reaches at hm
  refine g_en Try.func43 rfl Try.ntmps43 rfl (e := [(0, _), (1, _), (2, _)]) rfl hw (g_sr ?_)
  refine g_boxV rfl rfl (fun b h1 => ?_)
  refine g_as rfl rfl (g_nt (g_seq (g_sr (g_fa 0 Try.runUnderlying28 rfl Try.sizeOf25 rfl rfl (g_lc 0 Try.isAgg25 rfl rfl rfl rfl (g_val rfl rfl rfl (fun w _ => v_lenR hna0 (Try.runUnderlying25 w) rfl) (g_mv rfl rfl ?_)))))))
  refine g_nt ?_
  obtain ⟨o, h2, h3⟩ := bindO hm
  refine g_cut (ι := Unit) (fun j => o = .inl j) (fun j => []) (fun j => [(b, .cells #[.slice qa0 na0 ca0, .slice qa1 na1 ca1] 28 (0, 0))]) (fun j => []) ?_ ?_
  ·replace hm := h2
   refine g_block ?_
   refine g_loopF (ι := Unit) hm (fun s l => True) (fun s l => [(1, .int .i64 tenant1), (2, .int .i64 which2), (10, .slice qa0 na0 ca0), (11, .int .i64 (s0.strips.length : Int)), (12, .int .i64 s)]) (fun s l => [(b, .cells #[.slice qa0 na0 ca0, .slice qa1 na1 ca1] 28 (0, 0))]) (fun s l => []) () (trivial) (sE rfl) (fun w hh => hh) (fun s l r hpl hm h4 => ?_)
   unfold m_laurellaw09_reaches_L0 at hm
   refine g_sr (g_ls rfl rfl rfl (g_nt (g_seq ?_)))
   refine g_cond rfl (fun h5 => ?_) (fun h5 => ?_)
   ·replace hm := ifD h5 hm
    refine g_skip (g_n_then (g_seq (g_block (g_sr (g_mv rfl rfl ?_)))))
    obtain ⟨t15, h6, hm⟩ := bindO hm
    refine g_val rfl rfl rfl (fun w _ => v_ixR h6 (Try.runUnderlying25 w) (Try.sizeOf77 w) rfl rfl hna0 hqa0) ?_
    refine g_val rfl rfl rfl (fun w hh => v_ldEA RSt 0 [.int .i64 t15.tenant, .int .i64 t15.lay.lo, .int .i64 t15.lay.hi, .int .i64 t15.seeded.lo, .int .i64 t15.seeded.hi, .int .i64 t15.left.lo, .int .i64 t15.left.hi] h6 (Try.isAgg77 w) (Try.sizeOf77 w) rfl (hh.seg 0 rfl) rfl (Nat.add_zero _).symm) ?_
    refine g_allocV (fun w => Try.zeroValue77 w) rfl (fun b_1 h7 => ?_)
    refine g_as rfl rfl (g_stSA (us := #[_, _, _, _, _, _, _]) (cs' := [_, _, _, _, _, _, _]) (S' := [_, _]) 0 (fun w => Try.sizeOf77 w) rfl rfl rfl rfl rfl rfl rfl (g_nt (g_seq ?_)))
    obtain ⟨o_1, h8, h9⟩ := bindO hm
    refine g_cut (ι := Unit) (fun l_1 => True) (fun l_1 => [(1, .int .i64 tenant1), (2, .int .i64 which2), (10, .slice qa0 na0 ca0), (11, .int .i64 (s0.strips.length : Int)), (12, .int .i64 s), (30, .bool o_1)]) (fun l_1 => [(b_1, .cells #[.int .i64 t15.tenant, .int .i64 t15.lay.lo, .int .i64 t15.lay.hi, .int .i64 t15.seeded.lo, .int .i64 t15.seeded.hi, .int .i64 t15.left.lo, .int .i64 t15.left.hi] 77 (0, 0)), (b, .cells #[.slice qa0 na0 ca0, .slice qa1 na1 ca1] 28 (0, 0))]) (fun l_1 => []) ?_ ?_
    ·replace hm := h8
     refine g_region (g_fa 0 Try.runUnderlying77 rfl Try.sizeOf3 rfl rfl (g_lc 0 Try.isAgg3 rfl rfl rfl rfl (g_mv rfl rfl (g_val rfl rfl rfl (fun _ _ => v_eql rfl rfl) (g_mv rfl rfl ?_)))))
     refine g_case 21 rfl (fun h10 => ?_) (fun h10 => ?_)
     ·replace hm := ifD h10 hm
      refine v_unguard rfl rfl (g_mv rfl rfl (v_unguard rfl rfl (g_mv rfl rfl (v_unguard rfl rfl ?_))))
      obtain ⟨t24, h11, hm⟩ := bindO hm
      refine g_val rfl rfl rfl (fun _ _ => v_subc h11 rfl rfl) (v_unguard rfl rfl (g_mv rfl rfl (v_unguard rfl rfl (g_mv rfl rfl (v_unguard rfl rfl ?_)))))
      obtain ⟨t27, h12, hm⟩ := bindO hm
      refine g_val rfl rfl rfl (fun _ _ => v_subc h12 rfl rfl) (v_unguard rfl rfl (g_val rfl rfl rfl (fun _ _ => v_max rfl rfl) (v_unguard rfl rfl (g_ls rfl rfl rfl (g_pt rfl rfl rfl (g_nil ?_))))))
      obtain rfl := sj hm
      exact g_leaf () (trivial) (sE rfl) (fun w hh => hh)
     ·replace hm := ifE h10 hm
      refine g_k rfl rfl rfl rfl (g_k rfl rfl rfl rfl (g_k rfl rfl rfl rfl (g_k rfl rfl rfl rfl (g_k rfl rfl rfl rfl (g_k rfl rfl rfl rfl (g_k rfl rfl rfl rfl (g_k rfl rfl rfl rfl ?_)))))))
      refine g_pf rfl rfl rfl (g_nil ?_)
      obtain rfl := sj hm
      exact g_leaf () (trivial) (sE rfl) (fun w hh => hh)
    ·intro l_1 hj
     replace hm := h9
     refine g_n_then ?_
     refine g_cond rfl (fun h13 => ?_) (fun h13 => ?_)
     ·replace hm := ifT (h13) hm
      refine g_sr (g_as rfl rfl (g_nt (g_ret (g_r_blk (g_r_then (g_r_then (g_r_blk ?_)))))))
      obtain rfl := sj hm
      have hbo := h4 _ rfl
      subst hbo
      refine g_r_then ?_
      replace hm := ocR h3
      refine g_r_then ?_
      obtain rfl := sj hm
      refine g_done rfl (fun w hh => (.tmp rfl .nil)) (fun w hh => ⟨(), rfl, trivial, hh.se [] [] 2 rfl rfl rfl rfl⟩)
     ·replace hm := ifN h13 hm
      refine g_skip (g_n_blk (g_n_then (g_region ?_)))
      obtain ⟨t31, h14, hm⟩ := bindO hm
      refine g_ac h14 rfl rfl rfl (g_mv rfl rfl (g_nil ?_))
      obtain rfl := sj hm
      refine g_n_then ?_
      exact g_again' _ () rfl (trivial) (sE rfl) (fun w hh => hh.se [1] [] 0 rfl rfl rfl rfl)
   ·replace hm := ifE h5 hm
    refine g_exit (g_x_then (g_x_then (g_x_blk ?_)))
    obtain rfl := sj hm
    have hbo := h4 _ rfl
    subst hbo
    exact g_leaf () (rfl) (.nil) (fun w hh => hh)
  ·intro j hj
   have h15 := hj
   subst h15
   replace hm := ocL h3
   refine g_n_then (g_sr (g_as rfl rfl (g_nt (g_ret ?_))))
   obtain rfl := sj hm
   refine g_done rfl (fun w hh => (.tmp rfl .nil)) (fun w hh => ⟨(), rfl, trivial, hh.se [] [] 2 rfl rfl rfl rfl⟩)
structure m_laurelkit_Heap_Once_1_R where
  r0 : Bool
  h0_1 : Int
  h0_2 : Int
def m_laurelkit_Heap_Once_1 (h00 : (List Int)) (h01 : Int) (h02 : Int) (n1 : Int) : Option m_laurelkit_Heap_Once_1_R :=
 (subc n1 1).bind fun t7 =>
 (m_laurelkit_Heap_Upto_1 h00 h01 h02 t7).bind fun t8 =>
 some (⟨(decide (t8.r0 = 0)), t8.h0_1, t8.h0_2⟩ : m_laurelkit_Heap_Once_1_R)
theorem c_laurelkit_Heap_Once_1 (h00 : (List Int)) (h01 : Int) (h02 : Int) (n1 : Int) (pb : Nat) (qa0 : Option Addr) (na0 ca0 : Nat) (w : World) (hw : HV w (keys [(pb, .cells #[.slice qa0 na0 ca0, .int .i64 h01, .int .u32 h02] 105 (0, 0))] []) [(pb, .cells #[.slice qa0 na0 ca0, .int .i64 h01, .int .u32 h02] 105 (0, 0))] [] [(aB qa0, aO qa0, RU8.enc h00)] w) (hna0 : h00.length = na0) (hqa0 : AOK na0 qa0) (hla0 : na0 ≤ ca0) {res : m_laurelkit_Heap_Once_1_R} (hm : m_laurelkit_Heap_Once_1 h00 h01 h02 n1 = some res) :
    Calls Try.prog 34 #[ptr pb 0, .int .i64 n1] w (fun en w' => ∃ l : Unit, en = .returned (.bool res.r0) ∧ (True) ∧ HV w (keys [(pb, .cells #[.slice qa0 na0 ca0, .int .i64 h01, .int .u32 h02] 105 (0, 0))] []) [(pb, .cells #[.slice qa0 na0 ca0, .int .i64 res.h0_1, .int .u32 res.h0_2] 105 (0, 0))] [] [] w') := by
  unfold m_laurelkit_Heap_Once_1 at hm
  refine g_en Try.func34 rfl Try.ntmps34 rfl (e := [(0, _), (1, _)]) rfl hw (g_sr (g_as rfl rfl (g_nx (g_mv rfl rfl (g_mv rfl rfl ?_)))))
  obtain ⟨t7, h1, hm⟩ := bindO hm
  refine g_val rfl rfl rfl (fun _ _ => v_subc h1 rfl rfl) ?_
  obtain ⟨t8, h2, hm⟩ := bindO hm
  refine g_callH [_] [] rfl rfl rfl rfl rfl rfl rfl Try.call33 (fun w hh => c_laurelkit_Heap_Upto_1 h00 h01 h02 t7 pb qa0 na0 ca0 w (HV.callee (S0 := [_]) (vs0 := []) hh (roC (hh.rsep 0 rfl) roN)) hna0 hqa0 hla0 h2) (fun l h3 => ?_)
  refine g_se (S' := [_]) (vs' := []) [0] [] 0 rfl rfl rfl rfl (g_val rfl rfl rfl (fun _ _ => v_eql rfl rfl) (g_as rfl rfl (g_nt (g_ret ?_))))
  obtain rfl := sj hm
  refine g_done rfl (fun w hh => (.tmp rfl .nil)) (fun w hh => ⟨(), rfl, trivial, hh.se [0] [] 1 rfl rfl rfl rfl⟩)
structure m_laurellaw09_around_1_R where
  r0 : Span
  b0_1 : Int
  b0_2 : Int
def m_laurellaw09_around_1 (b00 : (List Int)) (b01 : Int) (b02 : Int) (n1 : Int) (wider2 : Int) : Option m_laurellaw09_around_1_R :=
 (m_laurelkit_Heap_Upto_1 b00 b01 b02 wider2).bind fun t10 =>
 (subc n1 t10.r0).bind fun t11 =>
 (m_laurelkit_Heap_Upto_1 b00 t10.h0_1 t10.h0_2 wider2).bind fun t16 =>
 (addc n1 t16.r0).bind fun t17 =>
 some (⟨(⟨(max 0 t11), (min 30 t17)⟩ : Span), t16.h0_1, t16.h0_2⟩ : m_laurellaw09_around_1_R)
theorem c_laurellaw09_around_1 (b00 : (List Int)) (b01 : Int) (b02 : Int) (n1 : Int) (wider2 : Int) (pb : Nat) (qa0 : Option Addr) (na0 ca0 : Nat) (w : World) (hw : HV w (keys [(pb, .cells #[.slice qa0 na0 ca0, .int .i64 b01, .int .u32 b02] 105 (0, 0))] []) [(pb, .cells #[.slice qa0 na0 ca0, .int .i64 b01, .int .u32 b02] 105 (0, 0))] [] [(aB qa0, aO qa0, RU8.enc b00)] w) (hna0 : b00.length = na0) (hqa0 : AOK na0 qa0) (hla0 : na0 ≤ ca0) {res : m_laurellaw09_around_1_R} (hm : m_laurellaw09_around_1 b00 b01 b02 n1 wider2 = some res) :
    Calls Try.prog 35 #[ptr pb 0, .int .i64 n1, .int .i64 wider2] w (fun en w' => ∃ l : Unit, en = .returned (.agg #[.int .i64 res.r0.lo, .int .i64 res.r0.hi]) ∧ (True) ∧ HV w (keys [(pb, .cells #[.slice qa0 na0 ca0, .int .i64 b01, .int .u32 b02] 105 (0, 0))] []) [(pb, .cells #[.slice qa0 na0 ca0, .int .i64 res.b0_1, .int .u32 res.b0_2] 105 (0, 0))] [] [] w') := by
  unfold m_laurellaw09_around_1 at hm
  refine g_en Try.func35 rfl Try.ntmps35 rfl (e := [(0, _), (1, _), (2, _)]) rfl hw (g_sr ?_)
  refine g_allocV (fun w => Try.zeroValue37 w) rfl (fun b h1 => ?_)
  refine g_nx (g_mv rfl rfl (g_mv rfl rfl (g_mv rfl rfl ?_)))
  obtain ⟨t10, h2, hm⟩ := bindO hm
  refine g_se (S' := [_, _]) (vs' := []) [1, 0] [] 0 rfl rfl rfl rfl ?_
  refine g_callH [_] [] rfl rfl rfl rfl rfl rfl rfl Try.call33 (fun w hh => c_laurelkit_Heap_Upto_1 b00 b01 b02 wider2 pb qa0 na0 ca0 w (HV.callee (S0 := [_]) (vs0 := []) hh (roC (hh.rsep 0 rfl) roN)) hna0 hqa0 hla0 h2) (fun l h3 => ?_)
  refine g_se (S' := [_, _]) (vs' := []) [0, 1] [] 0 rfl rfl rfl rfl ?_
  obtain ⟨t11, h4, hm⟩ := bindO hm
  refine g_val rfl rfl rfl (fun _ _ => v_subc h4 rfl rfl) (g_val rfl rfl rfl (fun _ _ => v_max rfl rfl) (g_mv rfl rfl (g_mv rfl rfl (g_mv rfl rfl ?_))))
  obtain ⟨t16, h5, hm⟩ := bindO hm
  refine g_callH [_] [] rfl rfl rfl rfl rfl rfl rfl Try.call33 (fun w hh => c_laurelkit_Heap_Upto_1 b00 t10.h0_1 t10.h0_2 wider2 pb qa0 na0 ca0 w (HV.callee (S0 := [_]) (vs0 := []) hh (roC (hh.rsep 0 rfl) roN)) hna0 hqa0 hla0 h5) (fun l_1 h6 => ?_)
  refine g_se (S' := [_, _]) (vs' := []) [0, 1] [] 0 rfl rfl rfl rfl ?_
  obtain ⟨t17, h7, hm⟩ := bindO hm
  refine g_ac h7 rfl rfl rfl (g_val rfl rfl rfl (fun _ _ => v_min rfl rfl) (g_val rfl rfl rfl (fun _ _ => v_build (vs := [(0, _), (1, _)]) (cells := [_, _]) rfl rfl) (g_stSA (us := #[_, _]) (cs' := [_, _]) (S' := [_, _]) 1 (fun w => Try.sizeOf37 w) rfl rfl rfl rfl rfl rfl rfl (g_nt (g_ret ?_)))))
  obtain rfl := sj hm
  refine g_done rfl (fun w hh => (.cell rfl (loadVar_agg (vs := [_, _]) (Try.isAgg37 _) (Try.sizeOf37 _) (hh.cells 1 rfl rfl)) .nil)) (fun w hh => ⟨(), rfl, trivial, hh.se [0] [] 1 rfl rfl rfl rfl⟩)
structure m_laurellaw09_Made_1_R where
  r0 : Scalps
  b0_1 : Int
  b0_2 : Int
  r1 : (List (List Int))
structure m_laurellaw09_Made_1_C0 where
  b0_1 : Int
  b0_2 : Int
  s8_strips : (List Strip)
structure m_laurellaw09_Made_1_S0 where
  t29 : Int
  b0_1 : Int
  b0_2 : Int
  s8_strips : (List Strip)
def m_laurellaw09_Made_1_L0 (t24 : m_laurelkit_Heap_From_1_R) (t27 : m_laurelkit_Heap_From_1_R) (b00 : (List Int)) (s : m_laurellaw09_Made_1_S0) : Option (m_laurellaw09_Made_1_S0 ⊕ m_laurellaw09_Made_1_C0) :=
 if s.t29 < t24.r0 then
 ((subc t27.r0 1).bind fun t35 =>
 (m_laurelkit_Heap_Upto_1 b00 s.b0_1 s.b0_2 t35).bind fun t36 =>
 (appc 56 s.s8_strips [(⟨t36.r0, (⟨0, 0⟩ : Span), (⟨0, 0⟩ : Span), (⟨0, 0⟩ : Span)⟩ : Strip)]).bind fun t39 =>
 (addc s.t29 1).bind fun t41 =>
 some (.inl (⟨t41, t36.h0_1, t36.h0_2, t39⟩ : m_laurellaw09_Made_1_S0))) else
 (some (.inr (⟨s.b0_1, s.b0_2, s.s8_strips⟩ : m_laurellaw09_Made_1_C0)))
structure m_laurellaw09_Made_1_C1 where
  b0_1 : Int
  b0_2 : Int
  real11 : (List (List Int))
  s8_carried : (List Span)
structure m_laurellaw09_Made_1_S1 where
  t46 : Int
  b0_1 : Int
  b0_2 : Int
  real11 : (List (List Int))
  s8_carried : (List Span)
structure m_laurellaw09_Made_1_C2 where
  sum13 : Int
  b0_1 : Int
  b0_2 : Int
  real11 : (List (List Int))
structure m_laurellaw09_Made_1_S2 where
  sum13 : Int
  t50 : Int
  b0_1 : Int
  b0_2 : Int
  real11 : (List (List Int))
structure m_laurellaw09_Made_1_C3 where
  n15 : Int
  b0_1 : Int
  b0_2 : Int
structure m_laurellaw09_Made_1_C4 where
  t70 : Bool
  b0_1 : Int
  b0_2 : Int
def m_laurellaw09_Made_1_L2 (t24 : m_laurelkit_Heap_From_1_R) (o : m_laurellaw09_Made_1_C0) (s_1 : m_laurellaw09_Made_1_S1) (b00 : (List Int)) (s_2 : m_laurellaw09_Made_1_S2) : Option (m_laurellaw09_Made_1_S2 ⊕ m_laurellaw09_Made_1_C2) :=
 if s_2.t50 < t24.r0 then
 ((((m_laurellaw09_reaches (⟨o.s8_strips, s_1.s8_carried⟩ : Scalps) s_1.t46 s_2.t50).bind fun t56 =>
 if t56 = true then
 ((ix o.s8_strips s_2.t50).bind fun t61 =>
 if t61.tenant = s_1.t46 then
 (some (⟨true, s_2.b0_1, s_2.b0_2⟩ : m_laurellaw09_Made_1_C4)) else
 ((m_laurelkit_Heap_Once_1 b00 s_2.b0_1 s_2.b0_2 4).bind fun t68 =>
 some (⟨t68.r0, t68.h0_1, t68.h0_2⟩ : m_laurellaw09_Made_1_C4))) else
 (some (⟨false, s_2.b0_1, s_2.b0_2⟩ : m_laurellaw09_Made_1_C4))).bind fun o_4 =>
 if o_4.t70 = true then
 ((m_laurelkit_Heap_Upto_1 b00 o_4.b0_1 o_4.b0_2 4).bind fun t72 =>
 some (⟨t72.r0, t72.h0_1, t72.h0_2⟩ : m_laurellaw09_Made_1_C3)) else
 (some (⟨0, o_4.b0_1, o_4.b0_2⟩ : m_laurellaw09_Made_1_C3))).bind fun o_3 =>
 (ix s_2.real11 s_1.t46).bind fun t77 =>
 (appc 8 t77 [o_3.n15]).bind fun t81 =>
 (addc s_2.sum13 o_3.n15).bind fun t84 =>
 (ix s_2.real11 s_1.t46).bind fun t85 =>
 (some (s_2.real11.set (Int.toNat s_1.t46) t81)).bind fun real11 =>
 (addc s_2.t50 1).bind fun t86 =>
 some (.inl (⟨t84, t86, o_3.b0_1, o_3.b0_2, real11⟩ : m_laurellaw09_Made_1_S2))) else
 (some (.inr (⟨s_2.sum13, s_2.b0_1, s_2.b0_2, s_2.real11⟩ : m_laurellaw09_Made_1_C2)))
def m_laurellaw09_Made_1_L1 (t43 : (List (List Int))) (t24 : m_laurelkit_Heap_From_1_R) (o : m_laurellaw09_Made_1_C0) (b00 : (List Int)) (s_1 : m_laurellaw09_Made_1_S1) : Option (m_laurellaw09_Made_1_S1 ⊕ m_laurellaw09_Made_1_C1) :=
 if s_1.t46 < (t43.length : Int) then
 ((iterM FU (m_laurellaw09_Made_1_L2 t24 o s_1 b00) (⟨0, 0, s_1.b0_1, s_1.b0_2, s_1.real11⟩ : m_laurellaw09_Made_1_S2)).bind fun o_2 =>
 (m_laurellaw09_around_1 b00 o_2.b0_1 o_2.b0_2 o_2.sum13 2).bind fun t91 =>
 (appc 16 s_1.s8_carried [t91.r0]).bind fun t93 =>
 (addc s_1.t46 1).bind fun t95 =>
 some (.inl (⟨t95, t91.b0_1, t91.b0_2, o_2.real11, t93⟩ : m_laurellaw09_Made_1_S1))) else
 (some (.inr (⟨s_1.b0_1, s_1.b0_2, s_1.real11, s_1.s8_carried⟩ : m_laurellaw09_Made_1_C1)))
structure m_laurellaw09_Made_1_C5 where
  b0_1 : Int
  b0_2 : Int
  s8_strips : (List Strip)
structure m_laurellaw09_Made_1_S3 where
  t97 : Int
  b0_1 : Int
  b0_2 : Int
  s8_strips : (List Strip)
structure m_laurellaw09_Made_1_S4 where
  gone17 : Int
  t102 : Int
def m_laurellaw09_Made_1_L4 (o_1 : m_laurellaw09_Made_1_C1) (s_3 : m_laurellaw09_Made_1_S3) (s_4 : m_laurellaw09_Made_1_S4) : Option (m_laurellaw09_Made_1_S4 ⊕ Int) :=
 if s_4.t102 < (o_1.real11.length : Int) then
 ((ix o_1.real11 s_4.t102).bind fun t108 =>
 (ix t108 s_3.t97).bind fun t111 =>
 (addc s_4.gone17 t111).bind fun t113 =>
 (addc s_4.t102 1).bind fun t114 =>
 some (.inl (⟨t113, t114⟩ : m_laurellaw09_Made_1_S4))) else
 (some (.inr s_4.gone17))
def m_laurellaw09_Made_1_L3 (t24 : m_laurelkit_Heap_From_1_R) (o_1 : m_laurellaw09_Made_1_C1) (b00 : (List Int)) (s_3 : m_laurellaw09_Made_1_S3) : Option (m_laurellaw09_Made_1_S3 ⊕ m_laurellaw09_Made_1_C5) :=
 if s_3.t97 < t24.r0 then
 ((iterM FU (m_laurellaw09_Made_1_L4 o_1 s_3) (⟨0, 0⟩ : m_laurellaw09_Made_1_S4)).bind fun o_6 =>
 (m_laurelkit_Heap_Upto_1 b00 s_3.b0_1 s_3.b0_2 3).bind fun t116 =>
 (m_laurelkit_Heap_Upto_1 b00 t116.h0_1 t116.h0_2 2).bind fun t118 =>
 (addc o_6 t116.r0).bind fun t121 =>
 (ix s_3.s8_strips s_3.t97).bind fun t126 =>
 (addc o_6 t116.r0).bind fun t133 =>
 (subc t133 (min t118.r0 t121)).bind fun t135 =>
 (m_laurellaw09_around_1 b00 t118.h0_1 t118.h0_2 t135 1).bind fun t136 =>
 (m_laurellaw09_around_1 b00 t136.b0_1 t136.b0_2 (min t118.r0 t121) 1).bind fun t139 =>
 (m_laurellaw09_around_1 b00 t139.b0_1 t139.b0_2 t116.r0 1).bind fun t142 =>
 (some (s_3.s8_strips.set (Int.toNat s_3.t97) (⟨t126.tenant, t136.r0, t126.seeded, t126.left⟩ : Strip))).bind fun s8_strips =>
 (ix s8_strips s_3.t97).bind fun x =>
 (some (s8_strips.set (Int.toNat s_3.t97) (⟨x.tenant, x.lay, t139.r0, x.left⟩ : Strip))).bind fun s8_strips_1 =>
 (ix s8_strips_1 s_3.t97).bind fun x_1 =>
 (some (s8_strips_1.set (Int.toNat s_3.t97) (⟨x_1.tenant, x_1.lay, x_1.seeded, t142.r0⟩ : Strip))).bind fun s8_strips_2 =>
 (addc s_3.t97 1).bind fun t149 =>
 some (.inl (⟨t149, t142.b0_1, t142.b0_2, s8_strips_2⟩ : m_laurellaw09_Made_1_S3))) else
 (some (.inr (⟨s_3.b0_1, s_3.b0_2, s_3.s8_strips⟩ : m_laurellaw09_Made_1_C5)))
def m_laurellaw09_Made_1 (b00 : (List Int)) (b01 : Int) (b02 : Int) (strips1 : Int) (tenants2 : Int) : Option m_laurellaw09_Made_1_R :=
 (m_laurelkit_Heap_From_1 b00 b01 b02 1 strips1).bind fun t24 =>
 (m_laurelkit_Heap_From_1 b00 t24.h0_1 t24.h0_2 1 tenants2).bind fun t27 =>
 (iterM FU (m_laurellaw09_Made_1_L0 t24 t27 b00) (⟨0, t27.h0_1, t27.h0_2, []⟩ : m_laurellaw09_Made_1_S0)).bind fun o =>
 (makec 24 ([] : (List Int)) t27.r0 t27.r0).bind fun t43 =>
 (iterM FU (m_laurellaw09_Made_1_L1 t43 t24 o b00) (⟨0, o.b0_1, o.b0_2, t43, []⟩ : m_laurellaw09_Made_1_S1)).bind fun o_1 =>
 (iterM FU (m_laurellaw09_Made_1_L3 t24 o_1 b00) (⟨0, o_1.b0_1, o_1.b0_2, o.s8_strips⟩ : m_laurellaw09_Made_1_S3)).bind fun o_5 =>
 some (⟨(⟨o_5.s8_strips, o_1.s8_carried⟩ : Scalps), o_5.b0_1, o_5.b0_2, o_1.real11⟩ : m_laurellaw09_Made_1_R)
theorem c_laurellaw09_Made_1 (b00 : (List Int)) (b01 : Int) (b02 : Int) (strips1 : Int) (tenants2 : Int) (pb : Nat) (qa0 : Option Addr) (na0 ca0 : Nat) (w : World) (hw : HV w (keys [(pb, .cells #[.slice qa0 na0 ca0, .int .i64 b01, .int .u32 b02] 105 (0, 0))] []) [(pb, .cells #[.slice qa0 na0 ca0, .int .i64 b01, .int .u32 b02] 105 (0, 0))] [] [(aB qa0, aO qa0, RU8.enc b00)] w) (hna0 : b00.length = na0) (hqa0 : AOK na0 qa0) (hla0 : na0 ≤ ca0) {res : m_laurellaw09_Made_1_R} (hm : m_laurellaw09_Made_1 b00 b01 b02 strips1 tenants2 = some res) :
    Calls Try.prog 13 #[ptr pb 0, .int .i64 strips1, .int .i64 tenants2] w (fun en w' => ∃ l : VL × VL × DL, en = .returned (.tuple #[.agg #[slv l.1.q l.1.n l.1.cap, slv l.2.1.q l.2.1.n l.2.1.cap], slv l.2.2.v.q l.2.2.v.n l.2.2.v.cap]) ∧ (VOK 7 l.1.n l.1.cap (RSt.enc res.r0.strips) l.1.sp l.1.q ∧ VOK 2 l.2.1.n l.2.1.cap (RSp.enc res.r0.carried) l.2.1.sp l.2.1.q ∧ VOK 1 l.2.2.v.n l.2.2.v.cap (RwH.enc l.2.2.rs) l.2.2.v.sp l.2.2.v.q ∧ DOK RI res.r1 l.2.2.rs) ∧ HV w (keys [(pb, .cells #[.slice qa0 na0 ca0, .int .i64 b01, .int .u32 b02] 105 (0, 0))] []) [(pb, .cells #[.slice qa0 na0 ca0, .int .i64 res.b0_1, .int .u32 res.b0_2] 105 (0, 0))] [⟨77, RSt.enc res.r0.strips, l.1.sp, l.1.q, []⟩, ⟨37, RSp.enc res.r0.carried, l.2.1.sp, l.2.1.q, []⟩, ⟨32, RwH.enc l.2.2.rs, l.2.2.v.sp, l.2.2.v.q, dbl 3 RI res.r1 l.2.2.rs⟩] [] w') := by
  unfold m_laurellaw09_Made_1 at hm
  refine g_en Try.func13 rfl Try.ntmps13 rfl (e := [(0, _), (1, _), (2, _)]) rfl hw (g_sr ?_)
  refine g_allocV (fun w => Try.zeroValue28 w) rfl (fun b h5 => ?_)
  refine g_val rfl rfl rfl (fun _ _ => v_nilS rfl) (g_nx ?_)
  refine g_allocV (fun w => Try.zeroValue28 w) rfl (fun b_1 h6 => ?_)
  refine g_nx (g_mv rfl rfl (g_mv rfl rfl ?_))
  obtain ⟨t24, h7, hm⟩ := bindO hm
  refine g_se (S' := [_, _, _]) (vs' := []) [2, 0, 1] [] 0 rfl rfl rfl rfl ?_
  refine g_callH [_] [] rfl rfl rfl rfl rfl rfl rfl Try.call42 (fun w hh => c_laurelkit_Heap_From_1 b00 b01 b02 1 strips1 pb qa0 na0 ca0 w (HV.callee (S0 := [_]) (vs0 := []) hh (roC (hh.rsep 0 rfl) roN)) hna0 hqa0 hla0 h7) (fun l h8 => ?_)
  refine g_se (S' := [_, _, _]) (vs' := []) [0, 1, 2] [] 0 rfl rfl rfl rfl (g_mv rfl rfl (g_mv rfl rfl ?_))
  obtain ⟨t27, h9, hm⟩ := bindO hm
  refine g_callH [_] [] rfl rfl rfl rfl rfl rfl rfl Try.call42 (fun w hh => c_laurelkit_Heap_From_1 b00 t24.h0_1 t24.h0_2 1 tenants2 pb qa0 na0 ca0 w (HV.callee (S0 := [_]) (vs0 := []) hh (roC (hh.rsep 0 rfl) roN)) hna0 hqa0 hla0 h9) (fun l_1 h10 => ?_)
  refine g_se (S' := [_, _, _]) (vs' := []) [0, 1, 2] [] 0 rfl rfl rfl rfl (g_as rfl rfl (g_as rfl rfl (g_nt (g_seq (g_sr (g_mv rfl rfl (g_mv rfl rfl ?_)))))))
  refine g_nt (g_vnil 77 ?_)
  obtain ⟨o, h11, h12⟩ := bindO hm
  refine g_cut (ι := VL) (fun l_2 => VOK 7 l_2.n l_2.cap (RSt.enc o.s8_strips) l_2.sp l_2.q) (fun l_2 => [(0, ptr pb 0), (6, ptr b 0), (8, ptr b_1 0), (9, .int .i64 t24.r0), (10, .int .i64 t27.r0)]) (fun l_2 => [(pb, .cells #[.slice qa0 na0 ca0, .int .i64 o.b0_1, .int .u32 o.b0_2] 105 (0, 0)), (b_1, .cells #[slv l_2.q l_2.n l_2.cap, slv none 0 0] 28 (0, 0)), (b, .cells #[slv none 0 0, slv none 0 0] 28 (0, 0))]) (fun l_2 => [⟨77, RSt.enc o.s8_strips, l_2.sp, l_2.q, []⟩]) ?_ ?_
  ·replace hm := h11
   refine g_block ?_
   refine g_loopF (ι := VL) hm (fun s l_3 => VOK 7 l_3.n l_3.cap (RSt.enc s.s8_strips) l_3.sp l_3.q) (fun s l_3 => [(0, ptr pb 0), (6, ptr b 0), (8, ptr b_1 0), (9, .int .i64 t24.r0), (10, .int .i64 t27.r0), (28, .int .i64 t24.r0), (29, .int .i64 s.t29)]) (fun s l_3 => [(pb, .cells #[.slice qa0 na0 ca0, .int .i64 s.b0_1, .int .u32 s.b0_2] 105 (0, 0)), (b_1, .cells #[slv l_3.q l_3.n l_3.cap, slv none 0 0] 28 (0, 0)), (b, .cells #[slv none 0 0, slv none 0 0] 28 (0, 0))]) (fun s l_3 => [⟨77, RSt.enc s.s8_strips, l_3.sp, l_3.q, []⟩]) ⟨none, 0, 0, []⟩ (VOK.nil) (sE rfl) (fun w hh => hh) (fun s l_3 r hpl hm h15 => ?_)
   have h14 := hpl
   unfold m_laurellaw09_Made_1_L0 at hm
   refine g_sr (g_ls rfl rfl rfl (g_nt (g_seq ?_)))
   refine g_cond rfl (fun h16 => ?_) (fun h16 => ?_)
   ·replace hm := ifD h16 hm
    refine g_skip (g_n_then (g_seq (g_block ?_)))
    refine g_draw (some 10) (.free 0 (.hoist 1 (.free 2 (.free 3 (.free 4 (.one 5 (.free 6 (.one 7 (.one 8 (.free 9 (.last 10 .done))))))))))) (HV _ _ [(b_1, .cells #[slv l_3.q l_3.n l_3.cap, slv none 0 0] 28 (0, 0)), (b, .cells #[slv none 0 0, slv none 0 0] 28 (0, 0))] [] _) rfl (by decide +kernel) (fun w k hh => hh.draw k) (fun w hh => hh.se [1, 2] [] 0 rfl rfl rfl rfl) ?_
    refine p_free rfl rfl rfl rfl (fun w _ => v_fieldAddr 0 (Try.runUnderlying28 w) rfl (Try.sizeOf25 w) rfl) (p_hoist rfl rfl rfl rfl (fun w hh => v_load (Try.isAgg25 w) rfl (hh.cell 0 rfl rfl)) (p_free rfl rfl rfl rfl (fun _ _ => v_move rfl) (p_free rfl rfl rfl rfl (fun _ _ => v_move rfl) ?_)))
    obtain ⟨t35, h17, hm⟩ := bindO hm
    refine p_free rfl rfl rfl rfl (fun _ _ => v_subc h17 rfl rfl) (p_one rfl ?_)
    obtain ⟨t36, h18, hm⟩ := bindO hm
    refine g_callH [_] [] rfl rfl rfl rfl rfl rfl rfl Try.call33 (fun w hh => c_laurelkit_Heap_Upto_1 b00 s.b0_1 s.b0_2 t35 pb qa0 na0 ca0 w (HV.callee (S0 := [_]) (vs0 := []) hh (roC (hh.rsep 0 rfl) roN)) hna0 hqa0 hla0 h18) (fun l_4 h19 => ?_)
    refine g_se (S' := [_, _, _]) (vs' := [_]) [0, 1, 2] [0] 0 rfl rfl rfl rfl (p_next (fun w hh => hh.se [1, 2] [] 0 rfl rfl rfl rfl) (p_free rfl rfl rfl rfl (fun _ _ => v_build (vs := [(0, _)]) (cells := [_, _, _, _, _, _, _]) rfl rfl) (p_one rfl ?_)))
    refine g_vlit RSt [(⟨t36.r0, (⟨0, 0⟩ : Span), (⟨0, 0⟩ : Span), (⟨0, 0⟩ : Span)⟩ : Strip)] (ps := [(0, _)]) (cells := [_, _, _, _, _, _, _]) (fun w => Try.runUnderlying25 w) (fun w => Try.sizeOf77 w) (fun w => Try.zeroValue77 w) rfl rfl rfl rfl rfl rfl rfl rfl (fun L h20 => ?_)
    refine p_next (fun w hh => hh.se [1, 2] [] 0 rfl rfl rfl rfl) (p_one rfl ?_)
    obtain ⟨t39, h21, hm⟩ := bindO hm
    refine g_vapp RSt 1 h21 Try.underlying25 gxinf77 rfl rfl rfl rfl rfl h14 rfl rfl (vlen RSt h20 rfl) (AOK.q (vne h20)) (fun w hh => (hh.vsegA 0 rfl h20)) rfl (fun L_1 h22 h22n => ?_)
    refine g_se (S' := [_, _, _]) (vs' := [_, _]) [0, 1, 2] [0, 1] 0 rfl rfl rfl rfl (p_next (fun w hh => hh.se [1, 2] [] 0 rfl rfl rfl rfl) (p_free rfl rfl rfl rfl (fun w _ => v_fieldAddr 0 (Try.runUnderlying28 w) rfl (Try.sizeOf25 w) rfl) (p_last rfl (g_stS (cs' := #[_, _]) (S' := [_, _, _]) 1 (fun w => Try.sizeOf25 w) rfl rfl rfl rfl rfl rfl rfl (p_nextL (p_done (g_n_blk ?_)))))))
    refine g_n_then (g_region ?_)
    obtain ⟨t41, h23, hm⟩ := bindO hm
    refine g_ac h23 rfl rfl rfl (g_mv rfl rfl (g_nil ?_))
    obtain rfl := sj hm
    refine g_n_then ?_
    exact g_again' _ L_1 rfl (h22) (sE rfl) (fun w hh => hh.se [0, 1, 2] [1] 0 rfl rfl rfl rfl)
   ·replace hm := ifE h16 hm
    refine g_exit (g_x_then (g_x_then (g_x_blk ?_)))
    obtain rfl := sj hm
    have hbo := h15 _ rfl
    subst hbo
    exact g_leaf l_3 (h14) (sE rfl) (fun w hh => hh)
  ·intro l_2 hj
   have h13 := hj
   replace hm := h12
   refine g_n_then (g_sr (g_mv rfl rfl ?_))
   obtain ⟨t43, h24, hm⟩ := bindO hm
   refine g_vmake RwH vl0 (makecL vl0 h24) Try.underlying29 gxinf32 rfl rfl rfl rfl rfl (fun L_2 h25 => ?_)
   refine g_drep (E2 := 3) RI (Int.toNat t27.r0) (makecO h24).1.symm (fun h26 => ?_)
   refine g_as rfl rfl (g_nt (g_seq (g_sr (g_mv rfl rfl (g_val rfl rfl rfl (fun w _ => v_lenN (Eq.trans (h26).len (vlen RwH h25 rfl)) (Try.runUnderlying29 w) rfl) (g_mv rfl rfl (g_nt ?_)))))))
   refine g_vnil 37 ?_
   obtain ⟨o_1, h27, h28⟩ := bindO hm
   refine g_cut (ι := DL × VL) (fun l_5 => VOK 1 l_5.1.v.n l_5.1.v.cap (RwH.enc l_5.1.rs) l_5.1.v.sp l_5.1.v.q ∧ DOK RI o_1.real11 l_5.1.rs ∧ VOK 2 l_5.2.n l_5.2.cap (RSp.enc o_1.s8_carried) l_5.2.sp l_5.2.q) (fun l_5 => [(0, ptr pb 0), (6, ptr b 0), (8, ptr b_1 0), (9, .int .i64 t24.r0), (11, slv l_5.1.v.q l_5.1.v.n l_5.1.v.cap)]) (fun l_5 => [(pb, .cells #[.slice qa0 na0 ca0, .int .i64 o_1.b0_1, .int .u32 o_1.b0_2] 105 (0, 0)), (b_1, .cells #[slv l_2.q l_2.n l_2.cap, slv l_5.2.q l_5.2.n l_5.2.cap] 28 (0, 0)), (b, .cells #[slv none 0 0, slv none 0 0] 28 (0, 0))]) (fun l_5 => [⟨32, RwH.enc l_5.1.rs, l_5.1.v.sp, l_5.1.v.q, dbl 3 RI o_1.real11 l_5.1.rs⟩, ⟨77, RSt.enc o.s8_strips, l_2.sp, l_2.q, []⟩, ⟨37, RSp.enc o_1.s8_carried, l_5.2.sp, l_5.2.q, []⟩]) ?_ ?_
   ·replace hm := h27
    refine g_block ?_
    refine g_loopF (ι := DL × VL) hm (fun s_1 l_6 => VOK 1 l_6.1.v.n l_6.1.v.cap (RwH.enc l_6.1.rs) l_6.1.v.sp l_6.1.v.q ∧ DOK RI s_1.real11 l_6.1.rs ∧ VOK 2 l_6.2.n l_6.2.cap (RSp.enc s_1.s8_carried) l_6.2.sp l_6.2.q) (fun s_1 l_6 => [(0, ptr pb 0), (6, ptr b 0), (8, ptr b_1 0), (9, .int .i64 t24.r0), (11, slv l_6.1.v.q l_6.1.v.n l_6.1.v.cap), (45, .int .i64 (t43.length : Int)), (46, .int .i64 s_1.t46)]) (fun s_1 l_6 => [(pb, .cells #[.slice qa0 na0 ca0, .int .i64 s_1.b0_1, .int .u32 s_1.b0_2] 105 (0, 0)), (b_1, .cells #[slv l_2.q l_2.n l_2.cap, slv l_6.2.q l_6.2.n l_6.2.cap] 28 (0, 0)), (b, .cells #[slv none 0 0, slv none 0 0] 28 (0, 0))]) (fun s_1 l_6 => [⟨32, RwH.enc l_6.1.rs, l_6.1.v.sp, l_6.1.v.q, dbl 3 RI s_1.real11 l_6.1.rs⟩, ⟨77, RSt.enc o.s8_strips, l_2.sp, l_2.q, []⟩, ⟨37, RSp.enc s_1.s8_carried, l_6.2.sp, l_6.2.q, []⟩]) (⟨⟨L_2.q, L_2.n, L_2.cap, L_2.sp⟩, (List.replicate (Int.toNat t27.r0) vl0)⟩, ⟨none, 0, 0, []⟩) (⟨h25, h26, VOK.nil⟩) (sE rfl) (fun w hh => hh.se [0, 1, 2] [1, 2, 0] 0 rfl rfl rfl rfl) (fun s_1 l_6 r_1 hpl hm h35 => ?_)
    obtain ⟨h32, h33, h34⟩ := hpl
    unfold m_laurellaw09_Made_1_L1 at hm
    refine g_sr (g_ls rfl rfl rfl (g_nt (g_seq ?_)))
    refine g_cond rfl (fun h36 => ?_) (fun h36 => ?_)
    ·replace hm := ifD h36 hm
     refine g_skip (g_n_then (g_seq (g_block (g_sr (g_mv rfl rfl (g_as rfl rfl (g_nx ?_)))))))
     refine g_as rfl rfl (g_nt (g_seq (g_sr (g_mv rfl rfl (g_mv rfl rfl (g_nt ?_))))))
     obtain ⟨o_2, h37, h38⟩ := bindO hm
     refine g_cut (ι := DL) (fun l_7 => VOK 1 l_7.v.n l_7.v.cap (RwH.enc l_7.rs) l_7.v.sp l_7.v.q ∧ DOK RI o_2.real11 l_7.rs) (fun l_7 => [(0, ptr pb 0), (6, ptr b 0), (8, ptr b_1 0), (9, .int .i64 t24.r0), (11, slv l_7.v.q l_7.v.n l_7.v.cap), (13, .int .i64 o_2.sum13), (45, .int .i64 (t43.length : Int)), (46, .int .i64 s_1.t46)]) (fun l_7 => [(pb, .cells #[.slice qa0 na0 ca0, .int .i64 o_2.b0_1, .int .u32 o_2.b0_2] 105 (0, 0)), (b_1, .cells #[slv l_2.q l_2.n l_2.cap, slv l_6.2.q l_6.2.n l_6.2.cap] 28 (0, 0)), (b, .cells #[slv none 0 0, slv none 0 0] 28 (0, 0))]) (fun l_7 => [⟨32, RwH.enc l_7.rs, l_7.v.sp, l_7.v.q, dbl 3 RI o_2.real11 l_7.rs⟩, ⟨77, RSt.enc o.s8_strips, l_2.sp, l_2.q, []⟩, ⟨37, RSp.enc s_1.s8_carried, l_6.2.sp, l_6.2.q, []⟩]) ?_ ?_
     ·replace hm := h37
      refine g_block ?_
      refine g_loopF (ι := DL) hm (fun s_2 l_8 => VOK 1 l_8.v.n l_8.v.cap (RwH.enc l_8.rs) l_8.v.sp l_8.v.q ∧ DOK RI s_2.real11 l_8.rs) (fun s_2 l_8 => [(0, ptr pb 0), (6, ptr b 0), (8, ptr b_1 0), (9, .int .i64 t24.r0), (11, slv l_8.v.q l_8.v.n l_8.v.cap), (12, .int .i64 s_1.t46), (13, .int .i64 s_2.sum13), (45, .int .i64 (t43.length : Int)), (46, .int .i64 s_1.t46), (49, .int .i64 t24.r0), (50, .int .i64 s_2.t50)]) (fun s_2 l_8 => [(pb, .cells #[.slice qa0 na0 ca0, .int .i64 s_2.b0_1, .int .u32 s_2.b0_2] 105 (0, 0)), (b_1, .cells #[slv l_2.q l_2.n l_2.cap, slv l_6.2.q l_6.2.n l_6.2.cap] 28 (0, 0)), (b, .cells #[slv none 0 0, slv none 0 0] 28 (0, 0))]) (fun s_2 l_8 => [⟨32, RwH.enc l_8.rs, l_8.v.sp, l_8.v.q, dbl 3 RI s_2.real11 l_8.rs⟩, ⟨77, RSt.enc o.s8_strips, l_2.sp, l_2.q, []⟩, ⟨37, RSp.enc s_1.s8_carried, l_6.2.sp, l_6.2.q, []⟩]) l_6.1 (⟨h32, h33⟩) (sE rfl) (fun w hh => hh) (fun s_2 l_8 r_2 hpl hm h43 => ?_)
      obtain ⟨h41, h42⟩ := hpl
      unfold m_laurellaw09_Made_1_L2 at hm
      refine g_sr (g_ls rfl rfl rfl (g_nt (g_seq ?_)))
      refine g_cond rfl (fun h44 => ?_) (fun h44 => ?_)
      ·replace hm := ifD h44 hm
       refine g_skip (g_n_then (g_seq (g_block (g_sr (g_mv rfl rfl (g_as rfl rfl (g_nx ?_)))))))
       refine g_as rfl rfl (g_nt (g_seq ?_))
       obtain ⟨o_3, h45, h46⟩ := bindO hm
       refine g_cut (ι := Unit) (fun l_9 => True) (fun l_9 => [(0, ptr pb 0), (6, ptr b 0), (8, ptr b_1 0), (9, .int .i64 t24.r0), (11, slv l_8.v.q l_8.v.n l_8.v.cap), (12, .int .i64 s_1.t46), (13, .int .i64 s_2.sum13), (15, .int .i64 o_3.n15), (45, .int .i64 (t43.length : Int)), (46, .int .i64 s_1.t46), (49, .int .i64 t24.r0), (50, .int .i64 s_2.t50)]) (fun l_9 => [(pb, .cells #[.slice qa0 na0 ca0, .int .i64 o_3.b0_1, .int .u32 o_3.b0_2] 105 (0, 0)), (b_1, .cells #[slv l_2.q l_2.n l_2.cap, slv l_6.2.q l_6.2.n l_6.2.cap] 28 (0, 0)), (b, .cells #[slv none 0 0, slv none 0 0] 28 (0, 0))]) (fun l_9 => [⟨32, RwH.enc l_8.rs, l_8.v.sp, l_8.v.q, dbl 3 RI s_2.real11 l_8.rs⟩, ⟨77, RSt.enc o.s8_strips, l_2.sp, l_2.q, []⟩, ⟨37, RSp.enc s_1.s8_carried, l_6.2.sp, l_6.2.q, []⟩]) ?_ ?_
       ·replace hm := h45
        refine g_seq ?_
        obtain ⟨o_4, h47, h48⟩ := bindO hm
        refine g_cut (ι := Unit) (fun l_10 => True) (fun l_10 => [(0, ptr pb 0), (6, ptr b 0), (8, ptr b_1 0), (9, .int .i64 t24.r0), (11, slv l_8.v.q l_8.v.n l_8.v.cap), (12, .int .i64 s_1.t46), (13, .int .i64 s_2.sum13), (15, .int .i64 0), (45, .int .i64 (t43.length : Int)), (46, .int .i64 s_1.t46), (49, .int .i64 t24.r0), (50, .int .i64 s_2.t50), (70, .bool o_4.t70)]) (fun l_10 => [(pb, .cells #[.slice qa0 na0 ca0, .int .i64 o_4.b0_1, .int .u32 o_4.b0_2] 105 (0, 0)), (b_1, .cells #[slv l_2.q l_2.n l_2.cap, slv l_6.2.q l_6.2.n l_6.2.cap] 28 (0, 0)), (b, .cells #[slv none 0 0, slv none 0 0] 28 (0, 0))]) (fun l_10 => [⟨32, RwH.enc l_8.rs, l_8.v.sp, l_8.v.q, dbl 3 RI s_2.real11 l_8.rs⟩, ⟨77, RSt.enc o.s8_strips, l_2.sp, l_2.q, []⟩, ⟨37, RSp.enc s_1.s8_carried, l_6.2.sp, l_6.2.q, []⟩]) ?_ ?_
        ·replace hm := h47
         refine g_region (g_val rfl rfl rfl (fun w hh => v_loadAgg (vs := [_, _]) (Try.isAgg28 w) (Try.sizeOf28 w) rfl (hh.cells 1 rfl rfl)) (g_mv rfl rfl (g_mv rfl rfl ?_)))
         obtain ⟨t56, h49, hm⟩ := bindO hm
         refine g_callH [] [] rfl rfl rfl rfl rfl rfl rfl Try.call43 (fun w hh => c_laurellaw09_reaches (⟨o.s8_strips, s_1.s8_carried⟩ : Scalps) s_1.t46 s_2.t50 (qA l_2.q) l_2.n l_2.cap (qA l_6.2.q) l_6.2.n l_6.2.cap w (HV.callee (S0 := []) (vs0 := []) hh (roC (hh.vsepA 1 rfl h13) (roC (hh.vsepA 2 rfl h34) roN))) (vlen RSt h13 rfl) (AOK.q (vne h13)) (h13).hle (vlen RSp h34 rfl) (AOK.q (vne h34)) (h34).hle h49) (fun l_11 h50 => ?_)
         refine g_mv rfl rfl ?_
         refine g_case 57 rfl (fun h51 => ?_) (fun h51 => ?_)
         ·replace hm := ifT (h51) hm
          refine v_unguard rfl rfl (g_fa 0 Try.runUnderlying28 rfl Try.sizeOf25 rfl rfl (v_unguard rfl rfl (g_lc 1 Try.isAgg25 rfl rfl rfl rfl (v_unguard rfl rfl (g_mv rfl rfl (v_unguard rfl rfl ?_))))))
          obtain ⟨t61, h52, hm⟩ := bindO hm
          refine g_val rfl rfl rfl (fun w _ => v_ixA h52 (Try.runUnderlying25 w) (Try.sizeOf77 w) rfl rfl (vlen RSt h13 rfl) (vne h13)) (v_unguard rfl rfl (g_fa 0 Try.runUnderlying77 rfl Try.sizeOf3 rfl rfl (v_unguard rfl rfl (g_val rfl rfl rfl (fun w hh => v_ldE RSt 0 h52 (Try.isAgg3 w) rfl (hh.vseg 1 rfl h13) rfl rfl) (v_unguard rfl rfl (g_mv rfl rfl (v_unguard rfl rfl ?_)))))))
          refine g_val rfl rfl rfl (fun _ _ => v_eql rfl rfl) (v_unguard rfl rfl (g_mv rfl rfl ?_))
          refine g_case 66 rfl (fun h53 => ?_) (fun h53 => ?_)
          ·replace hm := ifD h53 hm
           refine g_k rfl rfl rfl rfl (g_k rfl rfl rfl rfl (v_unguard rfl rfl (g_pt rfl rfl rfl (g_pt rfl rfl rfl (g_nil ?_)))))
           obtain rfl := sj hm
           exact g_leaf () (trivial) (sE rfl) (fun w hh => hh)
          ·replace hm := ifE h53 hm
           refine v_unguard rfl rfl (g_mv rfl rfl (v_unguard rfl rfl ?_))
           obtain ⟨t68, h54, hm⟩ := bindO hm
           refine g_callH [_] [] rfl rfl rfl rfl rfl rfl rfl Try.call34 (fun w hh => c_laurelkit_Heap_Once_1 b00 s_2.b0_1 s_2.b0_2 4 pb qa0 na0 ca0 w (HV.callee (S0 := [_]) (vs0 := []) hh (roC (hh.rsep 0 rfl) roN)) hna0 hqa0 hla0 h54) (fun l_12 h55 => ?_)
           refine g_se (S' := [_, _, _]) (vs' := [_, _, _]) [0, 1, 2] [0, 1, 2] 0 rfl rfl rfl rfl (v_unguard rfl rfl (g_pf rfl rfl rfl (g_pt rfl rfl rfl (g_nil ?_))))
           obtain rfl := sj hm
           exact g_leaf () (trivial) (sE rfl) (fun w hh => hh)
         ·replace hm := ifN h51 hm
          refine g_k rfl rfl rfl rfl (g_k rfl rfl rfl rfl (g_k rfl rfl rfl rfl (g_k rfl rfl rfl rfl (g_k rfl rfl rfl rfl (g_k rfl rfl rfl rfl (g_k rfl rfl rfl rfl (g_k rfl rfl rfl rfl ?_)))))))
          refine g_k rfl rfl rfl rfl ?_
          refine g_skipU' rfl rfl rfl rfl rfl ?_
          refine g_skipU' rfl rfl rfl rfl rfl ?_
          refine g_k rfl rfl rfl rfl (g_pf rfl rfl rfl (g_nil ?_))
          obtain rfl := sj hm
          exact g_leaf () (trivial) (sE rfl) (fun w hh => hh)
        ·intro l_10 hj
         replace hm := h48
         refine g_n_then ?_
         refine g_cond rfl (fun h56 => ?_) (fun h56 => ?_)
         ·replace hm := ifT (h56) hm
          refine g_region (g_mv rfl rfl ?_)
          obtain ⟨t72, h57, hm⟩ := bindO hm
          refine g_callH [_] [] rfl rfl rfl rfl rfl rfl rfl Try.call33 (fun w hh => c_laurelkit_Heap_Upto_1 b00 o_4.b0_1 o_4.b0_2 4 pb qa0 na0 ca0 w (HV.callee (S0 := [_]) (vs0 := []) hh (roC (hh.rsep 0 rfl) roN)) hna0 hqa0 hla0 h57) (fun l_13 h58 => ?_)
          refine g_se (S' := [_, _, _]) (vs' := [_, _, _]) [0, 1, 2] [0, 1, 2] 0 rfl rfl rfl rfl (g_as rfl rfl (g_nil ?_))
          obtain rfl := sj hm
          exact g_leaf () (trivial) (sE rfl) (fun w hh => hh)
         ·replace hm := ifN h56 hm
          refine g_skip ?_
          obtain rfl := sj hm
          exact g_leaf () (trivial) (sE rfl) (fun w hh => hh)
       ·intro l_9 hj
        replace hm := h46
        refine g_n_then (g_region (g_mv rfl rfl (g_mv rfl rfl (g_mv rfl rfl (g_mv rfl rfl ?_)))))
        obtain ⟨t77, h59, hm⟩ := bindO hm
        obtain ⟨L_3, h60, h61⟩ := (h42).row h59
        refine g_val rfl rfl rfl (fun w _ => v_ixA h60 (Try.runUnderlying29 w) (Try.sizeOf32 w) rfl rfl (vlen RwH h41 rfl) (vne h41)) (g_val rfl rfl rfl (fun w hh => v_ldE RwH 0 h60 (Try.isAgg32 w) rfl (hh.vseg 0 rfl h41) rfl (Nat.add_zero _).symm) (g_mv rfl rfl ?_))
        refine g_vlit RI [o_3.n15] (ps := [(0, _)]) (cells := [_]) (fun w => Try.runUnderlying32 w) (fun w => Try.sizeOf3 w) (fun w => Try.zeroValue3 w) rfl rfl rfl rfl rfl rfl rfl rfl (fun L_4 h62 => ?_)
        refine g_se (S' := [_, _, _]) (vs' := [_, _, _, _]) [0, 1, 2] [1, 0, 2, 3] 0 rfl rfl rfl rfl ?_
        refine g_dtake RI s_1.t46 h42 h59 h60 (fun _ => ?_)
        obtain ⟨t81, h63, hm⟩ := bindO hm
        refine g_vapp RI 1 h63 Try.underlying32 gxinf3 rfl rfl rfl rfl rfl h61 rfl rfl (vlen RI h62 rfl) (AOK.q (vne h62)) (fun w hh => (hh.vsegA 2 rfl h62)) rfl (fun L_5 h64 h64n => ?_)
        refine g_se (S' := [_, _, _]) (vs' := [_, _, _, _, _]) [0, 1, 2] [0, 1, 2, 3, 4] 0 rfl rfl rfl rfl (g_mv rfl rfl (g_mv rfl rfl ?_))
        obtain ⟨t84, h65, hm⟩ := bindO hm
        refine g_ac h65 rfl rfl rfl ?_
        obtain ⟨t85, h66, hm⟩ := bindO hm
        obtain ⟨L_6, h67, h68⟩ := (h42).row h66
        refine g_val rfl rfl rfl (fun w _ => v_ixA h67 (Try.runUnderlying29 w) (Try.sizeOf32 w) rfl rfl (vlen RwH h41 rfl) (vne h41)) ?_
        obtain ⟨real11, hreal11, hm⟩ := bindO hm
        refine g_vst RwH 0 0 (⟨L_5.q, L_5.n, L_5.cap, L_5.sp⟩ : VL) (fun w => Try.sizeOf32 w) rfl rfl rfl rfl h41 rfl (Nat.add_zero _).symm rfl h60 rfl rfl rfl (fun h69 => ?_)
        refine g_se (S' := [_, _, _]) (vs' := [_, _, _, _, _]) [0, 1, 2] [0, 1, 2, 3, 4] 0 rfl rfl rfl rfl (g_se (S' := [_, _, _]) (vs' := [_, _, _, _, _]) [0, 1, 2] [0, 1, 2, 3, 4] 0 rfl rfl rfl rfl ?_)
        refine g_dback' RI s_1.t46 L_5.n L_5.cap h42 h59 h60 h64 (Option.some.inj hreal11) (fun h70 => ?_)
        refine g_as rfl rfl (g_nil (g_n_blk (g_n_then (g_region ?_))))
        obtain ⟨t86, h71, hm⟩ := bindO hm
        refine g_ac h71 rfl rfl rfl (g_mv rfl rfl (g_nil ?_))
        obtain rfl := sj hm
        refine g_n_then ?_
        exact g_again' _ (⟨⟨l_8.v.q, l_8.v.n, l_8.v.cap, l_8.v.sp⟩, (l_8.rs.set (Int.toNat s_1.t46) (⟨L_5.q, L_5.n, L_5.cap, L_5.sp⟩ : VL))⟩) rfl (⟨h69, h70⟩) (sE rfl) (fun w hh => hh.se [0, 1, 2] [0, 2, 3] 0 rfl rfl rfl rfl)
      ·replace hm := ifE h44 hm
       refine g_exit (g_x_then (g_x_then (g_x_blk ?_)))
       obtain rfl := sj hm
       have hbo := h43 _ rfl
       subst hbo
       exact g_leaf l_8 (⟨h41, h42⟩) (sE rfl) (fun w hh => hh)
     ·intro l_7 hj
      obtain ⟨h39, h40⟩ := hj
      replace hm := h38
      refine g_n_then ?_
      refine g_draw (some 8) (.free 0 (.hoist 1 (.free 2 (.free 3 (.one 4 (.one 5 (.one 6 (.free 7 (.last 8 .done))))))))) (HV _ _ [(b_1, .cells #[slv l_2.q l_2.n l_2.cap, slv l_6.2.q l_6.2.n l_6.2.cap] 28 (0, 0)), (b, .cells #[slv none 0 0, slv none 0 0] 28 (0, 0))] [⟨32, RwH.enc l_7.rs, l_7.v.sp, l_7.v.q, dbl 3 RI o_2.real11 l_7.rs⟩, ⟨77, RSt.enc o.s8_strips, l_2.sp, l_2.q, []⟩] _) rfl (by decide +kernel) (fun w k hh => hh.draw k) (fun w hh => hh.se [1, 2] [0, 1] 0 rfl rfl rfl rfl) ?_
      refine p_free rfl rfl rfl rfl (fun w _ => v_fieldAddr 1 (Try.runUnderlying28 w) rfl (Try.sizeOf26 w) rfl) (p_hoist rfl rfl rfl rfl (fun w hh => v_load (Try.isAgg26 w) rfl (hh.cell 0 rfl rfl)) (p_free rfl rfl rfl rfl (fun _ _ => v_move rfl) (p_free rfl rfl rfl rfl (fun _ _ => v_move rfl) (p_one rfl ?_))))
      obtain ⟨t91, h72, hm⟩ := bindO hm
      refine g_callH [_] [] rfl rfl rfl rfl rfl rfl rfl Try.call35 (fun w hh => c_laurellaw09_around_1 b00 o_2.b0_1 o_2.b0_2 o_2.sum13 2 pb qa0 na0 ca0 w (HV.callee (S0 := [_]) (vs0 := []) hh (roC (hh.rsep 0 rfl) roN)) hna0 hqa0 hla0 h72) (fun l_14 h73 => ?_)
      refine g_se (S' := [_, _, _]) (vs' := [_, _, _]) [0, 1, 2] [0, 1, 2] 0 rfl rfl rfl rfl (p_next (fun w hh => hh.se [1, 2] [0, 1] 0 rfl rfl rfl rfl) (p_one rfl ?_))
      refine g_vlit RSp [t91.r0] (ps := [(0, _)]) (cells := [_, _]) (fun w => Try.runUnderlying26 w) (fun w => Try.sizeOf37 w) (fun w => Try.zeroValue37 w) rfl rfl rfl rfl rfl rfl rfl rfl (fun L_7 h74 => ?_)
      refine p_next (fun w hh => hh.se [1, 2] [1, 2] 0 rfl rfl rfl rfl) (p_one rfl ?_)
      obtain ⟨t93, h75, hm⟩ := bindO hm
      refine g_vapp RSp 3 h75 Try.underlying26 gxinf37 rfl rfl rfl rfl rfl h34 rfl rfl (vlen RSp h74 rfl) (AOK.q (vne h74)) (fun w hh => (hh.vsegA 0 rfl h74)) rfl (fun L_8 h76 h76n => ?_)
      refine g_se (S' := [_, _, _]) (vs' := [_, _, _, _]) [0, 1, 2] [0, 1, 2, 3] 0 rfl rfl rfl rfl (p_next (fun w hh => hh.se [1, 2] [1, 2] 0 rfl rfl rfl rfl) (p_free rfl rfl rfl rfl (fun w _ => v_fieldAddr 1 (Try.runUnderlying28 w) rfl (Try.sizeOf26 w) rfl) (p_last rfl (g_stS (cs' := #[_, _]) (S' := [_, _, _]) 1 (fun w => Try.sizeOf26 w) rfl rfl rfl rfl rfl rfl rfl (p_nextL (p_done (g_n_blk ?_)))))))
      refine g_n_then (g_region ?_)
      obtain ⟨t95, h77, hm⟩ := bindO hm
      refine g_ac h77 rfl rfl rfl (g_mv rfl rfl (g_nil ?_))
      obtain rfl := sj hm
      refine g_n_then ?_
      exact g_again' _ (l_7, L_8) rfl (⟨h39, h40, h76⟩) (sE rfl) (fun w hh => hh.se [0, 1, 2] [1, 2, 3] 0 rfl rfl rfl rfl)
    ·replace hm := ifE h36 hm
     refine g_exit (g_x_then (g_x_then (g_x_blk ?_)))
     obtain rfl := sj hm
     have hbo := h35 _ rfl
     subst hbo
     exact g_leaf (l_6.1, l_6.2) (⟨h32, h33, h34⟩) (sE rfl) (fun w hh => hh)
   ·intro l_5 hj
    obtain ⟨h29, h30, h31⟩ := hj
    replace hm := h28
    refine g_n_then (g_seq (g_sr (g_mv rfl rfl (g_mv rfl rfl (g_nt ?_)))))
    obtain ⟨o_5, h78, h79⟩ := bindO hm
    refine g_cut (ι := Unit) (fun l_15 => VOK 7 l_2.n l_2.cap (RSt.enc o_5.s8_strips) l_2.sp l_2.q) (fun l_15 => [(6, ptr b 0), (8, ptr b_1 0), (11, slv l_5.1.v.q l_5.1.v.n l_5.1.v.cap)]) (fun l_15 => [(pb, .cells #[.slice qa0 na0 ca0, .int .i64 o_5.b0_1, .int .u32 o_5.b0_2] 105 (0, 0)), (b_1, .cells #[slv l_2.q l_2.n l_2.cap, slv l_5.2.q l_5.2.n l_5.2.cap] 28 (0, 0)), (b, .cells #[slv none 0 0, slv none 0 0] 28 (0, 0))]) (fun l_15 => [⟨32, RwH.enc l_5.1.rs, l_5.1.v.sp, l_5.1.v.q, dbl 3 RI o_1.real11 l_5.1.rs⟩, ⟨77, RSt.enc o_5.s8_strips, l_2.sp, l_2.q, []⟩, ⟨37, RSp.enc o_1.s8_carried, l_5.2.sp, l_5.2.q, []⟩]) ?_ ?_
    ·replace hm := h78
     refine g_block ?_
     refine g_loopF (ι := Unit) hm (fun s_3 l_16 => VOK 7 l_2.n l_2.cap (RSt.enc s_3.s8_strips) l_2.sp l_2.q) (fun s_3 l_16 => [(0, ptr pb 0), (6, ptr b 0), (8, ptr b_1 0), (11, slv l_5.1.v.q l_5.1.v.n l_5.1.v.cap), (96, .int .i64 t24.r0), (97, .int .i64 s_3.t97)]) (fun s_3 l_16 => [(pb, .cells #[.slice qa0 na0 ca0, .int .i64 s_3.b0_1, .int .u32 s_3.b0_2] 105 (0, 0)), (b_1, .cells #[slv l_2.q l_2.n l_2.cap, slv l_5.2.q l_5.2.n l_5.2.cap] 28 (0, 0)), (b, .cells #[slv none 0 0, slv none 0 0] 28 (0, 0))]) (fun s_3 l_16 => [⟨32, RwH.enc l_5.1.rs, l_5.1.v.sp, l_5.1.v.q, dbl 3 RI o_1.real11 l_5.1.rs⟩, ⟨77, RSt.enc s_3.s8_strips, l_2.sp, l_2.q, []⟩, ⟨37, RSp.enc o_1.s8_carried, l_5.2.sp, l_5.2.q, []⟩]) () (h13) (sE rfl) (fun w hh => hh) (fun s_3 l_16 r_3 hpl hm h82 => ?_)
     have h81 := hpl
     unfold m_laurellaw09_Made_1_L3 at hm
     refine g_sr (g_ls rfl rfl rfl (g_nt (g_seq ?_)))
     refine g_cond rfl (fun h83 => ?_) (fun h83 => ?_)
     ·replace hm := ifD h83 hm
      refine g_skip (g_n_then (g_seq (g_block (g_sr (g_mv rfl rfl (g_as rfl rfl (g_nx ?_)))))))
      refine g_as rfl rfl (g_nt (g_seq (g_sr (g_mv rfl rfl (g_val rfl rfl rfl (fun w _ => v_lenN (Eq.trans (h30).len (vlen RwH h29 rfl)) (Try.runUnderlying29 w) rfl) (g_mv rfl rfl (g_nt ?_)))))))
      obtain ⟨o_6, h84, h85⟩ := bindO hm
      refine g_cut (ι := Unit) (fun l_17 => True) (fun l_17 => [(0, ptr pb 0), (6, ptr b 0), (8, ptr b_1 0), (11, slv l_5.1.v.q l_5.1.v.n l_5.1.v.cap), (16, .int .i64 s_3.t97), (17, .int .i64 o_6), (96, .int .i64 t24.r0), (97, .int .i64 s_3.t97)]) (fun l_17 => [(pb, .cells #[.slice qa0 na0 ca0, .int .i64 s_3.b0_1, .int .u32 s_3.b0_2] 105 (0, 0)), (b_1, .cells #[slv l_2.q l_2.n l_2.cap, slv l_5.2.q l_5.2.n l_5.2.cap] 28 (0, 0)), (b, .cells #[slv none 0 0, slv none 0 0] 28 (0, 0))]) (fun l_17 => [⟨32, RwH.enc l_5.1.rs, l_5.1.v.sp, l_5.1.v.q, dbl 3 RI o_1.real11 l_5.1.rs⟩, ⟨77, RSt.enc s_3.s8_strips, l_2.sp, l_2.q, []⟩, ⟨37, RSp.enc o_1.s8_carried, l_5.2.sp, l_5.2.q, []⟩]) ?_ ?_
      ·replace hm := h84
       refine g_block ?_
       refine g_loopF (ι := Unit) hm (fun s_4 l_18 => True) (fun s_4 l_18 => [(0, ptr pb 0), (6, ptr b 0), (8, ptr b_1 0), (11, slv l_5.1.v.q l_5.1.v.n l_5.1.v.cap), (16, .int .i64 s_3.t97), (17, .int .i64 s_4.gone17), (96, .int .i64 t24.r0), (97, .int .i64 s_3.t97), (101, .int .i64 (o_1.real11.length : Int)), (102, .int .i64 s_4.t102)]) (fun s_4 l_18 => [(pb, .cells #[.slice qa0 na0 ca0, .int .i64 s_3.b0_1, .int .u32 s_3.b0_2] 105 (0, 0)), (b_1, .cells #[slv l_2.q l_2.n l_2.cap, slv l_5.2.q l_5.2.n l_5.2.cap] 28 (0, 0)), (b, .cells #[slv none 0 0, slv none 0 0] 28 (0, 0))]) (fun s_4 l_18 => [⟨32, RwH.enc l_5.1.rs, l_5.1.v.sp, l_5.1.v.q, dbl 3 RI o_1.real11 l_5.1.rs⟩, ⟨77, RSt.enc s_3.s8_strips, l_2.sp, l_2.q, []⟩, ⟨37, RSp.enc o_1.s8_carried, l_5.2.sp, l_5.2.q, []⟩]) () (trivial) (sE rfl) (fun w hh => hh) (fun s_4 l_18 r_4 hpl hm h86 => ?_)
       unfold m_laurellaw09_Made_1_L4 at hm
       refine g_sr (g_ls rfl rfl rfl (g_nt (g_seq ?_)))
       refine g_cond rfl (fun h87 => ?_) (fun h87 => ?_)
       ·replace hm := ifD h87 hm
        refine g_skip (g_n_then (g_seq (g_block (g_sr (g_mv rfl rfl (g_as rfl rfl (g_nt ?_)))))))
        refine g_region (g_mv rfl rfl (g_mv rfl rfl (g_mv rfl rfl ?_)))
        obtain ⟨t108, h88, hm⟩ := bindO hm
        obtain ⟨L_9, h89, h90⟩ := (h30).row h88
        refine g_val rfl rfl rfl (fun w _ => v_ixA h89 (Try.runUnderlying29 w) (Try.sizeOf32 w) rfl rfl (vlen RwH h29 rfl) (vne h29)) (g_val rfl rfl rfl (fun w hh => v_ldE RwH 0 h89 (Try.isAgg32 w) rfl (hh.vseg 0 rfl h29) rfl (Nat.add_zero _).symm) (g_mv rfl rfl ?_))
        obtain ⟨t111, h91, hm⟩ := bindO hm
        refine g_val rfl rfl rfl (fun w _ => v_ixA h91 (Try.runUnderlying32 w) (Try.sizeOf3 w) rfl rfl (vlen RI h90 rfl) (vne h90)) (g_val rfl rfl rfl (fun w hh => v_ldE RI 0 h91 (Try.isAgg3 w) rfl (hh.dseg 0 rfl h88 h89 h90) rfl (Nat.add_zero _).symm) ?_)
        obtain ⟨t113, h92, hm⟩ := bindO hm
        refine g_ac h92 rfl rfl rfl (g_as rfl rfl (g_nil (g_n_blk (g_n_then (g_region ?_)))))
        obtain ⟨t114, h93, hm⟩ := bindO hm
        refine g_ac h93 rfl rfl rfl (g_mv rfl rfl (g_nil ?_))
        obtain rfl := sj hm
        refine g_n_then ?_
        exact g_again' _ () rfl (trivial) (sE rfl) (fun w hh => hh)
       ·replace hm := ifE h87 hm
        refine g_exit (g_x_then (g_x_then (g_x_blk ?_)))
        obtain rfl := sj hm
        have hbo := h86 _ rfl
        subst hbo
        exact g_leaf () (trivial) (sE rfl) (fun w hh => hh)
      ·intro l_17 hj
       replace hm := h85
       refine g_n_then (g_sr (g_mv rfl rfl ?_))
       obtain ⟨t116, h94, hm⟩ := bindO hm
       refine g_callH [_] [] rfl rfl rfl rfl rfl rfl rfl Try.call33 (fun w hh => c_laurelkit_Heap_Upto_1 b00 s_3.b0_1 s_3.b0_2 3 pb qa0 na0 ca0 w (HV.callee (S0 := [_]) (vs0 := []) hh (roC (hh.rsep 0 rfl) roN)) hna0 hqa0 hla0 h94) (fun l_19 h95 => ?_)
       refine g_se (S' := [_, _, _]) (vs' := [_, _, _]) [0, 1, 2] [0, 1, 2] 0 rfl rfl rfl rfl (g_as rfl rfl (g_nx (g_mv rfl rfl ?_)))
       obtain ⟨t118, h96, hm⟩ := bindO hm
       refine g_callH [_] [] rfl rfl rfl rfl rfl rfl rfl Try.call33 (fun w hh => c_laurelkit_Heap_Upto_1 b00 t116.h0_1 t116.h0_2 2 pb qa0 na0 ca0 w (HV.callee (S0 := [_]) (vs0 := []) hh (roC (hh.rsep 0 rfl) roN)) hna0 hqa0 hla0 h96) (fun l_20 h97 => ?_)
       refine g_se (S' := [_, _, _]) (vs' := [_, _, _]) [0, 1, 2] [0, 1, 2] 0 rfl rfl rfl rfl (g_mv rfl rfl (g_mv rfl rfl ?_))
       obtain ⟨t121, h98, hm⟩ := bindO hm
       refine g_ac h98 rfl rfl rfl (g_val rfl rfl rfl (fun _ _ => v_min rfl rfl) (g_as rfl rfl (g_nx (g_fa 0 Try.runUnderlying28 rfl Try.sizeOf25 rfl rfl (g_lc 1 Try.isAgg25 rfl rfl rfl rfl (g_mv rfl rfl ?_))))))
       obtain ⟨t126, h99, hm⟩ := bindO hm
       refine g_val rfl rfl rfl (fun w _ => v_ixA h99 (Try.runUnderlying25 w) (Try.sizeOf77 w) rfl rfl (vlen RSt h81 rfl) (vne h81)) (g_as rfl rfl (g_nt (g_region (g_mv rfl rfl (g_mv rfl rfl (g_mv rfl rfl (g_mv rfl rfl ?_)))))))
       refine g_mv rfl rfl (g_mv rfl rfl ?_)
       obtain ⟨t133, h100, hm⟩ := bindO hm
       refine g_ac h100 rfl rfl rfl (g_mv rfl rfl ?_)
       obtain ⟨t135, h101, hm⟩ := bindO hm
       refine g_val rfl rfl rfl (fun _ _ => v_subc h101 rfl rfl) ?_
       obtain ⟨t136, h102, hm⟩ := bindO hm
       refine g_callH [_] [] rfl rfl rfl rfl rfl rfl rfl Try.call35 (fun w hh => c_laurellaw09_around_1 b00 t118.h0_1 t118.h0_2 t135 1 pb qa0 na0 ca0 w (HV.callee (S0 := [_]) (vs0 := []) hh (roC (hh.rsep 0 rfl) roN)) hna0 hqa0 hla0 h102) (fun l_21 h103 => ?_)
       refine g_se (S' := [_, _, _]) (vs' := [_, _, _]) [0, 1, 2] [0, 1, 2] 0 rfl rfl rfl rfl (g_mv rfl rfl (g_mv rfl rfl ?_))
       obtain ⟨t139, h104, hm⟩ := bindO hm
       refine g_callH [_] [] rfl rfl rfl rfl rfl rfl rfl Try.call35 (fun w hh => c_laurellaw09_around_1 b00 t136.b0_1 t136.b0_2 (min t118.r0 t121) 1 pb qa0 na0 ca0 w (HV.callee (S0 := [_]) (vs0 := []) hh (roC (hh.rsep 0 rfl) roN)) hna0 hqa0 hla0 h104) (fun l_22 h105 => ?_)
       refine g_se (S' := [_, _, _]) (vs' := [_, _, _]) [0, 1, 2] [0, 1, 2] 0 rfl rfl rfl rfl (g_mv rfl rfl (g_mv rfl rfl ?_))
       obtain ⟨t142, h106, hm⟩ := bindO hm
       refine g_callH [_] [] rfl rfl rfl rfl rfl rfl rfl Try.call35 (fun w hh => c_laurellaw09_around_1 b00 t139.b0_1 t139.b0_2 t116.r0 1 pb qa0 na0 ca0 w (HV.callee (S0 := [_]) (vs0 := []) hh (roC (hh.rsep 0 rfl) roN)) hna0 hqa0 hla0 h106) (fun l_23 h107 => ?_)
       refine g_se (S' := [_, _, _]) (vs' := [_, _, _]) [0, 1, 2] [0, 1, 2] 0 rfl rfl rfl rfl (g_val rfl rfl rfl (fun _ _ => v_nilCheck rfl) (g_fa 1 Try.runUnderlying77 rfl Try.sizeOf37 rfl rfl ?_))
       obtain ⟨s8_strips, hs8_strips, hm⟩ := bindO hm
       refine g_vstP (us := #[_, _]) RSt 1 1 (⟨t126.tenant, t136.r0, t126.seeded, t126.left⟩ : Strip) (fun w => Try.sizeOf37 w) rfl rfl rfl h81 rfl rfl rfl rfl rfl rfl h99 rfl (Option.some.inj hs8_strips) (fun h108 => ?_)
       refine g_se (S' := [_, _, _]) (vs' := [_, _, _]) [0, 1, 2] [0, 1, 2] 0 rfl rfl rfl rfl (g_val rfl rfl rfl (fun _ _ => v_nilCheck rfl) (g_fa 3 Try.runUnderlying77 rfl Try.sizeOf37 rfl rfl ?_))
       obtain ⟨x, h109, hm⟩ := bindO hm
       obtain ⟨s8_strips_1, hs8_strips_1, hm⟩ := bindO hm
       refine g_vstP (us := #[_, _]) RSt 1 3 (⟨x.tenant, x.lay, t139.r0, x.left⟩ : Strip) (fun w => Try.sizeOf37 w) rfl rfl rfl h108 rfl rfl rfl rfl rfl rfl h109 rfl (Option.some.inj hs8_strips_1) (fun h110 => ?_)
       refine g_se (S' := [_, _, _]) (vs' := [_, _, _]) [0, 1, 2] [0, 1, 2] 0 rfl rfl rfl rfl (g_val rfl rfl rfl (fun _ _ => v_nilCheck rfl) (g_fa 5 Try.runUnderlying77 rfl Try.sizeOf37 rfl rfl ?_))
       obtain ⟨x_1, h111, hm⟩ := bindO hm
       obtain ⟨s8_strips_2, hs8_strips_2, hm⟩ := bindO hm
       refine g_vstP (us := #[_, _]) RSt 1 5 (⟨x_1.tenant, x_1.lay, x_1.seeded, t142.r0⟩ : Strip) (fun w => Try.sizeOf37 w) rfl rfl rfl h110 rfl rfl rfl rfl rfl rfl h111 rfl (Option.some.inj hs8_strips_2) (fun h112 => ?_)
       refine g_se (S' := [_, _, _]) (vs' := [_, _, _]) [0, 1, 2] [0, 1, 2] 0 rfl rfl rfl rfl (g_nil (g_n_blk (g_n_then (g_region ?_))))
       obtain ⟨t149, h113, hm⟩ := bindO hm
       refine g_ac h113 rfl rfl rfl (g_mv rfl rfl (g_nil ?_))
       obtain rfl := sj hm
       refine g_n_then ?_
       exact g_again' _ () rfl (h112) (sE rfl) (fun w hh => hh)
     ·replace hm := ifE h83 hm
      refine g_exit (g_x_then (g_x_then (g_x_blk ?_)))
      obtain rfl := sj hm
      have hbo := h82 _ rfl
      subst hbo
      exact g_leaf () (h81) (sE rfl) (fun w hh => hh)
    ·intro l_15 hj
     have h80 := hj
     replace hm := h79
     refine g_n_then (g_sr (g_val rfl rfl rfl (fun w hh => v_loadAgg (vs := [_, _]) (Try.isAgg28 w) (Try.sizeOf28 w) rfl (hh.cells 1 rfl rfl)) (g_mv rfl rfl (g_stSA (us := #[_, _]) (cs' := [_, _]) (S' := [_, _, _]) 2 (fun w => Try.sizeOf28 w) rfl rfl rfl rfl rfl rfl rfl (g_as rfl rfl (g_nt (g_ret ?_)))))))
     obtain rfl := sj hm
     refine g_done rfl (fun w hh => (.cell rfl (loadVar_agg (vs := [_, _]) (Try.isAgg28 _) (Try.sizeOf28 _) (hh.cells 2 rfl rfl)) (.tmp rfl .nil))) (fun w hh => ⟨(l_2, l_5.2, l_5.1), rfl, ⟨h80, h31, h29, h30⟩, hh.se [0] [1, 2, 0] 1 rfl rfl rfl rfl⟩)
end Go.Proofs.Ws

namespace Go.Proofs.Ws
set_option maxHeartbeats 4000000
set_option maxRecDepth 100000
open Go Go.Fw Go.Gx Go.Sp
set_option linter.unusedVariables false
def m_laurellaw09_gone (x0 : Strip) : Option Span :=
 (addc x0.lay.lo x0.seeded.lo).bind fun t9 =>
 (subc t9 x0.left.hi).bind fun t13 =>
 (addc x0.lay.hi x0.seeded.hi).bind fun t21 =>
 (subc t21 x0.left.lo).bind fun t25 =>
 some (⟨(max 0 t13), t25⟩ : Span)
theorem c_laurellaw09_gone (x0 : Strip)  (w : World) (hw : HV w (keys [] []) [] [] [] w)  {res : Span} (hm : m_laurellaw09_gone x0 = some res) :
    Calls Try.prog 48 #[.agg #[.int .i64 x0.tenant, .int .i64 x0.lay.lo, .int .i64 x0.lay.hi, .int .i64 x0.seeded.lo, .int .i64 x0.seeded.hi, .int .i64 x0.left.lo, .int .i64 x0.left.hi]] w (fun en w' => ∃ l : Unit, en = .returned (.agg #[.int .i64 res.lo, .int .i64 res.hi]) ∧ (True) ∧ HV w (keys [] []) [] [] [] w') := by
  unfold m_laurellaw09_gone at hm
  refine g_en Try.func48 rfl Try.ntmps48 rfl (e := [(0, _)]) rfl hw (g_sr ?_)
  refine g_boxV rfl rfl (fun b h1 => ?_)
  refine g_allocV (fun w => Try.zeroValue37 w) rfl (fun b_1 h2 => ?_)
  refine g_nx (g_fa 1 Try.runUnderlying77 rfl Try.sizeOf37 rfl rfl (g_fa 0 Try.runUnderlying37 rfl Try.sizeOf3 rfl rfl (g_lc 1 Try.isAgg3 rfl rfl rfl rfl (g_fa 3 Try.runUnderlying77 rfl Try.sizeOf37 rfl rfl (g_fa 0 Try.runUnderlying37 rfl Try.sizeOf3 rfl rfl (g_lc 1 Try.isAgg3 rfl rfl rfl rfl ?_))))))
  obtain ⟨t9, h3, hm⟩ := bindO hm
  refine g_ac h3 rfl rfl rfl (g_fa 5 Try.runUnderlying77 rfl Try.sizeOf37 rfl rfl (g_fa 1 Try.runUnderlying37 rfl Try.sizeOf3 rfl rfl (g_lc 1 Try.isAgg3 rfl rfl rfl rfl ?_)))
  obtain ⟨t13, h4, hm⟩ := bindO hm
  refine g_val rfl rfl rfl (fun _ _ => v_subc h4 rfl rfl) (g_val rfl rfl rfl (fun _ _ => v_max rfl rfl) (g_fa 1 Try.runUnderlying77 rfl Try.sizeOf37 rfl rfl (g_fa 1 Try.runUnderlying37 rfl Try.sizeOf3 rfl rfl (g_lc 1 Try.isAgg3 rfl rfl rfl rfl (g_fa 3 Try.runUnderlying77 rfl Try.sizeOf37 rfl rfl (g_fa 1 Try.runUnderlying37 rfl Try.sizeOf3 rfl rfl (g_lc 1 Try.isAgg3 rfl rfl rfl rfl ?_)))))))
  obtain ⟨t21, h5, hm⟩ := bindO hm
  refine g_ac h5 rfl rfl rfl (g_fa 5 Try.runUnderlying77 rfl Try.sizeOf37 rfl rfl (g_fa 0 Try.runUnderlying37 rfl Try.sizeOf3 rfl rfl (g_lc 1 Try.isAgg3 rfl rfl rfl rfl ?_)))
  obtain ⟨t25, h6, hm⟩ := bindO hm
  refine g_val rfl rfl rfl (fun _ _ => v_subc h6 rfl rfl) (g_val rfl rfl rfl (fun _ _ => v_build (vs := [(0, _), (1, _)]) (cells := [_, _]) rfl rfl) (g_stSA (us := #[_, _]) (cs' := [_, _]) (S' := [_, _]) 0 (fun w => Try.sizeOf37 w) rfl rfl rfl rfl rfl rfl rfl (g_nt (g_ret ?_))))
  obtain rfl := sj hm
  refine g_done rfl (fun w hh => (.cell rfl (loadVar_agg (vs := [_, _]) (Try.isAgg37 _) (Try.sizeOf37 _) (hh.cells 0 rfl rfl)) .nil)) (fun w hh => ⟨(), rfl, trivial, hh.se [] [] 0 rfl rfl rfl rfl⟩)
structure m_laurellaw09_fits_S0 where
  t26 : Int
  t23 : (List Int)
structure m_laurellaw09_fits_C1 where
  sum8 : Int
  t23 : (List Int)
structure m_laurellaw09_fits_S1 where
  sum8 : Int
  t38 : Int
  t23 : (List Int)
def m_laurellaw09_fits_L1 (t29 : (List Int)) (s0 : Scalps) (s : m_laurellaw09_fits_S0) (s_1 : m_laurellaw09_fits_S1) : Option (m_laurellaw09_fits_S1 ⊕ (m_laurellaw09_fits_C1 ⊕ Bool)) :=
 if s_1.t38 < (t29.length : Int) then
 ((ix t29 s_1.t38).bind fun t41 =>
 (if t41 < 0 then
 (some true) else
 (if 60 < t41 then
 (some true) else
 (if 0 < t41 then
 ((m_laurellaw09_reaches s0 s.t26 s_1.t38).bind fun t56 =>
 some (!t56)) else
 (some false)))).bind fun o_2 =>
 if o_2 = true then
 (some (.inr (.inr false))) else
 ((addc s_1.sum8 t41).bind fun t64 =>
 (ix s_1.t23 s_1.t38).bind fun t67 =>
 (addc t67 t41).bind fun t70 =>
 (ix s_1.t23 s_1.t38).bind fun t71 =>
 (some (s_1.t23.set (Int.toNat s_1.t38) t70)).bind fun t23_1 =>
 (addc s_1.t38 1).bind fun t72 =>
 some (.inl (⟨t64, t72, t23_1⟩ : m_laurellaw09_fits_S1)))) else
 (some (.inr (.inl (⟨s_1.sum8, s_1.t23⟩ : m_laurellaw09_fits_C1))))
def m_laurellaw09_fits_L0 (shares1 : (List (List Int))) (s0 : Scalps) (s : m_laurellaw09_fits_S0) : Option (m_laurellaw09_fits_S0 ⊕ ((List Int) ⊕ Bool)) :=
 if s.t26 < (shares1.length : Int) then
 ((ix shares1 s.t26).bind fun t29 =>
 if (t29.length : Int) = (s.t23.length : Int) then
 ((iterM FU (m_laurellaw09_fits_L1 t29 s0 s) (⟨0, 0, s.t23⟩ : m_laurellaw09_fits_S1)).bind fun o_1 =>
 oc o_1 (fun j_1 => ((ix s0.carried s.t26).bind fun t77 =>
 if j_1.sum8 < t77.lo then
 (some true) else
 ((ix s0.carried s.t26).bind fun t86 =>
 some (decide (t86.hi < j_1.sum8)))).bind fun o_3 =>
 if o_3 = true then
 (some (.inr (.inr false))) else
 ((addc s.t26 1).bind fun t91 =>
 some (.inl (⟨t91, j_1.t23⟩ : m_laurellaw09_fits_S0)))) (fun r_2 => some (.inr (.inr r_2)))) else
 (some (.inr (.inr false)))) else
 (some (.inr (.inl s.t23)))
def m_laurellaw09_fits_L2 (j : (List Int)) (s0 : Scalps) (s_2 : Int) : Option (Int ⊕ (Unit ⊕ Bool)) :=
 if s_2 < (j.length : Int) then
 ((ix j s_2).bind fun t97 =>
 (ix s0.strips s_2).bind fun t102 =>
 (m_laurellaw09_gone (⟨t102.tenant, (⟨t102.lay.lo, t102.lay.hi⟩ : Span), (⟨t102.seeded.lo, t102.seeded.hi⟩ : Span), (⟨t102.left.lo, t102.left.hi⟩ : Span)⟩ : Strip)).bind fun t104 =>
 (if t97 < t104.lo then
 (some true) else
 (some (decide (t104.hi < t97)))).bind fun o_5 =>
 if o_5 = true then
 (some (.inr (.inr false))) else
 ((addc s_2 1).bind fun t115 =>
 some (.inl t115))) else
 (some (.inr (.inl ())))
def m_laurellaw09_fits (s0 : Scalps) (shares1 : (List (List Int))) : Option Bool :=
 if (shares1.length : Int) = (s0.carried.length : Int) then
 ((makec 8 0 (s0.strips.length : Int) (s0.strips.length : Int)).bind fun t23 =>
 (iterM FU (m_laurellaw09_fits_L0 shares1 s0) (⟨0, t23⟩ : m_laurellaw09_fits_S0)).bind fun o =>
 oc o (fun j => (iterM FU (m_laurellaw09_fits_L2 j s0) 0).bind fun o_4 =>
 oc o_4 (fun j_2 => some true) (fun r_4 => some r_4)) (fun r_5 => some r_5)) else
 (some false)
theorem c_laurellaw09_fits (s0 : Scalps) (shares1 : (List (List Int))) (qa0 : Option Addr) (na0 ca0 : Nat) (qa1 : Option Addr) (na1 ca1 : Nat) (qa2 : Option Addr) (na2 ca2 : Nat) (ar2 : List AL) (w : World) (hw : HV w (keys [] []) [] [] [(aB qa0, aO qa0, RSt.enc s0.strips), (aB qa1, aO qa1, RSp.enc s0.carried), (aB qa2, aO qa2, RwA.enc ar2)] w) (hna0 : s0.strips.length = na0) (hqa0 : AOK na0 qa0) (hla0 : na0 ≤ ca0) (hna1 : s0.carried.length = na1) (hqa1 : AOK na1 qa1) (hla1 : na1 ≤ ca1) (hna2 : shares1.length = na2) (hqa2 : AOK na2 qa2) (hla2 : na2 ≤ ca2) (hda2 : DRO shares1 ar2) (hTa2 : ∀ t, t ∈ rsg RI shares1 ar2 → segOK w t ∧ (t.2.2 ≠ [] → t.1 ∉ keys [] [])) {res : Bool} (hm : m_laurellaw09_fits s0 shares1 = some res) :
    Calls Try.prog 16 #[.agg #[.slice qa0 na0 ca0, .slice qa1 na1 ca1], .slice qa2 na2 ca2] w (fun en w' => ∃ l : Unit, en = .returned (.bool res) ∧ (True) ∧ HV w (keys [] []) [] [] [] w') := by
  unfold m_laurellaw09_fits at hm
  refine g_en Try.func16 rfl Try.ntmps16 rfl (e := [(0, _), (1, _)]) rfl hw (g_sr ?_)
  refine g_boxV rfl rfl (fun b h1 => ?_)
  refine g_as rfl rfl (g_nt (g_seq (g_sr (g_mv rfl rfl (g_val rfl rfl rfl (fun w _ => v_lenR hna2 (Try.runUnderlying29 w) rfl) (g_fa 1 Try.runUnderlying28 rfl Try.sizeOf26 rfl rfl (g_lc 0 Try.isAgg26 rfl rfl rfl rfl ?_)))))))
  refine g_val rfl rfl rfl (fun w _ => v_lenR hna1 (Try.runUnderlying26 w) rfl) (g_val rfl rfl rfl (fun _ _ => v_neq rfl rfl) (g_nt ?_))
  refine g_cond rfl (fun h2 => ?_) (fun h2 => ?_)
  ·replace hm := ifF (of_ndec_true h2) hm
   refine g_sr (g_as rfl rfl (g_nt (g_ret (g_r_then ?_))))
   obtain rfl := sj hm
   refine g_done rfl (fun w hh => (.tmp rfl .nil)) (fun w hh => ⟨(), rfl, trivial, hh.se [] [] 3 rfl rfl rfl rfl⟩)
  ·replace hm := ifT (of_ndec_false h2) hm
   refine g_skip (g_n_then (g_sr (g_fa 0 Try.runUnderlying28 rfl Try.sizeOf25 rfl rfl (g_lc 0 Try.isAgg25 rfl rfl rfl rfl (g_val rfl rfl rfl (fun w _ => v_lenR hna0 (Try.runUnderlying25 w) rfl) ?_)))))
   obtain ⟨t23, h3, hm⟩ := bindO hm
   refine g_vmake RI 0 h3 Try.underlying32 gxinf3 rfl rfl rfl rfl rfl (fun L h4 => ?_)
   refine g_as rfl rfl (g_nt (g_seq (g_sr (g_mv rfl rfl (g_val rfl rfl rfl (fun w _ => v_lenR hna2 (Try.runUnderlying29 w) rfl) (g_mv rfl rfl (g_nt ?_)))))))
   obtain ⟨o, h5, h6⟩ := bindO hm
   refine g_cut (ι := (List Int)) (fun j => o = .inl j ∧ VOK 1 L.n L.cap (RI.enc j) L.sp L.q) (fun j => [(2, ptr b 0), (5, slv L.q L.n L.cap)]) (fun j => [(b, .cells #[.slice qa0 na0 ca0, .slice qa1 na1 ca1] 28 (0, 0))]) (fun j => [⟨3, RI.enc j, L.sp, L.q, []⟩]) ?_ ?_
   ·replace hm := h5
    refine g_block ?_
    refine g_loopF (ι := Unit) hm (fun s l => VOK 1 L.n L.cap (RI.enc s.t23) L.sp L.q) (fun s l => [(2, ptr b 0), (5, slv L.q L.n L.cap), (24, .slice qa2 na2 ca2), (25, .int .i64 (shares1.length : Int)), (26, .int .i64 s.t26)]) (fun s l => [(b, .cells #[.slice qa0 na0 ca0, .slice qa1 na1 ca1] 28 (0, 0))]) (fun s l => [⟨3, RI.enc s.t23, L.sp, L.q, []⟩]) () (h4) (sE rfl) (fun w hh => hh) (fun s l r hpl hm h9 => ?_)
    have h8 := hpl
    unfold m_laurellaw09_fits_L0 at hm
    refine g_sr (g_ls rfl rfl rfl (g_nt (g_seq ?_)))
    refine g_cond rfl (fun h10 => ?_) (fun h10 => ?_)
    ·replace hm := ifD h10 hm
     refine g_skip (g_n_then (g_seq (g_block (g_sr (g_mv rfl rfl ?_)))))
     obtain ⟨t29, h11, hm⟩ := bindO hm
     obtain ⟨A, h12, h13, h14, h15⟩ := (hda2).row h11
     refine g_val rfl rfl rfl (fun w _ => v_ixR h12 (Try.runUnderlying29 w) (Try.sizeOf32 w) rfl rfl (Eq.trans (hda2).len.symm hna2) hqa2) (g_val rfl rfl rfl (fun w hh => v_ldE RwA 0 h12 (Try.isAgg32 w) rfl (hh.seg 2 rfl) rfl (Nat.add_zero _).symm) (g_as rfl rfl (g_as rfl rfl (g_nt (g_seq (g_sr (g_mv rfl rfl ?_)))))))
     refine g_val rfl rfl rfl (fun w _ => v_lenR h13 (Try.runUnderlying32 w) rfl) (g_mv rfl rfl (g_val rfl rfl rfl (fun w _ => v_lenN (vlen RI h8 rfl) (Try.runUnderlying32 w) rfl) (g_val rfl rfl rfl (fun _ _ => v_neq rfl rfl) (g_nt ?_))))
     refine g_cond rfl (fun h16 => ?_) (fun h16 => ?_)
     ·replace hm := ifF (of_ndec_true h16) hm
      refine g_sr (g_as rfl rfl (g_nt (g_ret (g_r_then (g_r_blk (g_r_then (g_r_then ?_)))))))
      refine g_r_blk ?_
      obtain rfl := sj hm
      have hbo := h9 _ rfl
      subst hbo
      refine g_r_then ?_
      replace hm := ocR h6
      refine g_r_then ?_
      obtain rfl := sj hm
      refine g_done rfl (fun w hh => (.tmp rfl .nil)) (fun w hh => ⟨(), rfl, trivial, hh.se [] [] 3 rfl rfl rfl rfl⟩)
     ·replace hm := ifT (of_ndec_false h16) hm
      refine g_skip (g_n_then (g_sr (g_as rfl rfl (g_nt (g_seq (g_sr (g_mv rfl rfl ?_)))))))
      refine g_val rfl rfl rfl (fun w _ => v_lenR h13 (Try.runUnderlying32 w) rfl) (g_mv rfl rfl (g_nt ?_))
      obtain ⟨o_1, h17, h18⟩ := bindO hm
      refine g_cut (ι := m_laurellaw09_fits_C1) (fun j_1 => o_1 = .inl j_1 ∧ VOK 1 L.n L.cap (RI.enc j_1.t23) L.sp L.q) (fun j_1 => [(2, ptr b 0), (5, slv L.q L.n L.cap), (6, .int .i64 s.t26), (8, .int .i64 j_1.sum8), (24, .slice qa2 na2 ca2), (25, .int .i64 (shares1.length : Int)), (26, .int .i64 s.t26)]) (fun j_1 => [(b, .cells #[.slice qa0 na0 ca0, .slice qa1 na1 ca1] 28 (0, 0))]) (fun j_1 => [⟨3, RI.enc j_1.t23, L.sp, L.q, []⟩]) ?_ ?_
      ·replace hm := h17
       refine g_block ?_
       refine g_loopF (ι := Unit) hm (fun s_1 l_1 => VOK 1 L.n L.cap (RI.enc s_1.t23) L.sp L.q) (fun s_1 l_1 => [(2, ptr b 0), (5, slv L.q L.n L.cap), (6, .int .i64 s.t26), (8, .int .i64 s_1.sum8), (24, .slice qa2 na2 ca2), (25, .int .i64 (shares1.length : Int)), (26, .int .i64 s.t26), (36, .slice A.a A.n A.cap), (37, .int .i64 (t29.length : Int)), (38, .int .i64 s_1.t38)]) (fun s_1 l_1 => [(b, .cells #[.slice qa0 na0 ca0, .slice qa1 na1 ca1] 28 (0, 0))]) (fun s_1 l_1 => [⟨3, RI.enc s_1.t23, L.sp, L.q, []⟩]) () (h8) (sE rfl) (fun w hh => hh) (fun s_1 l_1 r_1 hpl hm h21 => ?_)
       have h20 := hpl
       unfold m_laurellaw09_fits_L1 at hm
       refine g_sr (g_ls rfl rfl rfl (g_nt (g_seq ?_)))
       refine g_cond rfl (fun h22 => ?_) (fun h22 => ?_)
       ·replace hm := ifD h22 hm
        refine g_skip (g_n_then (g_seq (g_block (g_sr (g_mv rfl rfl ?_)))))
        obtain ⟨t41, h23, hm⟩ := bindO hm
        refine g_val rfl rfl rfl (fun w _ => v_ixR h23 (Try.runUnderlying32 w) (Try.sizeOf3 w) rfl rfl h13 h14) (g_val rfl rfl rfl (fun w hh => v_ldE RI 0 h23 (Try.isAgg3 w) rfl (hh.oldseg (hTa2 _ (rsg_ix h11 h12))) rfl (Nat.add_zero _).symm) (g_as rfl rfl (g_as rfl rfl (g_nt (g_seq (g_seq ?_))))))
        obtain ⟨o_2, h24, h25⟩ := bindO hm
        refine g_cut (ι := Unit) (fun l_2 => True) (fun l_2 => [(2, ptr b 0), (5, slv L.q L.n L.cap), (6, .int .i64 s.t26), (8, .int .i64 s_1.sum8), (9, .int .i64 s_1.t38), (10, .int .i64 t41), (24, .slice qa2 na2 ca2), (25, .int .i64 (shares1.length : Int)), (26, .int .i64 s.t26), (36, .slice A.a A.n A.cap), (37, .int .i64 (t29.length : Int)), (38, .int .i64 s_1.t38), (59, .bool o_2)]) (fun l_2 => [(b, .cells #[.slice qa0 na0 ca0, .slice qa1 na1 ca1] 28 (0, 0))]) (fun l_2 => [⟨3, RI.enc s_1.t23, L.sp, L.q, []⟩]) ?_ ?_
        ·replace hm := h24
         refine g_region (g_mv rfl rfl (g_ls rfl rfl rfl (g_mv rfl rfl ?_)))
         refine g_case 45 rfl (fun h26 => ?_) (fun h26 => ?_)
         ·replace hm := ifD h26 hm
          refine g_k rfl rfl rfl rfl (g_k rfl rfl rfl rfl (g_pt rfl rfl rfl (g_mv rfl rfl (g_k rfl rfl rfl rfl (g_k rfl rfl rfl rfl (g_k rfl rfl rfl rfl ?_))))))
          refine g_skipU' rfl rfl rfl rfl rfl ?_
          refine g_skipU' rfl rfl rfl rfl rfl ?_
          refine g_skipU' rfl rfl rfl rfl rfl ?_
          refine g_skipU' rfl rfl rfl rfl rfl ?_
          refine g_skipU' rfl rfl rfl rfl rfl ?_
          refine g_k rfl rfl rfl rfl (g_pt rfl rfl rfl (g_nil ?_))
          obtain rfl := sj hm
          exact g_leaf () (trivial) (sE rfl) (fun w hh => hh)
         ·replace hm := ifE h26 hm
          refine v_unguard rfl rfl (g_mv rfl rfl (v_unguard rfl rfl (g_val rfl rfl rfl (fun _ _ => v_gtr rfl rfl) (g_pf rfl rfl rfl (g_mv rfl rfl ?_)))))
          refine g_case 49 rfl (fun h27 => ?_) (fun h27 => ?_)
          ·replace hm := ifD h27 hm
           refine g_k rfl rfl rfl rfl (g_k rfl rfl rfl rfl (g_k rfl rfl rfl rfl ?_))
           refine g_skipU' rfl rfl rfl rfl rfl ?_
           refine g_skipU' rfl rfl rfl rfl rfl ?_
           refine g_skipU' rfl rfl rfl rfl rfl ?_
           refine g_skipU' rfl rfl rfl rfl rfl ?_
           refine g_skipU' rfl rfl rfl rfl rfl ?_
           refine g_k rfl rfl rfl rfl (g_pt rfl rfl rfl (g_nil ?_))
           obtain rfl := sj hm
           exact g_leaf () (trivial) (sE rfl) (fun w hh => hh)
          ·replace hm := ifE h27 hm
           refine v_unguard rfl rfl (g_mv rfl rfl (v_unguard rfl rfl (g_val rfl rfl rfl (fun _ _ => v_gtr rfl rfl) (v_unguard rfl rfl (g_mv rfl rfl ?_)))))
           refine g_case 52 rfl (fun h28 => ?_) (fun h28 => ?_)
           ·replace hm := ifD h28 hm
            refine v_unguard rfl rfl (g_val rfl rfl rfl (fun w hh => v_loadAgg (vs := [_, _]) (Try.isAgg28 w) (Try.sizeOf28 w) rfl (hh.cells 0 rfl rfl)) (v_unguard rfl rfl (g_mv rfl rfl (v_unguard rfl rfl (g_mv rfl rfl (v_unguard rfl rfl ?_))))))
            obtain ⟨t56, h29, hm⟩ := bindO hm
            refine g_callH [] [] rfl rfl rfl rfl rfl rfl rfl Try.call43 (fun w hh => c_laurellaw09_reaches s0 s.t26 s_1.t38 qa0 na0 ca0 qa1 na1 ca1 w (HV.callee (S0 := []) (vs0 := []) hh (roC (hh.rsep 0 rfl) (roC (hh.rsep 1 rfl) roN))) hna0 hqa0 hla0 hna1 hqa1 hla1 h29) (fun l_3 h30 => ?_)
            refine v_unguard rfl rfl (g_val rfl rfl rfl (fun _ _ => v_not rfl) (v_unguard rfl rfl (g_pt rfl rfl rfl (g_pf rfl rfl rfl (g_nil ?_)))))
            obtain rfl := sj hm
            exact g_leaf () (trivial) (sE rfl) (fun w hh => hh)
           ·replace hm := ifE h28 hm
            refine g_k rfl rfl rfl rfl (g_k rfl rfl rfl rfl (g_k rfl rfl rfl rfl (g_k rfl rfl rfl rfl (g_k rfl rfl rfl rfl (v_unguard rfl rfl (g_pf rfl rfl rfl (g_pf rfl rfl rfl ?_)))))))
            refine g_nil ?_
            obtain rfl := sj hm
            exact g_leaf () (trivial) (sE rfl) (fun w hh => hh)
        ·intro l_2 hj
         replace hm := h25
         refine g_n_then ?_
         refine g_cond rfl (fun h31 => ?_) (fun h31 => ?_)
         ·replace hm := ifT (h31) hm
          refine g_sr (g_as rfl rfl (g_nt (g_ret (g_r_then (g_r_blk (g_r_then (g_r_then ?_)))))))
          refine g_r_blk ?_
          obtain rfl := sj hm
          have hbo := h21 _ rfl
          subst hbo
          refine g_r_then ?_
          replace hm := ocR h18
          refine g_r_then (g_r_blk (g_r_then (g_r_then (g_r_blk ?_))))
          obtain rfl := sj hm
          have hbo := h9 _ rfl
          subst hbo
          refine g_r_then ?_
          replace hm := ocR h6
          refine g_r_then ?_
          obtain rfl := sj hm
          refine g_done rfl (fun w hh => (.tmp rfl .nil)) (fun w hh => ⟨(), rfl, trivial, hh.se [] [] 3 rfl rfl rfl rfl⟩)
         ·replace hm := ifN h31 hm
          refine g_skip (g_n_then ?_)
          refine g_draw (some 13) (.free 0 (.free 1 (.free 2 (.free 3 (.free 4 (.free 5 (.free 6 (.free 7 (.hoist 8 (.free 9 (.free 10 (.free 11 (.free 12 (.last 13 .done)))))))))))))) _ rfl (by decide +kernel) (fun w k hh => hh.draw k) (fun w hh => hh) ?_
          refine p_free rfl rfl rfl rfl (fun _ _ => v_move rfl) (p_free rfl rfl rfl rfl (fun _ _ => v_move rfl) (p_free rfl rfl rfl rfl (fun _ _ => v_move rfl) (p_free rfl rfl rfl rfl (fun _ _ => v_move rfl) ?_)))
          obtain ⟨t64, h32, hm⟩ := bindO hm
          refine p_free rfl rfl rfl rfl (fun _ _ => v_addc h32 rfl rfl) (p_free rfl rfl rfl rfl (fun _ _ => v_move rfl) (p_free rfl rfl rfl rfl (fun _ _ => v_move rfl) ?_))
          obtain ⟨t67, h33, hm⟩ := bindO hm
          refine p_free rfl rfl rfl rfl (fun w _ => v_ixA h33 (Try.runUnderlying32 w) (Try.sizeOf3 w) rfl rfl (vlen RI h20 rfl) (vne h20)) (p_hoist rfl rfl rfl rfl (fun w hh => v_ldE RI 0 h33 (Try.isAgg3 w) rfl (hh.vseg 0 rfl h20) rfl (Nat.add_zero _).symm) (p_free rfl rfl rfl rfl (fun _ _ => v_move rfl) ?_))
          obtain ⟨t70, h34, hm⟩ := bindO hm
          refine p_free rfl rfl rfl rfl (fun _ _ => v_addc h34 rfl rfl) (p_free rfl rfl rfl rfl (fun _ _ => v_assign rfl) ?_)
          obtain ⟨t71, h35, hm⟩ := bindO hm
          refine p_free rfl rfl rfl rfl (fun w _ => v_ixA h35 (Try.runUnderlying32 w) (Try.sizeOf3 w) rfl rfl (vlen RI h20 rfl) (vne h20)) (p_last rfl ?_)
          obtain ⟨t23_1, ht23_1, hm⟩ := bindO hm
          refine g_vst RI 0 0 t70 (fun w => Try.sizeOf3 w) rfl rfl rfl rfl h20 rfl (Nat.add_zero _).symm rfl h35 rfl rfl (Option.some.inj ht23_1) (fun h36 => ?_)
          refine g_se (S' := [_]) (vs' := [_]) [0] [0] 0 rfl rfl rfl rfl (p_nextL (p_done (g_n_blk (g_n_then (g_region ?_)))))
          obtain ⟨t72, h37, hm⟩ := bindO hm
          refine g_ac h37 rfl rfl rfl (g_mv rfl rfl (g_nil ?_))
          obtain rfl := sj hm
          refine g_n_then ?_
          exact g_again' _ () rfl (h36) (sE rfl) (fun w hh => hh)
       ·replace hm := ifE h22 hm
        refine g_exit (g_x_then (g_x_then (g_x_blk ?_)))
        obtain rfl := sj hm
        have hbo := h21 _ rfl
        subst hbo
        exact g_leaf (⟨s_1.sum8, s_1.t23⟩ : m_laurellaw09_fits_C1) (⟨rfl, h20⟩) (sE rfl) (fun w hh => hh)
      ·intro j_1 hj
       obtain ⟨h38, h19⟩ := hj
       subst h38
       replace hm := ocL h18
       refine g_n_then (g_seq ?_)
       obtain ⟨o_3, h39, h40⟩ := bindO hm
       refine g_cut (ι := Unit) (fun l_4 => True) (fun l_4 => [(2, ptr b 0), (5, slv L.q L.n L.cap), (24, .slice qa2 na2 ca2), (25, .int .i64 (shares1.length : Int)), (26, .int .i64 s.t26), (90, .bool o_3)]) (fun l_4 => [(b, .cells #[.slice qa0 na0 ca0, .slice qa1 na1 ca1] 28 (0, 0))]) (fun l_4 => [⟨3, RI.enc j_1.t23, L.sp, L.q, []⟩]) ?_ ?_
       ·replace hm := h39
        refine g_region (g_mv rfl rfl (g_fa 1 Try.runUnderlying28 rfl Try.sizeOf26 rfl rfl (g_lc 0 Try.isAgg26 rfl rfl rfl rfl (g_mv rfl rfl ?_))))
        obtain ⟨t77, h41, hm⟩ := bindO hm
        refine g_val rfl rfl rfl (fun w _ => v_ixR h41 (Try.runUnderlying26 w) (Try.sizeOf37 w) rfl rfl hna1 hqa1) (g_fa 0 Try.runUnderlying37 rfl Try.sizeOf3 rfl rfl (g_val rfl rfl rfl (fun w hh => v_ldE RSp 0 h41 (Try.isAgg3 w) rfl (hh.seg 1 rfl) rfl rfl) (g_ls rfl rfl rfl (g_mv rfl rfl ?_))))
        refine g_case 81 rfl (fun h42 => ?_) (fun h42 => ?_)
        ·replace hm := ifD h42 hm
         refine g_k rfl rfl rfl rfl (g_k rfl rfl rfl rfl (g_k rfl rfl rfl rfl (g_k rfl rfl rfl rfl (g_k rfl rfl rfl rfl (g_k rfl rfl rfl rfl (g_k rfl rfl rfl rfl (g_k rfl rfl rfl rfl ?_)))))))
         refine g_pt rfl rfl rfl (g_nil ?_)
         obtain rfl := sj hm
         exact g_leaf () (trivial) (sE rfl) (fun w hh => hh)
        ·replace hm := ifE h42 hm
         refine v_unguard rfl rfl (g_mv rfl rfl (v_unguard rfl rfl (g_fa 1 Try.runUnderlying28 rfl Try.sizeOf26 rfl rfl (v_unguard rfl rfl (g_lc 0 Try.isAgg26 rfl rfl rfl rfl (v_unguard rfl rfl (g_mv rfl rfl ?_)))))))
         refine v_unguard rfl rfl ?_
         obtain ⟨t86, h43, hm⟩ := bindO hm
         refine g_val rfl rfl rfl (fun w _ => v_ixR h43 (Try.runUnderlying26 w) (Try.sizeOf37 w) rfl rfl hna1 hqa1) (v_unguard rfl rfl (g_fa 1 Try.runUnderlying37 rfl Try.sizeOf3 rfl rfl (v_unguard rfl rfl (g_val rfl rfl rfl (fun w hh => v_ldE RSp 1 h43 (Try.isAgg3 w) rfl (hh.seg 1 rfl) rfl rfl) (v_unguard rfl rfl (g_val rfl rfl rfl (fun _ _ => v_gtr rfl rfl) (g_pf rfl rfl rfl ?_)))))))
         refine g_nil ?_
         obtain rfl := sj hm
         exact g_leaf () (trivial) (sE rfl) (fun w hh => hh)
       ·intro l_4 hj
        replace hm := h40
        refine g_n_then ?_
        refine g_cond rfl (fun h44 => ?_) (fun h44 => ?_)
        ·replace hm := ifT (h44) hm
         refine g_sr (g_as rfl rfl (g_nt (g_ret (g_r_blk (g_r_then (g_r_then (g_r_blk ?_)))))))
         obtain rfl := sj hm
         have hbo := h9 _ rfl
         subst hbo
         refine g_r_then ?_
         replace hm := ocR h6
         refine g_r_then ?_
         obtain rfl := sj hm
         refine g_done rfl (fun w hh => (.tmp rfl .nil)) (fun w hh => ⟨(), rfl, trivial, hh.se [] [] 3 rfl rfl rfl rfl⟩)
        ·replace hm := ifN h44 hm
         refine g_skip (g_n_blk (g_n_then (g_region ?_)))
         obtain ⟨t91, h45, hm⟩ := bindO hm
         refine g_ac h45 rfl rfl rfl (g_mv rfl rfl (g_nil ?_))
         obtain rfl := sj hm
         refine g_n_then ?_
         exact g_again' _ () rfl (h19) (sE rfl) (fun w hh => hh)
    ·replace hm := ifE h10 hm
     refine g_exit (g_x_then (g_x_then (g_x_blk ?_)))
     obtain rfl := sj hm
     have hbo := h9 _ rfl
     subst hbo
     exact g_leaf s.t23 (⟨rfl, h8⟩) (sE rfl) (fun w hh => hh)
   ·intro j hj
    obtain ⟨h46, h7⟩ := hj
    subst h46
    replace hm := ocL h6
    refine g_n_then (g_seq (g_sr (g_mv rfl rfl (g_val rfl rfl rfl (fun w _ => v_lenN (vlen RI h7 rfl) (Try.runUnderlying32 w) rfl) (g_mv rfl rfl (g_nt ?_))))))
    obtain ⟨o_4, h47, h48⟩ := bindO hm
    refine g_cut (ι := Unit) (fun j_2 => o_4 = .inl j_2) (fun j_2 => []) (fun j_2 => [(b, .cells #[.slice qa0 na0 ca0, .slice qa1 na1 ca1] 28 (0, 0))]) (fun j_2 => []) ?_ ?_
    ·replace hm := h47
     refine g_block ?_
     refine g_loopF (ι := Unit) hm (fun s_2 l_5 => True) (fun s_2 l_5 => [(2, ptr b 0), (92, slv L.q L.n L.cap), (93, .int .i64 (j.length : Int)), (94, .int .i64 s_2)]) (fun s_2 l_5 => [(b, .cells #[.slice qa0 na0 ca0, .slice qa1 na1 ca1] 28 (0, 0))]) (fun s_2 l_5 => [⟨3, RI.enc j, L.sp, L.q, []⟩]) () (trivial) (sE rfl) (fun w hh => hh) (fun s_2 l_5 r_3 hpl hm h49 => ?_)
     unfold m_laurellaw09_fits_L2 at hm
     refine g_sr (g_ls rfl rfl rfl (g_nt (g_seq ?_)))
     refine g_cond rfl (fun h50 => ?_) (fun h50 => ?_)
     ·replace hm := ifD h50 hm
      refine g_skip (g_n_then (g_seq (g_block (g_sr (g_mv rfl rfl ?_)))))
      obtain ⟨t97, h51, hm⟩ := bindO hm
      refine g_val rfl rfl rfl (fun w _ => v_ixA h51 (Try.runUnderlying32 w) (Try.sizeOf3 w) rfl rfl (vlen RI h7 rfl) (vne h7)) (g_val rfl rfl rfl (fun w hh => v_ldE RI 0 h51 (Try.isAgg3 w) rfl (hh.vseg 0 rfl h7) rfl (Nat.add_zero _).symm) (g_as rfl rfl (g_as rfl rfl (g_nx (g_fa 0 Try.runUnderlying28 rfl Try.sizeOf25 rfl rfl (g_lc 0 Try.isAgg25 rfl rfl rfl rfl (g_mv rfl rfl ?_)))))))
      obtain ⟨t102, h52, hm⟩ := bindO hm
      refine g_val rfl rfl rfl (fun w _ => v_ixR h52 (Try.runUnderlying25 w) (Try.sizeOf77 w) rfl rfl hna0 hqa0) ?_
      refine g_val rfl rfl rfl (fun w hh => v_ldEA RSt 0 [.int .i64 t102.tenant, .int .i64 t102.lay.lo, .int .i64 t102.lay.hi, .int .i64 t102.seeded.lo, .int .i64 t102.seeded.hi, .int .i64 t102.left.lo, .int .i64 t102.left.hi] h52 (Try.isAgg77 w) (Try.sizeOf77 w) rfl (hh.seg 0 rfl) rfl (Nat.add_zero _).symm) ?_
      obtain ⟨t104, h53, hm⟩ := bindO hm
      refine g_callH [] [] rfl rfl rfl rfl rfl rfl rfl Try.call48 (fun w hh => c_laurellaw09_gone (⟨t102.tenant, (⟨t102.lay.lo, t102.lay.hi⟩ : Span), (⟨t102.seeded.lo, t102.seeded.hi⟩ : Span), (⟨t102.left.lo, t102.left.hi⟩ : Span)⟩ : Strip) w (HV.callee (S0 := []) (vs0 := []) hh roN)  h53) (fun l_6 h54 => ?_)
      refine g_allocV (fun w => Try.zeroValue37 w) rfl (fun b_1 h55 => ?_)
      refine g_stSA (us := #[_, _]) (cs' := [_, _]) (S' := [_, _]) 0 (fun w => Try.sizeOf37 w) rfl rfl rfl rfl rfl rfl rfl (g_nt (g_seq ?_))
      obtain ⟨o_5, h56, h57⟩ := bindO hm
      refine g_cut (ι := Unit) (fun l_7 => True) (fun l_7 => [(2, ptr b 0), (92, slv L.q L.n L.cap), (93, .int .i64 (j.length : Int)), (94, .int .i64 s_2), (114, .bool o_5)]) (fun l_7 => [(b_1, .cells #[.int .i64 t104.lo, .int .i64 t104.hi] 37 (0, 0)), (b, .cells #[.slice qa0 na0 ca0, .slice qa1 na1 ca1] 28 (0, 0))]) (fun l_7 => [⟨3, RI.enc j, L.sp, L.q, []⟩]) ?_ ?_
      ·replace hm := h56
       refine g_region (g_mv rfl rfl (g_fa 0 Try.runUnderlying37 rfl Try.sizeOf3 rfl rfl (g_lc 0 Try.isAgg3 rfl rfl rfl rfl (g_ls rfl rfl rfl (g_mv rfl rfl ?_)))))
       refine g_case 109 rfl (fun h58 => ?_) (fun h58 => ?_)
       ·replace hm := ifD h58 hm
        refine g_k rfl rfl rfl rfl (g_k rfl rfl rfl rfl (g_k rfl rfl rfl rfl (g_k rfl rfl rfl rfl (g_pt rfl rfl rfl (g_nil ?_)))))
        obtain rfl := sj hm
        exact g_leaf () (trivial) (sE rfl) (fun w hh => hh)
       ·replace hm := ifE h58 hm
        refine v_unguard rfl rfl (g_mv rfl rfl (v_unguard rfl rfl (g_fa 1 Try.runUnderlying37 rfl Try.sizeOf3 rfl rfl (v_unguard rfl rfl (g_lc 0 Try.isAgg3 rfl rfl rfl rfl (v_unguard rfl rfl (g_val rfl rfl rfl (fun _ _ => v_gtr rfl rfl) ?_)))))))
        refine g_pf rfl rfl rfl (g_nil ?_)
        obtain rfl := sj hm
        exact g_leaf () (trivial) (sE rfl) (fun w hh => hh)
      ·intro l_7 hj
       replace hm := h57
       refine g_n_then ?_
       refine g_cond rfl (fun h59 => ?_) (fun h59 => ?_)
       ·replace hm := ifT (h59) hm
        refine g_sr (g_as rfl rfl (g_nt (g_ret (g_r_blk (g_r_then (g_r_then (g_r_blk ?_)))))))
        obtain rfl := sj hm
        have hbo := h49 _ rfl
        subst hbo
        refine g_r_then ?_
        replace hm := ocR h48
        refine g_r_then ?_
        obtain rfl := sj hm
        refine g_done rfl (fun w hh => (.tmp rfl .nil)) (fun w hh => ⟨(), rfl, trivial, hh.se [] [] 3 rfl rfl rfl rfl⟩)
       ·replace hm := ifN h59 hm
        refine g_skip (g_n_blk (g_n_then (g_region ?_)))
        obtain ⟨t115, h60, hm⟩ := bindO hm
        refine g_ac h60 rfl rfl rfl (g_mv rfl rfl (g_nil ?_))
        obtain rfl := sj hm
        refine g_n_then ?_
        exact g_again' _ () rfl (trivial) (sE rfl) (fun w hh => hh.se [1] [0] 0 rfl rfl rfl rfl)
     ·replace hm := ifE h50 hm
      refine g_exit (g_x_then (g_x_then (g_x_blk ?_)))
      obtain rfl := sj hm
      have hbo := h49 _ rfl
      subst hbo
      exact g_leaf () (rfl) (.nil) (fun w hh => hh.se [0] [] 0 rfl rfl rfl rfl)
    ·intro j_2 hj
     have h61 := hj
     subst h61
     replace hm := ocL h48
     refine g_n_then (g_sr (g_as rfl rfl (g_nt (g_ret ?_))))
     obtain rfl := sj hm
     refine g_done rfl (fun w hh => (.tmp rfl .nil)) (fun w hh => ⟨(), rfl, trivial, hh.se [] [] 3 rfl rfl rfl rfl⟩)
def m_strip_some_4 (holds0_c0 : Int) (holds0_c1 : Int) : Option Unit :=
 some ()
theorem c_strip_some_4 (holds0_c0 : Int) (holds0_c1 : Int) (rb : Nat) (rb_1 : Nat) (w : World) (hw : HV w (keys [] []) [] [] [(rb, 0, [.int .i64 holds0_c0]), (rb_1, 0, [.int .i64 holds0_c1])] w)   {res : Unit} (hm : m_strip_some_4 holds0_c0 holds0_c1 = some res) :
    Calls Try.prog 73 #[.func (.func 74) #[] #[ptr rb 0, ptr rb_1 0]] w (fun en w' => ∃ l : Nat, en = .returned (.agg #[.func (.func 122) #[] #[ptr l 0]]) ∧ (True) ∧ HV w (keys [] []) [(l, .cells #[.func (.func 74) #[] #[ptr rb 0, ptr rb_1 0]] 131 (0, 0))] [] [] w') := by
  unfold m_strip_some_4 at hm
  refine g_en Try.func73 rfl Try.ntmps73 rfl (e := [(0, _)]) rfl hw (g_sr ?_)
  refine g_boxV rfl rfl (fun b h1 => ?_)
  refine g_allocV (fun w => Try.zeroValue123 w) rfl (fun b_1 h2 => ?_)
  refine g_nx (g_val rfl rfl rfl (fun _ _ => v_makeFunc (u := #[]) (u' := #[_]) rfl rfl) (g_val rfl rfl rfl (fun _ _ => v_build (vs := [(0, _)]) (cells := [_]) rfl rfl) (g_stSA (us := #[_]) (cs' := [_]) (S' := [_, _]) 0 (fun w => Try.sizeOf123 w) rfl rfl rfl rfl rfl rfl rfl (g_nt (g_ret ?_)))))
  obtain rfl := sj hm
  refine g_done rfl (fun w hh => (.cell rfl (loadVar_agg (vs := [_]) (Try.isAgg123 _) (Try.sizeOf123 _) (hh.cells 0 rfl rfl)) .nil)) (fun w hh => ⟨b, rfl, trivial, hh.se [1] [] 2 rfl rfl rfl rfl⟩)
def m_strip_Taken_1 (p0 : Pair) (a11 : Int) (a22 : Int) : Option Bool :=
 some (decide (p0 = (⟨a11, a22⟩ : Pair)))
theorem c_strip_Taken_1 (p0 : Pair) (a11 : Int) (a22 : Int) (rb : Nat) (rb_1 : Nat) (w : World) (hw : HV w (keys [] []) [] [] [(rb, 0, [.int .i64 a11]), (rb_1, 0, [.int .i64 a22])] w)   {res : Bool} (hm : m_strip_Taken_1 p0 a11 a22 = some res) :
    Calls Try.prog 74 #[.agg #[.int .i64 p0.tenant, .int .i64 p0.strip], ptr rb 0, ptr rb_1 0] w (fun en w' => ∃ l : Unit, en = .returned (.bool res) ∧ (True) ∧ HV w (keys [] []) [] [] [] w') := by
  unfold m_strip_Taken_1 at hm
  refine g_en Try.func74 rfl Try.ntmps74 rfl (e := [(0, _), (1, _), (2, _)]) rfl hw (g_sr ?_)
  refine g_boxV rfl rfl (fun b h1 => ?_)
  refine g_as rfl rfl (g_nx (g_val rfl rfl rfl (fun w hh => v_loadAgg (vs := [_, _]) (Try.isAgg128 w) (Try.sizeOf128 w) rfl (hh.cells 0 rfl rfl)) (g_val rfl rfl rfl (fun w hh => v_load (Try.isAgg3 w) rfl (segCell (hh.seg 0 rfl) 0 rfl)) (g_val rfl rfl rfl (fun w hh => v_load (Try.isAgg3 w) rfl (segCell (hh.seg 1 rfl) 0 rfl)) (g_val rfl rfl rfl (fun _ _ => v_build (vs := [(0, _), (1, _)]) (cells := [_, _]) rfl rfl) (g_val rfl rfl rfl (fun w _ => v_eqlAgg (gxeq128 p0 (⟨a11, a22⟩ : Pair) w) gxeqg128 rfl rfl) (g_as rfl rfl ?_)))))))
  refine g_nt (g_ret ?_)
  obtain rfl := sj hm
  refine g_done rfl (fun w hh => (.tmp rfl .nil)) (fun w hh => ⟨(), rfl, trivial, hh.se [] [] 2 rfl rfl rfl rfl⟩)
def m_strip_some_1_3 (p0 : Pair) (a11_c0 : Int) (a11_c1 : Int) : Option Int :=
 (m_strip_Taken_1 p0 a11_c0 a11_c1).bind fun t6 =>
 if t6 = true then
 (some 1) else
 (some 0)
theorem c_strip_some_1_3 (p0 : Pair) (a11_c0 : Int) (a11_c1 : Int) (rb : Nat) (rb_1 : Nat) (rb_2 : Nat) (w : World) (hw : HV w (keys [] []) [] [] [(rb, 0, [.func (.func 74) #[] #[ptr rb_1 0, ptr rb_2 0]]), (rb_1, 0, [.int .i64 a11_c0]), (rb_2, 0, [.int .i64 a11_c1])] w)    {res : Int} (hm : m_strip_some_1_3 p0 a11_c0 a11_c1 = some res) :
    Calls Try.prog 122 #[.agg #[.int .i64 p0.tenant, .int .i64 p0.strip], ptr rb 0] w (fun en w' => ∃ l : Unit, en = .returned (.int .i64 res) ∧ (True) ∧ HV w (keys [] []) [] [] [] w') := by
  unfold m_strip_some_1_3 at hm
  refine g_en Try.func122 rfl Try.ntmps122 rfl (e := [(0, _), (1, _)]) rfl hw (g_sr ?_)
  refine g_boxV rfl rfl (fun b h1 => ?_)
  refine g_as rfl rfl (g_nt (g_seq (g_sr (g_val rfl rfl rfl (fun w hh => v_load (Try.isAgg131 w) rfl (segCell (hh.seg 0 rfl) 0 rfl)) (g_val rfl rfl rfl (fun w hh => v_loadAgg (vs := [_, _]) (Try.isAgg128 w) (Try.sizeOf128 w) rfl (hh.cells 0 rfl rfl)) ?_)))))
  obtain ⟨t6, h2, hm⟩ := bindO hm
  refine g_callH [] [] rfl rfl rfl rfl rfl rfl rfl Try.call74 (fun w hh => c_strip_Taken_1 p0 a11_c0 a11_c1 rb_1 rb_2 w (HV.callee (S0 := []) (vs0 := []) hh (roC (hh.rsep 1 rfl) (roC (hh.rsep 2 rfl) roN)))  h2) (fun l h3 => ?_)
  refine g_nt ?_
  refine g_cond rfl (fun h4 => ?_) (fun h4 => ?_)
  ·replace hm := ifT (h4) hm
   refine g_sr (g_as rfl rfl (g_nt (g_ret (g_r_then ?_))))
   obtain rfl := sj hm
   refine g_done rfl (fun w hh => (.tmp rfl .nil)) (fun w hh => ⟨(), rfl, trivial, hh.se [] [] 3 rfl rfl rfl rfl⟩)
  ·replace hm := ifN h4 hm
   refine g_skip (g_n_then (g_sr (g_as rfl rfl (g_nt (g_ret ?_)))))
   obtain rfl := sj hm
   refine g_done rfl (fun w hh => (.tmp rfl .nil)) (fun w hh => ⟨(), rfl, trivial, hh.se [] [] 3 rfl rfl rfl rfl⟩)
structure m_strip_Taken_R where
  r0 : Span
  r1 : Int
def m_strip_Taken (s0 : Scalps) (tenant1 : Int) (strip2 : Int) : Option m_strip_Taken_R :=
 (m_strip_opened s0).bind fun t12 =>
 oc t12 (fun t12a => some (⟨(⟨0, 0⟩ : Span), t12a⟩ : m_strip_Taken_R)) (fun t12b => ((m_strip_Scalps_tenant s0 tenant1).bind fun t23 =>
 if (!t23) = true then
 (some true) else
 ((m_strip_Scalps_strip s0 strip2).bind fun t28 =>
 some (!t28))).bind fun o =>
 if o = true then
 (some (⟨(⟨0, 0⟩ : Span), 1⟩ : m_strip_Taken_R)) else
 ((m_strip_some_4 tenant1 strip2).bind fun t34 =>
 (m_strip_desk_spread_1 s0.strips s0.carried t12b (fun p_1 : Pair => m_strip_some_1_3 p_1 tenant1 strip2)).bind fun t35 =>
 some (⟨t35.r0, t35.r1⟩ : m_strip_Taken_R)))
theorem c_strip_Taken (s0 : Scalps) (tenant1 : Int) (strip2 : Int) (qa0 : Option Addr) (na0 ca0 : Nat) (qa1 : Option Addr) (na1 ca1 : Nat) (w : World) (hw : HV w (keys [] []) [] [] [(aB qa0, aO qa0, RSt.enc s0.strips), (aB qa1, aO qa1, RSp.enc s0.carried)] w) (hna0 : s0.strips.length = na0) (hqa0 : AOK na0 qa0) (hla0 : na0 ≤ ca0) (hna1 : s0.carried.length = na1) (hqa1 : AOK na1 qa1) (hla1 : na1 ≤ ca1) {res : m_strip_Taken_R} (hm : m_strip_Taken s0 tenant1 strip2 = some res) :
    Calls Try.prog 19 #[.agg #[.slice qa0 na0 ca0, .slice qa1 na1 ca1], .int .i64 tenant1, .int .i64 strip2] w (fun en w' => ∃ l : Unit, en = .returned (.tuple #[.agg #[.int .i64 res.r0.lo, .int .i64 res.r0.hi], .int .i64 res.r1]) ∧ (True) ∧ HV w (keys [] []) [] [] [] w') := by
  unfold m_strip_Taken at hm
  refine g_en Try.func19 rfl Try.ntmps19 rfl (e := [(0, _), (1, _), (2, _)]) rfl hw (g_sr ?_)
  refine g_boxV rfl rfl (fun b h1 => ?_)
  refine g_boxV rfl rfl (fun b_1 h2 => ?_)
  refine g_boxV rfl rfl (fun b_2 h3 => ?_)
  refine g_allocV (fun w => Try.zeroValue37 w) rfl (fun b_3 h4 => ?_)
  refine g_as rfl rfl (g_nx (g_val rfl rfl rfl (fun w hh => v_loadAgg (vs := [_, _]) (Try.isAgg28 w) (Try.sizeOf28 w) rfl (hh.cells 3 rfl rfl)) ?_))
  obtain ⟨t12, h5, hm⟩ := bindO hm
  rcases t12 with t12a | t12b
  ·replace hm := ocL hm
   refine g_callH [] [] rfl rfl rfl rfl rfl rfl rfl Try.call65 (fun w hh => c_strip_opened s0 qa0 na0 ca0 qa1 na1 ca1 w (HV.callee (S0 := []) (vs0 := []) hh (roC (hh.rsep 0 rfl) (roC (hh.rsep 1 rfl) roN))) hna0 hqa0 hla0 hna1 hqa1 hla1 h5) (fun l h6 => ?_)
   have h7 := h6
   refine g_mv rfl rfl (g_xt rfl rfl rfl (g_xt rfl rfl rfl (g_as rfl rfl (g_as rfl rfl (g_nt (g_seq (g_block ?_)))))))
   refine g_sr (g_mv rfl rfl (g_val rfl rfl rfl (fun _ _ => v_neqT h7 rfl rfl) (g_as rfl rfl (g_nt (g_condT rfl rfl (g_sr (g_val rfl rfl rfl (fun _ _ => v_build (vs := []) (cells := [_, _]) rfl rfl) ?_)))))))
   refine g_mv rfl rfl (g_stSA (us := #[_, _]) (cs' := [_, _]) (S' := [_, _, _, _]) 0 (fun w => Try.sizeOf37 w) rfl rfl rfl rfl rfl rfl rfl (g_as rfl rfl (g_nt (g_ret (g_r_blk (g_r_then ?_))))))
   obtain rfl := sj hm
   refine g_done rfl (fun w hh => (.cell rfl (loadVar_agg (vs := [_, _]) (Try.isAgg37 _) (Try.sizeOf37 _) (hh.cells 0 rfl rfl)) (.tmp rfl .nil))) (fun w hh => ⟨(), rfl, trivial, hh.se [] [] 2 rfl rfl rfl rfl⟩)
  ·replace hm := ocR hm
   refine g_callH [] [] rfl rfl rfl rfl rfl rfl rfl Try.call65 (fun w hh => c_strip_opened s0 qa0 na0 ca0 qa1 na1 ca1 w (HV.callee (S0 := []) (vs0 := []) hh (roC (hh.rsep 0 rfl) (roC (hh.rsep 1 rfl) roN))) hna0 hqa0 hla0 hna1 hqa1 hla1 h5) (fun l_1 h8 => ?_)
   refine g_se (S' := [_, _, _, _, _, _]) (vs' := []) [0, 1, 2, 3, 4, 5] [] 0 rfl rfl rfl rfl (g_mv rfl rfl (g_xt rfl rfl rfl (g_xt rfl rfl rfl (g_as rfl rfl (g_as rfl rfl (g_nt (g_seq ?_)))))))
   refine g_block (g_sr (g_mv rfl rfl (g_val rfl rfl rfl (fun _ _ => v_neq rfl rfl) (g_as rfl rfl (g_nt (g_condF rfl rfl (g_seq ?_)))))))
   obtain ⟨o, h9, h10⟩ := bindO hm
   refine g_cut (ι := Unit) (fun l_2 => True) (fun l_2 => [(4, ptr b_1 0), (5, ptr b_2 0), (6, ptr b_3 0), (8, ptr l_1.1 0), (20, .bool o)]) (fun l_2 => [(l_1.1, .cells #[.slice qa0 na0 ca0, .slice qa1 na1 ca1, .map (some l_1.2)] 163 (0, 0)), (l_1.2, gobj (kR RPr) kB t12b), (b_3, .cells #[.int .i64 0, .int .i64 0] 37 (0, 0)), (b_2, .cells #[.int .i64 strip2] 3 (0, 0)), (b_1, .cells #[.int .i64 tenant1] 3 (0, 0)), (b, .cells #[.slice qa0 na0 ca0, .slice qa1 na1 ca1] 28 (0, 0))]) (fun l_2 => []) ?_ ?_
   ·replace hm := h9
    refine g_region (g_val rfl rfl rfl (fun w hh => v_loadAgg (vs := [_, _]) (Try.isAgg28 w) (Try.sizeOf28 w) rfl (hh.cells 5 rfl rfl)) (g_lc 4 Try.isAgg3 rfl rfl rfl rfl ?_))
    obtain ⟨t23, h11, hm⟩ := bindO hm
    refine g_callH [] [] rfl rfl rfl rfl rfl rfl rfl Try.call53 (fun w hh => c_strip_Scalps_tenant s0 tenant1 qa0 na0 ca0 qa1 na1 ca1 w (HV.callee (S0 := []) (vs0 := []) hh (roC (hh.rsep 0 rfl) (roC (hh.rsep 1 rfl) roN))) hna0 hqa0 hla0 hna1 hqa1 hla1 h11) (fun l_3 h12 => ?_)
    refine g_val rfl rfl rfl (fun _ _ => v_not rfl) (g_mv rfl rfl ?_)
    refine g_case 25 rfl (fun h13 => ?_) (fun h13 => ?_)
    ·replace hm := ifT (h13) hm
     refine g_k rfl rfl rfl rfl (g_k rfl rfl rfl rfl (g_k rfl rfl rfl rfl (g_k rfl rfl rfl rfl (g_pt rfl rfl rfl (g_as rfl rfl (g_nil ?_))))))
     obtain rfl := sj hm
     exact g_leaf () (trivial) (sE rfl) (fun w hh => hh)
    ·replace hm := ifN h13 hm
     refine v_unguard rfl rfl (g_val rfl rfl rfl (fun w hh => v_loadAgg (vs := [_, _]) (Try.isAgg28 w) (Try.sizeOf28 w) rfl (hh.cells 5 rfl rfl)) (v_unguard rfl rfl (g_lc 3 Try.isAgg3 rfl rfl rfl rfl (v_unguard rfl rfl ?_))))
     obtain ⟨t28, h14, hm⟩ := bindO hm
     refine g_callH [] [] rfl rfl rfl rfl rfl rfl rfl Try.call71 (fun w hh => c_strip_Scalps_strip s0 strip2 qa0 na0 ca0 qa1 na1 ca1 w (HV.callee (S0 := []) (vs0 := []) hh (roC (hh.rsep 0 rfl) (roC (hh.rsep 1 rfl) roN))) hna0 hqa0 hla0 hna1 hqa1 hla1 h14) (fun l_4 h15 => ?_)
     refine v_unguard rfl rfl (g_val rfl rfl rfl (fun _ _ => v_not rfl) (g_pf rfl rfl rfl (g_as rfl rfl (g_nil ?_))))
     obtain rfl := sj hm
     exact g_leaf () (trivial) (sE rfl) (fun w hh => hh)
   ·intro l_2 hj
    replace hm := h10
    refine g_n_then ?_
    refine g_cond rfl (fun h16 => ?_) (fun h16 => ?_)
    ·replace hm := ifT (h16) hm
     refine g_sr (g_val rfl rfl rfl (fun _ _ => v_build (vs := []) (cells := [_, _]) rfl rfl) (g_stSA (us := #[_, _]) (cs' := [_, _]) (S' := [_, _, _, _, _, _]) 2 (fun w => Try.sizeOf37 w) rfl rfl rfl rfl rfl rfl rfl (g_as rfl rfl (g_nt (g_ret (g_r_blk (g_r_then ?_)))))))
     obtain rfl := sj hm
     refine g_done rfl (fun w hh => (.cell rfl (loadVar_agg (vs := [_, _]) (Try.isAgg37 _) (Try.sizeOf37 _) (hh.cells 2 rfl rfl)) (.tmp rfl .nil))) (fun w hh => ⟨(), rfl, trivial, hh.se [] [] 2 rfl rfl rfl rfl⟩)
    ·replace hm := ifN h16 hm
     refine g_skip (g_n_blk (g_n_then (g_sr (g_mv rfl rfl (g_val rfl rfl rfl (fun _ _ => v_makeFunc (u := #[]) (u' := #[_, _]) rfl rfl) ?_)))))
     obtain ⟨t34, h17, hm⟩ := bindO hm
     refine g_callH [] [] rfl rfl rfl rfl rfl rfl rfl Try.call73 (fun w hh => c_strip_some_4 tenant1 strip2 b_1 b_2 w (HV.callee (S0 := []) (vs0 := []) hh (roC (bsep (hh.bseg 4 rfl)) (roC (bsep (hh.bseg 3 rfl)) roN)))  h17) (fun l_5 h18 => ?_)
     refine g_se (S' := [_, _, _, _, _, _, _]) (vs' := []) [0, 1, 2, 3, 4, 5, 6] [] 0 rfl rfl rfl rfl ?_
     obtain ⟨t35, h19, hm⟩ := bindO hm
     refine g_se (S' := [_, _, _, _, _, _, _]) (vs' := []) [2, 0, 1, 3, 4, 5, 6] [] 0 rfl rfl rfl rfl ?_
     refine g_callH [_] [] rfl rfl rfl rfl rfl rfl rfl Try.call72 (fun w hh => c_strip_desk_spread_1 s0.strips s0.carried t12b (fun p_1 : Pair => m_strip_some_1_3 p_1 tenant1 strip2) l_1.1 qa0 na0 ca0 qa1 na1 ca1 l_1.2 122 (#[]) (#[ptr l_5 0]) ([(l_5, 0, [.func (.func 74) #[] #[ptr b_1 0, ptr b_2 0]]), (b_1, 0, [.int .i64 tenant1]), (b_2, 0, [.int .i64 strip2])]) w (HV.callee (S0 := [_]) (vs0 := []) hh (roA (roC (hh.bsepH 1 rfl) (roC (hh.rsep 0 rfl) (roC (hh.rsep 1 rfl) roN))) (roC (hh.bsepH 0 rfl) (roC (hh.bsepH 4 rfl) (roC (hh.bsepH 3 rfl) roN))))) hna0 hqa0 hla0 hna1 hqa1 hla1 (⟨fun a w => Try.call122 a w, (fun p_1 r hr w hT => clRet (c_strip_some_1_3 p_1 tenant1 strip2 l_5 b_1 b_2 w (HVstart hT)  hr))⟩ : ClOK Try.prog 122 #[] #[ptr l_5 0] ([(l_5, 0, [.func (.func 74) #[] #[ptr b_1 0, ptr b_2 0]]), (b_1, 0, [.int .i64 tenant1]), (b_2, 0, [.int .i64 strip2])]) (fun x : Pair => [.agg #[.int .i64 x.tenant, .int .i64 x.strip]]) (fun x : Int => .int .i64 x) (fun p_1 : Pair => m_strip_some_1_3 p_1 tenant1 strip2)) h19) (fun l_6 h20 => ?_)
     refine g_se (S' := [_, _, _, _, _, _, _]) (vs' := []) [0, 1, 2, 3, 4, 5, 6] [] 0 rfl rfl rfl rfl (g_xt rfl rfl rfl (g_xt rfl rfl rfl (g_stSA (us := #[_, _]) (cs' := [_, _]) (S' := [_, _, _, _, _, _, _]) 3 (fun w => Try.sizeOf37 w) rfl rfl rfl rfl rfl rfl rfl (g_as rfl rfl (g_nt (g_ret ?_))))))
     obtain rfl := sj hm
     refine g_done rfl (fun w hh => (.cell rfl (loadVar_agg (vs := [_, _]) (Try.isAgg37 _) (Try.sizeOf37 _) (hh.cells 3 rfl rfl)) (.tmp rfl .nil))) (fun w hh => ⟨(), rfl, trivial, hh.se [] [] 2 rfl rfl rfl rfl⟩)
end Go.Proofs.Ws

namespace Go.Proofs.Ws
set_option maxHeartbeats 4000000
set_option maxRecDepth 100000
open Go Go.Fw Go.Gx Go.Sp
set_option linter.unusedVariables false

structure m_laurellaw09_StripWeighed_S0 where
  sum11 : Int
  t51 : Int
def m_laurellaw09_StripWeighed_L0 (t48 : (List Int)) (s : m_laurellaw09_StripWeighed_S0) : Option (m_laurellaw09_StripWeighed_S0 ⊕ Int) :=
 if s.t51 < (t48.length : Int) then
 ((ix t48 s.t51).bind fun t53 =>
 (addc s.sum11 t53).bind fun t57 =>
 (addc s.t51 1).bind fun t58 =>
 some (.inl (⟨t57, t58⟩ : m_laurellaw09_StripWeighed_S0))) else
 (some (.inr s.sum11))
def m_laurellaw09_StripWeighed_L2 (t37 : m_laurellaw09_Made_1_R) (s_1 : Int) (t76 : m_strip_Weigh_R) (s_2 : Int) : Option (Int ⊕ (Unit ⊕ Bool)) :=
 if s_2 < (t37.r0.strips.length : Int) then
 ((m_strip_Taken t37.r0 s_1 s_2).bind fun t156 =>
 (m_strip_Taken t76.r0 s_1 s_2).bind fun t163 =>
 (if t156.r1 = 0 then
 (if t163.r1 = 0 then
 (if t163.r0.lo < t156.r0.lo then
 (some true) else
 (if t156.r0.hi < t163.r0.hi then
 (some true) else
 ((ix t37.r1 s_1).bind fun t189 =>
 (ix t189 s_2).bind fun t192 =>
 if t192 < t163.r0.lo then
 (some true) else
 ((ix t37.r1 s_1).bind fun t201 =>
 (ix t201 s_2).bind fun t204 =>
 some (decide (t163.r0.hi < t204)))))) else
 (some true)) else
 (some true)).bind fun o_5 =>
 if o_5 = true then
 (some (.inr (.inr false))) else
 ((addc s_2 1).bind fun t210 =>
 some (.inl t210))) else
 (some (.inr (.inl ())))
def m_laurellaw09_StripWeighed_L1 (t37 : m_laurellaw09_Made_1_R) (t76 : m_strip_Weigh_R) (s_1 : Int) : Option (Int ⊕ (Unit ⊕ Bool)) :=
 if s_1 < (t37.r0.carried.length : Int) then
 ((iterM FU (m_laurellaw09_StripWeighed_L2 t37 s_1 t76) 0).bind fun o_4 =>
 oc o_4 (fun j_1 => (addc s_1 1).bind fun t211 =>
 some (.inl t211)) (fun r_3 => some (.inr (.inr r_3)))) else
 (some (.inr (.inl ())))
def m_laurellaw09_StripWeighed (numbers0 : (List Int)) (which1 : Int) (well2 : Int) : Option Bool :=
 (m_laurelkit_Pile numbers0).bind fun t34 =>
 (m_laurellaw09_Made_1 numbers0 t34.t5_1 t34.t5_2 5 4).bind fun t37 =>
 (remc (IntKind.i64.wrap which1) (t37.r0.carried.length : Int)).bind fun t45 =>
 (ix t37.r1 t45).bind fun t48 =>
 (iterM FU (m_laurellaw09_StripWeighed_L0 t48) (⟨0, 0⟩ : m_laurellaw09_StripWeighed_S0)).bind fun o =>
 (remc (IntKind.i64.wrap well2) 2).bind fun t65 =>
 (subc o t65).bind fun t66 =>
 (quoc (IntKind.i64.wrap well2) 2).bind fun t71 =>
 (remc t71 2).bind fun t72 =>
 (addc o t72).bind fun t73 =>
 (m_strip_Weigh t37.r0 t45 (⟨(max 0 t66), (min 30 t73)⟩ : Span)).bind fun t76 =>
 (if t76.r1 = 0 then
 ((m_strip_Check t76.r0).bind fun t83 =>
 if t83 = 0 then
 ((m_laurellaw09_fits t76.r0 t37.r1).bind fun t89 =>
 some (!t89)) else
 (some true)) else
 (some true)).bind fun o_1 =>
 if o_1 = true then
 (some false) else
 ((m_strip_Least t37.r0).bind fun t94 =>
 (m_strip_Least t76.r0).bind fun t100 =>
 (m_strip_Most t37.r0).bind fun t106 =>
 (m_strip_Most t76.r0).bind fun t112 =>
 (if t94.r2 = 0 then
 (if t100.r2 = 0 then
 (if t106.r2 = 0 then
 (if t112.r2 = 0 then
 (if t100.r1 < t94.r1 then
 (some true) else
 (some (decide (t106.r1 < t112.r1)))) else
 (some true)) else
 (some true)) else
 (some true)) else
 (some true)).bind fun o_2 =>
 if o_2 = true then
 (some false) else
 ((iterM FU (m_laurellaw09_StripWeighed_L1 t37 t76) 0).bind fun o_3 =>
 oc o_3 (fun j => (m_laurellaw09_awake).bind fun t212 =>
 some t212) (fun r_4 => some r_4)))
theorem c_laurellaw09_StripWeighed (numbers0 : (List Int)) (which1 : Int) (well2 : Int) (qa0 : Option Addr) (na0 ca0 : Nat) (w : World) (hw : HV w (keys [] []) [] [] [(aB qa0, aO qa0, RU8.enc numbers0)] w) (hna0 : numbers0.length = na0) (hqa0 : AOK na0 qa0) (hla0 : na0 ≤ ca0) {res : Bool} (hm : m_laurellaw09_StripWeighed numbers0 which1 well2 = some res) :
    Calls Try.prog 3 #[.slice qa0 na0 ca0, .int .u8 which1, .int .u8 well2] w (fun en w' => ∃ l : Unit, en = .returned (.bool res) ∧ (True) ∧ HV w (keys [] []) [] [] [] w') := by
  unfold m_laurellaw09_StripWeighed at hm
  refine g_en Try.func3 rfl Try.ntmps3 rfl (e := [(0, _), (1, _), (2, _)]) rfl hw (g_sr (g_as rfl rfl (g_nx (g_mv rfl rfl ?_))))
  obtain ⟨t34, h1, hm⟩ := bindO hm
  refine g_callH [] [] rfl rfl rfl rfl rfl rfl rfl Try.call12 (fun w hh => c_laurelkit_Pile numbers0 qa0 na0 ca0 w (HV.callee (S0 := []) (vs0 := []) hh (roC (hh.rsep 0 rfl) roN)) hna0 hqa0 hla0 h1) (fun l h2 => ?_)
  refine g_se (S' := [_]) (vs' := []) [0] [] 0 rfl rfl rfl rfl (g_as rfl rfl (g_nx (g_mv rfl rfl ?_)))
  obtain ⟨t37, h3, hm⟩ := bindO hm
  refine g_callH [_] [] rfl rfl rfl rfl rfl rfl rfl Try.call13 (fun w hh => c_laurellaw09_Made_1 numbers0 t34.t5_1 t34.t5_2 5 4 l qa0 na0 ca0 w (HV.callee (S0 := [_]) (vs0 := []) hh (roC (hh.rsep 0 rfl) roN)) hna0 hqa0 hla0 h3) (fun l_1 h4 => ?_)
  obtain ⟨h5, h6, h7, h8⟩ := h4
  refine g_se (S' := [_]) (vs' := [_, _, _]) [0] [0, 1, 2] 0 rfl rfl rfl rfl (g_mv rfl rfl (g_xt rfl rfl rfl (g_xt rfl rfl rfl ?_)))
  refine g_allocV (fun w => Try.zeroValue28 w) rfl (fun b h9 => ?_)
  refine g_stSA (us := #[_, _]) (cs' := [_, _]) (S' := [_, _]) 0 (fun w => Try.sizeOf28 w) rfl rfl rfl rfl rfl rfl rfl (g_as rfl rfl (g_nx (g_mv rfl rfl (g_val rfl rfl rfl (fun w _ => v_conv (Try.runUnderlying5 w) (Try.runUnderlying3 w) rfl) (g_fa 1 Try.runUnderlying28 rfl Try.sizeOf26 rfl rfl (g_lc 0 Try.isAgg26 rfl rfl rfl rfl (g_val rfl rfl rfl (fun w _ => v_lenN (vlen RSp h6 rfl) (Try.runUnderlying26 w) rfl) ?_)))))))
  obtain ⟨t45, h10, hm⟩ := bindO hm
  refine g_val rfl rfl rfl (fun _ _ => v_remc h10 rfl rfl) (g_as rfl rfl (g_nx (g_as rfl rfl (g_nt (g_seq (g_sr (g_mv rfl rfl ?_)))))))
  refine g_mv rfl rfl ?_
  obtain ⟨t48, h11, hm⟩ := bindO hm
  obtain ⟨L, h12, h13⟩ := (h8).row h11
  refine g_val rfl rfl rfl (fun w _ => v_ixA h12 (Try.runUnderlying29 w) (Try.sizeOf32 w) rfl rfl (vlen RwH h7 rfl) (vne h7)) (g_val rfl rfl rfl (fun w hh => v_ldE RwH 0 h12 (Try.isAgg32 w) rfl (hh.vseg 2 rfl h7) rfl (Nat.add_zero _).symm) (g_val rfl rfl rfl (fun w _ => v_lenN (vlen RI h13 rfl) (Try.runUnderlying32 w) rfl) (g_mv rfl rfl (g_nt ?_))))
  obtain ⟨o, h14, h15⟩ := bindO hm
  refine g_cut (ι := Unit) (fun l_2 => True) (fun l_2 => [(2, .int .u8 well2), (8, ptr b 0), (9, slv l_1.2.2.v.q l_1.2.2.v.n l_1.2.2.v.cap), (10, .int .i64 t45), (11, .int .i64 o)]) (fun l_2 => [(b, .cells #[slv l_1.1.q l_1.1.n l_1.1.cap, slv l_1.2.1.q l_1.2.1.n l_1.2.1.cap] 28 (0, 0)), (l, .cells #[.slice qa0 na0 ca0, .int .i64 t37.b0_1, .int .u32 t37.b0_2] 105 (0, 0))]) (fun l_2 => [⟨32, RwH.enc l_1.2.2.rs, l_1.2.2.v.sp, l_1.2.2.v.q, dbl 3 RI t37.r1 l_1.2.2.rs⟩, ⟨77, RSt.enc t37.r0.strips, l_1.1.sp, l_1.1.q, []⟩, ⟨37, RSp.enc t37.r0.carried, l_1.2.1.sp, l_1.2.1.q, []⟩]) ?_ ?_
  ·replace hm := h14
   refine g_block ?_
   refine g_loopF (ι := Unit) hm (fun s l_3 => True) (fun s l_3 => [(2, .int .u8 well2), (8, ptr b 0), (9, slv l_1.2.2.v.q l_1.2.2.v.n l_1.2.2.v.cap), (10, .int .i64 t45), (11, .int .i64 s.sum11), (49, slv L.q L.n L.cap), (50, .int .i64 (t48.length : Int)), (51, .int .i64 s.t51)]) (fun s l_3 => [(b, .cells #[slv l_1.1.q l_1.1.n l_1.1.cap, slv l_1.2.1.q l_1.2.1.n l_1.2.1.cap] 28 (0, 0)), (l, .cells #[.slice qa0 na0 ca0, .int .i64 t37.b0_1, .int .u32 t37.b0_2] 105 (0, 0))]) (fun s l_3 => [⟨32, RwH.enc l_1.2.2.rs, l_1.2.2.v.sp, l_1.2.2.v.q, dbl 3 RI t37.r1 l_1.2.2.rs⟩, ⟨77, RSt.enc t37.r0.strips, l_1.1.sp, l_1.1.q, []⟩, ⟨37, RSp.enc t37.r0.carried, l_1.2.1.sp, l_1.2.1.q, []⟩]) () (trivial) (sE rfl) (fun w hh => hh.se [0, 1] [2, 0, 1] 0 rfl rfl rfl rfl) (fun s l_3 r hpl hm h16 => ?_)
   unfold m_laurellaw09_StripWeighed_L0 at hm
   refine g_sr (g_ls rfl rfl rfl (g_nt (g_seq ?_)))
   refine g_cond rfl (fun h17 => ?_) (fun h17 => ?_)
   ·replace hm := ifD h17 hm
    refine g_skip (g_n_then (g_seq (g_block (g_sr ?_))))
    obtain ⟨t53, h18, hm⟩ := bindO hm
    refine g_val rfl rfl rfl (fun w _ => v_ixA h18 (Try.runUnderlying32 w) (Try.sizeOf3 w) rfl rfl (vlen RI h13 rfl) (vne h13)) (g_val rfl rfl rfl (fun w hh => v_ldE RI 0 h18 (Try.isAgg3 w) rfl (hh.dseg 0 rfl h11 h12 h13) rfl (Nat.add_zero _).symm) (g_as rfl rfl (g_nt (g_region (g_mv rfl rfl (g_mv rfl rfl ?_))))))
    obtain ⟨t57, h19, hm⟩ := bindO hm
    refine g_ac h19 rfl rfl rfl (g_as rfl rfl (g_nil (g_n_blk (g_n_then (g_region ?_)))))
    obtain ⟨t58, h20, hm⟩ := bindO hm
    refine g_ac h20 rfl rfl rfl (g_mv rfl rfl (g_nil ?_))
    obtain rfl := sj hm
    refine g_n_then ?_
    exact g_again' _ () rfl (trivial) (sE rfl) (fun w hh => hh)
   ·replace hm := ifE h17 hm
    refine g_exit (g_x_then (g_x_then (g_x_blk ?_)))
    obtain rfl := sj hm
    have hbo := h16 _ rfl
    subst hbo
    exact g_leaf () (trivial) (sE rfl) (fun w hh => hh)
  ·intro l_2 hj
   replace hm := h15
   refine g_n_then (g_sr (g_val rfl rfl rfl (fun w hh => v_loadAgg (vs := [_, _]) (Try.isAgg28 w) (Try.sizeOf28 w) rfl (hh.cells 0 rfl rfl)) (g_mv rfl rfl (g_mv rfl rfl (g_mv rfl rfl (g_val rfl rfl rfl (fun w _ => v_conv (Try.runUnderlying5 w) (Try.runUnderlying3 w) rfl) ?_))))))
   obtain ⟨t65, h21, hm⟩ := bindO hm
   refine g_val rfl rfl rfl (fun _ _ => v_remc h21 rfl rfl) ?_
   obtain ⟨t66, h22, hm⟩ := bindO hm
   refine g_val rfl rfl rfl (fun _ _ => v_subc h22 rfl rfl) (g_val rfl rfl rfl (fun _ _ => v_max rfl rfl) (g_mv rfl rfl (g_mv rfl rfl (g_val rfl rfl rfl (fun w _ => v_conv (Try.runUnderlying5 w) (Try.runUnderlying3 w) rfl) ?_))))
   obtain ⟨t71, h23, hm⟩ := bindO hm
   refine g_val rfl rfl rfl (fun _ _ => v_quoc h23 rfl rfl) ?_
   obtain ⟨t72, h24, hm⟩ := bindO hm
   refine g_val rfl rfl rfl (fun _ _ => v_remc h24 rfl rfl) ?_
   obtain ⟨t73, h25, hm⟩ := bindO hm
   refine g_ac h25 rfl rfl rfl (g_val rfl rfl rfl (fun _ _ => v_min rfl rfl) (g_val rfl rfl rfl (fun _ _ => v_build (vs := [(0, _), (1, _)]) (cells := [_, _]) rfl rfl) ?_))
   obtain ⟨t76, h26, hm⟩ := bindO hm
   refine g_callH [] [] rfl rfl rfl rfl rfl rfl rfl Try.call14 (fun w hh => c_strip_Weigh t37.r0 t45 (⟨(max 0 t66), (min 30 t73)⟩ : Span) (qA l_1.1.q) l_1.1.n l_1.1.cap (qA l_1.2.1.q) l_1.2.1.n l_1.2.1.cap w (HV.callee (S0 := []) (vs0 := []) hh (roC (hh.vsepA 1 rfl h5) (roC (hh.vsepA 2 rfl h6) roN))) (vlen RSt h5 rfl) (AOK.q (vne h5)) (h5).hle (vlen RSp h6 rfl) (AOK.q (vne h6)) (h6).hle h26) (fun l_4 h27 => ?_)
   obtain ⟨h28, h29⟩ := h27
   refine g_se (S' := [_, _]) (vs' := [_, _, _, _, _]) [0, 1] [0, 1, 2, 3, 4] 0 rfl rfl rfl rfl (g_mv rfl rfl (g_xt rfl rfl rfl (g_xt rfl rfl rfl ?_)))
   refine g_allocV (fun w => Try.zeroValue28 w) rfl (fun b_1 h30 => ?_)
   refine g_stSA (us := #[_, _]) (cs' := [_, _]) (S' := [_, _, _]) 0 (fun w => Try.sizeOf28 w) rfl rfl rfl rfl rfl rfl rfl (g_as rfl rfl (g_nt (g_seq (g_seq ?_))))
   obtain ⟨o_1, h31, h32⟩ := bindO hm
   refine g_cut (ι := Unit) (fun l_5 => True) (fun l_5 => [(8, ptr b 0), (9, slv l_1.2.2.v.q l_1.2.2.v.n l_1.2.2.v.cap), (14, ptr b_1 0), (91, .bool o_1)]) (fun l_5 => [(b_1, .cells #[slv l_4.1.q l_4.1.n l_4.1.cap, slv l_4.2.q l_4.2.n l_4.2.cap] 28 (0, 0)), (b, .cells #[slv l_1.1.q l_1.1.n l_1.1.cap, slv l_1.2.1.q l_1.2.1.n l_1.2.1.cap] 28 (0, 0)), (l, .cells #[.slice qa0 na0 ca0, .int .i64 t37.b0_1, .int .u32 t37.b0_2] 105 (0, 0))]) (fun l_5 => [⟨32, RwH.enc l_1.2.2.rs, l_1.2.2.v.sp, l_1.2.2.v.q, dbl 3 RI t37.r1 l_1.2.2.rs⟩, ⟨77, RSt.enc t76.r0.strips, l_4.1.sp, l_4.1.q, []⟩, ⟨37, RSp.enc t76.r0.carried, l_4.2.sp, l_4.2.q, []⟩, ⟨77, RSt.enc t37.r0.strips, l_1.1.sp, l_1.1.q, []⟩, ⟨37, RSp.enc t37.r0.carried, l_1.2.1.sp, l_1.2.1.q, []⟩]) ?_ ?_
   ·replace hm := h31
    refine g_region (g_mv rfl rfl (g_val rfl rfl rfl (fun _ _ => v_neq rfl rfl) (g_mv rfl rfl ?_)))
    refine g_case 81 rfl (fun h33 => ?_) (fun h33 => ?_)
    ·replace hm := ifF (of_ndec_true h33) hm
     refine g_k rfl rfl rfl rfl (g_k rfl rfl rfl rfl (g_k rfl rfl rfl rfl (g_pt rfl rfl rfl (g_mv rfl rfl (g_k rfl rfl rfl rfl (g_k rfl rfl rfl rfl (g_k rfl rfl rfl rfl ?_)))))))
     refine g_k rfl rfl rfl rfl (g_pt rfl rfl rfl (g_nil ?_))
     obtain rfl := sj hm
     exact g_leaf () (trivial) (sE rfl) (fun w hh => hh.se [0, 1, 2] [2, 0, 1, 3, 4] 0 rfl rfl rfl rfl)
    ·replace hm := ifT (of_ndec_false h33) hm
     refine v_unguard rfl rfl (g_val rfl rfl rfl (fun w hh => v_loadAgg (vs := [_, _]) (Try.isAgg28 w) (Try.sizeOf28 w) rfl (hh.cells 0 rfl rfl)) (v_unguard rfl rfl ?_))
     obtain ⟨t83, h34, hm⟩ := bindO hm
     refine g_callH [] [] rfl rfl rfl rfl rfl rfl rfl Try.call15 (fun w hh => c_strip_Check t76.r0 (qA l_4.1.q) l_4.1.n l_4.1.cap (qA l_4.2.q) l_4.2.n l_4.2.cap w (HV.callee (S0 := []) (vs0 := []) hh (roC (hh.vsepA 0 rfl h28) (roC (hh.vsepA 1 rfl h29) roN))) (vlen RSt h28 rfl) (AOK.q (vne h28)) (h28).hle (vlen RSp h29 rfl) (AOK.q (vne h29)) (h29).hle h34) (fun l_6 h35 => ?_)
     refine v_unguard rfl rfl (g_val rfl rfl rfl (fun _ _ => v_neq rfl rfl) (g_pf rfl rfl rfl (g_mv rfl rfl ?_)))
     refine g_case 86 rfl (fun h36 => ?_) (fun h36 => ?_)
     ·replace hm := ifF (of_ndec_true h36) hm
      refine g_k rfl rfl rfl rfl (g_k rfl rfl rfl rfl (g_k rfl rfl rfl rfl (g_k rfl rfl rfl rfl (g_pt rfl rfl rfl (g_nil ?_)))))
      obtain rfl := sj hm
      exact g_leaf () (trivial) (sE rfl) (fun w hh => hh.se [0, 1, 2] [2, 0, 1, 3, 4] 0 rfl rfl rfl rfl)
     ·replace hm := ifT (of_ndec_false h36) hm
      refine v_unguard rfl rfl (g_val rfl rfl rfl (fun w hh => v_loadAgg (vs := [_, _]) (Try.isAgg28 w) (Try.sizeOf28 w) rfl (hh.cells 0 rfl rfl)) (v_unguard rfl rfl (g_mv rfl rfl (v_unguard rfl rfl ?_))))
      obtain ⟨t89, h37, hm⟩ := bindO hm
      refine g_callH [] [] rfl rfl rfl rfl rfl rfl rfl Try.call16 (fun w hh => c_laurellaw09_fits t76.r0 t37.r1 (qA l_4.1.q) l_4.1.n l_4.1.cap (qA l_4.2.q) l_4.2.n l_4.2.cap (qA l_1.2.2.v.q) l_1.2.2.v.n l_1.2.2.v.cap (toAL l_1.2.2.rs) w (HV.callee (S0 := []) (vs0 := []) hh (roC (hh.vsepA 0 rfl h28) (roC (hh.vsepA 1 rfl h29) (roC (hh.vsepD 2 rfl h7) roN)))) (vlen RSt h28 rfl) (AOK.q (vne h28)) (h28).hle (vlen RSp h29 rfl) (AOK.q (vne h29)) (h29).hle (Eq.trans (h8).len (vlen RwH h7 rfl)) (AOK.q (vne h7)) (h7).hle ((h8).toDRO rfl) (hh.dsepT 2 rfl h8) h37) (fun l_7 h38 => ?_)
      refine v_unguard rfl rfl (g_val rfl rfl rfl (fun _ _ => v_not rfl) (g_pf rfl rfl rfl (g_nil ?_)))
      obtain rfl := sj hm
      exact g_leaf () (trivial) (sE rfl) (fun w hh => hh.se [0, 1, 2] [2, 0, 1, 3, 4] 0 rfl rfl rfl rfl)
   ·intro l_5 hj
    replace hm := h32
    refine g_n_then ?_
    refine g_cond rfl (fun h39 => ?_) (fun h39 => ?_)
    ·replace hm := ifT (h39) hm
     refine g_sr (g_as rfl rfl (g_nt (g_ret (g_r_then ?_))))
     obtain rfl := sj hm
     refine g_done rfl (fun w hh => (.tmp rfl .nil)) (fun w hh => ⟨(), rfl, trivial, hh.se [] [] 1 rfl rfl rfl rfl⟩)
    ·replace hm := ifN h39 hm
     refine g_skip (g_n_then (g_sr (g_val rfl rfl rfl (fun w hh => v_loadAgg (vs := [_, _]) (Try.isAgg28 w) (Try.sizeOf28 w) rfl (hh.cells 1 rfl rfl)) ?_)))
     obtain ⟨t94, h40, hm⟩ := bindO hm
     refine g_callH [] [] rfl rfl rfl rfl rfl rfl rfl Try.call17 (fun w hh => c_strip_Least t37.r0 (qA l_1.1.q) l_1.1.n l_1.1.cap (qA l_1.2.1.q) l_1.2.1.n l_1.2.1.cap w (HV.callee (S0 := []) (vs0 := []) hh (roC (hh.vsepA 3 rfl h5) (roC (hh.vsepA 4 rfl h6) roN))) (vlen RSt h5 rfl) (AOK.q (vne h5)) (h5).hle (vlen RSp h6 rfl) (AOK.q (vne h6)) (h6).hle h40) (fun l_8 h41 => ?_)
     obtain ⟨h42, h43⟩ := h41
     refine g_se (S' := [_, _, _]) (vs' := [_, _, _, _, _, _]) [0, 1, 2] [0, 1, 2, 3, 4, 5] 0 rfl rfl rfl rfl (g_mv rfl rfl (g_xt rfl rfl rfl (g_xt rfl rfl rfl (g_xt rfl rfl rfl (g_as rfl rfl (g_as rfl rfl (g_as rfl rfl ?_)))))))
     refine g_nx (g_val rfl rfl rfl (fun w hh => v_loadAgg (vs := [_, _]) (Try.isAgg28 w) (Try.sizeOf28 w) rfl (hh.cells 0 rfl rfl)) ?_)
     obtain ⟨t100, h44, hm⟩ := bindO hm
     refine g_callH [] [] rfl rfl rfl rfl rfl rfl rfl Try.call17 (fun w hh => c_strip_Least t76.r0 (qA l_4.1.q) l_4.1.n l_4.1.cap (qA l_4.2.q) l_4.2.n l_4.2.cap w (HV.callee (S0 := []) (vs0 := []) hh (roC (hh.vsepA 2 rfl h28) (roC (hh.vsepA 3 rfl h29) roN))) (vlen RSt h28 rfl) (AOK.q (vne h28)) (h28).hle (vlen RSp h29 rfl) (AOK.q (vne h29)) (h29).hle h44) (fun l_9 h45 => ?_)
     obtain ⟨h46, h47⟩ := h45
     refine g_se (S' := [_, _, _]) (vs' := [_, _, _, _, _, _, _]) [0, 1, 2] [0, 1, 2, 3, 4, 5, 6] 0 rfl rfl rfl rfl (g_mv rfl rfl (g_xt rfl rfl rfl (g_xt rfl rfl rfl (g_xt rfl rfl rfl (g_as rfl rfl (g_as rfl rfl (g_as rfl rfl ?_)))))))
     refine g_nx (g_val rfl rfl rfl (fun w hh => v_loadAgg (vs := [_, _]) (Try.isAgg28 w) (Try.sizeOf28 w) rfl (hh.cells 1 rfl rfl)) ?_)
     obtain ⟨t106, h48, hm⟩ := bindO hm
     refine g_callH [] [] rfl rfl rfl rfl rfl rfl rfl Try.call18 (fun w hh => c_strip_Most t37.r0 (qA l_1.1.q) l_1.1.n l_1.1.cap (qA l_1.2.1.q) l_1.2.1.n l_1.2.1.cap w (HV.callee (S0 := []) (vs0 := []) hh (roC (hh.vsepA 5 rfl h5) (roC (hh.vsepA 6 rfl h6) roN))) (vlen RSt h5 rfl) (AOK.q (vne h5)) (h5).hle (vlen RSp h6 rfl) (AOK.q (vne h6)) (h6).hle h48) (fun l_10 h49 => ?_)
     obtain ⟨h50, h51⟩ := h49
     refine g_se (S' := [_, _, _]) (vs' := [_, _, _, _, _, _, _, _]) [0, 1, 2] [0, 1, 2, 3, 4, 5, 6, 7] 0 rfl rfl rfl rfl (g_mv rfl rfl (g_xt rfl rfl rfl (g_xt rfl rfl rfl (g_xt rfl rfl rfl (g_as rfl rfl (g_as rfl rfl (g_as rfl rfl ?_)))))))
     refine g_nx (g_val rfl rfl rfl (fun w hh => v_loadAgg (vs := [_, _]) (Try.isAgg28 w) (Try.sizeOf28 w) rfl (hh.cells 0 rfl rfl)) ?_)
     obtain ⟨t112, h52, hm⟩ := bindO hm
     refine g_callH [] [] rfl rfl rfl rfl rfl rfl rfl Try.call18 (fun w hh => c_strip_Most t76.r0 (qA l_4.1.q) l_4.1.n l_4.1.cap (qA l_4.2.q) l_4.2.n l_4.2.cap w (HV.callee (S0 := []) (vs0 := []) hh (roC (hh.vsepA 4 rfl h28) (roC (hh.vsepA 5 rfl h29) roN))) (vlen RSt h28 rfl) (AOK.q (vne h28)) (h28).hle (vlen RSp h29 rfl) (AOK.q (vne h29)) (h29).hle h52) (fun l_11 h53 => ?_)
     obtain ⟨h54, h55⟩ := h53
     refine g_se (S' := [_, _, _]) (vs' := [_, _, _, _, _, _, _, _, _]) [0, 1, 2] [0, 1, 2, 3, 4, 5, 6, 7, 8] 0 rfl rfl rfl rfl (g_mv rfl rfl (g_xt rfl rfl rfl (g_xt rfl rfl rfl (g_xt rfl rfl rfl (g_as rfl rfl (g_as rfl rfl (g_as rfl rfl ?_)))))))
     refine g_nt (g_seq (g_seq ?_))
     obtain ⟨o_2, h56, h57⟩ := bindO hm
     refine g_cut (ι := Unit) (fun l_12 => True) (fun l_12 => [(8, ptr b 0), (9, slv l_1.2.2.v.q l_1.2.2.v.n l_1.2.2.v.cap), (14, ptr b_1 0), (139, .bool o_2)]) (fun l_12 => [(b_1, .cells #[slv l_4.1.q l_4.1.n l_4.1.cap, slv l_4.2.q l_4.2.n l_4.2.cap] 28 (0, 0)), (b, .cells #[slv l_1.1.q l_1.1.n l_1.1.cap, slv l_1.2.1.q l_1.2.1.n l_1.2.1.cap] 28 (0, 0)), (l, .cells #[.slice qa0 na0 ca0, .int .i64 t37.b0_1, .int .u32 t37.b0_2] 105 (0, 0))]) (fun l_12 => [⟨32, RwH.enc l_1.2.2.rs, l_1.2.2.v.sp, l_1.2.2.v.q, dbl 3 RI t37.r1 l_1.2.2.rs⟩, ⟨77, RSt.enc t76.r0.strips, l_4.1.sp, l_4.1.q, []⟩, ⟨37, RSp.enc t76.r0.carried, l_4.2.sp, l_4.2.q, []⟩, ⟨77, RSt.enc t37.r0.strips, l_1.1.sp, l_1.1.q, []⟩, ⟨37, RSp.enc t37.r0.carried, l_1.2.1.sp, l_1.2.1.q, []⟩]) ?_ ?_
     ·replace hm := h56
      refine g_region (g_mv rfl rfl (g_val rfl rfl rfl (fun _ _ => v_neq rfl rfl) (g_mv rfl rfl ?_)))
      refine g_case 118 rfl (fun h58 => ?_) (fun h58 => ?_)
      ·replace hm := ifF (of_ndec_true h58) hm
       refine g_k rfl rfl rfl rfl (g_k rfl rfl rfl rfl (g_pt rfl rfl rfl (g_mv rfl rfl (g_k rfl rfl rfl rfl (g_k rfl rfl rfl rfl (g_pt rfl rfl rfl (g_mv rfl rfl ?_)))))))
       refine g_k rfl rfl rfl rfl (g_k rfl rfl rfl rfl (g_pt rfl rfl rfl (g_mv rfl rfl (g_k rfl rfl rfl rfl (g_k rfl rfl rfl rfl (g_k rfl rfl rfl rfl (g_pt rfl rfl rfl ?_)))))))
       refine g_mv rfl rfl (g_k rfl rfl rfl rfl (g_k rfl rfl rfl rfl (g_k rfl rfl rfl rfl (g_pt rfl rfl rfl (g_nil ?_)))))
       obtain rfl := sj hm
       exact g_leaf () (trivial) (sE rfl) (fun w hh => hh.se [0, 1, 2] [4, 5, 6, 7, 8] 0 rfl rfl rfl rfl)
      ·replace hm := ifT (of_ndec_false h58) hm
       refine v_unguard rfl rfl (g_mv rfl rfl (v_unguard rfl rfl (g_val rfl rfl rfl (fun _ _ => v_neq rfl rfl) (g_pf rfl rfl rfl (g_mv rfl rfl ?_)))))
       refine g_case 122 rfl (fun h59 => ?_) (fun h59 => ?_)
       ·replace hm := ifF (of_ndec_true h59) hm
        refine g_k rfl rfl rfl rfl (g_k rfl rfl rfl rfl (g_pt rfl rfl rfl (g_mv rfl rfl (g_k rfl rfl rfl rfl (g_k rfl rfl rfl rfl (g_pt rfl rfl rfl (g_mv rfl rfl ?_)))))))
        refine g_k rfl rfl rfl rfl (g_k rfl rfl rfl rfl (g_k rfl rfl rfl rfl (g_pt rfl rfl rfl (g_mv rfl rfl (g_k rfl rfl rfl rfl (g_k rfl rfl rfl rfl (g_k rfl rfl rfl rfl ?_)))))))
        refine g_pt rfl rfl rfl (g_nil ?_)
        obtain rfl := sj hm
        exact g_leaf () (trivial) (sE rfl) (fun w hh => hh.se [0, 1, 2] [4, 5, 6, 7, 8] 0 rfl rfl rfl rfl)
       ·replace hm := ifT (of_ndec_false h59) hm
        refine v_unguard rfl rfl (g_mv rfl rfl (v_unguard rfl rfl (g_val rfl rfl rfl (fun _ _ => v_neq rfl rfl) (g_pf rfl rfl rfl (g_mv rfl rfl ?_)))))
        refine g_case 126 rfl (fun h60 => ?_) (fun h60 => ?_)
        ·replace hm := ifF (of_ndec_true h60) hm
         refine g_k rfl rfl rfl rfl (g_k rfl rfl rfl rfl (g_pt rfl rfl rfl (g_mv rfl rfl (g_k rfl rfl rfl rfl (g_k rfl rfl rfl rfl (g_k rfl rfl rfl rfl (g_pt rfl rfl rfl ?_)))))))
         refine g_mv rfl rfl (g_k rfl rfl rfl rfl (g_k rfl rfl rfl rfl (g_k rfl rfl rfl rfl (g_pt rfl rfl rfl (g_nil ?_)))))
         obtain rfl := sj hm
         exact g_leaf () (trivial) (sE rfl) (fun w hh => hh.se [0, 1, 2] [4, 5, 6, 7, 8] 0 rfl rfl rfl rfl)
        ·replace hm := ifT (of_ndec_false h60) hm
         refine v_unguard rfl rfl (g_mv rfl rfl (v_unguard rfl rfl (g_val rfl rfl rfl (fun _ _ => v_neq rfl rfl) (g_pf rfl rfl rfl (g_mv rfl rfl ?_)))))
         refine g_case 130 rfl (fun h61 => ?_) (fun h61 => ?_)
         ·replace hm := ifF (of_ndec_true h61) hm
          refine g_k rfl rfl rfl rfl (g_k rfl rfl rfl rfl (g_k rfl rfl rfl rfl (g_pt rfl rfl rfl (g_mv rfl rfl (g_k rfl rfl rfl rfl (g_k rfl rfl rfl rfl (g_k rfl rfl rfl rfl ?_)))))))
          refine g_pt rfl rfl rfl (g_nil ?_)
          obtain rfl := sj hm
          exact g_leaf () (trivial) (sE rfl) (fun w hh => hh.se [0, 1, 2] [4, 5, 6, 7, 8] 0 rfl rfl rfl rfl)
         ·replace hm := ifT (of_ndec_false h61) hm
          refine v_unguard rfl rfl (g_mv rfl rfl (v_unguard rfl rfl (g_mv rfl rfl (v_unguard rfl rfl (g_ls rfl rfl rfl (g_pf rfl rfl rfl (g_mv rfl rfl ?_)))))))
          refine g_case 135 rfl (fun h62 => ?_) (fun h62 => ?_)
          ·replace hm := ifD h62 hm
           refine g_k rfl rfl rfl rfl (g_k rfl rfl rfl rfl (g_k rfl rfl rfl rfl (g_pt rfl rfl rfl (g_nil ?_))))
           obtain rfl := sj hm
           exact g_leaf () (trivial) (sE rfl) (fun w hh => hh.se [0, 1, 2] [4, 5, 6, 7, 8] 0 rfl rfl rfl rfl)
          ·replace hm := ifE h62 hm
           refine v_unguard rfl rfl (g_mv rfl rfl (v_unguard rfl rfl (g_mv rfl rfl (v_unguard rfl rfl (g_val rfl rfl rfl (fun _ _ => v_gtr rfl rfl) (g_pf rfl rfl rfl (g_nil ?_)))))))
           obtain rfl := sj hm
           exact g_leaf () (trivial) (sE rfl) (fun w hh => hh.se [0, 1, 2] [4, 5, 6, 7, 8] 0 rfl rfl rfl rfl)
     ·intro l_12 hj
      replace hm := h57
      refine g_n_then ?_
      refine g_cond rfl (fun h63 => ?_) (fun h63 => ?_)
      ·replace hm := ifT (h63) hm
       refine g_sr (g_as rfl rfl (g_nt (g_ret (g_r_then ?_))))
       obtain rfl := sj hm
       refine g_done rfl (fun w hh => (.tmp rfl .nil)) (fun w hh => ⟨(), rfl, trivial, hh.se [] [] 1 rfl rfl rfl rfl⟩)
      ·replace hm := ifN h63 hm
       refine g_skip (g_n_then (g_seq (g_sr (g_fa 1 Try.runUnderlying28 rfl Try.sizeOf26 rfl rfl (g_lc 1 Try.isAgg26 rfl rfl rfl rfl (g_val rfl rfl rfl (fun w _ => v_lenN (vlen RSp h6 rfl) (Try.runUnderlying26 w) rfl) (g_mv rfl rfl ?_)))))))
       refine g_nt ?_
       obtain ⟨o_3, h64, h65⟩ := bindO hm
       refine g_cut (ι := Unit) (fun j => o_3 = .inl j) (fun j => []) (fun j => [(b_1, .cells #[slv l_4.1.q l_4.1.n l_4.1.cap, slv l_4.2.q l_4.2.n l_4.2.cap] 28 (0, 0)), (b, .cells #[slv l_1.1.q l_1.1.n l_1.1.cap, slv l_1.2.1.q l_1.2.1.n l_1.2.1.cap] 28 (0, 0)), (l, .cells #[.slice qa0 na0 ca0, .int .i64 t37.b0_1, .int .u32 t37.b0_2] 105 (0, 0))]) (fun j => [⟨77, RSt.enc t76.r0.strips, l_4.1.sp, l_4.1.q, []⟩, ⟨37, RSp.enc t76.r0.carried, l_4.2.sp, l_4.2.q, []⟩, ⟨77, RSt.enc t37.r0.strips, l_1.1.sp, l_1.1.q, []⟩, ⟨37, RSp.enc t37.r0.carried, l_1.2.1.sp, l_1.2.1.q, []⟩]) ?_ ?_
       ·replace hm := h64
        refine g_block ?_
        refine g_loopF (ι := Unit) hm (fun s_1 l_13 => True) (fun s_1 l_13 => [(8, ptr b 0), (9, slv l_1.2.2.v.q l_1.2.2.v.n l_1.2.2.v.cap), (14, ptr b_1 0), (142, .int .i64 (t37.r0.carried.length : Int)), (143, .int .i64 s_1)]) (fun s_1 l_13 => [(b_1, .cells #[slv l_4.1.q l_4.1.n l_4.1.cap, slv l_4.2.q l_4.2.n l_4.2.cap] 28 (0, 0)), (b, .cells #[slv l_1.1.q l_1.1.n l_1.1.cap, slv l_1.2.1.q l_1.2.1.n l_1.2.1.cap] 28 (0, 0)), (l, .cells #[.slice qa0 na0 ca0, .int .i64 t37.b0_1, .int .u32 t37.b0_2] 105 (0, 0))]) (fun s_1 l_13 => [⟨32, RwH.enc l_1.2.2.rs, l_1.2.2.v.sp, l_1.2.2.v.q, dbl 3 RI t37.r1 l_1.2.2.rs⟩, ⟨77, RSt.enc t76.r0.strips, l_4.1.sp, l_4.1.q, []⟩, ⟨37, RSp.enc t76.r0.carried, l_4.2.sp, l_4.2.q, []⟩, ⟨77, RSt.enc t37.r0.strips, l_1.1.sp, l_1.1.q, []⟩, ⟨37, RSp.enc t37.r0.carried, l_1.2.1.sp, l_1.2.1.q, []⟩]) () (trivial) (sE rfl) (fun w hh => hh) (fun s_1 l_13 r_1 hpl hm h66 => ?_)
        unfold m_laurellaw09_StripWeighed_L1 at hm
        refine g_sr (g_ls rfl rfl rfl (g_nt (g_seq ?_)))
        refine g_cond rfl (fun h67 => ?_) (fun h67 => ?_)
        ·replace hm := ifD h67 hm
         refine g_skip (g_n_then (g_seq (g_block (g_sr (g_mv rfl rfl (g_as rfl rfl (g_nx ?_)))))))
         refine g_fa 0 Try.runUnderlying28 rfl Try.sizeOf25 rfl rfl (g_lc 1 Try.isAgg25 rfl rfl rfl rfl (g_val rfl rfl rfl (fun w _ => v_lenN (vlen RSt h5 rfl) (Try.runUnderlying25 w) rfl) (g_mv rfl rfl (g_nt ?_))))
         obtain ⟨o_4, h68, h69⟩ := bindO hm
         refine g_cut (ι := Unit) (fun j_1 => o_4 = .inl j_1) (fun j_1 => [(8, ptr b 0), (9, slv l_1.2.2.v.q l_1.2.2.v.n l_1.2.2.v.cap), (14, ptr b_1 0), (142, .int .i64 (t37.r0.carried.length : Int)), (143, .int .i64 s_1)]) (fun j_1 => [(b_1, .cells #[slv l_4.1.q l_4.1.n l_4.1.cap, slv l_4.2.q l_4.2.n l_4.2.cap] 28 (0, 0)), (b, .cells #[slv l_1.1.q l_1.1.n l_1.1.cap, slv l_1.2.1.q l_1.2.1.n l_1.2.1.cap] 28 (0, 0)), (l, .cells #[.slice qa0 na0 ca0, .int .i64 t37.b0_1, .int .u32 t37.b0_2] 105 (0, 0))]) (fun j_1 => [⟨32, RwH.enc l_1.2.2.rs, l_1.2.2.v.sp, l_1.2.2.v.q, dbl 3 RI t37.r1 l_1.2.2.rs⟩, ⟨77, RSt.enc t76.r0.strips, l_4.1.sp, l_4.1.q, []⟩, ⟨37, RSp.enc t76.r0.carried, l_4.2.sp, l_4.2.q, []⟩, ⟨77, RSt.enc t37.r0.strips, l_1.1.sp, l_1.1.q, []⟩, ⟨37, RSp.enc t37.r0.carried, l_1.2.1.sp, l_1.2.1.q, []⟩]) ?_ ?_
         ·replace hm := h68
          refine g_block ?_
          refine g_loopF (ι := Unit) hm (fun s_2 l_14 => True) (fun s_2 l_14 => [(8, ptr b 0), (9, slv l_1.2.2.v.q l_1.2.2.v.n l_1.2.2.v.cap), (14, ptr b_1 0), (27, .int .i64 s_1), (142, .int .i64 (t37.r0.carried.length : Int)), (143, .int .i64 s_1), (148, .int .i64 (t37.r0.strips.length : Int)), (149, .int .i64 s_2)]) (fun s_2 l_14 => [(b_1, .cells #[slv l_4.1.q l_4.1.n l_4.1.cap, slv l_4.2.q l_4.2.n l_4.2.cap] 28 (0, 0)), (b, .cells #[slv l_1.1.q l_1.1.n l_1.1.cap, slv l_1.2.1.q l_1.2.1.n l_1.2.1.cap] 28 (0, 0)), (l, .cells #[.slice qa0 na0 ca0, .int .i64 t37.b0_1, .int .u32 t37.b0_2] 105 (0, 0))]) (fun s_2 l_14 => [⟨32, RwH.enc l_1.2.2.rs, l_1.2.2.v.sp, l_1.2.2.v.q, dbl 3 RI t37.r1 l_1.2.2.rs⟩, ⟨77, RSt.enc t76.r0.strips, l_4.1.sp, l_4.1.q, []⟩, ⟨37, RSp.enc t76.r0.carried, l_4.2.sp, l_4.2.q, []⟩, ⟨77, RSt.enc t37.r0.strips, l_1.1.sp, l_1.1.q, []⟩, ⟨37, RSp.enc t37.r0.carried, l_1.2.1.sp, l_1.2.1.q, []⟩]) () (trivial) (sE rfl) (fun w hh => hh) (fun s_2 l_14 r_2 hpl hm h70 => ?_)
          unfold m_laurellaw09_StripWeighed_L2 at hm
          refine g_sr (g_ls rfl rfl rfl (g_nt (g_seq ?_)))
          refine g_cond rfl (fun h71 => ?_) (fun h71 => ?_)
          ·replace hm := ifD h71 hm
           refine g_skip (g_n_then (g_seq (g_block (g_sr (g_mv rfl rfl (g_as rfl rfl (g_nx ?_)))))))
           refine g_val rfl rfl rfl (fun w hh => v_loadAgg (vs := [_, _]) (Try.isAgg28 w) (Try.sizeOf28 w) rfl (hh.cells 1 rfl rfl)) (g_mv rfl rfl (g_mv rfl rfl ?_))
           obtain ⟨t156, h72, hm⟩ := bindO hm
           refine g_callH [] [] rfl rfl rfl rfl rfl rfl rfl Try.call19 (fun w hh => c_strip_Taken t37.r0 s_1 s_2 (qA l_1.1.q) l_1.1.n l_1.1.cap (qA l_1.2.1.q) l_1.2.1.n l_1.2.1.cap w (HV.callee (S0 := []) (vs0 := []) hh (roC (hh.vsepA 3 rfl h5) (roC (hh.vsepA 4 rfl h6) roN))) (vlen RSt h5 rfl) (AOK.q (vne h5)) (h5).hle (vlen RSp h6 rfl) (AOK.q (vne h6)) (h6).hle h72) (fun l_15 h73 => ?_)
           refine g_mv rfl rfl (g_xt rfl rfl rfl (g_xt rfl rfl rfl ?_))
           refine g_allocV (fun w => Try.zeroValue37 w) rfl (fun b_2 h74 => ?_)
           refine g_stSA (us := #[_, _]) (cs' := [_, _]) (S' := [_, _, _, _]) 0 (fun w => Try.sizeOf37 w) rfl rfl rfl rfl rfl rfl rfl (g_as rfl rfl (g_nx (g_val rfl rfl rfl (fun w hh => v_loadAgg (vs := [_, _]) (Try.isAgg28 w) (Try.sizeOf28 w) rfl (hh.cells 1 rfl rfl)) (g_mv rfl rfl (g_mv rfl rfl ?_)))))
           obtain ⟨t163, h75, hm⟩ := bindO hm
           refine g_callH [] [] rfl rfl rfl rfl rfl rfl rfl Try.call19 (fun w hh => c_strip_Taken t76.r0 s_1 s_2 (qA l_4.1.q) l_4.1.n l_4.1.cap (qA l_4.2.q) l_4.2.n l_4.2.cap w (HV.callee (S0 := []) (vs0 := []) hh (roC (hh.vsepA 1 rfl h28) (roC (hh.vsepA 2 rfl h29) roN))) (vlen RSt h28 rfl) (AOK.q (vne h28)) (h28).hle (vlen RSp h29 rfl) (AOK.q (vne h29)) (h29).hle h75) (fun l_16 h76 => ?_)
           refine g_mv rfl rfl (g_xt rfl rfl rfl (g_xt rfl rfl rfl ?_))
           refine g_allocV (fun w => Try.zeroValue37 w) rfl (fun b_3 h77 => ?_)
           refine g_stSA (us := #[_, _]) (cs' := [_, _]) (S' := [_, _, _, _, _]) 0 (fun w => Try.sizeOf37 w) rfl rfl rfl rfl rfl rfl rfl (g_as rfl rfl (g_nt (g_seq ?_)))
           obtain ⟨o_5, h78, h79⟩ := bindO hm
           refine g_cut (ι := Unit) (fun l_17 => True) (fun l_17 => [(8, ptr b 0), (9, slv l_1.2.2.v.q l_1.2.2.v.n l_1.2.2.v.cap), (14, ptr b_1 0), (27, .int .i64 s_1), (142, .int .i64 (t37.r0.carried.length : Int)), (143, .int .i64 s_1), (148, .int .i64 (t37.r0.strips.length : Int)), (149, .int .i64 s_2), (209, .bool o_5)]) (fun l_17 => [(b_3, .cells #[.int .i64 t163.r0.lo, .int .i64 t163.r0.hi] 37 (0, 0)), (b_2, .cells #[.int .i64 t156.r0.lo, .int .i64 t156.r0.hi] 37 (0, 0)), (b_1, .cells #[slv l_4.1.q l_4.1.n l_4.1.cap, slv l_4.2.q l_4.2.n l_4.2.cap] 28 (0, 0)), (b, .cells #[slv l_1.1.q l_1.1.n l_1.1.cap, slv l_1.2.1.q l_1.2.1.n l_1.2.1.cap] 28 (0, 0)), (l, .cells #[.slice qa0 na0 ca0, .int .i64 t37.b0_1, .int .u32 t37.b0_2] 105 (0, 0))]) (fun l_17 => [⟨32, RwH.enc l_1.2.2.rs, l_1.2.2.v.sp, l_1.2.2.v.q, dbl 3 RI t37.r1 l_1.2.2.rs⟩, ⟨77, RSt.enc t76.r0.strips, l_4.1.sp, l_4.1.q, []⟩, ⟨37, RSp.enc t76.r0.carried, l_4.2.sp, l_4.2.q, []⟩, ⟨77, RSt.enc t37.r0.strips, l_1.1.sp, l_1.1.q, []⟩, ⟨37, RSp.enc t37.r0.carried, l_1.2.1.sp, l_1.2.1.q, []⟩]) ?_ ?_
           ·replace hm := h78
            refine g_draw none (.free 0 (.free 1 (.free 2 (.free 3 (.free 4 (.free 5 (.free 6 (.free 7 (.hoist 8 (.free 9 (.hoist 10 (.free 11 (.free 12 (.free 13 (.free 14 (.hoist 15 (.free 16 (.hoist 17 (.free 18 (.free 19 (.free 20 (.free 21 (.free 22 (.free 23 (.hoist 24 (.free 25 (.free 26 (.hoist 27 (.free 28 (.hoist 29 (.free 30 (.free 31 (.free 32 (.free 33 (.free 34 (.free 35 (.hoist 36 (.free 37 (.free 38 (.hoist 39 (.free 40 (.hoist 41 (.free 42 (.free 43 .done)))))))))))))))))))))))))))))))))))))))))))) _ rfl (by decide +kernel) (fun w k hh => hh.draw k) (fun w hh => hh) ?_
            refine p_free rfl rfl rfl rfl (fun _ _ => v_move rfl) (p_free rfl rfl rfl rfl (fun _ _ => v_neq rfl rfl) (p_free rfl rfl rfl rfl (fun _ _ => v_move rfl) ?_))
            refine g_case 168 rfl (fun h80 => ?_) (fun h80 => ?_)
            ·replace hm := ifF (of_ndec_true h80) hm
             refine p_skipF rfl rfl rfl rfl rfl rfl rfl (p_skipF rfl rfl rfl rfl rfl rfl rfl (p_free rfl rfl rfl rfl (fun _ _ => v_pickT rfl rfl) (p_free rfl rfl rfl rfl (fun _ _ => v_move rfl) (p_skipF rfl rfl rfl rfl rfl rfl rfl (p_skip rfl rfl rfl rfl rfl rfl rfl (p_skipF rfl rfl rfl rfl rfl rfl rfl (p_skip rfl rfl rfl rfl rfl rfl rfl ?_)))))))
             refine p_skipF rfl rfl rfl rfl rfl rfl rfl (p_free rfl rfl rfl rfl (fun _ _ => v_pickT rfl rfl) (p_free rfl rfl rfl rfl (fun _ _ => v_move rfl) (p_skipF rfl rfl rfl rfl rfl rfl rfl (p_skip rfl rfl rfl rfl rfl rfl rfl (p_skipF rfl rfl rfl rfl rfl rfl rfl (p_skip rfl rfl rfl rfl rfl rfl rfl (p_skipF rfl rfl rfl rfl rfl rfl rfl ?_)))))))
             refine p_free rfl rfl rfl rfl (fun _ _ => v_pickT rfl rfl) (p_free rfl rfl rfl rfl (fun _ _ => v_move rfl) (p_skipF rfl rfl rfl rfl rfl rfl rfl (p_skipF rfl rfl rfl rfl rfl rfl rfl (p_skipF rfl rfl rfl rfl rfl rfl rfl (p_skip rfl rfl rfl rfl rfl rfl rfl (p_skipF rfl rfl rfl rfl rfl rfl rfl (p_skipF rfl rfl rfl rfl rfl rfl rfl ?_)))))))
             refine p_skip rfl rfl rfl rfl rfl rfl rfl (p_skipF rfl rfl rfl rfl rfl rfl rfl (p_skip rfl rfl rfl rfl rfl rfl rfl (p_skipF rfl rfl rfl rfl rfl rfl rfl (p_free rfl rfl rfl rfl (fun _ _ => v_pickT rfl rfl) (p_free rfl rfl rfl rfl (fun _ _ => v_move rfl) (p_skipF rfl rfl rfl rfl rfl rfl rfl (p_skipF rfl rfl rfl rfl rfl rfl rfl ?_)))))))
             refine p_skipF rfl rfl rfl rfl rfl rfl rfl (p_skip rfl rfl rfl rfl rfl rfl rfl (p_skipF rfl rfl rfl rfl rfl rfl rfl (p_skipF rfl rfl rfl rfl rfl rfl rfl (p_skip rfl rfl rfl rfl rfl rfl rfl (p_skipF rfl rfl rfl rfl rfl rfl rfl (p_skip rfl rfl rfl rfl rfl rfl rfl (p_skipF rfl rfl rfl rfl rfl rfl rfl ?_)))))))
             refine p_free rfl rfl rfl rfl (fun _ _ => v_pickT rfl rfl) (p_done ?_)
             obtain rfl := sj hm
             exact g_leaf () (trivial) (sE rfl) (fun w hh => hh)
            ·replace hm := ifT (of_ndec_false h80) hm
             refine p_freeG rfl rfl rfl rfl rfl rfl (fun _ _ => v_move rfl) (p_freeG rfl rfl rfl rfl rfl rfl (fun _ _ => v_neq rfl rfl) (p_free rfl rfl rfl rfl (fun _ _ => v_pickF rfl rfl) (p_free rfl rfl rfl rfl (fun _ _ => v_move rfl) ?_)))
             refine g_case 172 rfl (fun h81 => ?_) (fun h81 => ?_)
             ·replace hm := ifF (of_ndec_true h81) hm
              refine p_skipF rfl rfl rfl rfl rfl rfl rfl (p_skip rfl rfl rfl rfl rfl rfl rfl (p_skipF rfl rfl rfl rfl rfl rfl rfl (p_skip rfl rfl rfl rfl rfl rfl rfl (p_skipF rfl rfl rfl rfl rfl rfl rfl (p_free rfl rfl rfl rfl (fun _ _ => v_pickT rfl rfl) (p_free rfl rfl rfl rfl (fun _ _ => v_move rfl) (p_skipF rfl rfl rfl rfl rfl rfl rfl ?_)))))))
              refine p_skip rfl rfl rfl rfl rfl rfl rfl (p_skipF rfl rfl rfl rfl rfl rfl rfl (p_skip rfl rfl rfl rfl rfl rfl rfl (p_skipF rfl rfl rfl rfl rfl rfl rfl (p_free rfl rfl rfl rfl (fun _ _ => v_pickT rfl rfl) (p_free rfl rfl rfl rfl (fun _ _ => v_move rfl) (p_skipF rfl rfl rfl rfl rfl rfl rfl (p_skipF rfl rfl rfl rfl rfl rfl rfl ?_)))))))
              refine p_skipF rfl rfl rfl rfl rfl rfl rfl (p_skip rfl rfl rfl rfl rfl rfl rfl (p_skipF rfl rfl rfl rfl rfl rfl rfl (p_skipF rfl rfl rfl rfl rfl rfl rfl (p_skip rfl rfl rfl rfl rfl rfl rfl (p_skipF rfl rfl rfl rfl rfl rfl rfl (p_skip rfl rfl rfl rfl rfl rfl rfl (p_skipF rfl rfl rfl rfl rfl rfl rfl ?_)))))))
              refine p_free rfl rfl rfl rfl (fun _ _ => v_pickT rfl rfl) (p_free rfl rfl rfl rfl (fun _ _ => v_move rfl) (p_skipF rfl rfl rfl rfl rfl rfl rfl (p_skipF rfl rfl rfl rfl rfl rfl rfl (p_skipF rfl rfl rfl rfl rfl rfl rfl (p_skip rfl rfl rfl rfl rfl rfl rfl (p_skipF rfl rfl rfl rfl rfl rfl rfl (p_skipF rfl rfl rfl rfl rfl rfl rfl ?_)))))))
              refine p_skip rfl rfl rfl rfl rfl rfl rfl (p_skipF rfl rfl rfl rfl rfl rfl rfl (p_skip rfl rfl rfl rfl rfl rfl rfl (p_skipF rfl rfl rfl rfl rfl rfl rfl (p_free rfl rfl rfl rfl (fun _ _ => v_pickT rfl rfl) (p_done ?_)))))
              obtain rfl := sj hm
              exact g_leaf () (trivial) (sE rfl) (fun w hh => hh)
             ·replace hm := ifT (of_ndec_false h81) hm
              refine p_freeG rfl rfl rfl rfl rfl rfl (fun w _ => v_fieldAddr 0 (Try.runUnderlying37 w) rfl (Try.sizeOf3 w) rfl) (p_hoistG rfl rfl rfl rfl rfl rfl (fun w hh => v_load (Try.isAgg3 w) rfl (hh.cell 0 rfl rfl)) (p_freeG rfl rfl rfl rfl rfl rfl (fun w _ => v_fieldAddr 0 (Try.runUnderlying37 w) rfl (Try.sizeOf3 w) rfl) (p_hoistG rfl rfl rfl rfl rfl rfl (fun w hh => v_load (Try.isAgg3 w) rfl (hh.cell 1 rfl rfl)) (p_freeG rfl rfl rfl rfl rfl rfl (fun _ _ => v_lss rfl rfl) (p_free rfl rfl rfl rfl (fun _ _ => v_pickF rfl rfl) (p_free rfl rfl rfl rfl (fun _ _ => v_move rfl) ?_))))))
              refine g_case 179 rfl (fun h82 => ?_) (fun h82 => ?_)
              ·replace hm := ifD h82 hm
               refine p_skipF rfl rfl rfl rfl rfl rfl rfl (p_skip rfl rfl rfl rfl rfl rfl rfl (p_skipF rfl rfl rfl rfl rfl rfl rfl (p_skip rfl rfl rfl rfl rfl rfl rfl (p_skipF rfl rfl rfl rfl rfl rfl rfl (p_free rfl rfl rfl rfl (fun _ _ => v_pickT rfl rfl) (p_free rfl rfl rfl rfl (fun _ _ => v_move rfl) (p_skipF rfl rfl rfl rfl rfl rfl rfl ?_)))))))
               refine p_skipF rfl rfl rfl rfl rfl rfl rfl (p_skipF rfl rfl rfl rfl rfl rfl rfl (p_skip rfl rfl rfl rfl rfl rfl rfl (p_skipF rfl rfl rfl rfl rfl rfl rfl (p_skipF rfl rfl rfl rfl rfl rfl rfl (p_skip rfl rfl rfl rfl rfl rfl rfl (p_skipF rfl rfl rfl rfl rfl rfl rfl (p_skip rfl rfl rfl rfl rfl rfl rfl ?_)))))))
               refine p_skipF rfl rfl rfl rfl rfl rfl rfl (p_free rfl rfl rfl rfl (fun _ _ => v_pickT rfl rfl) (p_free rfl rfl rfl rfl (fun _ _ => v_move rfl) (p_skipF rfl rfl rfl rfl rfl rfl rfl (p_skipF rfl rfl rfl rfl rfl rfl rfl (p_skipF rfl rfl rfl rfl rfl rfl rfl (p_skip rfl rfl rfl rfl rfl rfl rfl (p_skipF rfl rfl rfl rfl rfl rfl rfl ?_)))))))
               refine p_skipF rfl rfl rfl rfl rfl rfl rfl (p_skip rfl rfl rfl rfl rfl rfl rfl (p_skipF rfl rfl rfl rfl rfl rfl rfl (p_skip rfl rfl rfl rfl rfl rfl rfl (p_skipF rfl rfl rfl rfl rfl rfl rfl (p_free rfl rfl rfl rfl (fun _ _ => v_pickT rfl rfl) (p_done ?_))))))
               obtain rfl := sj hm
               exact g_leaf () (trivial) (sE rfl) (fun w hh => hh)
              ·replace hm := ifE h82 hm
               refine p_freeG rfl rfl rfl rfl rfl rfl (fun w _ => v_fieldAddr 1 (Try.runUnderlying37 w) rfl (Try.sizeOf3 w) rfl) (p_hoistG rfl rfl rfl rfl rfl rfl (fun w hh => v_load (Try.isAgg3 w) rfl (hh.cell 0 rfl rfl)) (p_freeG rfl rfl rfl rfl rfl rfl (fun w _ => v_fieldAddr 1 (Try.runUnderlying37 w) rfl (Try.sizeOf3 w) rfl) (p_hoistG rfl rfl rfl rfl rfl rfl (fun w hh => v_load (Try.isAgg3 w) rfl (hh.cell 1 rfl rfl)) (p_freeG rfl rfl rfl rfl rfl rfl (fun _ _ => v_gtr rfl rfl) (p_free rfl rfl rfl rfl (fun _ _ => v_pickF rfl rfl) (p_free rfl rfl rfl rfl (fun _ _ => v_move rfl) ?_))))))
               refine g_case 186 rfl (fun h83 => ?_) (fun h83 => ?_)
               ·replace hm := ifD h83 hm
                refine p_skipF rfl rfl rfl rfl rfl rfl rfl (p_skipF rfl rfl rfl rfl rfl rfl rfl (p_skipF rfl rfl rfl rfl rfl rfl rfl (p_skip rfl rfl rfl rfl rfl rfl rfl (p_skipF rfl rfl rfl rfl rfl rfl rfl (p_skipF rfl rfl rfl rfl rfl rfl rfl (p_skip rfl rfl rfl rfl rfl rfl rfl (p_skipF rfl rfl rfl rfl rfl rfl rfl ?_)))))))
                refine p_skip rfl rfl rfl rfl rfl rfl rfl (p_skipF rfl rfl rfl rfl rfl rfl rfl (p_free rfl rfl rfl rfl (fun _ _ => v_pickT rfl rfl) (p_free rfl rfl rfl rfl (fun _ _ => v_move rfl) (p_skipF rfl rfl rfl rfl rfl rfl rfl (p_skipF rfl rfl rfl rfl rfl rfl rfl (p_skipF rfl rfl rfl rfl rfl rfl rfl (p_skip rfl rfl rfl rfl rfl rfl rfl ?_)))))))
                refine p_skipF rfl rfl rfl rfl rfl rfl rfl (p_skipF rfl rfl rfl rfl rfl rfl rfl (p_skip rfl rfl rfl rfl rfl rfl rfl (p_skipF rfl rfl rfl rfl rfl rfl rfl (p_skip rfl rfl rfl rfl rfl rfl rfl (p_skipF rfl rfl rfl rfl rfl rfl rfl (p_free rfl rfl rfl rfl (fun _ _ => v_pickT rfl rfl) (p_done ?_)))))))
                obtain rfl := sj hm
                exact g_leaf () (trivial) (sE rfl) (fun w hh => hh)
               ·replace hm := ifE h83 hm
                refine p_freeG rfl rfl rfl rfl rfl rfl (fun _ _ => v_move rfl) (p_freeG rfl rfl rfl rfl rfl rfl (fun _ _ => v_move rfl) ?_)
                obtain ⟨t189, h84, hm⟩ := bindO hm
                obtain ⟨L_1, h85, h86⟩ := (h8).row h84
                refine p_freeG rfl rfl rfl rfl rfl rfl (fun w _ => v_ixA h85 (Try.runUnderlying29 w) (Try.sizeOf32 w) rfl rfl (vlen RwH h7 rfl) (vne h7)) (p_hoistG rfl rfl rfl rfl rfl rfl (fun w hh => v_ldE RwH 0 h85 (Try.isAgg32 w) rfl (hh.vseg 0 rfl h7) rfl (Nat.add_zero _).symm) (p_freeG rfl rfl rfl rfl rfl rfl (fun _ _ => v_move rfl) ?_))
                obtain ⟨t192, h87, hm⟩ := bindO hm
                refine p_freeG rfl rfl rfl rfl rfl rfl (fun w _ => v_ixA h87 (Try.runUnderlying32 w) (Try.sizeOf3 w) rfl rfl (vlen RI h86 rfl) (vne h86)) (p_hoistG rfl rfl rfl rfl rfl rfl (fun w hh => v_ldE RI 0 h87 (Try.isAgg3 w) rfl (hh.dseg 0 rfl h84 h85 h86) rfl (Nat.add_zero _).symm) (p_freeG rfl rfl rfl rfl rfl rfl (fun w _ => v_fieldAddr 0 (Try.runUnderlying37 w) rfl (Try.sizeOf3 w) rfl) (p_hoistG rfl rfl rfl rfl rfl rfl (fun w hh => v_load (Try.isAgg3 w) rfl (hh.cell 0 rfl rfl)) (p_freeG rfl rfl rfl rfl rfl rfl (fun _ _ => v_lss rfl rfl) (p_free rfl rfl rfl rfl (fun _ _ => v_pickF rfl rfl) (p_free rfl rfl rfl rfl (fun _ _ => v_move rfl) ?_))))))
                refine g_case 198 rfl (fun h88 => ?_) (fun h88 => ?_)
                ·replace hm := ifD h88 hm
                 refine p_skipF rfl rfl rfl rfl rfl rfl rfl (p_skipF rfl rfl rfl rfl rfl rfl rfl (p_skipF rfl rfl rfl rfl rfl rfl rfl (p_skip rfl rfl rfl rfl rfl rfl rfl (p_skipF rfl rfl rfl rfl rfl rfl rfl (p_skipF rfl rfl rfl rfl rfl rfl rfl (p_skip rfl rfl rfl rfl rfl rfl rfl (p_skipF rfl rfl rfl rfl rfl rfl rfl ?_)))))))
                 refine p_skip rfl rfl rfl rfl rfl rfl rfl (p_skipF rfl rfl rfl rfl rfl rfl rfl (p_free rfl rfl rfl rfl (fun _ _ => v_pickT rfl rfl) (p_done ?_)))
                 obtain rfl := sj hm
                 exact g_leaf () (trivial) (sE rfl) (fun w hh => hh)
                ·replace hm := ifE h88 hm
                 refine p_freeG rfl rfl rfl rfl rfl rfl (fun _ _ => v_move rfl) (p_freeG rfl rfl rfl rfl rfl rfl (fun _ _ => v_move rfl) ?_)
                 obtain ⟨t201, h89, hm⟩ := bindO hm
                 obtain ⟨L_2, h90, h91⟩ := (h8).row h89
                 refine p_freeG rfl rfl rfl rfl rfl rfl (fun w _ => v_ixA h90 (Try.runUnderlying29 w) (Try.sizeOf32 w) rfl rfl (vlen RwH h7 rfl) (vne h7)) (p_hoistG rfl rfl rfl rfl rfl rfl (fun w hh => v_ldE RwH 0 h90 (Try.isAgg32 w) rfl (hh.vseg 0 rfl h7) rfl (Nat.add_zero _).symm) (p_freeG rfl rfl rfl rfl rfl rfl (fun _ _ => v_move rfl) ?_))
                 obtain ⟨t204, h92, hm⟩ := bindO hm
                 refine p_freeG rfl rfl rfl rfl rfl rfl (fun w _ => v_ixA h92 (Try.runUnderlying32 w) (Try.sizeOf3 w) rfl rfl (vlen RI h91 rfl) (vne h91)) (p_hoistG rfl rfl rfl rfl rfl rfl (fun w hh => v_ldE RI 0 h92 (Try.isAgg3 w) rfl (hh.dseg 0 rfl h89 h90 h91) rfl (Nat.add_zero _).symm) (p_freeG rfl rfl rfl rfl rfl rfl (fun w _ => v_fieldAddr 1 (Try.runUnderlying37 w) rfl (Try.sizeOf3 w) rfl) (p_hoistG rfl rfl rfl rfl rfl rfl (fun w hh => v_load (Try.isAgg3 w) rfl (hh.cell 0 rfl rfl)) (p_freeG rfl rfl rfl rfl rfl rfl (fun _ _ => v_gtr rfl rfl) (p_free rfl rfl rfl rfl (fun _ _ => v_pickF rfl rfl) (p_done ?_))))))
                 obtain rfl := sj hm
                 exact g_leaf () (trivial) (sE rfl) (fun w hh => hh)
           ·intro l_17 hj
            replace hm := h79
            refine g_n_then ?_
            refine g_cond rfl (fun h93 => ?_) (fun h93 => ?_)
            ·replace hm := ifT (h93) hm
             refine g_sr (g_as rfl rfl (g_nt (g_ret (g_r_blk (g_r_then (g_r_then (g_r_blk ?_)))))))
             obtain rfl := sj hm
             have hbo := h70 _ rfl
             subst hbo
             refine g_r_then ?_
             replace hm := ocR h69
             refine g_r_blk (g_r_then (g_r_then (g_r_blk ?_)))
             obtain rfl := sj hm
             have hbo := h66 _ rfl
             subst hbo
             refine g_r_then ?_
             replace hm := ocR h65
             refine g_r_then ?_
             obtain rfl := sj hm
             refine g_done rfl (fun w hh => (.tmp rfl .nil)) (fun w hh => ⟨(), rfl, trivial, hh.se [] [] 1 rfl rfl rfl rfl⟩)
            ·replace hm := ifN h93 hm
             refine g_skip (g_n_blk (g_n_then (g_region ?_)))
             obtain ⟨t210, h94, hm⟩ := bindO hm
             refine g_ac h94 rfl rfl rfl (g_mv rfl rfl (g_nil ?_))
             obtain rfl := sj hm
             refine g_n_then ?_
             exact g_again' _ () rfl (trivial) (sE rfl) (fun w hh => hh.se [2, 3, 4] [0, 1, 2, 3, 4] 0 rfl rfl rfl rfl)
          ·replace hm := ifE h71 hm
           refine g_exit (g_x_then (g_x_then (g_x_blk ?_)))
           obtain rfl := sj hm
           have hbo := h70 _ rfl
           subst hbo
           exact g_leaf () (rfl) (sE rfl) (fun w hh => hh)
         ·intro j_1 hj
          have h95 := hj
          subst h95
          replace hm := ocL h69
          refine g_n_blk (g_n_then (g_region ?_))
          obtain ⟨t211, h96, hm⟩ := bindO hm
          refine g_ac h96 rfl rfl rfl (g_mv rfl rfl (g_nil ?_))
          obtain rfl := sj hm
          refine g_n_then ?_
          exact g_again' _ () rfl (trivial) (sE rfl) (fun w hh => hh)
        ·replace hm := ifE h67 hm
         refine g_exit (g_x_then (g_x_then (g_x_blk ?_)))
         obtain rfl := sj hm
         have hbo := h66 _ rfl
         subst hbo
         exact g_leaf () (rfl) (.nil) (fun w hh => hh.se [0, 1, 2] [1, 2, 3, 4] 0 rfl rfl rfl rfl)
       ·intro j hj
        have h97 := hj
        subst h97
        replace hm := ocL h65
        refine g_n_then (g_sr ?_)
        obtain ⟨t212, h98, hm⟩ := bindO hm
        refine g_callH [] [] rfl rfl rfl rfl rfl rfl rfl Try.call20 (fun w hh => c_laurellaw09_awake  w (HV.callee (S0 := []) (vs0 := []) hh roN)  h98) (fun l_18 h99 => ?_)
        refine g_as rfl rfl (g_nt (g_ret ?_))
        obtain rfl := sj hm
        refine g_done rfl (fun w hh => (.tmp rfl .nil)) (fun w hh => ⟨(), rfl, trivial, hh.se [] [] 1 rfl rfl rfl rfl⟩)
end Go.Proofs.Ws

namespace Go.Proofs.Ws
open Go Go.Fw Go.Gx Go.Sp
set_option linter.unusedVariables false
/-! ### numbers out of bytes -/
def HOK (l : List Int) (p : Int) : Prop := 0 ≤ p ∧ (p < (l.length : Int) ∨ p = 0)
theorem pick_ok {l : List Int} {p r : Int} (hl : l.length ≤ 9223372036854775807) (hp : HOK l p) : ∃ x, m_laurelkit_Heap_pick_1 l p r = some x ∧ (0 ≤ x.r0 ∧ x.r0 ≤ 32767) ∧ HOK l x.h0_1 := by
  obtain ⟨h0, h1⟩ := hp
  unfold m_laurelkit_Heap_pick_1
  have e1 : addc p 1 = some (p + 1) := addc_eq (by omega)
  by_cases hlt : p < (l.length : Int)
  · rw [if_pos hlt, ix_eq 0 h0 hlt, e1]
    simp only [Option.bind_some]
    by_cases hge : (l.length : Int) ≤ p + 1
    · rw [if_pos hge]
      exact ⟨_, rfl, Go.Fw.and_bound _ _ rfl, Int.le_refl _, .inr rfl⟩
    · rw [if_neg hge]
      exact ⟨_, rfl, Go.Fw.and_bound _ _ rfl, by simp only; omega, .inl (by simp only; omega)⟩
  · rw [if_neg hlt, e1]
    simp only [Option.bind_some]
    by_cases hge : (l.length : Int) ≤ p + 1
    · rw [if_pos hge]
      exact ⟨_, rfl, Go.Fw.and_bound _ _ rfl, Int.le_refl _, .inr rfl⟩
    · rw [if_neg hge]
      exact ⟨_, rfl, Go.Fw.and_bound _ _ rfl, by simp only; omega, .inl (by simp only; omega)⟩
theorem upto_ok {l : List Int} {p r n : Int} (hl : l.length ≤ 9223372036854775807) (hp : HOK l p) (hn : -1000000 ≤ n ∧ n ≤ 1000000) : ∃ x, m_laurelkit_Heap_Upto_1 l p r n = some x ∧ (0 ≤ x.r0 ∧ x.r0 ≤ max 0 n) ∧ HOK l x.h0_1 := by
  obtain ⟨x, hx, hb, hk⟩ := pick_ok (r := r) hl hp
  unfold m_laurelkit_Heap_Upto_1
  rw [hx, Option.bind_some, addc_eq (by omega), Option.bind_some, remc_eq (by omega), Option.bind_some]
  refine ⟨_, rfl, ?_, hk⟩
  have h1 := Int.tmod_nonneg (max 1 (n + 1)) hb.1
  have h2 := Int.tmod_lt_of_pos x.r0 (show 0 < max 1 (n + 1) by omega)
  simp only
  omega
theorem from_ok {l : List Int} {p r lo hi : Int} (hl : l.length ≤ 9223372036854775807) (hp : HOK l p) (hn : (-400000 ≤ lo ∧ lo ≤ 400000) ∧ -400000 ≤ hi ∧ hi ≤ 400000) : ∃ x, m_laurelkit_Heap_From_1 l p r lo hi = some x ∧ (lo ≤ x.r0 ∧ x.r0 ≤ max lo hi) ∧ HOK l x.h0_1 := by
  unfold m_laurelkit_Heap_From_1
  rw [subc_eq (by omega), Option.bind_some]
  obtain ⟨x, hx, hb, hk⟩ := upto_ok (r := r) (n := hi - lo) hl hp (by omega)
  rw [hx, Option.bind_some, addc_eq (by omega), Option.bind_some]
  exact ⟨_, rfl, by simp only; omega, hk⟩
theorem once_ok {l : List Int} {p r n : Int} (hl : l.length ≤ 9223372036854775807) (hp : HOK l p) (hn : -400000 ≤ n ∧ n ≤ 400000) : ∃ x, m_laurelkit_Heap_Once_1 l p r n = some x ∧ HOK l x.h0_1 := by
  unfold m_laurelkit_Heap_Once_1
  rw [subc_eq (by omega), Option.bind_some]
  obtain ⟨x, hx, hb, hk⟩ := upto_ok (r := r) (n := n - 1) hl hp (by omega)
  rw [hx, Option.bind_some]
  exact ⟨_, rfl, hk⟩
theorem around_ok {l : List Int} {p r n wd : Int} (hl : l.length ≤ 9223372036854775807) (hp : HOK l p) (hn : 0 ≤ n ∧ n ≤ 30) (hw : 0 ≤ wd ∧ wd ≤ 10) : ∃ x, m_laurellaw09_around_1 l p r n wd = some x ∧ (0 ≤ x.r0.lo ∧ x.r0.lo ≤ n ∧ n ≤ x.r0.hi ∧ x.r0.hi ≤ 30) ∧ HOK l x.b0_1 := by
  unfold m_laurellaw09_around_1
  obtain ⟨x, hx, hb, hk⟩ := upto_ok (r := r) (n := wd) hl hp (by omega)
  rw [hx, Option.bind_some, subc_eq (by omega), Option.bind_some]
  obtain ⟨z, hz, hb2, hk2⟩ := upto_ok (r := x.h0_2) (n := wd) hl hk (by omega)
  rw [hz, Option.bind_some, addc_eq (by omega), Option.bind_some]
  exact ⟨_, rfl, by simp only; omega, hk2⟩
/-! ### who reaches -/
theorem m_reaches_eq {s : Scalps} (h6 : s.strips.length ≤ 1000) {t k : Nat} (hk : k ≤ 1000) : m_laurellaw09_reaches s (t : Int) (k : Int) = some (reachB s.strips t k) := by
  unfold m_laurellaw09_reaches reachB
  have key := iterM_any0 (f := m_laurellaw09_reaches_L0 s (t : Int) (k : Int)) s.strips.length (fun j => decide (j ≤ k + 1 ∧ k ≤ j + 1 ∧ (s.strips.getD j default).tenant = (t : Int))) true (fun j hj => ?_) ?_ (N := FU) (FU_lt (by omega))
  · rw [key, Option.bind_some]
    cases h : (List.range s.strips.length).any fun j => decide (j ≤ k + 1 ∧ k ≤ j + 1 ∧ (s.strips.getD j default).tenant = (t : Int)) <;> rfl
  · unfold m_laurellaw09_reaches_L0
    have hlt : (j : Int) < (s.strips.length : Int) := by omega
    rw [if_pos hlt, ix_nat default hj, Option.bind_some]
    by_cases ht : (s.strips.getD j default).tenant = (t : Int)
    · rw [if_pos ht, subc_eq (by omega), Option.bind_some, subc_eq (by omega), Option.bind_some, Option.bind_some]
      by_cases hd : j ≤ k + 1 ∧ k ≤ j + 1
      · rw [if_pos (decide_eq_true (show max ((j : Int) - (k : Int)) ((k : Int) - (j : Int)) < 2 by omega)), if_pos (decide_eq_true ⟨hd.1, hd.2, ht⟩)]
      · rw [if_neg (fun h => by have := of_decide_eq_true h; omega), if_neg (fun h => by have := of_decide_eq_true h; omega), addc_eq (by omega), Option.bind_some]
    · rw [if_neg ht, Option.bind_some, if_neg (by simp), if_neg (fun h => ht (of_decide_eq_true h).2.2), addc_eq (by omega), Option.bind_some]
  · unfold m_laurellaw09_reaches_L0
    rw [if_neg (by omega)]
theorem reachB_congr {a b : List Strip} (h : a.map (·.tenant) = b.map (·.tenant)) (t k : Nat) : reachB a t k = reachB b t k := by
  have hl : a.length = b.length := by have := congrArg List.length h; simpa using this
  unfold reachB
  rw [hl, Bool.eq_iff_iff, List.any_eq_true, List.any_eq_true]
  have hg : ∀ j, j < b.length → (a.getD j default).tenant = (b.getD j default).tenant := fun j hj => by
    have h2 : (a.map (·.tenant))[j]? = (b.map (·.tenant))[j]? := by rw [h]
    rw [List.getElem?_map, List.getElem?_map] at h2
    rw [List.getD_eq_getElem?_getD, List.getD_eq_getElem?_getD, List.getElem?_eq_getElem (by omega), List.getElem?_eq_getElem hj]
    rw [List.getElem?_eq_getElem (by omega), List.getElem?_eq_getElem hj] at h2
    simpa using h2
  constructor
  · rintro ⟨j, h1, h2⟩
    obtain ⟨a1, a2, a3⟩ := of_decide_eq_true h2
    exact ⟨j, h1, decide_eq_true ⟨a1, a2, by rw [← hg j (List.mem_range.1 h1)]; exact a3⟩⟩
  · rintro ⟨j, h1, h2⟩
    obtain ⟨a1, a2, a3⟩ := of_decide_eq_true h2
    exact ⟨j, h1, decide_eq_true ⟨a1, a2, by rw [hg j (List.mem_range.1 h1)]; exact a3⟩⟩
/-! ### scalps out of bytes -/
def rowsM (T S : Nat) (y : Nat → Nat → Int) (j k : Nat) : List (List Int) := (List.range T).map fun t => if t < j then (List.range S).map (y t) else if t = j then (List.range k).map (y t) else []
def putY (y : Nat → Nat → Int) (t k : Nat) (n : Int) : Nat → Nat → Int := fun t' k' => if t' = t ∧ k' = k then n else y t' k'
theorem rowsM_next {T S : Nat} {y : Nat → Nat → Int} {j : Nat} : rowsM T S y j S = rowsM T S y (j + 1) 0 := by
  unfold rowsM
  refine List.map_congr_left fun t _ => ?_
  by_cases h1 : t < j
  · rw [if_pos h1, if_pos (by omega)]
  · rw [if_neg h1]
    by_cases h2 : t = j
    · rw [if_pos h2, if_pos (by omega)]
    · rw [if_neg h2, if_neg (by omega)]
      split <;> rfl
theorem rowsM_put {T S : Nat} {y : Nat → Nat → Int} {j k : Nat} {n : Int} : (rowsM T S y j k).set j ((List.range k).map (y j) ++ [n]) = rowsM T S (putY y j k n) j (k + 1) := by
  unfold rowsM
  rw [range_set]
  refine List.map_congr_left fun t _ => ?_
  by_cases h2 : t = j
  · subst h2
    rw [if_pos rfl, if_neg (Nat.lt_irrefl _), if_pos rfl, List.range_succ, List.map_append]
    congr 1
    · refine List.map_congr_left fun i hi => ?_
      have := List.mem_range.1 hi
      unfold putY
      rw [if_neg (by omega)]
    · simp [putY]
  · rw [if_neg h2, if_neg h2]
    by_cases h1 : t < j
    · rw [if_pos h1, if_pos h1]
      refine List.map_congr_left fun i hi => ?_
      unfold putY
      rw [if_neg (by omega)]
    · rw [if_neg h1, if_neg h1, if_neg h2]
theorem rowsM_at {T S : Nat} {y : Nat → Nat → Int} {j k : Nat} (h : j < T) : ix (rowsM T S y j k) (j : Int) = some ((List.range k).map (y j)) := by
  unfold rowsM
  rw [range_ix h, if_neg (Nat.lt_irrefl _), if_pos rfl]
theorem rowsM_mat {T S : Nat} {y : Nat → Nat → Int} : rowsM T S y T 0 = mat T S y := by
  unfold rowsM mat
  refine List.map_congr_left fun t ht => ?_
  rw [if_pos (List.mem_range.1 ht)]
def YOK (st : List Strip) (y : Nat → Nat → Int) : Prop := ∀ t k, 0 ≤ y t k ∧ y t k ≤ 4 ∧ (0 < y t k → reachB st t k = true)
theorem putY_sum {y : Nat → Nat → Int} {t k : Nat} {n : Int} : sumTo (putY y t k n t) (k + 1) = sumTo (y t) k + n := by
  simp only [sumTo]
  rw [sumTo_congr (g := y t) (fun i hi => by unfold putY; rw [if_neg (by omega)])]
  unfold putY
  rw [if_pos ⟨rfl, rfl⟩]
theorem putY_row {y : Nat → Nat → Int} {t k t' S : Nat} {n : Int} (h : t' ≠ t) : sumTo (putY y t k n t') S = sumTo (y t') S := by
  refine sumTo_congr fun i _ => ?_
  unfold putY
  rw [if_neg (fun e => h e.1)]
end Go.Proofs.Ws

namespace Go.Proofs.Ws
open Go Go.Fw Go.Gx Go.Sp
set_option linter.unusedVariables false
theorem made_L0 {l : List Int} (hl : l.length ≤ 9223372036854775807) {t24 t27 : m_laurelkit_Heap_From_1_R} (hS : 1 ≤ t24.r0 ∧ t24.r0 ≤ 6) (hT : 1 ≤ t27.r0 ∧ t27.r0 ≤ 5) {p r : Int} (hp : HOK l p) :
    ∃ o, iterM FU (m_laurellaw09_Made_1_L0 t24 t27 l) ⟨0, p, r, []⟩ = some o ∧ HOK l o.b0_1 ∧ (o.s8_strips.length : Int) = t24.r0 ∧ ∀ x, x ∈ o.s8_strips → 0 ≤ x.tenant ∧ x.tenant < t27.r0 := by
  refine iterM_inv (f := m_laurellaw09_Made_1_L0 t24 t27 l) (fun s => 0 ≤ s.t29 ∧ s.t29 ≤ t24.r0 ∧ HOK l s.b0_1 ∧ (s.s8_strips.length : Int) = s.t29 ∧ ∀ x, x ∈ s.s8_strips → 0 ≤ x.tenant ∧ x.tenant < t27.r0) (fun s => (t24.r0 - s.t29).toNat) _ (fun s hs => ?_) FU _ (FU_lt (by simp only; omega)) ⟨by simp, by simp only; omega, hp, rfl, by simp⟩
  obtain ⟨h0, h1, hk, hlen, hx⟩ := hs
  unfold m_laurellaw09_Made_1_L0
  by_cases hlt : s.t29 < t24.r0
  · left
    rw [if_pos hlt, subc_eq (by omega), Option.bind_some]
    obtain ⟨z, hz, hb, hk2⟩ := upto_ok (r := s.b0_2) (n := t27.r0 - 1) hl hk (by omega)
    rw [hz, Option.bind_some, appc_eq (by simp only [List.length_cons, List.length_nil]; omega), Option.bind_some, addc_eq (by omega), Option.bind_some]
    refine ⟨_, rfl, ⟨by simp only; omega, by simp only; omega, hk2, by simp only [List.length_append, List.length_cons, List.length_nil]; omega, fun x hx' => ?_⟩, by simp only; omega⟩
    rcases List.mem_append.1 hx' with h | h
    · exact hx x h
    · rw [List.mem_singleton] at h
      subst h
      simp only; omega
  · right
    rw [if_neg hlt]
    exact ⟨_, rfl, hk, by simp only; omega, hx⟩
theorem made_L2 {l : List Int} (hl : l.length ≤ 9223372036854775807) {t24 : m_laurelkit_Heap_From_1_R} {o : m_laurellaw09_Made_1_C0} {T : Nat} (hT : T ≤ 5) (hS : (o.s8_strips.length : Int) = t24.r0) (h6 : o.s8_strips.length ≤ 6) {s1 : m_laurellaw09_Made_1_S1} {j : Nat} (hj : j < T) (hsj : s1.t46 = (j : Int)) {y : Nat → Nat → Int} (hy : YOK o.s8_strips y) {p r : Int} (hp : HOK l p) :
    ∃ o2, iterM FU (m_laurellaw09_Made_1_L2 t24 o s1 l) ⟨0, 0, p, r, rowsM T o.s8_strips.length y j 0⟩ = some o2 ∧ HOK l o2.b0_1 ∧ ∃ y', YOK o.s8_strips y' ∧ o2.real11 = rowsM T o.s8_strips.length y' j o.s8_strips.length ∧ o2.sum13 = sumTo (y' j) o.s8_strips.length ∧ ∀ t, t ≠ j → sumTo (y' t) o.s8_strips.length = sumTo (y t) o.s8_strips.length := by
  refine iterM_inv (f := m_laurellaw09_Made_1_L2 t24 o s1 l) (fun s => ∃ k : Nat, s.t50 = (k : Int) ∧ k ≤ o.s8_strips.length ∧ HOK l s.b0_1 ∧ ∃ y', YOK o.s8_strips y' ∧ s.real11 = rowsM T o.s8_strips.length y' j k ∧ s.sum13 = sumTo (y' j) k ∧ ∀ t, t ≠ j → sumTo (y' t) o.s8_strips.length = sumTo (y t) o.s8_strips.length) (fun s => o.s8_strips.length - s.t50.toNat) _ (fun s hs => ?_) FU _ (FU_lt (by simp only; omega)) ⟨0, rfl, Nat.zero_le _, hp, y, hy, rfl, rfl, fun _ _ => rfl⟩
  obtain ⟨k, hk, hkle, hh, y', hy', hre, hsum, hoth⟩ := hs
  unfold m_laurellaw09_Made_1_L2
  rw [hk, hre, hsum]
  by_cases hlt : (k : Int) < t24.r0
  · left
    have hkl : k < o.s8_strips.length := by omega
    rw [if_pos hlt, hsj, m_reaches_eq (s := ⟨o.s8_strips, s1.s8_carried⟩) (by simp only; omega) (by omega), Option.bind_some]
    have hc : ∃ z : m_laurellaw09_Made_1_C3, (((if reachB o.s8_strips j k = true then ((ix o.s8_strips (k : Int)).bind fun t61 => if t61.tenant = (j : Int) then (some (⟨true, s.b0_1, s.b0_2⟩ : m_laurellaw09_Made_1_C4)) else ((m_laurelkit_Heap_Once_1 l s.b0_1 s.b0_2 4).bind fun t68 => some (⟨t68.r0, t68.h0_1, t68.h0_2⟩ : m_laurellaw09_Made_1_C4))) else (some (⟨false, s.b0_1, s.b0_2⟩ : m_laurellaw09_Made_1_C4))).bind fun o_4 => if o_4.t70 = true then ((m_laurelkit_Heap_Upto_1 l o_4.b0_1 o_4.b0_2 4).bind fun t72 => some (⟨t72.r0, t72.h0_1, t72.h0_2⟩ : m_laurellaw09_Made_1_C3)) else (some (⟨0, o_4.b0_1, o_4.b0_2⟩ : m_laurellaw09_Made_1_C3)))) = some z ∧ HOK l z.b0_1 ∧ 0 ≤ z.n15 ∧ z.n15 ≤ 4 ∧ (0 < z.n15 → reachB o.s8_strips j k = true) := by
      by_cases hr : reachB o.s8_strips j k = true
      · rw [if_pos hr, ix_nat default hkl, Option.bind_some]
        have hc4 : ∃ z4 : m_laurellaw09_Made_1_C4, (if (o.s8_strips.getD k default).tenant = (j : Int) then (some (⟨true, s.b0_1, s.b0_2⟩ : m_laurellaw09_Made_1_C4)) else ((m_laurelkit_Heap_Once_1 l s.b0_1 s.b0_2 4).bind fun t68 => some (⟨t68.r0, t68.h0_1, t68.h0_2⟩ : m_laurellaw09_Made_1_C4))) = some z4 ∧ HOK l z4.b0_1 := by
          split
          · exact ⟨_, rfl, hh⟩
          · obtain ⟨x, hx, hk2⟩ := once_ok (r := s.b0_2) (n := 4) hl hh (by omega)
            rw [hx, Option.bind_some]
            exact ⟨_, rfl, hk2⟩
        obtain ⟨z4, hz4, hk4⟩ := hc4
        rw [hz4, Option.bind_some]
        split
        · obtain ⟨x, hx, hb, hk2⟩ := upto_ok (r := z4.b0_2) (n := 4) hl hk4 (by omega)
          rw [hx, Option.bind_some]
          exact ⟨_, rfl, hk2, by simp only; omega, by simp only; omega, fun _ => hr⟩
        · exact ⟨_, rfl, hk4, by simp, by simp, fun _ => hr⟩
      · rw [if_neg hr, Option.bind_some, if_neg (by simp)]
        exact ⟨_, rfl, hh, by simp, by simp, fun h => absurd h (Int.lt_irrefl _)⟩
    obtain ⟨z, hz, hzk, hz0, hz4, hzr⟩ := hc
    rw [hz, Option.bind_some, rowsM_at hj, Option.bind_some, appc_eq (by simp only [List.length_map, List.length_range, List.length_cons, List.length_nil]; omega), Option.bind_some]
    have hb := sumTo_bound (f := y' j) (b := 4) (n := k) (fun i _ => ⟨(hy' j i).1, (hy' j i).2.1⟩)
    rw [addc_eq (by omega), Option.bind_some, Option.bind_some, Option.bind_some, addc_eq (by omega), Option.bind_some, show Int.toNat (j : Int) = j by omega, rowsM_put]
    refine ⟨_, rfl, ⟨k + 1, rfl, by omega, hzk, putY y' j k z.n15, fun t k' => ?_, rfl, ?_, fun t ht => ?_⟩, by simp only; omega⟩
    · unfold putY
      split
      · rename_i he
        obtain ⟨e1, e2⟩ := he
        subst e1; subst e2
        exact ⟨hz0, hz4, hzr⟩
      · exact hy' t k'
    · rw [putY_sum]
    · rw [putY_row ht]; exact hoth t ht
  · right
    have : k = o.s8_strips.length := by omega
    subst this
    rw [if_neg hlt]
    exact ⟨_, rfl, hh, y', hy', rfl, rfl, hoth⟩
structure CarOK (S : Nat) (y : Nat → Nat → Int) (ca : List Span) (n : Nat) : Prop where
  len : ca.length = n
  ok : ∀ t, t < n → 0 ≤ (hOf ca t).lo ∧ (hOf ca t).lo ≤ sumTo (y t) S ∧ sumTo (y t) S ≤ (hOf ca t).hi ∧ (hOf ca t).hi ≤ 30
theorem made_L1 {l : List Int} (hl : l.length ≤ 9223372036854775807) {t24 : m_laurelkit_Heap_From_1_R} {o : m_laurellaw09_Made_1_C0} {T : Nat} (hT : T ≤ 5) (hS : (o.s8_strips.length : Int) = t24.r0) (h6 : o.s8_strips.length ≤ 6) {t43 : List (List Int)} (h43 : t43.length = T) {p r : Int} (hp : HOK l p) :
    ∃ o1, iterM FU (m_laurellaw09_Made_1_L1 t43 t24 o l) ⟨0, p, r, rowsM T o.s8_strips.length (fun _ _ => 0) 0 0, []⟩ = some o1 ∧ HOK l o1.b0_1 ∧ ∃ y, YOK o.s8_strips y ∧ o1.real11 = mat T o.s8_strips.length y ∧ CarOK o.s8_strips.length y o1.s8_carried T := by
  refine iterM_inv (f := m_laurellaw09_Made_1_L1 t43 t24 o l) (fun s => ∃ j : Nat, s.t46 = (j : Int) ∧ j ≤ T ∧ HOK l s.b0_1 ∧ ∃ y, YOK o.s8_strips y ∧ s.real11 = rowsM T o.s8_strips.length y j 0 ∧ CarOK o.s8_strips.length y s.s8_carried j) (fun s => T - s.t46.toNat) _ (fun s hs => ?_) FU _ (FU_lt (by simp only; omega)) ⟨0, rfl, Nat.zero_le _, hp, fun _ _ => 0, fun t k => ⟨Int.le_refl _, (by decide : (0 : Int) ≤ 4), fun h => absurd h (Int.lt_irrefl _)⟩, rfl, rfl, fun t ht => by omega⟩
  obtain ⟨j, hj, hjle, hh, y, hy, hre, hca⟩ := hs
  have hcl := hca.len
  unfold m_laurellaw09_Made_1_L1
  rw [hj, hre, h43]
  by_cases hlt : (j : Int) < (T : Int)
  · left
    rw [if_pos hlt]
    obtain ⟨o2, ho2, hk2, y', hy', hre', hsum', hoth⟩ := made_L2 hl (t24 := t24) hT hS h6 (s1 := s) (j := j) (by omega) hj hy (r := s.b0_2) hh
    rw [ho2, Option.bind_some, hsum']
    have hb := sumTo_bound (f := y' j) (b := 4) (n := o.s8_strips.length) (fun i _ => ⟨(hy' j i).1, (hy' j i).2.1⟩)
    obtain ⟨x, hx, hb2, hk3⟩ := around_ok (r := o2.b0_2) (n := sumTo (y' j) o.s8_strips.length) (wd := 2) hl hk2 (by omega) (by omega)
    rw [hx, Option.bind_some, appc_eq (by simp only [List.length_cons, List.length_nil]; omega), Option.bind_some, addc_eq (by omega), Option.bind_some]
    refine ⟨_, rfl, ⟨j + 1, rfl, by omega, hk3, y', hy', ?_, ?_, fun t ht => ?_⟩, by simp only; omega⟩
    · simp only; rw [hre', rowsM_next]
    · simp only [List.length_append, List.length_cons, List.length_nil]; omega
    · unfold hOf
      simp only
      rw [List.getD_eq_getElem?_getD]
      by_cases htj : t = j
      · subst htj
        rw [List.getElem?_append_right (by omega), hcl, Nat.sub_self]
        simp only [List.getElem?_cons_zero, Option.getD_some]
        omega
      · rw [List.getElem?_append_left (by omega), hoth t htj]
        have := hca.ok t (by omega)
        unfold hOf at this
        rw [List.getD_eq_getElem?_getD] at this
        exact this
  · right
    have : j = T := by omega
    subst this
    rw [if_neg hlt]
    exact ⟨_, rfl, hh, y, hy, by simp only; rw [rowsM_mat], hca⟩
theorem made_L4 {T S : Nat} (hT : T ≤ 5) {o1 : m_laurellaw09_Made_1_C1} {y : Nat → Nat → Int} (hy : ∀ t k, 0 ≤ y t k ∧ y t k ≤ 4) (hr : o1.real11 = mat T S y) {s3 : m_laurellaw09_Made_1_S3} {k : Nat} (hk : k < S) (hs : s3.t97 = (k : Int)) :
    iterM FU (m_laurellaw09_Made_1_L4 o1 s3) ⟨0, 0⟩ = some (sumTo (fun t => y t k) T) := by
  have key := iterM_run (f := m_laurellaw09_Made_1_L4 o1 s3) (fun j => ⟨sumTo (fun t => y t k) j, (j : Int)⟩) T (b := sumTo (fun t => y t k) T) (fun j hj => ?_) ?_ FU (FU_lt (by omega))
  · exact key
  · unfold m_laurellaw09_Made_1_L4
    have hlt : (j : Int) < (o1.real11.length : Int) := by rw [hr]; simp [mat]; omega
    simp only
    have hb := sumTo_bound (f := fun t => y t k) (b := 4) (n := j) (fun i _ => hy i k)
    have hb2 := hy j k
    rw [if_pos hlt, hr, mat_row hj, Option.bind_some, hs, range_ix hk, Option.bind_some, addc_eq (by omega), Option.bind_some, addc_eq (by omega), Option.bind_some]
    rfl
  · unfold m_laurellaw09_Made_1_L4
    simp only
    rw [if_neg (by rw [hr]; simp [mat])]
structure StOK (T : Nat) (y : Nat → Nat → Int) (x : Strip) (k : Nat) : Prop where
  a : In30 x.lay
  b : In30 x.seeded
  c : In30 x.left
  o1 : x.lay.lo ≤ x.lay.hi
  o2 : x.seeded.lo ≤ x.seeded.hi
  o3 : x.left.lo ≤ x.left.hi
  g1 : (goneP x).lo ≤ sumTo (fun t => y t k) T
  g2 : sumTo (fun t => y t k) T ≤ (goneP x).hi
theorem made_L3 {l : List Int} (hl : l.length ≤ 9223372036854775807) {t24 : m_laurelkit_Heap_From_1_R} {st : List Strip} {T : Nat} (hT : T ≤ 5) (hS : (st.length : Int) = t24.r0) (h6 : st.length ≤ 6) {o1 : m_laurellaw09_Made_1_C1} {y : Nat → Nat → Int} (hy : ∀ t k, 0 ≤ y t k ∧ y t k ≤ 4) (hr : o1.real11 = mat T st.length y) {p r : Int} (hp : HOK l p) :
    ∃ o5, iterM FU (m_laurellaw09_Made_1_L3 t24 o1 l) ⟨0, p, r, st⟩ = some o5 ∧ HOK l o5.b0_1 ∧ o5.s8_strips.map (·.tenant) = st.map (·.tenant) ∧ ∀ k, k < st.length → StOK T y (o5.s8_strips.getD k default) k := by
  refine iterM_inv (f := m_laurellaw09_Made_1_L3 t24 o1 l) (fun s => ∃ k : Nat, s.t97 = (k : Int) ∧ k ≤ st.length ∧ HOK l s.b0_1 ∧ s.s8_strips.map (·.tenant) = st.map (·.tenant) ∧ ∀ i, i < k → StOK T y (s.s8_strips.getD i default) i) (fun s => st.length - s.t97.toNat) _ (fun s hs => ?_) FU _ (FU_lt (by simp only; omega)) ⟨0, rfl, Nat.zero_le _, hp, rfl, fun i hi => by omega⟩
  obtain ⟨k, hk, hkle, hh, hten, hok⟩ := hs
  have hlen : s.s8_strips.length = st.length := by have := congrArg List.length hten; simpa using this
  unfold m_laurellaw09_Made_1_L3
  by_cases hlt : (k : Int) < t24.r0
  · left
    have hkl : k < st.length := by omega
    rw [hk, if_pos hlt, made_L4 hT hy hr hkl hk, Option.bind_some]
    have hb := sumTo_bound (f := fun t => y t k) (b := 4) (n := T) (fun i _ => hy i k)
    generalize hg : sumTo (fun t => y t k) T = g at hb
    obtain ⟨x1, e1, b1, k1⟩ := upto_ok (r := s.b0_2) (n := 3) hl hh (by omega)
    rw [e1, Option.bind_some]
    obtain ⟨x2, e2, b2, k2⟩ := upto_ok (r := x1.h0_2) (n := 2) hl k1 (by omega)
    rw [e2, Option.bind_some, addc_eq (by omega), Option.bind_some, ix_nat default (by omega), Option.bind_some, Option.bind_some, subc_eq (by omega), Option.bind_some]
    obtain ⟨x3, e3, b3, k3⟩ := around_ok (r := x2.h0_2) (n := g + x1.r0 - min x2.r0 (g + x1.r0)) (wd := 1) hl k2 (by omega) (by omega)
    rw [e3, Option.bind_some]
    obtain ⟨x4, e4, b4, k4⟩ := around_ok (r := x3.b0_2) (n := min x2.r0 (g + x1.r0)) (wd := 1) hl k3 (by omega) (by omega)
    rw [e4, Option.bind_some]
    obtain ⟨x5, e5, b5, k5⟩ := around_ok (r := x4.b0_2) (n := x1.r0) (wd := 1) hl k4 (by omega) (by omega)
    rw [e5, Option.bind_some, Option.bind_some, show Int.toNat (k : Int) = k by omega, ix_nat default (by rw [List.length_set]; omega), Option.bind_some, Option.bind_some, ix_nat default (by rw [List.length_set, List.length_set]; omega), Option.bind_some, Option.bind_some, addc_eq (by omega), Option.bind_some]
    have hgs : ∀ (l : List Strip) (v : Strip), k < l.length → (l.set k v).getD k default = v := fun l v h => by
      rw [List.getD_eq_getElem?_getD, List.getElem?_set_self h]; rfl
    rw [hgs _ _ (by omega), hgs _ _ (by rw [List.length_set]; omega), List.set_set, List.set_set]
    simp only
    refine ⟨_, rfl, ⟨k + 1, rfl, by omega, k5, ?_, fun i hi => ?_⟩, by simp only; omega⟩
    · simp only
      rw [List.map_set]
      simp only
      rw [← hten]
      apply List.ext_getElem?
      intro i
      rw [List.getElem?_set]
      by_cases hik : k = i
      · subst hik
        rw [if_pos rfl, if_pos (by rw [List.length_map]; omega), List.getElem?_map, List.getD_eq_getElem?_getD, List.getElem?_eq_getElem (by omega)]
        rfl
      · rw [if_neg hik]
    · by_cases hik : i = k
      · subst hik
        rw [hgs _ _ (by omega)]
        unfold In30 at *
        refine ⟨by unfold In30; simp only; omega, by unfold In30; simp only; omega, by unfold In30; simp only; omega, by simp only; omega, by simp only; omega, by simp only; omega, ?_, ?_⟩
        · rw [hg]; unfold goneP; simp only; omega
        · rw [hg]; unfold goneP; simp only; omega
      · simp only
        rw [List.getD_eq_getElem?_getD, List.getElem?_set_ne (fun e => hik e.symm), ← List.getD_eq_getElem?_getD]
        exact hok i (by omega)
  · right
    have : k = st.length := by omega
    subst this
    rw [hk, if_neg hlt]
    exact ⟨_, rfl, hh, hten, hok⟩
/-- scalps with shares that fit -/
theorem Made_spec {l : List Int} (hl : l.length ≤ 9223372036854775807) {p r S0 T0 : Int} (hp : HOK l p) (hS : 1 ≤ S0 ∧ S0 ≤ 6) (hT : 1 ≤ T0 ∧ T0 ≤ 5) :
    ∃ x y, m_laurellaw09_Made_1 l p r S0 T0 = some x ∧ HOK l x.b0_1 ∧ Right x.r0 ∧ x.r1 = mat x.r0.carried.length x.r0.strips.length y ∧ FitsS x.r0 y ∧ YOK x.r0.strips y ∧ (x.r0.strips.length : Int) ≤ S0 ∧ (x.r0.carried.length : Int) ≤ T0 := by
  unfold m_laurellaw09_Made_1
  obtain ⟨t24, e24, b24, k24⟩ := from_ok (r := r) (lo := 1) (hi := S0) hl hp (by omega)
  rw [e24, Option.bind_some]
  obtain ⟨t27, e27, b27, k27⟩ := from_ok (r := t24.h0_2) (lo := 1) (hi := T0) hl k24 (by omega)
  rw [e27, Option.bind_some]
  obtain ⟨o, eo, ko, lo, to⟩ := made_L0 (t24 := t24) (t27 := t27) (r := t27.h0_2) hl (by omega) (by omega) k27
  rw [eo, Option.bind_some, makec_eq (by omega), Option.bind_some]
  obtain ⟨T, hTn⟩ : ∃ T : Nat, t27.r0 = (T : Int) := ⟨t27.r0.toNat, by omega⟩
  have hrep : List.replicate t27.r0.toNat ([] : List Int) = rowsM T o.s8_strips.length (fun _ _ => 0) 0 0 := by
    unfold rowsM
    symm
    rw [List.eq_replicate_iff]
    refine ⟨by simp; omega, fun b hb => ?_⟩
    obtain ⟨t, _, rfl⟩ := List.mem_map.1 hb
    simp
  obtain ⟨o1, e1, k1, y, hy, hr1, hca⟩ := made_L1 (l := l) hl (t24 := t24) (o := o) (T := T) (by omega) lo (by omega) (t43 := List.replicate t27.r0.toNat ([] : List Int)) (by simp; omega) (r := o.b0_2) ko
  rw [← hrep] at e1
  rw [e1, Option.bind_some]
  obtain ⟨o5, e5, k5, ht5, hs5⟩ := made_L3 (l := l) hl (t24 := t24) (st := o.s8_strips) (T := T) (by omega) lo (by omega) (o1 := o1) (y := y) (fun t k => ⟨(hy t k).1, (hy t k).2.1⟩) hr1 (r := o1.b0_2) k1
  rw [e5, Option.bind_some]
  have hl5 : o5.s8_strips.length = o.s8_strips.length := by have := congrArg List.length ht5; simpa using this
  have hcl := hca.len
  have hre : ∀ t k, reachB o5.s8_strips t k = reachB o.s8_strips t k := reachB_congr ht5
  have hst : ∀ x, x ∈ o5.s8_strips → ∃ k, k < o.s8_strips.length ∧ StOK T y x k := fun x hx => by
    obtain ⟨k, hk, rfl⟩ := List.getElem_of_mem hx
    have := hs5 k (by omega)
    rw [List.getD_eq_getElem?_getD, List.getElem?_eq_getElem hk] at this
    exact ⟨k, by omega, this⟩
  refine ⟨_, y, rfl, k5, ⟨⟨by simp only; omega, by simp only; omega, fun x hx => ?_, fun x hx => ?_⟩, by simp only; omega, by simp only; omega, fun x hx => ?_, fun x hx => ?_⟩, ?_, ⟨fun t k ht hk => ?_, fun t ht => ?_, fun k hk => ?_⟩, fun t k => ?_, by simp only; omega, by simp only; omega⟩
  · obtain ⟨k, hk, h⟩ := hst x hx
    exact ⟨h.a, h.b, h.c, Int.le_trans h.g1 h.g2⟩
  · obtain ⟨t, ht, rfl⟩ := List.getElem_of_mem hx
    simp only at ht
    have := hca.ok t (by omega)
    unfold hOf at this
    rw [List.getD_eq_getElem?_getD, List.getElem?_eq_getElem ht, Option.getD_some] at this
    unfold In30
    simp only
    omega
  · have hm : x.tenant ∈ o5.s8_strips.map (·.tenant) := List.mem_map.2 ⟨x, hx, rfl⟩
    rw [ht5] at hm
    obtain ⟨x', hx', he⟩ := List.mem_map.1 hm
    have := to x' hx'
    rw [he] at this
    simp only
    omega
  · obtain ⟨k, hk, h⟩ := hst x hx
    exact ⟨h.o1, h.o2, h.o3⟩
  · simp only
    rw [hr1, hcl, hl5]
  · simp only at ht hk ⊢
    rw [hre]
    exact ⟨(hy t k).1, (hy t k).2.2⟩
  · simp only at ht ⊢
    rw [hl5]
    have := hca.ok t (by omega)
    exact ⟨this.2.1, this.2.2.1⟩
  · simp only at hk ⊢
    rw [hcl]
    have := hs5 k (by omega)
    exact ⟨this.g1, this.g2⟩
  · simp only
    rw [hre]
    exact hy t k
end Go.Proofs.Ws

namespace Go.Proofs.Ws
open Go Go.Fw Go.Gx Go.Sp
set_option linter.unusedVariables false
/-! ### whether shares fit -/
def okE (s : Scalps) (t k : Nat) (n : Int) : Bool := decide (0 ≤ n ∧ n ≤ 60 ∧ (0 < n → reachB s.strips t k = true))
def rowV (row : List Int) (k : Nat) : Int := row.getD k 0
def rowB (s : Scalps) (t : Nat) (row : List Int) : Bool := decide (row.length = s.strips.length) && ((List.range s.strips.length).all (fun k => okE s t k (rowV row k)) && decide ((hOf s.carried t).lo ≤ sumTo (rowV row) s.strips.length ∧ sumTo (rowV row) s.strips.length ≤ (hOf s.carried t).hi))
def shV (rows : List (List Int)) (t k : Nat) : Int := rowV (rows.getD t []) k
def colB (s : Scalps) (rows : List (List Int)) (k : Nat) : Bool := decide ((gOf s.strips k).lo ≤ sumTo (fun t => shV rows t k) s.carried.length ∧ sumTo (fun t => shV rows t k) s.carried.length ≤ (gOf s.strips k).hi)
def fitsB (s : Scalps) (rows : List (List Int)) : Bool := decide (rows.length = s.carried.length) && ((List.range s.carried.length).all (fun t => rowB s t (rows.getD t [])) && (List.range s.strips.length).all (colB s rows))
theorem lawGone_eq (x : Strip) : m_laurellaw09_gone x = m_strip_Strip_gone x := rfl
theorem okE_iff {s : Scalps} {t k : Nat} {n : Int} : okE s t k n = true ↔ 0 ≤ n ∧ n ≤ 60 ∧ (0 < n → reachB s.strips t k = true) := decide_eq_true_iff
def vecS (S : Nat) (f : Nat → Int) : List Int := (List.range S).map f
theorem vecS_set {S k : Nat} {f : Nat → Int} {v : Int} : (vecS S f).set k v = vecS S fun i => if i = k then v else f i := range_set
theorem vecS_ix {S k : Nat} {f : Nat → Int} (h : k < S) : ix (vecS S f) (k : Int) = some (f k) := range_ix h
theorem vecS_len {S : Nat} {f : Nat → Int} : (vecS S f).length = S := by simp [vecS]
theorem vecS_congr {S : Nat} {f g : Nat → Int} (h : ∀ i, i < S → f i = g i) : vecS S f = vecS S g := List.map_congr_left fun i hi => h i (List.mem_range.1 hi)
theorem all_find {n : Nat} {p : Nat → Bool} : (List.range n).all p = ((List.range n).find? fun k => !p k).isNone := by
  rw [Bool.eq_iff_iff, List.all_eq_true, Option.isNone_iff_eq_none, List.find?_eq_none]
  constructor
  · intro h x hx; simp [h x hx]
  · intro h x hx; simpa using h x hx
theorem fits_L1 {s : Scalps} (h6 : s.strips.length ≤ 6) {t : Nat} {row : List Int} (hrow : row.length = s.strips.length) {f : Nat → Int} (hf : ∀ k, 0 ≤ f k ∧ f k ≤ 1000) {s0 : m_laurellaw09_fits_S0} (hs0 : s0.t26 = (t : Int)) :
    iterM FU (m_laurellaw09_fits_L1 row s s0) ⟨0, 0, vecS s.strips.length f⟩ = some (if (List.range s.strips.length).all (fun k => okE s t k (rowV row k)) = true then .inl ⟨sumTo (rowV row) s.strips.length, vecS s.strips.length fun k => f k + rowV row k⟩ else .inr false) := by
  have key := iterM_find (f := m_laurellaw09_fits_L1 row s s0) (fun k => ⟨sumTo (rowV row) k, (k : Int), vecS s.strips.length fun i => if i < k then f i + rowV row i else f i⟩) s.strips.length (fun k => !okE s t k (rowV row k)) (fun _ => .inr false) (.inl ⟨sumTo (rowV row) s.strips.length, vecS s.strips.length fun k => f k + rowV row k⟩) (fun k hk hprev => ?_) ?_ (N := FU) (FU_lt (by omega))
  · have e : (⟨0, 0, vecS s.strips.length f⟩ : m_laurellaw09_fits_S1) = ⟨sumTo (rowV row) 0, ((0 : Nat) : Int), vecS s.strips.length fun i => if i < 0 then f i + rowV row i else f i⟩ := by
      have : vecS s.strips.length f = vecS s.strips.length fun i => if i < 0 then f i + rowV row i else f i := vecS_congr fun i _ => by rw [if_neg (by omega)]
      rw [← this]; rfl
    rw [e, key, all_find]
    cases (List.range s.strips.length).find? (fun k => !okE s t k (rowV row k)) with
    | none => rfl
    | some k => rfl
  · unfold m_laurellaw09_fits_L1
    have hlt : (k : Int) < (row.length : Int) := by omega
    have hb : ∀ n, n ≤ k → 0 ≤ sumTo (rowV row) n ∧ sumTo (rowV row) n ≤ 60 * (n : Int) := fun n hn => sumTo_bound (f := rowV row) (b := 60) fun i hi => by
      have := hprev i (by omega)
      rw [Bool.not_eq_false'] at this
      have := okE_iff.1 this
      omega
    have hbk := hb k (Nat.le_refl _)
    simp only
    rw [if_pos hlt, ix_nat 0 (by omega), Option.bind_some]
    have hc : (if row.getD k 0 < 0 then some true else if 60 < row.getD k 0 then some true else if 0 < row.getD k 0 then (m_laurellaw09_reaches s s0.t26 (k : Int)).bind fun t56 => some (!t56) else some false) = some (!okE s t k (rowV row k)) := by
      rw [hs0, m_reaches_eq (by omega) (by omega), Option.bind_some]
      unfold rowV
      generalize row.getD k 0 = n
      by_cases h1 : n < 0
      · rw [if_pos h1]
        have : okE s t k n = false := by rw [← Bool.not_eq_true, okE_iff]; omega
        rw [this]; rfl
      · rw [if_neg h1]
        by_cases h2 : 60 < n
        · rw [if_pos h2]
          have : okE s t k n = false := by rw [← Bool.not_eq_true, okE_iff]; omega
          rw [this]; rfl
        · rw [if_neg h2]
          by_cases h3 : 0 < n
          · rw [if_pos h3]
            have : okE s t k n = reachB s.strips t k := by
              rw [Bool.eq_iff_iff, okE_iff]
              exact ⟨fun h => h.2.2 h3, fun h => ⟨by omega, by omega, fun _ => h⟩⟩
            rw [this]
          · rw [if_neg h3]
            have : okE s t k n = true := okE_iff.2 ⟨by omega, by omega, fun h => absurd h h3⟩
            rw [this]; rfl
    rw [hc, Option.bind_some]
    cases hok : okE s t k (rowV row k) with
    | false => rfl
    | true =>
      have hok' := okE_iff.1 hok
      have hfk := hf k
      simp only [Bool.not_true, Bool.false_eq_true, if_false]
      unfold rowV at hok' hbk ⊢
      rw [addc_eq (by omega), Option.bind_some, vecS_ix hk, Option.bind_some, if_neg (Nat.lt_irrefl _), addc_eq (by omega), Option.bind_some, Option.bind_some, Option.bind_some, addc_eq (by omega), Option.bind_some, show Int.toNat (k : Int) = k by omega, vecS_set]
      congr 3
      refine vecS_congr fun i _ => ?_
      by_cases hik : i = k
      · subst hik; rw [if_pos rfl, if_pos (by omega)]
      · rw [if_neg hik]
        by_cases h2 : i < k
        · rw [if_pos h2, if_pos (by omega)]
        · rw [if_neg h2, if_neg (by omega)]
  · unfold m_laurellaw09_fits_L1
    simp only
    rw [if_neg (by omega)]
    congr 3
    congr 1
    refine vecS_congr fun i hi => ?_
    rw [if_pos hi]
theorem fits_L0 {s : Scalps} (h6 : s.strips.length ≤ 6) (h5 : s.carried.length ≤ 5) {rows : List (List Int)} (hrows : rows.length = s.carried.length) :
    iterM FU (m_laurellaw09_fits_L0 rows s) ⟨0, vecS s.strips.length fun _ => 0⟩ = some (if (List.range s.carried.length).all (fun t => rowB s t (rows.getD t [])) = true then .inl (vecS s.strips.length fun k => sumTo (fun t => shV rows t k) s.carried.length) else .inr false) := by
  have key := iterM_find (f := m_laurellaw09_fits_L0 rows s) (fun t => ⟨(t : Int), vecS s.strips.length fun k => sumTo (fun t => shV rows t k) t⟩) s.carried.length (fun t => !rowB s t (rows.getD t [])) (fun _ => .inr false) (.inl (vecS s.strips.length fun k => sumTo (fun t => shV rows t k) s.carried.length)) (fun t ht hprev => ?_) ?_ (N := FU) (FU_lt (by omega))
  · have e : (⟨0, vecS s.strips.length fun _ => 0⟩ : m_laurellaw09_fits_S0) = ⟨((0 : Nat) : Int), vecS s.strips.length fun k => sumTo (fun t => shV rows t k) 0⟩ := rfl
    rw [e, key, all_find]
    cases (List.range s.carried.length).find? (fun t => !rowB s t (rows.getD t [])) with
    | none => rfl
    | some k => rfl
  · unfold m_laurellaw09_fits_L0
    have hlt : (t : Int) < (rows.length : Int) := by omega
    simp only
    rw [if_pos hlt, ix_nat [] (by omega), Option.bind_some, vecS_len]
    by_cases hlen : (rows.getD t []).length = s.strips.length
    · rw [if_pos (by omega)]
      have hbd : ∀ k, 0 ≤ (if k < s.strips.length then sumTo (fun t => shV rows t k) t else 0) ∧ (if k < s.strips.length then sumTo (fun t => shV rows t k) t else 0) ≤ 1000 := fun k => by
        by_cases hk : k < s.strips.length
        · rw [if_pos hk]
          have := sumTo_bound (f := fun t => shV rows t k) (b := 60) (n := t) (fun i hi => by
            have := hprev i hi
            rw [Bool.not_eq_false'] at this
            unfold rowB at this
            rw [Bool.and_eq_true, Bool.and_eq_true] at this
            have := okE_iff.1 (List.all_eq_true.1 this.2.1 k (List.mem_range.2 hk))
            unfold shV
            omega)
          omega
        · rw [if_neg hk]; omega
      have hL := fits_L1 h6 (t := t) hlen (f := fun k => if k < s.strips.length then sumTo (fun t => shV rows t k) t else 0) hbd (s0 := ⟨(t : Int), vecS s.strips.length fun k => sumTo (fun t => shV rows t k) t⟩) rfl
      rw [vecS_congr (f := fun k => if k < s.strips.length then sumTo (fun t => shV rows t k) t else 0) (g := fun k => sumTo (fun t => shV rows t k) t) (fun i hi => if_pos hi)] at hL
      rw [vecS_congr (f := fun k => (if k < s.strips.length then sumTo (fun t => shV rows t k) t else 0) + rowV (rows.getD t []) k) (g := fun k => sumTo (fun t => shV rows t k) (t + 1)) (fun i hi => by rw [if_pos hi]; rfl)] at hL
      rw [hL, Option.bind_some]
      unfold rowB
      rw [decide_eq_true hlen, Bool.true_and]
      by_cases hall : (List.range s.strips.length).all (fun k => okE s t k (rowV (rows.getD t []) k)) = true
      · rw [if_pos hall, oc_inl, hall, Bool.true_and]
        simp only
        rw [ix_nat default ht, Option.bind_some, Option.bind_some]
        unfold hOf
        by_cases h1 : sumTo (rowV (rows.getD t [])) s.strips.length < (s.carried.getD t default).lo
        · rw [if_pos h1, Option.bind_some, if_pos rfl, decide_eq_false (fun h => by omega)]; rfl
        · rw [if_neg h1, Option.bind_some]
          by_cases h2 : (s.carried.getD t default).hi < sumTo (rowV (rows.getD t [])) s.strips.length
          · rw [decide_eq_true h2, if_pos rfl, decide_eq_false (fun h => by omega)]; rfl
          · rw [decide_eq_false h2, if_neg (by simp), decide_eq_true ⟨by omega, by omega⟩, addc_eq (by omega), Option.bind_some]; rfl
      · have hf : (List.range s.strips.length).all (fun k => okE s t k (rowV (rows.getD t []) k)) = false := by simpa using hall
        rw [if_neg hall, oc_inr, hf]; rfl
    · rw [if_neg (by omega)]
      unfold rowB
      rw [decide_eq_false hlen]; rfl
  · unfold m_laurellaw09_fits_L0
    simp only
    rw [if_neg (by omega)]
theorem m_fits_eq {s : Scalps} (h : Right s) (rows : List (List Int)) : m_laurellaw09_fits s rows = some (fitsB s rows) := by
  have h6 := h.net.s6; have h5 := h.net.c5
  unfold m_laurellaw09_fits fitsB
  by_cases hl : rows.length = s.carried.length
  · rw [if_pos (by omega), makec_eq (by omega), Option.bind_some, decide_eq_true hl, Bool.true_and]
    have e : List.replicate (s.strips.length : Int).toNat (0 : Int) = vecS s.strips.length fun _ => 0 := by
      unfold vecS
      symm
      rw [List.eq_replicate_iff]
      exact ⟨by simp, fun b hb => by obtain ⟨t, _, rfl⟩ := List.mem_map.1 hb; rfl⟩
    rw [e, fits_L0 h6 h5 hl, Option.bind_some]
    by_cases hall : (List.range s.carried.length).all (fun t => rowB s t (rows.getD t [])) = true
    · rw [if_pos hall, oc_inl, hall, Bool.true_and]
      have key := iterM_any0 (f := m_laurellaw09_fits_L2 (vecS s.strips.length fun k => sumTo (fun t => shV rows t k) s.carried.length) s) s.strips.length (fun k => !colB s rows k) false (fun k hk => ?_) ?_ (N := FU) (FU_lt (by omega))
      · rw [key, Option.bind_some]
        have e2 : (List.range s.strips.length).all (colB s rows) = !(List.range s.strips.length).any fun k => !colB s rows k := (not_any_not).symm
        rw [e2]
        cases (List.range s.strips.length).any fun k => !colB s rows k <;> rfl
      · unfold m_laurellaw09_fits_L2
        have hx : s.strips.getD k default = s.strips[k] := by simp [List.getD_eq_getElem?_getD, hk]
        obtain ⟨b1, b2, b3, b4⟩ := h.net.sp _ (List.getElem_mem hk)
        rw [vecS_len, if_pos (by omega), vecS_ix hk, Option.bind_some, ix_nat default hk, Option.bind_some, hx, lawGone_eq]
        have e3 : m_strip_Strip_gone (⟨s.strips[k].tenant, ⟨s.strips[k].lay.lo, s.strips[k].lay.hi⟩, ⟨s.strips[k].seeded.lo, s.strips[k].seeded.hi⟩, ⟨s.strips[k].left.lo, s.strips[k].left.hi⟩⟩ : Strip) = some (gOf s.strips k) := by
          unfold gOf; rw [hx]; exact m_gone_eq b1 b2 b3
        rw [e3, Option.bind_some]
        unfold colB
        by_cases h1 : sumTo (fun t => shV rows t k) s.carried.length < (gOf s.strips k).lo
        · rw [if_pos h1, Option.bind_some, if_pos rfl, decide_eq_false (fun h => by omega)]; rfl
        · rw [if_neg h1, Option.bind_some]
          by_cases h2 : (gOf s.strips k).hi < sumTo (fun t => shV rows t k) s.carried.length
          · rw [decide_eq_true h2, if_pos rfl, decide_eq_false (fun h => by omega)]; rfl
          · rw [decide_eq_false h2, if_neg (by simp), decide_eq_true ⟨by omega, by omega⟩, addc_eq (by omega), Option.bind_some]; rfl
      · unfold m_laurellaw09_fits_L2
        rw [vecS_len, if_neg (by omega)]
    · have hf : (List.range s.carried.length).all (fun t => rowB s t (rows.getD t [])) = false := by simpa using hall
      rw [if_neg hall, oc_inr, hf]; rfl
  · rw [if_neg (by omega), decide_eq_false hl]; rfl
theorem mat_getD {T S t : Nat} {y : Nat → Nat → Int} (ht : t < T) : (mat T S y).getD t [] = vecS S (y t) := by
  unfold mat vecS
  simp [List.getD_eq_getElem?_getD, ht]
theorem vecS_get {S k : Nat} {f : Nat → Int} (hk : k < S) : rowV (vecS S f) k = f k := by
  unfold rowV vecS
  simp [List.getD_eq_getElem?_getD, hk]
theorem mat_shV {T S t k : Nat} {y : Nat → Nat → Int} (ht : t < T) (hk : k < S) : shV (mat T S y) t k = y t k := by
  unfold shV
  rw [mat_getD ht, vecS_get hk]
theorem mat_len {T S : Nat} {y : Nat → Nat → Int} : (mat T S y).length = T := by simp [mat]
theorem le60 {s : Scalps} (h : Right s) {y : Nat → Nat → Int} (hy : FitsS s y) {t k : Nat} (ht : t < s.carried.length) (hk : k < s.strips.length) : y t k ≤ 60 := by
  have a := sumTo_mem_le (f := y t) (n := s.strips.length) (j := k) (fun i hi => (hy.pos t i ht hi).1) hk
  have b := (hy.ten t ht).2
  have c := hOf_ok h.net ht
  have e : sumTo (fun k => y t k) s.strips.length = sumTo (y t) s.strips.length := rfl
  omega
theorem fitsB_mat {s : Scalps} (h : Right s) {y : Nat → Nat → Int} : fitsB s (mat s.carried.length s.strips.length y) = true ↔ FitsS s y := by
  unfold fitsB
  rw [mat_len, decide_eq_true rfl, Bool.true_and, Bool.and_eq_true, List.all_eq_true, List.all_eq_true]
  have hrowsum : ∀ t, t < s.carried.length → sumTo (rowV (vecS s.strips.length (y t))) s.strips.length = sumTo (fun k => y t k) s.strips.length := fun t ht => sumTo_congr fun k hk => vecS_get hk
  have hcolsum : ∀ k, k < s.strips.length → sumTo (fun t => shV (mat s.carried.length s.strips.length y) t k) s.carried.length = sumTo (fun t => y t k) s.carried.length := fun k hk => sumTo_congr fun t ht => mat_shV ht hk
  constructor
  · rintro ⟨h1, h2⟩
    have h1' : ∀ t, t < s.carried.length → (∀ k, k < s.strips.length → 0 ≤ y t k ∧ y t k ≤ 60 ∧ (0 < y t k → reachB s.strips t k = true)) ∧ (hOf s.carried t).lo ≤ sumTo (fun k => y t k) s.strips.length ∧ sumTo (fun k => y t k) s.strips.length ≤ (hOf s.carried t).hi := fun t ht => by
      have := h1 t (List.mem_range.2 ht)
      unfold rowB at this
      rw [mat_getD ht, Bool.and_eq_true, Bool.and_eq_true, List.all_eq_true] at this
      refine ⟨fun k hk => ?_, ?_⟩
      · have a := okE_iff.1 (this.2.1 k (List.mem_range.2 hk))
        rwa [vecS_get hk] at a
      · have a := of_decide_eq_true this.2.2
        rwa [hrowsum t ht] at a
    refine ⟨fun t k ht hk => ⟨((h1' t ht).1 k hk).1, ((h1' t ht).1 k hk).2.2⟩, fun t ht => (h1' t ht).2, fun k hk => ?_⟩
    have := of_decide_eq_true (h2 k (List.mem_range.2 hk))
    rwa [hcolsum k hk] at this
  · intro hy
    refine ⟨fun t ht => ?_, fun k hk => ?_⟩
    · have ht' := List.mem_range.1 ht
      unfold rowB
      rw [mat_getD ht', Bool.and_eq_true, Bool.and_eq_true, List.all_eq_true]
      refine ⟨decide_eq_true vecS_len, fun k hk => okE_iff.2 ?_, decide_eq_true ?_⟩
      · have hk' := List.mem_range.1 hk
        rw [vecS_get hk']
        exact ⟨(hy.pos t k ht' hk').1, le60 h hy ht' hk', (hy.pos t k ht' hk').2⟩
      · rw [hrowsum t ht']; exact hy.ten t ht'
    · have hk' := List.mem_range.1 hk
      unfold colB
      rw [hcolsum k hk']
      exact decide_eq_true (hy.str k hk')
end Go.Proofs.Ws

namespace Go.Proofs.Ws
open Go Go.Fw Go.Gx Go.Sp
set_option maxRecDepth 100000 in
theorem awake_eq : m_laurellaw09_awake = some true := by decide +kernel
end Go.Proofs.Ws

namespace Go.Proofs.Ws
open Go Go.Fw Go.Gx Go.Sp
set_option linter.unusedVariables false
/-! ### the law of lacks -/
def AscR (l : List Int) (n : Int) : Prop := (∀ j, j + 1 < l.length → gtI l j < gtI l (j + 1)) ∧ ∀ x, x ∈ l → 0 ≤ x ∧ x < n
theorem AscR.nil {n : Int} : AscR [] n := ⟨fun j hj => by simp at hj, fun x hx => by simp at hx⟩
theorem AscR.mono {l : List Int} {n m : Int} (h : AscR l n) (hnm : n ≤ m) : AscR l m := ⟨h.1, fun x hx => by have := h.2 x hx; omega⟩
theorem AscR.inr {l : List Int} {n : Int} (h : AscR l n) : (l.all fun x => inb x 0 (n - 1)) = true := by
  rw [List.all_eq_true]
  intro x hx
  have := h.2 x hx
  exact inb_iff.2 (by omega)
theorem right_set {st : List Strip} {ca : List Span} (h : Right ⟨st, ca⟩) {j : Nat} {v : Span} (hv : In30 v) (hle : v.lo ≤ v.hi) : Right ⟨st, ca.set j v⟩ := by
  refine ⟨⟨h.net.s6, by simp only; rw [List.length_set]; exact h.net.c5, h.net.sp, fun x hx => ?_⟩, h.s1, by simp only; rw [List.length_set]; exact h.c1, fun x hx => by simp only; rw [List.length_set]; exact h.ten x hx, h.ord⟩
  rcases List.mem_or_eq_of_mem_set hx with h1 | h1
  · exact h.net.cp x h1
  · rw [h1]; exact ⟨hv, hle⟩
end Go.Proofs.Ws

namespace Go.Proofs.Ws
open Go Go.Fw Go.Gx Go.Sp
set_option linter.unusedVariables false
/-! ### Taken, Stolen, Missed, Gone, Reach -/
def jsC (t0 k0 t k : Nat) : Int := cnt (decide (t = t0 ∧ k = k0))
theorem cf_taken (s : Scalps) (t0 k0 : Nat) : CfIs s (fun p => m_strip_some_1_3 p (t0 : Int) (k0 : Int)) (jsC t0 k0) := fun t k _ _ => by
  refine ⟨?_, (cnt_range _).1, (cnt_range _).2.1⟩
  unfold m_strip_some_1_3 m_strip_Taken_1 jsC cnt
  simp only [Option.bind_some]
  by_cases h : t = t0 ∧ k = k0
  · obtain ⟨rfl, rfl⟩ := h
    rw [if_pos (decide_eq_true rfl), if_pos (decide_eq_true ⟨rfl, rfl⟩)]
  · rw [if_neg (fun hh => h (of_decide_eq_true hh)), if_neg]
    intro hh
    have := of_decide_eq_true hh
    simp only [Pair.mk.injEq] at this
    exact h ⟨by omega, by omega⟩
theorem inb_nat {n : Nat} {t : Nat} : inb (t : Int) 0 ((n : Int) - 1) = decide (t < n) := by
  rw [Bool.eq_iff_iff, inb_iff, decide_eq_true_iff]; omega
theorem Taken_spec {s : Scalps} (h : Right s) {t k : Nat} (ht : t < s.carried.length) (hk : k < s.strips.length) : (∃ lo hi, m_strip_Taken s (t : Int) (k : Int) = some ⟨⟨lo, hi⟩, 0⟩ ∧ IsRange s (jsC t k) lo hi) ∨ (m_strip_Taken s (t : Int) (k : Int) = some ⟨⟨0, 0⟩, 7⟩ ∧ NoFit s) := by
  obtain ⟨mp, hmp, hm⟩ := m_opened_right h
  have h5 := h.net.c5; have h6 := h.net.s6
  unfold m_strip_Taken m_strip_some_4
  rw [hmp, Option.bind_some, oc_inr, m_tenant_eq (by omega), Option.bind_some, inb_nat, decide_eq_true ht]
  simp only [Bool.not_true, Bool.false_eq_true, if_false]
  rw [m_strip_eq (by omega), Option.bind_some, Option.bind_some, inb_nat, decide_eq_true hk]
  simp only [Bool.not_true, Bool.false_eq_true, if_false]
  rw [Option.bind_some]
  rcases spread_spec h hm (cf_taken s t k) with ⟨lo, hi, h1, hr⟩ | ⟨h1, hn⟩
  · rw [h1, Option.bind_some]; exact .inl ⟨lo, hi, rfl, hr⟩
  · rw [h1, Option.bind_some]; exact .inr ⟨rfl, hn⟩
theorem count_just {s : Scalps} {t k : Nat} (ht : t < s.carried.length) (hk : k < s.strips.length) (y : Nat → Nat → Int) : countS s (jsC t k) y = y t k := by
  unfold countS countY
  have e1 : sumTo (fun t' => sumTo (fun k' => jsC t k t' k' * y t' k') s.strips.length) s.carried.length = sumTo (fun t' => if t' = t then sumTo (fun k' => if k' = k then y t' k' else 0) s.strips.length else 0) s.carried.length := by
    refine sumTo_congr fun t' _ => ?_
    by_cases h : t' = t
    · subst h
      rw [if_pos rfl]
      refine sumTo_congr fun k' _ => ?_
      unfold jsC cnt
      by_cases h2 : k' = k
      · subst h2; simp
      · simp [h2]
    · rw [if_neg h, sumTo_congr (g := fun _ => 0) (fun k' _ => by unfold jsC cnt; simp [h]), sumTo_zero]
  rw [e1]
  have e2 := sumTo_one (f := fun t' => sumTo (fun k' => if k' = k then y t' k' else 0) s.strips.length) ht
  rw [e2]
  exact sumTo_one (f := fun k' => y t k') hk
end Go.Proofs.Ws

namespace Go.Proofs.Ws
open Go Go.Fw Go.Gx Go.Sp
set_option linter.unusedVariables false
theorem hok0 {l : List Int} : HOK l 0 := ⟨Int.le_refl _, .inr rfl⟩
end Go.Proofs.Ws

namespace Go.Proofs.Ws
open Go Go.Fw Go.Gx Go.Sp
set_option linter.unusedVariables false
/-! ### what is weighed -/
def nowSp (was c : Span) : Span := ⟨max was.lo c.lo, min was.hi c.hi⟩
def weighR (s : Scalps) (tenant : Int) (c : Span) : m_strip_Weigh_R :=
  if inb tenant 0 ((s.carried.length : Int) - 1) = true then
    if okSp c = true then
      if c.hi < c.lo then ⟨⟨[], []⟩, 4⟩
      else if (nowSp (s.carried.getD tenant.toNat default) c).hi < (nowSp (s.carried.getD tenant.toNat default) c).lo then ⟨⟨[], []⟩, 7⟩
      else ⟨⟨s.strips, s.carried.set tenant.toNat (nowSp (s.carried.getD tenant.toNat default) c)⟩, 0⟩
    else ⟨⟨[], []⟩, 3⟩
  else ⟨⟨[], []⟩, 1⟩
theorem Weigh_spec {s : Scalps} (h : Right s) (tenant : Int) (c : Span) : m_strip_Weigh s tenant c = some (weighR s tenant c) := by
  have h5 := h.net.c5; have h6 := h.net.s6; have h1 := h.s1; have hc1 := h.c1
  unfold m_strip_Weigh weighR
  rw [m_Check_eq, Option.bind_some, of_right h, if_pos rfl, m_tenant_eq (by omega), Option.bind_some, not_true_if]
  split
  · rename_i hin
    have hin' := inb_iff.1 hin
    rw [m_allowed_eq, Option.bind_some, not_true_if]
    split
    · split
      · rfl
      · rw [ix_eq default (by omega) (by omega), Option.bind_some, m_least_one, Option.bind_some, Option.bind_some]
        unfold nowSp
        simp only
        split
        · rfl
        · unfold m_slices_Clone_stripStripstripStrip
          rw [if_pos (by omega), appc_eq (by simp only [List.length_nil]; omega), Option.bind_some, Option.bind_some, makec_eq (by omega), Option.bind_some, Option.bind_some]
          have hl : (List.replicate (s.carried.length : Int).toNat (⟨0, 0⟩ : Span)).length = s.carried.length := by simp
          simp only
          rw [if_pos (by rw [hl]; exact Int.le_refl _), Option.bind_some]
          have hd : (List.replicate (s.carried.length : Int).toNat (⟨0, 0⟩ : Span)).drop s.carried.length = [] := List.drop_eq_nil_of_le (by rw [hl]; exact Nat.le_refl _)
          rw [hd, List.append_nil, ix_eq default (by omega) (by omega), Option.bind_some, Option.bind_some, List.nil_append]
    · rfl
  · rfl
theorem hOf_set {ca : List Span} {t t' : Nat} {v : Span} (ht : t < ca.length) : hOf (ca.set t v) t' = if t' = t then v else hOf ca t' := by
  unfold hOf
  rw [List.getD_eq_getElem?_getD, List.getD_eq_getElem?_getD, List.getElem?_set]
  by_cases h : t = t'
  · subst h; rw [if_pos rfl, if_pos ht, if_pos rfl]; rfl
  · rw [if_neg h, if_neg (fun e => h e.symm)]
theorem fits_narrow {s : Scalps} {t : Nat} {v : Span} (ht : t < s.carried.length) (hv : (hOf s.carried t).lo ≤ v.lo ∧ v.hi ≤ (hOf s.carried t).hi) {y : Nat → Nat → Int} (hy : FitsS ⟨s.strips, s.carried.set t v⟩ y) : FitsS s y := by
  refine ⟨fun t' k ht' hk => hy.pos t' k (by simp only; rw [List.length_set]; exact ht') hk, fun t' ht' => ?_, fun k hk => ?_⟩
  · have := hy.ten t' (by simp only; rw [List.length_set]; exact ht')
    simp only [hOf_set ht] at this
    by_cases h : t' = t
    · subst h; rw [if_pos rfl] at this; omega
    · rw [if_neg h] at this; exact this
  · have := hy.str k hk
    simp only [List.length_set] at this
    exact this
theorem fits_wide {s : Scalps} {t : Nat} {v : Span} (ht : t < s.carried.length) {y : Nat → Nat → Int} (hy : FitsS s y) (hv : v.lo ≤ sumTo (fun k => y t k) s.strips.length ∧ sumTo (fun k => y t k) s.strips.length ≤ v.hi) : FitsS ⟨s.strips, s.carried.set t v⟩ y := by
  refine ⟨fun t' k ht' hk => hy.pos t' k (by simp only at ht'; rw [List.length_set] at ht'; exact ht') hk, fun t' ht' => ?_, fun k hk => ?_⟩
  · simp only at ht' ⊢
    rw [List.length_set] at ht'
    rw [hOf_set ht]
    by_cases h : t' = t
    · subst h; rw [if_pos rfl]; exact hv
    · rw [if_neg h]; exact hy.ten t' ht'
  · have := hy.str k hk
    simp only [List.length_set]
    exact this
theorem count_set {s : Scalps} {t : Nat} {v : Span} (c y : Nat → Nat → Int) : countS ⟨s.strips, s.carried.set t v⟩ c y = countS s c y := by
  unfold countS countY
  simp only [List.length_set]
theorem range_sub {s : Scalps} {t : Nat} {v : Span} (ht : t < s.carried.length) (hv : (hOf s.carried t).lo ≤ v.lo ∧ v.hi ≤ (hOf s.carried t).hi) {c : Nat → Nat → Int} {lo hi lo' hi' : Int} (h : IsRange s c lo hi) (h' : IsRange ⟨s.strips, s.carried.set t v⟩ c lo' hi') : lo ≤ lo' ∧ hi' ≤ hi := by
  obtain ⟨⟨y1, f1, e1⟩, ⟨y2, f2, e2⟩, _⟩ := h'
  have a := (h.2.2 y1 (fits_narrow ht hv f1)).1
  have b := (h.2.2 y2 (fits_narrow ht hv f2)).2
  rw [count_set] at e1 e2
  omega
theorem StripWeighed_true {l : List Int} (hl : l.length ≤ 9223372036854775807) {which well : Int} (hwh : 0 ≤ which ∧ which ≤ 255) (hwe : 0 ≤ well ∧ well ≤ 255) : m_laurellaw09_StripWeighed l which well = some true := by
  unfold m_laurellaw09_StripWeighed m_laurelkit_Pile
  rw [Option.bind_some]
  obtain ⟨x, y0, hx, _, hR, hreal, hf0, hyok, _, _⟩ := Made_spec hl (p := 0) (r := 0) (S0 := 5) (T0 := 4) hok0 (by omega) (by omega)
  simp only
  rw [hx, Option.bind_some]
  have hnf : ¬ NoFit x.r0 := fun h => h y0 hf0
  have h5 := hR.net.c5; have h6 := hR.net.s6; have hc1 := hR.c1
  have hw1 : IntKind.i64.wrap which = which := Go.Fw.wrap_i64 (by omega)
  have hw2 : IntKind.i64.wrap well = well := Go.Fw.wrap_i64 (by omega)
  rw [hw1, hw2, remc_eq (by omega), Option.bind_some]
  have hm1 := Int.tmod_nonneg (x.r0.carried.length : Int) hwh.1
  have hm2 := Int.tmod_lt_of_pos which (show 0 < (x.r0.carried.length : Int) by omega)
  obtain ⟨t, ht⟩ : ∃ t : Nat, which.tmod (x.r0.carried.length : Int) = (t : Int) := ⟨(which.tmod (x.r0.carried.length : Int)).toNat, by omega⟩
  rw [ht] at hm1 hm2 ⊢
  have htl : t < x.r0.carried.length := by omega
  rw [hreal, mat_row htl, Option.bind_some]
  have hrow : iterM FU (m_laurellaw09_StripWeighed_L0 ((List.range x.r0.strips.length).map (y0 t))) ⟨0, 0⟩ = some (sumTo (y0 t) x.r0.strips.length) := by
    have key := iterM_run (f := m_laurellaw09_StripWeighed_L0 ((List.range x.r0.strips.length).map (y0 t))) (fun k => ⟨sumTo (y0 t) k, (k : Int)⟩) x.r0.strips.length (b := sumTo (y0 t) x.r0.strips.length) (fun k hk => ?_) ?_ FU (FU_lt (by omega))
    · exact key
    · unfold m_laurellaw09_StripWeighed_L0
      have hb := sumTo_bound (f := y0 t) (b := 4) (n := k) (fun i _ => ⟨(hyok t i).1, (hyok t i).2.1⟩)
      have hb2 := hyok t k
      simp only [List.length_map, List.length_range]
      rw [if_pos (by omega), range_ix hk, Option.bind_some, addc_eq (by omega), Option.bind_some, addc_eq (by omega), Option.bind_some]
      rfl
    · unfold m_laurellaw09_StripWeighed_L0
      simp
  have hsb := sumTo_bound (f := y0 t) (b := 4) (n := x.r0.strips.length) (fun i _ => ⟨(hyok t i).1, (hyok t i).2.1⟩)
  rw [hrow, Option.bind_some, remc_eq (by omega), Option.bind_some]
  have a1 := Int.tmod_nonneg 2 hwe.1
  have a2 := Int.tmod_lt_of_pos well (show (0 : Int) < 2 by omega)
  generalize well.tmod 2 = da at a1 a2
  have q0 : 0 ≤ well.tdiv 2 ∧ well.tdiv 2 ≤ 255 := by
    rw [Int.tdiv_eq_ediv_of_nonneg hwe.1]; omega
  rw [subc_eq (by omega), Option.bind_some, quoc_eq (by omega) (by omega), Option.bind_some, remc_eq (by omega), Option.bind_some]
  have b1 := Int.tmod_nonneg 2 q0.1
  have b2 := Int.tmod_lt_of_pos (well.tdiv 2) (show (0 : Int) < 2 by omega)
  generalize (well.tdiv 2).tmod 2 = db at b1 b2
  rw [addc_eq (by omega), Option.bind_some, Weigh_spec hR, Option.bind_some]
  have hten := hf0.ten t htl
  have hsum : sumTo (fun k => y0 t k) x.r0.strips.length = sumTo (y0 t) x.r0.strips.length := rfl
  rw [hsum] at hten
  have hoo := hOf_ok hR.net htl
  generalize hS : sumTo (y0 t) x.r0.strips.length = S at *
  have hnow : hOf x.r0.carried t = x.r0.carried.getD t default := rfl
  have hW : weighR x.r0 (t : Int) ⟨max 0 (S - da), min 30 (S + db)⟩ = ⟨⟨x.r0.strips, x.r0.carried.set t (nowSp (hOf x.r0.carried t) ⟨max 0 (S - da), min 30 (S + db)⟩)⟩, 0⟩ := by
    unfold weighR
    rw [if_pos (inb_iff.2 (by omega)), if_pos (okSp_iff.2 (by unfold In30; simp only; omega)), if_neg (by simp only; omega), show Int.toNat (t : Int) = t by omega, ← hnow, if_neg (by unfold nowSp; simp only; omega)]
  rw [hW]
  have hv : (hOf x.r0.carried t).lo ≤ (nowSp (hOf x.r0.carried t) ⟨max 0 (S - da), min 30 (S + db)⟩).lo ∧ (nowSp (hOf x.r0.carried t) ⟨max 0 (S - da), min 30 (S + db)⟩).hi ≤ (hOf x.r0.carried t).hi := by unfold nowSp; simp only; omega
  have hvS : (nowSp (hOf x.r0.carried t) ⟨max 0 (S - da), min 30 (S + db)⟩).lo ≤ S ∧ S ≤ (nowSp (hOf x.r0.carried t) ⟨max 0 (S - da), min 30 (S + db)⟩).hi := by unfold nowSp; simp only; omega
  have hv30 : In30 (nowSp (hOf x.r0.carried t) ⟨max 0 (S - da), min 30 (S + db)⟩) := by unfold nowSp In30; simp only; omega
  generalize nowSp (hOf x.r0.carried t) ⟨max 0 (S - da), min 30 (S + db)⟩ = v at hv hvS hv30
  have hRw : Right ⟨x.r0.strips, x.r0.carried.set t v⟩ := right_set hR hv30 (by omega)
  have hfw : FitsS ⟨x.r0.strips, x.r0.carried.set t v⟩ y0 := fits_wide htl hf0 (by show v.lo ≤ sumTo (y0 t) x.r0.strips.length ∧ sumTo (y0 t) x.r0.strips.length ≤ v.hi; rw [hS]; exact hvS)
  have hnw : ¬ NoFit ⟨x.r0.strips, x.r0.carried.set t v⟩ := fun h => h y0 hfw
  have hmm : mat x.r0.carried.length x.r0.strips.length y0 = mat (x.r0.carried.set t v).length x.r0.strips.length y0 := by rw [List.length_set]
  simp only [if_true]
  rw [m_Check_eq, of_right hRw, Option.bind_some, if_pos rfl, m_fits_eq hRw, hmm, (fitsB_mat hRw).2 hfw, Option.bind_some, Option.bind_some]
  simp only [Bool.not_true, Bool.false_eq_true, if_false]
  rcases Least_spec hR with ⟨lo, hi, ya, hL, _, _, hr⟩ | ⟨_, hn⟩
  · rcases Least_spec hRw with ⟨lo2, hi2, ya2, hL2, _, _, hr2⟩ | ⟨_, hn⟩
    · rcases Most_spec hR with ⟨lo3, hi3, ya3, hM, _, _, hr3⟩ | ⟨_, hn⟩
      · rcases Most_spec hRw with ⟨lo4, hi4, ya4, hM2, _, _, hr4⟩ | ⟨_, hn⟩
        · rw [hL, Option.bind_some, hL2, Option.bind_some, hM, Option.bind_some, hM2, Option.bind_some]
          have g1 := range_sub htl hv hr hr2
          have g2 := range_sub htl hv hr3 hr4
          simp only [if_true]
          rw [if_neg (show ¬ lo2 < lo by omega), decide_eq_false (show ¬ hi3 < hi4 by omega), Option.bind_some, if_neg (by simp)]
          have key1 : ∀ t1 : Nat, t1 < x.r0.carried.length → iterM FU (m_laurellaw09_StripWeighed_L2 x (t1 : Int) ⟨⟨x.r0.strips, x.r0.carried.set t v⟩, 0⟩) 0 = some (.inl ()) := fun t1 ht1 => by
            have key := iterM_run (f := m_laurellaw09_StripWeighed_L2 x (t1 : Int) ⟨⟨x.r0.strips, x.r0.carried.set t v⟩, 0⟩) (fun k => (k : Int)) x.r0.strips.length (b := .inl ()) (fun k hk => ?_) ?_ FU (FU_lt (by omega))
            · exact key
            · unfold m_laurellaw09_StripWeighed_L2
              rw [if_pos (by omega)]
              rcases Taken_spec hR ht1 hk with ⟨xl, xh, hT, hTr⟩ | ⟨_, hn⟩
              · rcases Taken_spec hRw (t := t1) (k := k) (by simp only; rw [List.length_set]; exact ht1) hk with ⟨zl, zh, hT2, hTr2⟩ | ⟨_, hn⟩
                · have g := range_sub htl hv hTr hTr2
                  have hy := hTr2.2.2 y0 hfw
                  rw [count_set, count_just ht1 hk] at hy
                  rw [hT, Option.bind_some, hT2, Option.bind_some]
                  simp only [if_true]
                  rw [if_neg (show ¬ zl < xl by omega), if_neg (show ¬ xh < zh by omega), hreal, mat_row ht1, Option.bind_some, range_ix hk, Option.bind_some, if_neg (show ¬ y0 t1 k < zl by omega), Option.bind_some, range_ix hk, Option.bind_some, decide_eq_false (show ¬ zh < y0 t1 k by omega), Option.bind_some, if_neg (by simp), addc_eq (by omega), Option.bind_some]
                  rfl
                · exact absurd hn hnw
              · exact absurd hn hnf
            · unfold m_laurellaw09_StripWeighed_L2
              rw [if_neg (by omega)]
          have key2 := iterM_run (f := m_laurellaw09_StripWeighed_L1 x ⟨⟨x.r0.strips, x.r0.carried.set t v⟩, 0⟩) (fun k => (k : Int)) x.r0.carried.length (b := .inl ()) (fun t1 ht1 => ?_) ?_ FU (FU_lt (by omega))
          · have key3 : iterM FU (m_laurellaw09_StripWeighed_L1 x ⟨⟨x.r0.strips, x.r0.carried.set t v⟩, 0⟩) 0 = some (.inl ()) := key2
            rw [key3, Option.bind_some, oc_inl, awake_eq]; rfl
          · unfold m_laurellaw09_StripWeighed_L1
            rw [if_pos (by omega), key1 t1 ht1, Option.bind_some, oc_inl, addc_eq (by omega), Option.bind_some]
            rfl
          · unfold m_laurellaw09_StripWeighed_L1
            rw [if_neg (by omega)]
        · exact absurd hn hnw
      · exact absurd hn hnf
    · exact absurd hn hnw
  · exact absurd hn hnf
end Go.Proofs.Ws

namespace Go.Gx
open Go Go.Fw Go.RowKit
/-! ### arguments, as they come in -/
section
variable {H : Type} {enc : TypeId × Value → H} {P : Program} {w : World} {base : Nat} {sp : Nat → Bool} {held : Bool}
/-- what of this type comes in is, cell by cell, a value of this row -/
def Opens (enc : TypeId × Value → H) (P : Program) (w : World) (base : Nat) (sp : Nat → Bool) (held : Bool) {α : Type} (R : Row α) (wf : α → Prop) (t : TypeId) : Prop :=
  ∀ fuel cs x, DataW.trod enc P w base sp held fuel t cs = some x → ∃ a, cs = R.cells a ∧ wf a
def u8P (n : Int) : Prop := 0 ≤ n ∧ n ≤ 255
theorem wf_u8P {n : Int} (h : (Lit.int .u8 n).wf = true) : u8P n := by
  simp [Lit.wf, IntKind.min, IntKind.max, IntKind.signed, IntKind.bits] at h
  unfold u8P; omega
theorem opens_u8 {t : TypeId} (ht : P.underlying t = some (.int .u8)) : Opens enc P w base sp held RU8 u8P t := fun fuel cs x h => by
  obtain ⟨n, rfl, _, hw⟩ := DataW.trod_int ht h
  exact ⟨n, rfl, wf_u8P hw⟩
/-- a field of a struct, by its cells -/
theorem fieldAt {fs : Array Field} {t : TypeId} {fuel : Nat} {cs : List Value} {x : DataW H × List MemPlace} (ht : P.underlying t = some (.struct fs)) (h : DataW.trod enc P w base sp held fuel t cs = some x) {α : Type} {R : Row α} {wf : α → Prop} (i : Nat) {T o k : Nat}
    (hf : (fs[i]?).map (fun fd => (fd.type, fd.offset)) = some (T, o)) (hk : P.cellsOf T = k) (hR : Opens enc P w base sp held R wf T) : ∃ a, (cs.drop o).take k = R.cells a ∧ wf a := by
  obtain ⟨xs, n, rfl, _, hlen, hxl, hx⟩ := DataW.trod_struct ht h
  obtain ⟨fd, hfd, he⟩ : ∃ fd, fs[i]? = some fd ∧ (fd.type, fd.offset) = (T, o) := by
    cases hh : fs[i]? with
    | none => simp [hh] at hf
    | some fd => exact ⟨fd, rfl, by simpa [hh] using hf⟩
  simp only [Prod.mk.injEq] at he
  obtain ⟨rfl, rfl⟩ := he
  have h1 := hx i fd hfd
  rw [hk] at h1
  have hi : i < xs.length := by rw [hxl]; exact (Array.getElem?_eq_some_iff.1 hfd).1
  rw [List.getElem?_eq_getElem hi] at h1
  exact hR _ _ _ h1
/-- a slice that came in -/
structure SlIn {α : Type} (R : Row α) (wf : α → Prop) (w : World) (v : Value) (A : Option Addr) (n c : Nat) (l : List α) : Prop where
  val : v = .slice A n c
  len : l.length = n
  ok : AOK n A
  le : n ≤ c
  max : c ≤ maxLen
  seg : segOK w (aB A, aO A, R.enc l)
  wf : ∀ x, x ∈ l → wf x
theorem choose_list {α : Type} {p : Nat → α → Prop} : ∀ (n : Nat), (∀ i, i < n → ∃ a, p i a) → ∃ l : List α, l.length = n ∧ ∀ i (h : i < l.length), p i l[i]
  | 0, _ => ⟨[], rfl, fun i h => by simp at h⟩
  | n + 1, h => by
    obtain ⟨l, hl, hp⟩ := choose_list n (fun i hi => h i (by omega))
    obtain ⟨a, ha⟩ := h n (by omega)
    refine ⟨l ++ [a], by simp [hl], fun i hi => ?_⟩
    by_cases hil : i < l.length
    · rw [List.getElem_append_left hil]; exact hp i hil
    · have : i = l.length := by simp at hi; omega
      subst this
      rw [List.getElem_append_right (by omega)]
      simp only [Nat.sub_self, List.getElem_cons_zero]
      rw [hl]; exact ha
theorem openSl {α : Type} {R : Row α} {wf : α → Prop} {t e : TypeId} (ht : P.underlying t = some (.slice e)) (hc : P.cellsOf e = R.sz) (hR : Opens enc P w base sp held R wf e) (h0 : Nat.blt 0 R.sz = true)
    {fuel : Nat} {cs : List Value} {x : DataW H × List MemPlace} (h : DataW.trod enc P w base sp held fuel t cs = some x) : ∃ (v : Value) (A : Option Addr) (n c : Nat) (l : List α), cs = [v] ∧ SlIn R wf w v A n c l := by
  have hsz : 0 < R.sz := by simpa using h0
  rcases Go.Deep.open_slice ht h with ⟨rfl, _⟩ | ⟨a, len, cap, m, n, D, Pl, rfl, hb, hl, hm, hmm, _, hi⟩
  · exact ⟨_, none, 0, 0, [], rfl, rfl, rfl, AOK.nil, Nat.le_refl _, Nat.zero_le _, segOK.nil, by simp⟩
  · have hlm : len ≤ m := by rw [hmm]; split <;> omega
    have hcell : ∀ i, i < len → ∃ x : α, (∀ f (hf : f < (R.cells x).length), w.cell? (a.add (i * R.sz + f)) = some (R.cells x)[f]) ∧ wf x := fun i hil => by
      obtain ⟨cs', h1, h2⟩ := hi i (by omega)
      obtain ⟨x, rfl, hw⟩ := hR _ _ _ h2
      obtain ⟨_, _, hat⟩ := World.cells?_some h1
      refine ⟨x, fun f hf => ?_, hw⟩
      have := hat f (by rw [hc, ← R.len x]; exact hf)
      rw [hc] at this
      rw [List.getElem?_eq_getElem hf] at this
      have e : (a.add (i * R.sz)).add f = a.add (i * R.sz + f) := by
        unfold Addr.add
        by_cases h1 : i * R.sz = 0
        · simp [h1]
        · by_cases h2 : f = 0
          · simp [h2]
          · simp [h1, h2, Nat.add_assoc]
      rw [e] at this
      exact this
    obtain ⟨l, hll, hlp⟩ := choose_list len hcell
    have hspot : 0 < len → a.spot = none := fun h0 => by
      obtain ⟨x, hx, _⟩ := hcell 0 h0
      have := World.cell?_spot (hx 0 (by rw [R.len]; exact hsz))
      simpa [Addr.add] using this
    refine ⟨_, some a, len, cap, l, rfl, rfl, hll, fun h0 => ?_, hl, hm, fun j hj => ?_, fun x hx => ?_⟩
    · obtain ⟨b, o, s⟩ := a
      have := hspot h0
      simp only at this
      subst this
      exact ⟨b, o, rfl⟩
    · have hj' : j < l.length * R.sz := by rw [← R.enc_len]; exact hj
      have hpos : 0 < len := by
        rcases Nat.eq_zero_or_pos len with h | h
        · rw [hll, h, Nat.zero_mul] at hj'; omega
        · exact h
      obtain ⟨b, o, s⟩ := a
      have hs := hspot hpos
      simp only at hs
      subst hs
      have hq : j / R.sz < l.length := Nat.div_lt_of_lt_mul (by rw [Nat.mul_comm]; exact hj')
      have hr : j % R.sz < R.sz := Nat.mod_lt _ hsz
      have hd : j / R.sz * R.sz + j % R.sz = j := by rw [Nat.mul_comm]; exact Nat.div_add_mod j R.sz
      have h1 := (hlp (j / R.sz) hq).1 (j % R.sz) (by rw [R.len]; exact hr)
      rw [hd] at h1
      have h2 := R.enc_get l (j / R.sz) (j % R.sz) l[j / R.sz] (List.getElem?_eq_getElem hq) hr
      rw [hd] at h2
      have h3 : (⟨b, o, none⟩ : Addr).add j = ⟨b, o + j, none⟩ := addr_add b o j
      rw [h3] at h1
      simp only [aB, aO, Option.map_some, Option.getD_some]
      rw [h1, ← List.getElem?_eq_getElem, ← h2, List.getElem?_eq_getElem hj]
    · obtain ⟨i, hi', rfl⟩ := List.getElem_of_mem hx
      exact (hlp i hi').2
theorem HV.begin {ro : List Sg} (h : ∀ s, s ∈ ro → segOK w s) : HV w (keys [] []) [] [] ro w :=
  ⟨rfl, rfl, rfl, Nat.le_refl _, fun _ _ _ => rfl, by simp [vbl], by simp [vbl], by simp [vbl], h, by simp [vbl]⟩
theorem segCons {s : Sg} {ro : List Sg} (h : segOK w s) (hr : ∀ t, t ∈ ro → segOK w t) : ∀ t, t ∈ s :: ro → segOK w t := fun t ht => by
  rcases List.mem_cons.1 ht with rfl | ht
  · exact h
  · exact hr t ht
theorem segNil : ∀ t, t ∈ ([] : List Sg) → segOK w t := fun t ht => by cases ht
theorem HV.below {w' : World} (h : HV w (keys [] []) [] [] [] w') : Below w.heap.size w w' := by
  have : Ext [] w w' := HS.toExt h
  exact this.below
end
end Go.Gx

namespace Go.Proofs.Ws
open Go Go.Fw Go.Gx Go.RowKit
section
variable {H : Type} {enc : TypeId × Value → H} {w : World} {base : Nat} {sp : Nat → Bool} {held : Bool}
theorem opU8 : Opens enc Try.prog w base sp held RU8 u8P 5 := opens_u8 Try.underlying5
end
end Go.Proofs.Ws

