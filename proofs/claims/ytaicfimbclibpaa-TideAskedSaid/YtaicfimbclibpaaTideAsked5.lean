/- What the functions that the law TideAsked reaches come to, and why it holds: part 5. -/
import Derived.Test.YtaicfimbclibpaaTideAsked4
namespace Go.Proofs.Wk
open Go Go.Fw Go.Gx Go.Pl
set_option linter.unusedVariables false
structure m_laurelkit_Heap_pick_R where
  r0 : Int
  h0_1 : Int
  h0_2 : Int
structure m_laurelkit_Heap_pick_C1 where
  h0_1 : Int
  h0_2 : Int
def m_laurelkit_Heap_pick (h00 : (List Int)) (h01 : Int) (h02 : Int) : Option m_laurelkit_Heap_pick_R :=
 (if h01 < (h00.length : Int) then
 ((ix h00 h01).bind fun t29 =>
 some (IntKind.u32.wrap ((IntKind.u32.wrap (40503 * (IntKind.u32.wrap (h02 + 1)))) + (IntKind.u32.wrap (331 * (IntKind.u32.wrap t29)))))) else
 (some (IntKind.u32.wrap (40503 * (IntKind.u32.wrap (h02 + 1)))))).bind fun o =>
 ((addc h01 1).bind fun t38 =>
 if (h00.length : Int) ≤ t38 then
 (some (⟨0, (IntKind.u32.wrap (h02 + 1))⟩ : m_laurelkit_Heap_pick_C1)) else
 (some (⟨t38, h02⟩ : m_laurelkit_Heap_pick_C1))).bind fun o_1 =>
 some (⟨(IntKind.i64.wrap (IntKind.u32.wrap (BitVec.ofInt IntKind.u32.bits (IntKind.u32.wrap (BitVec.ofInt IntKind.u32.bits o ^^^ BitVec.ofInt IntKind.u32.bits (Int.fdiv o (2 ^ min (Int.toNat 9) IntKind.u32.bits))).toNat) &&& BitVec.ofInt IntKind.u32.bits 32767).toNat)), o_1.h0_1, o_1.h0_2⟩ : m_laurelkit_Heap_pick_R)
set_option maxRecDepth 100000 in
set_option maxHeartbeats 4000000 in
theorem c_laurelkit_Heap_pick (h00 : (List Int)) (h01 : Int) (h02 : Int) (pb : Nat) (qa0 : Option Addr) (na0 ca0 : Nat) (w : World) (hw : HV w (keys [(pb, .cells #[.slice qa0 na0 ca0, .int .i64 h01, .int .u32 h02] 138 (0, 0))] []) [(pb, .cells #[.slice qa0 na0 ca0, .int .i64 h01, .int .u32 h02] 138 (0, 0))] [] [(aB qa0, aO qa0, RU8.enc h00)] w) (hna0 : h00.length = na0) (hqa0 : AOK na0 qa0) (hla0 : na0 ≤ ca0) {res : m_laurelkit_Heap_pick_R} (hm : m_laurelkit_Heap_pick h00 h01 h02 = some res) :
    Calls Try.prog 132 #[ptr pb 0] w (fun en w' => ∃ l : Unit, en = .returned (.int .i64 res.r0) ∧ (True) ∧ HV w (keys [(pb, .cells #[.slice qa0 na0 ca0, .int .i64 h01, .int .u32 h02] 138 (0, 0))] []) [(pb, .cells #[.slice qa0 na0 ca0, .int .i64 res.h0_1, .int .u32 res.h0_2] 138 (0, 0))] [] [] w') := by
  unfold m_laurelkit_Heap_pick at hm
  refine g_enter (args := [ptr pb 0]) Try.func132 rfl Try.ntmps132 rfl (e := [(0, _)]) rfl (H := HV w (keys [(pb, .cells #[.slice qa0 na0 ca0, .int .i64 h01, .int .u32 h02] 138 (0, 0))] []) [(pb, .cells #[.slice qa0 na0 ca0, .int .i64 h01, .int .u32 h02] 138 (0, 0))] [] [(aB qa0, aO qa0, RU8.enc h00)]) hw ?_
  refine g_seq ?_
  refine g_region ?_
  refine g_val rfl rfl rfl (fun _ _ => v_assign rfl) ?_
  refine g_nil ?_
  refine g_n_then ?_
  refine g_seq ?_
  refine g_region ?_
  refine g_val rfl rfl rfl (fun _ _ => v_move rfl) ?_
  refine g_val rfl rfl rfl (fun _ _ => v_nilCheck rfl) ?_
  refine g_val rfl rfl rfl (fun w _ => v_fieldAddr 2 (Try.runUnderlying138 w) rfl (Try.sizeOf136 w) rfl) ?_
  refine g_val rfl rfl rfl (fun w hh => v_load (Try.isAgg136 w) rfl (hh.cell 0 rfl rfl)) ?_
  refine g_val rfl rfl rfl (fun _ _ => v_addW rfl rfl) ?_
  refine g_val rfl rfl rfl (fun _ _ => v_mulW rfl rfl) ?_
  refine g_val rfl rfl rfl (fun _ _ => v_assign rfl) ?_
  refine g_nil ?_
  refine g_n_then ?_
  refine g_seq ?_
  obtain ⟨o, h1, h2⟩ := bindO hm
  refine g_cut (ι := Unit) (fun l => True) (fun l => [(0, ptr pb 0), (3, .int .u32 o)]) (fun l => [(pb, .cells #[.slice qa0 na0 ca0, .int .i64 h01, .int .u32 h02] 138 (0, 0))]) (fun l => []) ?_ ?_
  ·replace hm := h1
   refine g_seq ?_
   refine g_draw none (.free 0 (.free 1 (.free 2 (.hoist 3 (.free 4 (.free 5 (.free 6 (.hoist 7 (.free 8 (.free 9 .done)))))))))) _ rfl (by decide +kernel) (fun w k hh => hh.draw k) (fun w hh => hh) ?_
   refine p_free rfl rfl rfl rfl (fun _ _ => v_move rfl) ?_
   refine p_free rfl rfl rfl rfl (fun _ _ => v_nilCheck rfl) ?_
   refine p_free rfl rfl rfl rfl (fun w _ => v_fieldAddr 1 (Try.runUnderlying138 w) rfl (Try.sizeOf3 w) rfl) ?_
   refine p_hoist rfl rfl rfl rfl (fun w hh => v_load (Try.isAgg3 w) rfl (hh.cell 0 rfl rfl)) ?_
   refine p_free rfl rfl rfl rfl (fun _ _ => v_move rfl) ?_
   refine p_free rfl rfl rfl rfl (fun _ _ => v_nilCheck rfl) ?_
   refine p_free rfl rfl rfl rfl (fun w _ => v_fieldAddr 0 (Try.runUnderlying138 w) rfl (Try.sizeOf22 w) rfl) ?_
   refine p_hoist rfl rfl rfl rfl (fun w hh => v_load (Try.isAgg22 w) rfl (hh.cell 0 rfl rfl)) ?_
   refine p_free rfl rfl rfl rfl (fun w _ => v_lenR hna0 (Try.runUnderlying22 w) rfl) ?_
   refine p_free rfl rfl rfl rfl (fun _ _ => v_lss rfl rfl) ?_
   refine p_done ?_
   refine g_n_then ?_
   refine g_cond rfl (fun h3 => ?_) (fun h3 => ?_)
   ·replace hm := ifT (of_decide_eq_true h3) hm
    refine g_draw none (.free 0 (.free 1 (.free 2 (.free 3 (.hoist 4 (.free 5 (.free 6 (.free 7 (.hoist 8 (.free 9 (.hoist 10 (.free 11 (.free 12 (.free 13 (.free 14 .done))))))))))))))) _ rfl (by decide +kernel) (fun w k hh => hh.draw k) (fun w hh => hh) ?_
    refine p_free rfl rfl rfl rfl (fun _ _ => v_move rfl) ?_
    refine p_free rfl rfl rfl rfl (fun _ _ => v_move rfl) ?_
    refine p_free rfl rfl rfl rfl (fun _ _ => v_nilCheck rfl) ?_
    refine p_free rfl rfl rfl rfl (fun w _ => v_fieldAddr 0 (Try.runUnderlying138 w) rfl (Try.sizeOf22 w) rfl) ?_
    refine p_hoist rfl rfl rfl rfl (fun w hh => v_load (Try.isAgg22 w) rfl (hh.cell 0 rfl rfl)) ?_
    refine p_free rfl rfl rfl rfl (fun _ _ => v_move rfl) ?_
    refine p_free rfl rfl rfl rfl (fun _ _ => v_nilCheck rfl) ?_
    refine p_free rfl rfl rfl rfl (fun w _ => v_fieldAddr 1 (Try.runUnderlying138 w) rfl (Try.sizeOf3 w) rfl) ?_
    refine p_hoist rfl rfl rfl rfl (fun w hh => v_load (Try.isAgg3 w) rfl (hh.cell 0 rfl rfl)) ?_
    obtain ⟨t29, h4, hm⟩ := bindO hm
    refine p_free rfl rfl rfl rfl (fun w _ => v_ixR h4 (Try.runUnderlying22 w) (Try.sizeOf5 w) rfl rfl hna0 hqa0) ?_
    refine p_hoist rfl rfl rfl rfl (fun w hh => v_ldE RU8 0 h4 (Try.isAgg5 w) rfl (hh.seg 0 rfl) rfl (Nat.add_zero _).symm) ?_
    refine p_free rfl rfl rfl rfl (fun w _ => v_conv (Try.runUnderlying5 w) (Try.runUnderlying136 w) rfl) ?_
    refine p_free rfl rfl rfl rfl (fun _ _ => v_mulW rfl rfl) ?_
    refine p_free rfl rfl rfl rfl (fun _ _ => v_addW rfl rfl) ?_
    refine p_free rfl rfl rfl rfl (fun _ _ => v_assign rfl) ?_
    refine p_done ?_
    obtain rfl := Option.some.inj hm
    exact g_leaf () (trivial) ((.cons rfl (.cons rfl .nil))) (fun w hh => hh)
   ·replace hm := ifF (of_decide_eq_false h3) hm
    refine g_skip ?_
    obtain rfl := Option.some.inj hm
    exact g_leaf () (trivial) ((.cons rfl (.cons rfl .nil))) (fun w hh => hh)
  ·intro l hj
   replace hm := h2
   refine g_n_then ?_
   refine g_seq ?_
   obtain ⟨o_1, h5, h6⟩ := bindO hm
   refine g_cut (ι := Unit) (fun l_1 => True) (fun l_1 => [(3, .int .u32 o)]) (fun l_1 => [(pb, .cells #[.slice qa0 na0 ca0, .int .i64 o_1.h0_1, .int .u32 o_1.h0_2] 138 (0, 0))]) (fun l_1 => []) ?_ ?_
   ·replace hm := h5
    refine g_seq ?_
    refine g_region ?_
    refine g_val rfl rfl rfl (fun _ _ => v_move rfl) ?_
    refine g_val rfl rfl rfl (fun _ _ => v_nilCheck rfl) ?_
    refine g_val rfl rfl rfl (fun w _ => v_fieldAddr 1 (Try.runUnderlying138 w) rfl (Try.sizeOf3 w) rfl) ?_
    refine g_val rfl rfl rfl (fun w hh => v_load (Try.isAgg3 w) rfl (hh.cell 0 rfl rfl)) ?_
    obtain ⟨t38, h7, hm⟩ := bindO hm
    refine g_val rfl rfl rfl (fun _ _ => v_addc h7 rfl rfl) ?_
    refine g_val rfl rfl rfl (fun _ _ => v_nilCheck rfl) ?_
    refine g_val rfl rfl rfl (fun w _ => v_fieldAddr 1 (Try.runUnderlying138 w) rfl (Try.sizeOf3 w) rfl) ?_
    refine g_stS (cs' := #[_, _, _]) (S' := [_]) 0 (fun w => Try.sizeOf3 w) rfl rfl rfl rfl rfl rfl rfl ?_
    refine g_nil ?_
    refine g_n_then ?_
    refine g_seq ?_
    refine g_draw none (.free 0 (.free 1 (.free 2 (.hoist 3 (.free 4 (.free 5 (.free 6 (.hoist 7 (.free 8 (.free 9 .done)))))))))) _ rfl (by decide +kernel) (fun w k hh => hh.draw k) (fun w hh => hh) ?_
    refine p_free rfl rfl rfl rfl (fun _ _ => v_move rfl) ?_
    refine p_free rfl rfl rfl rfl (fun _ _ => v_nilCheck rfl) ?_
    refine p_free rfl rfl rfl rfl (fun w _ => v_fieldAddr 1 (Try.runUnderlying138 w) rfl (Try.sizeOf3 w) rfl) ?_
    refine p_hoist rfl rfl rfl rfl (fun w hh => v_load (Try.isAgg3 w) rfl (hh.cell 0 rfl rfl)) ?_
    refine p_free rfl rfl rfl rfl (fun _ _ => v_move rfl) ?_
    refine p_free rfl rfl rfl rfl (fun _ _ => v_nilCheck rfl) ?_
    refine p_free rfl rfl rfl rfl (fun w _ => v_fieldAddr 0 (Try.runUnderlying138 w) rfl (Try.sizeOf22 w) rfl) ?_
    refine p_hoist rfl rfl rfl rfl (fun w hh => v_load (Try.isAgg22 w) rfl (hh.cell 0 rfl rfl)) ?_
    refine p_free rfl rfl rfl rfl (fun w _ => v_lenR hna0 (Try.runUnderlying22 w) rfl) ?_
    refine p_free rfl rfl rfl rfl (fun _ _ => v_geq rfl rfl) ?_
    refine p_done ?_
    refine g_n_then ?_
    refine g_cond rfl (fun h8 => ?_) (fun h8 => ?_)
    ·replace hm := ifT (of_decide_eq_true h8) hm
     refine g_region ?_
     refine g_val rfl rfl rfl (fun _ _ => v_move rfl) ?_
     refine g_val rfl rfl rfl (fun _ _ => v_move rfl) ?_
     refine g_val rfl rfl rfl (fun _ _ => v_move rfl) ?_
     refine g_val rfl rfl rfl (fun _ _ => v_nilCheck rfl) ?_
     refine g_val rfl rfl rfl (fun w _ => v_fieldAddr 2 (Try.runUnderlying138 w) rfl (Try.sizeOf136 w) rfl) ?_
     refine g_val rfl rfl rfl (fun w hh => v_load (Try.isAgg136 w) rfl (hh.cell 0 rfl rfl)) ?_
     refine g_val rfl rfl rfl (fun _ _ => v_addW rfl rfl) ?_
     refine g_val rfl rfl rfl (fun _ _ => v_nilCheck rfl) ?_
     refine g_val rfl rfl rfl (fun w _ => v_fieldAddr 1 (Try.runUnderlying138 w) rfl (Try.sizeOf3 w) rfl) ?_
     refine g_stS (cs' := #[_, _, _]) (S' := [_]) 0 (fun w => Try.sizeOf3 w) rfl rfl rfl rfl rfl rfl rfl ?_
     refine g_val rfl rfl rfl (fun _ _ => v_nilCheck rfl) ?_
     refine g_val rfl rfl rfl (fun w _ => v_fieldAddr 2 (Try.runUnderlying138 w) rfl (Try.sizeOf136 w) rfl) ?_
     refine g_stS (cs' := #[_, _, _]) (S' := [_]) 0 (fun w => Try.sizeOf136 w) rfl rfl rfl rfl rfl rfl rfl ?_
     refine g_nil ?_
     obtain rfl := Option.some.inj hm
     exact g_leaf () (trivial) ((.cons rfl .nil)) (fun w hh => hh)
    ·replace hm := ifF (of_decide_eq_false h8) hm
     refine g_skip ?_
     obtain rfl := Option.some.inj hm
     exact g_leaf () (trivial) ((.cons rfl .nil)) (fun w hh => hh)
   ·intro l_1 hj
    replace hm := h6
    refine g_n_then ?_
    refine g_seq ?_
    refine g_region ?_
    refine g_val rfl rfl rfl (fun _ _ => v_move rfl) ?_
    refine g_val rfl rfl rfl (fun _ _ => v_move rfl) ?_
    refine g_val rfl rfl rfl (fun _ _ => v_shr rfl rfl (by decide)) ?_
    refine g_val rfl rfl rfl (fun _ _ => v_bits rfl rfl rfl) ?_
    refine g_val rfl rfl rfl (fun _ _ => v_bits rfl rfl rfl) ?_
    refine g_val rfl rfl rfl (fun w _ => v_conv (Try.runUnderlying136 w) (Try.runUnderlying3 w) rfl) ?_
    refine g_val rfl rfl rfl (fun _ _ => v_assign rfl) ?_
    refine g_nil ?_
    refine g_n_then ?_
    refine g_ret ?_
    obtain rfl := Option.some.inj hm
    refine g_done rfl (fun w hh => (.tmp rfl .nil)) (fun w hh => ⟨(), rfl, trivial, hh.sel [0] [] 1 (by decide) (by decide) rfl rfl rfl⟩)
end Go.Proofs.Wk
namespace Go.Proofs.Wk
open Go Go.Fw Go.Gx Go.Pl
set_option linter.unusedVariables false
structure m_laurelkit_Heap_Upto_R where
  r0 : Int
  h0_1 : Int
  h0_2 : Int
def m_laurelkit_Heap_Upto (h00 : (List Int)) (h01 : Int) (h02 : Int) (n1 : Int) : Option m_laurelkit_Heap_Upto_R :=
 (m_laurelkit_Heap_pick h00 h01 h02).bind fun t6 =>
 (addc n1 1).bind fun t8 =>
 (remc t6.r0 (max 1 t8)).bind fun t10 =>
 some (⟨t10, t6.h0_1, t6.h0_2⟩ : m_laurelkit_Heap_Upto_R)
set_option maxRecDepth 100000 in
set_option maxHeartbeats 4000000 in
theorem c_laurelkit_Heap_Upto (h00 : (List Int)) (h01 : Int) (h02 : Int) (n1 : Int) (pb : Nat) (qa0 : Option Addr) (na0 ca0 : Nat) (w : World) (hw : HV w (keys [(pb, .cells #[.slice qa0 na0 ca0, .int .i64 h01, .int .u32 h02] 138 (0, 0))] []) [(pb, .cells #[.slice qa0 na0 ca0, .int .i64 h01, .int .u32 h02] 138 (0, 0))] [] [(aB qa0, aO qa0, RU8.enc h00)] w) (hna0 : h00.length = na0) (hqa0 : AOK na0 qa0) (hla0 : na0 ≤ ca0) {res : m_laurelkit_Heap_Upto_R} (hm : m_laurelkit_Heap_Upto h00 h01 h02 n1 = some res) :
    Calls Try.prog 64 #[ptr pb 0, .int .i64 n1] w (fun en w' => ∃ l : Unit, en = .returned (.int .i64 res.r0) ∧ (True) ∧ HV w (keys [(pb, .cells #[.slice qa0 na0 ca0, .int .i64 h01, .int .u32 h02] 138 (0, 0))] []) [(pb, .cells #[.slice qa0 na0 ca0, .int .i64 res.h0_1, .int .u32 res.h0_2] 138 (0, 0))] [] [] w') := by
  unfold m_laurelkit_Heap_Upto at hm
  refine g_enter (args := [ptr pb 0, .int .i64 n1]) Try.func64 rfl Try.ntmps64 rfl (e := [(0, _), (1, _)]) rfl (H := HV w (keys [(pb, .cells #[.slice qa0 na0 ca0, .int .i64 h01, .int .u32 h02] 138 (0, 0))] []) [(pb, .cells #[.slice qa0 na0 ca0, .int .i64 h01, .int .u32 h02] 138 (0, 0))] [] [(aB qa0, aO qa0, RU8.enc h00)]) hw ?_
  refine g_seq ?_
  refine g_region ?_
  refine g_val rfl rfl rfl (fun _ _ => v_assign rfl) ?_
  refine g_nil ?_
  refine g_n_then ?_
  refine g_seq ?_
  refine g_region ?_
  refine g_val rfl rfl rfl (fun _ _ => v_move rfl) ?_
  obtain ⟨t6, h1, hm⟩ := bindO hm
  refine g_callH [_] [] rfl rfl rfl rfl rfl rfl rfl (fun a w => Try.call132 a w) (fun w hh => c_laurelkit_Heap_pick h00 h01 h02 pb qa0 na0 ca0 w (HV.callee (S0 := [_]) (vs0 := []) hh (roC (hh.rsep (S0 := [_]) (vs0 := []) 0 rfl) roN)) hna0 hqa0 hla0 h1) (fun l h2 => ?_)
  refine g_sel (S' := [_]) (vs' := []) [0] [] 0 (by decide) (by decide) rfl rfl rfl ?_
  refine g_val rfl rfl rfl (fun _ _ => v_move rfl) ?_
  obtain ⟨t8, h3, hm⟩ := bindO hm
  refine g_val rfl rfl rfl (fun _ _ => v_addc h3 rfl rfl) ?_
  refine g_val rfl rfl rfl (fun _ _ => v_max rfl rfl) ?_
  obtain ⟨t10, h4, hm⟩ := bindO hm
  refine g_val rfl rfl rfl (fun _ _ => v_remc h4 rfl rfl) ?_
  refine g_val rfl rfl rfl (fun _ _ => v_assign rfl) ?_
  refine g_nil ?_
  refine g_n_then ?_
  refine g_ret ?_
  obtain rfl := Option.some.inj hm
  refine g_done rfl (fun w hh => (.tmp rfl .nil)) (fun w hh => ⟨(), rfl, trivial, hh.sel [0] [] 1 (by decide) (by decide) rfl rfl rfl⟩)
end Go.Proofs.Wk
namespace Go.Proofs.Wk
open Go Go.Fw Go.Gx Go.Pl
set_option linter.unusedVariables false
structure m_laurelkit_Heap_From_R where
  r0 : Int
  h0_1 : Int
  h0_2 : Int
def m_laurelkit_Heap_From (h00 : (List Int)) (h01 : Int) (h02 : Int) (lo1 : Int) (hi2 : Int) : Option m_laurelkit_Heap_From_R :=
 (subc hi2 lo1).bind fun t11 =>
 (m_laurelkit_Heap_Upto h00 h01 h02 t11).bind fun t12 =>
 (addc lo1 t12.r0).bind fun t13 =>
 some (⟨t13, t12.h0_1, t12.h0_2⟩ : m_laurelkit_Heap_From_R)
set_option maxRecDepth 100000 in
set_option maxHeartbeats 4000000 in
theorem c_laurelkit_Heap_From (h00 : (List Int)) (h01 : Int) (h02 : Int) (lo1 : Int) (hi2 : Int) (pb : Nat) (qa0 : Option Addr) (na0 ca0 : Nat) (w : World) (hw : HV w (keys [(pb, .cells #[.slice qa0 na0 ca0, .int .i64 h01, .int .u32 h02] 138 (0, 0))] []) [(pb, .cells #[.slice qa0 na0 ca0, .int .i64 h01, .int .u32 h02] 138 (0, 0))] [] [(aB qa0, aO qa0, RU8.enc h00)] w) (hna0 : h00.length = na0) (hqa0 : AOK na0 qa0) (hla0 : na0 ≤ ca0) {res : m_laurelkit_Heap_From_R} (hm : m_laurelkit_Heap_From h00 h01 h02 lo1 hi2 = some res) :
    Calls Try.prog 20 #[ptr pb 0, .int .i64 lo1, .int .i64 hi2] w (fun en w' => ∃ l : Unit, en = .returned (.int .i64 res.r0) ∧ (True) ∧ HV w (keys [(pb, .cells #[.slice qa0 na0 ca0, .int .i64 h01, .int .u32 h02] 138 (0, 0))] []) [(pb, .cells #[.slice qa0 na0 ca0, .int .i64 res.h0_1, .int .u32 res.h0_2] 138 (0, 0))] [] [] w') := by
  unfold m_laurelkit_Heap_From at hm
  refine g_enter (args := [ptr pb 0, .int .i64 lo1, .int .i64 hi2]) Try.func20 rfl Try.ntmps20 rfl (e := [(0, _), (1, _), (2, _)]) rfl (H := HV w (keys [(pb, .cells #[.slice qa0 na0 ca0, .int .i64 h01, .int .u32 h02] 138 (0, 0))] []) [(pb, .cells #[.slice qa0 na0 ca0, .int .i64 h01, .int .u32 h02] 138 (0, 0))] [] [(aB qa0, aO qa0, RU8.enc h00)]) hw ?_
  refine g_seq ?_
  refine g_region ?_
  refine g_val rfl rfl rfl (fun _ _ => v_assign rfl) ?_
  refine g_nil ?_
  refine g_n_then ?_
  refine g_seq ?_
  refine g_region ?_
  refine g_val rfl rfl rfl (fun _ _ => v_move rfl) ?_
  refine g_val rfl rfl rfl (fun _ _ => v_move rfl) ?_
  refine g_val rfl rfl rfl (fun _ _ => v_move rfl) ?_
  refine g_val rfl rfl rfl (fun _ _ => v_move rfl) ?_
  obtain ⟨t11, h1, hm⟩ := bindO hm
  refine g_val rfl rfl rfl (fun _ _ => v_subc h1 rfl rfl) ?_
  obtain ⟨t12, h2, hm⟩ := bindO hm
  refine g_callH [_] [] rfl rfl rfl rfl rfl rfl rfl (fun a w => Try.call64 a w) (fun w hh => c_laurelkit_Heap_Upto h00 h01 h02 t11 pb qa0 na0 ca0 w (HV.callee (S0 := [_]) (vs0 := []) hh (roC (hh.rsep (S0 := [_]) (vs0 := []) 0 rfl) roN)) hna0 hqa0 hla0 h2) (fun l h3 => ?_)
  refine g_sel (S' := [_]) (vs' := []) [0] [] 0 (by decide) (by decide) rfl rfl rfl ?_
  obtain ⟨t13, h4, hm⟩ := bindO hm
  refine g_val rfl rfl rfl (fun _ _ => v_addc h4 rfl rfl) ?_
  refine g_val rfl rfl rfl (fun _ _ => v_assign rfl) ?_
  refine g_nil ?_
  refine g_n_then ?_
  refine g_ret ?_
  obtain rfl := Option.some.inj hm
  refine g_done rfl (fun w hh => (.tmp rfl .nil)) (fun w hh => ⟨(), rfl, trivial, hh.sel [0] [] 1 (by decide) (by decide) rfl rfl rfl⟩)
end Go.Proofs.Wk
namespace Go.Proofs.Wk
open Go Go.Fw Go.Gx Go.Pl
set_option linter.unusedVariables false
structure m_laurelkit_Heap_Once_R where
  r0 : Bool
  h0_1 : Int
  h0_2 : Int
def m_laurelkit_Heap_Once (h00 : (List Int)) (h01 : Int) (h02 : Int) (n1 : Int) : Option m_laurelkit_Heap_Once_R :=
 (subc n1 1).bind fun t7 =>
 (m_laurelkit_Heap_Upto h00 h01 h02 t7).bind fun t8 =>
 some (⟨(decide (t8.r0 = 0)), t8.h0_1, t8.h0_2⟩ : m_laurelkit_Heap_Once_R)
set_option maxRecDepth 100000 in
set_option maxHeartbeats 4000000 in
theorem c_laurelkit_Heap_Once (h00 : (List Int)) (h01 : Int) (h02 : Int) (n1 : Int) (pb : Nat) (qa0 : Option Addr) (na0 ca0 : Nat) (w : World) (hw : HV w (keys [(pb, .cells #[.slice qa0 na0 ca0, .int .i64 h01, .int .u32 h02] 138 (0, 0))] []) [(pb, .cells #[.slice qa0 na0 ca0, .int .i64 h01, .int .u32 h02] 138 (0, 0))] [] [(aB qa0, aO qa0, RU8.enc h00)] w) (hna0 : h00.length = na0) (hqa0 : AOK na0 qa0) (hla0 : na0 ≤ ca0) {res : m_laurelkit_Heap_Once_R} (hm : m_laurelkit_Heap_Once h00 h01 h02 n1 = some res) :
    Calls Try.prog 85 #[ptr pb 0, .int .i64 n1] w (fun en w' => ∃ l : Unit, en = .returned (.bool res.r0) ∧ (True) ∧ HV w (keys [(pb, .cells #[.slice qa0 na0 ca0, .int .i64 h01, .int .u32 h02] 138 (0, 0))] []) [(pb, .cells #[.slice qa0 na0 ca0, .int .i64 res.h0_1, .int .u32 res.h0_2] 138 (0, 0))] [] [] w') := by
  unfold m_laurelkit_Heap_Once at hm
  refine g_enter (args := [ptr pb 0, .int .i64 n1]) Try.func85 rfl Try.ntmps85 rfl (e := [(0, _), (1, _)]) rfl (H := HV w (keys [(pb, .cells #[.slice qa0 na0 ca0, .int .i64 h01, .int .u32 h02] 138 (0, 0))] []) [(pb, .cells #[.slice qa0 na0 ca0, .int .i64 h01, .int .u32 h02] 138 (0, 0))] [] [(aB qa0, aO qa0, RU8.enc h00)]) hw ?_
  refine g_seq ?_
  refine g_region ?_
  refine g_val rfl rfl rfl (fun _ _ => v_assign rfl) ?_
  refine g_nil ?_
  refine g_n_then ?_
  refine g_seq ?_
  refine g_region ?_
  refine g_val rfl rfl rfl (fun _ _ => v_move rfl) ?_
  refine g_val rfl rfl rfl (fun _ _ => v_move rfl) ?_
  obtain ⟨t7, h1, hm⟩ := bindO hm
  refine g_val rfl rfl rfl (fun _ _ => v_subc h1 rfl rfl) ?_
  obtain ⟨t8, h2, hm⟩ := bindO hm
  refine g_callH [_] [] rfl rfl rfl rfl rfl rfl rfl (fun a w => Try.call64 a w) (fun w hh => c_laurelkit_Heap_Upto h00 h01 h02 t7 pb qa0 na0 ca0 w (HV.callee (S0 := [_]) (vs0 := []) hh (roC (hh.rsep (S0 := [_]) (vs0 := []) 0 rfl) roN)) hna0 hqa0 hla0 h2) (fun l h3 => ?_)
  refine g_sel (S' := [_]) (vs' := []) [0] [] 0 (by decide) (by decide) rfl rfl rfl ?_
  refine g_val rfl rfl rfl (fun _ _ => v_eql rfl rfl) ?_
  refine g_val rfl rfl rfl (fun _ _ => v_assign rfl) ?_
  refine g_nil ?_
  refine g_n_then ?_
  refine g_ret ?_
  obtain rfl := Option.some.inj hm
  refine g_done rfl (fun w hh => (.tmp rfl .nil)) (fun w hh => ⟨(), rfl, trivial, hh.sel [0] [] 1 (by decide) (by decide) rfl rfl rfl⟩)
end Go.Proofs.Wk
namespace Go.Proofs.Wk
open Go Go.Fw Go.Gx Go.Pl
set_option linter.unusedVariables false
structure m_laurellaw01_Made_R where
  r0 : Sands
  b0_1 : Int
  b0_2 : Int
structure m_laurellaw01_Made_C0 where
  b0_1 : Int
  b0_2 : Int
  s7_table : (List Water)
structure m_laurellaw01_Made_S0 where
  at8 : Int
  t23 : Int
  b0_1 : Int
  b0_2 : Int
  s7_table : (List Water)
def m_laurellaw01_Made_L0 (t22 : m_laurelkit_Heap_From_R) (b00 : (List Int)) (s : m_laurellaw01_Made_S0) : Option (m_laurellaw01_Made_S0 ⊕ m_laurellaw01_Made_C0) :=
 if s.t23 < t22.r0 then
 ((m_laurelkit_Heap_Upto b00 s.b0_1 s.b0_2 60).bind fun t29 =>
 (appc 16 s.s7_table [(⟨s.at8, t29.r0⟩ : Water)]).bind fun t32 =>
 (m_laurelkit_Heap_From b00 t29.h0_1 t29.h0_2 1 30).bind fun t36 =>
 (addc s.at8 t36.r0).bind fun t37 =>
 (addc s.t23 1).bind fun t38 =>
 some (.inl (⟨t37, t38, t36.h0_1, t36.h0_2, t32⟩ : m_laurellaw01_Made_S0))) else
 (some (.inr (⟨s.b0_1, s.b0_2, s.s7_table⟩ : m_laurellaw01_Made_C0)))
structure m_laurellaw01_Made_C1 where
  b0_1 : Int
  b0_2 : Int
  s7_floors : (List Int)
structure m_laurellaw01_Made_S1 where
  t42 : Int
  b0_1 : Int
  b0_2 : Int
  s7_floors : (List Int)
def m_laurellaw01_Made_L1 (t41 : m_laurelkit_Heap_From_R) (b00 : (List Int)) (s_1 : m_laurellaw01_Made_S1) : Option (m_laurellaw01_Made_S1 ⊕ m_laurellaw01_Made_C1) :=
 if s_1.t42 < t41.r0 then
 ((m_laurelkit_Heap_Upto b00 s_1.b0_1 s_1.b0_2 50).bind fun t47 =>
 (appc 8 s_1.s7_floors [t47.r0]).bind fun t49 =>
 (addc s_1.t42 1).bind fun t51 =>
 some (.inl (⟨t51, t47.h0_1, t47.h0_2, t49⟩ : m_laurellaw01_Made_S1))) else
 (some (.inr (⟨s_1.b0_1, s_1.b0_2, s_1.s7_floors⟩ : m_laurellaw01_Made_C1)))
structure m_laurellaw01_Made_C2 where
  b0_1 : Int
  b0_2 : Int
  s7_sills : (List Sill)
structure m_laurellaw01_Made_S2 where
  t55 : Int
  b0_1 : Int
  b0_2 : Int
  s7_sills : (List Sill)
structure m_laurellaw01_Made_C3 where
  b0_1 : Int
  b0_2 : Int
  s7_sills : (List Sill)
structure m_laurellaw01_Made_C4 where
  x11_a : Int
  x11_b : Int
  b0_1 : Int
  b0_2 : Int
structure m_laurellaw01_Made_C5 where
  x11_a : Int
  x11_b : Int
  b0_1 : Int
  b0_2 : Int
def m_laurellaw01_Made_L2 (t54 : m_laurelkit_Heap_Upto_R) (o_1 : m_laurellaw01_Made_C1) (b00 : (List Int)) (s_2 : m_laurellaw01_Made_S2) : Option (m_laurellaw01_Made_S2 ⊕ m_laurellaw01_Made_C2) :=
 if s_2.t55 < t54.r0 then
 (((subc (o_1.s7_floors.length : Int) 1).bind fun t62 =>
 (subc (min s_2.t55 t62) 1).bind fun t66 =>
 (m_laurelkit_Heap_From b00 s_2.b0_1 s_2.b0_2 (-1) t66).bind fun t67 =>
 (m_laurelkit_Heap_Upto b00 t67.h0_1 t67.h0_2 50).bind fun t70 =>
 (if (o_1.s7_floors.length : Int) ≤ s_2.t55 then
 ((subc (o_1.s7_floors.length : Int) 1).bind fun t81 =>
 (subc (o_1.s7_floors.length : Int) 1).bind fun t87 =>
 (m_laurelkit_Heap_From b00 t70.h0_1 t70.h0_2 (-1) t81).bind fun t82 =>
 (m_laurelkit_Heap_Upto b00 t82.h0_1 t82.h0_2 t87).bind fun t88 =>
 some (⟨t82.r0, t88.r0, t88.h0_1, t88.h0_2⟩ : m_laurellaw01_Made_C4)) else
 (some (⟨t67.r0, (min s_2.t55 t62), t70.h0_1, t70.h0_2⟩ : m_laurellaw01_Made_C4))).bind fun o_4 =>
 ((m_laurelkit_Heap_Once b00 o_4.b0_1 o_4.b0_2 3).bind fun t92 =>
 if t92.r0 = true then
 (some (⟨o_4.x11_b, o_4.x11_a, t92.h0_1, t92.h0_2⟩ : m_laurellaw01_Made_C5)) else
 (some (⟨o_4.x11_a, o_4.x11_b, t92.h0_1, t92.h0_2⟩ : m_laurellaw01_Made_C5))).bind fun o_5 =>
 if o_5.x11_a = o_5.x11_b then
 (some (⟨o_5.b0_1, o_5.b0_2, s_2.s7_sills⟩ : m_laurellaw01_Made_C3)) else
 ((appc 24 s_2.s7_sills [(⟨o_5.x11_a, o_5.x11_b, t70.r0⟩ : Sill)]).bind fun t108 =>
 some (⟨o_5.b0_1, o_5.b0_2, t108⟩ : m_laurellaw01_Made_C3))).bind fun o_3 =>
 (addc s_2.t55 1).bind fun t110 =>
 some (.inl (⟨t110, o_3.b0_1, o_3.b0_2, o_3.s7_sills⟩ : m_laurellaw01_Made_S2))) else
 (some (.inr (⟨s_2.b0_1, s_2.b0_2, s_2.s7_sills⟩ : m_laurellaw01_Made_C2)))
def m_laurellaw01_Made (b00 : (List Int)) (b01 : Int) (b02 : Int) (places1 : Int) (sills2 : Int) : Option m_laurellaw01_Made_R :=
 (m_laurelkit_Heap_Upto b00 b01 b02 8).bind fun t13 =>
 (negc t13.r0).bind fun t14 =>
 (m_laurelkit_Heap_Upto b00 t13.h0_1 t13.h0_2 8).bind fun t16 =>
 (m_laurelkit_Heap_Upto b00 t16.h0_1 t16.h0_2 20).bind fun t20 =>
 (m_laurelkit_Heap_From b00 t20.h0_1 t20.h0_2 2 4).bind fun t22 =>
 (iterM FU (m_laurellaw01_Made_L0 t22 b00) (⟨t20.r0, 0, t22.h0_1, t22.h0_2, []⟩ : m_laurellaw01_Made_S0)).bind fun o =>
 (m_laurelkit_Heap_From b00 o.b0_1 o.b0_2 1 places1).bind fun t41 =>
 (iterM FU (m_laurellaw01_Made_L1 t41 b00) (⟨0, t41.h0_1, t41.h0_2, []⟩ : m_laurellaw01_Made_S1)).bind fun o_1 =>
 (m_laurelkit_Heap_Upto b00 o_1.b0_1 o_1.b0_2 sills2).bind fun t54 =>
 (iterM FU (m_laurellaw01_Made_L2 t54 o_1 b00) (⟨0, t54.h0_1, t54.h0_2, []⟩ : m_laurellaw01_Made_S2)).bind fun o_2 =>
 some (⟨(⟨o.s7_table, (⟨t14, t16.r0⟩ : Span), o_1.s7_floors, o_2.s7_sills⟩ : Sands), o_2.b0_1, o_2.b0_2⟩ : m_laurellaw01_Made_R)
set_option maxRecDepth 100000 in
set_option maxHeartbeats 4000000 in
theorem c_laurellaw01_Made (b00 : (List Int)) (b01 : Int) (b02 : Int) (places1 : Int) (sills2 : Int) (pb : Nat) (qa0 : Option Addr) (na0 ca0 : Nat) (w : World) (hw : HV w (keys [(pb, .cells #[.slice qa0 na0 ca0, .int .i64 b01, .int .u32 b02] 138 (0, 0))] []) [(pb, .cells #[.slice qa0 na0 ca0, .int .i64 b01, .int .u32 b02] 138 (0, 0))] [] [(aB qa0, aO qa0, RU8.enc b00)] w) (hna0 : b00.length = na0) (hqa0 : AOK na0 qa0) (hla0 : na0 ≤ ca0) {res : m_laurellaw01_Made_R} (hm : m_laurellaw01_Made b00 b01 b02 places1 sills2 = some res) :
    Calls Try.prog 18 #[ptr pb 0, .int .i64 places1, .int .i64 sills2] w (fun en w' => ∃ l : VL × VL × VL, en = .returned (.agg #[slv l.1.q l.1.n l.1.cap, .int .i64 res.r0.wind.lo, .int .i64 res.r0.wind.hi, slv l.2.1.q l.2.1.n l.2.1.cap, slv l.2.2.q l.2.2.n l.2.2.cap]) ∧ (VOK 2 l.1.n l.1.cap (RW.enc res.r0.table) l.1.sp l.1.q ∧ VOK 1 l.2.1.n l.2.1.cap (RI.enc res.r0.floors) l.2.1.sp l.2.1.q ∧ VOK 3 l.2.2.n l.2.2.cap (RS.enc res.r0.sills) l.2.2.sp l.2.2.q) ∧ HV w (keys [(pb, .cells #[.slice qa0 na0 ca0, .int .i64 b01, .int .u32 b02] 138 (0, 0))] []) [(pb, .cells #[.slice qa0 na0 ca0, .int .i64 res.b0_1, .int .u32 res.b0_2] 138 (0, 0))] [⟨68, RW.enc res.r0.table, l.1.sp, l.1.q⟩, ⟨3, RI.enc res.r0.floors, l.2.1.sp, l.2.1.q⟩, ⟨51, RS.enc res.r0.sills, l.2.2.sp, l.2.2.q⟩] [] w') := by
  unfold m_laurellaw01_Made at hm
  refine g_enter (args := [ptr pb 0, .int .i64 places1, .int .i64 sills2]) Try.func18 rfl Try.ntmps18 rfl (e := [(0, _), (1, _), (2, _)]) rfl (H := HV w (keys [(pb, .cells #[.slice qa0 na0 ca0, .int .i64 b01, .int .u32 b02] 138 (0, 0))] []) [(pb, .cells #[.slice qa0 na0 ca0, .int .i64 b01, .int .u32 b02] 138 (0, 0))] [] [(aB qa0, aO qa0, RU8.enc b00)]) hw ?_
  refine g_seq ?_
  refine g_region ?_
  refine g_allocV (fun w => Try.zeroValue29 w) rfl (fun b h4 => ?_)
  refine g_nil ?_
  refine g_n_then ?_
  refine g_seq ?_
  refine g_region ?_
  refine g_val rfl rfl rfl (fun _ _ => v_move rfl) ?_
  obtain ⟨t13, h5, hm⟩ := bindO hm
  refine g_sel (S' := [_, _]) (vs' := []) [1, 0] [] 0 (by decide) (by decide) rfl rfl rfl ?_
  refine g_callH [_] [] rfl rfl rfl rfl rfl rfl rfl (fun a w => Try.call64 a w) (fun w hh => c_laurelkit_Heap_Upto b00 b01 b02 8 pb qa0 na0 ca0 w (HV.callee (S0 := [_]) (vs0 := []) hh (roC (hh.rsep (S0 := [_]) (vs0 := []) 0 rfl) roN)) hna0 hqa0 hla0 h5) (fun l h6 => ?_)
  refine g_sel (S' := [_, _]) (vs' := []) [0, 1] [] 0 (by decide) (by decide) rfl rfl rfl ?_
  obtain ⟨t14, h7, hm⟩ := bindO hm
  refine g_val rfl rfl rfl (fun _ _ => v_negc h7 rfl) ?_
  refine g_val rfl rfl rfl (fun _ _ => v_move rfl) ?_
  obtain ⟨t16, h8, hm⟩ := bindO hm
  refine g_callH [_] [] rfl rfl rfl rfl rfl rfl rfl (fun a w => Try.call64 a w) (fun w hh => c_laurelkit_Heap_Upto b00 t13.h0_1 t13.h0_2 8 pb qa0 na0 ca0 w (HV.callee (S0 := [_]) (vs0 := []) hh (roC (hh.rsep (S0 := [_]) (vs0 := []) 0 rfl) roN)) hna0 hqa0 hla0 h8) (fun l_1 h9 => ?_)
  refine g_sel (S' := [_, _]) (vs' := []) [0, 1] [] 0 (by decide) (by decide) rfl rfl rfl ?_
  refine g_val rfl rfl rfl (fun _ _ => v_build (vs := [(0, _), (1, _)]) (cells := [_, _]) rfl rfl) ?_
  refine g_val rfl rfl rfl (fun _ _ => v_build (vs := [(1, _)]) (cells := [_, _, _, _, _]) rfl rfl) ?_
  refine g_allocV (fun w => Try.zeroValue29 w) rfl (fun b_1 h10 => ?_)
  refine g_stSA (us := #[_, _, _, _, _]) (cs' := [_, _, _, _, _]) (S' := [_, _, _]) 0 (fun w => Try.sizeOf29 w) rfl rfl rfl rfl rfl rfl rfl ?_
  refine g_nil ?_
  refine g_n_then ?_
  refine g_seq ?_
  refine g_region ?_
  refine g_val rfl rfl rfl (fun _ _ => v_move rfl) ?_
  obtain ⟨t20, h11, hm⟩ := bindO hm
  refine g_sel (S' := [_, _, _]) (vs' := []) [1, 0, 2] [] 0 (by decide) (by decide) rfl rfl rfl ?_
  refine g_callH [_] [] rfl rfl rfl rfl rfl rfl rfl (fun a w => Try.call64 a w) (fun w hh => c_laurelkit_Heap_Upto b00 t16.h0_1 t16.h0_2 20 pb qa0 na0 ca0 w (HV.callee (S0 := [_]) (vs0 := []) hh (roC (hh.rsep (S0 := [_]) (vs0 := []) 0 rfl) roN)) hna0 hqa0 hla0 h11) (fun l_2 h12 => ?_)
  refine g_sel (S' := [_, _, _]) (vs' := []) [0, 1, 2] [] 0 (by decide) (by decide) rfl rfl rfl ?_
  refine g_val rfl rfl rfl (fun _ _ => v_assign rfl) ?_
  refine g_nil ?_
  refine g_n_then ?_
  refine g_seq ?_
  refine g_seq ?_
  refine g_region ?_
  refine g_val rfl rfl rfl (fun _ _ => v_move rfl) ?_
  obtain ⟨t22, h13, hm⟩ := bindO hm
  refine g_callH [_] [] rfl rfl rfl rfl rfl rfl rfl (fun a w => Try.call20 a w) (fun w hh => c_laurelkit_Heap_From b00 t20.h0_1 t20.h0_2 2 4 pb qa0 na0 ca0 w (HV.callee (S0 := [_]) (vs0 := []) hh (roC (hh.rsep (S0 := [_]) (vs0 := []) 0 rfl) roN)) hna0 hqa0 hla0 h13) (fun l_3 h14 => ?_)
  refine g_sel (S' := [_, _, _]) (vs' := []) [0, 1, 2] [] 0 (by decide) (by decide) rfl rfl rfl ?_
  refine g_val rfl rfl rfl (fun _ _ => v_move rfl) ?_
  refine g_nil ?_
  refine g_n_then ?_
  refine g_vnil 68 ?_
  obtain ⟨o, h15, h16⟩ := bindO hm
  refine g_cut (ι := VL) (fun l_4 => VOK 2 l_4.n l_4.cap (RW.enc o.s7_table) l_4.sp l_4.q) (fun l_4 => [(0, ptr pb 0), (1, .int .i64 places1), (2, .int .i64 sills2), (6, ptr b 0), (7, ptr b_1 0)]) (fun l_4 => [(pb, .cells #[.slice qa0 na0 ca0, .int .i64 o.b0_1, .int .u32 o.b0_2] 138 (0, 0)), (b_1, .cells #[slv l_4.q l_4.n l_4.cap, .int .i64 t14, .int .i64 t16.r0, slv none 0 0, slv none 0 0] 29 (0, 0)), (b, .cells #[slv none 0 0, .int .i64 0, .int .i64 0, slv none 0 0, slv none 0 0] 29 (0, 0))]) (fun l_4 => [⟨68, RW.enc o.s7_table, l_4.sp, l_4.q⟩]) ?_ ?_
  ·replace hm := h15
   refine g_block ?_
   refine g_loopF (ι := VL) hm (fun s l_5 => VOK 2 l_5.n l_5.cap (RW.enc s.s7_table) l_5.sp l_5.q) (fun s l_5 => [(0, ptr pb 0), (1, .int .i64 places1), (2, .int .i64 sills2), (6, ptr b 0), (7, ptr b_1 0), (8, .int .i64 s.at8), (22, .int .i64 t22.r0), (23, .int .i64 s.t23)]) (fun s l_5 => [(pb, .cells #[.slice qa0 na0 ca0, .int .i64 s.b0_1, .int .u32 s.b0_2] 138 (0, 0)), (b_1, .cells #[slv l_5.q l_5.n l_5.cap, .int .i64 t14, .int .i64 t16.r0, slv none 0 0, slv none 0 0] 29 (0, 0)), (b, .cells #[slv none 0 0, .int .i64 0, .int .i64 0, slv none 0 0, slv none 0 0] 29 (0, 0))]) (fun s l_5 => [⟨68, RW.enc s.s7_table, l_5.sp, l_5.q⟩]) ⟨none, 0, 0, []⟩ (VOK.nil) ((.cons rfl (.cons rfl (.cons rfl (.cons rfl (.cons rfl (.cons rfl (.cons rfl (.cons rfl .nil))))))))) (fun w hh => hh) (fun s l_5 r hpl hm h19 => ?_)
   have h18 := hpl
   unfold m_laurellaw01_Made_L0 at hm
   refine g_seq ?_
   refine g_region ?_
   refine g_val rfl rfl rfl (fun _ _ => v_lss rfl rfl) ?_
   refine g_nil ?_
   refine g_n_then ?_
   refine g_seq ?_
   refine g_cond rfl (fun h20 => ?_) (fun h20 => ?_)
   ·replace hm := ifT (of_decide_eq_true h20) hm
    refine g_skip ?_
    refine g_n_then ?_
    refine g_seq ?_
    refine g_block ?_
    refine g_seq ?_
    refine g_draw (some 9) (.free 0 (.hoist 1 (.free 2 (.free 3 (.one 4 (.free 5 (.one 6 (.one 7 (.free 8 (.last 9 .done)))))))))) (HV _ _ [(b_1, .cells #[slv l_5.q l_5.n l_5.cap, .int .i64 t14, .int .i64 t16.r0, slv none 0 0, slv none 0 0] 29 (0, 0)), (b, .cells #[slv none 0 0, .int .i64 0, .int .i64 0, slv none 0 0, slv none 0 0] 29 (0, 0))] [] _) rfl (by decide +kernel) (fun w k hh => hh.draw k) (fun w hh => hh.sel [1, 2] [] 0 (by decide) (by decide) rfl rfl rfl) ?_
    refine p_free rfl rfl rfl rfl (fun w _ => v_fieldAddr 0 (Try.runUnderlying29 w) rfl (Try.sizeOf23 w) rfl) ?_
    refine p_hoist rfl rfl rfl rfl (fun w hh => v_load (Try.isAgg23 w) rfl (hh.cell 0 rfl rfl)) ?_
    refine p_free rfl rfl rfl rfl (fun _ _ => v_move rfl) ?_
    refine p_free rfl rfl rfl rfl (fun _ _ => v_move rfl) ?_
    refine p_one rfl ?_
    obtain ⟨t29, h21, hm⟩ := bindO hm
    refine g_callH [_] [] rfl rfl rfl rfl rfl rfl rfl (fun a w => Try.call64 a w) (fun w hh => c_laurelkit_Heap_Upto b00 s.b0_1 s.b0_2 60 pb qa0 na0 ca0 w (HV.callee (S0 := [_]) (vs0 := []) hh (roC (hh.rsep (S0 := [_]) (vs0 := []) 0 rfl) roN)) hna0 hqa0 hla0 h21) (fun l_6 h22 => ?_)
    refine g_sel (S' := [_, _, _]) (vs' := [_]) [0, 1, 2] [0] 0 (by decide) (by decide) rfl rfl rfl ?_
    refine p_next (fun w hh => hh.sel [1, 2] [] 0 (by decide) (by decide) rfl rfl rfl) ?_
    refine p_free rfl rfl rfl rfl (fun _ _ => v_build (vs := [(0, _), (1, _)]) (cells := [_, _]) rfl rfl) ?_
    refine p_one rfl ?_
    refine g_vlit RW [(⟨s.at8, t29.r0⟩ : Water)] (ps := [(0, _)]) (cells := [_, _]) (fun w => Try.runUnderlying23 w) (fun w => Try.sizeOf68 w) (fun w => Try.zeroValue68 w) rfl rfl rfl rfl rfl rfl rfl rfl (fun L h23 => ?_)
    refine p_next (fun w hh => hh.sel [1, 2] [] 0 (by decide) (by decide) rfl rfl rfl) ?_
    refine p_one rfl ?_
    obtain ⟨t32, h24, hm⟩ := bindO hm
    refine g_vapp RW 1 h24 Try.underlying23 gxinf68 rfl rfl rfl rfl rfl h18 rfl rfl (vlen RW h23 rfl) (AOK.q (vne h23)) (fun w hh => (hh.vsegA 0 rfl h23)) rfl (fun L_1 h25 h25n => ?_)
    refine g_sel (S' := [_, _, _]) (vs' := [_, _]) [0, 1, 2] [0, 1] 0 (by decide) (by decide) rfl rfl rfl ?_
    refine p_next (fun w hh => hh.sel [1, 2] [] 0 (by decide) (by decide) rfl rfl rfl) ?_
    refine p_free rfl rfl rfl rfl (fun w _ => v_fieldAddr 0 (Try.runUnderlying29 w) rfl (Try.sizeOf23 w) rfl) ?_
    refine p_last rfl ?_
    refine g_stS (cs' := #[_, _, _, _, _]) (S' := [_, _, _]) 1 (fun w => Try.sizeOf23 w) rfl rfl rfl rfl rfl rfl rfl ?_
    refine p_nextL ?_
    refine p_done ?_
    refine g_n_then ?_
    refine g_region ?_
    refine g_val rfl rfl rfl (fun _ _ => v_move rfl) ?_
    refine g_val rfl rfl rfl (fun _ _ => v_move rfl) ?_
    obtain ⟨t36, h26, hm⟩ := bindO hm
    refine g_callH [_] [] rfl rfl rfl rfl rfl rfl rfl (fun a w => Try.call20 a w) (fun w hh => c_laurelkit_Heap_From b00 t29.h0_1 t29.h0_2 1 30 pb qa0 na0 ca0 w (HV.callee (S0 := [_]) (vs0 := []) hh (roC (hh.rsep (S0 := [_]) (vs0 := []) 0 rfl) roN)) hna0 hqa0 hla0 h26) (fun l_7 h27 => ?_)
    refine g_sel (S' := [_, _, _]) (vs' := [_, _]) [0, 1, 2] [0, 1] 0 (by decide) (by decide) rfl rfl rfl ?_
    obtain ⟨t37, h28, hm⟩ := bindO hm
    refine g_val rfl rfl rfl (fun _ _ => v_addc h28 rfl rfl) ?_
    refine g_val rfl rfl rfl (fun _ _ => v_assign rfl) ?_
    refine g_nil ?_
    refine g_n_blk ?_
    refine g_n_then ?_
    refine g_region ?_
    obtain ⟨t38, h29, hm⟩ := bindO hm
    refine g_val rfl rfl rfl (fun _ _ => v_addc h29 rfl rfl) ?_
    refine g_val rfl rfl rfl (fun _ _ => v_move rfl) ?_
    refine g_nil ?_
    obtain rfl := Option.some.inj hm
    refine g_n_then ?_
    exact g_again' _ L_1 rfl (h25) ((.cons rfl (.cons rfl (.cons rfl (.cons rfl (.cons rfl (.cons rfl (.cons rfl (.cons rfl .nil))))))))) (fun w hh => hh.sel [0, 1, 2] [1] 0 (by decide) (by decide) rfl rfl rfl)
   ·replace hm := ifF (of_decide_eq_false h20) hm
    refine g_exit ?_
    refine g_x_then ?_
    refine g_x_then ?_
    refine g_x_blk ?_
    obtain rfl := Option.some.inj hm
    have hbo := h19 _ rfl
    subst hbo
    exact g_leaf l_5 (h18) ((.cons rfl (.cons rfl (.cons rfl (.cons rfl (.cons rfl .nil)))))) (fun w hh => hh)
  ·intro l_4 hj
   have h17 := hj
   replace hm := h16
   refine g_n_then ?_
   refine g_seq ?_
   refine g_seq ?_
   refine g_region ?_
   refine g_val rfl rfl rfl (fun _ _ => v_move rfl) ?_
   refine g_val rfl rfl rfl (fun _ _ => v_move rfl) ?_
   obtain ⟨t41, h30, hm⟩ := bindO hm
   refine g_callH [_] [] rfl rfl rfl rfl rfl rfl rfl (fun a w => Try.call20 a w) (fun w hh => c_laurelkit_Heap_From b00 o.b0_1 o.b0_2 1 places1 pb qa0 na0 ca0 w (HV.callee (S0 := [_]) (vs0 := []) hh (roC (hh.rsep (S0 := [_]) (vs0 := []) 0 rfl) roN)) hna0 hqa0 hla0 h30) (fun l_8 h31 => ?_)
   refine g_sel (S' := [_, _, _]) (vs' := [_]) [0, 1, 2] [0] 0 (by decide) (by decide) rfl rfl rfl ?_
   refine g_val rfl rfl rfl (fun _ _ => v_move rfl) ?_
   refine g_nil ?_
   refine g_n_then ?_
   refine g_vnil 3 ?_
   obtain ⟨o_1, h32, h33⟩ := bindO hm
   refine g_cut (ι := VL) (fun l_9 => VOK 1 l_9.n l_9.cap (RI.enc o_1.s7_floors) l_9.sp l_9.q) (fun l_9 => [(0, ptr pb 0), (2, .int .i64 sills2), (6, ptr b 0), (7, ptr b_1 0)]) (fun l_9 => [(pb, .cells #[.slice qa0 na0 ca0, .int .i64 o_1.b0_1, .int .u32 o_1.b0_2] 138 (0, 0)), (b_1, .cells #[slv l_4.q l_4.n l_4.cap, .int .i64 t14, .int .i64 t16.r0, slv l_9.q l_9.n l_9.cap, slv none 0 0] 29 (0, 0)), (b, .cells #[slv none 0 0, .int .i64 0, .int .i64 0, slv none 0 0, slv none 0 0] 29 (0, 0))]) (fun l_9 => [⟨68, RW.enc o.s7_table, l_4.sp, l_4.q⟩, ⟨3, RI.enc o_1.s7_floors, l_9.sp, l_9.q⟩]) ?_ ?_
   ·replace hm := h32
    refine g_block ?_
    refine g_loopF (ι := VL) hm (fun s_1 l_10 => VOK 1 l_10.n l_10.cap (RI.enc s_1.s7_floors) l_10.sp l_10.q) (fun s_1 l_10 => [(0, ptr pb 0), (2, .int .i64 sills2), (6, ptr b 0), (7, ptr b_1 0), (41, .int .i64 t41.r0), (42, .int .i64 s_1.t42)]) (fun s_1 l_10 => [(pb, .cells #[.slice qa0 na0 ca0, .int .i64 s_1.b0_1, .int .u32 s_1.b0_2] 138 (0, 0)), (b_1, .cells #[slv l_4.q l_4.n l_4.cap, .int .i64 t14, .int .i64 t16.r0, slv l_10.q l_10.n l_10.cap, slv none 0 0] 29 (0, 0)), (b, .cells #[slv none 0 0, .int .i64 0, .int .i64 0, slv none 0 0, slv none 0 0] 29 (0, 0))]) (fun s_1 l_10 => [⟨68, RW.enc o.s7_table, l_4.sp, l_4.q⟩, ⟨3, RI.enc s_1.s7_floors, l_10.sp, l_10.q⟩]) ⟨none, 0, 0, []⟩ (VOK.nil) ((.cons rfl (.cons rfl (.cons rfl (.cons rfl (.cons rfl (.cons rfl .nil))))))) (fun w hh => hh.sel [0, 1, 2] [1, 0] 0 (by decide) (by decide) rfl rfl rfl) (fun s_1 l_10 r_1 hpl hm h36 => ?_)
    have h35 := hpl
    unfold m_laurellaw01_Made_L1 at hm
    refine g_seq ?_
    refine g_region ?_
    refine g_val rfl rfl rfl (fun _ _ => v_lss rfl rfl) ?_
    refine g_nil ?_
    refine g_n_then ?_
    refine g_seq ?_
    refine g_cond rfl (fun h37 => ?_) (fun h37 => ?_)
    ·replace hm := ifT (of_decide_eq_true h37) hm
     refine g_skip ?_
     refine g_n_then ?_
     refine g_seq ?_
     refine g_block ?_
     refine g_draw (some 7) (.free 0 (.hoist 1 (.free 2 (.one 3 (.one 4 (.one 5 (.free 6 (.last 7 .done)))))))) (HV _ _ [(b_1, .cells #[slv l_4.q l_4.n l_4.cap, .int .i64 t14, .int .i64 t16.r0, slv l_10.q l_10.n l_10.cap, slv none 0 0] 29 (0, 0)), (b, .cells #[slv none 0 0, .int .i64 0, .int .i64 0, slv none 0 0, slv none 0 0] 29 (0, 0))] [⟨68, RW.enc o.s7_table, l_4.sp, l_4.q⟩] _) rfl (by decide +kernel) (fun w k hh => hh.draw k) (fun w hh => hh.sel [1, 2] [0] 0 (by decide) (by decide) rfl rfl rfl) ?_
     refine p_free rfl rfl rfl rfl (fun w _ => v_fieldAddr 3 (Try.runUnderlying29 w) rfl (Try.sizeOf26 w) rfl) ?_
     refine p_hoist rfl rfl rfl rfl (fun w hh => v_load (Try.isAgg26 w) rfl (hh.cell 0 rfl rfl)) ?_
     refine p_free rfl rfl rfl rfl (fun _ _ => v_move rfl) ?_
     refine p_one rfl ?_
     obtain ⟨t47, h38, hm⟩ := bindO hm
     refine g_callH [_] [] rfl rfl rfl rfl rfl rfl rfl (fun a w => Try.call64 a w) (fun w hh => c_laurelkit_Heap_Upto b00 s_1.b0_1 s_1.b0_2 50 pb qa0 na0 ca0 w (HV.callee (S0 := [_]) (vs0 := []) hh (roC (hh.rsep (S0 := [_]) (vs0 := []) 0 rfl) roN)) hna0 hqa0 hla0 h38) (fun l_11 h39 => ?_)
     refine g_sel (S' := [_, _, _]) (vs' := [_, _]) [0, 1, 2] [0, 1] 0 (by decide) (by decide) rfl rfl rfl ?_
     refine p_next (fun w hh => hh.sel [1, 2] [0] 0 (by decide) (by decide) rfl rfl rfl) ?_
     refine p_one rfl ?_
     refine g_vlit RI [t47.r0] (ps := [(0, _)]) (cells := [_]) (fun w => Try.runUnderlying26 w) (fun w => Try.sizeOf3 w) (fun w => Try.zeroValue3 w) rfl rfl rfl rfl rfl rfl rfl rfl (fun L_2 h40 => ?_)
     refine p_next (fun w hh => hh.sel [1, 2] [1] 0 (by decide) (by decide) rfl rfl rfl) ?_
     refine p_one rfl ?_
     obtain ⟨t49, h41, hm⟩ := bindO hm
     refine g_vapp RI 2 h41 Try.underlying26 gxinf3 rfl rfl rfl rfl rfl h35 rfl rfl (vlen RI h40 rfl) (AOK.q (vne h40)) (fun w hh => (hh.vsegA 0 rfl h40)) rfl (fun L_3 h42 h42n => ?_)
     refine g_sel (S' := [_, _, _]) (vs' := [_, _, _]) [0, 1, 2] [0, 1, 2] 0 (by decide) (by decide) rfl rfl rfl ?_
     refine p_next (fun w hh => hh.sel [1, 2] [1] 0 (by decide) (by decide) rfl rfl rfl) ?_
     refine p_free rfl rfl rfl rfl (fun w _ => v_fieldAddr 3 (Try.runUnderlying29 w) rfl (Try.sizeOf26 w) rfl) ?_
     refine p_last rfl ?_
     refine g_stS (cs' := #[_, _, _, _, _]) (S' := [_, _, _]) 1 (fun w => Try.sizeOf26 w) rfl rfl rfl rfl rfl rfl rfl ?_
     refine p_nextL ?_
     refine p_done ?_
     refine g_n_blk ?_
     refine g_n_then ?_
     refine g_region ?_
     obtain ⟨t51, h43, hm⟩ := bindO hm
     refine g_val rfl rfl rfl (fun _ _ => v_addc h43 rfl rfl) ?_
     refine g_val rfl rfl rfl (fun _ _ => v_move rfl) ?_
     refine g_nil ?_
     obtain rfl := Option.some.inj hm
     refine g_n_then ?_
     exact g_again' _ L_3 rfl (h42) ((.cons rfl (.cons rfl (.cons rfl (.cons rfl (.cons rfl (.cons rfl .nil))))))) (fun w hh => hh.sel [0, 1, 2] [1, 2] 0 (by decide) (by decide) rfl rfl rfl)
    ·replace hm := ifF (of_decide_eq_false h37) hm
     refine g_exit ?_
     refine g_x_then ?_
     refine g_x_then ?_
     refine g_x_blk ?_
     obtain rfl := Option.some.inj hm
     have hbo := h36 _ rfl
     subst hbo
     exact g_leaf l_10 (h35) ((.cons rfl (.cons rfl (.cons rfl (.cons rfl .nil))))) (fun w hh => hh)
   ·intro l_9 hj
    have h34 := hj
    replace hm := h33
    refine g_n_then ?_
    refine g_seq ?_
    refine g_seq ?_
    refine g_region ?_
    refine g_val rfl rfl rfl (fun _ _ => v_move rfl) ?_
    refine g_val rfl rfl rfl (fun _ _ => v_move rfl) ?_
    obtain ⟨t54, h44, hm⟩ := bindO hm
    refine g_callH [_] [] rfl rfl rfl rfl rfl rfl rfl (fun a w => Try.call64 a w) (fun w hh => c_laurelkit_Heap_Upto b00 o_1.b0_1 o_1.b0_2 sills2 pb qa0 na0 ca0 w (HV.callee (S0 := [_]) (vs0 := []) hh (roC (hh.rsep (S0 := [_]) (vs0 := []) 0 rfl) roN)) hna0 hqa0 hla0 h44) (fun l_12 h45 => ?_)
    refine g_sel (S' := [_, _, _]) (vs' := [_, _]) [0, 1, 2] [0, 1] 0 (by decide) (by decide) rfl rfl rfl ?_
    refine g_val rfl rfl rfl (fun _ _ => v_move rfl) ?_
    refine g_nil ?_
    refine g_n_then ?_
    refine g_vnil 51 ?_
    obtain ⟨o_2, h46, h47⟩ := bindO hm
    refine g_cut (ι := VL) (fun l_13 => VOK 3 l_13.n l_13.cap (RS.enc o_2.s7_sills) l_13.sp l_13.q) (fun l_13 => [(6, ptr b 0), (7, ptr b_1 0)]) (fun l_13 => [(pb, .cells #[.slice qa0 na0 ca0, .int .i64 o_2.b0_1, .int .u32 o_2.b0_2] 138 (0, 0)), (b_1, .cells #[slv l_4.q l_4.n l_4.cap, .int .i64 t14, .int .i64 t16.r0, slv l_9.q l_9.n l_9.cap, slv l_13.q l_13.n l_13.cap] 29 (0, 0)), (b, .cells #[slv none 0 0, .int .i64 0, .int .i64 0, slv none 0 0, slv none 0 0] 29 (0, 0))]) (fun l_13 => [⟨68, RW.enc o.s7_table, l_4.sp, l_4.q⟩, ⟨3, RI.enc o_1.s7_floors, l_9.sp, l_9.q⟩, ⟨51, RS.enc o_2.s7_sills, l_13.sp, l_13.q⟩]) ?_ ?_
    ·replace hm := h46
     refine g_block ?_
     refine g_loopF (ι := VL) hm (fun s_2 l_14 => VOK 3 l_14.n l_14.cap (RS.enc s_2.s7_sills) l_14.sp l_14.q) (fun s_2 l_14 => [(0, ptr pb 0), (6, ptr b 0), (7, ptr b_1 0), (54, .int .i64 t54.r0), (55, .int .i64 s_2.t55)]) (fun s_2 l_14 => [(pb, .cells #[.slice qa0 na0 ca0, .int .i64 s_2.b0_1, .int .u32 s_2.b0_2] 138 (0, 0)), (b_1, .cells #[slv l_4.q l_4.n l_4.cap, .int .i64 t14, .int .i64 t16.r0, slv l_9.q l_9.n l_9.cap, slv l_14.q l_14.n l_14.cap] 29 (0, 0)), (b, .cells #[slv none 0 0, .int .i64 0, .int .i64 0, slv none 0 0, slv none 0 0] 29 (0, 0))]) (fun s_2 l_14 => [⟨68, RW.enc o.s7_table, l_4.sp, l_4.q⟩, ⟨3, RI.enc o_1.s7_floors, l_9.sp, l_9.q⟩, ⟨51, RS.enc s_2.s7_sills, l_14.sp, l_14.q⟩]) ⟨none, 0, 0, []⟩ (VOK.nil) ((.cons rfl (.cons rfl (.cons rfl (.cons rfl (.cons rfl .nil)))))) (fun w hh => hh.sel [0, 1, 2] [1, 2, 0] 0 (by decide) (by decide) rfl rfl rfl) (fun s_2 l_14 r_2 hpl hm h50 => ?_)
     have h49 := hpl
     unfold m_laurellaw01_Made_L2 at hm
     refine g_seq ?_
     refine g_region ?_
     refine g_val rfl rfl rfl (fun _ _ => v_lss rfl rfl) ?_
     refine g_nil ?_
     refine g_n_then ?_
     refine g_seq ?_
     refine g_cond rfl (fun h51 => ?_) (fun h51 => ?_)
     ·replace hm := ifT (of_decide_eq_true h51) hm
      refine g_skip ?_
      refine g_n_then ?_
      refine g_seq ?_
      obtain ⟨o_3, h52, h53⟩ := bindO hm
      refine g_cut (ι := VL) (fun l_15 => VOK 3 l_15.n l_15.cap (RS.enc o_3.s7_sills) l_15.sp l_15.q) (fun l_15 => [(0, ptr pb 0), (6, ptr b 0), (7, ptr b_1 0), (54, .int .i64 t54.r0), (55, .int .i64 s_2.t55)]) (fun l_15 => [(pb, .cells #[.slice qa0 na0 ca0, .int .i64 o_3.b0_1, .int .u32 o_3.b0_2] 138 (0, 0)), (b_1, .cells #[slv l_4.q l_4.n l_4.cap, .int .i64 t14, .int .i64 t16.r0, slv l_9.q l_9.n l_9.cap, slv l_15.q l_15.n l_15.cap] 29 (0, 0)), (b, .cells #[slv none 0 0, .int .i64 0, .int .i64 0, slv none 0 0, slv none 0 0] 29 (0, 0))]) (fun l_15 => [⟨68, RW.enc o.s7_table, l_4.sp, l_4.q⟩, ⟨3, RI.enc o_1.s7_floors, l_9.sp, l_9.q⟩, ⟨51, RS.enc o_3.s7_sills, l_15.sp, l_15.q⟩]) ?_ ?_
      ·replace hm := h52
       refine g_block ?_
       refine g_seq ?_
       refine g_region ?_
       refine g_val rfl rfl rfl (fun _ _ => v_move rfl) ?_
       refine g_val rfl rfl rfl (fun _ _ => v_assign rfl) ?_
       refine g_nil ?_
       refine g_n_then ?_
       refine g_seq ?_
       refine g_region ?_
       refine g_val rfl rfl rfl (fun _ _ => v_move rfl) ?_
       refine g_val rfl rfl rfl (fun w _ => v_fieldAddr 3 (Try.runUnderlying29 w) rfl (Try.sizeOf26 w) rfl) ?_
       refine g_val rfl rfl rfl (fun w hh => v_load (Try.isAgg26 w) rfl (hh.cell 1 rfl rfl)) ?_
       refine g_val rfl rfl rfl (fun w _ => v_lenN (vlen RI h34 rfl) (Try.runUnderlying26 w) rfl) ?_
       obtain ⟨t62, h55, hm⟩ := bindO hm
       refine g_val rfl rfl rfl (fun _ _ => v_subc h55 rfl rfl) ?_
       refine g_val rfl rfl rfl (fun _ _ => v_min rfl rfl) ?_
       refine g_val rfl rfl rfl (fun _ _ => v_assign rfl) ?_
       refine g_nil ?_
       refine g_n_then ?_
       refine g_seq ?_
       refine g_region ?_
       refine g_val rfl rfl rfl (fun _ _ => v_move rfl) ?_
       refine g_val rfl rfl rfl (fun _ _ => v_move rfl) ?_
       obtain ⟨t66, h56, hm⟩ := bindO hm
       refine g_val rfl rfl rfl (fun _ _ => v_subc h56 rfl rfl) ?_
       obtain ⟨t67, h57, hm⟩ := bindO hm
       refine g_callH [_] [] rfl rfl rfl rfl rfl rfl rfl (fun a w => Try.call20 a w) (fun w hh => c_laurelkit_Heap_From b00 s_2.b0_1 s_2.b0_2 (-1) t66 pb qa0 na0 ca0 w (HV.callee (S0 := [_]) (vs0 := []) hh (roC (hh.rsep (S0 := [_]) (vs0 := []) 0 rfl) roN)) hna0 hqa0 hla0 h57) (fun l_16 h58 => ?_)
       refine g_sel (S' := [_, _, _]) (vs' := [_, _, _]) [0, 1, 2] [0, 1, 2] 0 (by decide) (by decide) rfl rfl rfl ?_
       refine g_val rfl rfl rfl (fun _ _ => v_move rfl) ?_
       refine g_val rfl rfl rfl (fun _ _ => v_move rfl) ?_
       obtain ⟨t70, h59, hm⟩ := bindO hm
       refine g_callH [_] [] rfl rfl rfl rfl rfl rfl rfl (fun a w => Try.call64 a w) (fun w hh => c_laurelkit_Heap_Upto b00 t67.h0_1 t67.h0_2 50 pb qa0 na0 ca0 w (HV.callee (S0 := [_]) (vs0 := []) hh (roC (hh.rsep (S0 := [_]) (vs0 := []) 0 rfl) roN)) hna0 hqa0 hla0 h59) (fun l_17 h60 => ?_)
       refine g_sel (S' := [_, _, _]) (vs' := [_, _, _]) [0, 1, 2] [0, 1, 2] 0 (by decide) (by decide) rfl rfl rfl ?_
       refine g_val rfl rfl rfl (fun _ _ => v_build (vs := [(0, _), (1, _), (2, _)]) (cells := [_, _, _]) rfl rfl) ?_
       refine g_allocV (fun w => Try.zeroValue51 w) rfl (fun b_2 h61 => ?_)
       refine g_stSA (us := #[_, _, _]) (cs' := [_, _, _]) (S' := [_, _, _, _]) 0 (fun w => Try.sizeOf51 w) rfl rfl rfl rfl rfl rfl rfl ?_
       refine g_nil ?_
       refine g_n_then ?_
       refine g_seq ?_
       obtain ⟨o_4, h62, h63⟩ := bindO hm
       refine g_cut (ι := Unit) (fun l_18 => True) (fun l_18 => [(0, ptr pb 0), (6, ptr b 0), (7, ptr b_1 0), (11, ptr b_2 0), (54, .int .i64 t54.r0), (55, .int .i64 s_2.t55)]) (fun l_18 => [(b_2, .cells #[.int .i64 o_4.x11_a, .int .i64 o_4.x11_b, .int .i64 t70.r0] 51 (0, 0)), (pb, .cells #[.slice qa0 na0 ca0, .int .i64 o_4.b0_1, .int .u32 o_4.b0_2] 138 (0, 0)), (b_1, .cells #[slv l_4.q l_4.n l_4.cap, .int .i64 t14, .int .i64 t16.r0, slv l_9.q l_9.n l_9.cap, slv l_14.q l_14.n l_14.cap] 29 (0, 0)), (b, .cells #[slv none 0 0, .int .i64 0, .int .i64 0, slv none 0 0, slv none 0 0] 29 (0, 0))]) (fun l_18 => [⟨68, RW.enc o.s7_table, l_4.sp, l_4.q⟩, ⟨3, RI.enc o_1.s7_floors, l_9.sp, l_9.q⟩, ⟨51, RS.enc s_2.s7_sills, l_14.sp, l_14.q⟩]) ?_ ?_
       ·replace hm := h62
        refine g_seq ?_
        refine g_region ?_
        refine g_val rfl rfl rfl (fun _ _ => v_move rfl) ?_
        refine g_val rfl rfl rfl (fun w _ => v_fieldAddr 3 (Try.runUnderlying29 w) rfl (Try.sizeOf26 w) rfl) ?_
        refine g_val rfl rfl rfl (fun w hh => v_load (Try.isAgg26 w) rfl (hh.cell 2 rfl rfl)) ?_
        refine g_val rfl rfl rfl (fun w _ => v_lenN (vlen RI h34 rfl) (Try.runUnderlying26 w) rfl) ?_
        refine g_val rfl rfl rfl (fun _ _ => v_geq rfl rfl) ?_
        refine g_nil ?_
        refine g_n_then ?_
        refine g_cond rfl (fun h64 => ?_) (fun h64 => ?_)
        ·replace hm := ifT (of_decide_eq_true h64) hm
         refine g_draw none (.free 0 (.free 1 (.hoist 2 (.free 3 (.free 4 (.free 6 (.free 7 (.hoist 8 (.free 9 (.free 10 (.one 5 (.free 12 (.one 11 (.one 13 (.free 14 (.one 15 .done)))))))))))))))) (HV _ _ [(b_1, .cells #[slv l_4.q l_4.n l_4.cap, .int .i64 t14, .int .i64 t16.r0, slv l_9.q l_9.n l_9.cap, slv l_14.q l_14.n l_14.cap] 29 (0, 0)), (b, .cells #[slv none 0 0, .int .i64 0, .int .i64 0, slv none 0 0, slv none 0 0] 29 (0, 0))] [⟨68, RW.enc o.s7_table, l_4.sp, l_4.q⟩, ⟨3, RI.enc o_1.s7_floors, l_9.sp, l_9.q⟩, ⟨51, RS.enc s_2.s7_sills, l_14.sp, l_14.q⟩] _) rfl (by decide +kernel) (fun w k hh => hh.draw k) (fun w hh => hh.sel [2, 3] [0, 1, 2] 0 (by decide) (by decide) rfl rfl rfl) ?_
         refine p_free rfl rfl rfl rfl (fun _ _ => v_move rfl) ?_
         refine p_free rfl rfl rfl rfl (fun w _ => v_fieldAddr 3 (Try.runUnderlying29 w) rfl (Try.sizeOf26 w) rfl) ?_
         refine p_hoist rfl rfl rfl rfl (fun w hh => v_load (Try.isAgg26 w) rfl (hh.cell 0 rfl rfl)) ?_
         refine p_free rfl rfl rfl rfl (fun w _ => v_lenN (vlen RI h34 rfl) (Try.runUnderlying26 w) rfl) ?_
         obtain ⟨t81, h65, hm⟩ := bindO hm
         refine p_free rfl rfl rfl rfl (fun _ _ => v_subc h65 rfl rfl) ?_
         refine p_free rfl rfl rfl rfl (fun _ _ => v_move rfl) ?_
         refine p_free rfl rfl rfl rfl (fun w _ => v_fieldAddr 3 (Try.runUnderlying29 w) rfl (Try.sizeOf26 w) rfl) ?_
         refine p_hoist rfl rfl rfl rfl (fun w hh => v_load (Try.isAgg26 w) rfl (hh.cell 0 rfl rfl)) ?_
         refine p_free rfl rfl rfl rfl (fun w _ => v_lenN (vlen RI h34 rfl) (Try.runUnderlying26 w) rfl) ?_
         obtain ⟨t87, h66, hm⟩ := bindO hm
         refine p_free rfl rfl rfl rfl (fun _ _ => v_subc h66 rfl rfl) ?_
         refine p_one rfl ?_
         obtain ⟨t82, h67, hm⟩ := bindO hm
         refine g_sel (S' := [_, _, _, _]) (vs' := [_, _, _]) [1, 0, 2, 3] [0, 1, 2] 0 (by decide) (by decide) rfl rfl rfl ?_
         refine g_callH [_] [] rfl rfl rfl rfl rfl rfl rfl (fun a w => Try.call20 a w) (fun w hh => c_laurelkit_Heap_From b00 t70.h0_1 t70.h0_2 (-1) t81 pb qa0 na0 ca0 w (HV.callee (S0 := [_]) (vs0 := []) hh (roC (hh.rsep (S0 := [_]) (vs0 := []) 0 rfl) roN)) hna0 hqa0 hla0 h67) (fun l_19 h68 => ?_)
         refine g_sel (S' := [_, _, _, _]) (vs' := [_, _, _]) [0, 1, 2, 3] [0, 1, 2] 0 (by decide) (by decide) rfl rfl rfl ?_
         refine p_next (fun w hh => hh.sel [2, 3] [0, 1, 2] 0 (by decide) (by decide) rfl rfl rfl) ?_
         refine p_free rfl rfl rfl rfl (fun w _ => v_fieldAddr 0 (Try.runUnderlying51 w) rfl (Try.sizeOf3 w) rfl) ?_
         refine p_one rfl ?_
         obtain ⟨t88, h69, hm⟩ := bindO hm
         refine g_callH [_] [] rfl rfl rfl rfl rfl rfl rfl (fun a w => Try.call64 a w) (fun w hh => c_laurelkit_Heap_Upto b00 t82.h0_1 t82.h0_2 t87 pb qa0 na0 ca0 w (HV.callee (S0 := [_]) (vs0 := []) hh (roC (hh.rsep (S0 := [_]) (vs0 := []) 0 rfl) roN)) hna0 hqa0 hla0 h69) (fun l_20 h70 => ?_)
         refine g_sel (S' := [_, _, _, _]) (vs' := [_, _, _]) [0, 1, 2, 3] [0, 1, 2] 0 (by decide) (by decide) rfl rfl rfl ?_
         refine p_next (fun w hh => hh.sel [2, 3] [0, 1, 2] 0 (by decide) (by decide) rfl rfl rfl) ?_
         refine p_one rfl ?_
         refine g_stS (cs' := #[_, _, _]) (S' := [_, _, _, _]) 1 (fun w => Try.sizeOf3 w) rfl rfl rfl rfl rfl rfl rfl ?_
         refine p_next (fun w hh => hh.sel [2, 3] [0, 1, 2] 0 (by decide) (by decide) rfl rfl rfl) ?_
         refine p_free rfl rfl rfl rfl (fun w _ => v_fieldAddr 1 (Try.runUnderlying51 w) rfl (Try.sizeOf3 w) rfl) ?_
         refine p_one rfl ?_
         refine g_stS (cs' := #[_, _, _]) (S' := [_, _, _, _]) 1 (fun w => Try.sizeOf3 w) rfl rfl rfl rfl rfl rfl rfl ?_
         refine p_next (fun w hh => hh.sel [2, 3] [0, 1, 2] 0 (by decide) (by decide) rfl rfl rfl) ?_
         refine p_done ?_
         obtain rfl := Option.some.inj hm
         exact g_leaf () (trivial) ((.cons rfl (.cons rfl (.cons rfl (.cons rfl (.cons rfl (.cons rfl .nil))))))) (fun w hh => hh.sel [1, 0, 2, 3] [0, 1, 2] 0 (by decide) (by decide) rfl rfl rfl)
        ·replace hm := ifF (of_decide_eq_false h64) hm
         refine g_skip ?_
         obtain rfl := Option.some.inj hm
         exact g_leaf () (trivial) ((.cons rfl (.cons rfl (.cons rfl (.cons rfl (.cons rfl (.cons rfl .nil))))))) (fun w hh => hh)
       ·intro l_18 hj
        replace hm := h63
        refine g_n_then ?_
        refine g_seq ?_
        obtain ⟨o_5, h71, h72⟩ := bindO hm
        refine g_cut (ι := Unit) (fun l_21 => True) (fun l_21 => [(0, ptr pb 0), (6, ptr b 0), (7, ptr b_1 0), (11, ptr b_2 0), (54, .int .i64 t54.r0), (55, .int .i64 s_2.t55)]) (fun l_21 => [(b_2, .cells #[.int .i64 o_5.x11_a, .int .i64 o_5.x11_b, .int .i64 t70.r0] 51 (0, 0)), (pb, .cells #[.slice qa0 na0 ca0, .int .i64 o_5.b0_1, .int .u32 o_5.b0_2] 138 (0, 0)), (b_1, .cells #[slv l_4.q l_4.n l_4.cap, .int .i64 t14, .int .i64 t16.r0, slv l_9.q l_9.n l_9.cap, slv l_14.q l_14.n l_14.cap] 29 (0, 0)), (b, .cells #[slv none 0 0, .int .i64 0, .int .i64 0, slv none 0 0, slv none 0 0] 29 (0, 0))]) (fun l_21 => [⟨68, RW.enc o.s7_table, l_4.sp, l_4.q⟩, ⟨3, RI.enc o_1.s7_floors, l_9.sp, l_9.q⟩, ⟨51, RS.enc s_2.s7_sills, l_14.sp, l_14.q⟩]) ?_ ?_
        ·replace hm := h71
         refine g_seq ?_
         refine g_region ?_
         refine g_val rfl rfl rfl (fun _ _ => v_move rfl) ?_
         obtain ⟨t92, h73, hm⟩ := bindO hm
         refine g_sel (S' := [_, _, _, _]) (vs' := [_, _, _]) [1, 0, 2, 3] [0, 1, 2] 0 (by decide) (by decide) rfl rfl rfl ?_
         refine g_callH [_] [] rfl rfl rfl rfl rfl rfl rfl (fun a w => Try.call85 a w) (fun w hh => c_laurelkit_Heap_Once b00 o_4.b0_1 o_4.b0_2 3 pb qa0 na0 ca0 w (HV.callee (S0 := [_]) (vs0 := []) hh (roC (hh.rsep (S0 := [_]) (vs0 := []) 0 rfl) roN)) hna0 hqa0 hla0 h73) (fun l_22 h74 => ?_)
         refine g_sel (S' := [_, _, _, _]) (vs' := [_, _, _]) [0, 1, 2, 3] [0, 1, 2] 0 (by decide) (by decide) rfl rfl rfl ?_
         refine g_nil ?_
         refine g_n_then ?_
         refine g_cond rfl (fun h75 => ?_) (fun h75 => ?_)
         ·replace hm := ifT (h75) hm
          refine g_region ?_
          refine g_val rfl rfl rfl (fun w _ => v_fieldAddr 1 (Try.runUnderlying51 w) rfl (Try.sizeOf3 w) rfl) ?_
          refine g_val rfl rfl rfl (fun w hh => v_load (Try.isAgg3 w) rfl (hh.cell 1 rfl rfl)) ?_
          refine g_val rfl rfl rfl (fun w _ => v_fieldAddr 0 (Try.runUnderlying51 w) rfl (Try.sizeOf3 w) rfl) ?_
          refine g_val rfl rfl rfl (fun w hh => v_load (Try.isAgg3 w) rfl (hh.cell 1 rfl rfl)) ?_
          refine g_val rfl rfl rfl (fun w _ => v_fieldAddr 0 (Try.runUnderlying51 w) rfl (Try.sizeOf3 w) rfl) ?_
          refine g_stS (cs' := #[_, _, _]) (S' := [_, _, _, _]) 1 (fun w => Try.sizeOf3 w) rfl rfl rfl rfl rfl rfl rfl ?_
          refine g_val rfl rfl rfl (fun w _ => v_fieldAddr 1 (Try.runUnderlying51 w) rfl (Try.sizeOf3 w) rfl) ?_
          refine g_stS (cs' := #[_, _, _]) (S' := [_, _, _, _]) 1 (fun w => Try.sizeOf3 w) rfl rfl rfl rfl rfl rfl rfl ?_
          refine g_nil ?_
          obtain rfl := Option.some.inj hm
          exact g_leaf () (trivial) ((.cons rfl (.cons rfl (.cons rfl (.cons rfl (.cons rfl (.cons rfl .nil))))))) (fun w hh => hh.sel [1, 0, 2, 3] [0, 1, 2] 0 (by decide) (by decide) rfl rfl rfl)
         ·replace hm := ifF ((fun hh => Bool.noConfusion ((h75).symm.trans hh))) hm
          refine g_skip ?_
          obtain rfl := Option.some.inj hm
          exact g_leaf () (trivial) ((.cons rfl (.cons rfl (.cons rfl (.cons rfl (.cons rfl (.cons rfl .nil))))))) (fun w hh => hh.sel [1, 0, 2, 3] [0, 1, 2] 0 (by decide) (by decide) rfl rfl rfl)
        ·intro l_21 hj
         replace hm := h72
         refine g_n_then ?_
         refine g_seq ?_
         refine g_region ?_
         refine g_val rfl rfl rfl (fun w _ => v_fieldAddr 0 (Try.runUnderlying51 w) rfl (Try.sizeOf3 w) rfl) ?_
         refine g_val rfl rfl rfl (fun w hh => v_load (Try.isAgg3 w) rfl (hh.cell 0 rfl rfl)) ?_
         refine g_val rfl rfl rfl (fun w _ => v_fieldAddr 1 (Try.runUnderlying51 w) rfl (Try.sizeOf3 w) rfl) ?_
         refine g_val rfl rfl rfl (fun w hh => v_load (Try.isAgg3 w) rfl (hh.cell 0 rfl rfl)) ?_
         refine g_val rfl rfl rfl (fun _ _ => v_neq rfl rfl) ?_
         refine g_nil ?_
         refine g_n_then ?_
         refine g_cond rfl (fun h76 => ?_) (fun h76 => ?_)
         ·replace hm := ifF (of_ndec_true h76) hm
          refine g_region ?_
          refine g_val rfl rfl rfl (fun w _ => v_fieldAddr 4 (Try.runUnderlying29 w) rfl (Try.sizeOf27 w) rfl) ?_
          refine g_val rfl rfl rfl (fun w hh => v_load (Try.isAgg27 w) rfl (hh.cell 2 rfl rfl)) ?_
          refine g_val rfl rfl rfl (fun w hh => v_loadAgg (vs := [_, _, _]) (Try.isAgg51 w) (Try.sizeOf51 w) rfl (hh.cells 0 rfl rfl)) ?_
          refine g_vlit RS [(⟨o_5.x11_a, o_5.x11_b, t70.r0⟩ : Sill)] (ps := [(0, _)]) (cells := [_, _, _]) (fun w => Try.runUnderlying27 w) (fun w => Try.sizeOf51 w) (fun w => Try.zeroValue51 w) rfl rfl rfl rfl rfl rfl rfl rfl (fun L_4 h77 => ?_)
          obtain ⟨t108, h78, hm⟩ := bindO hm
          refine g_vapp RS 3 h78 Try.underlying27 gxinf51 rfl rfl rfl rfl rfl h49 rfl rfl (vlen RS h77 rfl) (AOK.q (vne h77)) (fun w hh => (hh.vsegA 0 rfl h77)) rfl (fun L_5 h79 h79n => ?_)
          refine g_sel (S' := [_, _, _, _]) (vs' := [_, _, _, _]) [0, 1, 2, 3] [0, 1, 2, 3] 0 (by decide) (by decide) rfl rfl rfl ?_
          refine g_val rfl rfl rfl (fun w _ => v_fieldAddr 4 (Try.runUnderlying29 w) rfl (Try.sizeOf27 w) rfl) ?_
          refine g_stS (cs' := #[_, _, _, _, _]) (S' := [_, _, _, _]) 2 (fun w => Try.sizeOf27 w) rfl rfl rfl rfl rfl rfl rfl ?_
          refine g_nil ?_
          refine g_n_blk ?_
          obtain rfl := Option.some.inj hm
          exact g_leaf L_5 (h79) ((.cons rfl (.cons rfl (.cons rfl (.cons rfl (.cons rfl .nil)))))) (fun w hh => hh.sel [1, 2, 3] [1, 2, 3] 0 (by decide) (by decide) rfl rfl rfl)
         ·replace hm := ifT (of_ndec_false h76) hm
          refine g_skip ?_
          refine g_n_blk ?_
          obtain rfl := Option.some.inj hm
          exact g_leaf l_14 (h49) ((.cons rfl (.cons rfl (.cons rfl (.cons rfl (.cons rfl .nil)))))) (fun w hh => hh.sel [1, 2, 3] [0, 1, 2] 0 (by decide) (by decide) rfl rfl rfl)
      ·intro l_15 hj
       have h54 := hj
       replace hm := h53
       refine g_n_then ?_
       refine g_region ?_
       obtain ⟨t110, h80, hm⟩ := bindO hm
       refine g_val rfl rfl rfl (fun _ _ => v_addc h80 rfl rfl) ?_
       refine g_val rfl rfl rfl (fun _ _ => v_move rfl) ?_
       refine g_nil ?_
       obtain rfl := Option.some.inj hm
       refine g_n_then ?_
       exact g_again' _ l_15 rfl (h54) ((.cons rfl (.cons rfl (.cons rfl (.cons rfl (.cons rfl .nil)))))) (fun w hh => hh)
     ·replace hm := ifF (of_decide_eq_false h51) hm
      refine g_exit ?_
      refine g_x_then ?_
      refine g_x_then ?_
      refine g_x_blk ?_
      obtain rfl := Option.some.inj hm
      have hbo := h50 _ rfl
      subst hbo
      exact g_leaf l_14 (h49) ((.cons rfl (.cons rfl .nil))) (fun w hh => hh)
    ·intro l_13 hj
     have h48 := hj
     replace hm := h47
     refine g_n_then ?_
     refine g_seq ?_
     refine g_region ?_
     refine g_val rfl rfl rfl (fun w hh => v_loadAgg (vs := [_, _, _, _, _]) (Try.isAgg29 w) (Try.sizeOf29 w) rfl (hh.cells 1 rfl rfl)) ?_
     refine g_stSA (us := #[_, _, _, _, _]) (cs' := [_, _, _, _, _]) (S' := [_, _, _]) 2 (fun w => Try.sizeOf29 w) rfl rfl rfl rfl rfl rfl rfl ?_
     refine g_nil ?_
     refine g_n_then ?_
     refine g_ret ?_
     obtain rfl := Option.some.inj hm
     refine g_done rfl (fun w hh => (.cell rfl (loadVar_agg (vs := [_, _, _, _, _]) (Try.isAgg29 _) (Try.sizeOf29 _) (hh.cells 2 rfl rfl)) .nil)) (fun w hh => ⟨(l_4, l_9, l_13), rfl, ⟨h17, h34, h48⟩, hh.sel [0] [0, 1, 2] 1 (by decide) (by decide) rfl rfl rfl⟩)
end Go.Proofs.Wk
namespace Go.Proofs.Wk
open Go Go.Fw Go.Gx Go.Pl
set_option linter.unusedVariables false
def m_laurelkit_Dup_tideWater (l0 : (List Water)) : Option (List Water) :=
 (makec 16 (⟨0, 0⟩ : Water) 0 (l0.length : Int)).bind fun t5 =>
 (appc 16 t5 l0).bind fun t7 =>
 some t7
set_option maxRecDepth 100000 in
set_option maxHeartbeats 4000000 in
theorem c_laurelkit_Dup_tideWater (l0 : (List Water)) (qa0 : Option Addr) (na0 ca0 : Nat) (w : World) (hw : HV w (keys [] []) [] [] [(aB qa0, aO qa0, RW.enc l0)] w) (hna0 : l0.length = na0) (hqa0 : AOK na0 qa0) (hla0 : na0 ≤ ca0) {res : (List Water)} (hm : m_laurelkit_Dup_tideWater l0 = some res) :
    Calls Try.prog 100 #[.slice qa0 na0 ca0] w (fun en w' => ∃ l : VL, en = .returned (slv l.q l.n l.cap) ∧ (VOK 2 l.n l.cap (RW.enc res) l.sp l.q) ∧ HV w (keys [] []) [] [⟨68, RW.enc res, l.sp, l.q⟩] [] w') := by
  unfold m_laurelkit_Dup_tideWater at hm
  refine g_enter (args := [.slice qa0 na0 ca0]) Try.func100 rfl Try.ntmps100 rfl (e := [(0, _)]) rfl (H := HV w (keys [] []) [] [] [(aB qa0, aO qa0, RW.enc l0)]) hw ?_
  refine g_seq ?_
  refine g_region ?_
  refine g_val rfl rfl rfl (fun _ _ => v_nilS rfl) ?_
  refine g_nil ?_
  refine g_n_then ?_
  refine g_seq ?_
  refine g_region ?_
  refine g_val rfl rfl rfl (fun _ _ => v_move rfl) ?_
  refine g_val rfl rfl rfl (fun w _ => v_lenR hna0 (Try.runUnderlying23 w) rfl) ?_
  obtain ⟨t5, h2, hm⟩ := bindO hm
  refine g_vmake RW (⟨0, 0⟩ : Water) h2 Try.underlying23 gxinf68 rfl rfl rfl rfl rfl (fun L h3 => ?_)
  refine g_val rfl rfl rfl (fun _ _ => v_move rfl) ?_
  obtain ⟨t7, h4, hm⟩ := bindO hm
  refine g_vapp RW 0 h4 Try.underlying23 gxinf68 rfl rfl rfl rfl rfl h3 rfl rfl hna0 hqa0 (fun w hh => (hh.seg 0 rfl)) rfl (fun L_1 h5 h5n => ?_)
  refine g_sel (S' := []) (vs' := [_]) [] [0] 0 (by decide) (by decide) rfl rfl rfl ?_
  refine g_val rfl rfl rfl (fun _ _ => v_assign rfl) ?_
  refine g_nil ?_
  refine g_n_then ?_
  refine g_ret ?_
  obtain rfl := Option.some.inj hm
  refine g_done rfl (fun w hh => (.tmp rfl .nil)) (fun w hh => ⟨L_1, rfl, h5, hh.sel [] [0] 1 (by decide) (by decide) rfl rfl rfl⟩)
end Go.Proofs.Wk
namespace Go.Proofs.Wk
open Go Go.Fw Go.Gx Go.Pl
set_option linter.unusedVariables false
def m_laurelkit_Dup_int (l0 : (List Int)) : Option (List Int) :=
 (makec 8 0 0 (l0.length : Int)).bind fun t5 =>
 (appc 8 t5 l0).bind fun t7 =>
 some t7
set_option maxRecDepth 100000 in
set_option maxHeartbeats 4000000 in
theorem c_laurelkit_Dup_int (l0 : (List Int)) (qa0 : Option Addr) (na0 ca0 : Nat) (w : World) (hw : HV w (keys [] []) [] [] [(aB qa0, aO qa0, RI.enc l0)] w) (hna0 : l0.length = na0) (hqa0 : AOK na0 qa0) (hla0 : na0 ≤ ca0) {res : (List Int)} (hm : m_laurelkit_Dup_int l0 = some res) :
    Calls Try.prog 65 #[.slice qa0 na0 ca0] w (fun en w' => ∃ l : VL, en = .returned (slv l.q l.n l.cap) ∧ (VOK 1 l.n l.cap (RI.enc res) l.sp l.q) ∧ HV w (keys [] []) [] [⟨3, RI.enc res, l.sp, l.q⟩] [] w') := by
  unfold m_laurelkit_Dup_int at hm
  refine g_enter (args := [.slice qa0 na0 ca0]) Try.func65 rfl Try.ntmps65 rfl (e := [(0, _)]) rfl (H := HV w (keys [] []) [] [] [(aB qa0, aO qa0, RI.enc l0)]) hw ?_
  refine g_seq ?_
  refine g_region ?_
  refine g_val rfl rfl rfl (fun _ _ => v_nilS rfl) ?_
  refine g_nil ?_
  refine g_n_then ?_
  refine g_seq ?_
  refine g_region ?_
  refine g_val rfl rfl rfl (fun _ _ => v_move rfl) ?_
  refine g_val rfl rfl rfl (fun w _ => v_lenR hna0 (Try.runUnderlying26 w) rfl) ?_
  obtain ⟨t5, h2, hm⟩ := bindO hm
  refine g_vmake RI 0 h2 Try.underlying26 gxinf3 rfl rfl rfl rfl rfl (fun L h3 => ?_)
  refine g_val rfl rfl rfl (fun _ _ => v_move rfl) ?_
  obtain ⟨t7, h4, hm⟩ := bindO hm
  refine g_vapp RI 0 h4 Try.underlying26 gxinf3 rfl rfl rfl rfl rfl h3 rfl rfl hna0 hqa0 (fun w hh => (hh.seg 0 rfl)) rfl (fun L_1 h5 h5n => ?_)
  refine g_sel (S' := []) (vs' := [_]) [] [0] 0 (by decide) (by decide) rfl rfl rfl ?_
  refine g_val rfl rfl rfl (fun _ _ => v_assign rfl) ?_
  refine g_nil ?_
  refine g_n_then ?_
  refine g_ret ?_
  obtain rfl := Option.some.inj hm
  refine g_done rfl (fun w hh => (.tmp rfl .nil)) (fun w hh => ⟨L_1, rfl, h5, hh.sel [] [0] 1 (by decide) (by decide) rfl rfl rfl⟩)
end Go.Proofs.Wk
namespace Go.Proofs.Wk
open Go Go.Fw Go.Gx Go.Pl
set_option linter.unusedVariables false
def m_laurelkit_Dup_tideSill (l0 : (List Sill)) : Option (List Sill) :=
 (makec 24 (⟨0, 0, 0⟩ : Sill) 0 (l0.length : Int)).bind fun t5 =>
 (appc 24 t5 l0).bind fun t7 =>
 some t7
set_option maxRecDepth 100000 in
set_option maxHeartbeats 4000000 in
theorem c_laurelkit_Dup_tideSill (l0 : (List Sill)) (qa0 : Option Addr) (na0 ca0 : Nat) (w : World) (hw : HV w (keys [] []) [] [] [(aB qa0, aO qa0, RS.enc l0)] w) (hna0 : l0.length = na0) (hqa0 : AOK na0 qa0) (hla0 : na0 ≤ ca0) {res : (List Sill)} (hm : m_laurelkit_Dup_tideSill l0 = some res) :
    Calls Try.prog 101 #[.slice qa0 na0 ca0] w (fun en w' => ∃ l : VL, en = .returned (slv l.q l.n l.cap) ∧ (VOK 3 l.n l.cap (RS.enc res) l.sp l.q) ∧ HV w (keys [] []) [] [⟨51, RS.enc res, l.sp, l.q⟩] [] w') := by
  unfold m_laurelkit_Dup_tideSill at hm
  refine g_enter (args := [.slice qa0 na0 ca0]) Try.func101 rfl Try.ntmps101 rfl (e := [(0, _)]) rfl (H := HV w (keys [] []) [] [] [(aB qa0, aO qa0, RS.enc l0)]) hw ?_
  refine g_seq ?_
  refine g_region ?_
  refine g_val rfl rfl rfl (fun _ _ => v_nilS rfl) ?_
  refine g_nil ?_
  refine g_n_then ?_
  refine g_seq ?_
  refine g_region ?_
  refine g_val rfl rfl rfl (fun _ _ => v_move rfl) ?_
  refine g_val rfl rfl rfl (fun w _ => v_lenR hna0 (Try.runUnderlying27 w) rfl) ?_
  obtain ⟨t5, h2, hm⟩ := bindO hm
  refine g_vmake RS (⟨0, 0, 0⟩ : Sill) h2 Try.underlying27 gxinf51 rfl rfl rfl rfl rfl (fun L h3 => ?_)
  refine g_val rfl rfl rfl (fun _ _ => v_move rfl) ?_
  obtain ⟨t7, h4, hm⟩ := bindO hm
  refine g_vapp RS 0 h4 Try.underlying27 gxinf51 rfl rfl rfl rfl rfl h3 rfl rfl hna0 hqa0 (fun w hh => (hh.seg 0 rfl)) rfl (fun L_1 h5 h5n => ?_)
  refine g_sel (S' := []) (vs' := [_]) [] [0] 0 (by decide) (by decide) rfl rfl rfl ?_
  refine g_val rfl rfl rfl (fun _ _ => v_assign rfl) ?_
  refine g_nil ?_
  refine g_n_then ?_
  refine g_ret ?_
  obtain rfl := Option.some.inj hm
  refine g_done rfl (fun w hh => (.tmp rfl .nil)) (fun w hh => ⟨L_1, rfl, h5, hh.sel [] [0] 1 (by decide) (by decide) rfl rfl rfl⟩)
end Go.Proofs.Wk
namespace Go.Proofs.Wk
open Go Go.Fw Go.Gx Go.Pl
set_option linter.unusedVariables false
def m_laurellaw01_Own (s0 : Sands) : Option Sands :=
 (m_laurelkit_Dup_tideWater s0.table).bind fun t5 =>
 (m_laurelkit_Dup_int s0.floors).bind fun t10 =>
 (m_laurelkit_Dup_tideSill s0.sills).bind fun t13 =>
 some (⟨t5, s0.wind, t10, t13⟩ : Sands)
set_option maxRecDepth 100000 in
set_option maxHeartbeats 4000000 in
theorem c_laurellaw01_Own (s0 : Sands) (qa0 : Option Addr) (na0 ca0 : Nat) (qa1 : Option Addr) (na1 ca1 : Nat) (qa2 : Option Addr) (na2 ca2 : Nat) (w : World) (hw : HV w (keys [] []) [] [] [(aB qa0, aO qa0, RW.enc s0.table), (aB qa1, aO qa1, RI.enc s0.floors), (aB qa2, aO qa2, RS.enc s0.sills)] w) (hna0 : s0.table.length = na0) (hqa0 : AOK na0 qa0) (hla0 : na0 ≤ ca0) (hna1 : s0.floors.length = na1) (hqa1 : AOK na1 qa1) (hla1 : na1 ≤ ca1) (hna2 : s0.sills.length = na2) (hqa2 : AOK na2 qa2) (hla2 : na2 ≤ ca2) {res : Sands} (hm : m_laurellaw01_Own s0 = some res) :
    Calls Try.prog 25 #[.agg #[.slice qa0 na0 ca0, .int .i64 s0.wind.lo, .int .i64 s0.wind.hi, .slice qa1 na1 ca1, .slice qa2 na2 ca2]] w (fun en w' => ∃ l : VL × VL × VL, en = .returned (.agg #[slv l.1.q l.1.n l.1.cap, .int .i64 res.wind.lo, .int .i64 res.wind.hi, slv l.2.1.q l.2.1.n l.2.1.cap, slv l.2.2.q l.2.2.n l.2.2.cap]) ∧ (VOK 2 l.1.n l.1.cap (RW.enc res.table) l.1.sp l.1.q ∧ VOK 1 l.2.1.n l.2.1.cap (RI.enc res.floors) l.2.1.sp l.2.1.q ∧ VOK 3 l.2.2.n l.2.2.cap (RS.enc res.sills) l.2.2.sp l.2.2.q) ∧ HV w (keys [] []) [] [⟨68, RW.enc res.table, l.1.sp, l.1.q⟩, ⟨3, RI.enc res.floors, l.2.1.sp, l.2.1.q⟩, ⟨51, RS.enc res.sills, l.2.2.sp, l.2.2.q⟩] [] w') := by
  unfold m_laurellaw01_Own at hm
  refine g_enter (args := [.agg #[.slice qa0 na0 ca0, .int .i64 s0.wind.lo, .int .i64 s0.wind.hi, .slice qa1 na1 ca1, .slice qa2 na2 ca2]]) Try.func25 rfl Try.ntmps25 rfl (e := [(0, _)]) rfl (H := HV w (keys [] []) [] [] [(aB qa0, aO qa0, RW.enc s0.table), (aB qa1, aO qa1, RI.enc s0.floors), (aB qa2, aO qa2, RS.enc s0.sills)]) hw ?_
  refine g_seq ?_
  refine g_region ?_
  refine g_boxV rfl rfl (fun b h4 => ?_)
  refine g_allocV (fun w => Try.zeroValue29 w) rfl (fun b_1 h5 => ?_)
  refine g_nil ?_
  refine g_n_then ?_
  refine g_seq ?_
  refine g_draw none (.free 0 (.hoist 1 (.free 3 (.hoist 4 (.free 5 (.hoist 6 (.free 8 (.hoist 9 (.one 2 (.one 7 (.one 10 (.free 11 (.one 12 .done))))))))))))) (HV _ _ [(b, .cells #[.slice qa0 na0 ca0, .int .i64 s0.wind.lo, .int .i64 s0.wind.hi, .slice qa1 na1 ca1, .slice qa2 na2 ca2] 29 (0, 0))] [] _) rfl (by decide +kernel) (fun w k hh => hh.draw k) (fun w hh => hh.sel [1] [] 0 (by decide) (by decide) rfl rfl rfl) ?_
  refine p_free rfl rfl rfl rfl (fun w _ => v_fieldAddr 0 (Try.runUnderlying29 w) rfl (Try.sizeOf23 w) rfl) ?_
  refine p_hoist rfl rfl rfl rfl (fun w hh => v_load (Try.isAgg23 w) rfl (hh.cell 0 rfl rfl)) ?_
  refine p_free rfl rfl rfl rfl (fun w _ => v_fieldAddr 1 (Try.runUnderlying29 w) rfl (Try.sizeOf25 w) rfl) ?_
  refine p_hoist rfl rfl rfl rfl (fun w hh => v_loadAgg (vs := [_, _]) (Try.isAgg25 w) (Try.sizeOf25 w) rfl (hh.cells 0 rfl rfl)) ?_
  refine p_free rfl rfl rfl rfl (fun w _ => v_fieldAddr 3 (Try.runUnderlying29 w) rfl (Try.sizeOf26 w) rfl) ?_
  refine p_hoist rfl rfl rfl rfl (fun w hh => v_load (Try.isAgg26 w) rfl (hh.cell 0 rfl rfl)) ?_
  refine p_free rfl rfl rfl rfl (fun w _ => v_fieldAddr 4 (Try.runUnderlying29 w) rfl (Try.sizeOf27 w) rfl) ?_
  refine p_hoist rfl rfl rfl rfl (fun w hh => v_load (Try.isAgg27 w) rfl (hh.cell 0 rfl rfl)) ?_
  refine p_one rfl ?_
  obtain ⟨t5, h6, hm⟩ := bindO hm
  refine g_callH [] [] rfl rfl rfl rfl rfl rfl rfl (fun a w => Try.call100 a w) (fun w hh => c_laurelkit_Dup_tideWater s0.table qa0 na0 ca0 w (HV.callee (S0 := []) (vs0 := []) hh (roC (hh.rsep (S0 := []) (vs0 := []) 0 rfl) roN)) hna0 hqa0 hla0 h6) (fun l h7 => ?_)
  have h8 := h7
  refine g_sel (S' := [_, _]) (vs' := [_]) [0, 1] [0] 0 (by decide) (by decide) rfl rfl rfl ?_
  refine p_next (fun w hh => hh.sel [1] [] 0 (by decide) (by decide) rfl rfl rfl) ?_
  refine p_one rfl ?_
  obtain ⟨t10, h9, hm⟩ := bindO hm
  refine g_callH [] [] rfl rfl rfl rfl rfl rfl rfl (fun a w => Try.call65 a w) (fun w hh => c_laurelkit_Dup_int s0.floors qa1 na1 ca1 w (HV.callee (S0 := []) (vs0 := []) hh (roC (hh.rsep (S0 := []) (vs0 := []) 1 rfl) roN)) hna1 hqa1 hla1 h9) (fun l_1 h10 => ?_)
  have h11 := h10
  refine g_sel (S' := [_, _]) (vs' := [_, _]) [0, 1] [0, 1] 0 (by decide) (by decide) rfl rfl rfl ?_
  refine p_next (fun w hh => hh.sel [1] [] 0 (by decide) (by decide) rfl rfl rfl) ?_
  refine p_one rfl ?_
  obtain ⟨t13, h12, hm⟩ := bindO hm
  refine g_callH [] [] rfl rfl rfl rfl rfl rfl rfl (fun a w => Try.call101 a w) (fun w hh => c_laurelkit_Dup_tideSill s0.sills qa2 na2 ca2 w (HV.callee (S0 := []) (vs0 := []) hh (roC (hh.rsep (S0 := []) (vs0 := []) 2 rfl) roN)) hna2 hqa2 hla2 h12) (fun l_2 h13 => ?_)
  have h14 := h13
  refine g_sel (S' := [_, _]) (vs' := [_, _, _]) [0, 1] [0, 1, 2] 0 (by decide) (by decide) rfl rfl rfl ?_
  refine p_next (fun w hh => hh.sel [1] [] 0 (by decide) (by decide) rfl rfl rfl) ?_
  refine p_free rfl rfl rfl rfl (fun _ _ => v_build (vs := [(0, _), (1, _), (2, _), (3, _)]) (cells := [_, _, _, _, _]) rfl rfl) ?_
  refine p_one rfl ?_
  refine g_stSA (us := #[_, _, _, _, _]) (cs' := [_, _, _, _, _]) (S' := [_, _]) 0 (fun w => Try.sizeOf29 w) rfl rfl rfl rfl rfl rfl rfl ?_
  refine p_next (fun w hh => hh.sel [1] [] 0 (by decide) (by decide) rfl rfl rfl) ?_
  refine p_done ?_
  refine g_n_then ?_
  refine g_ret ?_
  obtain rfl := Option.some.inj hm
  refine g_done rfl (fun w hh => (.cell rfl (loadVar_agg (vs := [_, _, _, _, _]) (Try.isAgg29 _) (Try.sizeOf29 _) (hh.cells 0 rfl rfl)) .nil)) (fun w hh => ⟨(l, l_1, l_2), rfl, ⟨h8, h11, h14⟩, hh.sel [] [2, 1, 0] 3 (by decide) (by decide) rfl rfl rfl⟩)
end Go.Proofs.Wk
namespace Go.Proofs.Wk
open Go Go.Fw Go.Gx Go.Pl
set_option linter.unusedVariables false
def m_laurellaw01_first (s0 : Sands) : Option Int :=
 (ix s0.table 0).bind fun t5 =>
 some t5.min
set_option maxRecDepth 100000 in
set_option maxHeartbeats 4000000 in
theorem c_laurellaw01_first (s0 : Sands) (qa0 : Option Addr) (na0 ca0 : Nat) (qa1 : Option Addr) (na1 ca1 : Nat) (qa2 : Option Addr) (na2 ca2 : Nat) (w : World) (hw : HV w (keys [] []) [] [] [(aB qa0, aO qa0, RW.enc s0.table), (aB qa1, aO qa1, RI.enc s0.floors), (aB qa2, aO qa2, RS.enc s0.sills)] w) (hna0 : s0.table.length = na0) (hqa0 : AOK na0 qa0) (hla0 : na0 ≤ ca0) (hna1 : s0.floors.length = na1) (hqa1 : AOK na1 qa1) (hla1 : na1 ≤ ca1) (hna2 : s0.sills.length = na2) (hqa2 : AOK na2 qa2) (hla2 : na2 ≤ ca2) {res : Int} (hm : m_laurellaw01_first s0 = some res) :
    Calls Try.prog 26 #[.agg #[.slice qa0 na0 ca0, .int .i64 s0.wind.lo, .int .i64 s0.wind.hi, .slice qa1 na1 ca1, .slice qa2 na2 ca2]] w (fun en w' => ∃ l : Unit, en = .returned (.int .i64 res) ∧ (True) ∧ HV w (keys [] []) [] [] [] w') := by
  unfold m_laurellaw01_first at hm
  refine g_enter (args := [.agg #[.slice qa0 na0 ca0, .int .i64 s0.wind.lo, .int .i64 s0.wind.hi, .slice qa1 na1 ca1, .slice qa2 na2 ca2]]) Try.func26 rfl Try.ntmps26 rfl (e := [(0, _)]) rfl (H := HV w (keys [] []) [] [] [(aB qa0, aO qa0, RW.enc s0.table), (aB qa1, aO qa1, RI.enc s0.floors), (aB qa2, aO qa2, RS.enc s0.sills)]) hw ?_
  refine g_seq ?_
  refine g_region ?_
  refine g_boxV rfl rfl (fun b h1 => ?_)
  refine g_val rfl rfl rfl (fun _ _ => v_assign rfl) ?_
  refine g_nil ?_
  refine g_n_then ?_
  refine g_seq ?_
  refine g_region ?_
  refine g_val rfl rfl rfl (fun w _ => v_fieldAddr 0 (Try.runUnderlying29 w) rfl (Try.sizeOf23 w) rfl) ?_
  refine g_val rfl rfl rfl (fun w hh => v_load (Try.isAgg23 w) rfl (hh.cell 0 rfl rfl)) ?_
  obtain ⟨t5, h2, hm⟩ := bindO hm
  refine g_val rfl rfl rfl (fun w _ => v_ixR h2 (Try.runUnderlying23 w) (Try.sizeOf68 w) rfl rfl hna0 hqa0) ?_
  refine g_val rfl rfl rfl (fun w _ => v_fieldAddr 0 (Try.runUnderlying68 w) rfl (Try.sizeOf3 w) rfl) ?_
  refine g_val rfl rfl rfl (fun w hh => v_ldE RW 0 h2 (Try.isAgg3 w) rfl (hh.seg 0 rfl) rfl rfl) ?_
  refine g_val rfl rfl rfl (fun _ _ => v_assign rfl) ?_
  refine g_nil ?_
  refine g_n_then ?_
  refine g_ret ?_
  obtain rfl := Option.some.inj hm
  refine g_done rfl (fun w hh => (.tmp rfl .nil)) (fun w hh => ⟨(), rfl, trivial, hh.sel [] [] 3 (by decide) (by decide) rfl rfl rfl⟩)
end Go.Proofs.Wk
namespace Go.Proofs.Wk
open Go Go.Fw Go.Gx Go.Pl
set_option linter.unusedVariables false
def m_laurellaw01_last (s0 : Sands) : Option Int :=
 (subc (s0.table.length : Int) 1).bind fun t8 =>
 (ix s0.table t8).bind fun t9 =>
 some t9.min
set_option maxRecDepth 100000 in
set_option maxHeartbeats 4000000 in
theorem c_laurellaw01_last (s0 : Sands) (qa0 : Option Addr) (na0 ca0 : Nat) (qa1 : Option Addr) (na1 ca1 : Nat) (qa2 : Option Addr) (na2 ca2 : Nat) (w : World) (hw : HV w (keys [] []) [] [] [(aB qa0, aO qa0, RW.enc s0.table), (aB qa1, aO qa1, RI.enc s0.floors), (aB qa2, aO qa2, RS.enc s0.sills)] w) (hna0 : s0.table.length = na0) (hqa0 : AOK na0 qa0) (hla0 : na0 ≤ ca0) (hna1 : s0.floors.length = na1) (hqa1 : AOK na1 qa1) (hla1 : na1 ≤ ca1) (hna2 : s0.sills.length = na2) (hqa2 : AOK na2 qa2) (hla2 : na2 ≤ ca2) {res : Int} (hm : m_laurellaw01_last s0 = some res) :
    Calls Try.prog 27 #[.agg #[.slice qa0 na0 ca0, .int .i64 s0.wind.lo, .int .i64 s0.wind.hi, .slice qa1 na1 ca1, .slice qa2 na2 ca2]] w (fun en w' => ∃ l : Unit, en = .returned (.int .i64 res) ∧ (True) ∧ HV w (keys [] []) [] [] [] w') := by
  unfold m_laurellaw01_last at hm
  refine g_enter (args := [.agg #[.slice qa0 na0 ca0, .int .i64 s0.wind.lo, .int .i64 s0.wind.hi, .slice qa1 na1 ca1, .slice qa2 na2 ca2]]) Try.func27 rfl Try.ntmps27 rfl (e := [(0, _)]) rfl (H := HV w (keys [] []) [] [] [(aB qa0, aO qa0, RW.enc s0.table), (aB qa1, aO qa1, RI.enc s0.floors), (aB qa2, aO qa2, RS.enc s0.sills)]) hw ?_
  refine g_seq ?_
  refine g_region ?_
  refine g_boxV rfl rfl (fun b h1 => ?_)
  refine g_val rfl rfl rfl (fun _ _ => v_assign rfl) ?_
  refine g_nil ?_
  refine g_n_then ?_
  refine g_seq ?_
  refine g_region ?_
  refine g_val rfl rfl rfl (fun w _ => v_fieldAddr 0 (Try.runUnderlying29 w) rfl (Try.sizeOf23 w) rfl) ?_
  refine g_val rfl rfl rfl (fun w hh => v_load (Try.isAgg23 w) rfl (hh.cell 0 rfl rfl)) ?_
  refine g_val rfl rfl rfl (fun w _ => v_fieldAddr 0 (Try.runUnderlying29 w) rfl (Try.sizeOf23 w) rfl) ?_
  refine g_val rfl rfl rfl (fun w hh => v_load (Try.isAgg23 w) rfl (hh.cell 0 rfl rfl)) ?_
  refine g_val rfl rfl rfl (fun w _ => v_lenR hna0 (Try.runUnderlying23 w) rfl) ?_
  obtain ⟨t8, h2, hm⟩ := bindO hm
  refine g_val rfl rfl rfl (fun _ _ => v_subc h2 rfl rfl) ?_
  obtain ⟨t9, h3, hm⟩ := bindO hm
  refine g_val rfl rfl rfl (fun w _ => v_ixR h3 (Try.runUnderlying23 w) (Try.sizeOf68 w) rfl rfl hna0 hqa0) ?_
  refine g_val rfl rfl rfl (fun w _ => v_fieldAddr 0 (Try.runUnderlying68 w) rfl (Try.sizeOf3 w) rfl) ?_
  refine g_val rfl rfl rfl (fun w hh => v_ldE RW 0 h3 (Try.isAgg3 w) rfl (hh.seg 0 rfl) rfl rfl) ?_
  refine g_val rfl rfl rfl (fun _ _ => v_assign rfl) ?_
  refine g_nil ?_
  refine g_n_then ?_
  refine g_ret ?_
  obtain rfl := Option.some.inj hm
  refine g_done rfl (fun w hh => (.tmp rfl .nil)) (fun w hh => ⟨(), rfl, trivial, hh.sel [] [] 3 (by decide) (by decide) rfl rfl rfl⟩)
end Go.Proofs.Wk
namespace Go.Proofs.Wk
open Go Go.Fw Go.Gx Go.Pl
set_option linter.unusedVariables false
structure m_tide_Ask_1_R where
  r0 : Look
  r1 : Int
  r2 : Int
structure m_tide_Ask_1_C0 where
  least9 : Int
  best8_min : Int
  best8_place : Int
  best8_wet : Bool
structure m_tide_Ask_1_S0 where
  least9 : Int
  minute10 : Int
  best8_min : Int
  best8_place : Int
  best8_wet : Bool
structure m_tide_Ask_1_C1 where
  least9 : Int
  best8_min : Int
  best8_place : Int
  best8_wet : Bool
structure m_tide_Ask_1_S1 where
  least9 : Int
  t61 : Int
  best8_min : Int
  best8_place : Int
  best8_wet : Bool
structure m_tide_Ask_1_C2 where
  least9 : Int
  best8_min : Int
  best8_place : Int
  best8_wet : Bool
def m_tide_Ask_1_L1 (s0 : Sands) (s : m_tide_Ask_1_S0) (t38 : Int) (s_1 : m_tide_Ask_1_S1) : Option (m_tide_Ask_1_S1 ⊕ m_tide_Ask_1_C1) :=
 if s_1.t61 < (s0.floors.length : Int) then
 (((x_left s0  [(⟨s.minute10, s_1.t61, true⟩ : Look)]).bind fun t70 =>
 (subc t70.hi t70.lo).bind fun t75 =>
 (addc t75 1).bind fun t76 =>
 (subc t38 (max 0 t76)).bind fun t81 =>
 if (max (max 0 t76) t81) < s_1.least9 then
 (some (⟨(max (max 0 t76) t81), s.minute10, s_1.t61, true⟩ : m_tide_Ask_1_C2)) else
 (some (⟨s_1.least9, s_1.best8_min, s_1.best8_place, s_1.best8_wet⟩ : m_tide_Ask_1_C2))).bind fun o_2 =>
 (addc s_1.t61 1).bind fun t88 =>
 some (.inl (⟨o_2.least9, t88, o_2.best8_min, o_2.best8_place, o_2.best8_wet⟩ : m_tide_Ask_1_S1))) else
 (some (.inr (⟨s_1.least9, s_1.best8_min, s_1.best8_place, s_1.best8_wet⟩ : m_tide_Ask_1_C1)))
def m_tide_Ask_1_L0 (s0 : Sands) (t38 : Int) (s : m_tide_Ask_1_S0) : Option (m_tide_Ask_1_S0 ⊕ m_tide_Ask_1_C0) :=
 (x_day s0 s.minute10).bind fun t55 =>
 if t55 = true then
 ((iterM FU (m_tide_Ask_1_L1 s0 s t38) (⟨s.least9, 0, s.best8_min, s.best8_place, s.best8_wet⟩ : m_tide_Ask_1_S1)).bind fun o_1 =>
 (addc s.minute10 1).bind fun t57 =>
 some (.inl (⟨o_1.least9, t57, o_1.best8_min, o_1.best8_place, o_1.best8_wet⟩ : m_tide_Ask_1_S0))) else
 (some (.inr (⟨s.least9, s.best8_min, s.best8_place, s.best8_wet⟩ : m_tide_Ask_1_C0)))
def m_tide_Ask_1 (s0 : Sands) : Option m_tide_Ask_1_R :=
 if s0.table.length ≤ 8796093022208 ∧ s0.floors.length ≤ 17592186044416 ∧ s0.sills.length ≤ 5864062014805 then (if check s0 = 0 then
 ((subc s0.wind.hi s0.wind.lo).bind fun t37 =>
 (addc t37 1).bind fun t38 =>
 if t38 = 1 then
 (some (⟨(⟨0, 0, false⟩ : Look), 0, 6⟩ : m_tide_Ask_1_R)) else
 ((addc t38 1).bind fun t44 =>
 (ix s0.table 0).bind fun t50 =>
 (iterM FU (m_tide_Ask_1_L0 s0 t38) (⟨t44, t50.min, 0, 0, false⟩ : m_tide_Ask_1_S0)).bind fun o =>
 some (⟨(⟨o.best8_min, o.best8_place, o.best8_wet⟩ : Look), o.least9, 0⟩ : m_tide_Ask_1_R))) else
 (some (⟨(⟨0, 0, false⟩ : Look), 0, (check s0)⟩ : m_tide_Ask_1_R))) else none
set_option maxRecDepth 100000 in
set_option maxHeartbeats 4000000 in
theorem c_tide_Ask_1 (s0 : Sands) (qa0 : Option (Nat × Nat)) (na0 ca0 : Nat) (qa1 : Option (Nat × Nat)) (na1 ca1 : Nat) (qa2 : Option (Nat × Nat)) (na2 ca2 : Nat) (w : World) (hw : HV w (keys [] []) [] [] [(bk qa0, off qa0, RW.enc s0.table), (bk qa1, off qa1, RI.enc s0.floors), (bk qa2, off qa2, RS.enc s0.sills)] w) (hna0 : s0.table.length = na0) (hqa0 : 0 < na0 → qa0 ≠ none) (hla0 : na0 ≤ ca0) (hna1 : s0.floors.length = na1) (hqa1 : 0 < na1 → qa1 ≠ none) (hla1 : na1 ≤ ca1) (hna2 : s0.sills.length = na2) (hqa2 : 0 < na2 → qa2 ≠ none) (hla2 : na2 ≤ ca2) {res : m_tide_Ask_1_R} (hm : m_tide_Ask_1 s0 = some res) :
    Calls Try.prog 62 #[.agg #[slv qa0 na0 ca0, .int .i64 s0.wind.lo, .int .i64 s0.wind.hi, slv qa1 na1 ca1, slv qa2 na2 ca2]] w (fun en w' => ∃ l : Unit, en = .returned (.tuple #[.agg #[.int .i64 res.r0.min, .int .i64 res.r0.place, .bool res.r0.wet], .int .i64 res.r1, .int .i64 res.r2]) ∧ (True) ∧ HV w (keys [] []) [] [] [] w') := by
  unfold m_tide_Ask_1 at hm
  refine g_enter (args := [.agg #[slv qa0 na0 ca0, .int .i64 s0.wind.lo, .int .i64 s0.wind.hi, slv qa1 na1 ca1, slv qa2 na2 ca2]]) Try.func62 rfl Try.ntmps62 rfl (e := [(0, _)]) rfl (H := HV w (keys [] []) [] [] [(bk qa0, off qa0, RW.enc s0.table), (bk qa1, off qa1, RI.enc s0.floors), (bk qa2, off qa2, RS.enc s0.sills)]) hw ?_
  refine g_seq ?_
  refine g_region ?_
  refine g_boxV rfl rfl (fun b h1 => ?_)
  refine g_allocV (fun w => Try.zeroValue89 w) rfl (fun b_1 h2 => ?_)
  refine g_val rfl rfl rfl (fun _ _ => v_assign rfl) ?_
  refine g_val rfl rfl rfl (fun _ _ => v_assign rfl) ?_
  refine g_nil ?_
  refine g_n_then ?_
  refine g_seq ?_
  refine g_region ?_
  refine g_val rfl rfl rfl (fun w hh => v_loadAgg (vs := [_, _, _, _, _]) (Try.isAgg29 w) (Try.sizeOf29 w) rfl (hh.cells 1 rfl rfl)) ?_
  obtain ⟨h3, hm⟩ := ifO hm
  refine dec_cases (p := check s0 = 0) (fun h4 => ?_) (fun h4 => ?_)
  ·replace hm := ifT h4 hm
   refine g_callFV rfl rfl rfl rfl rfl rfl rfl (fun a w => Try.call102 a w) (fun w hh => cx_opened s0 qa0 na0 ca0 qa1 na1 ca1 qa2 na2 ca2 w (HV.callee (S0 := []) (vs0 := []) hh (roC (hh.rsep (S0 := []) (vs0 := []) 0 rfl) (roC (hh.rsep (S0 := []) (vs0 := []) 1 rfl) (roC (hh.rsep (S0 := []) (vs0 := []) 2 rfl) roN)))) hna0 hqa0 hla0 hna1 hqa1 hla1 hna2 hqa2 hla2 h3 h4) (fun b_2 => ?_)
   refine g_val rfl rfl rfl (fun _ _ => v_move rfl) ?_
   refine g_val rfl rfl rfl (fun _ _ => v_extract rfl rfl) ?_
   refine g_val rfl rfl rfl (fun _ _ => v_extract rfl rfl) ?_
   refine g_val rfl rfl rfl (fun _ _ => v_assign rfl) ?_
   refine g_val rfl rfl rfl (fun _ _ => v_assign rfl) ?_
   refine g_nil ?_
   refine g_n_then ?_
   refine g_seq ?_
   refine g_seq ?_
   refine g_region ?_
   refine g_val rfl rfl rfl (fun _ _ => v_move rfl) ?_
   refine g_val rfl rfl rfl (fun _ _ => v_neq rfl rfl) ?_
   refine g_nil ?_
   refine g_n_then ?_
   refine g_condF rfl rfl ?_
   refine g_skip ?_
   refine g_n_then ?_
   refine g_seq ?_
   refine g_draw none (.free 0 (.free 1 (.free 2 (.free 3 (.free 4 (.hoist 5 (.free 6 (.free 7 (.free 8 (.free 9 (.free 10 (.hoist 11 (.free 12 (.free 13 (.free 14 .done))))))))))))))) _ rfl (by decide +kernel) (fun w k hh => hh.draw k) (fun w hh => hh) ?_
   refine p_free rfl rfl rfl rfl (fun _ _ => v_move rfl) ?_
   refine p_free rfl rfl rfl rfl (fun _ _ => v_nilCheck rfl) ?_
   refine p_free rfl rfl rfl rfl (fun w _ => v_fieldAddr 0 (Try.runUnderlying157 w) rfl (Try.sizeOf29 w) rfl) ?_
   refine p_free rfl rfl rfl rfl (fun w _ => v_fieldAddr 1 (Try.runUnderlying29 w) rfl (Try.sizeOf25 w) rfl) ?_
   refine p_free rfl rfl rfl rfl (fun w _ => v_fieldAddr 1 (Try.runUnderlying25 w) rfl (Try.sizeOf3 w) rfl) ?_
   refine p_hoist rfl rfl rfl rfl (fun w hh => v_load (Try.isAgg3 w) rfl (hh.cell 0 rfl rfl)) ?_
   refine p_free rfl rfl rfl rfl (fun _ _ => v_move rfl) ?_
   refine p_free rfl rfl rfl rfl (fun _ _ => v_nilCheck rfl) ?_
   refine p_free rfl rfl rfl rfl (fun w _ => v_fieldAddr 0 (Try.runUnderlying157 w) rfl (Try.sizeOf29 w) rfl) ?_
   refine p_free rfl rfl rfl rfl (fun w _ => v_fieldAddr 1 (Try.runUnderlying29 w) rfl (Try.sizeOf25 w) rfl) ?_
   refine p_free rfl rfl rfl rfl (fun w _ => v_fieldAddr 0 (Try.runUnderlying25 w) rfl (Try.sizeOf3 w) rfl) ?_
   refine p_hoist rfl rfl rfl rfl (fun w hh => v_load (Try.isAgg3 w) rfl (hh.cell 0 rfl rfl)) ?_
   obtain ⟨t37, h5, hm⟩ := bindO hm
   refine p_free rfl rfl rfl rfl (fun _ _ => v_subc h5 rfl rfl) ?_
   obtain ⟨t38, h6, hm⟩ := bindO hm
   refine p_free rfl rfl rfl rfl (fun _ _ => v_addc h6 rfl rfl) ?_
   refine p_free rfl rfl rfl rfl (fun _ _ => v_assign rfl) ?_
   refine p_done ?_
   refine g_n_then ?_
   refine g_seq ?_
   refine g_seq ?_
   refine g_region ?_
   refine g_val rfl rfl rfl (fun _ _ => v_move rfl) ?_
   refine g_val rfl rfl rfl (fun _ _ => v_eql rfl rfl) ?_
   refine g_nil ?_
   refine g_n_then ?_
   refine g_cond rfl (fun h7 => ?_) (fun h7 => ?_)
   ·replace hm := ifT (of_decide_eq_true h7) hm
    refine g_seq ?_
    refine g_region ?_
    refine g_val rfl rfl rfl (fun _ _ => v_build (vs := []) (cells := [_, _, _]) rfl rfl) ?_
    refine g_stSA (us := #[_, _, _]) (cs' := [_, _, _]) (S' := [_, _, _]) 1 (fun w => Try.sizeOf89 w) rfl rfl rfl rfl rfl rfl rfl ?_
    refine g_val rfl rfl rfl (fun _ _ => v_assign rfl) ?_
    refine g_val rfl rfl rfl (fun _ _ => v_assign rfl) ?_
    refine g_nil ?_
    refine g_n_then ?_
    refine g_ret ?_
    refine g_r_then ?_
    obtain rfl := Option.some.inj hm
    refine g_done rfl (fun w hh => (.cell rfl (loadVar_agg (vs := [_, _, _]) (Try.isAgg89 _) (Try.sizeOf89 _) (hh.cells 1 rfl rfl)) (.tmp rfl (.tmp rfl .nil)))) (fun w hh => ⟨(), rfl, trivial, hh.sel [] [] 3 (by decide) (by decide) rfl rfl rfl⟩)
   ·replace hm := ifF (of_decide_eq_false h7) hm
    refine g_skip ?_
    refine g_n_then ?_
    refine g_seq ?_
    refine g_region ?_
    refine g_val rfl rfl rfl (fun _ _ => v_build (vs := []) (cells := [_, _, _]) rfl rfl) ?_
    refine g_val rfl rfl rfl (fun _ _ => v_move rfl) ?_
    obtain ⟨t44, h8, hm⟩ := bindO hm
    refine g_val rfl rfl rfl (fun _ _ => v_addc h8 rfl rfl) ?_
    refine g_allocV (fun w => Try.zeroValue89 w) rfl (fun b_3 h9 => ?_)
    refine g_stSA (us := #[_, _, _]) (cs' := [_, _, _]) (S' := [_, _, _, _]) 0 (fun w => Try.sizeOf89 w) rfl rfl rfl rfl rfl rfl rfl ?_
    refine g_val rfl rfl rfl (fun _ _ => v_assign rfl) ?_
    refine g_nil ?_
    refine g_n_then ?_
    refine g_seq ?_
    refine g_seq ?_
    refine g_region ?_
    refine g_val rfl rfl rfl (fun _ _ => v_move rfl) ?_
    refine g_val rfl rfl rfl (fun _ _ => v_nilCheck rfl) ?_
    refine g_val rfl rfl rfl (fun w _ => v_fieldAddr 0 (Try.runUnderlying157 w) rfl (Try.sizeOf29 w) rfl) ?_
    refine g_val rfl rfl rfl (fun w _ => v_fieldAddr 0 (Try.runUnderlying29 w) rfl (Try.sizeOf23 w) rfl) ?_
    refine g_val rfl rfl rfl (fun w hh => v_load (Try.isAgg23 w) rfl (hh.cell 1 rfl rfl)) ?_
    obtain ⟨t50, h10, hm⟩ := bindO hm
    refine g_val rfl rfl rfl (fun w _ => v_ixA h10 (Try.runUnderlying23 w) (Try.sizeOf68 w) rfl rfl hna0 hqa0) ?_
    refine g_val rfl rfl rfl (fun w _ => v_fieldAddr 0 (Try.runUnderlying68 w) rfl (Try.sizeOf3 w) rfl) ?_
    refine g_val rfl rfl rfl (fun w hh => v_ldE RW 0 h10 (Try.isAgg3 w) rfl (hh.seg 0 rfl) rfl rfl) ?_
    refine g_val rfl rfl rfl (fun _ _ => v_assign rfl) ?_
    refine g_nil ?_
    refine g_n_then ?_
    obtain ⟨o, h11, h12⟩ := bindO hm
    refine g_cut (ι := Unit) (fun l => True) (fun l => [(2, ptr b_1 0), (8, ptr b_3 0), (9, .int .i64 o.least9)]) (fun l => [(b_3, .cells #[.int .i64 o.best8_min, .int .i64 o.best8_place, .bool o.best8_wet] 89 (0, 0)), (b_2, .cells #[slv qa0 na0 ca0, .int .i64 s0.wind.lo, .int .i64 s0.wind.hi, slv qa1 na1 ca1, slv qa2 na2 ca2, .int .i64 ((gatesOf s0).getD 0 0), .int .i64 ((gatesOf s0).getD 1 0), .int .i64 ((gatesOf s0).getD 2 0), .int .i64 ((gatesOf s0).getD 3 0), .int .i64 ((gatesOf s0).getD 4 0), .int .i64 ((gatesOf s0).getD 5 0), .int .i64 ((gatesOf s0).getD 6 0), .int .i64 ((gatesOf s0).getD 7 0)] 157 (0, 0)), (b_1, .cells #[.int .i64 0, .int .i64 0, .bool false] 89 (0, 0)), (b, .cells #[slv qa0 na0 ca0, .int .i64 s0.wind.lo, .int .i64 s0.wind.hi, slv qa1 na1 ca1, slv qa2 na2 ca2] 29 (0, 0))]) (fun l => []) ?_ ?_
    ·replace hm := h11
     refine g_block ?_
     refine g_loopF (ι := Unit) hm (fun s l_1 => True) (fun s l_1 => [(1, ptr b 0), (2, ptr b_1 0), (5, ptr b_2 0), (7, .int .i64 t38), (8, ptr b_3 0), (9, .int .i64 s.least9), (10, .int .i64 s.minute10)]) (fun s l_1 => [(b_3, .cells #[.int .i64 s.best8_min, .int .i64 s.best8_place, .bool s.best8_wet] 89 (0, 0)), (b_2, .cells #[slv qa0 na0 ca0, .int .i64 s0.wind.lo, .int .i64 s0.wind.hi, slv qa1 na1 ca1, slv qa2 na2 ca2, .int .i64 ((gatesOf s0).getD 0 0), .int .i64 ((gatesOf s0).getD 1 0), .int .i64 ((gatesOf s0).getD 2 0), .int .i64 ((gatesOf s0).getD 3 0), .int .i64 ((gatesOf s0).getD 4 0), .int .i64 ((gatesOf s0).getD 5 0), .int .i64 ((gatesOf s0).getD 6 0), .int .i64 ((gatesOf s0).getD 7 0)] 157 (0, 0)), (b_1, .cells #[.int .i64 0, .int .i64 0, .bool false] 89 (0, 0)), (b, .cells #[slv qa0 na0 ca0, .int .i64 s0.wind.lo, .int .i64 s0.wind.hi, slv qa1 na1 ca1, slv qa2 na2 ca2] 29 (0, 0))]) (fun s l_1 => []) () (trivial) ((.cons rfl (.cons rfl (.cons rfl (.cons rfl (.cons rfl (.cons rfl (.cons rfl .nil)))))))) (fun w hh => hh) (fun s l_1 r hpl hm h13 => ?_)
     unfold m_tide_Ask_1_L0 at hm
     refine g_seq ?_
     refine g_seq ?_
     refine g_region ?_
     refine g_val rfl rfl rfl (fun _ _ => v_move rfl) ?_
     refine g_val rfl rfl rfl (fun _ _ => v_move rfl) ?_
     obtain ⟨t55, h14, hm⟩ := bindO hm
     refine g_callN rfl rfl rfl rfl rfl rfl rfl (fun a w => Try.call103 a w) (fun w hh => cx_day s0 s.minute10 b_2 qa0 na0 ca0 qa1 na1 ca1 qa2 na2 ca2 w (HV.callee (S0 := []) (vs0 := []) hh (roC (bsep (hh.bseg 1 rfl)) (roC (hh.rsep (S0 := []) (vs0 := []) 0 rfl) (roC (hh.rsep (S0 := []) (vs0 := []) 1 rfl) (roC (hh.rsep (S0 := []) (vs0 := []) 2 rfl) roN))))) hna0 hqa0 hla0 hna1 hqa1 hla1 hna2 hqa2 hla2 h14) (fun l_2 h15 => ?_)
     refine g_nil ?_
     refine g_n_then ?_
     refine g_cond rfl (fun h16 => ?_) (fun h16 => ?_)
     ·replace hm := ifT (h16) hm
      refine g_skip ?_
      refine g_n_then ?_
      refine g_seq ?_
      refine g_block ?_
      refine g_seq ?_
      refine g_region ?_
      refine g_val rfl rfl rfl (fun w _ => v_fieldAddr 3 (Try.runUnderlying29 w) rfl (Try.sizeOf26 w) rfl) ?_
      refine g_val rfl rfl rfl (fun w hh => v_load (Try.isAgg26 w) rfl (hh.cell 3 rfl rfl)) ?_
      refine g_val rfl rfl rfl (fun w _ => v_lenN hna1 (Try.runUnderlying26 w) rfl) ?_
      refine g_val rfl rfl rfl (fun _ _ => v_move rfl) ?_
      refine g_nil ?_
      refine g_n_then ?_
      obtain ⟨o_1, h17, h18⟩ := bindO hm
      refine g_cut (ι := Unit) (fun l_3 => True) (fun l_3 => [(1, ptr b 0), (2, ptr b_1 0), (5, ptr b_2 0), (7, .int .i64 t38), (8, ptr b_3 0), (9, .int .i64 o_1.least9), (10, .int .i64 s.minute10)]) (fun l_3 => [(b_3, .cells #[.int .i64 o_1.best8_min, .int .i64 o_1.best8_place, .bool o_1.best8_wet] 89 (0, 0)), (b_2, .cells #[slv qa0 na0 ca0, .int .i64 s0.wind.lo, .int .i64 s0.wind.hi, slv qa1 na1 ca1, slv qa2 na2 ca2, .int .i64 ((gatesOf s0).getD 0 0), .int .i64 ((gatesOf s0).getD 1 0), .int .i64 ((gatesOf s0).getD 2 0), .int .i64 ((gatesOf s0).getD 3 0), .int .i64 ((gatesOf s0).getD 4 0), .int .i64 ((gatesOf s0).getD 5 0), .int .i64 ((gatesOf s0).getD 6 0), .int .i64 ((gatesOf s0).getD 7 0)] 157 (0, 0)), (b_1, .cells #[.int .i64 0, .int .i64 0, .bool false] 89 (0, 0)), (b, .cells #[slv qa0 na0 ca0, .int .i64 s0.wind.lo, .int .i64 s0.wind.hi, slv qa1 na1 ca1, slv qa2 na2 ca2] 29 (0, 0))]) (fun l_3 => []) ?_ ?_
      ·replace hm := h17
       refine g_block ?_
       refine g_loopF (ι := Unit) hm (fun s_1 l_4 => True) (fun s_1 l_4 => [(1, ptr b 0), (2, ptr b_1 0), (5, ptr b_2 0), (7, .int .i64 t38), (8, ptr b_3 0), (9, .int .i64 s_1.least9), (10, .int .i64 s.minute10), (60, .int .i64 (s0.floors.length : Int)), (61, .int .i64 s_1.t61)]) (fun s_1 l_4 => [(b_3, .cells #[.int .i64 s_1.best8_min, .int .i64 s_1.best8_place, .bool s_1.best8_wet] 89 (0, 0)), (b_2, .cells #[slv qa0 na0 ca0, .int .i64 s0.wind.lo, .int .i64 s0.wind.hi, slv qa1 na1 ca1, slv qa2 na2 ca2, .int .i64 ((gatesOf s0).getD 0 0), .int .i64 ((gatesOf s0).getD 1 0), .int .i64 ((gatesOf s0).getD 2 0), .int .i64 ((gatesOf s0).getD 3 0), .int .i64 ((gatesOf s0).getD 4 0), .int .i64 ((gatesOf s0).getD 5 0), .int .i64 ((gatesOf s0).getD 6 0), .int .i64 ((gatesOf s0).getD 7 0)] 157 (0, 0)), (b_1, .cells #[.int .i64 0, .int .i64 0, .bool false] 89 (0, 0)), (b, .cells #[slv qa0 na0 ca0, .int .i64 s0.wind.lo, .int .i64 s0.wind.hi, slv qa1 na1 ca1, slv qa2 na2 ca2] 29 (0, 0))]) (fun s_1 l_4 => []) () (trivial) ((.cons rfl (.cons rfl (.cons rfl (.cons rfl (.cons rfl (.cons rfl (.cons rfl (.cons rfl (.cons rfl .nil)))))))))) (fun w hh => hh) (fun s_1 l_4 r_1 hpl hm h19 => ?_)
       unfold m_tide_Ask_1_L1 at hm
       refine g_seq ?_
       refine g_region ?_
       refine g_val rfl rfl rfl (fun _ _ => v_lss rfl rfl) ?_
       refine g_nil ?_
       refine g_n_then ?_
       refine g_seq ?_
       refine g_cond rfl (fun h20 => ?_) (fun h20 => ?_)
       ·replace hm := ifT (of_decide_eq_true h20) hm
        refine g_skip ?_
        refine g_n_then ?_
        refine g_seq ?_
        obtain ⟨o_2, h21, h22⟩ := bindO hm
        refine g_cut (ι := Unit) (fun l_5 => True) (fun l_5 => [(1, ptr b 0), (2, ptr b_1 0), (5, ptr b_2 0), (7, .int .i64 t38), (8, ptr b_3 0), (9, .int .i64 o_2.least9), (10, .int .i64 s.minute10), (60, .int .i64 (s0.floors.length : Int)), (61, .int .i64 s_1.t61)]) (fun l_5 => [(b_3, .cells #[.int .i64 o_2.best8_min, .int .i64 o_2.best8_place, .bool o_2.best8_wet] 89 (0, 0)), (b_2, .cells #[slv qa0 na0 ca0, .int .i64 s0.wind.lo, .int .i64 s0.wind.hi, slv qa1 na1 ca1, slv qa2 na2 ca2, .int .i64 ((gatesOf s0).getD 0 0), .int .i64 ((gatesOf s0).getD 1 0), .int .i64 ((gatesOf s0).getD 2 0), .int .i64 ((gatesOf s0).getD 3 0), .int .i64 ((gatesOf s0).getD 4 0), .int .i64 ((gatesOf s0).getD 5 0), .int .i64 ((gatesOf s0).getD 6 0), .int .i64 ((gatesOf s0).getD 7 0)] 157 (0, 0)), (b_1, .cells #[.int .i64 0, .int .i64 0, .bool false] 89 (0, 0)), (b, .cells #[slv qa0 na0 ca0, .int .i64 s0.wind.lo, .int .i64 s0.wind.hi, slv qa1 na1 ca1, slv qa2 na2 ca2] 29 (0, 0))]) (fun l_5 => []) ?_ ?_
        ·replace hm := h21
         refine g_block ?_
         refine g_seq ?_
         refine g_region ?_
         refine g_val rfl rfl rfl (fun _ _ => v_move rfl) ?_
         refine g_val rfl rfl rfl (fun _ _ => v_assign rfl) ?_
         refine g_nil ?_
         refine g_n_then ?_
         refine g_seq ?_
         refine g_region ?_
         refine g_val rfl rfl rfl (fun _ _ => v_move rfl) ?_
         refine g_val rfl rfl rfl (fun _ _ => v_move rfl) ?_
         refine g_val rfl rfl rfl (fun _ _ => v_build (vs := [(0, _), (1, _), (2, _)]) (cells := [_, _, _]) rfl rfl) ?_
         refine g_allocV (fun w => Try.zeroValue89 w) rfl (fun b_4 h23 => ?_)
         refine g_stSA (us := #[_, _, _]) (cs' := [_, _, _]) (S' := [_, _, _, _, _]) 0 (fun w => Try.sizeOf89 w) rfl rfl rfl rfl rfl rfl rfl ?_
         refine g_nil ?_
         refine g_n_then ?_
         refine g_seq ?_
         refine g_region ?_
         refine g_val rfl rfl rfl (fun _ _ => v_move rfl) ?_
         refine g_val rfl rfl rfl (fun w hh => v_loadAgg (vs := [_, _, _]) (Try.isAgg89 w) (Try.sizeOf89 w) rfl (hh.cells 0 rfl rfl)) ?_
         refine g_vlit RL [(⟨s.minute10, s_1.t61, true⟩ : Look)] (ps := [(0, _)]) (cells := [_, _, _]) (fun w => Try.runUnderlying35 w) (fun w => Try.sizeOf89 w) (fun w => Try.zeroValue89 w) rfl rfl rfl rfl rfl rfl rfl rfl (fun L h24 => ?_)
         obtain ⟨t70, h25, hm⟩ := bindO hm
         refine g_callN rfl rfl rfl rfl rfl rfl rfl (fun a w => Try.call87 a w) (fun w hh => cx_left s0  [(⟨s.minute10, s_1.t61, true⟩ : Look)] b_2 qa0 na0 ca0 qa1 na1 ca1 qa2 na2 ca2 L.q L.n L.cap w (HV.callee (S0 := []) (vs0 := []) hh (roC (bsep (hh.bseg 2 rfl)) (roC (hh.rsep (S0 := []) (vs0 := []) 0 rfl) (roC (hh.rsep (S0 := []) (vs0 := []) 1 rfl) (roC (hh.rsep (S0 := []) (vs0 := []) 2 rfl) (roC (hh.vsep (S0 := []) (vs0 := []) 0 rfl h24) roN)))))) hna0 hqa0 hla0 hna1 hqa1 hla1 hna2 hqa2 hla2 (vlen RL h24 rfl) (vne h24) (h24).hle h25) (fun l_6 h26 => ?_)
         refine g_allocV (fun w => Try.zeroValue25 w) rfl (fun b_5 h27 => ?_)
         refine g_stSA (us := #[_, _]) (cs' := [_, _]) (S' := [_, _, _, _, _, _]) 0 (fun w => Try.sizeOf25 w) rfl rfl rfl rfl rfl rfl rfl ?_
         refine g_nil ?_
         refine g_n_then ?_
         refine g_seq ?_
         refine g_region ?_
         refine g_val rfl rfl rfl (fun w _ => v_fieldAddr 1 (Try.runUnderlying25 w) rfl (Try.sizeOf3 w) rfl) ?_
         refine g_val rfl rfl rfl (fun w hh => v_load (Try.isAgg3 w) rfl (hh.cell 0 rfl rfl)) ?_
         refine g_val rfl rfl rfl (fun w _ => v_fieldAddr 0 (Try.runUnderlying25 w) rfl (Try.sizeOf3 w) rfl) ?_
         refine g_val rfl rfl rfl (fun w hh => v_load (Try.isAgg3 w) rfl (hh.cell 0 rfl rfl)) ?_
         obtain ⟨t75, h28, hm⟩ := bindO hm
         refine g_val rfl rfl rfl (fun _ _ => v_subc h28 rfl rfl) ?_
         obtain ⟨t76, h29, hm⟩ := bindO hm
         refine g_val rfl rfl rfl (fun _ _ => v_addc h29 rfl rfl) ?_
         refine g_val rfl rfl rfl (fun _ _ => v_max rfl rfl) ?_
         refine g_val rfl rfl rfl (fun _ _ => v_assign rfl) ?_
         refine g_nil ?_
         refine g_n_then ?_
         refine g_seq ?_
         refine g_region ?_
         refine g_val rfl rfl rfl (fun _ _ => v_move rfl) ?_
         refine g_val rfl rfl rfl (fun _ _ => v_move rfl) ?_
         refine g_val rfl rfl rfl (fun _ _ => v_move rfl) ?_
         obtain ⟨t81, h30, hm⟩ := bindO hm
         refine g_val rfl rfl rfl (fun _ _ => v_subc h30 rfl rfl) ?_
         refine g_val rfl rfl rfl (fun _ _ => v_max rfl rfl) ?_
         refine g_val rfl rfl rfl (fun _ _ => v_assign rfl) ?_
         refine g_nil ?_
         refine g_n_then ?_
         refine g_seq ?_
         refine g_region ?_
         refine g_val rfl rfl rfl (fun _ _ => v_move rfl) ?_
         refine g_val rfl rfl rfl (fun _ _ => v_move rfl) ?_
         refine g_val rfl rfl rfl (fun _ _ => v_lss rfl rfl) ?_
         refine g_nil ?_
         refine g_n_then ?_
         refine g_cond rfl (fun h31 => ?_) (fun h31 => ?_)
         ·replace hm := ifT (of_decide_eq_true h31) hm
          refine g_region ?_
          refine g_val rfl rfl rfl (fun w hh => v_loadAgg (vs := [_, _, _]) (Try.isAgg89 w) (Try.sizeOf89 w) rfl (hh.cells 1 rfl rfl)) ?_
          refine g_val rfl rfl rfl (fun _ _ => v_move rfl) ?_
          refine g_stSA (us := #[_, _, _]) (cs' := [_, _, _]) (S' := [_, _, _, _, _, _]) 2 (fun w => Try.sizeOf89 w) rfl rfl rfl rfl rfl rfl rfl ?_
          refine g_val rfl rfl rfl (fun _ _ => v_assign rfl) ?_
          refine g_nil ?_
          refine g_n_blk ?_
          obtain rfl := Option.some.inj hm
          exact g_leaf () (trivial) ((.cons rfl (.cons rfl (.cons rfl (.cons rfl (.cons rfl (.cons rfl (.cons rfl (.cons rfl (.cons rfl .nil)))))))))) (fun w hh => hh.sel [2, 3, 4, 5] [] 0 (by decide) (by decide) rfl rfl rfl)
         ·replace hm := ifF (of_decide_eq_false h31) hm
          refine g_skip ?_
          refine g_n_blk ?_
          obtain rfl := Option.some.inj hm
          exact g_leaf () (trivial) ((.cons rfl (.cons rfl (.cons rfl (.cons rfl (.cons rfl (.cons rfl (.cons rfl (.cons rfl (.cons rfl .nil)))))))))) (fun w hh => hh.sel [2, 3, 4, 5] [] 0 (by decide) (by decide) rfl rfl rfl)
        ·intro l_5 hj
         replace hm := h22
         refine g_n_then ?_
         refine g_region ?_
         obtain ⟨t88, h32, hm⟩ := bindO hm
         refine g_val rfl rfl rfl (fun _ _ => v_addc h32 rfl rfl) ?_
         refine g_val rfl rfl rfl (fun _ _ => v_move rfl) ?_
         refine g_nil ?_
         obtain rfl := Option.some.inj hm
         refine g_n_then ?_
         exact g_again' _ () rfl (trivial) ((.cons rfl (.cons rfl (.cons rfl (.cons rfl (.cons rfl (.cons rfl (.cons rfl (.cons rfl (.cons rfl .nil)))))))))) (fun w hh => hh)
       ·replace hm := ifF (of_decide_eq_false h20) hm
        refine g_exit ?_
        refine g_x_then ?_
        refine g_x_then ?_
        refine g_x_blk ?_
        obtain rfl := Option.some.inj hm
        have hbo := h19 _ rfl
        subst hbo
        exact g_leaf () (trivial) ((.cons rfl (.cons rfl (.cons rfl (.cons rfl (.cons rfl (.cons rfl (.cons rfl .nil)))))))) (fun w hh => hh)
      ·intro l_3 hj
       replace hm := h18
       refine g_n_blk ?_
       refine g_n_then ?_
       refine g_region ?_
       refine g_val rfl rfl rfl (fun _ _ => v_move rfl) ?_
       obtain ⟨t57, h33, hm⟩ := bindO hm
       refine g_val rfl rfl rfl (fun _ _ => v_addc h33 rfl rfl) ?_
       refine g_val rfl rfl rfl (fun _ _ => v_assign rfl) ?_
       refine g_nil ?_
       obtain rfl := Option.some.inj hm
       refine g_n_then ?_
       exact g_again' _ () rfl (trivial) ((.cons rfl (.cons rfl (.cons rfl (.cons rfl (.cons rfl (.cons rfl (.cons rfl .nil)))))))) (fun w hh => hh)
     ·replace hm := ifF ((fun hh => Bool.noConfusion ((h16).symm.trans hh))) hm
      refine g_exit ?_
      refine g_x_then ?_
      refine g_x_then ?_
      refine g_x_blk ?_
      obtain rfl := Option.some.inj hm
      have hbo := h13 _ rfl
      subst hbo
      exact g_leaf () (trivial) ((.cons rfl (.cons rfl (.cons rfl .nil)))) (fun w hh => hh)
    ·intro l hj
     replace hm := h12
     refine g_n_then ?_
     refine g_seq ?_
     refine g_region ?_
     refine g_val rfl rfl rfl (fun w hh => v_loadAgg (vs := [_, _, _]) (Try.isAgg89 w) (Try.sizeOf89 w) rfl (hh.cells 0 rfl rfl)) ?_
     refine g_val rfl rfl rfl (fun _ _ => v_move rfl) ?_
     refine g_stSA (us := #[_, _, _]) (cs' := [_, _, _]) (S' := [_, _, _, _]) 2 (fun w => Try.sizeOf89 w) rfl rfl rfl rfl rfl rfl rfl ?_
     refine g_val rfl rfl rfl (fun _ _ => v_assign rfl) ?_
     refine g_val rfl rfl rfl (fun _ _ => v_assign rfl) ?_
     refine g_nil ?_
     refine g_n_then ?_
     refine g_ret ?_
     obtain rfl := Option.some.inj hm
     refine g_done rfl (fun w hh => (.cell rfl (loadVar_agg (vs := [_, _, _]) (Try.isAgg89 _) (Try.sizeOf89 _) (hh.cells 2 rfl rfl)) (.tmp rfl (.tmp rfl .nil)))) (fun w hh => ⟨(), rfl, trivial, hh.sel [] [] 3 (by decide) (by decide) rfl rfl rfl⟩)
  ·replace hm := ifF h4 hm
   refine g_callN rfl rfl rfl rfl rfl rfl rfl (fun a w => Try.call102 a w) (fun w hh => cx_openedE s0 qa0 na0 ca0 qa1 na1 ca1 qa2 na2 ca2 w (HV.callee (S0 := []) (vs0 := []) hh (roC (hh.rsep (S0 := []) (vs0 := []) 0 rfl) (roC (hh.rsep (S0 := []) (vs0 := []) 1 rfl) (roC (hh.rsep (S0 := []) (vs0 := []) 2 rfl) roN)))) hna0 hqa0 hla0 hna1 hqa1 hla1 hna2 hqa2 hla2 h3 h4) (fun l_7 h34 => ?_)
   refine g_val rfl rfl rfl (fun _ _ => v_move rfl) ?_
   refine g_val rfl rfl rfl (fun _ _ => v_extract rfl rfl) ?_
   refine g_val rfl rfl rfl (fun _ _ => v_extract rfl rfl) ?_
   refine g_val rfl rfl rfl (fun _ _ => v_assign rfl) ?_
   refine g_val rfl rfl rfl (fun _ _ => v_assign rfl) ?_
   refine g_nil ?_
   refine g_n_then ?_
   refine g_seq ?_
   refine g_seq ?_
   refine g_region ?_
   refine g_val rfl rfl rfl (fun _ _ => v_move rfl) ?_
   refine g_val rfl rfl rfl (fun _ _ => v_neqT h4 rfl rfl) ?_
   refine g_nil ?_
   refine g_n_then ?_
   refine g_condT rfl rfl ?_
   refine g_seq ?_
   refine g_region ?_
   refine g_val rfl rfl rfl (fun _ _ => v_build (vs := []) (cells := [_, _, _]) rfl rfl) ?_
   refine g_val rfl rfl rfl (fun _ _ => v_move rfl) ?_
   refine g_stSA (us := #[_, _, _]) (cs' := [_, _, _]) (S' := [_, _]) 0 (fun w => Try.sizeOf89 w) rfl rfl rfl rfl rfl rfl rfl ?_
   refine g_val rfl rfl rfl (fun _ _ => v_assign rfl) ?_
   refine g_val rfl rfl rfl (fun _ _ => v_assign rfl) ?_
   refine g_nil ?_
   refine g_n_then ?_
   refine g_ret ?_
   refine g_r_then ?_
   obtain rfl := Option.some.inj hm
   refine g_done rfl (fun w hh => (.cell rfl (loadVar_agg (vs := [_, _, _]) (Try.isAgg89 _) (Try.sizeOf89 _) (hh.cells 0 rfl rfl)) (.tmp rfl (.tmp rfl .nil)))) (fun w hh => ⟨(), rfl, trivial, hh.sel [] [] 3 (by decide) (by decide) rfl rfl rfl⟩)
end Go.Proofs.Wk
namespace Go.Proofs.Wk
open Go Go.Fw Go.Gx Go.Pl
set_option linter.unusedVariables false
structure m_laurellaw01_TideAsked_1_1_C0 where
  out4 : Int
  l2_wet : Bool
structure m_laurellaw01_TideAsked_1_1_S0 where
  out4 : Int
  t7 : Int
  l2_wet : Bool
def m_laurellaw01_TideAsked_1_1_L0 (a11_table : (List Water)) (a11_wind_lo : Int) (a11_wind_hi : Int) (a11_floors : (List Int)) (a11_sills : (List Sill)) (l0 : Look) (s : m_laurellaw01_TideAsked_1_1_S0) : Option (m_laurellaw01_TideAsked_1_1_S0 ⊕ m_laurellaw01_TideAsked_1_1_C0) :=
 if s.t7 < 2 then
 ((x_Looks (⟨a11_table, (⟨a11_wind_lo, a11_wind_hi⟩ : Span), a11_floors, a11_sills⟩ : Sands) [(⟨l0.min, l0.place, s.l2_wet⟩ : Look)]).bind fun t13 =>
 ((if t13.2 = 0 then
 (if a11_wind_lo ≤ t13.1.lo then
 (some (decide (t13.1.hi ≤ a11_wind_hi))) else
 (some false)) else
 (some false)).bind fun o_2 =>
 if o_2 = true then
 ((subc t13.1.hi t13.1.lo).bind fun t39 =>
 (addc t39 1).bind fun t40 =>
 some (max s.out4 t40)) else
 (some s.out4)).bind fun o_1 =>
 (addc s.t7 1).bind fun t46 =>
 some (.inl (⟨o_1, t46, (!s.l2_wet)⟩ : m_laurellaw01_TideAsked_1_1_S0))) else
 (some (.inr (⟨s.out4, s.l2_wet⟩ : m_laurellaw01_TideAsked_1_1_C0)))
def m_laurellaw01_TideAsked_1_1 (l0 : Look) (a11_table : (List Water)) (a11_wind_lo : Int) (a11_wind_hi : Int) (a11_floors : (List Int)) (a11_sills : (List Sill)) : Option Int :=
 (iterM FU (m_laurellaw01_TideAsked_1_1_L0 a11_table a11_wind_lo a11_wind_hi a11_floors a11_sills l0) (⟨0, 0, l0.wet⟩ : m_laurellaw01_TideAsked_1_1_S0)).bind fun o =>
 some o.out4
set_option maxRecDepth 100000 in
set_option maxHeartbeats 4000000 in
theorem c_laurellaw01_TideAsked_1_1 (l0 : Look) (a11_table : (List Water)) (a11_wind_lo : Int) (a11_wind_hi : Int) (a11_floors : (List Int)) (a11_sills : (List Sill)) (pb : Nat) (qa0 : Option (Nat × Nat)) (na0 ca0 : Nat) (qa1 : Option (Nat × Nat)) (na1 ca1 : Nat) (qa2 : Option (Nat × Nat)) (na2 ca2 : Nat) (w : World) (hw : HV w (keys [(pb, .cells #[slv qa0 na0 ca0, .int .i64 a11_wind_lo, .int .i64 a11_wind_hi, slv qa1 na1 ca1, slv qa2 na2 ca2] 29 (0, 0))] []) [(pb, .cells #[slv qa0 na0 ca0, .int .i64 a11_wind_lo, .int .i64 a11_wind_hi, slv qa1 na1 ca1, slv qa2 na2 ca2] 29 (0, 0))] [] [(bk qa0, off qa0, RW.enc a11_table), (bk qa1, off qa1, RI.enc a11_floors), (bk qa2, off qa2, RS.enc a11_sills)] w) (hna0 : a11_table.length = na0) (hqa0 : 0 < na0 → qa0 ≠ none) (hla0 : na0 ≤ ca0) (hna1 : a11_floors.length = na1) (hqa1 : 0 < na1 → qa1 ≠ none) (hla1 : na1 ≤ ca1) (hna2 : a11_sills.length = na2) (hqa2 : 0 < na2 → qa2 ≠ none) (hla2 : na2 ≤ ca2) {res : Int} (hm : m_laurellaw01_TideAsked_1_1 l0 a11_table a11_wind_lo a11_wind_hi a11_floors a11_sills = some res) :
    Calls Try.prog 63 #[.agg #[.int .i64 l0.min, .int .i64 l0.place, .bool l0.wet], ptr pb 0] w (fun en w' => ∃ l : Unit, en = .returned (.int .i64 res) ∧ (True) ∧ HV w (keys [(pb, .cells #[slv qa0 na0 ca0, .int .i64 a11_wind_lo, .int .i64 a11_wind_hi, slv qa1 na1 ca1, slv qa2 na2 ca2] 29 (0, 0))] []) [(pb, .cells #[slv qa0 na0 ca0, .int .i64 a11_wind_lo, .int .i64 a11_wind_hi, slv qa1 na1 ca1, slv qa2 na2 ca2] 29 (0, 0))] [] [] w') := by
  unfold m_laurellaw01_TideAsked_1_1 at hm
  refine g_enter (args := [.agg #[.int .i64 l0.min, .int .i64 l0.place, .bool l0.wet], ptr pb 0]) Try.func63 rfl Try.ntmps63 rfl (e := [(0, _), (1, _)]) rfl (H := HV w (keys [(pb, .cells #[slv qa0 na0 ca0, .int .i64 a11_wind_lo, .int .i64 a11_wind_hi, slv qa1 na1 ca1, slv qa2 na2 ca2] 29 (0, 0))] []) [(pb, .cells #[slv qa0 na0 ca0, .int .i64 a11_wind_lo, .int .i64 a11_wind_hi, slv qa1 na1 ca1, slv qa2 na2 ca2] 29 (0, 0))] [] [(bk qa0, off qa0, RW.enc a11_table), (bk qa1, off qa1, RI.enc a11_floors), (bk qa2, off qa2, RS.enc a11_sills)]) hw ?_
  refine g_seq ?_
  refine g_region ?_
  refine g_boxV rfl rfl (fun b h1 => ?_)
  refine g_val rfl rfl rfl (fun _ _ => v_assign rfl) ?_
  refine g_nil ?_
  refine g_n_then ?_
  refine g_seq ?_
  refine g_region ?_
  refine g_val rfl rfl rfl (fun _ _ => v_assign rfl) ?_
  refine g_nil ?_
  refine g_n_then ?_
  refine g_seq ?_
  refine g_seq ?_
  refine g_region ?_
  refine g_val rfl rfl rfl (fun _ _ => v_move rfl) ?_
  refine g_nil ?_
  refine g_n_then ?_
  obtain ⟨o, h2, h3⟩ := bindO hm
  refine g_cut (ι := Unit) (fun l => True) (fun l => [(4, .int .i64 o.out4)]) (fun l => [(b, .cells #[.int .i64 l0.min, .int .i64 l0.place, .bool o.l2_wet] 89 (0, 0)), (pb, .cells #[slv qa0 na0 ca0, .int .i64 a11_wind_lo, .int .i64 a11_wind_hi, slv qa1 na1 ca1, slv qa2 na2 ca2] 29 (0, 0))]) (fun l => []) ?_ ?_
  ·replace hm := h2
   refine g_block ?_
   refine g_loopF (ι := Unit) hm (fun s l_1 => True) (fun s l_1 => [(1, ptr pb 0), (2, ptr b 0), (4, .int .i64 s.out4), (7, .int .i64 s.t7)]) (fun s l_1 => [(b, .cells #[.int .i64 l0.min, .int .i64 l0.place, .bool s.l2_wet] 89 (0, 0)), (pb, .cells #[slv qa0 na0 ca0, .int .i64 a11_wind_lo, .int .i64 a11_wind_hi, slv qa1 na1 ca1, slv qa2 na2 ca2] 29 (0, 0))]) (fun s l_1 => []) () (trivial) ((.cons rfl (.cons rfl (.cons rfl (.cons rfl .nil))))) (fun w hh => hh) (fun s l_1 r hpl hm h4 => ?_)
   unfold m_laurellaw01_TideAsked_1_1_L0 at hm
   refine g_seq ?_
   refine g_region ?_
   refine g_val rfl rfl rfl (fun _ _ => v_lss rfl rfl) ?_
   refine g_nil ?_
   refine g_n_then ?_
   refine g_seq ?_
   refine g_cond rfl (fun h5 => ?_) (fun h5 => ?_)
   ·replace hm := ifT (of_decide_eq_true h5) hm
    refine g_skip ?_
    refine g_n_then ?_
    refine g_seq ?_
    refine g_block ?_
    refine g_seq ?_
    refine g_region ?_
    refine g_val rfl rfl rfl (fun w hh => v_loadAgg (vs := [_, _, _, _, _]) (Try.isAgg29 w) (Try.sizeOf29 w) rfl (hh.cells 1 rfl rfl)) ?_
    refine g_val rfl rfl rfl (fun w hh => v_loadAgg (vs := [_, _, _]) (Try.isAgg89 w) (Try.sizeOf89 w) rfl (hh.cells 0 rfl rfl)) ?_
    refine g_vlit RL [(⟨l0.min, l0.place, s.l2_wet⟩ : Look)] (ps := [(0, _)]) (cells := [_, _, _]) (fun w => Try.runUnderlying35 w) (fun w => Try.sizeOf89 w) (fun w => Try.zeroValue89 w) rfl rfl rfl rfl rfl rfl rfl rfl (fun L h6 => ?_)
    obtain ⟨t13, h7, hm⟩ := bindO hm
    refine g_callH [] [] rfl rfl rfl rfl rfl rfl rfl (fun a w => Try.call23 a w) (fun w hh => cx_Looks (⟨a11_table, (⟨a11_wind_lo, a11_wind_hi⟩ : Span), a11_floors, a11_sills⟩ : Sands) [(⟨l0.min, l0.place, s.l2_wet⟩ : Look)] qa0 na0 ca0 qa1 na1 ca1 qa2 na2 ca2 L.q L.n L.cap w (HV.callee (S0 := []) (vs0 := []) hh (roC (hh.rsep (S0 := []) (vs0 := []) 0 rfl) (roC (hh.rsep (S0 := []) (vs0 := []) 1 rfl) (roC (hh.rsep (S0 := []) (vs0 := []) 2 rfl) (roC (hh.vsep (S0 := []) (vs0 := []) 0 rfl h6) roN))))) hna0 hqa0 hla0 hna1 hqa1 hla1 hna2 hqa2 hla2 (vlen RL h6 rfl) (vne h6) (h6).hle h7) (fun l_2 h8 => ?_)
    refine g_val rfl rfl rfl (fun _ _ => v_move rfl) ?_
    refine g_val rfl rfl rfl (fun _ _ => v_extract rfl rfl) ?_
    refine g_val rfl rfl rfl (fun _ _ => v_extract rfl rfl) ?_
    refine g_allocV (fun w => Try.zeroValue25 w) rfl (fun b_1 h9 => ?_)
    refine g_stSA (us := #[_, _]) (cs' := [_, _]) (S' := [_, _, _]) 0 (fun w => Try.sizeOf25 w) rfl rfl rfl rfl rfl rfl rfl ?_
    refine g_val rfl rfl rfl (fun _ _ => v_assign rfl) ?_
    refine g_nil ?_
    refine g_n_then ?_
    refine g_seq ?_
    obtain ⟨o_1, h10, h11⟩ := bindO hm
    refine g_cut (ι := Unit) (fun l_3 => True) (fun l_3 => [(1, ptr pb 0), (2, ptr b 0), (4, .int .i64 o_1), (7, .int .i64 s.t7)]) (fun l_3 => [(b_1, .cells #[.int .i64 t13.1.lo, .int .i64 t13.1.hi] 25 (0, 0)), (b, .cells #[.int .i64 l0.min, .int .i64 l0.place, .bool s.l2_wet] 89 (0, 0)), (pb, .cells #[slv qa0 na0 ca0, .int .i64 a11_wind_lo, .int .i64 a11_wind_hi, slv qa1 na1 ca1, slv qa2 na2 ca2] 29 (0, 0))]) (fun l_3 => []) ?_ ?_
    ·replace hm := h10
     refine g_seq ?_
     obtain ⟨o_2, h12, h13⟩ := bindO hm
     refine g_cut (ι := Unit) (fun l_4 => True) (fun l_4 => [(1, ptr pb 0), (2, ptr b 0), (4, .int .i64 s.out4), (5, ptr b_1 0), (7, .int .i64 s.t7), (33, .bool o_2)]) (fun l_4 => [(b_1, .cells #[.int .i64 t13.1.lo, .int .i64 t13.1.hi] 25 (0, 0)), (b, .cells #[.int .i64 l0.min, .int .i64 l0.place, .bool s.l2_wet] 89 (0, 0)), (pb, .cells #[slv qa0 na0 ca0, .int .i64 a11_wind_lo, .int .i64 a11_wind_hi, slv qa1 na1 ca1, slv qa2 na2 ca2] 29 (0, 0))]) (fun l_4 => []) ?_ ?_
     ·replace hm := h12
      refine g_region ?_
      refine g_val rfl rfl rfl (fun _ _ => v_move rfl) ?_
      refine g_val rfl rfl rfl (fun _ _ => v_eql rfl rfl) ?_
      refine g_val rfl rfl rfl (fun _ _ => v_move rfl) ?_
      refine g_case 18 rfl (fun h14 => ?_) (fun h14 => ?_)
      ·replace hm := ifT (of_decide_eq_true h14) hm
       refine v_unguard rfl rfl ?_
       refine g_val rfl rfl rfl (fun w _ => v_fieldAddr 0 (Try.runUnderlying25 w) rfl (Try.sizeOf3 w) rfl) ?_
       refine v_unguard rfl rfl ?_
       refine g_val rfl rfl rfl (fun w hh => v_load (Try.isAgg3 w) rfl (hh.cell 0 rfl rfl)) ?_
       refine v_unguard rfl rfl ?_
       refine g_val rfl rfl rfl (fun w _ => v_fieldAddr 1 (Try.runUnderlying29 w) rfl (Try.sizeOf25 w) rfl) ?_
       refine v_unguard rfl rfl ?_
       refine g_val rfl rfl rfl (fun w _ => v_fieldAddr 0 (Try.runUnderlying25 w) rfl (Try.sizeOf3 w) rfl) ?_
       refine v_unguard rfl rfl ?_
       refine g_val rfl rfl rfl (fun w hh => v_load (Try.isAgg3 w) rfl (hh.cell 2 rfl rfl)) ?_
       refine v_unguard rfl rfl ?_
       refine g_val rfl rfl rfl (fun _ _ => v_geq rfl rfl) ?_
       refine g_val rfl rfl rfl (fun _ _ => v_pickT rfl rfl) ?_
       refine g_val rfl rfl rfl (fun _ _ => v_move rfl) ?_
       refine g_case 26 rfl (fun h15 => ?_) (fun h15 => ?_)
       ·replace hm := ifT (of_decide_eq_true h15) hm
        refine v_unguard rfl rfl ?_
        refine g_val rfl rfl rfl (fun w _ => v_fieldAddr 1 (Try.runUnderlying25 w) rfl (Try.sizeOf3 w) rfl) ?_
        refine v_unguard rfl rfl ?_
        refine g_val rfl rfl rfl (fun w hh => v_load (Try.isAgg3 w) rfl (hh.cell 0 rfl rfl)) ?_
        refine v_unguard rfl rfl ?_
        refine g_val rfl rfl rfl (fun w _ => v_fieldAddr 1 (Try.runUnderlying29 w) rfl (Try.sizeOf25 w) rfl) ?_
        refine v_unguard rfl rfl ?_
        refine g_val rfl rfl rfl (fun w _ => v_fieldAddr 1 (Try.runUnderlying25 w) rfl (Try.sizeOf3 w) rfl) ?_
        refine v_unguard rfl rfl ?_
        refine g_val rfl rfl rfl (fun w hh => v_load (Try.isAgg3 w) rfl (hh.cell 2 rfl rfl)) ?_
        refine v_unguard rfl rfl ?_
        refine g_val rfl rfl rfl (fun _ _ => v_leq rfl rfl) ?_
        refine g_val rfl rfl rfl (fun _ _ => v_pickT rfl rfl) ?_
        refine g_nil ?_
        obtain rfl := Option.some.inj hm
        exact g_leaf () (trivial) ((.cons rfl (.cons rfl (.cons rfl (.cons rfl (.cons rfl (.cons rfl .nil))))))) (fun w hh => hh.sel [0, 1, 2] [] 0 (by decide) (by decide) rfl rfl rfl)
       ·replace hm := ifF (of_decide_eq_false h15) hm
        refine g_skipG rfl rfl rfl rfl rfl rfl ?_
        refine g_skipG rfl rfl rfl rfl rfl rfl ?_
        refine g_skipG rfl rfl rfl rfl rfl rfl ?_
        refine g_skipG rfl rfl rfl rfl rfl rfl ?_
        refine g_skipG rfl rfl rfl rfl rfl rfl ?_
        refine g_skipG rfl rfl rfl rfl rfl rfl ?_
        refine g_val rfl rfl rfl (fun _ _ => v_pickF rfl rfl) ?_
        refine g_nil ?_
        obtain rfl := Option.some.inj hm
        exact g_leaf () (trivial) ((.cons rfl (.cons rfl (.cons rfl (.cons rfl (.cons rfl (.cons rfl .nil))))))) (fun w hh => hh.sel [0, 1, 2] [] 0 (by decide) (by decide) rfl rfl rfl)
      ·replace hm := ifF (of_decide_eq_false h14) hm
       refine g_skipG rfl rfl rfl rfl rfl rfl ?_
       refine g_skipG rfl rfl rfl rfl rfl rfl ?_
       refine g_skipG rfl rfl rfl rfl rfl rfl ?_
       refine g_skipG rfl rfl rfl rfl rfl rfl ?_
       refine g_skipG rfl rfl rfl rfl rfl rfl ?_
       refine g_skipG rfl rfl rfl rfl rfl rfl ?_
       refine g_val rfl rfl rfl (fun _ _ => v_pickF rfl rfl) ?_
       refine g_val rfl rfl rfl (fun _ _ => v_move rfl) ?_
       refine g_skipG rfl rfl rfl rfl rfl rfl ?_
       refine g_skipG rfl rfl rfl rfl rfl rfl ?_
       refine g_skipG rfl rfl rfl rfl rfl rfl ?_
       refine g_skipG rfl rfl rfl rfl rfl rfl ?_
       refine g_skipG rfl rfl rfl rfl rfl rfl ?_
       refine g_skipG rfl rfl rfl rfl rfl rfl ?_
       refine g_val rfl rfl rfl (fun _ _ => v_pickF rfl rfl) ?_
       refine g_nil ?_
       obtain rfl := Option.some.inj hm
       exact g_leaf () (trivial) ((.cons rfl (.cons rfl (.cons rfl (.cons rfl (.cons rfl (.cons rfl .nil))))))) (fun w hh => hh.sel [0, 1, 2] [] 0 (by decide) (by decide) rfl rfl rfl)
     ·intro l_4 hj
      replace hm := h13
      refine g_n_then ?_
      refine g_cond rfl (fun h16 => ?_) (fun h16 => ?_)
      ·replace hm := ifT (h16) hm
       refine g_region ?_
       refine g_val rfl rfl rfl (fun _ _ => v_move rfl) ?_
       refine g_val rfl rfl rfl (fun w _ => v_fieldAddr 1 (Try.runUnderlying25 w) rfl (Try.sizeOf3 w) rfl) ?_
       refine g_val rfl rfl rfl (fun w hh => v_load (Try.isAgg3 w) rfl (hh.cell 0 rfl rfl)) ?_
       refine g_val rfl rfl rfl (fun w _ => v_fieldAddr 0 (Try.runUnderlying25 w) rfl (Try.sizeOf3 w) rfl) ?_
       refine g_val rfl rfl rfl (fun w hh => v_load (Try.isAgg3 w) rfl (hh.cell 0 rfl rfl)) ?_
       obtain ⟨t39, h17, hm⟩ := bindO hm
       refine g_val rfl rfl rfl (fun _ _ => v_subc h17 rfl rfl) ?_
       obtain ⟨t40, h18, hm⟩ := bindO hm
       refine g_val rfl rfl rfl (fun _ _ => v_addc h18 rfl rfl) ?_
       refine g_val rfl rfl rfl (fun _ _ => v_max rfl rfl) ?_
       refine g_val rfl rfl rfl (fun _ _ => v_assign rfl) ?_
       refine g_nil ?_
       obtain rfl := Option.some.inj hm
       exact g_leaf () (trivial) ((.cons rfl (.cons rfl (.cons rfl (.cons rfl .nil))))) (fun w hh => hh)
      ·replace hm := ifF ((fun hh => Bool.noConfusion ((h16).symm.trans hh))) hm
       refine g_skip ?_
       obtain rfl := Option.some.inj hm
       exact g_leaf () (trivial) ((.cons rfl (.cons rfl (.cons rfl (.cons rfl .nil))))) (fun w hh => hh)
    ·intro l_3 hj
     replace hm := h11
     refine g_n_then ?_
     refine g_region ?_
     refine g_val rfl rfl rfl (fun w _ => v_fieldAddr 2 (Try.runUnderlying89 w) rfl (Try.sizeOf4 w) rfl) ?_
     refine g_val rfl rfl rfl (fun w hh => v_load (Try.isAgg4 w) rfl (hh.cell 1 rfl rfl)) ?_
     refine g_val rfl rfl rfl (fun _ _ => v_not rfl) ?_
     refine g_val rfl rfl rfl (fun w _ => v_fieldAddr 2 (Try.runUnderlying89 w) rfl (Try.sizeOf4 w) rfl) ?_
     refine g_stS (cs' := #[_, _, _]) (S' := [_, _, _]) 1 (fun w => Try.sizeOf4 w) rfl rfl rfl rfl rfl rfl rfl ?_
     refine g_nil ?_
     refine g_n_blk ?_
     refine g_n_then ?_
     refine g_region ?_
     obtain ⟨t46, h19, hm⟩ := bindO hm
     refine g_val rfl rfl rfl (fun _ _ => v_addc h19 rfl rfl) ?_
     refine g_val rfl rfl rfl (fun _ _ => v_move rfl) ?_
     refine g_nil ?_
     obtain rfl := Option.some.inj hm
     refine g_n_then ?_
     exact g_again' _ () rfl (trivial) ((.cons rfl (.cons rfl (.cons rfl (.cons rfl .nil))))) (fun w hh => hh.sel [1, 2] [] 0 (by decide) (by decide) rfl rfl rfl)
   ·replace hm := ifF (of_decide_eq_false h5) hm
    refine g_exit ?_
    refine g_x_then ?_
    refine g_x_then ?_
    refine g_x_blk ?_
    obtain rfl := Option.some.inj hm
    have hbo := h4 _ rfl
    subst hbo
    exact g_leaf () (trivial) ((.cons rfl .nil)) (fun w hh => hh)
  ·intro l hj
   replace hm := h3
   refine g_n_then ?_
   refine g_seq ?_
   refine g_region ?_
   refine g_val rfl rfl rfl (fun _ _ => v_move rfl) ?_
   refine g_val rfl rfl rfl (fun _ _ => v_assign rfl) ?_
   refine g_nil ?_
   refine g_n_then ?_
   refine g_ret ?_
   obtain rfl := Option.some.inj hm
   refine g_done rfl (fun w hh => (.tmp rfl .nil)) (fun w hh => ⟨(), rfl, trivial, hh.sel [1] [] 3 (by decide) (by decide) rfl rfl rfl⟩)
end Go.Proofs.Wk
namespace Go.Proofs.Wk
open Go Go.Fw Go.Gx Go.Pl
set_option linter.unusedVariables false
structure m_laurellaw01_TideAsked_C2 where
  t5_1 : Int
  t5_2 : Int
structure m_laurellaw01_TideAsked_S0 where
  t51 : Int
  t5_1 : Int
  t5_2 : Int
structure m_laurellaw01_TideAsked_C3 where
  l11 : Look
  t5_1 : Int
  t5_2 : Int
def m_laurellaw01_TideAsked_L0 (t15 : m_laurellaw01_Made_R) (tries1 : (List Int)) (t20 : m_tide_Ask_1_R) (s : m_laurellaw01_TideAsked_S0) : Option (m_laurellaw01_TideAsked_S0 ⊕ (m_laurellaw01_TideAsked_C2 ⊕ Bool)) :=
 if s.t51 < 12 then
 (((subc (t15.r0.floors.length : Int) 1).bind fun t63 =>
 (m_laurellaw01_first t15.r0).bind fun t55 =>
 (m_laurellaw01_last t15.r0).bind fun t57 =>
 (m_laurelkit_Heap_From tries1 s.t5_1 s.t5_2 t55 t57).bind fun t58 =>
 (m_laurelkit_Heap_Upto tries1 t58.h0_1 t58.h0_2 t63).bind fun t64 =>
 some (⟨(⟨t58.r0, t64.r0, true⟩ : Look), t64.h0_1, t64.h0_2⟩ : m_laurellaw01_TideAsked_C3)).bind fun o_3 =>
 (m_laurellaw01_TideAsked_1_1 o_3.l11 t15.r0.table t15.r0.wind.lo t15.r0.wind.hi t15.r0.floors t15.r0.sills).bind fun t68 =>
 (if t68 < t20.r1 then
 (some true) else
 (if t68 = t20.r1 then
 (if o_3.l11.min < t20.r0.min then
 (some true) else
 (if o_3.l11.min = t20.r0.min then
 (some (decide (o_3.l11.place < t20.r0.place))) else
 (some false))) else
 (some false))).bind fun o_4 =>
 if o_4 = true then
 (some (.inr (.inr false))) else
 ((addc s.t51 1).bind fun t98 =>
 some (.inl (⟨t98, o_3.t5_1, o_3.t5_2⟩ : m_laurellaw01_TideAsked_S0)))) else
 (some (.inr (.inl (⟨s.t5_1, s.t5_2⟩ : m_laurellaw01_TideAsked_C2))))
def m_laurellaw01_TideAsked (numbers0 : (List Int)) (tries1 : (List Int)) : Option Bool :=
 (m_laurelkit_Pile numbers0).bind fun t14 =>
 (m_laurellaw01_Made numbers0 t14.t5_1 t14.t5_2 6 9).bind fun t15 =>
 (m_laurelkit_Pile tries1).bind fun t17 =>
 (m_tide_Ask_1 t15.r0).bind fun t20 =>
 if t15.r0.wind.lo = t15.r0.wind.hi then
 ((if t20.r2 = 6 then
 ((x_awake).bind fun t34 =>
 some t34) else
 (some false)).bind fun o =>
 some o) else
 ((if t20.r2 = 0 then
 (if (!t20.r0.wet) = true then
 (some true) else
 ((m_laurellaw01_TideAsked_1_1 t20.r0 t15.r0.table t15.r0.wind.lo t15.r0.wind.hi t15.r0.floors t15.r0.sills).bind fun t47 =>
 some (!decide (t47 = t20.r1)))) else
 (some true)).bind fun o_1 =>
 if o_1 = true then
 (some false) else
 ((iterM FU (m_laurellaw01_TideAsked_L0 t15 tries1 t20) (⟨0, t17.t5_1, t17.t5_2⟩ : m_laurellaw01_TideAsked_S0)).bind fun o_2 =>
 oc o_2 (fun j => (x_awake).bind fun t99 =>
 some t99) (fun r_1 => some r_1)))
set_option maxRecDepth 100000 in
set_option maxHeartbeats 4000000 in
theorem c_laurellaw01_TideAsked (numbers0 : (List Int)) (tries1 : (List Int)) (qa0 : Option Addr) (na0 ca0 : Nat) (qa1 : Option Addr) (na1 ca1 : Nat) (w : World) (hw : HV w (keys [] []) [] [] [(aB qa0, aO qa0, RU8.enc numbers0), (aB qa1, aO qa1, RU8.enc tries1)] w) (hna0 : numbers0.length = na0) (hqa0 : AOK na0 qa0) (hla0 : na0 ≤ ca0) (hna1 : tries1.length = na1) (hqa1 : AOK na1 qa1) (hla1 : na1 ≤ ca1) {res : Bool} (hm : m_laurellaw01_TideAsked numbers0 tries1 = some res) :
    Calls Try.prog 11 #[.slice qa0 na0 ca0, .slice qa1 na1 ca1] w (fun en w' => ∃ l : Unit, en = .returned (.bool res) ∧ (True) ∧ HV w (keys [] []) [] [] [] w') := by
  unfold m_laurellaw01_TideAsked at hm
  refine g_enter (args := [.slice qa0 na0 ca0, .slice qa1 na1 ca1]) Try.func11 rfl Try.ntmps11 rfl (e := [(0, _), (1, _)]) rfl (H := HV w (keys [] []) [] [] [(aB qa0, aO qa0, RU8.enc numbers0), (aB qa1, aO qa1, RU8.enc tries1)]) hw ?_
  refine g_seq ?_
  refine g_region ?_
  refine g_val rfl rfl rfl (fun _ _ => v_assign rfl) ?_
  refine g_nil ?_
  refine g_n_then ?_
  refine g_seq ?_
  refine g_region ?_
  refine g_val rfl rfl rfl (fun _ _ => v_move rfl) ?_
  obtain ⟨t14, h1, hm⟩ := bindO hm
  refine g_callH [] [] rfl rfl rfl rfl rfl rfl rfl (fun a w => Try.call19 a w) (fun w hh => c_laurelkit_Pile numbers0 qa0 na0 ca0 w (HV.callee (S0 := []) (vs0 := []) hh (roC (hh.rsep (S0 := []) (vs0 := []) 0 rfl) roN)) hna0 hqa0 hla0 h1) (fun l h2 => ?_)
  refine g_sel (S' := [_]) (vs' := []) [0] [] 0 (by decide) (by decide) rfl rfl rfl ?_
  obtain ⟨t15, h3, hm⟩ := bindO hm
  refine g_callH [_] [] rfl rfl rfl rfl rfl rfl rfl (fun a w => Try.call18 a w) (fun w hh => c_laurellaw01_Made numbers0 t14.t5_1 t14.t5_2 6 9 l qa0 na0 ca0 w (HV.callee (S0 := [_]) (vs0 := []) hh (roC (hh.rsep (S0 := [_]) (vs0 := []) 0 rfl) roN)) hna0 hqa0 hla0 h3) (fun l_1 h4 => ?_)
  obtain ⟨h5, h6, h7⟩ := h4
  refine g_sel (S' := [_]) (vs' := [_, _, _]) [0] [0, 1, 2] 0 (by decide) (by decide) rfl rfl rfl ?_
  refine g_allocV (fun w => Try.zeroValue29 w) rfl (fun b h8 => ?_)
  refine g_stSA (us := #[_, _, _, _, _]) (cs' := [_, _, _, _, _]) (S' := [_, _]) 0 (fun w => Try.sizeOf29 w) rfl rfl rfl rfl rfl rfl rfl ?_
  refine g_nil ?_
  refine g_n_then ?_
  refine g_seq ?_
  refine g_region ?_
  refine g_val rfl rfl rfl (fun _ _ => v_move rfl) ?_
  obtain ⟨t17, h9, hm⟩ := bindO hm
  refine g_callH [] [] rfl rfl rfl rfl rfl rfl rfl (fun a w => Try.call19 a w) (fun w hh => c_laurelkit_Pile tries1 qa1 na1 ca1 w (HV.callee (S0 := []) (vs0 := []) hh (roC (hh.rsep (S0 := []) (vs0 := []) 1 rfl) roN)) hna1 hqa1 hla1 h9) (fun l_2 h10 => ?_)
  refine g_sel (S' := [_, _, _]) (vs' := [_, _, _]) [0, 1, 2] [0, 1, 2] 0 (by decide) (by decide) rfl rfl rfl ?_
  refine g_val rfl rfl rfl (fun _ _ => v_assign rfl) ?_
  refine g_nil ?_
  refine g_n_then ?_
  refine g_seq ?_
  refine g_region ?_
  refine g_val rfl rfl rfl (fun w hh => v_loadAgg (vs := [_, _, _, _, _]) (Try.isAgg29 w) (Try.sizeOf29 w) rfl (hh.cells 1 rfl rfl)) ?_
  obtain ⟨t20, h11, hm⟩ := bindO hm
  refine g_callH [] [] rfl rfl rfl rfl rfl rfl rfl (fun a w => Try.call62 a w) (fun w hh => c_tide_Ask_1 t15.r0 l_1.1.q l_1.1.n l_1.1.cap l_1.2.1.q l_1.2.1.n l_1.2.1.cap l_1.2.2.q l_1.2.2.n l_1.2.2.cap w (HV.callee (S0 := []) (vs0 := []) hh (roC (hh.vsep (S0 := []) (vs0 := []) 0 rfl h5) (roC (hh.vsep (S0 := []) (vs0 := []) 1 rfl h6) (roC (hh.vsep (S0 := []) (vs0 := []) 2 rfl h7) roN)))) (vlen RW h5 rfl) (vne h5) (h5).hle (vlen RI h6 rfl) (vne h6) (h6).hle (vlen RS h7 rfl) (vne h7) (h7).hle h11) (fun l_3 h12 => ?_)
  refine g_val rfl rfl rfl (fun _ _ => v_move rfl) ?_
  refine g_val rfl rfl rfl (fun _ _ => v_extract rfl rfl) ?_
  refine g_val rfl rfl rfl (fun _ _ => v_extract rfl rfl) ?_
  refine g_val rfl rfl rfl (fun _ _ => v_extract rfl rfl) ?_
  refine g_allocV (fun w => Try.zeroValue89 w) rfl (fun b_1 h13 => ?_)
  refine g_stSA (us := #[_, _, _]) (cs' := [_, _, _]) (S' := [_, _, _, _]) 0 (fun w => Try.sizeOf89 w) rfl rfl rfl rfl rfl rfl rfl ?_
  refine g_val rfl rfl rfl (fun _ _ => v_assign rfl) ?_
  refine g_val rfl rfl rfl (fun _ _ => v_assign rfl) ?_
  refine g_nil ?_
  refine g_n_then ?_
  refine g_seq ?_
  refine g_seq ?_
  refine g_region ?_
  refine g_val rfl rfl rfl (fun w _ => v_fieldAddr 1 (Try.runUnderlying29 w) rfl (Try.sizeOf25 w) rfl) ?_
  refine g_val rfl rfl rfl (fun w _ => v_fieldAddr 0 (Try.runUnderlying25 w) rfl (Try.sizeOf3 w) rfl) ?_
  refine g_val rfl rfl rfl (fun w hh => v_load (Try.isAgg3 w) rfl (hh.cell 2 rfl rfl)) ?_
  refine g_val rfl rfl rfl (fun w _ => v_fieldAddr 1 (Try.runUnderlying29 w) rfl (Try.sizeOf25 w) rfl) ?_
  refine g_val rfl rfl rfl (fun w _ => v_fieldAddr 1 (Try.runUnderlying25 w) rfl (Try.sizeOf3 w) rfl) ?_
  refine g_val rfl rfl rfl (fun w hh => v_load (Try.isAgg3 w) rfl (hh.cell 2 rfl rfl)) ?_
  refine g_val rfl rfl rfl (fun _ _ => v_eql rfl rfl) ?_
  refine g_nil ?_
  refine g_n_then ?_
  refine g_cond rfl (fun h14 => ?_) (fun h14 => ?_)
  ·replace hm := ifT (of_decide_eq_true h14) hm
   refine g_seq ?_
   obtain ⟨o, h15, h16⟩ := bindO hm
   refine g_cut (ι := Unit) (fun l_4 => True) (fun l_4 => [(4, .bool o)]) (fun l_4 => [(b_1, .cells #[.int .i64 t20.r0.min, .int .i64 t20.r0.place, .bool t20.r0.wet] 89 (0, 0)), (l_2, .cells #[.slice qa1 na1 ca1, .int .i64 t17.t5_1, .int .u32 t17.t5_2] 138 (0, 0)), (b, .cells #[slv l_1.1.q l_1.1.n l_1.1.cap, .int .i64 t15.r0.wind.lo, .int .i64 t15.r0.wind.hi, slv l_1.2.1.q l_1.2.1.n l_1.2.1.cap, slv l_1.2.2.q l_1.2.2.n l_1.2.2.cap] 29 (0, 0)), (l, .cells #[.slice qa0 na0 ca0, .int .i64 t15.b0_1, .int .u32 t15.b0_2] 138 (0, 0))]) (fun l_4 => [⟨68, RW.enc t15.r0.table, l_1.1.sp, l_1.1.q⟩, ⟨3, RI.enc t15.r0.floors, l_1.2.1.sp, l_1.2.1.q⟩, ⟨51, RS.enc t15.r0.sills, l_1.2.2.sp, l_1.2.2.q⟩]) ?_ ?_
   ·replace hm := h15
    refine g_region ?_
    refine g_val rfl rfl rfl (fun _ _ => v_move rfl) ?_
    refine g_val rfl rfl rfl (fun _ _ => v_eql rfl rfl) ?_
    refine g_val rfl rfl rfl (fun _ _ => v_move rfl) ?_
    refine g_case 33 rfl (fun h17 => ?_) (fun h17 => ?_)
    ·replace hm := ifT (of_decide_eq_true h17) hm
     refine v_unguard rfl rfl ?_
     obtain ⟨t34, h18, hm⟩ := bindO hm
     refine g_callH [] [] rfl rfl rfl rfl rfl rfl rfl (fun a w => Try.call30 a w) (fun w hh => cx_awake  w (HV.callee (S0 := []) (vs0 := []) hh roN)  h18) (fun l_5 h19 => ?_)
     refine g_val rfl rfl rfl (fun _ _ => v_pickT rfl rfl) ?_
     refine g_val rfl rfl rfl (fun _ _ => v_assign rfl) ?_
     refine g_nil ?_
     obtain rfl := Option.some.inj hm
     exact g_leaf () (trivial) ((.cons rfl .nil)) (fun w hh => hh)
    ·replace hm := ifF (of_decide_eq_false h17) hm
     refine g_skipG rfl rfl rfl rfl rfl rfl ?_
     refine g_val rfl rfl rfl (fun _ _ => v_pickF rfl rfl) ?_
     refine g_val rfl rfl rfl (fun _ _ => v_assign rfl) ?_
     refine g_nil ?_
     obtain rfl := Option.some.inj hm
     exact g_leaf () (trivial) ((.cons rfl .nil)) (fun w hh => hh)
   ·intro l_4 hj
    replace hm := h16
    refine g_n_then ?_
    refine g_ret ?_
    refine g_r_then ?_
    obtain rfl := Option.some.inj hm
    refine g_done rfl (fun w hh => (.tmp rfl .nil)) (fun w hh => ⟨(), rfl, trivial, hh.sel [] [] 2 (by decide) (by decide) rfl rfl rfl⟩)
  ·replace hm := ifF (of_decide_eq_false h14) hm
   refine g_skip ?_
   refine g_n_then ?_
   refine g_seq ?_
   refine g_region ?_
   refine g_val rfl rfl rfl (fun _ _ => v_makeFunc (u := #[]) (u' := #[_]) rfl rfl) ?_
   refine g_val rfl rfl rfl (fun _ _ => v_assign rfl) ?_
   refine g_nil ?_
   refine g_n_then ?_
   refine g_seq ?_
   refine g_seq ?_
   obtain ⟨o_1, h20, h21⟩ := bindO hm
   refine g_cut (ι := Unit) (fun l_6 => True) (fun l_6 => [(5, ptr b 0), (6, ptr l_2 0), (7, ptr b_1 0), (8, .int .i64 t20.r1), (10, .func (.func 63) #[] #[ptr b 0]), (50, .bool o_1)]) (fun l_6 => [(b_1, .cells #[.int .i64 t20.r0.min, .int .i64 t20.r0.place, .bool t20.r0.wet] 89 (0, 0)), (l_2, .cells #[.slice qa1 na1 ca1, .int .i64 t17.t5_1, .int .u32 t17.t5_2] 138 (0, 0)), (b, .cells #[slv l_1.1.q l_1.1.n l_1.1.cap, .int .i64 t15.r0.wind.lo, .int .i64 t15.r0.wind.hi, slv l_1.2.1.q l_1.2.1.n l_1.2.1.cap, slv l_1.2.2.q l_1.2.2.n l_1.2.2.cap] 29 (0, 0)), (l, .cells #[.slice qa0 na0 ca0, .int .i64 t15.b0_1, .int .u32 t15.b0_2] 138 (0, 0))]) (fun l_6 => [⟨68, RW.enc t15.r0.table, l_1.1.sp, l_1.1.q⟩, ⟨3, RI.enc t15.r0.floors, l_1.2.1.sp, l_1.2.1.q⟩, ⟨51, RS.enc t15.r0.sills, l_1.2.2.sp, l_1.2.2.q⟩]) ?_ ?_
   ·replace hm := h20
    refine g_region ?_
    refine g_val rfl rfl rfl (fun _ _ => v_move rfl) ?_
    refine g_val rfl rfl rfl (fun _ _ => v_neq rfl rfl) ?_
    refine g_val rfl rfl rfl (fun _ _ => v_move rfl) ?_
    refine g_case 39 rfl (fun h22 => ?_) (fun h22 => ?_)
    ·replace hm := ifF (of_ndec_true h22) hm
     refine g_skipG rfl rfl rfl rfl rfl rfl ?_
     refine g_skipG rfl rfl rfl rfl rfl rfl ?_
     refine g_skipG rfl rfl rfl rfl rfl rfl ?_
     refine g_val rfl rfl rfl (fun _ _ => v_pickT rfl rfl) ?_
     refine g_val rfl rfl rfl (fun _ _ => v_move rfl) ?_
     refine g_skipG rfl rfl rfl rfl rfl rfl ?_
     refine g_skipG rfl rfl rfl rfl rfl rfl ?_
     refine g_skipG rfl rfl rfl rfl rfl rfl ?_
     refine g_skipG rfl rfl rfl rfl rfl rfl ?_
     refine g_skipG rfl rfl rfl rfl rfl rfl ?_
     refine g_val rfl rfl rfl (fun _ _ => v_pickT rfl rfl) ?_
     refine g_nil ?_
     obtain rfl := Option.some.inj hm
     exact g_leaf () (trivial) ((.cons rfl (.cons rfl (.cons rfl (.cons rfl (.cons rfl (.cons rfl .nil))))))) (fun w hh => hh)
    ·replace hm := ifT (of_ndec_false h22) hm
     refine v_unguard rfl rfl ?_
     refine g_val rfl rfl rfl (fun w _ => v_fieldAddr 2 (Try.runUnderlying89 w) rfl (Try.sizeOf4 w) rfl) ?_
     refine v_unguard rfl rfl ?_
     refine g_val rfl rfl rfl (fun w hh => v_load (Try.isAgg4 w) rfl (hh.cell 0 rfl rfl)) ?_
     refine v_unguard rfl rfl ?_
     refine g_val rfl rfl rfl (fun _ _ => v_not rfl) ?_
     refine g_val rfl rfl rfl (fun _ _ => v_pickF rfl rfl) ?_
     refine g_val rfl rfl rfl (fun _ _ => v_move rfl) ?_
     refine g_case 44 rfl (fun h23 => ?_) (fun h23 => ?_)
     ·replace hm := ifT (h23) hm
      refine g_skipG rfl rfl rfl rfl rfl rfl ?_
      refine g_skipG rfl rfl rfl rfl rfl rfl ?_
      refine g_skipG rfl rfl rfl rfl rfl rfl ?_
      refine g_skipG rfl rfl rfl rfl rfl rfl ?_
      refine g_skipG rfl rfl rfl rfl rfl rfl ?_
      refine g_val rfl rfl rfl (fun _ _ => v_pickT rfl rfl) ?_
      refine g_nil ?_
      obtain rfl := Option.some.inj hm
      exact g_leaf () (trivial) ((.cons rfl (.cons rfl (.cons rfl (.cons rfl (.cons rfl (.cons rfl .nil))))))) (fun w hh => hh)
     ·replace hm := ifF ((fun hh => Bool.noConfusion ((h23).symm.trans hh))) hm
      refine v_unguard rfl rfl ?_
      refine g_val rfl rfl rfl (fun _ _ => v_move rfl) ?_
      refine v_unguard rfl rfl ?_
      refine g_val rfl rfl rfl (fun w hh => v_loadAgg (vs := [_, _, _]) (Try.isAgg89 w) (Try.sizeOf89 w) rfl (hh.cells 0 rfl rfl)) ?_
      refine v_unguard rfl rfl ?_
      obtain ⟨t47, h24, hm⟩ := bindO hm
      refine g_sel (S' := [_, _, _, _]) (vs' := [_, _, _]) [2, 0, 1, 3] [0, 1, 2] 0 (by decide) (by decide) rfl rfl rfl ?_
      refine g_callH [_] [] rfl rfl rfl rfl rfl rfl rfl (fun a w => Try.call63 a w) (fun w hh => c_laurellaw01_TideAsked_1_1 t20.r0 t15.r0.table t15.r0.wind.lo t15.r0.wind.hi t15.r0.floors t15.r0.sills b l_1.1.q l_1.1.n l_1.1.cap l_1.2.1.q l_1.2.1.n l_1.2.1.cap l_1.2.2.q l_1.2.2.n l_1.2.2.cap w (HV.callee (S0 := [_]) (vs0 := []) hh (roC (hh.vsep (S0 := [_]) (vs0 := []) 0 rfl h5) (roC (hh.vsep (S0 := [_]) (vs0 := []) 1 rfl h6) (roC (hh.vsep (S0 := [_]) (vs0 := []) 2 rfl h7) roN)))) (vlen RW h5 rfl) (vne h5) (h5).hle (vlen RI h6 rfl) (vne h6) (h6).hle (vlen RS h7 rfl) (vne h7) (h7).hle h24) (fun l_7 h25 => ?_)
      refine g_sel (S' := [_, _, _, _]) (vs' := [_, _, _]) [0, 1, 2, 3] [0, 1, 2] 0 (by decide) (by decide) rfl rfl rfl ?_
      refine v_unguard rfl rfl ?_
      refine g_val rfl rfl rfl (fun _ _ => v_move rfl) ?_
      refine v_unguard rfl rfl ?_
      refine g_val rfl rfl rfl (fun _ _ => v_neq rfl rfl) ?_
      refine g_val rfl rfl rfl (fun _ _ => v_pickF rfl rfl) ?_
      refine g_nil ?_
      obtain rfl := Option.some.inj hm
      exact g_leaf () (trivial) ((.cons rfl (.cons rfl (.cons rfl (.cons rfl (.cons rfl (.cons rfl .nil))))))) (fun w hh => hh.sel [1, 2, 0, 3] [0, 1, 2] 0 (by decide) (by decide) rfl rfl rfl)
   ·intro l_6 hj
    replace hm := h21
    refine g_n_then ?_
    refine g_cond rfl (fun h26 => ?_) (fun h26 => ?_)
    ·replace hm := ifT (h26) hm
     refine g_seq ?_
     refine g_region ?_
     refine g_val rfl rfl rfl (fun _ _ => v_assign rfl) ?_
     refine g_nil ?_
     refine g_n_then ?_
     refine g_ret ?_
     refine g_r_then ?_
     obtain rfl := Option.some.inj hm
     refine g_done rfl (fun w hh => (.tmp rfl .nil)) (fun w hh => ⟨(), rfl, trivial, hh.sel [] [] 2 (by decide) (by decide) rfl rfl rfl⟩)
    ·replace hm := ifF ((fun hh => Bool.noConfusion ((h26).symm.trans hh))) hm
     refine g_skip ?_
     refine g_n_then ?_
     refine g_seq ?_
     refine g_seq ?_
     refine g_region ?_
     refine g_val rfl rfl rfl (fun _ _ => v_move rfl) ?_
     refine g_nil ?_
     refine g_n_then ?_
     obtain ⟨o_2, h27, h28⟩ := bindO hm
     refine g_cut (ι := m_laurellaw01_TideAsked_C2) (fun j => o_2 = .inl j) (fun j => []) (fun j => [(b_1, .cells #[.int .i64 t20.r0.min, .int .i64 t20.r0.place, .bool t20.r0.wet] 89 (0, 0)), (l_2, .cells #[.slice qa1 na1 ca1, .int .i64 j.t5_1, .int .u32 j.t5_2] 138 (0, 0)), (b, .cells #[slv l_1.1.q l_1.1.n l_1.1.cap, .int .i64 t15.r0.wind.lo, .int .i64 t15.r0.wind.hi, slv l_1.2.1.q l_1.2.1.n l_1.2.1.cap, slv l_1.2.2.q l_1.2.2.n l_1.2.2.cap] 29 (0, 0)), (l, .cells #[.slice qa0 na0 ca0, .int .i64 t15.b0_1, .int .u32 t15.b0_2] 138 (0, 0))]) (fun j => [⟨68, RW.enc t15.r0.table, l_1.1.sp, l_1.1.q⟩, ⟨3, RI.enc t15.r0.floors, l_1.2.1.sp, l_1.2.1.q⟩, ⟨51, RS.enc t15.r0.sills, l_1.2.2.sp, l_1.2.2.q⟩]) ?_ ?_
     ·replace hm := h27
      refine g_block ?_
      refine g_loopF (ι := Unit) hm (fun s l_8 => True) (fun s l_8 => [(5, ptr b 0), (6, ptr l_2 0), (7, ptr b_1 0), (8, .int .i64 t20.r1), (10, .func (.func 63) #[] #[ptr b 0]), (51, .int .i64 s.t51)]) (fun s l_8 => [(b_1, .cells #[.int .i64 t20.r0.min, .int .i64 t20.r0.place, .bool t20.r0.wet] 89 (0, 0)), (l_2, .cells #[.slice qa1 na1 ca1, .int .i64 s.t5_1, .int .u32 s.t5_2] 138 (0, 0)), (b, .cells #[slv l_1.1.q l_1.1.n l_1.1.cap, .int .i64 t15.r0.wind.lo, .int .i64 t15.r0.wind.hi, slv l_1.2.1.q l_1.2.1.n l_1.2.1.cap, slv l_1.2.2.q l_1.2.2.n l_1.2.2.cap] 29 (0, 0)), (l, .cells #[.slice qa0 na0 ca0, .int .i64 t15.b0_1, .int .u32 t15.b0_2] 138 (0, 0))]) (fun s l_8 => [⟨68, RW.enc t15.r0.table, l_1.1.sp, l_1.1.q⟩, ⟨3, RI.enc t15.r0.floors, l_1.2.1.sp, l_1.2.1.q⟩, ⟨51, RS.enc t15.r0.sills, l_1.2.2.sp, l_1.2.2.q⟩]) () (trivial) ((.cons rfl (.cons rfl (.cons rfl (.cons rfl (.cons rfl (.cons rfl .nil))))))) (fun w hh => hh) (fun s l_8 r hpl hm h29 => ?_)
      unfold m_laurellaw01_TideAsked_L0 at hm
      refine g_seq ?_
      refine g_region ?_
      refine g_val rfl rfl rfl (fun _ _ => v_lss rfl rfl) ?_
      refine g_nil ?_
      refine g_n_then ?_
      refine g_seq ?_
      refine g_cond rfl (fun h30 => ?_) (fun h30 => ?_)
      ·replace hm := ifT (of_decide_eq_true h30) hm
       refine g_skip ?_
       refine g_n_then ?_
       refine g_seq ?_
       refine g_block ?_
       refine g_seq ?_
       obtain ⟨o_3, h31, h32⟩ := bindO hm
       refine g_cut (ι := Nat) (fun l_9 => True) (fun l_9 => [(5, ptr b 0), (6, ptr l_2 0), (7, ptr b_1 0), (8, .int .i64 t20.r1), (10, .func (.func 63) #[] #[ptr b 0]), (11, ptr l_9 0), (51, .int .i64 s.t51)]) (fun l_9 => [(b_1, .cells #[.int .i64 t20.r0.min, .int .i64 t20.r0.place, .bool t20.r0.wet] 89 (0, 0)), (l_2, .cells #[.slice qa1 na1 ca1, .int .i64 o_3.t5_1, .int .u32 o_3.t5_2] 138 (0, 0)), (b, .cells #[slv l_1.1.q l_1.1.n l_1.1.cap, .int .i64 t15.r0.wind.lo, .int .i64 t15.r0.wind.hi, slv l_1.2.1.q l_1.2.1.n l_1.2.1.cap, slv l_1.2.2.q l_1.2.2.n l_1.2.2.cap] 29 (0, 0)), (l, .cells #[.slice qa0 na0 ca0, .int .i64 t15.b0_1, .int .u32 t15.b0_2] 138 (0, 0)), (l_9, .cells #[.int .i64 o_3.l11.min, .int .i64 o_3.l11.place, .bool o_3.l11.wet] 89 (0, 0))]) (fun l_9 => [⟨68, RW.enc t15.r0.table, l_1.1.sp, l_1.1.q⟩, ⟨3, RI.enc t15.r0.floors, l_1.2.1.sp, l_1.2.1.q⟩, ⟨51, RS.enc t15.r0.sills, l_1.2.2.sp, l_1.2.2.q⟩]) ?_ ?_
       ·replace hm := h31
        obtain ⟨t63, h33, hm⟩ := bindO hm
        obtain ⟨t55, h34, hm⟩ := bindO hm
        obtain ⟨t57, h35, hm⟩ := bindO hm
        obtain ⟨t58, h36, hm⟩ := bindO hm
        obtain ⟨t64, h37, hm⟩ := bindO hm
        refine g_draw none (.free 0 (.hoist 1 (.hoist 3 (.free 6 (.free 7 (.hoist 8 (.free 9 (.free 10 (.br (.alt 2 (.br (.alt 4 (.br (.alt 5 (.br (.alt 11 (.free 12 (.one 13 (.one 14 .done))) (.alt 13 (.one 11 (.free 12 (.one 14 .done))) .nil))) (.alt 13 (.one 5 (.one 11 (.free 12 (.one 14 .done)))) .nil))) (.alt 13 (.one 4 (.one 5 (.one 11 (.free 12 (.one 14 .done))))) .nil))) (.alt 13 (.one 2 (.one 4 (.one 5 (.one 11 (.free 12 (.one 14 .done)))))) .nil))))))))))) (HV _ _ [(b_1, .cells #[.int .i64 t20.r0.min, .int .i64 t20.r0.place, .bool t20.r0.wet] 89 (0, 0)), (b, .cells #[slv l_1.1.q l_1.1.n l_1.1.cap, .int .i64 t15.r0.wind.lo, .int .i64 t15.r0.wind.hi, slv l_1.2.1.q l_1.2.1.n l_1.2.1.cap, slv l_1.2.2.q l_1.2.2.n l_1.2.2.cap] 29 (0, 0)), (l, .cells #[.slice qa0 na0 ca0, .int .i64 t15.b0_1, .int .u32 t15.b0_2] 138 (0, 0))] [⟨68, RW.enc t15.r0.table, l_1.1.sp, l_1.1.q⟩, ⟨3, RI.enc t15.r0.floors, l_1.2.1.sp, l_1.2.1.q⟩, ⟨51, RS.enc t15.r0.sills, l_1.2.2.sp, l_1.2.2.q⟩] _) rfl (by decide +kernel) (fun w k hh => hh.draw k) (fun w hh => hh.sel [0, 2, 3] [0, 1, 2] 0 (by decide) (by decide) rfl rfl rfl) ?_
        refine p_free rfl rfl rfl rfl (fun _ _ => v_move rfl) ?_
        refine p_hoist rfl rfl rfl rfl (fun w hh => v_loadAgg (vs := [_, _, _, _, _]) (Try.isAgg29 w) (Try.sizeOf29 w) rfl (hh.cells 1 rfl rfl)) ?_
        refine p_hoist rfl rfl rfl rfl (fun w hh => v_loadAgg (vs := [_, _, _, _, _]) (Try.isAgg29 w) (Try.sizeOf29 w) rfl (hh.cells 1 rfl rfl)) ?_
        refine p_free rfl rfl rfl rfl (fun _ _ => v_move rfl) ?_
        refine p_free rfl rfl rfl rfl (fun w _ => v_fieldAddr 3 (Try.runUnderlying29 w) rfl (Try.sizeOf26 w) rfl) ?_
        refine p_hoist rfl rfl rfl rfl (fun w hh => v_load (Try.isAgg26 w) rfl (hh.cell 1 rfl rfl)) ?_
        refine p_free rfl rfl rfl rfl (fun w _ => v_lenN (vlen RI h6 rfl) (Try.runUnderlying26 w) rfl) ?_
        refine p_free rfl rfl rfl rfl (fun _ _ => v_subc h33 rfl rfl) ?_
        refine p_br ?_
        refine p_alt rfl ?_ ?_
        ·refine g_callH [] [] rfl rfl rfl rfl rfl rfl rfl (fun a w => Try.call26 a w) (fun w hh => c_laurellaw01_first t15.r0 (qA l_1.1.q) l_1.1.n l_1.1.cap (qA l_1.2.1.q) l_1.2.1.n l_1.2.1.cap (qA l_1.2.2.q) l_1.2.2.n l_1.2.2.cap w (HV.callee (S0 := []) (vs0 := []) hh (roC (hh.vsepA (S0 := []) (vs0 := []) 0 rfl h5) (roC (hh.vsepA (S0 := []) (vs0 := []) 1 rfl h6) (roC (hh.vsepA (S0 := []) (vs0 := []) 2 rfl h7) roN)))) (vlen RW h5 rfl) (AOK.q (vne h5)) (h5).hle (vlen RI h6 rfl) (AOK.q (vne h6)) (h6).hle (vlen RS h7 rfl) (AOK.q (vne h7)) (h7).hle h34) (fun l_10 h38 => ?_)
         refine p_next (fun w hh => hh.sel [0, 2, 3] [0, 1, 2] 0 (by decide) (by decide) rfl rfl rfl) ?_
         refine p_br ?_
         refine p_alt rfl ?_ ?_
         ·refine g_callH [] [] rfl rfl rfl rfl rfl rfl rfl (fun a w => Try.call27 a w) (fun w hh => c_laurellaw01_last t15.r0 (qA l_1.1.q) l_1.1.n l_1.1.cap (qA l_1.2.1.q) l_1.2.1.n l_1.2.1.cap (qA l_1.2.2.q) l_1.2.2.n l_1.2.2.cap w (HV.callee (S0 := []) (vs0 := []) hh (roC (hh.vsepA (S0 := []) (vs0 := []) 0 rfl h5) (roC (hh.vsepA (S0 := []) (vs0 := []) 1 rfl h6) (roC (hh.vsepA (S0 := []) (vs0 := []) 2 rfl h7) roN)))) (vlen RW h5 rfl) (AOK.q (vne h5)) (h5).hle (vlen RI h6 rfl) (AOK.q (vne h6)) (h6).hle (vlen RS h7 rfl) (AOK.q (vne h7)) (h7).hle h35) (fun l_11 h39 => ?_)
          refine p_next (fun w hh => hh.sel [0, 2, 3] [0, 1, 2] 0 (by decide) (by decide) rfl rfl rfl) ?_
          refine p_br ?_
          refine p_alt rfl ?_ ?_
          ·refine g_sel (S' := [_, _, _, _]) (vs' := [_, _, _]) [1, 0, 2, 3] [0, 1, 2] 0 (by decide) (by decide) rfl rfl rfl ?_
           refine g_callH [_] [] rfl rfl rfl rfl rfl rfl rfl (fun a w => Try.call20 a w) (fun w hh => c_laurelkit_Heap_From tries1 s.t5_1 s.t5_2 t55 t57 l_2 qa1 na1 ca1 w (HV.callee (S0 := [_]) (vs0 := []) hh (roC (hh.rsep (S0 := [_]) (vs0 := []) 1 rfl) roN)) hna1 hqa1 hla1 h36) (fun l_12 h40 => ?_)
           refine g_sel (S' := [_, _, _, _]) (vs' := [_, _, _]) [0, 1, 2, 3] [0, 1, 2] 0 (by decide) (by decide) rfl rfl rfl ?_
           refine p_next (fun w hh => hh.sel [1, 2, 3] [0, 1, 2] 0 (by decide) (by decide) rfl rfl rfl) ?_
           refine p_br ?_
           refine p_alt rfl ?_ ?_
           ·refine g_callH [_] [] rfl rfl rfl rfl rfl rfl rfl (fun a w => Try.call64 a w) (fun w hh => c_laurelkit_Heap_Upto tries1 t58.h0_1 t58.h0_2 t63 l_2 qa1 na1 ca1 w (HV.callee (S0 := [_]) (vs0 := []) hh (roC (hh.rsep (S0 := [_]) (vs0 := []) 1 rfl) roN)) hna1 hqa1 hla1 h37) (fun l_13 h41 => ?_)
            refine g_sel (S' := [_, _, _, _]) (vs' := [_, _, _]) [0, 1, 2, 3] [0, 1, 2] 0 (by decide) (by decide) rfl rfl rfl ?_
            refine p_next (fun w hh => hh.sel [1, 2, 3] [0, 1, 2] 0 (by decide) (by decide) rfl rfl rfl) ?_
            refine p_free rfl rfl rfl rfl (fun _ _ => v_build (vs := [(0, _), (1, _), (2, _)]) (cells := [_, _, _]) rfl rfl) ?_
            refine p_one rfl ?_
            refine g_allocV (fun w => Try.zeroValue89 w) rfl (fun b_2 h42 => ?_)
            refine p_next (fun w hh => hh.sel [2, 3, 4] [0, 1, 2] 0 (by decide) (by decide) rfl rfl rfl) ?_
            refine p_one rfl ?_
            refine g_stSA (us := #[_, _, _]) (cs' := [_, _, _]) (S' := [_, _, _, _, _]) 0 (fun w => Try.sizeOf89 w) rfl rfl rfl rfl rfl rfl rfl ?_
            refine p_next (fun w hh => hh.sel [2, 3, 4] [0, 1, 2] 0 (by decide) (by decide) rfl rfl rfl) ?_
            refine p_done ?_
            obtain rfl := Option.some.inj hm
            exact g_leaf b_2 (trivial) ((.cons rfl (.cons rfl (.cons rfl (.cons rfl (.cons rfl (.cons rfl (.cons rfl .nil)))))))) (fun w hh => hh.sel [2, 1, 3, 4, 0] [0, 1, 2] 0 (by decide) (by decide) rfl rfl rfl)
           refine p_alt rfl ?_ ?_
           ·refine g_allocV (fun w => Try.zeroValue89 w) rfl (fun b_3 h43 => ?_)
            refine p_next (fun w hh => hh.sel [2, 3, 4] [0, 1, 2] 0 (by decide) (by decide) rfl rfl rfl) ?_
            refine p_one rfl ?_
            refine g_sel (S' := [_, _, _, _, _]) (vs' := [_, _, _]) [1, 0, 2, 3, 4] [0, 1, 2] 0 (by decide) (by decide) rfl rfl rfl ?_
            refine g_callH [_] [] rfl rfl rfl rfl rfl rfl rfl (fun a w => Try.call64 a w) (fun w hh => c_laurelkit_Heap_Upto tries1 t58.h0_1 t58.h0_2 t63 l_2 qa1 na1 ca1 w (HV.callee (S0 := [_]) (vs0 := []) hh (roC (hh.rsep (S0 := [_]) (vs0 := []) 1 rfl) roN)) hna1 hqa1 hla1 h37) (fun l_14 h44 => ?_)
            refine g_sel (S' := [_, _, _, _, _]) (vs' := [_, _, _]) [0, 1, 2, 3, 4] [0, 1, 2] 0 (by decide) (by decide) rfl rfl rfl ?_
            refine p_next (fun w hh => hh.sel [2, 3, 4] [0, 1, 2] 0 (by decide) (by decide) rfl rfl rfl) ?_
            refine p_free rfl rfl rfl rfl (fun _ _ => v_build (vs := [(0, _), (1, _), (2, _)]) (cells := [_, _, _]) rfl rfl) ?_
            refine p_one rfl ?_
            refine g_stSA (us := #[_, _, _]) (cs' := [_, _, _]) (S' := [_, _, _, _, _]) 1 (fun w => Try.sizeOf89 w) rfl rfl rfl rfl rfl rfl rfl ?_
            refine p_next (fun w hh => hh.sel [2, 3, 4] [0, 1, 2] 0 (by decide) (by decide) rfl rfl rfl) ?_
            refine p_done ?_
            obtain rfl := Option.some.inj hm
            exact g_leaf b_3 (trivial) ((.cons rfl (.cons rfl (.cons rfl (.cons rfl (.cons rfl (.cons rfl (.cons rfl .nil)))))))) (fun w hh => hh.sel [2, 0, 3, 4, 1] [0, 1, 2] 0 (by decide) (by decide) rfl rfl rfl)
           exact p_nil
          refine p_alt rfl ?_ ?_
          ·refine g_allocV (fun w => Try.zeroValue89 w) rfl (fun b_4 h45 => ?_)
           refine p_next (fun w hh => hh.sel [1, 3, 4] [0, 1, 2] 0 (by decide) (by decide) rfl rfl rfl) ?_
           refine p_one rfl ?_
           refine g_sel (S' := [_, _, _, _, _]) (vs' := [_, _, _]) [2, 0, 1, 3, 4] [0, 1, 2] 0 (by decide) (by decide) rfl rfl rfl ?_
           refine g_callH [_] [] rfl rfl rfl rfl rfl rfl rfl (fun a w => Try.call20 a w) (fun w hh => c_laurelkit_Heap_From tries1 s.t5_1 s.t5_2 t55 t57 l_2 qa1 na1 ca1 w (HV.callee (S0 := [_]) (vs0 := []) hh (roC (hh.rsep (S0 := [_]) (vs0 := []) 1 rfl) roN)) hna1 hqa1 hla1 h36) (fun l_15 h46 => ?_)
           refine g_sel (S' := [_, _, _, _, _]) (vs' := [_, _, _]) [0, 1, 2, 3, 4] [0, 1, 2] 0 (by decide) (by decide) rfl rfl rfl ?_
           refine p_next (fun w hh => hh.sel [2, 3, 4] [0, 1, 2] 0 (by decide) (by decide) rfl rfl rfl) ?_
           refine p_one rfl ?_
           refine g_callH [_] [] rfl rfl rfl rfl rfl rfl rfl (fun a w => Try.call64 a w) (fun w hh => c_laurelkit_Heap_Upto tries1 t58.h0_1 t58.h0_2 t63 l_2 qa1 na1 ca1 w (HV.callee (S0 := [_]) (vs0 := []) hh (roC (hh.rsep (S0 := [_]) (vs0 := []) 1 rfl) roN)) hna1 hqa1 hla1 h37) (fun l_16 h47 => ?_)
           refine g_sel (S' := [_, _, _, _, _]) (vs' := [_, _, _]) [0, 1, 2, 3, 4] [0, 1, 2] 0 (by decide) (by decide) rfl rfl rfl ?_
           refine p_next (fun w hh => hh.sel [2, 3, 4] [0, 1, 2] 0 (by decide) (by decide) rfl rfl rfl) ?_
           refine p_free rfl rfl rfl rfl (fun _ _ => v_build (vs := [(0, _), (1, _), (2, _)]) (cells := [_, _, _]) rfl rfl) ?_
           refine p_one rfl ?_
           refine g_stSA (us := #[_, _, _]) (cs' := [_, _, _]) (S' := [_, _, _, _, _]) 1 (fun w => Try.sizeOf89 w) rfl rfl rfl rfl rfl rfl rfl ?_
           refine p_next (fun w hh => hh.sel [2, 3, 4] [0, 1, 2] 0 (by decide) (by decide) rfl rfl rfl) ?_
           refine p_done ?_
           obtain rfl := Option.some.inj hm
           exact g_leaf b_4 (trivial) ((.cons rfl (.cons rfl (.cons rfl (.cons rfl (.cons rfl (.cons rfl (.cons rfl .nil)))))))) (fun w hh => hh.sel [2, 0, 3, 4, 1] [0, 1, 2] 0 (by decide) (by decide) rfl rfl rfl)
          exact p_nil
         refine p_alt rfl ?_ ?_
         ·refine g_allocV (fun w => Try.zeroValue89 w) rfl (fun b_5 h48 => ?_)
          refine p_next (fun w hh => hh.sel [1, 3, 4] [0, 1, 2] 0 (by decide) (by decide) rfl rfl rfl) ?_
          refine p_one rfl ?_
          refine g_callH [] [] rfl rfl rfl rfl rfl rfl rfl (fun a w => Try.call27 a w) (fun w hh => c_laurellaw01_last t15.r0 (qA l_1.1.q) l_1.1.n l_1.1.cap (qA l_1.2.1.q) l_1.2.1.n l_1.2.1.cap (qA l_1.2.2.q) l_1.2.2.n l_1.2.2.cap w (HV.callee (S0 := []) (vs0 := []) hh (roC (hh.vsepA (S0 := []) (vs0 := []) 0 rfl h5) (roC (hh.vsepA (S0 := []) (vs0 := []) 1 rfl h6) (roC (hh.vsepA (S0 := []) (vs0 := []) 2 rfl h7) roN)))) (vlen RW h5 rfl) (AOK.q (vne h5)) (h5).hle (vlen RI h6 rfl) (AOK.q (vne h6)) (h6).hle (vlen RS h7 rfl) (AOK.q (vne h7)) (h7).hle h35) (fun l_17 h49 => ?_)
          refine p_next (fun w hh => hh.sel [1, 3, 4] [0, 1, 2] 0 (by decide) (by decide) rfl rfl rfl) ?_
          refine p_one rfl ?_
          refine g_sel (S' := [_, _, _, _, _]) (vs' := [_, _, _]) [2, 0, 1, 3, 4] [0, 1, 2] 0 (by decide) (by decide) rfl rfl rfl ?_
          refine g_callH [_] [] rfl rfl rfl rfl rfl rfl rfl (fun a w => Try.call20 a w) (fun w hh => c_laurelkit_Heap_From tries1 s.t5_1 s.t5_2 t55 t57 l_2 qa1 na1 ca1 w (HV.callee (S0 := [_]) (vs0 := []) hh (roC (hh.rsep (S0 := [_]) (vs0 := []) 1 rfl) roN)) hna1 hqa1 hla1 h36) (fun l_18 h50 => ?_)
          refine g_sel (S' := [_, _, _, _, _]) (vs' := [_, _, _]) [0, 1, 2, 3, 4] [0, 1, 2] 0 (by decide) (by decide) rfl rfl rfl ?_
          refine p_next (fun w hh => hh.sel [2, 3, 4] [0, 1, 2] 0 (by decide) (by decide) rfl rfl rfl) ?_
          refine p_one rfl ?_
          refine g_callH [_] [] rfl rfl rfl rfl rfl rfl rfl (fun a w => Try.call64 a w) (fun w hh => c_laurelkit_Heap_Upto tries1 t58.h0_1 t58.h0_2 t63 l_2 qa1 na1 ca1 w (HV.callee (S0 := [_]) (vs0 := []) hh (roC (hh.rsep (S0 := [_]) (vs0 := []) 1 rfl) roN)) hna1 hqa1 hla1 h37) (fun l_19 h51 => ?_)
          refine g_sel (S' := [_, _, _, _, _]) (vs' := [_, _, _]) [0, 1, 2, 3, 4] [0, 1, 2] 0 (by decide) (by decide) rfl rfl rfl ?_
          refine p_next (fun w hh => hh.sel [2, 3, 4] [0, 1, 2] 0 (by decide) (by decide) rfl rfl rfl) ?_
          refine p_free rfl rfl rfl rfl (fun _ _ => v_build (vs := [(0, _), (1, _), (2, _)]) (cells := [_, _, _]) rfl rfl) ?_
          refine p_one rfl ?_
          refine g_stSA (us := #[_, _, _]) (cs' := [_, _, _]) (S' := [_, _, _, _, _]) 1 (fun w => Try.sizeOf89 w) rfl rfl rfl rfl rfl rfl rfl ?_
          refine p_next (fun w hh => hh.sel [2, 3, 4] [0, 1, 2] 0 (by decide) (by decide) rfl rfl rfl) ?_
          refine p_done ?_
          obtain rfl := Option.some.inj hm
          exact g_leaf b_5 (trivial) ((.cons rfl (.cons rfl (.cons rfl (.cons rfl (.cons rfl (.cons rfl (.cons rfl .nil)))))))) (fun w hh => hh.sel [2, 0, 3, 4, 1] [0, 1, 2] 0 (by decide) (by decide) rfl rfl rfl)
         exact p_nil
        refine p_alt rfl ?_ ?_
        ·refine g_allocV (fun w => Try.zeroValue89 w) rfl (fun b_6 h52 => ?_)
         refine p_next (fun w hh => hh.sel [1, 3, 4] [0, 1, 2] 0 (by decide) (by decide) rfl rfl rfl) ?_
         refine p_one rfl ?_
         refine g_callH [] [] rfl rfl rfl rfl rfl rfl rfl (fun a w => Try.call26 a w) (fun w hh => c_laurellaw01_first t15.r0 (qA l_1.1.q) l_1.1.n l_1.1.cap (qA l_1.2.1.q) l_1.2.1.n l_1.2.1.cap (qA l_1.2.2.q) l_1.2.2.n l_1.2.2.cap w (HV.callee (S0 := []) (vs0 := []) hh (roC (hh.vsepA (S0 := []) (vs0 := []) 0 rfl h5) (roC (hh.vsepA (S0 := []) (vs0 := []) 1 rfl h6) (roC (hh.vsepA (S0 := []) (vs0 := []) 2 rfl h7) roN)))) (vlen RW h5 rfl) (AOK.q (vne h5)) (h5).hle (vlen RI h6 rfl) (AOK.q (vne h6)) (h6).hle (vlen RS h7 rfl) (AOK.q (vne h7)) (h7).hle h34) (fun l_20 h53 => ?_)
         refine p_next (fun w hh => hh.sel [1, 3, 4] [0, 1, 2] 0 (by decide) (by decide) rfl rfl rfl) ?_
         refine p_one rfl ?_
         refine g_callH [] [] rfl rfl rfl rfl rfl rfl rfl (fun a w => Try.call27 a w) (fun w hh => c_laurellaw01_last t15.r0 (qA l_1.1.q) l_1.1.n l_1.1.cap (qA l_1.2.1.q) l_1.2.1.n l_1.2.1.cap (qA l_1.2.2.q) l_1.2.2.n l_1.2.2.cap w (HV.callee (S0 := []) (vs0 := []) hh (roC (hh.vsepA (S0 := []) (vs0 := []) 0 rfl h5) (roC (hh.vsepA (S0 := []) (vs0 := []) 1 rfl h6) (roC (hh.vsepA (S0 := []) (vs0 := []) 2 rfl h7) roN)))) (vlen RW h5 rfl) (AOK.q (vne h5)) (h5).hle (vlen RI h6 rfl) (AOK.q (vne h6)) (h6).hle (vlen RS h7 rfl) (AOK.q (vne h7)) (h7).hle h35) (fun l_21 h54 => ?_)
         refine p_next (fun w hh => hh.sel [1, 3, 4] [0, 1, 2] 0 (by decide) (by decide) rfl rfl rfl) ?_
         refine p_one rfl ?_
         refine g_sel (S' := [_, _, _, _, _]) (vs' := [_, _, _]) [2, 0, 1, 3, 4] [0, 1, 2] 0 (by decide) (by decide) rfl rfl rfl ?_
         refine g_callH [_] [] rfl rfl rfl rfl rfl rfl rfl (fun a w => Try.call20 a w) (fun w hh => c_laurelkit_Heap_From tries1 s.t5_1 s.t5_2 t55 t57 l_2 qa1 na1 ca1 w (HV.callee (S0 := [_]) (vs0 := []) hh (roC (hh.rsep (S0 := [_]) (vs0 := []) 1 rfl) roN)) hna1 hqa1 hla1 h36) (fun l_22 h55 => ?_)
         refine g_sel (S' := [_, _, _, _, _]) (vs' := [_, _, _]) [0, 1, 2, 3, 4] [0, 1, 2] 0 (by decide) (by decide) rfl rfl rfl ?_
         refine p_next (fun w hh => hh.sel [2, 3, 4] [0, 1, 2] 0 (by decide) (by decide) rfl rfl rfl) ?_
         refine p_one rfl ?_
         refine g_callH [_] [] rfl rfl rfl rfl rfl rfl rfl (fun a w => Try.call64 a w) (fun w hh => c_laurelkit_Heap_Upto tries1 t58.h0_1 t58.h0_2 t63 l_2 qa1 na1 ca1 w (HV.callee (S0 := [_]) (vs0 := []) hh (roC (hh.rsep (S0 := [_]) (vs0 := []) 1 rfl) roN)) hna1 hqa1 hla1 h37) (fun l_23 h56 => ?_)
         refine g_sel (S' := [_, _, _, _, _]) (vs' := [_, _, _]) [0, 1, 2, 3, 4] [0, 1, 2] 0 (by decide) (by decide) rfl rfl rfl ?_
         refine p_next (fun w hh => hh.sel [2, 3, 4] [0, 1, 2] 0 (by decide) (by decide) rfl rfl rfl) ?_
         refine p_free rfl rfl rfl rfl (fun _ _ => v_build (vs := [(0, _), (1, _), (2, _)]) (cells := [_, _, _]) rfl rfl) ?_
         refine p_one rfl ?_
         refine g_stSA (us := #[_, _, _]) (cs' := [_, _, _]) (S' := [_, _, _, _, _]) 1 (fun w => Try.sizeOf89 w) rfl rfl rfl rfl rfl rfl rfl ?_
         refine p_next (fun w hh => hh.sel [2, 3, 4] [0, 1, 2] 0 (by decide) (by decide) rfl rfl rfl) ?_
         refine p_done ?_
         obtain rfl := Option.some.inj hm
         exact g_leaf b_6 (trivial) ((.cons rfl (.cons rfl (.cons rfl (.cons rfl (.cons rfl (.cons rfl (.cons rfl .nil)))))))) (fun w hh => hh.sel [2, 0, 3, 4, 1] [0, 1, 2] 0 (by decide) (by decide) rfl rfl rfl)
        exact p_nil
       ·intro l_9 hj
        replace hm := h32
        refine g_n_then ?_
        refine g_seq ?_
        refine g_region ?_
        refine g_val rfl rfl rfl (fun _ _ => v_move rfl) ?_
        refine g_val rfl rfl rfl (fun w hh => v_loadAgg (vs := [_, _, _]) (Try.isAgg89 w) (Try.sizeOf89 w) rfl (hh.cells 4 rfl rfl)) ?_
        obtain ⟨t68, h57, hm⟩ := bindO hm
        refine g_sel (S' := [_, _, _, _, _]) (vs' := [_, _, _]) [2, 0, 1, 3, 4] [0, 1, 2] 0 (by decide) (by decide) rfl rfl rfl ?_
        refine g_callH [_] [] rfl rfl rfl rfl rfl rfl rfl (fun a w => Try.call63 a w) (fun w hh => c_laurellaw01_TideAsked_1_1 o_3.l11 t15.r0.table t15.r0.wind.lo t15.r0.wind.hi t15.r0.floors t15.r0.sills b l_1.1.q l_1.1.n l_1.1.cap l_1.2.1.q l_1.2.1.n l_1.2.1.cap l_1.2.2.q l_1.2.2.n l_1.2.2.cap w (HV.callee (S0 := [_]) (vs0 := []) hh (roC (hh.vsep (S0 := [_]) (vs0 := []) 0 rfl h5) (roC (hh.vsep (S0 := [_]) (vs0 := []) 1 rfl h6) (roC (hh.vsep (S0 := [_]) (vs0 := []) 2 rfl h7) roN)))) (vlen RW h5 rfl) (vne h5) (h5).hle (vlen RI h6 rfl) (vne h6) (h6).hle (vlen RS h7 rfl) (vne h7) (h7).hle h57) (fun l_24 h58 => ?_)
        refine g_sel (S' := [_, _, _, _, _]) (vs' := [_, _, _]) [0, 1, 2, 3, 4] [0, 1, 2] 0 (by decide) (by decide) rfl rfl rfl ?_
        refine g_val rfl rfl rfl (fun _ _ => v_assign rfl) ?_
        refine g_nil ?_
        refine g_n_then ?_
        refine g_seq ?_
        obtain ⟨o_4, h59, h60⟩ := bindO hm
        refine g_cut (ι := Unit) (fun l_25 => True) (fun l_25 => [(5, ptr b 0), (6, ptr l_2 0), (7, ptr b_1 0), (8, .int .i64 t20.r1), (10, .func (.func 63) #[] #[ptr b 0]), (51, .int .i64 s.t51), (97, .bool o_4)]) (fun l_25 => [(b, .cells #[slv l_1.1.q l_1.1.n l_1.1.cap, .int .i64 t15.r0.wind.lo, .int .i64 t15.r0.wind.hi, slv l_1.2.1.q l_1.2.1.n l_1.2.1.cap, slv l_1.2.2.q l_1.2.2.n l_1.2.2.cap] 29 (0, 0)), (b_1, .cells #[.int .i64 t20.r0.min, .int .i64 t20.r0.place, .bool t20.r0.wet] 89 (0, 0)), (l_2, .cells #[.slice qa1 na1 ca1, .int .i64 o_3.t5_1, .int .u32 o_3.t5_2] 138 (0, 0)), (l, .cells #[.slice qa0 na0 ca0, .int .i64 t15.b0_1, .int .u32 t15.b0_2] 138 (0, 0)), (l_9, .cells #[.int .i64 o_3.l11.min, .int .i64 o_3.l11.place, .bool o_3.l11.wet] 89 (0, 0))]) (fun l_25 => [⟨68, RW.enc t15.r0.table, l_1.1.sp, l_1.1.q⟩, ⟨3, RI.enc t15.r0.floors, l_1.2.1.sp, l_1.2.1.q⟩, ⟨51, RS.enc t15.r0.sills, l_1.2.2.sp, l_1.2.2.q⟩]) ?_ ?_
        ·replace hm := h59
         refine g_region ?_
         refine g_val rfl rfl rfl (fun _ _ => v_move rfl) ?_
         refine g_val rfl rfl rfl (fun _ _ => v_move rfl) ?_
         refine g_val rfl rfl rfl (fun _ _ => v_lss rfl rfl) ?_
         refine g_val rfl rfl rfl (fun _ _ => v_move rfl) ?_
         refine g_case 72 rfl (fun h61 => ?_) (fun h61 => ?_)
         ·replace hm := ifT (of_decide_eq_true h61) hm
          refine g_skipG rfl rfl rfl rfl rfl rfl ?_
          refine g_skipG rfl rfl rfl rfl rfl rfl ?_
          refine g_skipG rfl rfl rfl rfl rfl rfl ?_
          refine g_skipG rfl rfl rfl rfl rfl rfl ?_
          refine g_skipU' rfl rfl rfl rfl rfl ?_
          refine g_skipU' rfl rfl rfl rfl rfl ?_
          refine g_skipU' rfl rfl rfl rfl rfl ?_
          refine g_skipU' rfl rfl rfl rfl rfl ?_
          refine g_skipU' rfl rfl rfl rfl rfl ?_
          refine g_skipU' rfl rfl rfl rfl rfl ?_
          refine g_skipU' rfl rfl rfl rfl rfl ?_
          refine g_skipU' rfl rfl rfl rfl rfl ?_
          refine g_skipU' rfl rfl rfl rfl rfl ?_
          refine g_skipU' rfl rfl rfl rfl rfl ?_
          refine g_skipU' rfl rfl rfl rfl rfl ?_
          refine g_skipU' rfl rfl rfl rfl rfl ?_
          refine g_skipU' rfl rfl rfl rfl rfl ?_
          refine g_skipU' rfl rfl rfl rfl rfl ?_
          refine g_skipU' rfl rfl rfl rfl rfl ?_
          refine g_skipU' rfl rfl rfl rfl rfl ?_
          refine g_skipU' rfl rfl rfl rfl rfl ?_
          refine g_skipU' rfl rfl rfl rfl rfl ?_
          refine g_skipU' rfl rfl rfl rfl rfl ?_
          refine g_skipG rfl rfl rfl rfl rfl rfl ?_
          refine g_val rfl rfl rfl (fun _ _ => v_pickT rfl rfl) ?_
          refine g_nil ?_
          obtain rfl := Option.some.inj hm
          exact g_leaf () (trivial) ((.cons rfl (.cons rfl (.cons rfl (.cons rfl (.cons rfl (.cons rfl (.cons rfl .nil)))))))) (fun w hh => hh)
         ·replace hm := ifF (of_decide_eq_false h61) hm
          refine v_unguard rfl rfl ?_
          refine g_val rfl rfl rfl (fun _ _ => v_move rfl) ?_
          refine v_unguard rfl rfl ?_
          refine g_val rfl rfl rfl (fun _ _ => v_move rfl) ?_
          refine v_unguard rfl rfl ?_
          refine g_val rfl rfl rfl (fun _ _ => v_eql rfl rfl) ?_
          refine v_unguard rfl rfl ?_
          refine g_val rfl rfl rfl (fun _ _ => v_move rfl) ?_
          refine g_case 76 rfl (fun h62 => ?_) (fun h62 => ?_)
          ·replace hm := ifT (of_decide_eq_true h62) hm
           refine v_unguard rfl rfl ?_
           refine g_val rfl rfl rfl (fun w _ => v_fieldAddr 0 (Try.runUnderlying89 w) rfl (Try.sizeOf3 w) rfl) ?_
           refine v_unguard rfl rfl ?_
           refine g_val rfl rfl rfl (fun w hh => v_load (Try.isAgg3 w) rfl (hh.cell 4 rfl rfl)) ?_
           refine v_unguard rfl rfl ?_
           refine g_val rfl rfl rfl (fun w _ => v_fieldAddr 0 (Try.runUnderlying89 w) rfl (Try.sizeOf3 w) rfl) ?_
           refine v_unguard rfl rfl ?_
           refine g_val rfl rfl rfl (fun w hh => v_load (Try.isAgg3 w) rfl (hh.cell 1 rfl rfl)) ?_
           refine v_unguard rfl rfl ?_
           refine g_val rfl rfl rfl (fun _ _ => v_lss rfl rfl) ?_
           refine v_unguard rfl rfl ?_
           refine g_val rfl rfl rfl (fun _ _ => v_move rfl) ?_
           refine g_case 82 rfl (fun h63 => ?_) (fun h63 => ?_)
           ·replace hm := ifT (of_decide_eq_true h63) hm
            refine g_skipG rfl rfl rfl rfl rfl rfl ?_
            refine g_skipG rfl rfl rfl rfl rfl rfl ?_
            refine g_skipG rfl rfl rfl rfl rfl rfl ?_
            refine g_skipG rfl rfl rfl rfl rfl rfl ?_
            refine g_skipG rfl rfl rfl rfl rfl rfl ?_
            refine g_skipG rfl rfl rfl rfl rfl rfl ?_
            refine g_skipU' rfl rfl rfl rfl rfl ?_
            refine g_skipU' rfl rfl rfl rfl rfl ?_
            refine g_skipU' rfl rfl rfl rfl rfl ?_
            refine g_skipU' rfl rfl rfl rfl rfl ?_
            refine g_skipU' rfl rfl rfl rfl rfl ?_
            refine g_skipG rfl rfl rfl rfl rfl rfl ?_
            refine v_unguard rfl rfl ?_
            refine g_val rfl rfl rfl (fun _ _ => v_pickT rfl rfl) ?_
            refine v_unguard rfl rfl ?_
            refine g_val rfl rfl rfl (fun _ _ => v_pickT rfl rfl) ?_
            refine g_val rfl rfl rfl (fun _ _ => v_pickF rfl rfl) ?_
            refine g_nil ?_
            obtain rfl := Option.some.inj hm
            exact g_leaf () (trivial) ((.cons rfl (.cons rfl (.cons rfl (.cons rfl (.cons rfl (.cons rfl (.cons rfl .nil)))))))) (fun w hh => hh)
           ·replace hm := ifF (of_decide_eq_false h63) hm
            refine v_unguard rfl rfl ?_
            refine g_val rfl rfl rfl (fun w _ => v_fieldAddr 0 (Try.runUnderlying89 w) rfl (Try.sizeOf3 w) rfl) ?_
            refine v_unguard rfl rfl ?_
            refine g_val rfl rfl rfl (fun w hh => v_load (Try.isAgg3 w) rfl (hh.cell 4 rfl rfl)) ?_
            refine v_unguard rfl rfl ?_
            refine g_val rfl rfl rfl (fun w _ => v_fieldAddr 0 (Try.runUnderlying89 w) rfl (Try.sizeOf3 w) rfl) ?_
            refine v_unguard rfl rfl ?_
            refine g_val rfl rfl rfl (fun w hh => v_load (Try.isAgg3 w) rfl (hh.cell 1 rfl rfl)) ?_
            refine v_unguard rfl rfl ?_
            refine g_val rfl rfl rfl (fun _ _ => v_eql rfl rfl) ?_
            refine v_unguard rfl rfl ?_
            refine g_val rfl rfl rfl (fun _ _ => v_move rfl) ?_
            refine g_case 88 rfl (fun h64 => ?_) (fun h64 => ?_)
            ·replace hm := ifT (of_decide_eq_true h64) hm
             refine v_unguard rfl rfl ?_
             refine g_val rfl rfl rfl (fun w _ => v_fieldAddr 1 (Try.runUnderlying89 w) rfl (Try.sizeOf3 w) rfl) ?_
             refine v_unguard rfl rfl ?_
             refine g_val rfl rfl rfl (fun w hh => v_load (Try.isAgg3 w) rfl (hh.cell 4 rfl rfl)) ?_
             refine v_unguard rfl rfl ?_
             refine g_val rfl rfl rfl (fun w _ => v_fieldAddr 1 (Try.runUnderlying89 w) rfl (Try.sizeOf3 w) rfl) ?_
             refine v_unguard rfl rfl ?_
             refine g_val rfl rfl rfl (fun w hh => v_load (Try.isAgg3 w) rfl (hh.cell 1 rfl rfl)) ?_
             refine v_unguard rfl rfl ?_
             refine g_val rfl rfl rfl (fun _ _ => v_lss rfl rfl) ?_
             refine v_unguard rfl rfl ?_
             refine g_val rfl rfl rfl (fun _ _ => v_pickT rfl rfl) ?_
             refine v_unguard rfl rfl ?_
             refine g_val rfl rfl rfl (fun _ _ => v_pickF rfl rfl) ?_
             refine v_unguard rfl rfl ?_
             refine g_val rfl rfl rfl (fun _ _ => v_pickT rfl rfl) ?_
             refine g_val rfl rfl rfl (fun _ _ => v_pickF rfl rfl) ?_
             refine g_nil ?_
             obtain rfl := Option.some.inj hm
             exact g_leaf () (trivial) ((.cons rfl (.cons rfl (.cons rfl (.cons rfl (.cons rfl (.cons rfl (.cons rfl .nil)))))))) (fun w hh => hh)
            ·replace hm := ifF (of_decide_eq_false h64) hm
             refine g_skipG rfl rfl rfl rfl rfl rfl ?_
             refine g_skipG rfl rfl rfl rfl rfl rfl ?_
             refine g_skipG rfl rfl rfl rfl rfl rfl ?_
             refine g_skipG rfl rfl rfl rfl rfl rfl ?_
             refine g_skipG rfl rfl rfl rfl rfl rfl ?_
             refine v_unguard rfl rfl ?_
             refine g_val rfl rfl rfl (fun _ _ => v_pickF rfl rfl) ?_
             refine v_unguard rfl rfl ?_
             refine g_val rfl rfl rfl (fun _ _ => v_pickF rfl rfl) ?_
             refine v_unguard rfl rfl ?_
             refine g_val rfl rfl rfl (fun _ _ => v_pickT rfl rfl) ?_
             refine g_val rfl rfl rfl (fun _ _ => v_pickF rfl rfl) ?_
             refine g_nil ?_
             obtain rfl := Option.some.inj hm
             exact g_leaf () (trivial) ((.cons rfl (.cons rfl (.cons rfl (.cons rfl (.cons rfl (.cons rfl (.cons rfl .nil)))))))) (fun w hh => hh)
          ·replace hm := ifF (of_decide_eq_false h62) hm
           refine g_skipG rfl rfl rfl rfl rfl rfl ?_
           refine g_skipG rfl rfl rfl rfl rfl rfl ?_
           refine g_skipG rfl rfl rfl rfl rfl rfl ?_
           refine g_skipG rfl rfl rfl rfl rfl rfl ?_
           refine g_skipG rfl rfl rfl rfl rfl rfl ?_
           refine g_skipG rfl rfl rfl rfl rfl rfl ?_
           refine g_skipU' rfl rfl rfl rfl rfl ?_
           refine g_skipU' rfl rfl rfl rfl rfl ?_
           refine g_skipU' rfl rfl rfl rfl rfl ?_
           refine g_skipU' rfl rfl rfl rfl rfl ?_
           refine g_skipU' rfl rfl rfl rfl rfl ?_
           refine g_skipU' rfl rfl rfl rfl rfl ?_
           refine g_skipU' rfl rfl rfl rfl rfl ?_
           refine g_skipU' rfl rfl rfl rfl rfl ?_
           refine g_skipU' rfl rfl rfl rfl rfl ?_
           refine g_skipU' rfl rfl rfl rfl rfl ?_
           refine g_skipU' rfl rfl rfl rfl rfl ?_
           refine g_skipU' rfl rfl rfl rfl rfl ?_
           refine g_skipG rfl rfl rfl rfl rfl rfl ?_
           refine v_unguard rfl rfl ?_
           refine g_val rfl rfl rfl (fun _ _ => v_pickF rfl rfl) ?_
           refine g_val rfl rfl rfl (fun _ _ => v_pickF rfl rfl) ?_
           refine g_nil ?_
           obtain rfl := Option.some.inj hm
           exact g_leaf () (trivial) ((.cons rfl (.cons rfl (.cons rfl (.cons rfl (.cons rfl (.cons rfl (.cons rfl .nil)))))))) (fun w hh => hh)
        ·intro l_25 hj
         replace hm := h60
         refine g_n_then ?_
         refine g_cond rfl (fun h65 => ?_) (fun h65 => ?_)
         ·replace hm := ifT (h65) hm
          refine g_seq ?_
          refine g_region ?_
          refine g_val rfl rfl rfl (fun _ _ => v_assign rfl) ?_
          refine g_nil ?_
          refine g_n_then ?_
          refine g_ret ?_
          refine g_r_blk ?_
          refine g_r_then ?_
          refine g_r_then ?_
          refine g_r_blk ?_
          obtain rfl := Option.some.inj hm
          have hbo := h29 _ rfl
          subst hbo
          refine g_r_then ?_
          replace hm := ocR h28
          refine g_r_then ?_
          obtain rfl := Option.some.inj hm
          refine g_done rfl (fun w hh => (.tmp rfl .nil)) (fun w hh => ⟨(), rfl, trivial, hh.sel [] [] 2 (by decide) (by decide) rfl rfl rfl⟩)
         ·replace hm := ifF ((fun hh => Bool.noConfusion ((h65).symm.trans hh))) hm
          refine g_skip ?_
          refine g_n_blk ?_
          refine g_n_then ?_
          refine g_region ?_
          obtain ⟨t98, h66, hm⟩ := bindO hm
          refine g_val rfl rfl rfl (fun _ _ => v_addc h66 rfl rfl) ?_
          refine g_val rfl rfl rfl (fun _ _ => v_move rfl) ?_
          refine g_nil ?_
          obtain rfl := Option.some.inj hm
          refine g_n_then ?_
          exact g_again' _ () rfl (trivial) ((.cons rfl (.cons rfl (.cons rfl (.cons rfl (.cons rfl (.cons rfl .nil))))))) (fun w hh => hh.sel [1, 2, 0, 3] [0, 1, 2] 0 (by decide) (by decide) rfl rfl rfl)
      ·replace hm := ifF (of_decide_eq_false h30) hm
       refine g_exit ?_
       refine g_x_then ?_
       refine g_x_then ?_
       refine g_x_blk ?_
       obtain rfl := Option.some.inj hm
       have hbo := h29 _ rfl
       subst hbo
       exact g_leaf (⟨s.t5_1, s.t5_2⟩ : m_laurellaw01_TideAsked_C2) (rfl) (.nil) (fun w hh => hh)
     ·intro j hj
      have h67 := hj
      subst h67
      replace hm := ocL h28
      refine g_n_then ?_
      refine g_seq ?_
      refine g_region ?_
      obtain ⟨t99, h68, hm⟩ := bindO hm
      refine g_callH [] [] rfl rfl rfl rfl rfl rfl rfl (fun a w => Try.call30 a w) (fun w hh => cx_awake  w (HV.callee (S0 := []) (vs0 := []) hh roN)  h68) (fun l_26 h69 => ?_)
      refine g_val rfl rfl rfl (fun _ _ => v_assign rfl) ?_
      refine g_nil ?_
      refine g_n_then ?_
      refine g_ret ?_
      obtain rfl := Option.some.inj hm
      refine g_done rfl (fun w hh => (.tmp rfl .nil)) (fun w hh => ⟨(), rfl, trivial, hh.sel [] [] 2 (by decide) (by decide) rfl rfl rfl⟩)
end Go.Proofs.Wk
namespace Go.Gx
/-! ### plain programs: what they come to -/
theorem addc_eq {a b : Int} (h : -9223372036854775808 ≤ a + b ∧ a + b ≤ 9223372036854775807) : addc a b = some (a + b) := if_pos h
theorem subc_eq {a b : Int} (h : -9223372036854775808 ≤ a - b ∧ a - b ≤ 9223372036854775807) : subc a b = some (a - b) := if_pos h
theorem mulc_eq {a b : Int} (h : -9223372036854775808 ≤ a * b ∧ a * b ≤ 9223372036854775807) : mulc a b = some (a * b) := if_pos h
theorem negc_eq {a : Int} (h : -9223372036854775808 ≤ -a ∧ -a ≤ 9223372036854775807) : negc a = some (-a) := if_pos h
theorem quoc_eq {a b : Int} (h0 : b ≠ 0) (h : -9223372036854775808 ≤ a.tdiv b ∧ a.tdiv b ≤ 9223372036854775807) : quoc a b = some (a.tdiv b) := if_pos ⟨h0, h⟩
theorem remc_eq {a b : Int} (h0 : b ≠ 0) : remc a b = some (a.tmod b) := if_pos h0
theorem ix_eq {α : Type} {l : List α} {i : Int} (d : α) (h0 : 0 ≤ i) (h1 : i < l.length) : ix l i = some (l.getD i.toNat d) := by
  unfold ix
  rw [if_neg (by omega), List.getD_eq_getElem?_getD]
  have : i.toNat < l.length := by omega
  simp [this]
theorem ix_nat {α : Type} {l : List α} {k : Nat} (d : α) (h1 : k < l.length) : ix l (k : Int) = some (l.getD k d) := by
  have := ix_eq (l := l) (i := (k : Int)) d (by omega) (by omega)
  simpa using this
theorem appc_eq {α : Type} {b : Nat} {l m : List α} (h : (l.length + m.length) * b ≤ 140737488355328) : appc b l m = some (l ++ m) := if_pos h
theorem makec_eq {α : Type} {b : Nat} {z : α} {n c : Int} (h : 0 ≤ n ∧ n ≤ c ∧ (b : Int) * c ≤ 140737488355328 ∧ c ≤ 140737488355328) : makec b z n c = some (List.replicate n.toNat z) := if_pos h
@[simp] theorem oc_inl {α β γ : Type} (a : α) (f : α → γ) (g : β → γ) : oc (.inl a) f g = f a := rfl
@[simp] theorem oc_inr {α β γ : Type} (b : β) (f : α → γ) (g : β → γ) : oc (.inr b) f g = g b := rfl

theorem iterM_step {σ β : Type} {f : σ → Option (σ ⊕ β)} {s s' : σ} {N : Nat} (h : f s = some (.inl s')) : iterM (N + 1) f s = iterM N f s' := by simp [iterM, h]
theorem iterM_done {σ β : Type} {f : σ → Option (σ ⊕ β)} {s : σ} {b : β} {N : Nat} (h : f s = some (.inr b)) : iterM (N + 1) f s = some b := by simp [iterM, h]
/-- an invariant, and what falls -/
theorem iterM_inv {σ β : Type} {f : σ → Option (σ ⊕ β)} (Inv : σ → Prop) (μ : σ → Nat) (Q : β → Prop)
    (h : ∀ s, Inv s → (∃ s', f s = some (.inl s') ∧ Inv s' ∧ μ s' < μ s) ∨ ∃ b, f s = some (.inr b) ∧ Q b) : ∀ (N : Nat) (s : σ), μ s < N → Inv s → ∃ b, iterM N f s = some b ∧ Q b
  | 0, _, hN, _ => absurd hN (Nat.not_lt_zero _)
  | N + 1, s, hN, hI => by
    rcases h s hI with ⟨s', h1, h2, h3⟩ | ⟨b, h1, h2⟩
    · rw [iterM_step h1]
      exact iterM_inv Inv μ Q h N s' (by omega) h2
    · exact ⟨b, iterM_done h1, h2⟩
/-- a course of states that is known -/
theorem iterM_run {σ β : Type} {f : σ → Option (σ ⊕ β)} (I : Nat → σ) (n : Nat) {b : β} (hs : ∀ k, k < n → f (I k) = some (.inl (I (k + 1)))) (he : f (I n) = some (.inr b)) : ∀ (N : Nat), n < N → iterM N f (I 0) = some b := by
  have key : ∀ (m k N : Nat), k + m = n → m < N → iterM N f (I k) = some b := by
    intro m
    induction m with
    | zero =>
      intro k N hk hN
      obtain ⟨N, rfl⟩ : ∃ N', N = N' + 1 := ⟨N - 1, by omega⟩
      have : k = n := by omega
      subst this
      exact iterM_done he
    | succ m ih =>
      intro k N hk hN
      obtain ⟨N, rfl⟩ : ∃ N', N = N' + 1 := ⟨N - 1, by omega⟩
      rw [iterM_step (hs k (by omega))]
      exact ih (k + 1) N (by omega) (by omega)
  intro N hN
  exact key n 0 N (by omega) hN
/-- a loop that asks of each number whether something is so, and leaves at the first -/
theorem iterM_any {ρ : Type} {f : Int → Option (Int ⊕ (Unit ⊕ ρ))} (i0 : Int) (n : Nat) (bad : Nat → Bool) (e : Nat → ρ) (h1 : ∀ k, k < n → f (i0 + (k : Int)) = some (if bad k then .inr (.inr (e k)) else .inl (i0 + (k : Int) + 1))) (h2 : f (i0 + (n : Int)) = some (.inr (.inl ()))) {N : Nat} (hN : n < N) :
    iterM N f i0 = some (match (List.range n).find? bad with | some k => .inr (e k) | none => .inl ()) := by
  have key : ∀ (m k N : Nat), k + m = n → m < N → (∀ j, j < k → bad j = false) → iterM N f (i0 + (k : Int)) = some (match (List.range n).find? bad with | some k => .inr (e k) | none => .inl ()) := by
    intro m
    induction m with
    | zero =>
      intro k N hk hN hb
      obtain ⟨N, rfl⟩ : ∃ N', N = N' + 1 := ⟨N - 1, by omega⟩
      have : k = n := by omega
      subst this
      rw [iterM_done h2]
      have : (List.range k).find? bad = none := by
        rw [List.find?_eq_none]
        intro x hx
        simp [hb x (by simpa using hx)]
      rw [this]
    | succ m ih =>
      intro k N hk hN hb
      obtain ⟨N, rfl⟩ : ∃ N', N = N' + 1 := ⟨N - 1, by omega⟩
      have hk2 := h1 k (by omega)
      cases hbk : bad k with
      | true =>
        rw [hbk] at hk2
        simp only [if_true] at hk2
        rw [iterM_done hk2]
        have : (List.range n).find? bad = some k := by
          rw [List.find?_range_eq_some]
          exact ⟨hbk, by simp; omega, fun j hj => by simp [hb j hj]⟩
        rw [this]
      | false =>
        rw [hbk] at hk2
        simp only [Bool.false_eq_true, if_false] at hk2
        rw [iterM_step hk2]
        have := ih (k + 1) N (by omega) (by omega) (fun j hj => by
          by_cases hjk : j = k
          · subst hjk; exact hbk
          · exact hb j (by omega))
        rw [show i0 + (k : Int) + 1 = i0 + ((k + 1 : Nat) : Int) by push_cast; omega]
        exact this
  have := key n 0 N (by omega) hN (fun j hj => absurd hj (by omega))
  simpa using this
theorem iterM_any0 {ρ : Type} {f : Int → Option (Int ⊕ (Unit ⊕ ρ))} (n : Nat) (bad : Nat → Bool) (e : ρ) (h1 : ∀ k : Nat, k < n → f (k : Int) = some (if bad k then .inr (.inr e) else .inl ((k : Int) + 1))) (h2 : f (n : Int) = some (.inr (.inl ()))) {N : Nat} (hN : n < N) :
    iterM N f 0 = some (if (List.range n).any bad then .inr e else .inl ()) := by
  have := iterM_any 0 n bad (fun _ => e) (fun k hk => by simpa using h1 k hk) (by simpa using h2) hN
  rw [this]
  cases hf : (List.range n).find? bad with
  | none =>
    have : (List.range n).any bad = false := by
      rw [List.any_eq_false]; intro x hx; simpa using List.find?_eq_none.1 hf x hx
    simp [this]
  | some k =>
    have : (List.range n).any bad = true := List.any_eq_true.2 ⟨k, List.mem_of_find?_eq_some hf, List.find?_some hf⟩
    simp [this]
theorem any_range {α : Type} {l : List α} {d : α} {p : α → Bool} : (List.range l.length).any (fun k => p (l.getD k d)) = l.any p := by
  rw [Bool.eq_iff_iff, List.any_eq_true, List.any_eq_true]
  constructor
  · rintro ⟨k, hk, hp⟩
    have hk' : k < l.length := by simpa using hk
    refine ⟨l[k], List.getElem_mem hk', ?_⟩
    simpa [List.getD_eq_getElem?_getD, hk'] using hp
  · rintro ⟨x, hx, hp⟩
    obtain ⟨k, hk, rfl⟩ := List.getElem_of_mem hx
    exact ⟨k, by simpa using hk, by simpa [List.getD_eq_getElem?_getD, hk] using hp⟩
theorem FU_lt {n : Nat} (h : n < 1000000000000) : n < FU := by unfold FU; omega
end Go.Gx

-- plain: sands that the law makes
namespace Go.Pl
structure TabOK (T : List Water) (at_ : Int) : Prop where
  inc : ∀ i, i + 1 < T.length → (T.getD i default).min < (T.getD (i + 1) default).min
  rg : ∀ i, i < T.length → 0 ≤ (T.getD i default).min ∧ (T.getD i default).min < at_ ∧ 0 ≤ (T.getD i default).h ∧ (T.getD i default).h ≤ 60
theorem TabOK.nil {a : Int} : TabOK [] a := ⟨fun i h => by simp at h, fun i h => by simp at h⟩
theorem getD_snoc {α : Type} {d : α} {l : List α} {x : α} {i : Nat} : (l ++ [x]).getD i d = if i < l.length then l.getD i d else if i = l.length then x else d := by
  simp only [List.getD_eq_getElem?_getD]
  by_cases h : i < l.length
  · rw [List.getElem?_append_left h, if_pos h]
  · rw [List.getElem?_append_right (by omega), if_neg h]
    by_cases h2 : i = l.length
    · subst h2; simp
    · rw [if_neg h2, List.getElem?_eq_none (by simp; omega)]; rfl
theorem TabOK.snoc {T : List Water} {a b h : Int} (k : TabOK T a) (h0 : 0 ≤ a) (hb : a < b) (hh : 0 ≤ h ∧ h ≤ 60) : TabOK (T ++ [⟨a, h⟩]) b := by
  refine ⟨fun i hi => ?_, fun i hi => ?_⟩
  · simp only [List.length_append, List.length_singleton] at hi
    rw [getD_snoc, getD_snoc, if_pos (by omega)]
    by_cases h1 : i + 1 < T.length
    · rw [if_pos h1]; exact k.inc i h1
    · rw [if_neg h1, if_pos (by omega)]
      exact (k.rg i (by omega)).2.1
  · simp only [List.length_append, List.length_singleton] at hi
    rw [getD_snoc]
    by_cases h1 : i < T.length
    · rw [if_pos h1]; have := k.rg i h1; omega
    · rw [if_neg h1, if_pos (by omega)]; simp only; omega
def sillOK (n : Int) (x : Sill) : Prop := (-1 ≤ x.a ∧ x.a < n) ∧ (-1 ≤ x.b ∧ x.b < n) ∧ x.a ≠ x.b ∧ 0 ≤ x.h ∧ x.h ≤ 50
structure MadeOK (pl sl : Int) (s : Sands) : Prop where
  tl : 2 ≤ s.table.length ∧ s.table.length ≤ 4
  tab : ∃ a, TabOK s.table a ∧ a ≤ 140
  lo : -8 ≤ s.wind.lo ∧ s.wind.lo ≤ 0
  hi : 0 ≤ s.wind.hi ∧ s.wind.hi ≤ 8
  fl : 1 ≤ s.floors.length ∧ (s.floors.length : Int) ≤ pl
  flo : ∀ x, x ∈ s.floors → 0 ≤ x ∧ x ≤ 50
  sl : (s.sills.length : Int) ≤ sl
  sil : ∀ x, x ∈ s.sills → sillOK s.floors.length x
theorem mem_getD {α : Type} {d : α} {l : List α} {j : Nat} (h : j < l.length) : l.getD j d ∈ l := by
  simp only [List.getD_eq_getElem?_getD, List.getElem?_eq_getElem h, Option.getD_some]; exact List.getElem_mem h
theorem MadeOK.check {pl sl : Int} {s : Sands} (h : MadeOK pl sl s) (hp : pl ≤ 8) (hs : sl ≤ 16) : check s = 0 := by
  obtain ⟨a, ht, ha⟩ := h.tab
  have h1 := h.tl
  have h2 := h.fl
  have h3 := h.sl
  have e1 : inr s.table.length 2 12 = true := inr_iff.2 (by omega)
  have e2 : inr s.floors.length 1 8 = true := inr_iff.2 (by omega)
  have e3 : decide (16 < (s.sills.length : Int)) = false := by simp; omega
  have e4 : s.table.all bigW = true := all_of_getD (d := default) (fun j hj => by
    have := ht.rg j hj
    simp only [bigW, Bool.and_eq_true, inr_iff]; omega)
  have e5 : inr s.wind.lo (-50) 50 = true := inr_iff.2 (by have := h.lo; omega)
  have e6 : inr s.wind.hi (-50) 50 = true := inr_iff.2 (by have := h.hi; omega)
  have e7 : s.floors.all hgt = true := all_of_getD (d := 0) (fun j hj => by
    have := h.flo _ (mem_getD (d := 0) hj)
    rw [hgt_iff]; omega)
  have e8 : s.sills.all (fun x => hgt x.h) = true := all_of_getD (d := default) (fun j hj => by
    have := (h.sil _ (mem_getD (d := default) hj)).2.2
    rw [hgt_iff]; omega)
  have e9 : ordered s = true := by
    rw [ordered_true (fun i hi => ht.inc i (by omega))]
    have := h.lo; have := h.hi
    simp; omega
  have e10 : s.sills.all (fun x => isEnd s x.a && isEnd s x.b) = true := all_of_getD (d := default) (fun j hj => by
    have := h.sil _ (mem_getD (d := default) hj)
    unfold sillOK at this
    simp only [Bool.and_eq_true, isEnd_iff]
    omega)
  have e11 : s.sills.all (fun x => !decide (x.a = x.b)) = true := all_of_getD (d := default) (fun j hj => by
    have := h.sil _ (mem_getD (d := default) hj)
    simpa using this.2.2.1)
  simp only [Pl.check, e1, e2, e3, e4, e5, e6, e7, e8, e9, e10, e11, Bool.not_true, Bool.or_self, Bool.false_eq_true, if_false]
end Go.Pl

-- plain: what water reaches; the gates, and the law's
namespace Go.Pl
inductive Reach (s : Sands) (h : Int) : Int → Prop
  | sea : Reach s h (-1)
  | step {p q : Int} {x : Sill} : Reach s h p → x ∈ s.sills → (x.a = p ∧ x.b = q ∨ x.b = p ∧ x.a = q) → q ≠ -1 → x.h ≤ h → s.floors.getD q.toNat 0 ≤ h → Reach s h q
theorem Reach.mono {s : Sands} {h k : Int} {q : Int} (r : Reach s h q) (hk : h ≤ k) : Reach s k q := by
  induction r with
  | sea => exact .sea
  | step _ hx hj hq h1 h2 ih => exact .step ih hx hj hq (by omega) (by omega)
/-! the gates are sound -/
def Snd (s : Sands) (g : List Int) : Prop := ∀ j, j < 8 → g.getD j 0 < 1000 → Reach s (g.getD j 0) (j : Nat)
theorem snd_low {s : Sands} (hG : Good s) {p at_ : Int} (hp : at_ < 1000 → Reach s at_ p) {g : List Int} (hg : OKg g) (hs : Snd s g) {x : Sill} (hx : x ∈ s.sills) {q : Int} (hj : x.a = p ∧ x.b = q ∨ x.b = p ∧ x.a = q) (hq : -1 ≤ q) : Snd s (lowAt s at_ x.h g q) := by
  unfold lowAt
  split
  · exact hs
  · rename_i hq1
    intro j hj8 hlt
    rw [getD_set, foldmax2] at hlt ⊢
    split at hlt
    · rename_i hc
      rw [if_pos hc]
      have hjq : (j : Int) = q := by omega
      rcases Int.le_total (g.getD q.toNat 0) (max (max at_ x.h) (s.floors.getD q.toNat 0)) with hle | hle
      · rw [Int.min_eq_left hle] at hlt ⊢
        have := hs j hj8 (by rw [← hc.1]; exact hlt)
        rw [hc.1]; exact this
      · rw [Int.min_eq_right hle] at hlt ⊢
        rw [hjq]
        exact .step ((hp (by omega)).mono (by omega)) hx hj hq1 (by omega) (by omega)
    · rename_i hc
      rw [if_neg hc]
      exact hs j hj8 hlt
theorem snd_lower {s : Sands} (hG : Good s) {p at_ : Int} (ha : 0 ≤ at_) (hp : at_ < 1000 → Reach s at_ p) {g : List Int} (hg : OKg g) (hs : Snd s g) : Snd s (lowerF s p at_ g) := by
  have key : ∀ (l : List Sill), (∀ x ∈ l, x ∈ s.sills) → ∀ g, OKg g → Snd s g → Snd s (l.foldl (lowStep s p at_) g) := by
    intro l
    induction l with
    | nil => intro _ g _ h; exact h
    | cons x l ih =>
      intro hl g hg hs
      have hx := hl x List.mem_cons_self
      obtain ⟨k, hk, hkx⟩ := List.mem_iff_getElem.1 hx
      have e : s.sills.getD k default = x := by simp [List.getD_eq_getElem?_getD, hk, hkx]
      have h1 := hG.sa k hk
      have h2 := hG.sb k hk
      rw [e] at h1 h2
      refine ih (fun y hy => hl y (List.mem_cons_of_mem _ hy)) _ (lowStep_ok hg ha) ?_
      unfold lowStep
      split
      · rename_i h; exact snd_low hG hp hg hs hx (.inl ⟨h, rfl⟩) h2.1
      · split
        · rename_i h; exact snd_low hG hp hg hs hx (.inr ⟨h, rfl⟩) h1.1
        · exact hs
  exact key s.sills (fun _ h => h) g hg hs
theorem snd_round {s : Sands} (hG : Good s) {g : List Int} (hg : OKg g) (hs : Snd s g) : ∀ k, k ≤ 8 → Snd s (roundN s g k) ∧ OKg (roundN s g k) := by
  intro k
  induction k with
  | zero => intro _; exact ⟨snd_lower hG (Int.le_refl 0) (fun _ => .sea) hg hs, (roundN_ok hg).1⟩
  | succ k ih =>
    intro hk
    obtain ⟨h1, h2⟩ := ih (by omega)
    refine ⟨?_, (roundN_ok hg).1⟩
    rw [roundN_succ]
    exact snd_lower hG (h2.lo k) (fun hlt => h1 k (by omega) hlt) h2 h1
theorem gates_snd {s : Sands} (hG : Good s) : Snd s (gatesOf s) := by
  have key : ∀ (k : Nat) (g : List Int), OKg g → Snd s g → Snd s (fixF s k g) := by
    intro k
    induction k with
    | zero => intro g _ h; exact h
    | succ k ih =>
      intro g hg hs
      unfold fixF
      split
      · exact hs
      · have := snd_round hG hg hs s.floors.length (by have := hG.fl; omega)
        exact ih _ this.2 this.1
  refine key _ _ initG_ok (fun j hj hlt => ?_)
  have : ∀ j, j < 8 → (initG 8).getD j 0 = 1000 := by decide
  rw [this j hj] at hlt
  exact absurd hlt (by omega)
/-! … and closed -/
theorem lower_fix {s : Sands} : lowerF s (-1) 0 (gatesOf s) = gatesOf s ∧ ∀ p, p < s.floors.length → lowerF s (p : Nat) ((gatesOf s).getD p 0) (gatesOf s) = gatesOf s := by
  have hf := gates_fixed (s := s)
  have hg := gates_ok (s := s)
  have h1 := lowerF_ok (s := s) (p := -1) hg (Int.le_refl 0)
  have h2 := foldl_le (I := OKg) (f := fun g (p : Nat) => lowerF s (p : Nat) (g.getD p 0) g) (fun g x h => (lowerF_ok h (h.lo x)).1) (fun g x h => (lowerF_ok h (h.lo x)).2) (List.range s.floors.length) _ h1.1
  have h3 : (List.range s.floors.length).foldl (fun g (p : Nat) => lowerF s (p : Nat) (g.getD p 0) g) (lowerF s (-1) 0 (gatesOf s)) = gatesOf s := hf
  rw [h3] at h2
  have e1 : lowerF s (-1) 0 (gatesOf s) = gatesOf s := h1.2.antisymm h2.2
  rw [e1] at h3
  refine ⟨e1, fun p hp => ?_⟩
  exact foldl_fix (I := OKg) (fun g x h => (lowerF_ok h (h.lo x)).1) (fun g x h => (lowerF_ok h (h.lo x)).2) _ _ hg h3 p (List.mem_range.2 hp)
theorem low_le {s : Sands} {p at_ : Int} {g : List Int} (hg : OKg g) (ha : 0 ≤ at_) (hf : lowerF s p at_ g = g) {x : Sill} (hx : x ∈ s.sills) {q : Int} (hj : x.a = p ∧ x.b = q ∨ x.b = p ∧ x.a = q) (hne : x.a ≠ x.b) (hq : 0 ≤ q ∧ q < 8) : g.getD q.toNat 0 ≤ max (max at_ x.h) (s.floors.getD q.toNat 0) := by
  have h1 := foldl_fix (I := OKg) (fun _ _ h => lowStep_ok h ha) (fun _ _ _ => lowStep_le) _ _ hg hf x hx
  have h2 : lowAt s at_ x.h g q = g := by
    unfold lowStep at h1
    rcases hj with ⟨ha, hb⟩ | ⟨hb, ha⟩
    · rw [if_pos ha, hb] at h1; exact h1
    · rw [if_neg (by omega), if_pos hb, ha] at h1; exact h1
  have h3 := congrArg (fun l => l.getD q.toNat 0) h2
  simp only [lowAt] at h3
  rw [if_neg (by omega), getD_set, if_pos ⟨rfl, by rw [hg.len]; omega⟩, foldmax2] at h3
  omega
theorem gates_le {s : Sands} (hG : Good s) {h : Int} (h0 : 0 ≤ h) {q : Int} (r : Reach s h q) : q = -1 ∨ ((0 ≤ q ∧ q < s.floors.length) ∧ (gatesOf s).getD q.toNat 0 ≤ h) := by
  have hfl := hG.fl
  induction r with
  | sea => exact .inl rfl
  | @step p q x r hx hj hq h1 h2 ih =>
    right
    obtain ⟨k, hk, hkx⟩ := List.mem_iff_getElem.1 hx
    have e : s.sills.getD k default = x := by simp [List.getD_eq_getElem?_getD, hk, hkx]
    have ha := hG.sa k hk
    have hb := hG.sb k hk
    have hne := hG.ne k hk
    rw [e] at ha hb hne
    have hqr : 0 ≤ q ∧ q < s.floors.length := by rcases hj with ⟨h3, h4⟩ | ⟨h3, h4⟩ <;> omega
    refine ⟨hqr, ?_⟩
    have hf := lower_fix (s := s)
    rcases ih with rfl | ⟨hp, hle⟩
    · have := low_le gates_ok (Int.le_refl 0) hf.1 hx hj hne (by omega)
      omega
    · have h5 := hf.2 p.toNat (by omega)
      rw [Int.toNat_of_nonneg hp.1] at h5
      have := low_le gates_ok (gates_ok.lo _) h5 hx hj hne (by omega)
      omega
end Go.Pl

-- plain: the law's gates are the gates
namespace Go.Pl
theorem gStep_le {s : Sands} {h : Int} {out : List Int} {y : Sill} : Le (gStep s h out y) out := by
  refine ⟨gStep_length, fun j => ?_⟩
  unfold gStep
  split
  · rw [getD_set]
    split
    · rename_i hq; rw [hq.1]; exact Int.min_le_left _ _
    · exact Int.le_refl _
  · exact Int.le_refl _
theorem foldl_Le {α : Type} {f : List Int → α → List Int} (hf : ∀ o x, Le (f o x) o) : ∀ (l : List α) (o : List Int), Le (l.foldl f o) o
  | [], o => Le.refl o
  | x :: l, o => (foldl_Le hf l (f o x)).trans (hf o x)
def sStep (s : Sands) (h : Int) (o : List Int) (x : Sill) : List Int := (both x).foldl (gStep s h) o
theorem sStep_le {s : Sands} {h : Int} {o : List Int} {x : Sill} : Le (sStep s h o x) o := foldl_Le (fun _ _ => gStep_le) _ _
theorem sillN_all {s : Sands} {h : Int} {out : List Int} : sillN s h out s.sills.length = s.sills.foldl (sStep s h) out := by
  unfold sillN; rw [List.take_length]; rfl
theorem pass_le {s : Sands} {h : Int} {out : List Int} : Le (sillN s h out s.sills.length) out := by rw [sillN_all]; exact foldl_Le (fun _ _ => sStep_le) _ _
/-! sound -/
def LSnd (s : Sands) (h : Int) (out : List Int) : Prop := ∀ j, j < s.floors.length → out.getD j 0 = 1000000 ∨ (0 ≤ out.getD j 0 ∧ out.getD j 0 ≤ h ∧ Reach s (out.getD j 0) (j : Nat))
theorem gStep_snd {s : Sands} {h : Int} (h0 : 0 ≤ h ∧ h ≤ 999) {out : List Int} (hs : LSnd s h out) {x y : Sill} (hx : x ∈ s.sills) (hy : y = x ∨ y = swapS x) (ha : -1 ≤ y.a ∧ y.a < s.floors.length) (hb : -1 ≤ y.b ∧ y.b < s.floors.length) : LSnd s h (gStep s h out y) := by
  unfold gStep
  split
  · rename_i hc
    obtain ⟨c1, c2, c3, c4⟩ := hc
    intro j hj
    rw [getD_set]
    split
    · rename_i hq
      have hjb : (j : Int) = y.b := by omega
      have hra : Reach s h y.a := by
        rcases c4 with c4 | c4
        · rw [c4]; exact .sea
        · rcases Int.lt_or_le y.a 0 with h1 | h1
          · have : y.a = -1 := by omega
            rw [this]; exact .sea
          · have h2 := hs y.a.toNat (by omega)
            rw [Int.toNat_of_nonneg h1] at h2
            rcases h2 with h2 | h2
            · omega
            · exact h2.2.2.mono h2.2.1
      have hrb : Reach s h y.b := by
        refine .step hra hx ?_ c2 ?_ c3
        · rcases hy with rfl | rfl
          · exact .inl ⟨rfl, rfl⟩
          · exact .inr ⟨rfl, rfl⟩
        · rcases hy with rfl | rfl
          · exact c1
          · exact c1
      have hold := hs j hj
      rw [hq.1]
      rcases Int.le_total (out.getD j 0) h with hle | hle
      · rw [Int.min_eq_left hle]; exact hold
      · rw [Int.min_eq_right hle]
        exact .inr ⟨h0.1, Int.le_refl _, by rw [hjb]; exact hrb⟩
    · exact hs j hj
  · exact hs
theorem pass_snd {s : Sands} (hG : Good s) {h : Int} (h0 : 0 ≤ h ∧ h ≤ 999) {out : List Int} (hs : LSnd s h out) : LSnd s h (sillN s h out s.sills.length) := by
  rw [sillN_all]
  have key : ∀ (l : List Sill), (∀ x ∈ l, x ∈ s.sills) → ∀ o, LSnd s h o → LSnd s h (l.foldl (sStep s h) o) := by
    intro l
    induction l with
    | nil => intro _ o h; exact h
    | cons x l ih =>
      intro hl o ho
      have hx := hl x List.mem_cons_self
      obtain ⟨k, hk, hkx⟩ := List.mem_iff_getElem.1 hx
      have e : s.sills.getD k default = x := by simp [List.getD_eq_getElem?_getD, hk, hkx]
      have ha := hG.sa k hk
      have hb := hG.sb k hk
      rw [e] at ha hb
      refine ih (fun y hy => hl y (List.mem_cons_of_mem _ hy)) _ ?_
      exact gStep_snd h0 (gStep_snd h0 ho hx (.inl rfl) ha hb) hx (.inr rfl) hb ha
  exact key s.sills (fun _ h => h) out hs
theorem rounds_snd {s : Sands} (hG : Good s) {h : Int} (h0 : 0 ≤ h ∧ h ≤ 999) {out : List Int} (hs : LSnd s h out) : ∀ r, LSnd s h (roundsN s h out r)
  | 0 => hs
  | r + 1 => pass_snd hG h0 (rounds_snd hG h0 hs r)
theorem heights_snd {s : Sands} (hG : Good s) : ∀ h : Nat, h ≤ 900 → LSnd s h (heightN s (initO s.floors.length s.floors.length) h)
  | 0, _ => fun j hj => .inl (by simp [heightN, initO, List.getD_eq_getElem?_getD, hj])
  | h + 1, hh => by
    have h1 := rounds_snd hG (h := (h : Nat)) (by omega) (heights_snd hG h (by omega)) s.floors.length
    intro j hj
    rcases h1 j hj with h2 | ⟨h2, h3, h4⟩
    · exact .inl h2
    · exact .inr ⟨h2, by push_cast; exact Int.le_trans h3 (by omega), h4⟩
/-! complete -/
theorem gStep_reach {s : Sands} {h : Int} {out : List Int} {y : Sill} (hc : gCond s h out y) (hb : 0 ≤ y.b ∧ y.b < out.length) : (gStep s h out y).getD y.b.toNat 0 ≤ h := by
  unfold gStep
  rw [if_pos hc, getD_set, if_pos ⟨rfl, by omega⟩]
  exact Int.min_le_right _ _
theorem pass_reach {s : Sands} {h : Int} {out : List Int} (hl : out.length = s.floors.length) {x : Sill} (hx : x ∈ s.sills) {p q : Int} (hj : x.a = p ∧ x.b = q ∨ x.b = p ∧ x.a = q) (hq : 0 ≤ q ∧ q < s.floors.length) (h1 : x.h ≤ h) (h2 : s.floors.getD q.toNat 0 ≤ h) (hp : p = -1 ∨ out.getD p.toNat 0 ≤ h) : (sillN s h out s.sills.length).getD q.toNat 0 ≤ h := by
  rw [sillN_all]
  obtain ⟨l1, l2, hs⟩ := List.append_of_mem hx
  rw [hs, List.foldl_append, List.foldl_cons]
  have e1 : Le (l1.foldl (sStep s h) out) out := foldl_Le (fun _ _ => sStep_le) _ _
  refine Int.le_trans ((foldl_Le (fun _ _ => sStep_le) l2 _).le q.toNat) ?_
  generalize l1.foldl (sStep s h) out = o at *
  have hol : o.length = s.floors.length := e1.len.trans hl
  have hpo : p = -1 ∨ o.getD p.toNat 0 ≤ h := hp.imp id (fun h => Int.le_trans (e1.le _) h)
  show (gStep s h (gStep s h o x) (swapS x)).getD q.toNat 0 ≤ h
  rcases hj with ⟨ha, hb⟩ | ⟨hb, ha⟩
  · refine Int.le_trans (gStep_le.le _) ?_
    have := gStep_reach (s := s) (h := h) (out := o) (y := x) ⟨h1, by omega, by rw [hb]; exact h2, by rw [ha]; exact hpo⟩ (by omega)
    rwa [hb] at this
  · have := gStep_reach (s := s) (h := h) (out := gStep s h o x) (y := swapS x) ⟨h1, by show x.a ≠ -1; omega, by show s.floors.getD x.a.toNat 0 ≤ h; rw [ha]; exact h2, by
      have e2 : (swapS x).a = p := hb
      rw [e2]
      exact hpo.imp id (fun h => Int.le_trans (gStep_le.le _) h)⟩ (by rw [gStep_length]; show 0 ≤ x.a ∧ x.a < _; omega)
    have e : (swapS x).b = q := ha
    rwa [e] at this
def cntLe (h : Int) (o : List Int) : Nat := o.countP (fun v => decide (v ≤ h))
theorem cnt_mono {h : Int} : ∀ {a b : List Int}, a.length = b.length → (∀ j, a.getD j 0 ≤ b.getD j 0) → cntLe h b ≤ cntLe h a ∧ ((∃ j, j < b.length ∧ a.getD j 0 ≤ h ∧ h < b.getD j 0) → cntLe h b + 1 ≤ cntLe h a)
  | [], [], _, _ => ⟨Nat.le_refl _, fun ⟨j, hj, _⟩ => by simp at hj⟩
  | [], _ :: _, hl, _ => by simp at hl
  | _ :: _, [], hl, _ => by simp at hl
  | x :: a, y :: b, hl, hle => by
    have ih := cnt_mono (h := h) (a := a) (b := b) (by simpa using hl) (fun j => by simpa using hle (j + 1))
    have hxy : x ≤ y := by simpa using hle 0
    simp only [cntLe, List.countP_cons] at *
    refine ⟨?_, ?_⟩
    · by_cases h1 : y ≤ h
      · have : x ≤ h := by omega
        simp [h1, this]; exact ih.1
      · simp [h1]; split <;> omega
    · rintro ⟨j, hj, h1, h2⟩
      cases j with
      | zero =>
        simp only [List.getD_cons_zero] at h1 h2
        have h3 : ¬ y ≤ h := by omega
        simp [h1, h3]; exact ih.1
      | succ j =>
        simp only [List.getD_cons_succ] at h1 h2
        have := ih.2 ⟨j, by simpa using hj, h1, h2⟩
        by_cases h3 : y ≤ h
        · have : x ≤ h := by omega
          simp [h3, this]; omega
        · simp [h3]; split <;> omega
theorem rounds_len {s : Sands} {h : Int} {out : List Int} {r : Nat} (hl : out.length = s.floors.length) : (roundsN s h out r).length = s.floors.length := roundsN_length.trans hl
theorem closed_reach {s : Sands} (hG : Good s) {h : Int} {o : List Int} (hc : ∀ j, j < s.floors.length → (sillN s h o s.sills.length).getD j 0 ≤ h → o.getD j 0 ≤ h) (hl : o.length = s.floors.length) {q : Int} (r : Reach s h q) : q = -1 ∨ ((0 ≤ q ∧ q < s.floors.length) ∧ o.getD q.toNat 0 ≤ h) := by
  induction r with
  | sea => exact .inl rfl
  | @step p q x r hx hj hq h1 h2 ih =>
    right
    obtain ⟨k, hk, hkx⟩ := List.mem_iff_getElem.1 hx
    have e : s.sills.getD k default = x := by simp [List.getD_eq_getElem?_getD, hk, hkx]
    have ha := hG.sa k hk
    have hb := hG.sb k hk
    rw [e] at ha hb
    have hqr : 0 ≤ q ∧ q < s.floors.length := by rcases hj with ⟨h3, h4⟩ | ⟨h3, h4⟩ <;> omega
    exact ⟨hqr, hc _ (by omega) (pass_reach hl hx hj hqr h1 h2 (ih.imp id (fun h => h.2)))⟩
theorem rounds_all {s : Sands} (hG : Good s) {h : Int} {out : List Int} (hl : out.length = s.floors.length) : ∀ r : Nat, (∀ q, Reach s h q → q = -1 ∨ ((0 ≤ q ∧ q < s.floors.length) ∧ (roundsN s h out r).getD q.toNat 0 ≤ h)) ∨ r ≤ cntLe h (roundsN s h out r) := by
  intro r
  induction r with
  | zero => exact .inr (Nat.zero_le _)
  | succ r ih =>
    have hle : Le (roundsN s h out (r + 1)) (roundsN s h out r) := pass_le
    rcases ih with ih | ih
    · left
      intro q hq
      exact (ih q hq).imp id (fun h => ⟨h.1, Int.le_trans (hle.le _) h.2⟩)
    · have hc := cnt_mono (h := h) hle.len hle.le
      by_cases hn : ∃ j, j < (roundsN s h out r).length ∧ (roundsN s h out (r + 1)).getD j 0 ≤ h ∧ h < (roundsN s h out r).getD j 0
      · right
        have := hc.2 hn
        omega
      · left
        intro q hq
        have := closed_reach hG (o := roundsN s h out r) (fun j hj hlt => by
          rcases Int.lt_or_le h ((roundsN s h out r).getD j 0) with h1 | h1
          · exact absurd ⟨j, by rw [rounds_len hl]; exact hj, hlt, h1⟩ hn
          · exact h1) (rounds_len hl) hq
        exact this.imp id (fun h => ⟨h.1, Int.le_trans (hle.le _) h.2⟩)
theorem cnt_all {h : Int} : ∀ {o : List Int}, o.length ≤ cntLe h o → ∀ j, j < o.length → o.getD j 0 ≤ h
  | [], _, j, hj => by simp at hj
  | x :: o, hc, j, hj => by
    have h1 : cntLe h o ≤ o.length := List.countP_le_length
    simp only [cntLe, List.countP_cons, List.length_cons] at hc h1
    by_cases hx : x ≤ h
    · cases j with
      | zero => simpa using hx
      | succ j =>
        simp [hx] at hc
        simpa using cnt_all (h := h) (o := o) hc j (by simpa using hj)
    · simp [hx] at hc
      omega
theorem rounds_full {s : Sands} (hG : Good s) {h : Int} {out : List Int} (hl : out.length = s.floors.length) {q : Int} (r : Reach s h q) (hq : 0 ≤ q ∧ q < s.floors.length) : (roundsN s h out s.floors.length).getD q.toNat 0 ≤ h := by
  rcases rounds_all hG hl s.floors.length with h1 | h1
  · rcases h1 q r with h2 | h2
    · omega
    · exact h2.2
  · exact cnt_all (by rw [rounds_len hl]; exact h1) q.toNat (by rw [rounds_len hl]; omega)
theorem rounds_le {s : Sands} {h : Int} {out : List Int} : ∀ r, Le (roundsN s h out r) out
  | 0 => Le.refl _
  | r + 1 => (pass_le (s := s)).trans (rounds_le r)
theorem heights_full {s : Sands} (hG : Good s) {q : Int} (hq : 0 ≤ q ∧ q < s.floors.length) {h : Nat} (r : Reach s (h : Nat) q) : ∀ k : Nat, h < k → (heightN s (initO s.floors.length s.floors.length) k).getD q.toNat 0 ≤ h
  | 0, hk => absurd hk (by omega)
  | k + 1, hk => by
    by_cases hkk : h < k
    · exact Int.le_trans ((rounds_le _).le _) (heights_full hG hq r k hkk)
    · have : h = k := by omega
      subst this
      exact rounds_full hG (by rw [heightN_length, initO_length]) r hq
/-- low sands: nothing is higher than 50 -/
theorem reach_low {s : Sands} (hG : Good s) (h1 : ∀ x, x ∈ s.sills → x.h ≤ 50) (h2 : ∀ j, j < s.floors.length → s.floors.getD j 0 ≤ 50) {h : Int} {q : Int} (r : Reach s h q) : Reach s 50 q := by
  induction r with
  | sea => exact .sea
  | @step p q x r hx hj hq h3 h4 ih =>
    refine .step ih hx hj hq (h1 x hx) ?_
    by_cases hl : q.toNat < s.floors.length
    · exact h2 _ hl
    · rw [List.getD_eq_getElem?_getD, List.getElem?_eq_none (by omega)]; decide
theorem lawGates_eq {s : Sands} (hG : Good s) (h1 : ∀ x, x ∈ s.sills → x.h ≤ 50) (h2 : ∀ j, j < s.floors.length → s.floors.getD j 0 ≤ 50) {j : Nat} (hj : j < s.floors.length) :
    (lawGates s).getD j 0 = if (gatesOf s).getD j 0 = 1000 then 1000000 else (gatesOf s).getD j 0 := by
  have hfl := hG.fl
  have hsnd := heights_snd hG 62 (by omega) j hj
  have hg0 := gates_ok (s := s)
  have hlo := hg0.lo j
  have hhi := hg0.hi j
  by_cases hg : (gatesOf s).getD j 0 = 1000
  · rw [if_pos hg]
    rcases hsnd with h3 | ⟨h3, h4, h5⟩
    · exact h3
    · have := gates_le hG h3 h5
      rcases this with h6 | ⟨_, h6⟩
      · omega
      · rw [Int.toNat_natCast, hg] at h6
        exfalso
        have h4' : (heightN s (initO s.floors.length s.floors.length) 62).getD j 0 ≤ 62 := h4
        omega
  · rw [if_neg hg]
    have hr := gates_snd hG j (by omega) (by omega)
    have h50 := gates_le hG (by omega) (reach_low hG h1 h2 hr)
    rcases h50 with h6 | ⟨_, h6⟩
    · omega
    · rw [Int.toNat_natCast] at h6
      have hr' : Reach s (((gatesOf s).getD j 0).toNat : Nat) (j : Nat) := by rw [Int.toNat_of_nonneg hlo]; exact hr
      have hle := heights_full hG (q := (j : Nat)) (by omega) hr' 62 (by omega)
      rw [Int.toNat_natCast, Int.toNat_of_nonneg hlo] at hle
      have hlg : lawGates s = heightN s (initO s.floors.length s.floors.length) 62 := rfl
      rw [hlg]
      rcases hsnd with h7 | ⟨h7, h8, h9⟩
      · omega
      · have := gates_le hG h7 h9
        rcases this with h10 | ⟨_, h10⟩
        · omega
        · rw [Int.toNat_natCast] at h10
          omega
end Go.Pl

-- plain: what is told
namespace Go.Pl
theorem fix_wind {s : Sands} {w : Span} : ∀ (k : Nat) (g : List Int), fixF { s with wind := w } k g = fixF s k g
  | 0, _ => rfl
  | k + 1, g => by
    have e : roundF { s with wind := w } g = roundF s g := rfl
    unfold fixF
    rw [e, fix_wind k]
theorem gates_wind {s : Sands} {w : Span} : gatesOf { s with wind := w } = gatesOf s := fix_wind 8001 _
/-- the gate of a place, and the law's number for it -/
def gateRel (g v : Int) : Prop := (g = 1000 ∧ v = 1000000) ∨ (g ≠ 1000 ∧ v = g)
theorem made_rel {pl sl : Int} {s : Sands} (h : MadeOK pl sl s) (hG : Good s) {j : Nat} (hj : j < s.floors.length) : gateRel ((gatesOf s).getD j 0) ((lawGates s).getD j 0) := by
  have := lawGates_eq hG (fun x hx => (h.sil x hx).2.2.2.2) (fun j hj => (h.flo _ (mem_getD (d := 0) hj)).2) hj
  rw [this]
  unfold gateRel
  split
  · rename_i h1; exact .inl ⟨h1, rfl⟩
  · rename_i h1; exact .inr ⟨h1, rfl⟩
theorem looked_zero {s : Sands} (hc : check s = 0) {gs : List Int} {tr : Int} {l : List Look} (hl : l.length ≤ 6) (h : ∀ x, x ∈ l → lookT s gs tr x) : lookedE s l = 0 := by
  rw [lookedE_look hc (by omega)]
  exact lookE_ok (fun i hi => (h _ (mem_getD hi)).1)
theorem left_told {s : Sands} (hG : Good s) {gs : List Int} (hgl : ∀ j, j < s.floors.length → gateRel ((gatesOf s).getD j 0) (gs.getD j 0)) {tr : Int} (ht : s.wind.lo ≤ tr ∧ tr ≤ s.wind.hi) : ∀ (l : List Look), (∀ x, x ∈ l → lookT s gs tr x) → ∀ (o : Span), (s.wind.lo ≤ o.lo ∧ o.lo ≤ tr) → (tr ≤ o.hi ∧ o.hi ≤ s.wind.hi) → (s.wind.lo ≤ (l.foldl (leftStep s (gatesOf s)) o).lo ∧ (l.foldl (leftStep s (gatesOf s)) o).lo ≤ tr) ∧ (tr ≤ (l.foldl (leftStep s (gatesOf s)) o).hi ∧ (l.foldl (leftStep s (gatesOf s)) o).hi ≤ s.wind.hi)
  | [], _, o, h1, h2 => ⟨h1, h2⟩
  | x :: l, h, o, h1, h2 => by
    have hx := h x List.mem_cons_self
    have hp := isPlace_iff.1 hx.1.2
    have hr := hgl x.place.toNat (by omega)
    have hb := height_tight hG hx.1.1
    have hlo := hG.lo
    have hhi := hG.hi
    have hw := hx.2
    refine left_told hG hgl ht l (fun y hy => h y (List.mem_cons_of_mem _ hy)) _ ?_ ?_
    all_goals
      unfold leftStep mostG
      unfold gateRel at hr
      cases hwet : x.wet with
      | true =>
        rw [hwet] at hw
        have hw' := of_decide_eq_true hw.symm
        simp only [if_true]
        first | omega | (split <;> omega)
      | false =>
        rw [hwet] at hw
        have hw' := of_decide_eq_false hw.symm
        simp only [Bool.false_eq_true, if_false]
        first | omega | (split <;> omega)
theorem looks_told {s : Sands} (hc : check s = 0) (hG : Good s) {gs : List Int} (hgl : ∀ j, j < s.floors.length → gateRel ((gatesOf s).getD j 0) (gs.getD j 0)) {tr : Int} (ht : s.wind.lo ≤ tr ∧ tr ≤ s.wind.hi) {l : List Look} (hl : l.length ≤ 6) (h : ∀ x, x ∈ l → lookT s gs tr x) :
    ∃ w : Span, LooksR s l = (w, 0) ∧ (s.wind.lo ≤ w.lo ∧ w.lo ≤ tr) ∧ (tr ≤ w.hi ∧ w.hi ≤ s.wind.hi) := by
  have h1 := left_told hG hgl ht l h s.wind ⟨Int.le_refl _, ht.1⟩ ⟨ht.2, Int.le_refl _⟩
  refine ⟨leftG s (gatesOf s) l, ?_, h1⟩
  unfold LooksR
  rw [if_neg (by rw [looked_zero hc hl h]; simp), if_neg (by have := h1.1; have := h1.2; unfold leftG; omega)]
theorem wind_check {s : Sands} (hc : check s = 0) {w : Span} (hlo : s.wind.lo ≤ w.lo) (hm : w.lo ≤ w.hi) (hhi : w.hi ≤ s.wind.hi) : check { s with wind := w } = 0 := by
  have hG := good_of_check hc
  have h1 := hG.lo
  have h2 := hG.hi
  have e5 : inr w.lo (-50) 50 = true := inr_iff.2 (by omega)
  have e6 : inr w.hi (-50) 50 = true := inr_iff.2 (by omega)
  have f5 : inr s.wind.lo (-50) 50 = true := inr_iff.2 (by omega)
  have f6 : inr s.wind.hi (-50) 50 = true := inr_iff.2 (by omega)
  have eo : ordered { s with wind := w } = ordered s := by
    rw [ordered_true (s := { s with wind := w }) hG.inc, ordered_true hG.inc]
    have := hG.wind
    simp [hm, this]
  have ei : ∀ p, isEnd { s with wind := w } p = isEnd s p := fun p => rfl
  rw [← hc]
  simp only [Pl.check, e5, e6, f5, f6, eo, ei]
/-- the state, by the law's number -/
theorem state_told {s : Sands} (hG : Good s) {m : Int} (hd : dayF s m = true) {k : Nat} {v : Int} (hr : gateRel ((gatesOf s).getD k 0) v) :
    (stateF s m (k : Nat) = 2 ∧ v < heightF s m + s.wind.lo) ∨ (stateF s m (k : Nat) = 0 ∧ ¬ v < heightF s m + s.wind.hi) ∨ (stateF s m (k : Nat) = 1 ∧ ¬ v < heightF s m + s.wind.lo ∧ v < heightF s m + s.wind.hi) := by
  have hb := height_tight hG hd
  have h1 := hG.lo
  have h2 := hG.hi
  have h3 := hG.wind
  unfold stateF stateG levelF
  rw [Int.toNat_natCast]
  simp only
  unfold gateRel at hr
  split
  · rename_i h4
    right; left
    refine ⟨rfl, ?_⟩
    rcases hr with ⟨h5, h6⟩ | ⟨h5, h6⟩
    · omega
    · omega
  · split
    · left; exact ⟨rfl, by omega⟩
    · right; right; exact ⟨rfl, by omega, by omega⟩
end Go.Pl

namespace Go.Proofs.Wk
open Go Go.Gx Go.Pl
set_option linter.unusedVariables false
/-! ### copies -/
theorem dup_water {l : List Water} (h : l.length ≤ 1000) : m_laurelkit_Dup_tideWater l = some l := by
  unfold m_laurelkit_Dup_tideWater
  rw [makec_eq ⟨by omega, by omega, by omega, by omega⟩]
  simp only [Option.bind_some]
  rw [appc_eq (by simp; omega)]
  simp
theorem dup_int {l : List Int} (h : l.length ≤ 1000) : m_laurelkit_Dup_int l = some l := by
  unfold m_laurelkit_Dup_int
  rw [makec_eq ⟨by omega, by omega, by omega, by omega⟩]
  simp only [Option.bind_some]
  rw [appc_eq (by simp; omega)]
  simp
theorem dup_sill {l : List Sill} (h : l.length ≤ 1000) : m_laurelkit_Dup_tideSill l = some l := by
  unfold m_laurelkit_Dup_tideSill
  rw [makec_eq ⟨by omega, by omega, by omega, by omega⟩]
  simp only [Option.bind_some]
  rw [appc_eq (by simp; omega)]
  simp
/-- sands whose lists are short -/
structure Short (s : Sands) : Prop where
  t : s.table.length ≤ 100
  f : s.floors.length ≤ 100
  s : s.sills.length ≤ 100
theorem own_eq {s : Sands} (h : Short s) : m_laurellaw01_Own s = some s := by
  have h1 := h.t
  have h2 := h.f
  have h3 := h.s
  unfold m_laurellaw01_Own
  rw [dup_water (by omega), dup_int (by omega), dup_sill (by omega)]
  rfl
theorem take_snoc {α : Type} {l : List α} {k : Nat} (d : α) (h : k < l.length) : l.take k ++ [l.getD k d] = l.take (k + 1) := by
  rw [List.take_succ_eq_append_getElem h, List.getD_eq_getElem?_getD]
  simp [h]
theorem Good.short {s : Sands} (h : Good s) : Short s := ⟨by have := h.tl; omega, by have := h.fl; omega, by have := h.sl; omega⟩
theorem x_Check_eq {s : Sands} (hs : Short s) : x_Check s = some (check s) := by
  have h1 := hs.t
  have h2 := hs.f
  have h3 := hs.s
  unfold x_Check
  rw [if_pos ⟨by omega, by omega, by omega⟩]
theorem x_Height_eq {s : Sands} {m : Int} (hs : Short s) : x_Height s m = some (HeightR s m) := by
  have h1 := hs.t
  have h2 := hs.f
  have h3 := hs.s
  unfold x_Height
  rw [if_pos ⟨by omega, by omega, by omega⟩]
theorem x_Level_eq {s : Sands} {m : Int} (hs : Short s) : x_Level s m = some (LevelR s m) := by
  have h1 := hs.t
  have h2 := hs.f
  have h3 := hs.s
  unfold x_Level
  rw [if_pos ⟨by omega, by omega, by omega⟩]
theorem x_awake_eq : x_awake = some true := rfl
/-! ### sands that pass -/
theorem check_of_good {s : Sands} (h : Good s) : check s = 0 := by
  have h1 := h.tl
  have h2 := h.fl
  have h3 := h.sl
  have e1 : inr s.table.length 2 12 = true := inr_iff.2 (by omega)
  have e2 : inr s.floors.length 1 8 = true := inr_iff.2 (by omega)
  have e3 : decide (16 < (s.sills.length : Int)) = false := by simp; omega
  have e4 : s.table.all bigW = true := all_of_getD (d := default) (fun j hj => by
    have := h.tab j hj
    simp only [bigW, Bool.and_eq_true, inr_iff]; omega)
  have e5 : inr s.wind.lo (-50) 50 = true := inr_iff.2 (by have := h.lo; omega)
  have e6 : inr s.wind.hi (-50) 50 = true := inr_iff.2 (by have := h.hi; omega)
  have e7 : s.floors.all hgt = true := all_of_getD (d := 0) (fun j hj => by
    have := h.flo j hj
    rw [hgt_iff]; omega)
  have e8 : s.sills.all (fun x => hgt x.h) = true := all_of_getD (d := default) (fun j hj => by
    have := h.sh j hj
    rw [hgt_iff]; omega)
  have e9 : ordered s = true := by
    rw [ordered_true h.inc]
    simp [h.wind]
  have e10 : s.sills.all (fun x => isEnd s x.a && isEnd s x.b) = true := all_of_getD (d := default) (fun j hj => by
    have ha := h.sa j hj
    have hb := h.sb j hj
    simp only [Bool.and_eq_true, isEnd_iff]
    omega)
  have e11 : s.sills.all (fun x => !decide (x.a = x.b)) = true := all_of_getD (d := default) (fun j hj => by
    have := h.ne j hj
    simpa using this)
  unfold check
  rw [e1, e2, e3, e4, e5, e6, e7, e8, e9, e10, e11]
  rfl
/-- the gates hang on floors and sills alone -/
theorem fix_fs {s t : Sands} (hf : s.floors = t.floors) (hs : s.sills = t.sills) : ∀ (k : Nat) (g : List Int), fixF s k g = fixF t k g
  | 0, _ => rfl
  | k + 1, g => by
    have e : roundF s g = roundF t g := by
      cases s; cases t; simp only at hf hs; subst hf hs; rfl
    unfold fixF
    rw [e, fix_fs hf hs k]
theorem gates_fs {s t : Sands} (hf : s.floors = t.floors) (hs : s.sills = t.sills) : gatesOf s = gatesOf t := fix_fs hf hs 8001 _
theorem x_All_eq {s : Sands} {m : Int} (hs : Short s) : x_All s m = some (AllR s m) := by
  have h1 := hs.t
  have h2 := hs.f
  have h3 := hs.s
  unfold x_All
  rw [if_pos ⟨by omega, by omega, by omega⟩]
theorem x_Turn_eq {s : Sands} {p m : Int} (hs : Short s) : x_Turn s p m = some (TurnR s p m) := by
  have h1 := hs.t
  have h2 := hs.f
  have h3 := hs.s
  unfold x_Turn
  rw [if_pos ⟨by omega, by omega, by omega⟩]
theorem x_At_eq {s : Sands} {m p : Int} (hs : Short s) : x_At s m p = some (AtR s m p) := by
  have h1 := hs.t
  have h2 := hs.f
  have h3 := hs.s
  unfold x_At
  rw [if_pos ⟨by omega, by omega, by omega⟩]
theorem x_Gate_eq {s : Sands} {p : Int} (hs : Short s) : x_Gate s p = some (GateR s p) := by
  have h1 := hs.t
  have h2 := hs.f
  have h3 := hs.s
  unfold x_Gate
  rw [if_pos ⟨by omega, by omega, by omega⟩]
theorem MadeOK.good {pl sl : Int} {s : Sands} (h : MadeOK pl sl s) (hp : pl ≤ 8) (hs : sl ≤ 16) : Good s := good_of_check (h.check hp hs)
/-- a minute of the day, out of any number -/
theorem minute_in {s : Sands} (hG : Good s) {k : Int} (hk : 0 ≤ k ∧ k ≤ 255) :
    ∃ t, remc (IntKind.i64.wrap k) (lastM s - firstM s + 1) = some t ∧ firstM s ≤ firstM s + t ∧ firstM s + t ≤ lastM s ∧ 0 ≤ t := by
  have hds := day_span hG
  rw [Go.Fw.wrap_i64 (by omega), remc_eq (by omega)]
  have h1 := Int.tmod_nonneg (lastM s - firstM s + 1) (show (0 : Int) ≤ k by omega)
  have h2 := Int.tmod_lt_of_pos k (show 0 < lastM s - firstM s + 1 by omega)
  exact ⟨_, rfl, by omega, by omega, h1⟩
theorem place_in {s : Sands} (hG : Good s) {k : Int} (hk : 0 ≤ k ∧ k ≤ 255) : ∃ t, remc (IntKind.i64.wrap k) (s.floors.length : Int) = some t ∧ 0 ≤ t ∧ t < s.floors.length := by
  have hfl := hG.fl
  rw [Go.Fw.wrap_i64 (by omega), remc_eq (by omega)]
  have h1 := Int.tmod_nonneg (s.floors.length : Int) (show (0 : Int) ≤ k by omega)
  have h2 := Int.tmod_lt_of_pos k (show 0 < (s.floors.length : Int) by omega)
  exact ⟨_, rfl, h1, h2⟩
theorem lawfirst_eq {s : Sands} (h : 0 < s.table.length) : m_laurellaw01_first s = some (firstM s) := by
  unfold m_laurellaw01_first
  rw [show (0 : Int) = ((0 : Nat) : Int) from rfl, ix_nat default h]
  rfl
theorem lawlast_eq {s : Sands} (hs : Short s) (h : 0 < s.table.length) : m_laurellaw01_last s = some (lastM s) := by
  have h1 := hs.t
  unfold m_laurellaw01_last
  rw [subc_eq (by omega), Option.bind_some, show (s.table.length : Int) - 1 = ((s.table.length - 1 : Nat) : Int) by omega, ix_nat default (by omega)]
  rfl
end Go.Proofs.Wk

namespace Go.Proofs.Wk
open Go Go.Gx Go.Pl
set_option linter.unusedVariables false
theorem dayN_eq' {s : Sands} (hG : Good s) : ((dayN s : Nat) : Int) = lastM s - firstM s + 1 := by
  have := day_span hG
  unfold dayN; omega
/-! ### the look that settles most -/
def mostF (s : Sands) (m : Int) (p : Nat) : Int := if (gatesOf s).getD p 0 = 1000 then 50 else (gatesOf s).getD p 0 - heightF s m
def yesF (s : Sands) (m : Int) (p : Nat) : Int := max 0 (s.wind.hi - max s.wind.lo (mostF s m p + 1) + 1)
def allW (s : Sands) : Int := s.wind.hi - s.wind.lo + 1
def nF (s : Sands) (m : Int) (p : Nat) : Int := max (yesF s m p) (allW s - yesF s m p)
def askStep (s : Sands) (m : Int) (st : Int × Look) (p : Nat) : Int × Look := if nF s m p < st.1 then (nF s m p, ⟨m, (p : Int), true⟩) else st
def askPl (s : Sands) (m : Int) (st : Int × Look) (k : Nat) : Int × Look := (List.range k).foldl (askStep s m) st
theorem askPl_succ {s : Sands} {m : Int} {st : Int × Look} {k : Nat} : askPl s m st (k + 1) = askStep s m (askPl s m st k) k := by
  unfold askPl
  rw [List.range_succ, List.foldl_append]
  rfl
def askDay (s : Sands) (k : Nat) : Int × Look := (List.range k).foldl (fun st i => askPl s (firstM s + (i : Nat)) st s.floors.length) (allW s + 1, ⟨0, 0, false⟩)
theorem askDay_succ {s : Sands} {k : Nat} : askDay s (k + 1) = askPl s (firstM s + (k : Nat)) (askDay s k) s.floors.length := by
  unfold askDay
  rw [List.range_succ, List.foldl_append]
  rfl
theorem yes_bd {s : Sands} (hG : Good s) {m : Int} {p : Nat} : 0 ≤ yesF s m p ∧ yesF s m p ≤ 101 := by
  have := hG.lo
  have := hG.hi
  unfold yesF
  omega
theorem left_one {s : Sands} {m : Int} {p : Nat} : leftG s (gatesOf s) [⟨m, (p : Int), true⟩] = ⟨max s.wind.lo (mostF s m p + 1), s.wind.hi⟩ := by
  show leftStep s (gatesOf s) s.wind ⟨m, (p : Int), true⟩ = _
  unfold leftStep
  rw [if_pos rfl]
  rfl
theorem x_left_eq {s : Sands} (hG : Good s) {k : List Look} (hk : k.all (fun l => dayF s l.min && isPlace s l.place) = true) (hl : k.length ≤ 1000) : x_left s k = some (leftG s (gatesOf s) k) := by
  have hs := Good.short hG
  have h1 := hs.t
  have h2 := hs.f
  have h3 := hs.s
  unfold x_left
  rw [if_pos ⟨⟨by omega, by omega, by omega⟩, check_of_good hG, hk, by omega⟩]
theorem x_day_eq {s : Sands} (hG : Good s) {m : Int} : x_day s m = some (dayF s m) := by
  have hs := Good.short hG
  have h1 := hs.t
  have h2 := hs.f
  have h3 := hs.s
  unfold x_day
  rw [if_pos ⟨⟨by omega, by omega, by omega⟩, check_of_good hG⟩]
/-- the program's places of a minute -/
theorem ask_pl {s : Sands} (hG : Good s) {S : m_tide_Ask_1_S0} (hd : dayF s S.minute10 = true) (st : Int × Look) :
    iterM FU (m_tide_Ask_1_L1 s S (allW s)) ⟨st.1, 0, st.2.min, st.2.place, st.2.wet⟩ = some ⟨(askPl s S.minute10 st s.floors.length).1, (askPl s S.minute10 st s.floors.length).2.min, (askPl s S.minute10 st s.floors.length).2.place, (askPl s S.minute10 st s.floors.length).2.wet⟩ := by
  have hfl := hG.fl
  have hlo := hG.lo
  have hhi := hG.hi
  have hwi := hG.wind
  have hh := height_tight hG hd
  have hgo := gates_ok (s := s)
  have hz : (⟨st.1, 0, st.2.min, st.2.place, st.2.wet⟩ : m_tide_Ask_1_S1) = (fun k : Nat => (⟨(askPl s S.minute10 st k).1, (k : Int), (askPl s S.minute10 st k).2.min, (askPl s S.minute10 st k).2.place, (askPl s S.minute10 st k).2.wet⟩ : m_tide_Ask_1_S1)) 0 := rfl
  rw [hz]
  refine iterM_run (fun k : Nat => (⟨(askPl s S.minute10 st k).1, (k : Int), (askPl s S.minute10 st k).2.min, (askPl s S.minute10 st k).2.place, (askPl s S.minute10 st k).2.wet⟩ : m_tide_Ask_1_S1)) s.floors.length (fun k hk => ?_) ?_ FU (FU_lt (by omega))
  · have hlk : ([⟨S.minute10, (k : Int), true⟩] : List Look).all (fun l => dayF s l.min && isPlace s l.place) = true := by
      have : isPlace s (k : Int) = true := isPlace_iff.2 ⟨by omega, by omega⟩
      simp [hd, this]
    have hg0 := hgo.lo k
    have hg1 := hgo.hi k
    have hm : -1000 ≤ mostF s S.minute10 k ∧ mostF s S.minute10 k ≤ 1000 := by unfold mostF; split <;> omega
    have e1 : max 0 (s.wind.hi - max s.wind.lo (mostF s S.minute10 k + 1) + 1) = yesF s S.minute10 k := rfl
    have hy := yes_bd hG (m := S.minute10) (p := k)
    have ha : allW s = s.wind.hi - s.wind.lo + 1 := rfl
    rw [askPl_succ]
    generalize askPl s S.minute10 st k = x
    unfold m_tide_Ask_1_L1
    dsimp only
    rw [if_pos (by omega), x_left_eq hG hlk (by simp), Option.bind_some, left_one]
    dsimp only
    rw [subc_eq (by omega), Option.bind_some, addc_eq (by omega), Option.bind_some, e1, subc_eq (by omega), Option.bind_some]
    have e2 : max (yesF s S.minute10 k) (allW s - yesF s S.minute10 k) = nF s S.minute10 k := rfl
    rw [e2]
    unfold askStep
    by_cases h : nF s S.minute10 k < x.1
    · rw [if_pos h, if_pos h, Option.bind_some, addc_eq (by omega), Option.bind_some]
      rfl
    · rw [if_neg h, if_neg h, Option.bind_some, addc_eq (by omega), Option.bind_some]
      rfl
  · unfold m_tide_Ask_1_L1
    dsimp only
    rw [if_neg (by omega)]
theorem ask_day {s : Sands} (hG : Good s) : iterM FU (m_tide_Ask_1_L0 s (allW s)) ⟨allW s + 1, firstM s, 0, 0, false⟩ = some ⟨(askDay s (dayN s)).1, (askDay s (dayN s)).2.min, (askDay s (dayN s)).2.place, (askDay s (dayN s)).2.wet⟩ := by
  have hds := day_span hG
  have hn := dayN_eq' hG
  have hz : (⟨allW s + 1, firstM s, 0, 0, false⟩ : m_tide_Ask_1_S0) = (fun k : Nat => (⟨(askDay s k).1, firstM s + (k : Int), (askDay s k).2.min, (askDay s k).2.place, (askDay s k).2.wet⟩ : m_tide_Ask_1_S0)) 0 := by simp [askDay]
  rw [hz]
  refine iterM_run (fun k : Nat => (⟨(askDay s k).1, firstM s + (k : Int), (askDay s k).2.min, (askDay s k).2.place, (askDay s k).2.wet⟩ : m_tide_Ask_1_S0)) (dayN s) (fun k hk => ?_) ?_ FU (FU_lt (by omega))
  · have hd : dayF s (firstM s + (k : Int)) = true := by simp only [dayF, inr_iff]; omega
    have hp := ask_pl hG (S := ⟨(askDay s k).1, firstM s + (k : Int), (askDay s k).2.min, (askDay s k).2.place, (askDay s k).2.wet⟩) hd (askDay s k)
    dsimp only at hp
    unfold m_tide_Ask_1_L0
    dsimp only
    rw [x_day_eq hG, Option.bind_some, hd, if_pos rfl, hp, Option.bind_some, addc_eq (by omega), Option.bind_some, askDay_succ]
    exact congrArg (fun z => some (Sum.inl (⟨_, z, _, _, _⟩ : m_tide_Ask_1_S0))) (by omega)
  · have hd : dayF s (firstM s + ((dayN s : Nat) : Int)) = false := by
      have : ¬ (dayF s (firstM s + ((dayN s : Nat) : Int)) = true) := by simp only [dayF, inr_iff]; omega
      simpa using this
    unfold m_tide_Ask_1_L0
    dsimp only
    rw [x_day_eq hG, Option.bind_some, hd, if_neg (by decide)]
/-- what Ask comes to -/
def AskR (s : Sands) : m_tide_Ask_1_R := if check s ≠ 0 then ⟨⟨0, 0, false⟩, 0, check s⟩ else if s.wind.lo = s.wind.hi then ⟨⟨0, 0, false⟩, 0, 6⟩ else ⟨(askDay s (dayN s)).2, (askDay s (dayN s)).1, 0⟩
theorem ask_eq {s : Sands} (hS : Short s) : m_tide_Ask_1 s = some (AskR s) := by
  have h1 := hS.t
  have h2 := hS.f
  have h3 := hS.s
  unfold m_tide_Ask_1 AskR
  rw [if_pos ⟨by omega, by omega, by omega⟩]
  by_cases hc : check s = 0
  · have hG := good_of_check hc
    have htl := hG.tl
    have hlo := hG.lo
    have hhi := hG.hi
    have hwi := hG.wind
    rw [if_pos hc, if_neg (by rw [hc]; simp), subc_eq (by omega), Option.bind_some, addc_eq (by omega), Option.bind_some]
    by_cases he : s.wind.lo = s.wind.hi
    · rw [if_pos (by omega), if_pos he]
    · rw [if_neg (by omega), if_neg he, addc_eq (by omega), Option.bind_some, ix_eq default (by omega) (by omega), Option.bind_some]
      have e : (s.table.getD (0 : Int).toNat default).min = firstM s := rfl
      have e2 : s.wind.hi - s.wind.lo + 1 = allW s := rfl
      rw [e, e2, ask_day hG, Option.bind_some]
  · rw [if_neg hc, if_pos hc]
end Go.Proofs.Wk

