/- What the functions that the law TideParted reaches come to, and why it holds: part 4. -/
import Derived.Test.YtaicfimbclibpaaTideParted3
namespace Go.Proofs.Wk
open Go Go.Fw Go.Gx Go.Pl
set_option linter.unusedVariables false
theorem gxinf3 : (Try.prog.info? 3).map (fun i => (i.zero, i.size, i.bytes)) = some (some (.int .i64 0), 1, 8) := by kernel_rfl
theorem gxinf25 : (Try.prog.info? 25).map (fun i => (i.zero, i.size, i.bytes)) = some (some (.agg #[.int .i64 0, .int .i64 0]), 2, 16) := by kernel_rfl
theorem gxinf51 : (Try.prog.info? 51).map (fun i => (i.zero, i.size, i.bytes)) = some (some (.agg #[.int .i64 0, .int .i64 0, .int .i64 0]), 3, 24) := by kernel_rfl
theorem gxinf68 : (Try.prog.info? 68).map (fun i => (i.zero, i.size, i.bytes)) = some (some (.agg #[.int .i64 0, .int .i64 0]), 2, 16) := by kernel_rfl
structure m_laurelkit_Pile_R where
  t5_1 : Int
  t5_2 : Int
def m_laurelkit_Pile (shells0 : (List Int)) : Option m_laurelkit_Pile_R :=
 some (⟨0, 0⟩ : m_laurelkit_Pile_R)
set_option maxRecDepth 100000 in
set_option maxHeartbeats 4000000 in
theorem c_laurelkit_Pile (shells0 : (List Int)) (qa0 : Option Addr) (na0 ca0 : Nat) (w : World) (hw : HV w (keys [] []) [] [] [(aB qa0, aO qa0, RU8.enc shells0)] w) (hna0 : shells0.length = na0) (hqa0 : AOK na0 qa0) (hla0 : na0 ≤ ca0) {res : m_laurelkit_Pile_R} (hm : m_laurelkit_Pile shells0 = some res) :
    Calls Try.prog 19 #[.slice qa0 na0 ca0] w (fun en w' => ∃ l : Nat, en = .returned (ptr l 0) ∧ (True) ∧ HV w (keys [] []) [(l, .cells #[.slice qa0 na0 ca0, .int .i64 res.t5_1, .int .u32 res.t5_2] 138 (0, 0))] [] [] w') := by
  unfold m_laurelkit_Pile at hm
  refine g_enter (args := [.slice qa0 na0 ca0]) Try.func19 rfl Try.ntmps19 rfl (e := [(0, _)]) rfl (H := HV w (keys [] []) [] [] [(aB qa0, aO qa0, RU8.enc shells0)]) hw ?_
  refine g_seq ?_
  refine g_region ?_
  refine g_val rfl rfl rfl (fun _ _ => v_assign rfl) ?_
  refine g_nil ?_
  refine g_n_then ?_
  refine g_seq ?_
  refine g_region ?_
  refine g_val rfl rfl rfl (fun _ _ => v_move rfl) ?_
  refine g_val rfl rfl rfl (fun _ _ => v_build (vs := [(0, _)]) (cells := [_, _, _]) rfl rfl) ?_
  refine g_boxV rfl rfl (fun b h1 => ?_)
  refine g_val rfl rfl rfl (fun _ _ => v_assign rfl) ?_
  refine g_nil ?_
  refine g_n_then ?_
  refine g_ret ?_
  obtain rfl := Option.some.inj hm
  refine g_done rfl (fun w hh => (.tmp rfl .nil)) (fun w hh => ⟨b, rfl, trivial, hh.sel [0] [] 1 (by decide) (by decide) rfl rfl rfl⟩)
structure m_laurelkit_Heap_pick_R where
  r0 : Int
  h0_1 : Int
  h0_2 : Int
structure m_laurelkit_Heap_pick_C1 where
  h0_1 : Int
  h0_2 : Int
def m_laurelkit_Heap_pick (h00 : (List Int)) (h01 : Int) (h02 : Int) : Option m_laurelkit_Heap_pick_R :=
 (if h01 < (h00.length : Int) then
 ((ix h00 h01).bind fun t29 =>
 some (IntKind.u32.wrap ((IntKind.u32.wrap (40503 * (IntKind.u32.wrap (h02 + 1)))) + (IntKind.u32.wrap (331 * (IntKind.u32.wrap t29)))))) else
 (some (IntKind.u32.wrap (40503 * (IntKind.u32.wrap (h02 + 1)))))).bind fun o =>
 ((addc h01 1).bind fun t38 =>
 if (h00.length : Int) ≤ t38 then
 (some (⟨0, (IntKind.u32.wrap (h02 + 1))⟩ : m_laurelkit_Heap_pick_C1)) else
 (some (⟨t38, h02⟩ : m_laurelkit_Heap_pick_C1))).bind fun o_1 =>
 some (⟨(IntKind.i64.wrap (IntKind.u32.wrap (BitVec.ofInt IntKind.u32.bits (IntKind.u32.wrap (BitVec.ofInt IntKind.u32.bits o ^^^ BitVec.ofInt IntKind.u32.bits (Int.fdiv o (2 ^ min (Int.toNat 9) IntKind.u32.bits))).toNat) &&& BitVec.ofInt IntKind.u32.bits 32767).toNat)), o_1.h0_1, o_1.h0_2⟩ : m_laurelkit_Heap_pick_R)
set_option maxRecDepth 100000 in
set_option maxHeartbeats 4000000 in
theorem c_laurelkit_Heap_pick (h00 : (List Int)) (h01 : Int) (h02 : Int) (pb : Nat) (qa0 : Option Addr) (na0 ca0 : Nat) (w : World) (hw : HV w (keys [(pb, .cells #[.slice qa0 na0 ca0, .int .i64 h01, .int .u32 h02] 138 (0, 0))] []) [(pb, .cells #[.slice qa0 na0 ca0, .int .i64 h01, .int .u32 h02] 138 (0, 0))] [] [(aB qa0, aO qa0, RU8.enc h00)] w) (hna0 : h00.length = na0) (hqa0 : AOK na0 qa0) (hla0 : na0 ≤ ca0) {res : m_laurelkit_Heap_pick_R} (hm : m_laurelkit_Heap_pick h00 h01 h02 = some res) :
    Calls Try.prog 132 #[ptr pb 0] w (fun en w' => ∃ l : Unit, en = .returned (.int .i64 res.r0) ∧ (True) ∧ HV w (keys [(pb, .cells #[.slice qa0 na0 ca0, .int .i64 h01, .int .u32 h02] 138 (0, 0))] []) [(pb, .cells #[.slice qa0 na0 ca0, .int .i64 res.h0_1, .int .u32 res.h0_2] 138 (0, 0))] [] [] w') := by
  unfold m_laurelkit_Heap_pick at hm
  refine g_enter (args := [ptr pb 0]) Try.func132 rfl Try.ntmps132 rfl (e := [(0, _)]) rfl (H := HV w (keys [(pb, .cells #[.slice qa0 na0 ca0, .int .i64 h01, .int .u32 h02] 138 (0, 0))] []) [(pb, .cells #[.slice qa0 na0 ca0, .int .i64 h01, .int .u32 h02] 138 (0, 0))] [] [(aB qa0, aO qa0, RU8.enc h00)]) hw ?_
  refine g_seq ?_
  refine g_region ?_
  refine g_val rfl rfl rfl (fun _ _ => v_assign rfl) ?_
  refine g_nil ?_
  refine g_n_then ?_
  refine g_seq ?_
  refine g_region ?_
  refine g_val rfl rfl rfl (fun _ _ => v_move rfl) ?_
  refine g_val rfl rfl rfl (fun _ _ => v_nilCheck rfl) ?_
  refine g_val rfl rfl rfl (fun w _ => v_fieldAddr 2 (Try.runUnderlying138 w) rfl (Try.sizeOf136 w) rfl) ?_
  refine g_val rfl rfl rfl (fun w hh => v_load (Try.isAgg136 w) rfl (hh.cell 0 rfl rfl)) ?_
  refine g_val rfl rfl rfl (fun _ _ => v_addW rfl rfl) ?_
  refine g_val rfl rfl rfl (fun _ _ => v_mulW rfl rfl) ?_
  refine g_val rfl rfl rfl (fun _ _ => v_assign rfl) ?_
  refine g_nil ?_
  refine g_n_then ?_
  refine g_seq ?_
  obtain ⟨o, h1, h2⟩ := bindO hm
  refine g_cut (ι := Unit) (fun l => True) (fun l => [(0, ptr pb 0), (3, .int .u32 o)]) (fun l => [(pb, .cells #[.slice qa0 na0 ca0, .int .i64 h01, .int .u32 h02] 138 (0, 0))]) (fun l => []) ?_ ?_
  ·replace hm := h1
   refine g_seq ?_
   refine g_draw none (.free 0 (.free 1 (.free 2 (.hoist 3 (.free 4 (.free 5 (.free 6 (.hoist 7 (.free 8 (.free 9 .done)))))))))) _ rfl (by decide +kernel) (fun w k hh => hh.draw k) (fun w hh => hh) ?_
   refine p_free rfl rfl rfl rfl (fun _ _ => v_move rfl) ?_
   refine p_free rfl rfl rfl rfl (fun _ _ => v_nilCheck rfl) ?_
   refine p_free rfl rfl rfl rfl (fun w _ => v_fieldAddr 1 (Try.runUnderlying138 w) rfl (Try.sizeOf3 w) rfl) ?_
   refine p_hoist rfl rfl rfl rfl (fun w hh => v_load (Try.isAgg3 w) rfl (hh.cell 0 rfl rfl)) ?_
   refine p_free rfl rfl rfl rfl (fun _ _ => v_move rfl) ?_
   refine p_free rfl rfl rfl rfl (fun _ _ => v_nilCheck rfl) ?_
   refine p_free rfl rfl rfl rfl (fun w _ => v_fieldAddr 0 (Try.runUnderlying138 w) rfl (Try.sizeOf22 w) rfl) ?_
   refine p_hoist rfl rfl rfl rfl (fun w hh => v_load (Try.isAgg22 w) rfl (hh.cell 0 rfl rfl)) ?_
   refine p_free rfl rfl rfl rfl (fun w _ => v_lenR hna0 (Try.runUnderlying22 w) rfl) ?_
   refine p_free rfl rfl rfl rfl (fun _ _ => v_lss rfl rfl) ?_
   refine p_done ?_
   refine g_n_then ?_
   refine g_cond rfl (fun h3 => ?_) (fun h3 => ?_)
   ·replace hm := ifT (of_decide_eq_true h3) hm
    refine g_draw none (.free 0 (.free 1 (.free 2 (.free 3 (.hoist 4 (.free 5 (.free 6 (.free 7 (.hoist 8 (.free 9 (.hoist 10 (.free 11 (.free 12 (.free 13 (.free 14 .done))))))))))))))) _ rfl (by decide +kernel) (fun w k hh => hh.draw k) (fun w hh => hh) ?_
    refine p_free rfl rfl rfl rfl (fun _ _ => v_move rfl) ?_
    refine p_free rfl rfl rfl rfl (fun _ _ => v_move rfl) ?_
    refine p_free rfl rfl rfl rfl (fun _ _ => v_nilCheck rfl) ?_
    refine p_free rfl rfl rfl rfl (fun w _ => v_fieldAddr 0 (Try.runUnderlying138 w) rfl (Try.sizeOf22 w) rfl) ?_
    refine p_hoist rfl rfl rfl rfl (fun w hh => v_load (Try.isAgg22 w) rfl (hh.cell 0 rfl rfl)) ?_
    refine p_free rfl rfl rfl rfl (fun _ _ => v_move rfl) ?_
    refine p_free rfl rfl rfl rfl (fun _ _ => v_nilCheck rfl) ?_
    refine p_free rfl rfl rfl rfl (fun w _ => v_fieldAddr 1 (Try.runUnderlying138 w) rfl (Try.sizeOf3 w) rfl) ?_
    refine p_hoist rfl rfl rfl rfl (fun w hh => v_load (Try.isAgg3 w) rfl (hh.cell 0 rfl rfl)) ?_
    obtain ⟨t29, h4, hm⟩ := bindO hm
    refine p_free rfl rfl rfl rfl (fun w _ => v_ixR h4 (Try.runUnderlying22 w) (Try.sizeOf5 w) rfl rfl hna0 hqa0) ?_
    refine p_hoist rfl rfl rfl rfl (fun w hh => v_ldE RU8 0 h4 (Try.isAgg5 w) rfl (hh.seg 0 rfl) rfl (Nat.add_zero _).symm) ?_
    refine p_free rfl rfl rfl rfl (fun w _ => v_conv (Try.runUnderlying5 w) (Try.runUnderlying136 w) rfl) ?_
    refine p_free rfl rfl rfl rfl (fun _ _ => v_mulW rfl rfl) ?_
    refine p_free rfl rfl rfl rfl (fun _ _ => v_addW rfl rfl) ?_
    refine p_free rfl rfl rfl rfl (fun _ _ => v_assign rfl) ?_
    refine p_done ?_
    obtain rfl := Option.some.inj hm
    exact g_leaf () (trivial) ((.cons rfl (.cons rfl .nil))) (fun w hh => hh)
   ·replace hm := ifF (of_decide_eq_false h3) hm
    refine g_skip ?_
    obtain rfl := Option.some.inj hm
    exact g_leaf () (trivial) ((.cons rfl (.cons rfl .nil))) (fun w hh => hh)
  ·intro l hj
   replace hm := h2
   refine g_n_then ?_
   refine g_seq ?_
   obtain ⟨o_1, h5, h6⟩ := bindO hm
   refine g_cut (ι := Unit) (fun l_1 => True) (fun l_1 => [(3, .int .u32 o)]) (fun l_1 => [(pb, .cells #[.slice qa0 na0 ca0, .int .i64 o_1.h0_1, .int .u32 o_1.h0_2] 138 (0, 0))]) (fun l_1 => []) ?_ ?_
   ·replace hm := h5
    refine g_seq ?_
    refine g_region ?_
    refine g_val rfl rfl rfl (fun _ _ => v_move rfl) ?_
    refine g_val rfl rfl rfl (fun _ _ => v_nilCheck rfl) ?_
    refine g_val rfl rfl rfl (fun w _ => v_fieldAddr 1 (Try.runUnderlying138 w) rfl (Try.sizeOf3 w) rfl) ?_
    refine g_val rfl rfl rfl (fun w hh => v_load (Try.isAgg3 w) rfl (hh.cell 0 rfl rfl)) ?_
    obtain ⟨t38, h7, hm⟩ := bindO hm
    refine g_val rfl rfl rfl (fun _ _ => v_addc h7 rfl rfl) ?_
    refine g_val rfl rfl rfl (fun _ _ => v_nilCheck rfl) ?_
    refine g_val rfl rfl rfl (fun w _ => v_fieldAddr 1 (Try.runUnderlying138 w) rfl (Try.sizeOf3 w) rfl) ?_
    refine g_stS (cs' := #[_, _, _]) (S' := [_]) 0 (fun w => Try.sizeOf3 w) rfl rfl rfl rfl rfl rfl rfl ?_
    refine g_nil ?_
    refine g_n_then ?_
    refine g_seq ?_
    refine g_draw none (.free 0 (.free 1 (.free 2 (.hoist 3 (.free 4 (.free 5 (.free 6 (.hoist 7 (.free 8 (.free 9 .done)))))))))) _ rfl (by decide +kernel) (fun w k hh => hh.draw k) (fun w hh => hh) ?_
    refine p_free rfl rfl rfl rfl (fun _ _ => v_move rfl) ?_
    refine p_free rfl rfl rfl rfl (fun _ _ => v_nilCheck rfl) ?_
    refine p_free rfl rfl rfl rfl (fun w _ => v_fieldAddr 1 (Try.runUnderlying138 w) rfl (Try.sizeOf3 w) rfl) ?_
    refine p_hoist rfl rfl rfl rfl (fun w hh => v_load (Try.isAgg3 w) rfl (hh.cell 0 rfl rfl)) ?_
    refine p_free rfl rfl rfl rfl (fun _ _ => v_move rfl) ?_
    refine p_free rfl rfl rfl rfl (fun _ _ => v_nilCheck rfl) ?_
    refine p_free rfl rfl rfl rfl (fun w _ => v_fieldAddr 0 (Try.runUnderlying138 w) rfl (Try.sizeOf22 w) rfl) ?_
    refine p_hoist rfl rfl rfl rfl (fun w hh => v_load (Try.isAgg22 w) rfl (hh.cell 0 rfl rfl)) ?_
    refine p_free rfl rfl rfl rfl (fun w _ => v_lenR hna0 (Try.runUnderlying22 w) rfl) ?_
    refine p_free rfl rfl rfl rfl (fun _ _ => v_geq rfl rfl) ?_
    refine p_done ?_
    refine g_n_then ?_
    refine g_cond rfl (fun h8 => ?_) (fun h8 => ?_)
    ·replace hm := ifT (of_decide_eq_true h8) hm
     refine g_region ?_
     refine g_val rfl rfl rfl (fun _ _ => v_move rfl) ?_
     refine g_val rfl rfl rfl (fun _ _ => v_move rfl) ?_
     refine g_val rfl rfl rfl (fun _ _ => v_move rfl) ?_
     refine g_val rfl rfl rfl (fun _ _ => v_nilCheck rfl) ?_
     refine g_val rfl rfl rfl (fun w _ => v_fieldAddr 2 (Try.runUnderlying138 w) rfl (Try.sizeOf136 w) rfl) ?_
     refine g_val rfl rfl rfl (fun w hh => v_load (Try.isAgg136 w) rfl (hh.cell 0 rfl rfl)) ?_
     refine g_val rfl rfl rfl (fun _ _ => v_addW rfl rfl) ?_
     refine g_val rfl rfl rfl (fun _ _ => v_nilCheck rfl) ?_
     refine g_val rfl rfl rfl (fun w _ => v_fieldAddr 1 (Try.runUnderlying138 w) rfl (Try.sizeOf3 w) rfl) ?_
     refine g_stS (cs' := #[_, _, _]) (S' := [_]) 0 (fun w => Try.sizeOf3 w) rfl rfl rfl rfl rfl rfl rfl ?_
     refine g_val rfl rfl rfl (fun _ _ => v_nilCheck rfl) ?_
     refine g_val rfl rfl rfl (fun w _ => v_fieldAddr 2 (Try.runUnderlying138 w) rfl (Try.sizeOf136 w) rfl) ?_
     refine g_stS (cs' := #[_, _, _]) (S' := [_]) 0 (fun w => Try.sizeOf136 w) rfl rfl rfl rfl rfl rfl rfl ?_
     refine g_nil ?_
     obtain rfl := Option.some.inj hm
     exact g_leaf () (trivial) ((.cons rfl .nil)) (fun w hh => hh)
    ·replace hm := ifF (of_decide_eq_false h8) hm
     refine g_skip ?_
     obtain rfl := Option.some.inj hm
     exact g_leaf () (trivial) ((.cons rfl .nil)) (fun w hh => hh)
   ·intro l_1 hj
    replace hm := h6
    refine g_n_then ?_
    refine g_seq ?_
    refine g_region ?_
    refine g_val rfl rfl rfl (fun _ _ => v_move rfl) ?_
    refine g_val rfl rfl rfl (fun _ _ => v_move rfl) ?_
    refine g_val rfl rfl rfl (fun _ _ => v_shr rfl rfl (by decide)) ?_
    refine g_val rfl rfl rfl (fun _ _ => v_bits rfl rfl rfl) ?_
    refine g_val rfl rfl rfl (fun _ _ => v_bits rfl rfl rfl) ?_
    refine g_val rfl rfl rfl (fun w _ => v_conv (Try.runUnderlying136 w) (Try.runUnderlying3 w) rfl) ?_
    refine g_val rfl rfl rfl (fun _ _ => v_assign rfl) ?_
    refine g_nil ?_
    refine g_n_then ?_
    refine g_ret ?_
    obtain rfl := Option.some.inj hm
    refine g_done rfl (fun w hh => (.tmp rfl .nil)) (fun w hh => ⟨(), rfl, trivial, hh.sel [0] [] 1 (by decide) (by decide) rfl rfl rfl⟩)
structure m_laurelkit_Heap_Upto_R where
  r0 : Int
  h0_1 : Int
  h0_2 : Int
def m_laurelkit_Heap_Upto (h00 : (List Int)) (h01 : Int) (h02 : Int) (n1 : Int) : Option m_laurelkit_Heap_Upto_R :=
 (m_laurelkit_Heap_pick h00 h01 h02).bind fun t6 =>
 (addc n1 1).bind fun t8 =>
 (remc t6.r0 (max 1 t8)).bind fun t10 =>
 some (⟨t10, t6.h0_1, t6.h0_2⟩ : m_laurelkit_Heap_Upto_R)
set_option maxRecDepth 100000 in
set_option maxHeartbeats 4000000 in
theorem c_laurelkit_Heap_Upto (h00 : (List Int)) (h01 : Int) (h02 : Int) (n1 : Int) (pb : Nat) (qa0 : Option Addr) (na0 ca0 : Nat) (w : World) (hw : HV w (keys [(pb, .cells #[.slice qa0 na0 ca0, .int .i64 h01, .int .u32 h02] 138 (0, 0))] []) [(pb, .cells #[.slice qa0 na0 ca0, .int .i64 h01, .int .u32 h02] 138 (0, 0))] [] [(aB qa0, aO qa0, RU8.enc h00)] w) (hna0 : h00.length = na0) (hqa0 : AOK na0 qa0) (hla0 : na0 ≤ ca0) {res : m_laurelkit_Heap_Upto_R} (hm : m_laurelkit_Heap_Upto h00 h01 h02 n1 = some res) :
    Calls Try.prog 64 #[ptr pb 0, .int .i64 n1] w (fun en w' => ∃ l : Unit, en = .returned (.int .i64 res.r0) ∧ (True) ∧ HV w (keys [(pb, .cells #[.slice qa0 na0 ca0, .int .i64 h01, .int .u32 h02] 138 (0, 0))] []) [(pb, .cells #[.slice qa0 na0 ca0, .int .i64 res.h0_1, .int .u32 res.h0_2] 138 (0, 0))] [] [] w') := by
  unfold m_laurelkit_Heap_Upto at hm
  refine g_enter (args := [ptr pb 0, .int .i64 n1]) Try.func64 rfl Try.ntmps64 rfl (e := [(0, _), (1, _)]) rfl (H := HV w (keys [(pb, .cells #[.slice qa0 na0 ca0, .int .i64 h01, .int .u32 h02] 138 (0, 0))] []) [(pb, .cells #[.slice qa0 na0 ca0, .int .i64 h01, .int .u32 h02] 138 (0, 0))] [] [(aB qa0, aO qa0, RU8.enc h00)]) hw ?_
  refine g_seq ?_
  refine g_region ?_
  refine g_val rfl rfl rfl (fun _ _ => v_assign rfl) ?_
  refine g_nil ?_
  refine g_n_then ?_
  refine g_seq ?_
  refine g_region ?_
  refine g_val rfl rfl rfl (fun _ _ => v_move rfl) ?_
  obtain ⟨t6, h1, hm⟩ := bindO hm
  refine g_callH [_] [] rfl rfl rfl rfl rfl rfl rfl (fun a w => Try.call132 a w) (fun w hh => c_laurelkit_Heap_pick h00 h01 h02 pb qa0 na0 ca0 w (HV.callee (S0 := [_]) (vs0 := []) hh (roC (hh.rsep (S0 := [_]) (vs0 := []) 0 rfl) roN)) hna0 hqa0 hla0 h1) (fun l h2 => ?_)
  refine g_sel (S' := [_]) (vs' := []) [0] [] 0 (by decide) (by decide) rfl rfl rfl ?_
  refine g_val rfl rfl rfl (fun _ _ => v_move rfl) ?_
  obtain ⟨t8, h3, hm⟩ := bindO hm
  refine g_val rfl rfl rfl (fun _ _ => v_addc h3 rfl rfl) ?_
  refine g_val rfl rfl rfl (fun _ _ => v_max rfl rfl) ?_
  obtain ⟨t10, h4, hm⟩ := bindO hm
  refine g_val rfl rfl rfl (fun _ _ => v_remc h4 rfl rfl) ?_
  refine g_val rfl rfl rfl (fun _ _ => v_assign rfl) ?_
  refine g_nil ?_
  refine g_n_then ?_
  refine g_ret ?_
  obtain rfl := Option.some.inj hm
  refine g_done rfl (fun w hh => (.tmp rfl .nil)) (fun w hh => ⟨(), rfl, trivial, hh.sel [0] [] 1 (by decide) (by decide) rfl rfl rfl⟩)
structure m_laurelkit_Heap_From_R where
  r0 : Int
  h0_1 : Int
  h0_2 : Int
def m_laurelkit_Heap_From (h00 : (List Int)) (h01 : Int) (h02 : Int) (lo1 : Int) (hi2 : Int) : Option m_laurelkit_Heap_From_R :=
 (subc hi2 lo1).bind fun t11 =>
 (m_laurelkit_Heap_Upto h00 h01 h02 t11).bind fun t12 =>
 (addc lo1 t12.r0).bind fun t13 =>
 some (⟨t13, t12.h0_1, t12.h0_2⟩ : m_laurelkit_Heap_From_R)
set_option maxRecDepth 100000 in
set_option maxHeartbeats 4000000 in
theorem c_laurelkit_Heap_From (h00 : (List Int)) (h01 : Int) (h02 : Int) (lo1 : Int) (hi2 : Int) (pb : Nat) (qa0 : Option Addr) (na0 ca0 : Nat) (w : World) (hw : HV w (keys [(pb, .cells #[.slice qa0 na0 ca0, .int .i64 h01, .int .u32 h02] 138 (0, 0))] []) [(pb, .cells #[.slice qa0 na0 ca0, .int .i64 h01, .int .u32 h02] 138 (0, 0))] [] [(aB qa0, aO qa0, RU8.enc h00)] w) (hna0 : h00.length = na0) (hqa0 : AOK na0 qa0) (hla0 : na0 ≤ ca0) {res : m_laurelkit_Heap_From_R} (hm : m_laurelkit_Heap_From h00 h01 h02 lo1 hi2 = some res) :
    Calls Try.prog 20 #[ptr pb 0, .int .i64 lo1, .int .i64 hi2] w (fun en w' => ∃ l : Unit, en = .returned (.int .i64 res.r0) ∧ (True) ∧ HV w (keys [(pb, .cells #[.slice qa0 na0 ca0, .int .i64 h01, .int .u32 h02] 138 (0, 0))] []) [(pb, .cells #[.slice qa0 na0 ca0, .int .i64 res.h0_1, .int .u32 res.h0_2] 138 (0, 0))] [] [] w') := by
  unfold m_laurelkit_Heap_From at hm
  refine g_enter (args := [ptr pb 0, .int .i64 lo1, .int .i64 hi2]) Try.func20 rfl Try.ntmps20 rfl (e := [(0, _), (1, _), (2, _)]) rfl (H := HV w (keys [(pb, .cells #[.slice qa0 na0 ca0, .int .i64 h01, .int .u32 h02] 138 (0, 0))] []) [(pb, .cells #[.slice qa0 na0 ca0, .int .i64 h01, .int .u32 h02] 138 (0, 0))] [] [(aB qa0, aO qa0, RU8.enc h00)]) hw ?_
  refine g_seq ?_
  refine g_region ?_
  refine g_val rfl rfl rfl (fun _ _ => v_assign rfl) ?_
  refine g_nil ?_
  refine g_n_then ?_
  refine g_seq ?_
  refine g_region ?_
  refine g_val rfl rfl rfl (fun _ _ => v_move rfl) ?_
  refine g_val rfl rfl rfl (fun _ _ => v_move rfl) ?_
  refine g_val rfl rfl rfl (fun _ _ => v_move rfl) ?_
  refine g_val rfl rfl rfl (fun _ _ => v_move rfl) ?_
  obtain ⟨t11, h1, hm⟩ := bindO hm
  refine g_val rfl rfl rfl (fun _ _ => v_subc h1 rfl rfl) ?_
  obtain ⟨t12, h2, hm⟩ := bindO hm
  refine g_callH [_] [] rfl rfl rfl rfl rfl rfl rfl (fun a w => Try.call64 a w) (fun w hh => c_laurelkit_Heap_Upto h00 h01 h02 t11 pb qa0 na0 ca0 w (HV.callee (S0 := [_]) (vs0 := []) hh (roC (hh.rsep (S0 := [_]) (vs0 := []) 0 rfl) roN)) hna0 hqa0 hla0 h2) (fun l h3 => ?_)
  refine g_sel (S' := [_]) (vs' := []) [0] [] 0 (by decide) (by decide) rfl rfl rfl ?_
  obtain ⟨t13, h4, hm⟩ := bindO hm
  refine g_val rfl rfl rfl (fun _ _ => v_addc h4 rfl rfl) ?_
  refine g_val rfl rfl rfl (fun _ _ => v_assign rfl) ?_
  refine g_nil ?_
  refine g_n_then ?_
  refine g_ret ?_
  obtain rfl := Option.some.inj hm
  refine g_done rfl (fun w hh => (.tmp rfl .nil)) (fun w hh => ⟨(), rfl, trivial, hh.sel [0] [] 1 (by decide) (by decide) rfl rfl rfl⟩)
structure m_laurelkit_Heap_Once_R where
  r0 : Bool
  h0_1 : Int
  h0_2 : Int
def m_laurelkit_Heap_Once (h00 : (List Int)) (h01 : Int) (h02 : Int) (n1 : Int) : Option m_laurelkit_Heap_Once_R :=
 (subc n1 1).bind fun t7 =>
 (m_laurelkit_Heap_Upto h00 h01 h02 t7).bind fun t8 =>
 some (⟨(decide (t8.r0 = 0)), t8.h0_1, t8.h0_2⟩ : m_laurelkit_Heap_Once_R)
set_option maxRecDepth 100000 in
set_option maxHeartbeats 4000000 in
theorem c_laurelkit_Heap_Once (h00 : (List Int)) (h01 : Int) (h02 : Int) (n1 : Int) (pb : Nat) (qa0 : Option Addr) (na0 ca0 : Nat) (w : World) (hw : HV w (keys [(pb, .cells #[.slice qa0 na0 ca0, .int .i64 h01, .int .u32 h02] 138 (0, 0))] []) [(pb, .cells #[.slice qa0 na0 ca0, .int .i64 h01, .int .u32 h02] 138 (0, 0))] [] [(aB qa0, aO qa0, RU8.enc h00)] w) (hna0 : h00.length = na0) (hqa0 : AOK na0 qa0) (hla0 : na0 ≤ ca0) {res : m_laurelkit_Heap_Once_R} (hm : m_laurelkit_Heap_Once h00 h01 h02 n1 = some res) :
    Calls Try.prog 85 #[ptr pb 0, .int .i64 n1] w (fun en w' => ∃ l : Unit, en = .returned (.bool res.r0) ∧ (True) ∧ HV w (keys [(pb, .cells #[.slice qa0 na0 ca0, .int .i64 h01, .int .u32 h02] 138 (0, 0))] []) [(pb, .cells #[.slice qa0 na0 ca0, .int .i64 res.h0_1, .int .u32 res.h0_2] 138 (0, 0))] [] [] w') := by
  unfold m_laurelkit_Heap_Once at hm
  refine g_enter (args := [ptr pb 0, .int .i64 n1]) Try.func85 rfl Try.ntmps85 rfl (e := [(0, _), (1, _)]) rfl (H := HV w (keys [(pb, .cells #[.slice qa0 na0 ca0, .int .i64 h01, .int .u32 h02] 138 (0, 0))] []) [(pb, .cells #[.slice qa0 na0 ca0, .int .i64 h01, .int .u32 h02] 138 (0, 0))] [] [(aB qa0, aO qa0, RU8.enc h00)]) hw ?_
  refine g_seq ?_
  refine g_region ?_
  refine g_val rfl rfl rfl (fun _ _ => v_assign rfl) ?_
  refine g_nil ?_
  refine g_n_then ?_
  refine g_seq ?_
  refine g_region ?_
  refine g_val rfl rfl rfl (fun _ _ => v_move rfl) ?_
  refine g_val rfl rfl rfl (fun _ _ => v_move rfl) ?_
  obtain ⟨t7, h1, hm⟩ := bindO hm
  refine g_val rfl rfl rfl (fun _ _ => v_subc h1 rfl rfl) ?_
  obtain ⟨t8, h2, hm⟩ := bindO hm
  refine g_callH [_] [] rfl rfl rfl rfl rfl rfl rfl (fun a w => Try.call64 a w) (fun w hh => c_laurelkit_Heap_Upto h00 h01 h02 t7 pb qa0 na0 ca0 w (HV.callee (S0 := [_]) (vs0 := []) hh (roC (hh.rsep (S0 := [_]) (vs0 := []) 0 rfl) roN)) hna0 hqa0 hla0 h2) (fun l h3 => ?_)
  refine g_sel (S' := [_]) (vs' := []) [0] [] 0 (by decide) (by decide) rfl rfl rfl ?_
  refine g_val rfl rfl rfl (fun _ _ => v_eql rfl rfl) ?_
  refine g_val rfl rfl rfl (fun _ _ => v_assign rfl) ?_
  refine g_nil ?_
  refine g_n_then ?_
  refine g_ret ?_
  obtain rfl := Option.some.inj hm
  refine g_done rfl (fun w hh => (.tmp rfl .nil)) (fun w hh => ⟨(), rfl, trivial, hh.sel [0] [] 1 (by decide) (by decide) rfl rfl rfl⟩)
structure m_laurellaw01_Made_R where
  r0 : Sands
  b0_1 : Int
  b0_2 : Int
structure m_laurellaw01_Made_C0 where
  b0_1 : Int
  b0_2 : Int
  s7_table : (List Water)
structure m_laurellaw01_Made_S0 where
  at8 : Int
  t23 : Int
  b0_1 : Int
  b0_2 : Int
  s7_table : (List Water)
def m_laurellaw01_Made_L0 (t22 : m_laurelkit_Heap_From_R) (b00 : (List Int)) (s : m_laurellaw01_Made_S0) : Option (m_laurellaw01_Made_S0 ⊕ m_laurellaw01_Made_C0) :=
 if s.t23 < t22.r0 then
 ((m_laurelkit_Heap_Upto b00 s.b0_1 s.b0_2 60).bind fun t29 =>
 (appc 16 s.s7_table [(⟨s.at8, t29.r0⟩ : Water)]).bind fun t32 =>
 (m_laurelkit_Heap_From b00 t29.h0_1 t29.h0_2 1 30).bind fun t36 =>
 (addc s.at8 t36.r0).bind fun t37 =>
 (addc s.t23 1).bind fun t38 =>
 some (.inl (⟨t37, t38, t36.h0_1, t36.h0_2, t32⟩ : m_laurellaw01_Made_S0))) else
 (some (.inr (⟨s.b0_1, s.b0_2, s.s7_table⟩ : m_laurellaw01_Made_C0)))
structure m_laurellaw01_Made_C1 where
  b0_1 : Int
  b0_2 : Int
  s7_floors : (List Int)
structure m_laurellaw01_Made_S1 where
  t42 : Int
  b0_1 : Int
  b0_2 : Int
  s7_floors : (List Int)
def m_laurellaw01_Made_L1 (t41 : m_laurelkit_Heap_From_R) (b00 : (List Int)) (s_1 : m_laurellaw01_Made_S1) : Option (m_laurellaw01_Made_S1 ⊕ m_laurellaw01_Made_C1) :=
 if s_1.t42 < t41.r0 then
 ((m_laurelkit_Heap_Upto b00 s_1.b0_1 s_1.b0_2 50).bind fun t47 =>
 (appc 8 s_1.s7_floors [t47.r0]).bind fun t49 =>
 (addc s_1.t42 1).bind fun t51 =>
 some (.inl (⟨t51, t47.h0_1, t47.h0_2, t49⟩ : m_laurellaw01_Made_S1))) else
 (some (.inr (⟨s_1.b0_1, s_1.b0_2, s_1.s7_floors⟩ : m_laurellaw01_Made_C1)))
structure m_laurellaw01_Made_C2 where
  b0_1 : Int
  b0_2 : Int
  s7_sills : (List Sill)
structure m_laurellaw01_Made_S2 where
  t55 : Int
  b0_1 : Int
  b0_2 : Int
  s7_sills : (List Sill)
structure m_laurellaw01_Made_C3 where
  b0_1 : Int
  b0_2 : Int
  s7_sills : (List Sill)
structure m_laurellaw01_Made_C4 where
  x11_a : Int
  x11_b : Int
  b0_1 : Int
  b0_2 : Int
structure m_laurellaw01_Made_C5 where
  x11_a : Int
  x11_b : Int
  b0_1 : Int
  b0_2 : Int
def m_laurellaw01_Made_L2 (t54 : m_laurelkit_Heap_Upto_R) (o_1 : m_laurellaw01_Made_C1) (b00 : (List Int)) (s_2 : m_laurellaw01_Made_S2) : Option (m_laurellaw01_Made_S2 ⊕ m_laurellaw01_Made_C2) :=
 if s_2.t55 < t54.r0 then
 (((subc (o_1.s7_floors.length : Int) 1).bind fun t62 =>
 (subc (min s_2.t55 t62) 1).bind fun t66 =>
 (m_laurelkit_Heap_From b00 s_2.b0_1 s_2.b0_2 (-1) t66).bind fun t67 =>
 (m_laurelkit_Heap_Upto b00 t67.h0_1 t67.h0_2 50).bind fun t70 =>
 (if (o_1.s7_floors.length : Int) ≤ s_2.t55 then
 ((subc (o_1.s7_floors.length : Int) 1).bind fun t81 =>
 (subc (o_1.s7_floors.length : Int) 1).bind fun t87 =>
 (m_laurelkit_Heap_From b00 t70.h0_1 t70.h0_2 (-1) t81).bind fun t82 =>
 (m_laurelkit_Heap_Upto b00 t82.h0_1 t82.h0_2 t87).bind fun t88 =>
 some (⟨t82.r0, t88.r0, t88.h0_1, t88.h0_2⟩ : m_laurellaw01_Made_C4)) else
 (some (⟨t67.r0, (min s_2.t55 t62), t70.h0_1, t70.h0_2⟩ : m_laurellaw01_Made_C4))).bind fun o_4 =>
 ((m_laurelkit_Heap_Once b00 o_4.b0_1 o_4.b0_2 3).bind fun t92 =>
 if t92.r0 = true then
 (some (⟨o_4.x11_b, o_4.x11_a, t92.h0_1, t92.h0_2⟩ : m_laurellaw01_Made_C5)) else
 (some (⟨o_4.x11_a, o_4.x11_b, t92.h0_1, t92.h0_2⟩ : m_laurellaw01_Made_C5))).bind fun o_5 =>
 if o_5.x11_a = o_5.x11_b then
 (some (⟨o_5.b0_1, o_5.b0_2, s_2.s7_sills⟩ : m_laurellaw01_Made_C3)) else
 ((appc 24 s_2.s7_sills [(⟨o_5.x11_a, o_5.x11_b, t70.r0⟩ : Sill)]).bind fun t108 =>
 some (⟨o_5.b0_1, o_5.b0_2, t108⟩ : m_laurellaw01_Made_C3))).bind fun o_3 =>
 (addc s_2.t55 1).bind fun t110 =>
 some (.inl (⟨t110, o_3.b0_1, o_3.b0_2, o_3.s7_sills⟩ : m_laurellaw01_Made_S2))) else
 (some (.inr (⟨s_2.b0_1, s_2.b0_2, s_2.s7_sills⟩ : m_laurellaw01_Made_C2)))
def m_laurellaw01_Made (b00 : (List Int)) (b01 : Int) (b02 : Int) (places1 : Int) (sills2 : Int) : Option m_laurellaw01_Made_R :=
 (m_laurelkit_Heap_Upto b00 b01 b02 8).bind fun t13 =>
 (negc t13.r0).bind fun t14 =>
 (m_laurelkit_Heap_Upto b00 t13.h0_1 t13.h0_2 8).bind fun t16 =>
 (m_laurelkit_Heap_Upto b00 t16.h0_1 t16.h0_2 20).bind fun t20 =>
 (m_laurelkit_Heap_From b00 t20.h0_1 t20.h0_2 2 4).bind fun t22 =>
 (iterM FU (m_laurellaw01_Made_L0 t22 b00) (⟨t20.r0, 0, t22.h0_1, t22.h0_2, []⟩ : m_laurellaw01_Made_S0)).bind fun o =>
 (m_laurelkit_Heap_From b00 o.b0_1 o.b0_2 1 places1).bind fun t41 =>
 (iterM FU (m_laurellaw01_Made_L1 t41 b00) (⟨0, t41.h0_1, t41.h0_2, []⟩ : m_laurellaw01_Made_S1)).bind fun o_1 =>
 (m_laurelkit_Heap_Upto b00 o_1.b0_1 o_1.b0_2 sills2).bind fun t54 =>
 (iterM FU (m_laurellaw01_Made_L2 t54 o_1 b00) (⟨0, t54.h0_1, t54.h0_2, []⟩ : m_laurellaw01_Made_S2)).bind fun o_2 =>
 some (⟨(⟨o.s7_table, (⟨t14, t16.r0⟩ : Span), o_1.s7_floors, o_2.s7_sills⟩ : Sands), o_2.b0_1, o_2.b0_2⟩ : m_laurellaw01_Made_R)
set_option maxRecDepth 100000 in
set_option maxHeartbeats 4000000 in
theorem c_laurellaw01_Made (b00 : (List Int)) (b01 : Int) (b02 : Int) (places1 : Int) (sills2 : Int) (pb : Nat) (qa0 : Option Addr) (na0 ca0 : Nat) (w : World) (hw : HV w (keys [(pb, .cells #[.slice qa0 na0 ca0, .int .i64 b01, .int .u32 b02] 138 (0, 0))] []) [(pb, .cells #[.slice qa0 na0 ca0, .int .i64 b01, .int .u32 b02] 138 (0, 0))] [] [(aB qa0, aO qa0, RU8.enc b00)] w) (hna0 : b00.length = na0) (hqa0 : AOK na0 qa0) (hla0 : na0 ≤ ca0) {res : m_laurellaw01_Made_R} (hm : m_laurellaw01_Made b00 b01 b02 places1 sills2 = some res) :
    Calls Try.prog 18 #[ptr pb 0, .int .i64 places1, .int .i64 sills2] w (fun en w' => ∃ l : VL × VL × VL, en = .returned (.agg #[slv l.1.q l.1.n l.1.cap, .int .i64 res.r0.wind.lo, .int .i64 res.r0.wind.hi, slv l.2.1.q l.2.1.n l.2.1.cap, slv l.2.2.q l.2.2.n l.2.2.cap]) ∧ (VOK 2 l.1.n l.1.cap (RW.enc res.r0.table) l.1.sp l.1.q ∧ VOK 1 l.2.1.n l.2.1.cap (RI.enc res.r0.floors) l.2.1.sp l.2.1.q ∧ VOK 3 l.2.2.n l.2.2.cap (RS.enc res.r0.sills) l.2.2.sp l.2.2.q) ∧ HV w (keys [(pb, .cells #[.slice qa0 na0 ca0, .int .i64 b01, .int .u32 b02] 138 (0, 0))] []) [(pb, .cells #[.slice qa0 na0 ca0, .int .i64 res.b0_1, .int .u32 res.b0_2] 138 (0, 0))] [⟨68, RW.enc res.r0.table, l.1.sp, l.1.q, []⟩, ⟨3, RI.enc res.r0.floors, l.2.1.sp, l.2.1.q, []⟩, ⟨51, RS.enc res.r0.sills, l.2.2.sp, l.2.2.q, []⟩] [] w') := by
  unfold m_laurellaw01_Made at hm
  refine g_enter (args := [ptr pb 0, .int .i64 places1, .int .i64 sills2]) Try.func18 rfl Try.ntmps18 rfl (e := [(0, _), (1, _), (2, _)]) rfl (H := HV w (keys [(pb, .cells #[.slice qa0 na0 ca0, .int .i64 b01, .int .u32 b02] 138 (0, 0))] []) [(pb, .cells #[.slice qa0 na0 ca0, .int .i64 b01, .int .u32 b02] 138 (0, 0))] [] [(aB qa0, aO qa0, RU8.enc b00)]) hw ?_
  refine g_seq ?_
  refine g_region ?_
  refine g_allocV (fun w => Try.zeroValue29 w) rfl (fun b h4 => ?_)
  refine g_nil ?_
  refine g_n_then ?_
  refine g_seq ?_
  refine g_region ?_
  refine g_val rfl rfl rfl (fun _ _ => v_move rfl) ?_
  obtain ⟨t13, h5, hm⟩ := bindO hm
  refine g_sel (S' := [_, _]) (vs' := []) [1, 0] [] 0 (by decide) (by decide) rfl rfl rfl ?_
  refine g_callH [_] [] rfl rfl rfl rfl rfl rfl rfl (fun a w => Try.call64 a w) (fun w hh => c_laurelkit_Heap_Upto b00 b01 b02 8 pb qa0 na0 ca0 w (HV.callee (S0 := [_]) (vs0 := []) hh (roC (hh.rsep (S0 := [_]) (vs0 := []) 0 rfl) roN)) hna0 hqa0 hla0 h5) (fun l h6 => ?_)
  refine g_sel (S' := [_, _]) (vs' := []) [0, 1] [] 0 (by decide) (by decide) rfl rfl rfl ?_
  obtain ⟨t14, h7, hm⟩ := bindO hm
  refine g_val rfl rfl rfl (fun _ _ => v_negc h7 rfl) ?_
  refine g_val rfl rfl rfl (fun _ _ => v_move rfl) ?_
  obtain ⟨t16, h8, hm⟩ := bindO hm
  refine g_callH [_] [] rfl rfl rfl rfl rfl rfl rfl (fun a w => Try.call64 a w) (fun w hh => c_laurelkit_Heap_Upto b00 t13.h0_1 t13.h0_2 8 pb qa0 na0 ca0 w (HV.callee (S0 := [_]) (vs0 := []) hh (roC (hh.rsep (S0 := [_]) (vs0 := []) 0 rfl) roN)) hna0 hqa0 hla0 h8) (fun l_1 h9 => ?_)
  refine g_sel (S' := [_, _]) (vs' := []) [0, 1] [] 0 (by decide) (by decide) rfl rfl rfl ?_
  refine g_val rfl rfl rfl (fun _ _ => v_build (vs := [(0, _), (1, _)]) (cells := [_, _]) rfl rfl) ?_
  refine g_val rfl rfl rfl (fun _ _ => v_build (vs := [(1, _)]) (cells := [_, _, _, _, _]) rfl rfl) ?_
  refine g_allocV (fun w => Try.zeroValue29 w) rfl (fun b_1 h10 => ?_)
  refine g_stSA (us := #[_, _, _, _, _]) (cs' := [_, _, _, _, _]) (S' := [_, _, _]) 0 (fun w => Try.sizeOf29 w) rfl rfl rfl rfl rfl rfl rfl ?_
  refine g_nil ?_
  refine g_n_then ?_
  refine g_seq ?_
  refine g_region ?_
  refine g_val rfl rfl rfl (fun _ _ => v_move rfl) ?_
  obtain ⟨t20, h11, hm⟩ := bindO hm
  refine g_sel (S' := [_, _, _]) (vs' := []) [1, 0, 2] [] 0 (by decide) (by decide) rfl rfl rfl ?_
  refine g_callH [_] [] rfl rfl rfl rfl rfl rfl rfl (fun a w => Try.call64 a w) (fun w hh => c_laurelkit_Heap_Upto b00 t16.h0_1 t16.h0_2 20 pb qa0 na0 ca0 w (HV.callee (S0 := [_]) (vs0 := []) hh (roC (hh.rsep (S0 := [_]) (vs0 := []) 0 rfl) roN)) hna0 hqa0 hla0 h11) (fun l_2 h12 => ?_)
  refine g_sel (S' := [_, _, _]) (vs' := []) [0, 1, 2] [] 0 (by decide) (by decide) rfl rfl rfl ?_
  refine g_val rfl rfl rfl (fun _ _ => v_assign rfl) ?_
  refine g_nil ?_
  refine g_n_then ?_
  refine g_seq ?_
  refine g_seq ?_
  refine g_region ?_
  refine g_val rfl rfl rfl (fun _ _ => v_move rfl) ?_
  obtain ⟨t22, h13, hm⟩ := bindO hm
  refine g_callH [_] [] rfl rfl rfl rfl rfl rfl rfl (fun a w => Try.call20 a w) (fun w hh => c_laurelkit_Heap_From b00 t20.h0_1 t20.h0_2 2 4 pb qa0 na0 ca0 w (HV.callee (S0 := [_]) (vs0 := []) hh (roC (hh.rsep (S0 := [_]) (vs0 := []) 0 rfl) roN)) hna0 hqa0 hla0 h13) (fun l_3 h14 => ?_)
  refine g_sel (S' := [_, _, _]) (vs' := []) [0, 1, 2] [] 0 (by decide) (by decide) rfl rfl rfl ?_
  refine g_val rfl rfl rfl (fun _ _ => v_move rfl) ?_
  refine g_nil ?_
  refine g_n_then ?_
  refine g_vnil 68 ?_
  obtain ⟨o, h15, h16⟩ := bindO hm
  refine g_cut (ι := VL) (fun l_4 => VOK 2 l_4.n l_4.cap (RW.enc o.s7_table) l_4.sp l_4.q) (fun l_4 => [(0, ptr pb 0), (1, .int .i64 places1), (2, .int .i64 sills2), (6, ptr b 0), (7, ptr b_1 0)]) (fun l_4 => [(pb, .cells #[.slice qa0 na0 ca0, .int .i64 o.b0_1, .int .u32 o.b0_2] 138 (0, 0)), (b_1, .cells #[slv l_4.q l_4.n l_4.cap, .int .i64 t14, .int .i64 t16.r0, slv none 0 0, slv none 0 0] 29 (0, 0)), (b, .cells #[slv none 0 0, .int .i64 0, .int .i64 0, slv none 0 0, slv none 0 0] 29 (0, 0))]) (fun l_4 => [⟨68, RW.enc o.s7_table, l_4.sp, l_4.q, []⟩]) ?_ ?_
  ·replace hm := h15
   refine g_block ?_
   refine g_loopF (ι := VL) hm (fun s l_5 => VOK 2 l_5.n l_5.cap (RW.enc s.s7_table) l_5.sp l_5.q) (fun s l_5 => [(0, ptr pb 0), (1, .int .i64 places1), (2, .int .i64 sills2), (6, ptr b 0), (7, ptr b_1 0), (8, .int .i64 s.at8), (22, .int .i64 t22.r0), (23, .int .i64 s.t23)]) (fun s l_5 => [(pb, .cells #[.slice qa0 na0 ca0, .int .i64 s.b0_1, .int .u32 s.b0_2] 138 (0, 0)), (b_1, .cells #[slv l_5.q l_5.n l_5.cap, .int .i64 t14, .int .i64 t16.r0, slv none 0 0, slv none 0 0] 29 (0, 0)), (b, .cells #[slv none 0 0, .int .i64 0, .int .i64 0, slv none 0 0, slv none 0 0] 29 (0, 0))]) (fun s l_5 => [⟨68, RW.enc s.s7_table, l_5.sp, l_5.q, []⟩]) ⟨none, 0, 0, []⟩ (VOK.nil) ((.cons rfl (.cons rfl (.cons rfl (.cons rfl (.cons rfl (.cons rfl (.cons rfl (.cons rfl .nil))))))))) (fun w hh => hh) (fun s l_5 r hpl hm h19 => ?_)
   have h18 := hpl
   unfold m_laurellaw01_Made_L0 at hm
   refine g_seq ?_
   refine g_region ?_
   refine g_val rfl rfl rfl (fun _ _ => v_lss rfl rfl) ?_
   refine g_nil ?_
   refine g_n_then ?_
   refine g_seq ?_
   refine g_cond rfl (fun h20 => ?_) (fun h20 => ?_)
   ·replace hm := ifT (of_decide_eq_true h20) hm
    refine g_skip ?_
    refine g_n_then ?_
    refine g_seq ?_
    refine g_block ?_
    refine g_seq ?_
    refine g_draw (some 9) (.free 0 (.hoist 1 (.free 2 (.free 3 (.one 4 (.free 5 (.one 6 (.one 7 (.free 8 (.last 9 .done)))))))))) (HV _ _ [(b_1, .cells #[slv l_5.q l_5.n l_5.cap, .int .i64 t14, .int .i64 t16.r0, slv none 0 0, slv none 0 0] 29 (0, 0)), (b, .cells #[slv none 0 0, .int .i64 0, .int .i64 0, slv none 0 0, slv none 0 0] 29 (0, 0))] [] _) rfl (by decide +kernel) (fun w k hh => hh.draw k) (fun w hh => hh.sel [1, 2] [] 0 (by decide) (by decide) rfl rfl rfl) ?_
    refine p_free rfl rfl rfl rfl (fun w _ => v_fieldAddr 0 (Try.runUnderlying29 w) rfl (Try.sizeOf23 w) rfl) ?_
    refine p_hoist rfl rfl rfl rfl (fun w hh => v_load (Try.isAgg23 w) rfl (hh.cell 0 rfl rfl)) ?_
    refine p_free rfl rfl rfl rfl (fun _ _ => v_move rfl) ?_
    refine p_free rfl rfl rfl rfl (fun _ _ => v_move rfl) ?_
    refine p_one rfl ?_
    obtain ⟨t29, h21, hm⟩ := bindO hm
    refine g_callH [_] [] rfl rfl rfl rfl rfl rfl rfl (fun a w => Try.call64 a w) (fun w hh => c_laurelkit_Heap_Upto b00 s.b0_1 s.b0_2 60 pb qa0 na0 ca0 w (HV.callee (S0 := [_]) (vs0 := []) hh (roC (hh.rsep (S0 := [_]) (vs0 := []) 0 rfl) roN)) hna0 hqa0 hla0 h21) (fun l_6 h22 => ?_)
    refine g_sel (S' := [_, _, _]) (vs' := [_]) [0, 1, 2] [0] 0 (by decide) (by decide) rfl rfl rfl ?_
    refine p_next (fun w hh => hh.sel [1, 2] [] 0 (by decide) (by decide) rfl rfl rfl) ?_
    refine p_free rfl rfl rfl rfl (fun _ _ => v_build (vs := [(0, _), (1, _)]) (cells := [_, _]) rfl rfl) ?_
    refine p_one rfl ?_
    refine g_vlit RW [(⟨s.at8, t29.r0⟩ : Water)] (ps := [(0, _)]) (cells := [_, _]) (fun w => Try.runUnderlying23 w) (fun w => Try.sizeOf68 w) (fun w => Try.zeroValue68 w) rfl rfl rfl rfl rfl rfl rfl rfl (fun L h23 => ?_)
    refine p_next (fun w hh => hh.sel [1, 2] [] 0 (by decide) (by decide) rfl rfl rfl) ?_
    refine p_one rfl ?_
    obtain ⟨t32, h24, hm⟩ := bindO hm
    refine g_vapp RW 1 h24 Try.underlying23 gxinf68 rfl rfl rfl rfl rfl h18 rfl rfl (vlen RW h23 rfl) (AOK.q (vne h23)) (fun w hh => (hh.vsegA 0 rfl h23)) rfl (fun L_1 h25 h25n => ?_)
    refine g_sel (S' := [_, _, _]) (vs' := [_, _]) [0, 1, 2] [0, 1] 0 (by decide) (by decide) rfl rfl rfl ?_
    refine p_next (fun w hh => hh.sel [1, 2] [] 0 (by decide) (by decide) rfl rfl rfl) ?_
    refine p_free rfl rfl rfl rfl (fun w _ => v_fieldAddr 0 (Try.runUnderlying29 w) rfl (Try.sizeOf23 w) rfl) ?_
    refine p_last rfl ?_
    refine g_stS (cs' := #[_, _, _, _, _]) (S' := [_, _, _]) 1 (fun w => Try.sizeOf23 w) rfl rfl rfl rfl rfl rfl rfl ?_
    refine p_nextL ?_
    refine p_done ?_
    refine g_n_then ?_
    refine g_region ?_
    refine g_val rfl rfl rfl (fun _ _ => v_move rfl) ?_
    refine g_val rfl rfl rfl (fun _ _ => v_move rfl) ?_
    obtain ⟨t36, h26, hm⟩ := bindO hm
    refine g_callH [_] [] rfl rfl rfl rfl rfl rfl rfl (fun a w => Try.call20 a w) (fun w hh => c_laurelkit_Heap_From b00 t29.h0_1 t29.h0_2 1 30 pb qa0 na0 ca0 w (HV.callee (S0 := [_]) (vs0 := []) hh (roC (hh.rsep (S0 := [_]) (vs0 := []) 0 rfl) roN)) hna0 hqa0 hla0 h26) (fun l_7 h27 => ?_)
    refine g_sel (S' := [_, _, _]) (vs' := [_, _]) [0, 1, 2] [0, 1] 0 (by decide) (by decide) rfl rfl rfl ?_
    obtain ⟨t37, h28, hm⟩ := bindO hm
    refine g_val rfl rfl rfl (fun _ _ => v_addc h28 rfl rfl) ?_
    refine g_val rfl rfl rfl (fun _ _ => v_assign rfl) ?_
    refine g_nil ?_
    refine g_n_blk ?_
    refine g_n_then ?_
    refine g_region ?_
    obtain ⟨t38, h29, hm⟩ := bindO hm
    refine g_val rfl rfl rfl (fun _ _ => v_addc h29 rfl rfl) ?_
    refine g_val rfl rfl rfl (fun _ _ => v_move rfl) ?_
    refine g_nil ?_
    obtain rfl := Option.some.inj hm
    refine g_n_then ?_
    exact g_again' _ L_1 rfl (h25) ((.cons rfl (.cons rfl (.cons rfl (.cons rfl (.cons rfl (.cons rfl (.cons rfl (.cons rfl .nil))))))))) (fun w hh => hh.sel [0, 1, 2] [1] 0 (by decide) (by decide) rfl rfl rfl)
   ·replace hm := ifF (of_decide_eq_false h20) hm
    refine g_exit ?_
    refine g_x_then ?_
    refine g_x_then ?_
    refine g_x_blk ?_
    obtain rfl := Option.some.inj hm
    have hbo := h19 _ rfl
    subst hbo
    exact g_leaf l_5 (h18) ((.cons rfl (.cons rfl (.cons rfl (.cons rfl (.cons rfl .nil)))))) (fun w hh => hh)
  ·intro l_4 hj
   have h17 := hj
   replace hm := h16
   refine g_n_then ?_
   refine g_seq ?_
   refine g_seq ?_
   refine g_region ?_
   refine g_val rfl rfl rfl (fun _ _ => v_move rfl) ?_
   refine g_val rfl rfl rfl (fun _ _ => v_move rfl) ?_
   obtain ⟨t41, h30, hm⟩ := bindO hm
   refine g_callH [_] [] rfl rfl rfl rfl rfl rfl rfl (fun a w => Try.call20 a w) (fun w hh => c_laurelkit_Heap_From b00 o.b0_1 o.b0_2 1 places1 pb qa0 na0 ca0 w (HV.callee (S0 := [_]) (vs0 := []) hh (roC (hh.rsep (S0 := [_]) (vs0 := []) 0 rfl) roN)) hna0 hqa0 hla0 h30) (fun l_8 h31 => ?_)
   refine g_sel (S' := [_, _, _]) (vs' := [_]) [0, 1, 2] [0] 0 (by decide) (by decide) rfl rfl rfl ?_
   refine g_val rfl rfl rfl (fun _ _ => v_move rfl) ?_
   refine g_nil ?_
   refine g_n_then ?_
   refine g_vnil 3 ?_
   obtain ⟨o_1, h32, h33⟩ := bindO hm
   refine g_cut (ι := VL) (fun l_9 => VOK 1 l_9.n l_9.cap (RI.enc o_1.s7_floors) l_9.sp l_9.q) (fun l_9 => [(0, ptr pb 0), (2, .int .i64 sills2), (6, ptr b 0), (7, ptr b_1 0)]) (fun l_9 => [(pb, .cells #[.slice qa0 na0 ca0, .int .i64 o_1.b0_1, .int .u32 o_1.b0_2] 138 (0, 0)), (b_1, .cells #[slv l_4.q l_4.n l_4.cap, .int .i64 t14, .int .i64 t16.r0, slv l_9.q l_9.n l_9.cap, slv none 0 0] 29 (0, 0)), (b, .cells #[slv none 0 0, .int .i64 0, .int .i64 0, slv none 0 0, slv none 0 0] 29 (0, 0))]) (fun l_9 => [⟨68, RW.enc o.s7_table, l_4.sp, l_4.q, []⟩, ⟨3, RI.enc o_1.s7_floors, l_9.sp, l_9.q, []⟩]) ?_ ?_
   ·replace hm := h32
    refine g_block ?_
    refine g_loopF (ι := VL) hm (fun s_1 l_10 => VOK 1 l_10.n l_10.cap (RI.enc s_1.s7_floors) l_10.sp l_10.q) (fun s_1 l_10 => [(0, ptr pb 0), (2, .int .i64 sills2), (6, ptr b 0), (7, ptr b_1 0), (41, .int .i64 t41.r0), (42, .int .i64 s_1.t42)]) (fun s_1 l_10 => [(pb, .cells #[.slice qa0 na0 ca0, .int .i64 s_1.b0_1, .int .u32 s_1.b0_2] 138 (0, 0)), (b_1, .cells #[slv l_4.q l_4.n l_4.cap, .int .i64 t14, .int .i64 t16.r0, slv l_10.q l_10.n l_10.cap, slv none 0 0] 29 (0, 0)), (b, .cells #[slv none 0 0, .int .i64 0, .int .i64 0, slv none 0 0, slv none 0 0] 29 (0, 0))]) (fun s_1 l_10 => [⟨68, RW.enc o.s7_table, l_4.sp, l_4.q, []⟩, ⟨3, RI.enc s_1.s7_floors, l_10.sp, l_10.q, []⟩]) ⟨none, 0, 0, []⟩ (VOK.nil) ((.cons rfl (.cons rfl (.cons rfl (.cons rfl (.cons rfl (.cons rfl .nil))))))) (fun w hh => hh.sel [0, 1, 2] [1, 0] 0 (by decide) (by decide) rfl rfl rfl) (fun s_1 l_10 r_1 hpl hm h36 => ?_)
    have h35 := hpl
    unfold m_laurellaw01_Made_L1 at hm
    refine g_seq ?_
    refine g_region ?_
    refine g_val rfl rfl rfl (fun _ _ => v_lss rfl rfl) ?_
    refine g_nil ?_
    refine g_n_then ?_
    refine g_seq ?_
    refine g_cond rfl (fun h37 => ?_) (fun h37 => ?_)
    ·replace hm := ifT (of_decide_eq_true h37) hm
     refine g_skip ?_
     refine g_n_then ?_
     refine g_seq ?_
     refine g_block ?_
     refine g_draw (some 7) (.free 0 (.hoist 1 (.free 2 (.one 3 (.one 4 (.one 5 (.free 6 (.last 7 .done)))))))) (HV _ _ [(b_1, .cells #[slv l_4.q l_4.n l_4.cap, .int .i64 t14, .int .i64 t16.r0, slv l_10.q l_10.n l_10.cap, slv none 0 0] 29 (0, 0)), (b, .cells #[slv none 0 0, .int .i64 0, .int .i64 0, slv none 0 0, slv none 0 0] 29 (0, 0))] [⟨68, RW.enc o.s7_table, l_4.sp, l_4.q, []⟩] _) rfl (by decide +kernel) (fun w k hh => hh.draw k) (fun w hh => hh.sel [1, 2] [0] 0 (by decide) (by decide) rfl rfl rfl) ?_
     refine p_free rfl rfl rfl rfl (fun w _ => v_fieldAddr 3 (Try.runUnderlying29 w) rfl (Try.sizeOf26 w) rfl) ?_
     refine p_hoist rfl rfl rfl rfl (fun w hh => v_load (Try.isAgg26 w) rfl (hh.cell 0 rfl rfl)) ?_
     refine p_free rfl rfl rfl rfl (fun _ _ => v_move rfl) ?_
     refine p_one rfl ?_
     obtain ⟨t47, h38, hm⟩ := bindO hm
     refine g_callH [_] [] rfl rfl rfl rfl rfl rfl rfl (fun a w => Try.call64 a w) (fun w hh => c_laurelkit_Heap_Upto b00 s_1.b0_1 s_1.b0_2 50 pb qa0 na0 ca0 w (HV.callee (S0 := [_]) (vs0 := []) hh (roC (hh.rsep (S0 := [_]) (vs0 := []) 0 rfl) roN)) hna0 hqa0 hla0 h38) (fun l_11 h39 => ?_)
     refine g_sel (S' := [_, _, _]) (vs' := [_, _]) [0, 1, 2] [0, 1] 0 (by decide) (by decide) rfl rfl rfl ?_
     refine p_next (fun w hh => hh.sel [1, 2] [0] 0 (by decide) (by decide) rfl rfl rfl) ?_
     refine p_one rfl ?_
     refine g_vlit RI [t47.r0] (ps := [(0, _)]) (cells := [_]) (fun w => Try.runUnderlying26 w) (fun w => Try.sizeOf3 w) (fun w => Try.zeroValue3 w) rfl rfl rfl rfl rfl rfl rfl rfl (fun L_2 h40 => ?_)
     refine p_next (fun w hh => hh.sel [1, 2] [1] 0 (by decide) (by decide) rfl rfl rfl) ?_
     refine p_one rfl ?_
     obtain ⟨t49, h41, hm⟩ := bindO hm
     refine g_vapp RI 2 h41 Try.underlying26 gxinf3 rfl rfl rfl rfl rfl h35 rfl rfl (vlen RI h40 rfl) (AOK.q (vne h40)) (fun w hh => (hh.vsegA 0 rfl h40)) rfl (fun L_3 h42 h42n => ?_)
     refine g_sel (S' := [_, _, _]) (vs' := [_, _, _]) [0, 1, 2] [0, 1, 2] 0 (by decide) (by decide) rfl rfl rfl ?_
     refine p_next (fun w hh => hh.sel [1, 2] [1] 0 (by decide) (by decide) rfl rfl rfl) ?_
     refine p_free rfl rfl rfl rfl (fun w _ => v_fieldAddr 3 (Try.runUnderlying29 w) rfl (Try.sizeOf26 w) rfl) ?_
     refine p_last rfl ?_
     refine g_stS (cs' := #[_, _, _, _, _]) (S' := [_, _, _]) 1 (fun w => Try.sizeOf26 w) rfl rfl rfl rfl rfl rfl rfl ?_
     refine p_nextL ?_
     refine p_done ?_
     refine g_n_blk ?_
     refine g_n_then ?_
     refine g_region ?_
     obtain ⟨t51, h43, hm⟩ := bindO hm
     refine g_val rfl rfl rfl (fun _ _ => v_addc h43 rfl rfl) ?_
     refine g_val rfl rfl rfl (fun _ _ => v_move rfl) ?_
     refine g_nil ?_
     obtain rfl := Option.some.inj hm
     refine g_n_then ?_
     exact g_again' _ L_3 rfl (h42) ((.cons rfl (.cons rfl (.cons rfl (.cons rfl (.cons rfl (.cons rfl .nil))))))) (fun w hh => hh.sel [0, 1, 2] [1, 2] 0 (by decide) (by decide) rfl rfl rfl)
    ·replace hm := ifF (of_decide_eq_false h37) hm
     refine g_exit ?_
     refine g_x_then ?_
     refine g_x_then ?_
     refine g_x_blk ?_
     obtain rfl := Option.some.inj hm
     have hbo := h36 _ rfl
     subst hbo
     exact g_leaf l_10 (h35) ((.cons rfl (.cons rfl (.cons rfl (.cons rfl .nil))))) (fun w hh => hh)
   ·intro l_9 hj
    have h34 := hj
    replace hm := h33
    refine g_n_then ?_
    refine g_seq ?_
    refine g_seq ?_
    refine g_region ?_
    refine g_val rfl rfl rfl (fun _ _ => v_move rfl) ?_
    refine g_val rfl rfl rfl (fun _ _ => v_move rfl) ?_
    obtain ⟨t54, h44, hm⟩ := bindO hm
    refine g_callH [_] [] rfl rfl rfl rfl rfl rfl rfl (fun a w => Try.call64 a w) (fun w hh => c_laurelkit_Heap_Upto b00 o_1.b0_1 o_1.b0_2 sills2 pb qa0 na0 ca0 w (HV.callee (S0 := [_]) (vs0 := []) hh (roC (hh.rsep (S0 := [_]) (vs0 := []) 0 rfl) roN)) hna0 hqa0 hla0 h44) (fun l_12 h45 => ?_)
    refine g_sel (S' := [_, _, _]) (vs' := [_, _]) [0, 1, 2] [0, 1] 0 (by decide) (by decide) rfl rfl rfl ?_
    refine g_val rfl rfl rfl (fun _ _ => v_move rfl) ?_
    refine g_nil ?_
    refine g_n_then ?_
    refine g_vnil 51 ?_
    obtain ⟨o_2, h46, h47⟩ := bindO hm
    refine g_cut (ι := VL) (fun l_13 => VOK 3 l_13.n l_13.cap (RS.enc o_2.s7_sills) l_13.sp l_13.q) (fun l_13 => [(6, ptr b 0), (7, ptr b_1 0)]) (fun l_13 => [(pb, .cells #[.slice qa0 na0 ca0, .int .i64 o_2.b0_1, .int .u32 o_2.b0_2] 138 (0, 0)), (b_1, .cells #[slv l_4.q l_4.n l_4.cap, .int .i64 t14, .int .i64 t16.r0, slv l_9.q l_9.n l_9.cap, slv l_13.q l_13.n l_13.cap] 29 (0, 0)), (b, .cells #[slv none 0 0, .int .i64 0, .int .i64 0, slv none 0 0, slv none 0 0] 29 (0, 0))]) (fun l_13 => [⟨68, RW.enc o.s7_table, l_4.sp, l_4.q, []⟩, ⟨3, RI.enc o_1.s7_floors, l_9.sp, l_9.q, []⟩, ⟨51, RS.enc o_2.s7_sills, l_13.sp, l_13.q, []⟩]) ?_ ?_
    ·replace hm := h46
     refine g_block ?_
     refine g_loopF (ι := VL) hm (fun s_2 l_14 => VOK 3 l_14.n l_14.cap (RS.enc s_2.s7_sills) l_14.sp l_14.q) (fun s_2 l_14 => [(0, ptr pb 0), (6, ptr b 0), (7, ptr b_1 0), (54, .int .i64 t54.r0), (55, .int .i64 s_2.t55)]) (fun s_2 l_14 => [(pb, .cells #[.slice qa0 na0 ca0, .int .i64 s_2.b0_1, .int .u32 s_2.b0_2] 138 (0, 0)), (b_1, .cells #[slv l_4.q l_4.n l_4.cap, .int .i64 t14, .int .i64 t16.r0, slv l_9.q l_9.n l_9.cap, slv l_14.q l_14.n l_14.cap] 29 (0, 0)), (b, .cells #[slv none 0 0, .int .i64 0, .int .i64 0, slv none 0 0, slv none 0 0] 29 (0, 0))]) (fun s_2 l_14 => [⟨68, RW.enc o.s7_table, l_4.sp, l_4.q, []⟩, ⟨3, RI.enc o_1.s7_floors, l_9.sp, l_9.q, []⟩, ⟨51, RS.enc s_2.s7_sills, l_14.sp, l_14.q, []⟩]) ⟨none, 0, 0, []⟩ (VOK.nil) ((.cons rfl (.cons rfl (.cons rfl (.cons rfl (.cons rfl .nil)))))) (fun w hh => hh.sel [0, 1, 2] [1, 2, 0] 0 (by decide) (by decide) rfl rfl rfl) (fun s_2 l_14 r_2 hpl hm h50 => ?_)
     have h49 := hpl
     unfold m_laurellaw01_Made_L2 at hm
     refine g_seq ?_
     refine g_region ?_
     refine g_val rfl rfl rfl (fun _ _ => v_lss rfl rfl) ?_
     refine g_nil ?_
     refine g_n_then ?_
     refine g_seq ?_
     refine g_cond rfl (fun h51 => ?_) (fun h51 => ?_)
     ·replace hm := ifT (of_decide_eq_true h51) hm
      refine g_skip ?_
      refine g_n_then ?_
      refine g_seq ?_
      obtain ⟨o_3, h52, h53⟩ := bindO hm
      refine g_cut (ι := VL) (fun l_15 => VOK 3 l_15.n l_15.cap (RS.enc o_3.s7_sills) l_15.sp l_15.q) (fun l_15 => [(0, ptr pb 0), (6, ptr b 0), (7, ptr b_1 0), (54, .int .i64 t54.r0), (55, .int .i64 s_2.t55)]) (fun l_15 => [(pb, .cells #[.slice qa0 na0 ca0, .int .i64 o_3.b0_1, .int .u32 o_3.b0_2] 138 (0, 0)), (b_1, .cells #[slv l_4.q l_4.n l_4.cap, .int .i64 t14, .int .i64 t16.r0, slv l_9.q l_9.n l_9.cap, slv l_15.q l_15.n l_15.cap] 29 (0, 0)), (b, .cells #[slv none 0 0, .int .i64 0, .int .i64 0, slv none 0 0, slv none 0 0] 29 (0, 0))]) (fun l_15 => [⟨68, RW.enc o.s7_table, l_4.sp, l_4.q, []⟩, ⟨3, RI.enc o_1.s7_floors, l_9.sp, l_9.q, []⟩, ⟨51, RS.enc o_3.s7_sills, l_15.sp, l_15.q, []⟩]) ?_ ?_
      ·replace hm := h52
       refine g_block ?_
       refine g_seq ?_
       refine g_region ?_
       refine g_val rfl rfl rfl (fun _ _ => v_move rfl) ?_
       refine g_val rfl rfl rfl (fun _ _ => v_assign rfl) ?_
       refine g_nil ?_
       refine g_n_then ?_
       refine g_seq ?_
       refine g_region ?_
       refine g_val rfl rfl rfl (fun _ _ => v_move rfl) ?_
       refine g_val rfl rfl rfl (fun w _ => v_fieldAddr 3 (Try.runUnderlying29 w) rfl (Try.sizeOf26 w) rfl) ?_
       refine g_val rfl rfl rfl (fun w hh => v_load (Try.isAgg26 w) rfl (hh.cell 1 rfl rfl)) ?_
       refine g_val rfl rfl rfl (fun w _ => v_lenN (vlen RI h34 rfl) (Try.runUnderlying26 w) rfl) ?_
       obtain ⟨t62, h55, hm⟩ := bindO hm
       refine g_val rfl rfl rfl (fun _ _ => v_subc h55 rfl rfl) ?_
       refine g_val rfl rfl rfl (fun _ _ => v_min rfl rfl) ?_
       refine g_val rfl rfl rfl (fun _ _ => v_assign rfl) ?_
       refine g_nil ?_
       refine g_n_then ?_
       refine g_seq ?_
       refine g_region ?_
       refine g_val rfl rfl rfl (fun _ _ => v_move rfl) ?_
       refine g_val rfl rfl rfl (fun _ _ => v_move rfl) ?_
       obtain ⟨t66, h56, hm⟩ := bindO hm
       refine g_val rfl rfl rfl (fun _ _ => v_subc h56 rfl rfl) ?_
       obtain ⟨t67, h57, hm⟩ := bindO hm
       refine g_callH [_] [] rfl rfl rfl rfl rfl rfl rfl (fun a w => Try.call20 a w) (fun w hh => c_laurelkit_Heap_From b00 s_2.b0_1 s_2.b0_2 (-1) t66 pb qa0 na0 ca0 w (HV.callee (S0 := [_]) (vs0 := []) hh (roC (hh.rsep (S0 := [_]) (vs0 := []) 0 rfl) roN)) hna0 hqa0 hla0 h57) (fun l_16 h58 => ?_)
       refine g_sel (S' := [_, _, _]) (vs' := [_, _, _]) [0, 1, 2] [0, 1, 2] 0 (by decide) (by decide) rfl rfl rfl ?_
       refine g_val rfl rfl rfl (fun _ _ => v_move rfl) ?_
       refine g_val rfl rfl rfl (fun _ _ => v_move rfl) ?_
       obtain ⟨t70, h59, hm⟩ := bindO hm
       refine g_callH [_] [] rfl rfl rfl rfl rfl rfl rfl (fun a w => Try.call64 a w) (fun w hh => c_laurelkit_Heap_Upto b00 t67.h0_1 t67.h0_2 50 pb qa0 na0 ca0 w (HV.callee (S0 := [_]) (vs0 := []) hh (roC (hh.rsep (S0 := [_]) (vs0 := []) 0 rfl) roN)) hna0 hqa0 hla0 h59) (fun l_17 h60 => ?_)
       refine g_sel (S' := [_, _, _]) (vs' := [_, _, _]) [0, 1, 2] [0, 1, 2] 0 (by decide) (by decide) rfl rfl rfl ?_
       refine g_val rfl rfl rfl (fun _ _ => v_build (vs := [(0, _), (1, _), (2, _)]) (cells := [_, _, _]) rfl rfl) ?_
       refine g_allocV (fun w => Try.zeroValue51 w) rfl (fun b_2 h61 => ?_)
       refine g_stSA (us := #[_, _, _]) (cs' := [_, _, _]) (S' := [_, _, _, _]) 0 (fun w => Try.sizeOf51 w) rfl rfl rfl rfl rfl rfl rfl ?_
       refine g_nil ?_
       refine g_n_then ?_
       refine g_seq ?_
       obtain ⟨o_4, h62, h63⟩ := bindO hm
       refine g_cut (ι := Unit) (fun l_18 => True) (fun l_18 => [(0, ptr pb 0), (6, ptr b 0), (7, ptr b_1 0), (11, ptr b_2 0), (54, .int .i64 t54.r0), (55, .int .i64 s_2.t55)]) (fun l_18 => [(b_2, .cells #[.int .i64 o_4.x11_a, .int .i64 o_4.x11_b, .int .i64 t70.r0] 51 (0, 0)), (pb, .cells #[.slice qa0 na0 ca0, .int .i64 o_4.b0_1, .int .u32 o_4.b0_2] 138 (0, 0)), (b_1, .cells #[slv l_4.q l_4.n l_4.cap, .int .i64 t14, .int .i64 t16.r0, slv l_9.q l_9.n l_9.cap, slv l_14.q l_14.n l_14.cap] 29 (0, 0)), (b, .cells #[slv none 0 0, .int .i64 0, .int .i64 0, slv none 0 0, slv none 0 0] 29 (0, 0))]) (fun l_18 => [⟨68, RW.enc o.s7_table, l_4.sp, l_4.q, []⟩, ⟨3, RI.enc o_1.s7_floors, l_9.sp, l_9.q, []⟩, ⟨51, RS.enc s_2.s7_sills, l_14.sp, l_14.q, []⟩]) ?_ ?_
       ·replace hm := h62
        refine g_seq ?_
        refine g_region ?_
        refine g_val rfl rfl rfl (fun _ _ => v_move rfl) ?_
        refine g_val rfl rfl rfl (fun w _ => v_fieldAddr 3 (Try.runUnderlying29 w) rfl (Try.sizeOf26 w) rfl) ?_
        refine g_val rfl rfl rfl (fun w hh => v_load (Try.isAgg26 w) rfl (hh.cell 2 rfl rfl)) ?_
        refine g_val rfl rfl rfl (fun w _ => v_lenN (vlen RI h34 rfl) (Try.runUnderlying26 w) rfl) ?_
        refine g_val rfl rfl rfl (fun _ _ => v_geq rfl rfl) ?_
        refine g_nil ?_
        refine g_n_then ?_
        refine g_cond rfl (fun h64 => ?_) (fun h64 => ?_)
        ·replace hm := ifT (of_decide_eq_true h64) hm
         refine g_draw none (.free 0 (.free 1 (.hoist 2 (.free 3 (.free 4 (.free 6 (.free 7 (.hoist 8 (.free 9 (.free 10 (.one 5 (.free 12 (.one 11 (.one 13 (.free 14 (.one 15 .done)))))))))))))))) (HV _ _ [(b_1, .cells #[slv l_4.q l_4.n l_4.cap, .int .i64 t14, .int .i64 t16.r0, slv l_9.q l_9.n l_9.cap, slv l_14.q l_14.n l_14.cap] 29 (0, 0)), (b, .cells #[slv none 0 0, .int .i64 0, .int .i64 0, slv none 0 0, slv none 0 0] 29 (0, 0))] [⟨68, RW.enc o.s7_table, l_4.sp, l_4.q, []⟩, ⟨3, RI.enc o_1.s7_floors, l_9.sp, l_9.q, []⟩, ⟨51, RS.enc s_2.s7_sills, l_14.sp, l_14.q, []⟩] _) rfl (by decide +kernel) (fun w k hh => hh.draw k) (fun w hh => hh.sel [2, 3] [0, 1, 2] 0 (by decide) (by decide) rfl rfl rfl) ?_
         refine p_free rfl rfl rfl rfl (fun _ _ => v_move rfl) ?_
         refine p_free rfl rfl rfl rfl (fun w _ => v_fieldAddr 3 (Try.runUnderlying29 w) rfl (Try.sizeOf26 w) rfl) ?_
         refine p_hoist rfl rfl rfl rfl (fun w hh => v_load (Try.isAgg26 w) rfl (hh.cell 0 rfl rfl)) ?_
         refine p_free rfl rfl rfl rfl (fun w _ => v_lenN (vlen RI h34 rfl) (Try.runUnderlying26 w) rfl) ?_
         obtain ⟨t81, h65, hm⟩ := bindO hm
         refine p_free rfl rfl rfl rfl (fun _ _ => v_subc h65 rfl rfl) ?_
         refine p_free rfl rfl rfl rfl (fun _ _ => v_move rfl) ?_
         refine p_free rfl rfl rfl rfl (fun w _ => v_fieldAddr 3 (Try.runUnderlying29 w) rfl (Try.sizeOf26 w) rfl) ?_
         refine p_hoist rfl rfl rfl rfl (fun w hh => v_load (Try.isAgg26 w) rfl (hh.cell 0 rfl rfl)) ?_
         refine p_free rfl rfl rfl rfl (fun w _ => v_lenN (vlen RI h34 rfl) (Try.runUnderlying26 w) rfl) ?_
         obtain ⟨t87, h66, hm⟩ := bindO hm
         refine p_free rfl rfl rfl rfl (fun _ _ => v_subc h66 rfl rfl) ?_
         refine p_one rfl ?_
         obtain ⟨t82, h67, hm⟩ := bindO hm
         refine g_sel (S' := [_, _, _, _]) (vs' := [_, _, _]) [1, 0, 2, 3] [0, 1, 2] 0 (by decide) (by decide) rfl rfl rfl ?_
         refine g_callH [_] [] rfl rfl rfl rfl rfl rfl rfl (fun a w => Try.call20 a w) (fun w hh => c_laurelkit_Heap_From b00 t70.h0_1 t70.h0_2 (-1) t81 pb qa0 na0 ca0 w (HV.callee (S0 := [_]) (vs0 := []) hh (roC (hh.rsep (S0 := [_]) (vs0 := []) 0 rfl) roN)) hna0 hqa0 hla0 h67) (fun l_19 h68 => ?_)
         refine g_sel (S' := [_, _, _, _]) (vs' := [_, _, _]) [0, 1, 2, 3] [0, 1, 2] 0 (by decide) (by decide) rfl rfl rfl ?_
         refine p_next (fun w hh => hh.sel [2, 3] [0, 1, 2] 0 (by decide) (by decide) rfl rfl rfl) ?_
         refine p_free rfl rfl rfl rfl (fun w _ => v_fieldAddr 0 (Try.runUnderlying51 w) rfl (Try.sizeOf3 w) rfl) ?_
         refine p_one rfl ?_
         obtain ⟨t88, h69, hm⟩ := bindO hm
         refine g_callH [_] [] rfl rfl rfl rfl rfl rfl rfl (fun a w => Try.call64 a w) (fun w hh => c_laurelkit_Heap_Upto b00 t82.h0_1 t82.h0_2 t87 pb qa0 na0 ca0 w (HV.callee (S0 := [_]) (vs0 := []) hh (roC (hh.rsep (S0 := [_]) (vs0 := []) 0 rfl) roN)) hna0 hqa0 hla0 h69) (fun l_20 h70 => ?_)
         refine g_sel (S' := [_, _, _, _]) (vs' := [_, _, _]) [0, 1, 2, 3] [0, 1, 2] 0 (by decide) (by decide) rfl rfl rfl ?_
         refine p_next (fun w hh => hh.sel [2, 3] [0, 1, 2] 0 (by decide) (by decide) rfl rfl rfl) ?_
         refine p_one rfl ?_
         refine g_stS (cs' := #[_, _, _]) (S' := [_, _, _, _]) 1 (fun w => Try.sizeOf3 w) rfl rfl rfl rfl rfl rfl rfl ?_
         refine p_next (fun w hh => hh.sel [2, 3] [0, 1, 2] 0 (by decide) (by decide) rfl rfl rfl) ?_
         refine p_free rfl rfl rfl rfl (fun w _ => v_fieldAddr 1 (Try.runUnderlying51 w) rfl (Try.sizeOf3 w) rfl) ?_
         refine p_one rfl ?_
         refine g_stS (cs' := #[_, _, _]) (S' := [_, _, _, _]) 1 (fun w => Try.sizeOf3 w) rfl rfl rfl rfl rfl rfl rfl ?_
         refine p_next (fun w hh => hh.sel [2, 3] [0, 1, 2] 0 (by decide) (by decide) rfl rfl rfl) ?_
         refine p_done ?_
         obtain rfl := Option.some.inj hm
         exact g_leaf () (trivial) ((.cons rfl (.cons rfl (.cons rfl (.cons rfl (.cons rfl (.cons rfl .nil))))))) (fun w hh => hh.sel [1, 0, 2, 3] [0, 1, 2] 0 (by decide) (by decide) rfl rfl rfl)
        ·replace hm := ifF (of_decide_eq_false h64) hm
         refine g_skip ?_
         obtain rfl := Option.some.inj hm
         exact g_leaf () (trivial) ((.cons rfl (.cons rfl (.cons rfl (.cons rfl (.cons rfl (.cons rfl .nil))))))) (fun w hh => hh)
       ·intro l_18 hj
        replace hm := h63
        refine g_n_then ?_
        refine g_seq ?_
        obtain ⟨o_5, h71, h72⟩ := bindO hm
        refine g_cut (ι := Unit) (fun l_21 => True) (fun l_21 => [(0, ptr pb 0), (6, ptr b 0), (7, ptr b_1 0), (11, ptr b_2 0), (54, .int .i64 t54.r0), (55, .int .i64 s_2.t55)]) (fun l_21 => [(b_2, .cells #[.int .i64 o_5.x11_a, .int .i64 o_5.x11_b, .int .i64 t70.r0] 51 (0, 0)), (pb, .cells #[.slice qa0 na0 ca0, .int .i64 o_5.b0_1, .int .u32 o_5.b0_2] 138 (0, 0)), (b_1, .cells #[slv l_4.q l_4.n l_4.cap, .int .i64 t14, .int .i64 t16.r0, slv l_9.q l_9.n l_9.cap, slv l_14.q l_14.n l_14.cap] 29 (0, 0)), (b, .cells #[slv none 0 0, .int .i64 0, .int .i64 0, slv none 0 0, slv none 0 0] 29 (0, 0))]) (fun l_21 => [⟨68, RW.enc o.s7_table, l_4.sp, l_4.q, []⟩, ⟨3, RI.enc o_1.s7_floors, l_9.sp, l_9.q, []⟩, ⟨51, RS.enc s_2.s7_sills, l_14.sp, l_14.q, []⟩]) ?_ ?_
        ·replace hm := h71
         refine g_seq ?_
         refine g_region ?_
         refine g_val rfl rfl rfl (fun _ _ => v_move rfl) ?_
         obtain ⟨t92, h73, hm⟩ := bindO hm
         refine g_sel (S' := [_, _, _, _]) (vs' := [_, _, _]) [1, 0, 2, 3] [0, 1, 2] 0 (by decide) (by decide) rfl rfl rfl ?_
         refine g_callH [_] [] rfl rfl rfl rfl rfl rfl rfl (fun a w => Try.call85 a w) (fun w hh => c_laurelkit_Heap_Once b00 o_4.b0_1 o_4.b0_2 3 pb qa0 na0 ca0 w (HV.callee (S0 := [_]) (vs0 := []) hh (roC (hh.rsep (S0 := [_]) (vs0 := []) 0 rfl) roN)) hna0 hqa0 hla0 h73) (fun l_22 h74 => ?_)
         refine g_sel (S' := [_, _, _, _]) (vs' := [_, _, _]) [0, 1, 2, 3] [0, 1, 2] 0 (by decide) (by decide) rfl rfl rfl ?_
         refine g_nil ?_
         refine g_n_then ?_
         refine g_cond rfl (fun h75 => ?_) (fun h75 => ?_)
         ·replace hm := ifT (h75) hm
          refine g_region ?_
          refine g_val rfl rfl rfl (fun w _ => v_fieldAddr 1 (Try.runUnderlying51 w) rfl (Try.sizeOf3 w) rfl) ?_
          refine g_val rfl rfl rfl (fun w hh => v_load (Try.isAgg3 w) rfl (hh.cell 1 rfl rfl)) ?_
          refine g_val rfl rfl rfl (fun w _ => v_fieldAddr 0 (Try.runUnderlying51 w) rfl (Try.sizeOf3 w) rfl) ?_
          refine g_val rfl rfl rfl (fun w hh => v_load (Try.isAgg3 w) rfl (hh.cell 1 rfl rfl)) ?_
          refine g_val rfl rfl rfl (fun w _ => v_fieldAddr 0 (Try.runUnderlying51 w) rfl (Try.sizeOf3 w) rfl) ?_
          refine g_stS (cs' := #[_, _, _]) (S' := [_, _, _, _]) 1 (fun w => Try.sizeOf3 w) rfl rfl rfl rfl rfl rfl rfl ?_
          refine g_val rfl rfl rfl (fun w _ => v_fieldAddr 1 (Try.runUnderlying51 w) rfl (Try.sizeOf3 w) rfl) ?_
          refine g_stS (cs' := #[_, _, _]) (S' := [_, _, _, _]) 1 (fun w => Try.sizeOf3 w) rfl rfl rfl rfl rfl rfl rfl ?_
          refine g_nil ?_
          obtain rfl := Option.some.inj hm
          exact g_leaf () (trivial) ((.cons rfl (.cons rfl (.cons rfl (.cons rfl (.cons rfl (.cons rfl .nil))))))) (fun w hh => hh.sel [1, 0, 2, 3] [0, 1, 2] 0 (by decide) (by decide) rfl rfl rfl)
         ·replace hm := ifF ((fun hh => Bool.noConfusion ((h75).symm.trans hh))) hm
          refine g_skip ?_
          obtain rfl := Option.some.inj hm
          exact g_leaf () (trivial) ((.cons rfl (.cons rfl (.cons rfl (.cons rfl (.cons rfl (.cons rfl .nil))))))) (fun w hh => hh.sel [1, 0, 2, 3] [0, 1, 2] 0 (by decide) (by decide) rfl rfl rfl)
        ·intro l_21 hj
         replace hm := h72
         refine g_n_then ?_
         refine g_seq ?_
         refine g_region ?_
         refine g_val rfl rfl rfl (fun w _ => v_fieldAddr 0 (Try.runUnderlying51 w) rfl (Try.sizeOf3 w) rfl) ?_
         refine g_val rfl rfl rfl (fun w hh => v_load (Try.isAgg3 w) rfl (hh.cell 0 rfl rfl)) ?_
         refine g_val rfl rfl rfl (fun w _ => v_fieldAddr 1 (Try.runUnderlying51 w) rfl (Try.sizeOf3 w) rfl) ?_
         refine g_val rfl rfl rfl (fun w hh => v_load (Try.isAgg3 w) rfl (hh.cell 0 rfl rfl)) ?_
         refine g_val rfl rfl rfl (fun _ _ => v_neq rfl rfl) ?_
         refine g_nil ?_
         refine g_n_then ?_
         refine g_cond rfl (fun h76 => ?_) (fun h76 => ?_)
         ·replace hm := ifF (of_ndec_true h76) hm
          refine g_region ?_
          refine g_val rfl rfl rfl (fun w _ => v_fieldAddr 4 (Try.runUnderlying29 w) rfl (Try.sizeOf27 w) rfl) ?_
          refine g_val rfl rfl rfl (fun w hh => v_load (Try.isAgg27 w) rfl (hh.cell 2 rfl rfl)) ?_
          refine g_val rfl rfl rfl (fun w hh => v_loadAgg (vs := [_, _, _]) (Try.isAgg51 w) (Try.sizeOf51 w) rfl (hh.cells 0 rfl rfl)) ?_
          refine g_vlit RS [(⟨o_5.x11_a, o_5.x11_b, t70.r0⟩ : Sill)] (ps := [(0, _)]) (cells := [_, _, _]) (fun w => Try.runUnderlying27 w) (fun w => Try.sizeOf51 w) (fun w => Try.zeroValue51 w) rfl rfl rfl rfl rfl rfl rfl rfl (fun L_4 h77 => ?_)
          obtain ⟨t108, h78, hm⟩ := bindO hm
          refine g_vapp RS 3 h78 Try.underlying27 gxinf51 rfl rfl rfl rfl rfl h49 rfl rfl (vlen RS h77 rfl) (AOK.q (vne h77)) (fun w hh => (hh.vsegA 0 rfl h77)) rfl (fun L_5 h79 h79n => ?_)
          refine g_sel (S' := [_, _, _, _]) (vs' := [_, _, _, _]) [0, 1, 2, 3] [0, 1, 2, 3] 0 (by decide) (by decide) rfl rfl rfl ?_
          refine g_val rfl rfl rfl (fun w _ => v_fieldAddr 4 (Try.runUnderlying29 w) rfl (Try.sizeOf27 w) rfl) ?_
          refine g_stS (cs' := #[_, _, _, _, _]) (S' := [_, _, _, _]) 2 (fun w => Try.sizeOf27 w) rfl rfl rfl rfl rfl rfl rfl ?_
          refine g_nil ?_
          refine g_n_blk ?_
          obtain rfl := Option.some.inj hm
          exact g_leaf L_5 (h79) ((.cons rfl (.cons rfl (.cons rfl (.cons rfl (.cons rfl .nil)))))) (fun w hh => hh.sel [1, 2, 3] [1, 2, 3] 0 (by decide) (by decide) rfl rfl rfl)
         ·replace hm := ifT (of_ndec_false h76) hm
          refine g_skip ?_
          refine g_n_blk ?_
          obtain rfl := Option.some.inj hm
          exact g_leaf l_14 (h49) ((.cons rfl (.cons rfl (.cons rfl (.cons rfl (.cons rfl .nil)))))) (fun w hh => hh.sel [1, 2, 3] [0, 1, 2] 0 (by decide) (by decide) rfl rfl rfl)
      ·intro l_15 hj
       have h54 := hj
       replace hm := h53
       refine g_n_then ?_
       refine g_region ?_
       obtain ⟨t110, h80, hm⟩ := bindO hm
       refine g_val rfl rfl rfl (fun _ _ => v_addc h80 rfl rfl) ?_
       refine g_val rfl rfl rfl (fun _ _ => v_move rfl) ?_
       refine g_nil ?_
       obtain rfl := Option.some.inj hm
       refine g_n_then ?_
       exact g_again' _ l_15 rfl (h54) ((.cons rfl (.cons rfl (.cons rfl (.cons rfl (.cons rfl .nil)))))) (fun w hh => hh)
     ·replace hm := ifF (of_decide_eq_false h51) hm
      refine g_exit ?_
      refine g_x_then ?_
      refine g_x_then ?_
      refine g_x_blk ?_
      obtain rfl := Option.some.inj hm
      have hbo := h50 _ rfl
      subst hbo
      exact g_leaf l_14 (h49) ((.cons rfl (.cons rfl .nil))) (fun w hh => hh)
    ·intro l_13 hj
     have h48 := hj
     replace hm := h47
     refine g_n_then ?_
     refine g_seq ?_
     refine g_region ?_
     refine g_val rfl rfl rfl (fun w hh => v_loadAgg (vs := [_, _, _, _, _]) (Try.isAgg29 w) (Try.sizeOf29 w) rfl (hh.cells 1 rfl rfl)) ?_
     refine g_stSA (us := #[_, _, _, _, _]) (cs' := [_, _, _, _, _]) (S' := [_, _, _]) 2 (fun w => Try.sizeOf29 w) rfl rfl rfl rfl rfl rfl rfl ?_
     refine g_nil ?_
     refine g_n_then ?_
     refine g_ret ?_
     obtain rfl := Option.some.inj hm
     refine g_done rfl (fun w hh => (.cell rfl (loadVar_agg (vs := [_, _, _, _, _]) (Try.isAgg29 _) (Try.sizeOf29 _) (hh.cells 2 rfl rfl)) .nil)) (fun w hh => ⟨(l_4, l_9, l_13), rfl, ⟨h17, h34, h48⟩, hh.sel [0] [0, 1, 2] 1 (by decide) (by decide) rfl rfl rfl⟩)
def m_laurellaw01_first (s0 : Sands) : Option Int :=
 (ix s0.table 0).bind fun t5 =>
 some t5.min
set_option maxRecDepth 100000 in
set_option maxHeartbeats 4000000 in
theorem c_laurellaw01_first (s0 : Sands) (qa0 : Option Addr) (na0 ca0 : Nat) (qa1 : Option Addr) (na1 ca1 : Nat) (qa2 : Option Addr) (na2 ca2 : Nat) (w : World) (hw : HV w (keys [] []) [] [] [(aB qa0, aO qa0, RW.enc s0.table), (aB qa1, aO qa1, RI.enc s0.floors), (aB qa2, aO qa2, RS.enc s0.sills)] w) (hna0 : s0.table.length = na0) (hqa0 : AOK na0 qa0) (hla0 : na0 ≤ ca0) (hna1 : s0.floors.length = na1) (hqa1 : AOK na1 qa1) (hla1 : na1 ≤ ca1) (hna2 : s0.sills.length = na2) (hqa2 : AOK na2 qa2) (hla2 : na2 ≤ ca2) {res : Int} (hm : m_laurellaw01_first s0 = some res) :
    Calls Try.prog 26 #[.agg #[.slice qa0 na0 ca0, .int .i64 s0.wind.lo, .int .i64 s0.wind.hi, .slice qa1 na1 ca1, .slice qa2 na2 ca2]] w (fun en w' => ∃ l : Unit, en = .returned (.int .i64 res) ∧ (True) ∧ HV w (keys [] []) [] [] [] w') := by
  unfold m_laurellaw01_first at hm
  refine g_enter (args := [.agg #[.slice qa0 na0 ca0, .int .i64 s0.wind.lo, .int .i64 s0.wind.hi, .slice qa1 na1 ca1, .slice qa2 na2 ca2]]) Try.func26 rfl Try.ntmps26 rfl (e := [(0, _)]) rfl (H := HV w (keys [] []) [] [] [(aB qa0, aO qa0, RW.enc s0.table), (aB qa1, aO qa1, RI.enc s0.floors), (aB qa2, aO qa2, RS.enc s0.sills)]) hw ?_
  refine g_seq ?_
  refine g_region ?_
  refine g_boxV rfl rfl (fun b h1 => ?_)
  refine g_val rfl rfl rfl (fun _ _ => v_assign rfl) ?_
  refine g_nil ?_
  refine g_n_then ?_
  refine g_seq ?_
  refine g_region ?_
  refine g_val rfl rfl rfl (fun w _ => v_fieldAddr 0 (Try.runUnderlying29 w) rfl (Try.sizeOf23 w) rfl) ?_
  refine g_val rfl rfl rfl (fun w hh => v_load (Try.isAgg23 w) rfl (hh.cell 0 rfl rfl)) ?_
  obtain ⟨t5, h2, hm⟩ := bindO hm
  refine g_val rfl rfl rfl (fun w _ => v_ixR h2 (Try.runUnderlying23 w) (Try.sizeOf68 w) rfl rfl hna0 hqa0) ?_
  refine g_val rfl rfl rfl (fun w _ => v_fieldAddr 0 (Try.runUnderlying68 w) rfl (Try.sizeOf3 w) rfl) ?_
  refine g_val rfl rfl rfl (fun w hh => v_ldE RW 0 h2 (Try.isAgg3 w) rfl (hh.seg 0 rfl) rfl rfl) ?_
  refine g_val rfl rfl rfl (fun _ _ => v_assign rfl) ?_
  refine g_nil ?_
  refine g_n_then ?_
  refine g_ret ?_
  obtain rfl := Option.some.inj hm
  refine g_done rfl (fun w hh => (.tmp rfl .nil)) (fun w hh => ⟨(), rfl, trivial, hh.sel [] [] 3 (by decide) (by decide) rfl rfl rfl⟩)
def m_laurellaw01_last (s0 : Sands) : Option Int :=
 (subc (s0.table.length : Int) 1).bind fun t8 =>
 (ix s0.table t8).bind fun t9 =>
 some t9.min
set_option maxRecDepth 100000 in
set_option maxHeartbeats 4000000 in
theorem c_laurellaw01_last (s0 : Sands) (qa0 : Option Addr) (na0 ca0 : Nat) (qa1 : Option Addr) (na1 ca1 : Nat) (qa2 : Option Addr) (na2 ca2 : Nat) (w : World) (hw : HV w (keys [] []) [] [] [(aB qa0, aO qa0, RW.enc s0.table), (aB qa1, aO qa1, RI.enc s0.floors), (aB qa2, aO qa2, RS.enc s0.sills)] w) (hna0 : s0.table.length = na0) (hqa0 : AOK na0 qa0) (hla0 : na0 ≤ ca0) (hna1 : s0.floors.length = na1) (hqa1 : AOK na1 qa1) (hla1 : na1 ≤ ca1) (hna2 : s0.sills.length = na2) (hqa2 : AOK na2 qa2) (hla2 : na2 ≤ ca2) {res : Int} (hm : m_laurellaw01_last s0 = some res) :
    Calls Try.prog 27 #[.agg #[.slice qa0 na0 ca0, .int .i64 s0.wind.lo, .int .i64 s0.wind.hi, .slice qa1 na1 ca1, .slice qa2 na2 ca2]] w (fun en w' => ∃ l : Unit, en = .returned (.int .i64 res) ∧ (True) ∧ HV w (keys [] []) [] [] [] w') := by
  unfold m_laurellaw01_last at hm
  refine g_enter (args := [.agg #[.slice qa0 na0 ca0, .int .i64 s0.wind.lo, .int .i64 s0.wind.hi, .slice qa1 na1 ca1, .slice qa2 na2 ca2]]) Try.func27 rfl Try.ntmps27 rfl (e := [(0, _)]) rfl (H := HV w (keys [] []) [] [] [(aB qa0, aO qa0, RW.enc s0.table), (aB qa1, aO qa1, RI.enc s0.floors), (aB qa2, aO qa2, RS.enc s0.sills)]) hw ?_
  refine g_seq ?_
  refine g_region ?_
  refine g_boxV rfl rfl (fun b h1 => ?_)
  refine g_val rfl rfl rfl (fun _ _ => v_assign rfl) ?_
  refine g_nil ?_
  refine g_n_then ?_
  refine g_seq ?_
  refine g_region ?_
  refine g_val rfl rfl rfl (fun w _ => v_fieldAddr 0 (Try.runUnderlying29 w) rfl (Try.sizeOf23 w) rfl) ?_
  refine g_val rfl rfl rfl (fun w hh => v_load (Try.isAgg23 w) rfl (hh.cell 0 rfl rfl)) ?_
  refine g_val rfl rfl rfl (fun w _ => v_fieldAddr 0 (Try.runUnderlying29 w) rfl (Try.sizeOf23 w) rfl) ?_
  refine g_val rfl rfl rfl (fun w hh => v_load (Try.isAgg23 w) rfl (hh.cell 0 rfl rfl)) ?_
  refine g_val rfl rfl rfl (fun w _ => v_lenR hna0 (Try.runUnderlying23 w) rfl) ?_
  obtain ⟨t8, h2, hm⟩ := bindO hm
  refine g_val rfl rfl rfl (fun _ _ => v_subc h2 rfl rfl) ?_
  obtain ⟨t9, h3, hm⟩ := bindO hm
  refine g_val rfl rfl rfl (fun w _ => v_ixR h3 (Try.runUnderlying23 w) (Try.sizeOf68 w) rfl rfl hna0 hqa0) ?_
  refine g_val rfl rfl rfl (fun w _ => v_fieldAddr 0 (Try.runUnderlying68 w) rfl (Try.sizeOf3 w) rfl) ?_
  refine g_val rfl rfl rfl (fun w hh => v_ldE RW 0 h3 (Try.isAgg3 w) rfl (hh.seg 0 rfl) rfl rfl) ?_
  refine g_val rfl rfl rfl (fun _ _ => v_assign rfl) ?_
  refine g_nil ?_
  refine g_n_then ?_
  refine g_ret ?_
  obtain rfl := Option.some.inj hm
  refine g_done rfl (fun w hh => (.tmp rfl .nil)) (fun w hh => ⟨(), rfl, trivial, hh.sel [] [] 3 (by decide) (by decide) rfl rfl rfl⟩)
end Go.Proofs.Wk

namespace Go.Proofs.Wk
open Go Go.Fw Go.Gx Go.Pl
set_option linter.unusedVariables false
def m_slices_Equal_intint_L0 (s10 : (List Int)) (s21 : (List Int)) (s : Int) : Option (Int ⊕ (Unit ⊕ Bool)) :=
 if s < (s10.length : Int) then
 ((ix s10 s).bind fun t18 =>
 (ix s21 s).bind fun t22 =>
 if t18 = t22 then
 ((addc s 1).bind fun t25 =>
 some (.inl t25)) else
 (some (.inr (.inr false)))) else
 (some (.inr (.inl ())))
def m_slices_Equal_intint (s10 : (List Int)) (s21 : (List Int)) : Option Bool :=
 if (s10.length : Int) = (s21.length : Int) then
 ((iterM FU (m_slices_Equal_intint_L0 s10 s21) 0).bind fun o =>
 oc o (fun j => some true) (fun r_1 => some r_1)) else
 (some false)
set_option maxRecDepth 100000 in
set_option maxHeartbeats 4000000 in
theorem c_slices_Equal_intint (s10 : (List Int)) (s21 : (List Int)) (qa0 : Option Addr) (na0 ca0 : Nat) (qa1 : Option Addr) (na1 ca1 : Nat) (w : World) (hw : HV w (keys [] []) [] [] [(aB qa0, aO qa0, RI.enc s10), (aB qa1, aO qa1, RI.enc s21)] w) (hna0 : s10.length = na0) (hqa0 : AOK na0 qa0) (hla0 : na0 ≤ ca0) (hna1 : s21.length = na1) (hqa1 : AOK na1 qa1) (hla1 : na1 ≤ ca1) {res : Bool} (hm : m_slices_Equal_intint s10 s21 = some res) :
    Calls Try.prog 130 #[.slice qa0 na0 ca0, .slice qa1 na1 ca1] w (fun en w' => ∃ l : Unit, en = .returned (.bool res) ∧ (True) ∧ HV w (keys [] []) [] [] [] w') := by
  unfold m_slices_Equal_intint at hm
  refine g_enter (args := [.slice qa0 na0 ca0, .slice qa1 na1 ca1]) Try.func130 rfl Try.ntmps130 rfl (e := [(0, _), (1, _)]) rfl (H := HV w (keys [] []) [] [] [(aB qa0, aO qa0, RI.enc s10), (aB qa1, aO qa1, RI.enc s21)]) hw ?_
  refine g_seq ?_
  refine g_region ?_
  refine g_val rfl rfl rfl (fun _ _ => v_assign rfl) ?_
  refine g_nil ?_
  refine g_n_then ?_
  refine g_seq ?_
  refine g_seq ?_
  refine g_region ?_
  refine g_val rfl rfl rfl (fun _ _ => v_move rfl) ?_
  refine g_val rfl rfl rfl (fun w _ => v_lenR hna0 (Try.runUnderlying26 w) rfl) ?_
  refine g_val rfl rfl rfl (fun _ _ => v_move rfl) ?_
  refine g_val rfl rfl rfl (fun w _ => v_lenR hna1 (Try.runUnderlying26 w) rfl) ?_
  refine g_val rfl rfl rfl (fun _ _ => v_neq rfl rfl) ?_
  refine g_nil ?_
  refine g_n_then ?_
  refine g_cond rfl (fun h1 => ?_) (fun h1 => ?_)
  ·replace hm := ifF (of_ndec_true h1) hm
   refine g_seq ?_
   refine g_region ?_
   refine g_val rfl rfl rfl (fun _ _ => v_assign rfl) ?_
   refine g_nil ?_
   refine g_n_then ?_
   refine g_ret ?_
   refine g_r_then ?_
   obtain rfl := Option.some.inj hm
   refine g_done rfl (fun w hh => (.tmp rfl .nil)) (fun w hh => ⟨(), rfl, trivial, hh.sel [] [] 2 (by decide) (by decide) rfl rfl rfl⟩)
  ·replace hm := ifT (of_ndec_false h1) hm
   refine g_skip ?_
   refine g_n_then ?_
   refine g_seq ?_
   refine g_seq ?_
   refine g_region ?_
   refine g_val rfl rfl rfl (fun _ _ => v_move rfl) ?_
   refine g_val rfl rfl rfl (fun w _ => v_lenR hna0 (Try.runUnderlying26 w) rfl) ?_
   refine g_val rfl rfl rfl (fun _ _ => v_move rfl) ?_
   refine g_nil ?_
   refine g_n_then ?_
   obtain ⟨o, h2, h3⟩ := bindO hm
   refine g_cut (ι := Unit) (fun j => o = .inl j) (fun j => []) (fun j => []) (fun j => []) ?_ ?_
   ·replace hm := h2
    refine g_block ?_
    refine g_loopF (ι := Unit) hm (fun s l => True) (fun s l => [(0, .slice qa0 na0 ca0), (1, .slice qa1 na1 ca1), (12, .int .i64 (s10.length : Int)), (13, .int .i64 s)]) (fun s l => []) (fun s l => []) () (trivial) ((.cons rfl (.cons rfl (.cons rfl (.cons rfl .nil))))) (fun w hh => hh) (fun s l r hpl hm h4 => ?_)
    unfold m_slices_Equal_intint_L0 at hm
    refine g_seq ?_
    refine g_region ?_
    refine g_val rfl rfl rfl (fun _ _ => v_lss rfl rfl) ?_
    refine g_nil ?_
    refine g_n_then ?_
    refine g_seq ?_
    refine g_cond rfl (fun h5 => ?_) (fun h5 => ?_)
    ·replace hm := ifT (of_decide_eq_true h5) hm
     refine g_skip ?_
     refine g_n_then ?_
     refine g_seq ?_
     refine g_block ?_
     refine g_seq ?_
     refine g_region ?_
     refine g_val rfl rfl rfl (fun _ _ => v_move rfl) ?_
     refine g_val rfl rfl rfl (fun _ _ => v_assign rfl) ?_
     refine g_nil ?_
     refine g_n_then ?_
     refine g_seq ?_
     refine g_draw none (.free 0 (.free 1 (.free 2 (.hoist 3 (.free 4 (.free 5 (.free 6 (.hoist 7 (.free 8 .done))))))))) _ rfl (by decide +kernel) (fun w k hh => hh.draw k) (fun w hh => hh) ?_
     refine p_free rfl rfl rfl rfl (fun _ _ => v_move rfl) ?_
     refine p_free rfl rfl rfl rfl (fun _ _ => v_move rfl) ?_
     obtain ⟨t18, h6, hm⟩ := bindO hm
     refine p_free rfl rfl rfl rfl (fun w _ => v_ixR h6 (Try.runUnderlying26 w) (Try.sizeOf3 w) rfl rfl hna0 hqa0) ?_
     refine p_hoist rfl rfl rfl rfl (fun w hh => v_ldE RI 0 h6 (Try.isAgg3 w) rfl (hh.seg 0 rfl) rfl (Nat.add_zero _).symm) ?_
     refine p_free rfl rfl rfl rfl (fun _ _ => v_move rfl) ?_
     refine p_free rfl rfl rfl rfl (fun _ _ => v_move rfl) ?_
     obtain ⟨t22, h7, hm⟩ := bindO hm
     refine p_free rfl rfl rfl rfl (fun w _ => v_ixR h7 (Try.runUnderlying26 w) (Try.sizeOf3 w) rfl rfl hna1 hqa1) ?_
     refine p_hoist rfl rfl rfl rfl (fun w hh => v_ldE RI 0 h7 (Try.isAgg3 w) rfl (hh.seg 1 rfl) rfl (Nat.add_zero _).symm) ?_
     refine p_free rfl rfl rfl rfl (fun _ _ => v_neq rfl rfl) ?_
     refine p_done ?_
     refine g_n_then ?_
     refine g_cond rfl (fun h8 => ?_) (fun h8 => ?_)
     ·replace hm := ifF (of_ndec_true h8) hm
      refine g_seq ?_
      refine g_region ?_
      refine g_val rfl rfl rfl (fun _ _ => v_assign rfl) ?_
      refine g_nil ?_
      refine g_n_then ?_
      refine g_ret ?_
      refine g_r_blk ?_
      refine g_r_then ?_
      refine g_r_then ?_
      refine g_r_blk ?_
      obtain rfl := Option.some.inj hm
      have hbo := h4 _ rfl
      subst hbo
      refine g_r_then ?_
      replace hm := ocR h3
      refine g_r_then ?_
      obtain rfl := Option.some.inj hm
      refine g_done rfl (fun w hh => (.tmp rfl .nil)) (fun w hh => ⟨(), rfl, trivial, hh.sel [] [] 2 (by decide) (by decide) rfl rfl rfl⟩)
     ·replace hm := ifT (of_ndec_false h8) hm
      refine g_skip ?_
      refine g_n_blk ?_
      refine g_n_then ?_
      refine g_region ?_
      obtain ⟨t25, h9, hm⟩ := bindO hm
      refine g_val rfl rfl rfl (fun _ _ => v_addc h9 rfl rfl) ?_
      refine g_val rfl rfl rfl (fun _ _ => v_move rfl) ?_
      refine g_nil ?_
      obtain rfl := Option.some.inj hm
      refine g_n_then ?_
      exact g_again' _ () rfl (trivial) ((.cons rfl (.cons rfl (.cons rfl (.cons rfl .nil))))) (fun w hh => hh)
    ·replace hm := ifF (of_decide_eq_false h5) hm
     refine g_exit ?_
     refine g_x_then ?_
     refine g_x_then ?_
     refine g_x_blk ?_
     obtain rfl := Option.some.inj hm
     have hbo := h4 _ rfl
     subst hbo
     exact g_leaf () (rfl) (.nil) (fun w hh => hh)
   ·intro j hj
    have h10 := hj
    subst h10
    replace hm := ocL h3
    refine g_n_then ?_
    refine g_seq ?_
    refine g_region ?_
    refine g_val rfl rfl rfl (fun _ _ => v_assign rfl) ?_
    refine g_nil ?_
    refine g_n_then ?_
    refine g_ret ?_
    obtain rfl := Option.some.inj hm
    refine g_done rfl (fun w hh => (.tmp rfl .nil)) (fun w hh => ⟨(), rfl, trivial, hh.sel [] [] 2 (by decide) (by decide) rfl rfl rfl⟩)
def m_laurelkit_Eq_int (a0 : (List Int)) (b1 : (List Int)) : Option Bool :=
 (m_slices_Equal_intint a0 b1).bind fun t7 =>
 some t7
set_option maxRecDepth 100000 in
set_option maxHeartbeats 4000000 in
theorem c_laurelkit_Eq_int (a0 : (List Int)) (b1 : (List Int)) (qa0 : Option Addr) (na0 ca0 : Nat) (qa1 : Option Addr) (na1 ca1 : Nat) (w : World) (hw : HV w (keys [] []) [] [] [(aB qa0, aO qa0, RI.enc a0), (aB qa1, aO qa1, RI.enc b1)] w) (hna0 : a0.length = na0) (hqa0 : AOK na0 qa0) (hla0 : na0 ≤ ca0) (hna1 : b1.length = na1) (hqa1 : AOK na1 qa1) (hla1 : na1 ≤ ca1) {res : Bool} (hm : m_laurelkit_Eq_int a0 b1 = some res) :
    Calls Try.prog 59 #[.slice qa0 na0 ca0, .slice qa1 na1 ca1] w (fun en w' => ∃ l : Unit, en = .returned (.bool res) ∧ (True) ∧ HV w (keys [] []) [] [] [] w') := by
  unfold m_laurelkit_Eq_int at hm
  refine g_enter (args := [.slice qa0 na0 ca0, .slice qa1 na1 ca1]) Try.func59 rfl Try.ntmps59 rfl (e := [(0, _), (1, _)]) rfl (H := HV w (keys [] []) [] [] [(aB qa0, aO qa0, RI.enc a0), (aB qa1, aO qa1, RI.enc b1)]) hw ?_
  refine g_seq ?_
  refine g_region ?_
  refine g_val rfl rfl rfl (fun _ _ => v_assign rfl) ?_
  refine g_nil ?_
  refine g_n_then ?_
  refine g_seq ?_
  refine g_region ?_
  refine g_val rfl rfl rfl (fun _ _ => v_move rfl) ?_
  refine g_val rfl rfl rfl (fun _ _ => v_move rfl) ?_
  obtain ⟨t7, h1, hm⟩ := bindO hm
  refine g_callH [] [] rfl rfl rfl rfl rfl rfl rfl (fun a w => Try.call130 a w) (fun w hh => c_slices_Equal_intint a0 b1 qa0 na0 ca0 qa1 na1 ca1 w (HV.callee (S0 := []) (vs0 := []) hh (roC (hh.rsep (S0 := []) (vs0 := []) 0 rfl) (roC (hh.rsep (S0 := []) (vs0 := []) 1 rfl) roN))) hna0 hqa0 hla0 hna1 hqa1 hla1 h1) (fun l h2 => ?_)
  refine g_val rfl rfl rfl (fun _ _ => v_assign rfl) ?_
  refine g_nil ?_
  refine g_n_then ?_
  refine g_ret ?_
  obtain rfl := Option.some.inj hm
  refine g_done rfl (fun w hh => (.tmp rfl .nil)) (fun w hh => ⟨(), rfl, trivial, hh.sel [] [] 2 (by decide) (by decide) rfl rfl rfl⟩)
end Go.Proofs.Wk

namespace Go.Pl
structure TabOK (T : List Water) (at_ : Int) : Prop where
  inc : ∀ i, i + 1 < T.length → (T.getD i default).min < (T.getD (i + 1) default).min
  rg : ∀ i, i < T.length → 0 ≤ (T.getD i default).min ∧ (T.getD i default).min < at_ ∧ 0 ≤ (T.getD i default).h ∧ (T.getD i default).h ≤ 60
theorem TabOK.nil {a : Int} : TabOK [] a := ⟨fun i h => by simp at h, fun i h => by simp at h⟩
theorem getD_snoc {α : Type} {d : α} {l : List α} {x : α} {i : Nat} : (l ++ [x]).getD i d = if i < l.length then l.getD i d else if i = l.length then x else d := by
  simp only [List.getD_eq_getElem?_getD]
  by_cases h : i < l.length
  · rw [List.getElem?_append_left h, if_pos h]
  · rw [List.getElem?_append_right (by omega), if_neg h]
    by_cases h2 : i = l.length
    · subst h2; simp
    · rw [if_neg h2, List.getElem?_eq_none (by simp; omega)]; rfl
theorem TabOK.snoc {T : List Water} {a b h : Int} (k : TabOK T a) (h0 : 0 ≤ a) (hb : a < b) (hh : 0 ≤ h ∧ h ≤ 60) : TabOK (T ++ [⟨a, h⟩]) b := by
  refine ⟨fun i hi => ?_, fun i hi => ?_⟩
  · simp only [List.length_append, List.length_singleton] at hi
    rw [getD_snoc, getD_snoc, if_pos (by omega)]
    by_cases h1 : i + 1 < T.length
    · rw [if_pos h1]; exact k.inc i h1
    · rw [if_neg h1, if_pos (by omega)]
      exact (k.rg i (by omega)).2.1
  · simp only [List.length_append, List.length_singleton] at hi
    rw [getD_snoc]
    by_cases h1 : i < T.length
    · rw [if_pos h1]; have := k.rg i h1; omega
    · rw [if_neg h1, if_pos (by omega)]; simp only; omega
def sillOK (n : Int) (x : Sill) : Prop := (-1 ≤ x.a ∧ x.a < n) ∧ (-1 ≤ x.b ∧ x.b < n) ∧ x.a ≠ x.b ∧ 0 ≤ x.h ∧ x.h ≤ 50
structure MadeOK (pl sl : Int) (s : Sands) : Prop where
  tl : 2 ≤ s.table.length ∧ s.table.length ≤ 4
  tab : ∃ a, TabOK s.table a ∧ a ≤ 140
  lo : -8 ≤ s.wind.lo ∧ s.wind.lo ≤ 0
  hi : 0 ≤ s.wind.hi ∧ s.wind.hi ≤ 8
  fl : 1 ≤ s.floors.length ∧ (s.floors.length : Int) ≤ pl
  flo : ∀ x, x ∈ s.floors → 0 ≤ x ∧ x ≤ 50
  sl : (s.sills.length : Int) ≤ sl
  sil : ∀ x, x ∈ s.sills → sillOK s.floors.length x
theorem mem_getD {α : Type} {d : α} {l : List α} {j : Nat} (h : j < l.length) : l.getD j d ∈ l := by
  simp only [List.getD_eq_getElem?_getD, List.getElem?_eq_getElem h, Option.getD_some]; exact List.getElem_mem h
theorem MadeOK.check {pl sl : Int} {s : Sands} (h : MadeOK pl sl s) (hp : pl ≤ 8) (hs : sl ≤ 16) : check s = 0 := by
  obtain ⟨a, ht, ha⟩ := h.tab
  have h1 := h.tl
  have h2 := h.fl
  have h3 := h.sl
  have e1 : inr s.table.length 2 12 = true := inr_iff.2 (by omega)
  have e2 : inr s.floors.length 1 8 = true := inr_iff.2 (by omega)
  have e3 : decide (16 < (s.sills.length : Int)) = false := by simp; omega
  have e4 : s.table.all bigW = true := all_of_getD (d := default) (fun j hj => by
    have := ht.rg j hj
    simp only [bigW, Bool.and_eq_true, inr_iff]; omega)
  have e5 : inr s.wind.lo (-50) 50 = true := inr_iff.2 (by have := h.lo; omega)
  have e6 : inr s.wind.hi (-50) 50 = true := inr_iff.2 (by have := h.hi; omega)
  have e7 : s.floors.all hgt = true := all_of_getD (d := 0) (fun j hj => by
    have := h.flo _ (mem_getD (d := 0) hj)
    rw [hgt_iff]; omega)
  have e8 : s.sills.all (fun x => hgt x.h) = true := all_of_getD (d := default) (fun j hj => by
    have := (h.sil _ (mem_getD (d := default) hj)).2.2
    rw [hgt_iff]; omega)
  have e9 : ordered s = true := by
    rw [ordered_true (fun i hi => ht.inc i (by omega))]
    have := h.lo; have := h.hi
    simp; omega
  have e10 : s.sills.all (fun x => isEnd s x.a && isEnd s x.b) = true := all_of_getD (d := default) (fun j hj => by
    have := h.sil _ (mem_getD (d := default) hj)
    unfold sillOK at this
    simp only [Bool.and_eq_true, isEnd_iff]
    omega)
  have e11 : s.sills.all (fun x => !decide (x.a = x.b)) = true := all_of_getD (d := default) (fun j hj => by
    have := h.sil _ (mem_getD (d := default) hj)
    simpa using this.2.2.1)
  simp only [Pl.check, e1, e2, e3, e4, e5, e6, e7, e8, e9, e10, e11, Bool.not_true, Bool.or_self, Bool.false_eq_true, if_false]
end Go.Pl

namespace Go.Pl
inductive Reach (s : Sands) (h : Int) : Int → Prop
  | sea : Reach s h (-1)
  | step {p q : Int} {x : Sill} : Reach s h p → x ∈ s.sills → (x.a = p ∧ x.b = q ∨ x.b = p ∧ x.a = q) → q ≠ -1 → x.h ≤ h → s.floors.getD q.toNat 0 ≤ h → Reach s h q
theorem Reach.mono {s : Sands} {h k : Int} {q : Int} (r : Reach s h q) (hk : h ≤ k) : Reach s k q := by
  induction r with
  | sea => exact .sea
  | step _ hx hj hq h1 h2 ih => exact .step ih hx hj hq (by omega) (by omega)
end Go.Pl

namespace Go.Proofs.Wk
open Go Go.Gx Go.Pl
set_option linter.unusedVariables false
/-! ### numbers out of bytes -/
def HOK (l : List Int) (p : Int) : Prop := 0 ≤ p ∧ (p < (l.length : Int) ∨ p = 0)
theorem pick_ok {l : List Int} {p r : Int} (hl : l.length ≤ 9223372036854775807) (hp : HOK l p) : ∃ x, m_laurelkit_Heap_pick l p r = some x ∧ (0 ≤ x.r0 ∧ x.r0 ≤ 32767) ∧ HOK l x.h0_1 := by
  obtain ⟨h0, h1⟩ := hp
  unfold m_laurelkit_Heap_pick
  have e1 : addc p 1 = some (p + 1) := addc_eq (by omega)
  by_cases hlt : p < (l.length : Int)
  · rw [if_pos hlt, ix_eq 0 h0 hlt, e1]
    simp only [Option.bind_some]
    by_cases hge : (l.length : Int) ≤ p + 1
    · rw [if_pos hge]
      refine ⟨_, rfl, Go.Fw.and_bound _ _ rfl, ?_⟩
      exact ⟨Int.le_refl _, .inr rfl⟩
    · rw [if_neg hge]
      refine ⟨_, rfl, Go.Fw.and_bound _ _ rfl, ?_⟩
      exact ⟨by simp only; omega, .inl (by simp only; omega)⟩
  · rw [if_neg hlt, e1]
    simp only [Option.bind_some]
    by_cases hge : (l.length : Int) ≤ p + 1
    · rw [if_pos hge]
      refine ⟨_, rfl, Go.Fw.and_bound _ _ rfl, ?_⟩
      exact ⟨Int.le_refl _, .inr rfl⟩
    · rw [if_neg hge]
      refine ⟨_, rfl, Go.Fw.and_bound _ _ rfl, ?_⟩
      exact ⟨by simp only; omega, .inl (by simp only; omega)⟩
theorem upto_ok {l : List Int} {p r n : Int} (hl : l.length ≤ 9223372036854775807) (hp : HOK l p) (hn : -1000000 ≤ n ∧ n ≤ 1000000) : ∃ x, m_laurelkit_Heap_Upto l p r n = some x ∧ (0 ≤ x.r0 ∧ x.r0 ≤ max 0 n) ∧ HOK l x.h0_1 := by
  obtain ⟨x, hx, hb, hk⟩ := pick_ok (r := r) hl hp
  unfold m_laurelkit_Heap_Upto
  rw [hx]
  simp only [Option.bind_some]
  rw [addc_eq (by omega)]
  simp only [Option.bind_some]
  rw [remc_eq (by omega)]
  simp only [Option.bind_some]
  refine ⟨_, rfl, ?_, hk⟩
  have h1 := Int.tmod_nonneg (max 1 (n + 1)) hb.1
  have h2 := Int.tmod_lt_of_pos x.r0 (show 0 < max 1 (n + 1) by omega)
  simp only
  omega
theorem from_ok {l : List Int} {p r lo hi : Int} (hl : l.length ≤ 9223372036854775807) (hp : HOK l p) (hn : (-400000 ≤ lo ∧ lo ≤ 400000) ∧ -400000 ≤ hi ∧ hi ≤ 400000) : ∃ x, m_laurelkit_Heap_From l p r lo hi = some x ∧ (lo ≤ x.r0 ∧ x.r0 ≤ max lo hi) ∧ HOK l x.h0_1 := by
  unfold m_laurelkit_Heap_From
  rw [subc_eq (by omega)]
  simp only [Option.bind_some]
  obtain ⟨x, hx, hb, hk⟩ := upto_ok (r := r) (n := hi - lo) hl hp (by omega)
  rw [hx]
  simp only [Option.bind_some]
  rw [addc_eq (by omega)]
  simp only [Option.bind_some]
  exact ⟨_, rfl, by simp only; omega, hk⟩
theorem once_ok {l : List Int} {p r n : Int} (hl : l.length ≤ 9223372036854775807) (hp : HOK l p) (hn : -400000 ≤ n ∧ n ≤ 400000) : ∃ x, m_laurelkit_Heap_Once l p r n = some x ∧ HOK l x.h0_1 := by
  unfold m_laurelkit_Heap_Once
  rw [subc_eq (by omega)]
  simp only [Option.bind_some]
  obtain ⟨x, hx, hb, hk⟩ := upto_ok (r := r) (n := n - 1) hl hp (by omega)
  rw [hx]
  simp only [Option.bind_some]
  exact ⟨_, rfl, hk⟩
/-! ### sands out of bytes -/
theorem made_L0 {l : List Int} (hl : l.length ≤ 9223372036854775807) {t : m_laurelkit_Heap_From_R} (ht : 0 ≤ t.r0 ∧ t.r0 ≤ 4) {a p r : Int} (ha : 0 ≤ a ∧ a ≤ 20) (hp : HOK l p) :
    ∃ o, iterM FU (m_laurellaw01_Made_L0 t l) ⟨a, 0, p, r, []⟩ = some o ∧ (∃ e, TabOK o.s7_table e ∧ e ≤ 140) ∧ (o.s7_table.length : Int) = t.r0 ∧ HOK l o.b0_1 := by
  refine iterM_inv (fun s => (0 ≤ s.t23 ∧ s.t23 ≤ t.r0) ∧ (s.s7_table.length : Int) = s.t23 ∧ TabOK s.s7_table s.at8 ∧ (0 ≤ s.at8 ∧ s.at8 ≤ 20 + 30 * s.t23) ∧ HOK l s.b0_1) (fun s => (t.r0 - s.t23).toNat) _ (fun s hs => ?_) FU _ (FU_lt (by simp only; omega)) ⟨⟨Int.le_refl _, ht.1⟩, rfl, TabOK.nil, by simp only; omega, hp⟩
  obtain ⟨h1, h2, h3, h4, h5⟩ := hs
  unfold m_laurellaw01_Made_L0
  by_cases hc : s.t23 < t.r0
  · left
    obtain ⟨x, hx, hxb, hxk⟩ := upto_ok (r := s.b0_2) (n := 60) hl h5 (by omega)
    obtain ⟨y, hy, hyb, hyk⟩ := from_ok (r := x.h0_2) (lo := 1) (hi := 30) hl hxk (by omega)
    have e1 : appc 16 s.s7_table [(⟨s.at8, x.r0⟩ : Water)] = some (s.s7_table ++ [⟨s.at8, x.r0⟩]) := appc_eq (by simp; omega)
    have e2 : addc s.at8 y.r0 = some (s.at8 + y.r0) := addc_eq (by omega)
    have e3 : addc s.t23 1 = some (s.t23 + 1) := addc_eq (by omega)
    simp only [if_pos hc, hx, e1, hy, e2, e3, Option.bind_some]
    refine ⟨_, rfl, ⟨by simp only; omega, by simp; omega, h3.snoc h4.1 (by simp only; omega) (by omega), by simp only; omega, hyk⟩, by simp only; omega⟩
  · right
    rw [if_neg hc]
    exact ⟨_, rfl, ⟨s.at8, h3, by omega⟩, by simp only; omega, h5⟩
theorem made_L1 {l : List Int} (hl : l.length ≤ 9223372036854775807) {t : m_laurelkit_Heap_From_R} (ht : 0 ≤ t.r0 ∧ t.r0 ≤ 8) {p r : Int} (hp : HOK l p) :
    ∃ o, iterM FU (m_laurellaw01_Made_L1 t l) ⟨0, p, r, []⟩ = some o ∧ (∀ x, x ∈ o.s7_floors → 0 ≤ x ∧ x ≤ 50) ∧ (o.s7_floors.length : Int) = t.r0 ∧ HOK l o.b0_1 := by
  refine iterM_inv (fun s => (0 ≤ s.t42 ∧ s.t42 ≤ t.r0) ∧ (s.s7_floors.length : Int) = s.t42 ∧ (∀ x, x ∈ s.s7_floors → 0 ≤ x ∧ x ≤ 50) ∧ HOK l s.b0_1) (fun s => (t.r0 - s.t42).toNat) _ (fun s hs => ?_) FU _ (FU_lt (by simp only; omega)) ⟨⟨Int.le_refl _, ht.1⟩, rfl, (fun x hx => by cases hx), hp⟩
  obtain ⟨h1, h2, h3, h5⟩ := hs
  unfold m_laurellaw01_Made_L1
  by_cases hc : s.t42 < t.r0
  · left
    obtain ⟨x, hx, hxb, hxk⟩ := upto_ok (r := s.b0_2) (n := 50) hl h5 (by omega)
    have e1 : appc 8 s.s7_floors [x.r0] = some (s.s7_floors ++ [x.r0]) := appc_eq (by simp; omega)
    have e3 : addc s.t42 1 = some (s.t42 + 1) := addc_eq (by omega)
    simp only [if_pos hc, hx, e1, e3, Option.bind_some]
    refine ⟨_, rfl, ⟨by simp only; omega, by simp; omega, fun y hy => ?_, hxk⟩, by simp only; omega⟩
    rcases List.mem_append.1 hy with h | h
    · exact h3 y h
    · simp only [List.mem_singleton] at h
      subst h; omega
  · right
    rw [if_neg hc]
    exact ⟨_, rfl, h3, by simp only; omega, h5⟩
theorem made_L2 {l : List Int} (hl : l.length ≤ 9223372036854775807) {t : m_laurelkit_Heap_Upto_R} {sl : Int} (hsl : 0 ≤ sl ∧ sl ≤ 16) (ht : 0 ≤ t.r0 ∧ t.r0 ≤ sl) {o1 : m_laurellaw01_Made_C1} (ho : 1 ≤ o1.s7_floors.length ∧ o1.s7_floors.length ≤ 8) {p r : Int} (hp : HOK l p) :
    ∃ o, iterM FU (m_laurellaw01_Made_L2 t o1 l) ⟨0, p, r, []⟩ = some o ∧ (∀ x, x ∈ o.s7_sills → sillOK (o1.s7_floors.length : Int) x) ∧ (o.s7_sills.length : Int) ≤ t.r0 ∧ HOK l o.b0_1 := by
  refine iterM_inv (fun s => (0 ≤ s.t55 ∧ s.t55 ≤ t.r0) ∧ (s.s7_sills.length : Int) ≤ s.t55 ∧ (∀ x, x ∈ s.s7_sills → sillOK (o1.s7_floors.length : Int) x) ∧ HOK l s.b0_1) (fun s => (t.r0 - s.t55).toNat) _ (fun s hs => ?_) FU _ (FU_lt (by simp only; omega)) ⟨⟨Int.le_refl _, ht.1⟩, by simp, (fun x hx => by cases hx), hp⟩
  obtain ⟨h1, h2, h3, h5⟩ := hs
  unfold m_laurellaw01_Made_L2
  by_cases hc : s.t55 < t.r0
  · left
    have e62 : subc (o1.s7_floors.length : Int) 1 = some ((o1.s7_floors.length : Int) - 1) := subc_eq (by omega)
    have e66 : subc (min s.t55 ((o1.s7_floors.length : Int) - 1)) 1 = some (min s.t55 ((o1.s7_floors.length : Int) - 1) - 1) := subc_eq (by omega)
    obtain ⟨x, hx, hxb, hxk⟩ := from_ok (r := s.b0_2) (lo := -1) (hi := min s.t55 ((o1.s7_floors.length : Int) - 1) - 1) hl h5 (by omega)
    obtain ⟨y, hy, hyb, hyk⟩ := upto_ok (r := x.h0_2) (n := 50) hl hxk (by omega)
    have e110 : addc s.t55 1 = some (s.t55 + 1) := addc_eq (by omega)
    simp only [if_pos hc, e62, e66, hx, hy, e110, Option.bind_some]
    -- the ends
    obtain ⟨c4, hc4, hca, hcb, hck⟩ : ∃ c4 : m_laurellaw01_Made_C4, (if (o1.s7_floors.length : Int) ≤ s.t55 then (m_laurelkit_Heap_From l y.h0_1 y.h0_2 (-1) ((o1.s7_floors.length : Int) - 1)).bind fun t82 => (m_laurelkit_Heap_Upto l t82.h0_1 t82.h0_2 ((o1.s7_floors.length : Int) - 1)).bind fun t88 => some (⟨t82.r0, t88.r0, t88.h0_1, t88.h0_2⟩ : m_laurellaw01_Made_C4) else some (⟨x.r0, min s.t55 ((o1.s7_floors.length : Int) - 1), y.h0_1, y.h0_2⟩ : m_laurellaw01_Made_C4)) = some c4 ∧ (-1 ≤ c4.x11_a ∧ c4.x11_a < o1.s7_floors.length) ∧ (-1 ≤ c4.x11_b ∧ c4.x11_b < o1.s7_floors.length) ∧ HOK l c4.b0_1 := by
      by_cases hf : (o1.s7_floors.length : Int) ≤ s.t55
      · obtain ⟨u, hu, hub, huk⟩ := from_ok (r := y.h0_2) (lo := -1) (hi := (o1.s7_floors.length : Int) - 1) hl hyk (by omega)
        obtain ⟨v, hv, hvb, hvk⟩ := upto_ok (r := u.h0_2) (n := (o1.s7_floors.length : Int) - 1) hl huk (by omega)
        simp only [if_pos hf, hu, hv, Option.bind_some]
        exact ⟨_, rfl, by simp only; omega, by simp only; omega, hvk⟩
      · simp only [if_neg hf]
        exact ⟨_, rfl, by simp only; omega, by simp only; omega, hyk⟩
    rw [hc4]
    simp only [Option.bind_some]
    obtain ⟨z, hz, hzk⟩ := once_ok (r := c4.b0_2) (n := 3) hl hck (by omega)
    rw [hz]
    simp only [Option.bind_some]
    obtain ⟨c5, hc5, hda, hdb, hdk⟩ : ∃ c5 : m_laurellaw01_Made_C5, (if z.r0 = true then some (⟨c4.x11_b, c4.x11_a, z.h0_1, z.h0_2⟩ : m_laurellaw01_Made_C5) else some (⟨c4.x11_a, c4.x11_b, z.h0_1, z.h0_2⟩ : m_laurellaw01_Made_C5)) = some c5 ∧ (-1 ≤ c5.x11_a ∧ c5.x11_a < o1.s7_floors.length) ∧ (-1 ≤ c5.x11_b ∧ c5.x11_b < o1.s7_floors.length) ∧ HOK l c5.b0_1 := by
      cases z.r0 with
      | true => exact ⟨_, rfl, hcb, hca, hzk⟩
      | false => exact ⟨_, rfl, hca, hcb, hzk⟩
    rw [hc5]
    simp only [Option.bind_some]
    by_cases hab : c5.x11_a = c5.x11_b
    · rw [if_pos hab]
      simp only [Option.bind_some]
      exact ⟨_, rfl, ⟨by simp only; omega, by simp only; omega, h3, hdk⟩, by simp only; omega⟩
    · rw [if_neg hab, appc_eq (by simp; omega)]
      simp only [Option.bind_some]
      refine ⟨_, rfl, ⟨by simp only; omega, by simp; omega, fun q hq => ?_, hdk⟩, by simp only; omega⟩
      rcases List.mem_append.1 hq with h | h
      · exact h3 q h
      · simp only [List.mem_singleton] at h
        subst h
        exact ⟨hda, hdb, hab, by simp only; omega⟩
  · right
    rw [if_neg hc]
    exact ⟨_, rfl, h3, by simp only; omega, h5⟩
theorem made_ok {l : List Int} (hl : l.length ≤ 9223372036854775807) {p r pl sl : Int} (hp : HOK l p) (hpl : 1 ≤ pl ∧ pl ≤ 8) (hsl : 0 ≤ sl ∧ sl ≤ 16) :
    ∃ o, m_laurellaw01_Made l p r pl sl = some o ∧ MadeOK pl sl o.r0 ∧ HOK l o.b0_1 := by
  unfold m_laurellaw01_Made
  obtain ⟨a, ha, hab, hak⟩ := upto_ok (r := r) (n := 8) hl hp (by omega)
  have e14 : negc a.r0 = some (-a.r0) := negc_eq (by omega)
  obtain ⟨b, hb, hbb, hbk⟩ := upto_ok (r := a.h0_2) (n := 8) hl hak (by omega)
  obtain ⟨c, hc, hcb, hck⟩ := upto_ok (r := b.h0_2) (n := 20) hl hbk (by omega)
  obtain ⟨d, hd, hdb, hdk⟩ := from_ok (r := c.h0_2) (lo := 2) (hi := 4) hl hck (by omega)
  simp only [ha, e14, hb, hc, hd, Option.bind_some]
  obtain ⟨o, ho, ⟨e, hte, hee⟩, hol, hok⟩ := made_L0 hl (t := d) (by omega) (a := c.r0) (r := d.h0_2) (by omega) hdk
  simp only [ho, Option.bind_some]
  obtain ⟨f, hf, hfb, hfk⟩ := from_ok (r := o.b0_2) (lo := 1) (hi := pl) hl hok (by omega)
  simp only [hf, Option.bind_some]
  obtain ⟨o1, ho1, hof, hofl, hok1⟩ := made_L1 hl (t := f) (by omega) (r := f.h0_2) hfk
  simp only [ho1, Option.bind_some]
  obtain ⟨g, hg, hgb, hgk⟩ := upto_ok (r := o1.b0_2) (n := sl) hl hok1 (by omega)
  simp only [hg, Option.bind_some]
  obtain ⟨o2, ho2, hos, hosl, hok2⟩ := made_L2 hl hsl (t := g) (by omega) (o1 := o1) (by omega) (r := g.h0_2) hgk
  simp only [ho2, Option.bind_some]
  exact ⟨_, rfl, ⟨by simp only; omega, ⟨e, hte, hee⟩, by simp only; omega, by simp only; omega, by simp only; omega, hof, by simp only; omega, hos⟩, hok2⟩
end Go.Proofs.Wk

namespace Go.Proofs.Wk
open Go Go.Gx Go.Pl
set_option linter.unusedVariables false
/-- sands whose lists are short -/
structure Short (s : Sands) : Prop where
  t : s.table.length ≤ 100
  f : s.floors.length ≤ 100
  s : s.sills.length ≤ 100
theorem take_snoc {α : Type} {l : List α} {k : Nat} (d : α) (h : k < l.length) : l.take k ++ [l.getD k d] = l.take (k + 1) := by
  rw [List.take_succ_eq_append_getElem h, List.getD_eq_getElem?_getD]
  simp [h]
theorem Good.short {s : Sands} (h : Good s) : Short s := ⟨by have := h.tl; omega, by have := h.fl; omega, by have := h.sl; omega⟩
theorem x_awake_eq : x_awake = some true := rfl
/-! ### sands that pass -/
theorem check_of_good {s : Sands} (h : Good s) : check s = 0 := by
  have h1 := h.tl
  have h2 := h.fl
  have h3 := h.sl
  have e1 : inr s.table.length 2 12 = true := inr_iff.2 (by omega)
  have e2 : inr s.floors.length 1 8 = true := inr_iff.2 (by omega)
  have e3 : decide (16 < (s.sills.length : Int)) = false := by simp; omega
  have e4 : s.table.all bigW = true := all_of_getD (d := default) (fun j hj => by
    have := h.tab j hj
    simp only [bigW, Bool.and_eq_true, inr_iff]; omega)
  have e5 : inr s.wind.lo (-50) 50 = true := inr_iff.2 (by have := h.lo; omega)
  have e6 : inr s.wind.hi (-50) 50 = true := inr_iff.2 (by have := h.hi; omega)
  have e7 : s.floors.all hgt = true := all_of_getD (d := 0) (fun j hj => by
    have := h.flo j hj
    rw [hgt_iff]; omega)
  have e8 : s.sills.all (fun x => hgt x.h) = true := all_of_getD (d := default) (fun j hj => by
    have := h.sh j hj
    rw [hgt_iff]; omega)
  have e9 : ordered s = true := by
    rw [ordered_true h.inc]
    simp [h.wind]
  have e10 : s.sills.all (fun x => isEnd s x.a && isEnd s x.b) = true := all_of_getD (d := default) (fun j hj => by
    have ha := h.sa j hj
    have hb := h.sb j hj
    simp only [Bool.and_eq_true, isEnd_iff]
    omega)
  have e11 : s.sills.all (fun x => !decide (x.a = x.b)) = true := all_of_getD (d := default) (fun j hj => by
    have := h.ne j hj
    simpa using this)
  unfold check
  rw [e1, e2, e3, e4, e5, e6, e7, e8, e9, e10, e11]
  rfl
theorem x_Turn_eq {s : Sands} {p m : Int} (hs : Short s) : x_Turn s p m = some (TurnR s p m) := by
  have h1 := hs.t
  have h2 := hs.f
  have h3 := hs.s
  unfold x_Turn
  rw [if_pos ⟨by omega, by omega, by omega⟩]
theorem x_At_eq {s : Sands} {m p : Int} (hs : Short s) : x_At s m p = some (AtR s m p) := by
  have h1 := hs.t
  have h2 := hs.f
  have h3 := hs.s
  unfold x_At
  rw [if_pos ⟨by omega, by omega, by omega⟩]
theorem MadeOK.good {pl sl : Int} {s : Sands} (h : MadeOK pl sl s) (hp : pl ≤ 8) (hs : sl ≤ 16) : Good s := good_of_check (h.check hp hs)
theorem lawfirst_eq {s : Sands} (h : 0 < s.table.length) : m_laurellaw01_first s = some (firstM s) := by
  unfold m_laurellaw01_first
  rw [show (0 : Int) = ((0 : Nat) : Int) from rfl, ix_nat default h]
  rfl
theorem lawlast_eq {s : Sands} (hs : Short s) (h : 0 < s.table.length) : m_laurellaw01_last s = some (lastM s) := by
  have h1 := hs.t
  unfold m_laurellaw01_last
  rw [subc_eq (by omega), Option.bind_some, show (s.table.length : Int) - 1 = ((s.table.length - 1 : Nat) : Int) by omega, ix_nat default (by omega)]
  rfl
end Go.Proofs.Wk

namespace Go.Proofs.Wk
open Go Go.Gx Go.Pl
set_option linter.unusedVariables false
/-- the runs told so far, and the open one -/
structure SI (p : Int → Bool) (a : Int) (k : Nat) (x : SpanSt) : Prop where
  acc : ∀ y, y ∈ x.acc → a ≤ y.lo ∧ y.lo ≤ y.hi ∧ y.hi + 1 < a + k ∧ (∀ m, y.lo ≤ m → m ≤ y.hi → p m = true) ∧ p (y.hi + 1) = false ∧ (y.lo = a ∨ p (y.lo - 1) = false)
  op : x.op = true → a ≤ x.fr ∧ x.fr < a + k ∧ (∀ m, x.fr ≤ m → m < a + k → p m = true) ∧ (x.fr = a ∨ p (x.fr - 1) = false)
  cov : ∀ m, a ≤ m → m < a + k → p m = true → (∃ y, y ∈ x.acc ∧ y.lo ≤ m ∧ m ≤ y.hi) ∨ (x.op = true ∧ x.fr ≤ m)
  shut : x.op = false → k = 0 ∨ p (a + k - 1) = false
theorem si_n {p : Int → Bool} {a : Int} : ∀ k, SI p a k (spansN p a k)
  | 0 => ⟨fun y hy => by simp [spansN] at hy, fun h => by simp [spansN] at h, fun m h1 h2 => by omega, fun _ => .inl rfl⟩
  | k + 1 => by
    have ih := si_n (p := p) (a := a) k
    rw [spansN_succ]
    generalize hx : spansN p a k = x at ih
    unfold spanStep
    cases hp : p (a + k) with
    | true =>
      cases ho : x.op with
      | false =>
        refine ⟨fun y hy => ?_, fun _ => ?_, fun m h1 h2 h3 => ?_, fun h => by simp at h⟩
        · have := ih.acc y hy; exact ⟨this.1, this.2.1, by omega, this.2.2.2⟩
        · refine ⟨by simp only; omega, by simp only; omega, fun m h1 h2 => ?_, ?_⟩
          · have : m = a + k := by simp only at h1; omega
            rw [this, hp]
          · rcases ih.shut ho with h | h
            · subst h; simp
            · right; exact h
        · by_cases hm : m < a + k
          · rcases ih.cov m h1 hm h3 with h | h
            · exact .inl h
            · rw [ho] at h; exact absurd h.1 (by decide)
          · exact .inr ⟨rfl, by simp only; omega⟩
      | true =>
        refine ⟨fun y hy => ?_, fun _ => ?_, fun m h1 h2 h3 => ?_, fun h => by simp only at h; rw [ho] at h; simp at h⟩
        · have := ih.acc y hy; exact ⟨this.1, this.2.1, by omega, this.2.2.2⟩
        · have := ih.op ho
          refine ⟨this.1, by have := this.2.1; simp only; omega, fun m h1 h2 => ?_, this.2.2.2⟩
          by_cases hm : m < a + k
          · exact this.2.2.1 m h1 hm
          · have : m = a + k := by omega
            rw [this, hp]
        · by_cases hm : m < a + k
          · exact ih.cov m h1 hm h3
          · exact .inr ⟨ho, by have := (ih.op ho).2.1; simp only; omega⟩
    | false =>
      unfold shutF
      cases ho : x.op with
      | false =>
        refine ⟨fun y hy => ?_, fun h => by simp at h, fun m h1 h2 h3 => ?_, fun _ => .inr (by rw [← hp]; congr 1; omega)⟩
        · have := ih.acc y hy; exact ⟨this.1, this.2.1, by omega, this.2.2.2⟩
        · by_cases hm : m < a + k
          · rcases ih.cov m h1 hm h3 with h | h
            · exact .inl h
            · rw [ho] at h; exact absurd h.1 (by decide)
          · have : m = a + k := by omega
            rw [this, hp] at h3; exact absurd h3 (by decide)
      | true =>
        have hop := ih.op ho
        refine ⟨fun y hy => ?_, fun h => by simp at h, fun m h1 h2 h3 => ?_, fun _ => .inr (by rw [← hp]; congr 1; omega)⟩
        · simp only [List.mem_append, List.mem_singleton] at hy
          rcases hy with hy | rfl
          · have := ih.acc y hy; exact ⟨this.1, this.2.1, by omega, this.2.2.2⟩
          · refine ⟨hop.1, by have := hop.2.1; simp only; omega, by simp only; omega, fun m h1 h2 => hop.2.2.1 m h1 (by simp only at h2; omega), ?_, hop.2.2.2⟩
            simp only
            rw [← hp]; congr 1; omega
        · by_cases hm : m < a + k
          · rcases ih.cov m h1 hm h3 with ⟨y, hy, h⟩ | h
            · exact .inl ⟨y, List.mem_append_left _ hy, h⟩
            · exact .inl ⟨_, List.mem_append_right _ List.mem_cons_self, h.2, by simp only; omega⟩
          · have : m = a + k := by omega
            rw [this, hp] at h3; exact absurd h3 (by decide)
/-- the runs of a day are the longest ones, and all of them -/
theorem spans_runs {s : Sands} (hG : Good s) {p : Int → Bool} :
    (∀ y, y ∈ spansF s p → firstM s ≤ y.lo ∧ y.lo ≤ y.hi ∧ y.hi ≤ lastM s ∧ (∀ m, y.lo ≤ m → m ≤ y.hi → p m = true) ∧ (y.hi = lastM s ∨ p (y.hi + 1) = false) ∧ (y.lo = firstM s ∨ p (y.lo - 1) = false)) ∧
    ∀ m, dayF s m = true → p m = true → ∃ y, y ∈ spansF s p ∧ y.lo ≤ m ∧ m ≤ y.hi := by
  have hds := day_span hG
  have hn : ((dayN s : Nat) : Int) = lastM s - firstM s + 1 := by unfold dayN; omega
  have ih := si_n (p := p) (a := firstM s) (dayN s)
  unfold spansF
  generalize spansN p (firstM s) (dayN s) = x at ih
  have key : ∀ y, y ∈ x.acc → firstM s ≤ y.lo ∧ y.lo ≤ y.hi ∧ y.hi ≤ lastM s ∧ (∀ m, y.lo ≤ m → m ≤ y.hi → p m = true) ∧ (y.hi = lastM s ∨ p (y.hi + 1) = false) ∧ (y.lo = firstM s ∨ p (y.lo - 1) = false) := fun y hy => by
    obtain ⟨h1, h2, h3, h4, h5, h6⟩ := ih.acc y hy
    exact ⟨h1, h2, by omega, h4, .inr h5, h6⟩
  unfold shutF
  cases ho : x.op with
  | false =>
    refine ⟨key, fun m hd hp => ?_⟩
    simp only [dayF, inr_iff] at hd
    rcases ih.cov m hd.1 (by omega) hp with h | h
    · exact h
    · rw [ho] at h; exact absurd h.1 (by decide)
  | true =>
    have hop := ih.op ho
    refine ⟨fun y hy => ?_, fun m hd hp => ?_⟩
    · simp only [List.mem_append, List.mem_singleton] at hy
      rcases hy with hy | rfl
      · exact key y hy
      · exact ⟨hop.1, by simp only; omega, by simp only; omega, fun m h1 h2 => hop.2.2.1 m h1 (by simp only at h2; omega), .inl (by simp only; omega), hop.2.2.2⟩
    · simp only [dayF, inr_iff] at hd
      rcases ih.cov m hd.1 (by omega) hp with ⟨y, hy, h⟩ | h
      · exact ⟨y, List.mem_append_left _ hy, h⟩
      · exact ⟨_, List.mem_append_right _ List.mem_cons_self, h.2, by simp only; omega⟩
theorem idxf_holds {α : Type} {p : α → Bool} {l : List α} {d : α} (h : 0 ≤ idxf p l) : p (l.getD (idxf p l).toNat d) = true := by
  unfold idxf at h ⊢
  cases hf : l.findIdx? p with
  | none => rw [hf] at h; exact absurd h (by decide)
  | some i =>
    rw [List.findIdx?_eq_some_iff_getElem] at hf
    obtain ⟨h1, h2, _⟩ := hf
    simpa [List.getD_eq_getElem?_getD, h1] using h2
/-- until when one may stay -/
theorem turn_spec {s : Sands} (hG : Good s) {p m : Int} (hp : isPlace s p = true) (hd : dayF s m = true) (h0 : stateF s m p = 0) :
    ∃ T, TurnR s p m = (T, 0) ∧ m ≤ T ∧ T ≤ lastM s ∧ (∀ k, m ≤ k → k ≤ T → stateF s k p = 0) ∧ (T = lastM s ∨ stateF s (T + 1) p ≠ 0) := by
  obtain ⟨hr, hc⟩ := spans_runs hG (p := isState s p 0)
  obtain ⟨y, hy, hy1, hy2⟩ := hc m hd (by simp [isState, h0])
  have hE : spansE s p 0 = 0 := by
    unfold spansE
    rw [check_of_good hG, hp]
    rfl
  have hi : 0 ≤ idxf (fun x : Span => inr m x.lo x.hi) (spansF s (isState s p 0)) := by
    have := idxf_nonneg (p := fun x : Span => inr m x.lo x.hi) (l := spansF s (isState s p 0))
    have ha : (spansF s (isState s p 0)).any (fun x : Span => inr m x.lo x.hi) = true := List.any_eq_true.2 ⟨y, hy, inr_iff.2 ⟨hy1, hy2⟩⟩
    rw [ha] at this
    exact of_decide_eq_true this
  have hrg := idxf_range (p := fun x : Span => inr m x.lo x.hi) (l := spansF s (isState s p 0))
  unfold TurnR
  rw [hE, hd, if_neg (by simp), if_neg (by simp), if_neg (by omega)]
  have hin := idxf_holds (d := default) (p := fun x : Span => inr m x.lo x.hi) (l := spansF s (isState s p 0)) hi
  generalize idxf (fun x : Span => inr m x.lo x.hi) (spansF s (isState s p 0)) = i at hi hrg hin
  have hm := mem_getD (d := (default : Span)) (l := spansF s (isState s p 0)) (j := i.toNat) (by omega)
  obtain ⟨_, _, h3, h4, h5, _⟩ := hr _ hm
  have hin2 := inr_iff.1 hin
  refine ⟨_, rfl, hin2.2, h3, fun k h1 h2 => ?_, ?_⟩
  · have := h4 k (by omega) h2
    exact of_decide_eq_true this
  · rcases h5 with h5 | h5
    · exact .inl h5
    · exact .inr (of_decide_eq_false h5)
/-! ### the table of ways is whole -/
def joins (x : Sill) (p q : Int) : Prop := x.a = p ∧ x.b = q ∨ x.b = p ∧ x.a = q
end Go.Proofs.Wk

namespace Go.Proofs.Wk
open Go Go.Gx Go.Pl
set_option linter.unusedVariables false
theorem atR_good {s : Sands} (hG : Good s) {p m : Int} (hp : isPlace s p = true) (hd : dayF s m = true) : AtR s m p = (stateF s m p, 0) := by
  unfold AtR
  rw [check_of_good hG, hp, hd]
  simp
end Go.Proofs.Wk

namespace Go.Proofs.Wk
open Go Go.Gx Go.Pl
set_option linter.unusedVariables false
/-- one step of the water -/
structure Stp (s : Sands) (sl pl : List Int) (h a q : Int) (k : Nat) : Prop where
  kl : k < s.sills.length
  jn : joins (s.sills.getD k default) a q
  qn : 0 ≤ q
  sn : hasI sl (k : Int) = false
  pn : hasI pl q = false
  hh : (s.sills.getD k default).h ≤ h
  ff : s.floors.getD q.toNat 0 ≤ h
/-- a way on, that meets no place twice -/
inductive Path (s : Sands) (sl pl : List Int) (h to : Int) : List Int → Int → Prop
  | done {met : List Int} : Path s sl pl h to met to
  | step {met : List Int} {a q : Int} {k : Nat} : Stp s sl pl h a q k → q ∉ met → Path s sl pl h to (met ++ [q]) q → Path s sl pl h to met a
/-- what water reaches, some sills and places left out -/
inductive Rch (s : Sands) (sl pl : List Int) (h : Int) : Int → Prop
  | sea : Rch s sl pl h (-1)
  | step {a q : Int} {k : Nat} : Rch s sl pl h a → Stp s sl pl h a q k → Rch s sl pl h q
/-- steps one behind the other -/
def Chn (s : Sands) (sl pl : List Int) (h : Int) : Int → List Int → Prop
  | _, [] => True
  | a, q :: l => (∃ k, Stp s sl pl h a q k) ∧ Chn s sl pl h q l
def endOf : Int → List Int → Int
  | a, [] => a
  | _, q :: l => endOf q l
theorem Chn.snoc {s : Sands} {sl pl : List Int} {h q : Int} {k : Nat} : ∀ {l : List Int} {a : Int}, Chn s sl pl h a l → Stp s sl pl h (endOf a l) q k → Chn s sl pl h a (l ++ [q]) ∧ endOf a (l ++ [q]) = q
  | [], a, _, hs => ⟨⟨⟨k, hs⟩, trivial⟩, rfl⟩
  | x :: l, a, hc, hs => by
    obtain ⟨h1, h2⟩ := Chn.snoc (l := l) (a := x) hc.2 hs
    exact ⟨⟨hc.1, h1⟩, h2⟩
theorem Chn.drop {s : Sands} {sl pl : List Int} {h q : Int} : ∀ {l b : List Int} {a : Int}, Chn s sl pl h a (l ++ q :: b) → Chn s sl pl h q b ∧ endOf a (l ++ q :: b) = endOf q b
  | [], b, a, hc => ⟨hc.2, rfl⟩
  | x :: l, b, a, hc => Chn.drop (l := l) hc.2
theorem Chn.once {s : Sands} {sl pl : List Int} {h : Int} : ∀ (l : List Int) (a : Int), Chn s sl pl h a l → ∃ l', Chn s sl pl h a l' ∧ endOf a l' = endOf a l ∧ l'.Nodup
  | [], a, _ => ⟨[], trivial, rfl, List.nodup_nil⟩
  | q :: l, a, hc => by
    obtain ⟨l', h1, h2, h3⟩ := Chn.once l q hc.2
    by_cases hq : q ∈ l'
    · obtain ⟨x, y, rfl⟩ := List.append_of_mem hq
      obtain ⟨h4, h5⟩ := Chn.drop h1
      have h6 : (q :: y).Nodup := (List.nodup_append.1 h3).2.1
      exact ⟨q :: y, ⟨hc.1, h4⟩, by show endOf q y = endOf q l; rw [← h5, h2], h6⟩
    · exact ⟨q :: l', ⟨hc.1, h1⟩, h2, List.nodup_cons.2 ⟨hq, h3⟩⟩
/-- what is met: places, each once -/
structure Met (s : Sands) (met : List Int) : Prop where
  nd : met.Nodup
  rg : ∀ x ∈ met, 0 ≤ x ∧ x < s.floors.length
theorem Met.len {s : Sands} {met : List Int} (h : Met s met) : met.length ≤ s.floors.length := by
  have h1 := nodup_map (f := fun k : Int => k.toNat) h.nd (fun x hx y hy he => by
    have a := h.rg x hx
    have b := h.rg y hy
    have hc : x.toNat = y.toNat := he
    omega)
  have h2 := nodup_lt s.floors.length _ h1 (fun x hx => by
    obtain ⟨k, hk, rfl⟩ := List.mem_map.1 hx
    have a := h.rg k hk
    have : (fun k : Int => k.toNat) k = k.toNat := rfl
    omega)
  simpa using h2
theorem Met.snoc {s : Sands} {met : List Int} (h : Met s met) {q : Int} (hq : 0 ≤ q ∧ q < s.floors.length) (hn : q ∉ met) : Met s (met ++ [q]) := by
  refine ⟨List.nodup_append.2 ⟨h.nd, by simp, fun a ha b hb hab => ?_⟩, fun x hx => ?_⟩
  · simp at hb; subst hb; subst hab; exact hn ha
  · rcases List.mem_append.1 hx with hx | hx
    · exact h.rg x hx
    · simp at hx; subst hx; exact hq
/-- the loop's state -/
structure LIn (s : Sands) (sl pl : List Int) (to : Int) (met : List Int) (a crest out : Int) (i : Nat) : Prop where
  snd : out = 5000 ∨ ((crest ≤ out ∧ out ≤ 999) ∧ Path s sl pl out to met a)
  cmp : ∀ h (k : Nat) q, crest ≤ h → k < i → Stp s sl pl h a q k → q ∉ met → Path s sl pl h to (met ++ [q]) q → out ≤ h
theorem LIn.skip {s : Sands} {sl pl : List Int} {to : Int} {met : List Int} {a crest out : Int} {i : Nat} (h : LIn s sl pl to met a crest out i) (hs : ∀ h q, Stp s sl pl h a q i → q ∉ met → False) : LIn s sl pl to met a crest out (i + 1) := by
  refine ⟨h.snd, fun hh k q hc hk hst hq hp => ?_⟩
  by_cases he : k = i
  · subst he; exact (hs hh q hst hq).elim
  · exact h.cmp hh k q hc (by omega) hst hq hp
end Go.Proofs.Wk

namespace Go.Proofs.Wk
open Go Go.Gx Go.Pl
set_option linter.unusedVariables false
theorem equal_int (a : List Int) (ha : a.length ≤ 1000) : m_slices_Equal_intint a a = some true := by
  unfold m_slices_Equal_intint
  rw [if_pos rfl, iterM_any0 a.length (fun _ => false) false (fun k hk => ?_) (by unfold m_slices_Equal_intint_L0; simp) (FU_lt (by omega))]
  · simp
  · unfold m_slices_Equal_intint_L0
    rw [if_pos (by omega), ix_nat default hk, Option.bind_some, Option.bind_some, if_pos rfl, addc_eq (by omega)]
    simp
end Go.Proofs.Wk

namespace Go.Proofs.Wk
open Go Go.Gx Go.Pl
set_option linter.unusedVariables false
theorem dayN_eq {s : Sands} (hG : Good s) : ((dayN s : Nat) : Int) = lastM s - firstM s + 1 := by
  have := day_span hG
  unfold dayN; omega
end Go.Proofs.Wk

namespace Go.Proofs.Wk
open Go Go.Gx Go.Pl
set_option linter.unusedVariables false
theorem x_Spans_eq {s : Sands} {p k : Int} (hs : Short s) : x_Spans s p k = some (SpansR s p k) := by
  have h1 := hs.t
  have h2 := hs.f
  have h3 := hs.s
  unfold x_Spans
  rw [if_pos ⟨by omega, by omega, by omega⟩]
end Go.Proofs.Wk

namespace Go.Proofs.Wk
open Go Go.Gx Go.Pl
set_option linter.unusedVariables false
/-! ### the look that settles most -/
def mostF (s : Sands) (m : Int) (p : Nat) : Int := if (gatesOf s).getD p 0 = 1000 then 50 else (gatesOf s).getD p 0 - heightF s m
def yesF (s : Sands) (m : Int) (p : Nat) : Int := max 0 (s.wind.hi - max s.wind.lo (mostF s m p + 1) + 1)
def allW (s : Sands) : Int := s.wind.hi - s.wind.lo + 1
def nF (s : Sands) (m : Int) (p : Nat) : Int := max (yesF s m p) (allW s - yesF s m p)
def askStep (s : Sands) (m : Int) (st : Int × Look) (p : Nat) : Int × Look := if nF s m p < st.1 then (nF s m p, ⟨m, (p : Int), true⟩) else st
theorem x_day_eq {s : Sands} (hG : Good s) {m : Int} : x_day s m = some (dayF s m) := by
  have hs := Good.short hG
  have h1 := hs.t
  have h2 := hs.f
  have h3 := hs.s
  unfold x_day
  rw [if_pos ⟨⟨by omega, by omega, by omega⟩, check_of_good hG⟩]
end Go.Proofs.Wk

namespace Go.Proofs.Wk
open Go Go.Gx Go.Pl
set_option linter.unusedVariables false
theorem n_bd {s : Sands} (hG : Good s) {m : Int} {p : Nat} : 0 ≤ nF s m p ∧ nF s m p ≤ allW s := by
  have := hG.lo
  have := hG.hi
  have := hG.wind
  unfold nF yesF allW
  omega
/-- the search so far -/
def AskInv (s : Sands) (st : Int × Look) (D : Int → Nat → Prop) : Prop :=
  ((∀ m p, ¬ D m p) ∧ st = (allW s + 1, ⟨0, 0, false⟩)) ∨ ∃ (m : Int) (p : Nat), D m p ∧ st = (nF s m p, ⟨m, (p : Int), true⟩) ∧ ∀ m' p', D m' p' → nF s m p ≤ nF s m' p' ∧ (nF s m' p' = nF s m p → m < m' ∨ (m = m' ∧ p ≤ p'))
theorem AskInv.step {s : Sands} (hG : Good s) {st : Int × Look} {D : Int → Nat → Prop} (h : AskInv s st D) {m : Int} {p : Nat} (hlt : ∀ m' p', D m' p' → m' < m ∨ (m' = m ∧ p' < p)) : AskInv s (askStep s m st p) (fun m' p' => D m' p' ∨ (m' = m ∧ p' = p)) := by
  have hb := n_bd hG (m := m) (p := p)
  right
  unfold askStep
  rcases h with ⟨h1, rfl⟩ | ⟨a, b, hD, rfl, hmin⟩
  · rw [if_pos (show nF s m p < allW s + 1 by omega)]
    refine ⟨m, p, .inr ⟨rfl, rfl⟩, rfl, fun m' p' h => ?_⟩
    rcases h with h | ⟨rfl, rfl⟩
    · exact (h1 _ _ h).elim
    · exact ⟨Int.le_refl _, fun _ => .inr ⟨rfl, Nat.le_refl _⟩⟩
  · by_cases hc : nF s m p < nF s a b
    · rw [if_pos hc]
      refine ⟨m, p, .inr ⟨rfl, rfl⟩, rfl, fun m' p' h => ?_⟩
      rcases h with h | ⟨rfl, rfl⟩
      · have := (hmin m' p' h).1
        exact ⟨by omega, fun he => by omega⟩
      · exact ⟨Int.le_refl _, fun _ => .inr ⟨rfl, Nat.le_refl _⟩⟩
    · rw [if_neg hc]
      refine ⟨a, b, .inl hD, rfl, fun m' p' h => ?_⟩
      rcases h with h | ⟨rfl, rfl⟩
      · exact hmin m' p' h
      · refine ⟨by omega, fun _ => ?_⟩
        rcases hlt a b hD with h2 | ⟨h2, h3⟩
        · exact .inl h2
        · exact .inr ⟨h2, by omega⟩
theorem AskInv.congr {s : Sands} {st : Int × Look} {D E : Int → Nat → Prop} (h : AskInv s st D) (he : ∀ m p, D m p ↔ E m p) : AskInv s st E := by
  have : D = E := by funext m p; exact propext (he m p)
  rw [← this]; exact h
end Go.Proofs.Wk

namespace Go.Proofs.Wk
open Go Go.Gx Go.Pl
set_option linter.unusedVariables false
theorem eq_int (a : List Int) (ha : a.length ≤ 1000) : m_laurelkit_Eq_int a a = some true := by
  unfold m_laurelkit_Eq_int
  rw [equal_int a ha, Option.bind_some]
end Go.Proofs.Wk

namespace Go.Proofs.Wk
open Go Go.Gx Go.Pl
set_option linter.unusedVariables false
theorem drop_cons {l : List Int} {k : Nat} (h : k < l.length) : l.drop k = l.getD k 0 :: l.drop (k + 1) := by
  rw [List.drop_eq_getElem_cons h, List.getD_eq_getElem?_getD, List.getElem?_eq_getElem h]
  rfl
end Go.Proofs.Wk

namespace Go.Proofs.Wk
open Go Go.Gx Go.Pl
set_option linter.unusedVariables false
theorem Rch.mono {s : Sands} {sl pl : List Int} {h h' p : Int} (hh : h ≤ h') (r : Rch s sl pl h p) : Rch s sl pl h' p := by
  induction r with
  | sea => exact .sea
  | step _ hs ih => exact .step ih ⟨hs.kl, hs.jn, hs.qn, hs.sn, hs.pn, by have := hs.hh; omega, by have := hs.ff; omega⟩
theorem take_fold {α β : Type} {f : β → α → β} {z : β} {l : List α} {k : Nat} (d : α) (h : k < l.length) : (l.take (k + 1)).foldl f z = f ((l.take k).foldl f z) (l.getD k d) := by
  rw [← take_snoc d h, List.foldl_append]
  rfl
end Go.Proofs.Wk

namespace Go.Proofs.Wk
open Go Go.Fw Go.Gx Go.Pl
set_option linter.unusedVariables false

def m_tide_every_int_1_2 (x0 : Int) (a11_f0 : Sands) : Option Bool :=
 (x_place a11_f0 x0).bind fun t6 =>
 some (!t6)
set_option maxRecDepth 100000 in
set_option maxHeartbeats 4000000 in
theorem c_tide_every_int_1_2 (x0 : Int) (a11_f0 : Sands) (pb : Nat) (qa0 : Option (Nat × Nat)) (na0 ca0 : Nat) (qa1 : Option (Nat × Nat)) (na1 ca1 : Nat) (qa2 : Option (Nat × Nat)) (na2 ca2 : Nat) (w : World) (hw : HV w (keys [(pb, .cells #[.func (.func 89) #[.agg #[slv qa0 na0 ca0, .int .i64 a11_f0.wind.lo, .int .i64 a11_f0.wind.hi, slv qa1 na1 ca1, slv qa2 na2 ca2]] #[]] 129 (0, 0))] []) [(pb, .cells #[.func (.func 89) #[.agg #[slv qa0 na0 ca0, .int .i64 a11_f0.wind.lo, .int .i64 a11_f0.wind.hi, slv qa1 na1 ca1, slv qa2 na2 ca2]] #[]] 129 (0, 0))] [] [(bk qa0, off qa0, RW.enc a11_f0.table), (bk qa1, off qa1, RI.enc a11_f0.floors), (bk qa2, off qa2, RS.enc a11_f0.sills)] w) (hna0 : a11_f0.table.length = na0) (hqa0 : 0 < na0 → qa0 ≠ none) (hla0 : na0 ≤ ca0) (hna1 : a11_f0.floors.length = na1) (hqa1 : 0 < na1 → qa1 ≠ none) (hla1 : na1 ≤ ca1) (hna2 : a11_f0.sills.length = na2) (hqa2 : 0 < na2 → qa2 ≠ none) (hla2 : na2 ≤ ca2) {res : Bool} (hm : m_tide_every_int_1_2 x0 a11_f0 = some res) :
    Calls Try.prog 151 #[.int .i64 x0, ptr pb 0] w (fun en w' => ∃ l : Unit, en = .returned (.bool res) ∧ (True) ∧ HV w (keys [(pb, .cells #[.func (.func 89) #[.agg #[slv qa0 na0 ca0, .int .i64 a11_f0.wind.lo, .int .i64 a11_f0.wind.hi, slv qa1 na1 ca1, slv qa2 na2 ca2]] #[]] 129 (0, 0))] []) [(pb, .cells #[.func (.func 89) #[.agg #[slv qa0 na0 ca0, .int .i64 a11_f0.wind.lo, .int .i64 a11_f0.wind.hi, slv qa1 na1 ca1, slv qa2 na2 ca2]] #[]] 129 (0, 0))] [] [] w') := by
  unfold m_tide_every_int_1_2 at hm
  refine g_enter (args := [.int .i64 x0, ptr pb 0]) Try.func151 rfl Try.ntmps151 rfl (e := [(0, _), (1, _)]) rfl (H := HV w (keys [(pb, .cells #[.func (.func 89) #[.agg #[slv qa0 na0 ca0, .int .i64 a11_f0.wind.lo, .int .i64 a11_f0.wind.hi, slv qa1 na1 ca1, slv qa2 na2 ca2]] #[]] 129 (0, 0))] []) [(pb, .cells #[.func (.func 89) #[.agg #[slv qa0 na0 ca0, .int .i64 a11_f0.wind.lo, .int .i64 a11_f0.wind.hi, slv qa1 na1 ca1, slv qa2 na2 ca2]] #[]] 129 (0, 0))] [] [(bk qa0, off qa0, RW.enc a11_f0.table), (bk qa1, off qa1, RI.enc a11_f0.floors), (bk qa2, off qa2, RS.enc a11_f0.sills)]) hw ?_
  refine g_seq ?_
  refine g_region ?_
  refine g_val rfl rfl rfl (fun _ _ => v_assign rfl) ?_
  refine g_nil ?_
  refine g_n_then ?_
  refine g_seq ?_
  refine g_region ?_
  refine g_val rfl rfl rfl (fun w hh => v_load (Try.isAgg129 w) rfl (hh.cell 0 rfl rfl)) ?_
  refine g_val rfl rfl rfl (fun _ _ => v_move rfl) ?_
  obtain ⟨t6, h1, hm⟩ := bindO hm
  refine g_callH [] [] rfl rfl rfl rfl rfl rfl rfl (fun a w => Try.call89 a w) (fun w hh => cx_place a11_f0 x0 qa0 na0 ca0 qa1 na1 ca1 qa2 na2 ca2 w (HV.callee (S0 := []) (vs0 := []) hh (roC (hh.rsep (S0 := []) (vs0 := []) 0 rfl) (roC (hh.rsep (S0 := []) (vs0 := []) 1 rfl) (roC (hh.rsep (S0 := []) (vs0 := []) 2 rfl) roN)))) hna0 hqa0 hla0 hna1 hqa1 hla1 hna2 hqa2 hla2 h1) (fun l h2 => ?_)
  refine g_val rfl rfl rfl (fun _ _ => v_not rfl) ?_
  refine g_val rfl rfl rfl (fun _ _ => v_assign rfl) ?_
  refine g_nil ?_
  refine g_n_then ?_
  refine g_ret ?_
  obtain rfl := Option.some.inj hm
  refine g_done rfl (fun w hh => (.tmp rfl .nil)) (fun w hh => ⟨(), rfl, trivial, hh.sel [0] [] 3 (by decide) (by decide) rfl rfl rfl⟩)
def m_slices_IndexFunc_intint_2_L0 (s0 : (List Int)) (f1_c0_f0 : Sands) (s : Int) : Option (Int ⊕ (Unit ⊕ Int)) :=
 if s < (s0.length : Int) then
 ((ix s0 s).bind fun t14 =>
 (m_tide_every_int_1_2 t14 f1_c0_f0).bind fun t16 =>
 if t16 = true then
 (some (.inr (.inr s))) else
 ((addc s 1).bind fun t18 =>
 some (.inl t18))) else
 (some (.inr (.inl ())))
def m_slices_IndexFunc_intint_2 (s0 : (List Int)) (f1_c0_f0 : Sands) : Option Int :=
 (iterM FU (m_slices_IndexFunc_intint_2_L0 s0 f1_c0_f0) 0).bind fun o =>
 oc o (fun j => some (-1)) (fun r_1 => some r_1)
set_option maxRecDepth 100000 in
set_option maxHeartbeats 4000000 in
theorem c_slices_IndexFunc_intint_2 (s0 : (List Int)) (f1_c0_f0 : Sands) (qa0 : Option (Nat × Nat)) (na0 ca0 : Nat) (pb : Nat) (qa1 : Option (Nat × Nat)) (na1 ca1 : Nat) (qa2 : Option (Nat × Nat)) (na2 ca2 : Nat) (qa3 : Option (Nat × Nat)) (na3 ca3 : Nat) (w : World) (hw : HV w (keys [(pb, .cells #[.func (.func 89) #[.agg #[slv qa1 na1 ca1, .int .i64 f1_c0_f0.wind.lo, .int .i64 f1_c0_f0.wind.hi, slv qa2 na2 ca2, slv qa3 na3 ca3]] #[]] 129 (0, 0))] []) [(pb, .cells #[.func (.func 89) #[.agg #[slv qa1 na1 ca1, .int .i64 f1_c0_f0.wind.lo, .int .i64 f1_c0_f0.wind.hi, slv qa2 na2 ca2, slv qa3 na3 ca3]] #[]] 129 (0, 0))] [] [(bk qa0, off qa0, RI.enc s0), (bk qa1, off qa1, RW.enc f1_c0_f0.table), (bk qa2, off qa2, RI.enc f1_c0_f0.floors), (bk qa3, off qa3, RS.enc f1_c0_f0.sills)] w) (hna0 : s0.length = na0) (hqa0 : 0 < na0 → qa0 ≠ none) (hla0 : na0 ≤ ca0) (hna1 : f1_c0_f0.table.length = na1) (hqa1 : 0 < na1 → qa1 ≠ none) (hla1 : na1 ≤ ca1) (hna2 : f1_c0_f0.floors.length = na2) (hqa2 : 0 < na2 → qa2 ≠ none) (hla2 : na2 ≤ ca2) (hna3 : f1_c0_f0.sills.length = na3) (hqa3 : 0 < na3 → qa3 ≠ none) (hla3 : na3 ≤ ca3) {res : Int} (hm : m_slices_IndexFunc_intint_2 s0 f1_c0_f0 = some res) :
    Calls Try.prog 143 #[slv qa0 na0 ca0, .func (.func 151) #[] #[ptr pb 0]] w (fun en w' => ∃ l : Unit, en = .returned (.int .i64 res) ∧ (True) ∧ HV w (keys [(pb, .cells #[.func (.func 89) #[.agg #[slv qa1 na1 ca1, .int .i64 f1_c0_f0.wind.lo, .int .i64 f1_c0_f0.wind.hi, slv qa2 na2 ca2, slv qa3 na3 ca3]] #[]] 129 (0, 0))] []) [(pb, .cells #[.func (.func 89) #[.agg #[slv qa1 na1 ca1, .int .i64 f1_c0_f0.wind.lo, .int .i64 f1_c0_f0.wind.hi, slv qa2 na2 ca2, slv qa3 na3 ca3]] #[]] 129 (0, 0))] [] [] w') := by
  unfold m_slices_IndexFunc_intint_2 at hm
  refine g_enter (args := [slv qa0 na0 ca0, .func (.func 151) #[] #[ptr pb 0]]) Try.func143 rfl Try.ntmps143 rfl (e := [(0, _), (1, _)]) rfl (H := HV w (keys [(pb, .cells #[.func (.func 89) #[.agg #[slv qa1 na1 ca1, .int .i64 f1_c0_f0.wind.lo, .int .i64 f1_c0_f0.wind.hi, slv qa2 na2 ca2, slv qa3 na3 ca3]] #[]] 129 (0, 0))] []) [(pb, .cells #[.func (.func 89) #[.agg #[slv qa1 na1 ca1, .int .i64 f1_c0_f0.wind.lo, .int .i64 f1_c0_f0.wind.hi, slv qa2 na2 ca2, slv qa3 na3 ca3]] #[]] 129 (0, 0))] [] [(bk qa0, off qa0, RI.enc s0), (bk qa1, off qa1, RW.enc f1_c0_f0.table), (bk qa2, off qa2, RI.enc f1_c0_f0.floors), (bk qa3, off qa3, RS.enc f1_c0_f0.sills)]) hw ?_
  refine g_seq ?_
  refine g_region ?_
  refine g_val rfl rfl rfl (fun _ _ => v_assign rfl) ?_
  refine g_nil ?_
  refine g_n_then ?_
  refine g_seq ?_
  refine g_seq ?_
  refine g_region ?_
  refine g_val rfl rfl rfl (fun _ _ => v_move rfl) ?_
  refine g_val rfl rfl rfl (fun w _ => v_lenN hna0 (Try.runUnderlying26 w) rfl) ?_
  refine g_val rfl rfl rfl (fun _ _ => v_move rfl) ?_
  refine g_nil ?_
  refine g_n_then ?_
  obtain ⟨o, h1, h2⟩ := bindO hm
  refine g_cut (ι := Unit) (fun j => o = .inl j) (fun j => []) (fun j => [(pb, .cells #[.func (.func 89) #[.agg #[slv qa1 na1 ca1, .int .i64 f1_c0_f0.wind.lo, .int .i64 f1_c0_f0.wind.hi, slv qa2 na2 ca2, slv qa3 na3 ca3]] #[]] 129 (0, 0))]) (fun j => []) ?_ ?_
  ·replace hm := h1
   refine g_block ?_
   refine g_loopF (ι := Unit) hm (fun s l => True) (fun s l => [(0, slv qa0 na0 ca0), (1, .func (.func 151) #[] #[ptr pb 0]), (7, .int .i64 (s0.length : Int)), (8, .int .i64 s)]) (fun s l => [(pb, .cells #[.func (.func 89) #[.agg #[slv qa1 na1 ca1, .int .i64 f1_c0_f0.wind.lo, .int .i64 f1_c0_f0.wind.hi, slv qa2 na2 ca2, slv qa3 na3 ca3]] #[]] 129 (0, 0))]) (fun s l => []) () (trivial) ((.cons rfl (.cons rfl (.cons rfl (.cons rfl .nil))))) (fun w hh => hh) (fun s l r hpl hm h3 => ?_)
   unfold m_slices_IndexFunc_intint_2_L0 at hm
   refine g_seq ?_
   refine g_region ?_
   refine g_val rfl rfl rfl (fun _ _ => v_lss rfl rfl) ?_
   refine g_nil ?_
   refine g_n_then ?_
   refine g_seq ?_
   refine g_cond rfl (fun h4 => ?_) (fun h4 => ?_)
   ·replace hm := ifT (of_decide_eq_true h4) hm
    refine g_skip ?_
    refine g_n_then ?_
    refine g_seq ?_
    refine g_block ?_
    refine g_seq ?_
    refine g_region ?_
    refine g_val rfl rfl rfl (fun _ _ => v_move rfl) ?_
    refine g_val rfl rfl rfl (fun _ _ => v_assign rfl) ?_
    refine g_nil ?_
    refine g_n_then ?_
    refine g_seq ?_
    refine g_region ?_
    refine g_val rfl rfl rfl (fun _ _ => v_move rfl) ?_
    refine g_val rfl rfl rfl (fun _ _ => v_move rfl) ?_
    refine g_val rfl rfl rfl (fun _ _ => v_move rfl) ?_
    obtain ⟨t14, h5, hm⟩ := bindO hm
    refine g_val rfl rfl rfl (fun w _ => v_ixA h5 (Try.runUnderlying26 w) (Try.sizeOf3 w) rfl rfl hna0 hqa0) ?_
    refine g_val rfl rfl rfl (fun w hh => v_ldE RI 0 h5 (Try.isAgg3 w) rfl (hh.seg 0 rfl) rfl (Nat.add_zero _).symm) ?_
    obtain ⟨t16, h6, hm⟩ := bindO hm
    refine g_callH [_] [] rfl rfl rfl rfl rfl rfl rfl (fun a w => Try.call151 a w) (fun w hh => c_tide_every_int_1_2 t14 f1_c0_f0 pb qa1 na1 ca1 qa2 na2 ca2 qa3 na3 ca3 w (HV.callee (S0 := [_]) (vs0 := []) hh (roC (hh.rsep (S0 := [_]) (vs0 := []) 1 rfl) (roC (hh.rsep (S0 := [_]) (vs0 := []) 2 rfl) (roC (hh.rsep (S0 := [_]) (vs0 := []) 3 rfl) roN)))) hna1 hqa1 hla1 hna2 hqa2 hla2 hna3 hqa3 hla3 h6) (fun l_1 h7 => ?_)
    refine g_sel (S' := [_]) (vs' := []) [0] [] 0 (by decide) (by decide) rfl rfl rfl ?_
    refine g_nil ?_
    refine g_n_then ?_
    refine g_cond rfl (fun h8 => ?_) (fun h8 => ?_)
    ·replace hm := ifT (h8) hm
     refine g_seq ?_
     refine g_region ?_
     refine g_val rfl rfl rfl (fun _ _ => v_move rfl) ?_
     refine g_val rfl rfl rfl (fun _ _ => v_assign rfl) ?_
     refine g_nil ?_
     refine g_n_then ?_
     refine g_ret ?_
     refine g_r_blk ?_
     refine g_r_then ?_
     refine g_r_then ?_
     refine g_r_blk ?_
     obtain rfl := Option.some.inj hm
     have hbo := h3 _ rfl
     subst hbo
     refine g_r_then ?_
     replace hm := ocR h2
     refine g_r_then ?_
     obtain rfl := Option.some.inj hm
     refine g_done rfl (fun w hh => (.tmp rfl .nil)) (fun w hh => ⟨(), rfl, trivial, hh.sel [0] [] 4 (by decide) (by decide) rfl rfl rfl⟩)
    ·replace hm := ifF ((fun hh => Bool.noConfusion ((h8).symm.trans hh))) hm
     refine g_skip ?_
     refine g_n_blk ?_
     refine g_n_then ?_
     refine g_region ?_
     obtain ⟨t18, h9, hm⟩ := bindO hm
     refine g_val rfl rfl rfl (fun _ _ => v_addc h9 rfl rfl) ?_
     refine g_val rfl rfl rfl (fun _ _ => v_move rfl) ?_
     refine g_nil ?_
     obtain rfl := Option.some.inj hm
     refine g_n_then ?_
     exact g_again' _ () rfl (trivial) ((.cons rfl (.cons rfl (.cons rfl (.cons rfl .nil))))) (fun w hh => hh)
   ·replace hm := ifF (of_decide_eq_false h4) hm
    refine g_exit ?_
    refine g_x_then ?_
    refine g_x_then ?_
    refine g_x_blk ?_
    obtain rfl := Option.some.inj hm
    have hbo := h3 _ rfl
    subst hbo
    exact g_leaf () (rfl) (.nil) (fun w hh => hh)
  ·intro j hj
   have h10 := hj
   subst h10
   replace hm := ocL h2
   refine g_n_then ?_
   refine g_seq ?_
   refine g_region ?_
   refine g_val rfl rfl rfl (fun _ _ => v_assign rfl) ?_
   refine g_nil ?_
   refine g_n_then ?_
   refine g_ret ?_
   obtain rfl := Option.some.inj hm
   refine g_done rfl (fun w hh => (.tmp rfl .nil)) (fun w hh => ⟨(), rfl, trivial, hh.sel [0] [] 4 (by decide) (by decide) rfl rfl rfl⟩)
def m_slices_ContainsFunc_intint_2 (s0 : (List Int)) (f1_c0_f0 : Sands) : Option Bool :=
 (m_slices_IndexFunc_intint_2 s0 f1_c0_f0).bind fun t7 =>
 some (decide (0 ≤ t7))
set_option maxRecDepth 100000 in
set_option maxHeartbeats 4000000 in
theorem c_slices_ContainsFunc_intint_2 (s0 : (List Int)) (f1_c0_f0 : Sands) (qa0 : Option (Nat × Nat)) (na0 ca0 : Nat) (pb : Nat) (qa1 : Option (Nat × Nat)) (na1 ca1 : Nat) (qa2 : Option (Nat × Nat)) (na2 ca2 : Nat) (qa3 : Option (Nat × Nat)) (na3 ca3 : Nat) (w : World) (hw : HV w (keys [(pb, .cells #[.func (.func 89) #[.agg #[slv qa1 na1 ca1, .int .i64 f1_c0_f0.wind.lo, .int .i64 f1_c0_f0.wind.hi, slv qa2 na2 ca2, slv qa3 na3 ca3]] #[]] 129 (0, 0))] []) [(pb, .cells #[.func (.func 89) #[.agg #[slv qa1 na1 ca1, .int .i64 f1_c0_f0.wind.lo, .int .i64 f1_c0_f0.wind.hi, slv qa2 na2 ca2, slv qa3 na3 ca3]] #[]] 129 (0, 0))] [] [(bk qa0, off qa0, RI.enc s0), (bk qa1, off qa1, RW.enc f1_c0_f0.table), (bk qa2, off qa2, RI.enc f1_c0_f0.floors), (bk qa3, off qa3, RS.enc f1_c0_f0.sills)] w) (hna0 : s0.length = na0) (hqa0 : 0 < na0 → qa0 ≠ none) (hla0 : na0 ≤ ca0) (hna1 : f1_c0_f0.table.length = na1) (hqa1 : 0 < na1 → qa1 ≠ none) (hla1 : na1 ≤ ca1) (hna2 : f1_c0_f0.floors.length = na2) (hqa2 : 0 < na2 → qa2 ≠ none) (hla2 : na2 ≤ ca2) (hna3 : f1_c0_f0.sills.length = na3) (hqa3 : 0 < na3 → qa3 ≠ none) (hla3 : na3 ≤ ca3) {res : Bool} (hm : m_slices_ContainsFunc_intint_2 s0 f1_c0_f0 = some res) :
    Calls Try.prog 78 #[slv qa0 na0 ca0, .func (.func 151) #[] #[ptr pb 0]] w (fun en w' => ∃ l : Unit, en = .returned (.bool res) ∧ (True) ∧ HV w (keys [(pb, .cells #[.func (.func 89) #[.agg #[slv qa1 na1 ca1, .int .i64 f1_c0_f0.wind.lo, .int .i64 f1_c0_f0.wind.hi, slv qa2 na2 ca2, slv qa3 na3 ca3]] #[]] 129 (0, 0))] []) [(pb, .cells #[.func (.func 89) #[.agg #[slv qa1 na1 ca1, .int .i64 f1_c0_f0.wind.lo, .int .i64 f1_c0_f0.wind.hi, slv qa2 na2 ca2, slv qa3 na3 ca3]] #[]] 129 (0, 0))] [] [] w') := by
  unfold m_slices_ContainsFunc_intint_2 at hm
  refine g_enter (args := [slv qa0 na0 ca0, .func (.func 151) #[] #[ptr pb 0]]) Try.func78 rfl Try.ntmps78 rfl (e := [(0, _), (1, _)]) rfl (H := HV w (keys [(pb, .cells #[.func (.func 89) #[.agg #[slv qa1 na1 ca1, .int .i64 f1_c0_f0.wind.lo, .int .i64 f1_c0_f0.wind.hi, slv qa2 na2 ca2, slv qa3 na3 ca3]] #[]] 129 (0, 0))] []) [(pb, .cells #[.func (.func 89) #[.agg #[slv qa1 na1 ca1, .int .i64 f1_c0_f0.wind.lo, .int .i64 f1_c0_f0.wind.hi, slv qa2 na2 ca2, slv qa3 na3 ca3]] #[]] 129 (0, 0))] [] [(bk qa0, off qa0, RI.enc s0), (bk qa1, off qa1, RW.enc f1_c0_f0.table), (bk qa2, off qa2, RI.enc f1_c0_f0.floors), (bk qa3, off qa3, RS.enc f1_c0_f0.sills)]) hw ?_
  refine g_seq ?_
  refine g_region ?_
  refine g_val rfl rfl rfl (fun _ _ => v_assign rfl) ?_
  refine g_nil ?_
  refine g_n_then ?_
  refine g_seq ?_
  refine g_region ?_
  refine g_val rfl rfl rfl (fun _ _ => v_move rfl) ?_
  refine g_val rfl rfl rfl (fun _ _ => v_move rfl) ?_
  obtain ⟨t7, h1, hm⟩ := bindO hm
  refine g_callH [_] [] rfl rfl rfl rfl rfl rfl rfl (fun a w => Try.call143 a w) (fun w hh => c_slices_IndexFunc_intint_2 s0 f1_c0_f0 qa0 na0 ca0 pb qa1 na1 ca1 qa2 na2 ca2 qa3 na3 ca3 w (HV.callee (S0 := [_]) (vs0 := []) hh (roC (hh.rsep (S0 := [_]) (vs0 := []) 0 rfl) (roC (hh.rsep (S0 := [_]) (vs0 := []) 1 rfl) (roC (hh.rsep (S0 := [_]) (vs0 := []) 2 rfl) (roC (hh.rsep (S0 := [_]) (vs0 := []) 3 rfl) roN))))) hna0 hqa0 hla0 hna1 hqa1 hla1 hna2 hqa2 hla2 hna3 hqa3 hla3 h1) (fun l h2 => ?_)
  refine g_sel (S' := [_]) (vs' := []) [0] [] 0 (by decide) (by decide) rfl rfl rfl ?_
  refine g_val rfl rfl rfl (fun _ _ => v_geq rfl rfl) ?_
  refine g_val rfl rfl rfl (fun _ _ => v_assign rfl) ?_
  refine g_nil ?_
  refine g_n_then ?_
  refine g_ret ?_
  obtain rfl := Option.some.inj hm
  refine g_done rfl (fun w hh => (.tmp rfl .nil)) (fun w hh => ⟨(), rfl, trivial, hh.sel [0] [] 4 (by decide) (by decide) rfl rfl rfl⟩)
def m_tide_every_int_3 (l0 : (List Int)) (holds1_f0 : Sands) : Option Bool :=
 (m_slices_ContainsFunc_intint_2 l0 holds1_f0).bind fun t7 =>
 some (!t7)
set_option maxRecDepth 100000 in
set_option maxHeartbeats 4000000 in
theorem c_tide_every_int_3 (l0 : (List Int)) (holds1_f0 : Sands) (qa0 : Option (Nat × Nat)) (na0 ca0 : Nat) (qa1 : Option (Nat × Nat)) (na1 ca1 : Nat) (qa2 : Option (Nat × Nat)) (na2 ca2 : Nat) (qa3 : Option (Nat × Nat)) (na3 ca3 : Nat) (w : World) (hw : HV w (keys [] []) [] [] [(bk qa0, off qa0, RI.enc l0), (bk qa1, off qa1, RW.enc holds1_f0.table), (bk qa2, off qa2, RI.enc holds1_f0.floors), (bk qa3, off qa3, RS.enc holds1_f0.sills)] w) (hna0 : l0.length = na0) (hqa0 : 0 < na0 → qa0 ≠ none) (hla0 : na0 ≤ ca0) (hna1 : holds1_f0.table.length = na1) (hqa1 : 0 < na1 → qa1 ≠ none) (hla1 : na1 ≤ ca1) (hna2 : holds1_f0.floors.length = na2) (hqa2 : 0 < na2 → qa2 ≠ none) (hla2 : na2 ≤ ca2) (hna3 : holds1_f0.sills.length = na3) (hqa3 : 0 < na3 → qa3 ≠ none) (hla3 : na3 ≤ ca3) {res : Bool} (hm : m_tide_every_int_3 l0 holds1_f0 = some res) :
    Calls Try.prog 94 #[slv qa0 na0 ca0, .func (.func 89) #[.agg #[slv qa1 na1 ca1, .int .i64 holds1_f0.wind.lo, .int .i64 holds1_f0.wind.hi, slv qa2 na2 ca2, slv qa3 na3 ca3]] #[]] w (fun en w' => ∃ l : Unit, en = .returned (.bool res) ∧ (True) ∧ HV w (keys [] []) [] [] [] w') := by
  unfold m_tide_every_int_3 at hm
  refine g_enter (args := [slv qa0 na0 ca0, .func (.func 89) #[.agg #[slv qa1 na1 ca1, .int .i64 holds1_f0.wind.lo, .int .i64 holds1_f0.wind.hi, slv qa2 na2 ca2, slv qa3 na3 ca3]] #[]]) Try.func94 rfl Try.ntmps94 rfl (e := [(0, _), (1, _)]) rfl (H := HV w (keys [] []) [] [] [(bk qa0, off qa0, RI.enc l0), (bk qa1, off qa1, RW.enc holds1_f0.table), (bk qa2, off qa2, RI.enc holds1_f0.floors), (bk qa3, off qa3, RS.enc holds1_f0.sills)]) hw ?_
  refine g_seq ?_
  refine g_region ?_
  refine g_boxV rfl rfl (fun b h1 => ?_)
  refine g_val rfl rfl rfl (fun _ _ => v_assign rfl) ?_
  refine g_nil ?_
  refine g_n_then ?_
  refine g_seq ?_
  refine g_region ?_
  refine g_val rfl rfl rfl (fun _ _ => v_move rfl) ?_
  refine g_val rfl rfl rfl (fun _ _ => v_makeFunc (u := #[]) (u' := #[_]) rfl rfl) ?_
  obtain ⟨t7, h2, hm⟩ := bindO hm
  refine g_callH [_] [] rfl rfl rfl rfl rfl rfl rfl (fun a w => Try.call78 a w) (fun w hh => c_slices_ContainsFunc_intint_2 l0 holds1_f0 qa0 na0 ca0 b qa1 na1 ca1 qa2 na2 ca2 qa3 na3 ca3 w (HV.callee (S0 := [_]) (vs0 := []) hh (roC (hh.rsep (S0 := [_]) (vs0 := []) 0 rfl) (roC (hh.rsep (S0 := [_]) (vs0 := []) 1 rfl) (roC (hh.rsep (S0 := [_]) (vs0 := []) 2 rfl) (roC (hh.rsep (S0 := [_]) (vs0 := []) 3 rfl) roN))))) hna0 hqa0 hla0 hna1 hqa1 hla1 hna2 hqa2 hla2 hna3 hqa3 hla3 h2) (fun l h3 => ?_)
  refine g_sel (S' := [_]) (vs' := []) [0] [] 0 (by decide) (by decide) rfl rfl rfl ?_
  refine g_val rfl rfl rfl (fun _ _ => v_not rfl) ?_
  refine g_val rfl rfl rfl (fun _ _ => v_assign rfl) ?_
  refine g_nil ?_
  refine g_n_then ?_
  refine g_ret ?_
  obtain rfl := Option.some.inj hm
  refine g_done rfl (fun w hh => (.tmp rfl .nil)) (fun w hh => ⟨(), rfl, trivial, hh.sel [] [] 4 (by decide) (by decide) rfl rfl rfl⟩)
def m_tide_Longest_1_1_2 (p0 : Int) (a11 : Sands) (a22 : Int) : Option Bool :=
 (x_at a11 a22 p0).bind fun t8 =>
 some (decide (t8 = 0))
set_option maxRecDepth 100000 in
set_option maxHeartbeats 4000000 in
theorem c_tide_Longest_1_1_2 (p0 : Int) (a11 : Sands) (a22 : Int) (pb : Nat) (db0 : Nat) (qa1 : Option (Nat × Nat)) (na1 ca1 : Nat) (qa2 : Option (Nat × Nat)) (na2 ca2 : Nat) (qa3 : Option (Nat × Nat)) (na3 ca3 : Nat) (pb_1 : Nat) (w : World) (hw : HV w (keys [(pb, .cells #[ptr db0 0] 139 (0, 0)), (pb_1, .cells #[.int .i64 a22] 3 (0, 0))] []) [(pb, .cells #[ptr db0 0] 139 (0, 0)), (pb_1, .cells #[.int .i64 a22] 3 (0, 0))] [] [(db0, 0, [slv qa1 na1 ca1, .int .i64 a11.wind.lo, .int .i64 a11.wind.hi, slv qa2 na2 ca2, slv qa3 na3 ca3, .int .i64 ((gatesOf a11).getD 0 0), .int .i64 ((gatesOf a11).getD 1 0), .int .i64 ((gatesOf a11).getD 2 0), .int .i64 ((gatesOf a11).getD 3 0), .int .i64 ((gatesOf a11).getD 4 0), .int .i64 ((gatesOf a11).getD 5 0), .int .i64 ((gatesOf a11).getD 6 0), .int .i64 ((gatesOf a11).getD 7 0)]), (bk qa1, off qa1, RW.enc a11.table), (bk qa2, off qa2, RI.enc a11.floors), (bk qa3, off qa3, RS.enc a11.sills)] w)  (hna1 : a11.table.length = na1) (hqa1 : 0 < na1 → qa1 ≠ none) (hla1 : na1 ≤ ca1) (hna2 : a11.floors.length = na2) (hqa2 : 0 < na2 → qa2 ≠ none) (hla2 : na2 ≤ ca2) (hna3 : a11.sills.length = na3) (hqa3 : 0 < na3 → qa3 ≠ none) (hla3 : na3 ≤ ca3) {res : Bool} (hm : m_tide_Longest_1_1_2 p0 a11 a22 = some res) :
    Calls Try.prog 140 #[.int .i64 p0, ptr pb 0, ptr pb_1 0] w (fun en w' => ∃ l : Unit, en = .returned (.bool res) ∧ (True) ∧ HV w (keys [(pb, .cells #[ptr db0 0] 139 (0, 0)), (pb_1, .cells #[.int .i64 a22] 3 (0, 0))] []) [(pb, .cells #[ptr db0 0] 139 (0, 0)), (pb_1, .cells #[.int .i64 a22] 3 (0, 0))] [] [] w') := by
  unfold m_tide_Longest_1_1_2 at hm
  refine g_enter (args := [.int .i64 p0, ptr pb 0, ptr pb_1 0]) Try.func140 rfl Try.ntmps140 rfl (e := [(0, _), (1, _), (2, _)]) rfl (H := HV w (keys [(pb, .cells #[ptr db0 0] 139 (0, 0)), (pb_1, .cells #[.int .i64 a22] 3 (0, 0))] []) [(pb, .cells #[ptr db0 0] 139 (0, 0)), (pb_1, .cells #[.int .i64 a22] 3 (0, 0))] [] [(db0, 0, [slv qa1 na1 ca1, .int .i64 a11.wind.lo, .int .i64 a11.wind.hi, slv qa2 na2 ca2, slv qa3 na3 ca3, .int .i64 ((gatesOf a11).getD 0 0), .int .i64 ((gatesOf a11).getD 1 0), .int .i64 ((gatesOf a11).getD 2 0), .int .i64 ((gatesOf a11).getD 3 0), .int .i64 ((gatesOf a11).getD 4 0), .int .i64 ((gatesOf a11).getD 5 0), .int .i64 ((gatesOf a11).getD 6 0), .int .i64 ((gatesOf a11).getD 7 0)]), (bk qa1, off qa1, RW.enc a11.table), (bk qa2, off qa2, RI.enc a11.floors), (bk qa3, off qa3, RS.enc a11.sills)]) hw ?_
  refine g_seq ?_
  refine g_region ?_
  refine g_val rfl rfl rfl (fun _ _ => v_assign rfl) ?_
  refine g_nil ?_
  refine g_n_then ?_
  refine g_seq ?_
  refine g_region ?_
  refine g_val rfl rfl rfl (fun w hh => v_load (Try.isAgg139 w) rfl (hh.cell 0 rfl rfl)) ?_
  refine g_val rfl rfl rfl (fun w hh => v_load (Try.isAgg3 w) rfl (hh.cell 1 rfl rfl)) ?_
  refine g_val rfl rfl rfl (fun _ _ => v_move rfl) ?_
  obtain ⟨t8, h1, hm⟩ := bindO hm
  refine g_callN rfl rfl rfl rfl rfl rfl rfl (fun a w => Try.call104 a w) (fun w hh => cx_at a11 a22 p0 db0 qa1 na1 ca1 qa2 na2 ca2 qa3 na3 ca3 w (HV.callee (S0 := []) (vs0 := []) hh (roC (hh.rsep (S0 := []) (vs0 := []) 0 rfl) (roC (hh.rsep (S0 := []) (vs0 := []) 1 rfl) (roC (hh.rsep (S0 := []) (vs0 := []) 2 rfl) (roC (hh.rsep (S0 := []) (vs0 := []) 3 rfl) roN))))) hna1 hqa1 hla1 hna2 hqa2 hla2 hna3 hqa3 hla3 h1) (fun l h2 => ?_)
  refine g_val rfl rfl rfl (fun _ _ => v_eql rfl rfl) ?_
  refine g_val rfl rfl rfl (fun _ _ => v_assign rfl) ?_
  refine g_nil ?_
  refine g_n_then ?_
  refine g_ret ?_
  obtain rfl := Option.some.inj hm
  refine g_done rfl (fun w hh => (.tmp rfl .nil)) (fun w hh => ⟨(), rfl, trivial, hh.sel [0, 1] [] 4 (by decide) (by decide) rfl rfl rfl⟩)
def m_tide_every_int_1_3 (x0 : Int) (a11_c0 : Sands) (a11_c1 : Int) : Option Bool :=
 (m_tide_Longest_1_1_2 x0 a11_c0 a11_c1).bind fun t6 =>
 some (!t6)
set_option maxRecDepth 100000 in
set_option maxHeartbeats 4000000 in
theorem c_tide_every_int_1_3 (x0 : Int) (a11_c0 : Sands) (a11_c1 : Int) (pb : Nat) (pb_1 : Nat) (db0 : Nat) (qa1 : Option (Nat × Nat)) (na1 ca1 : Nat) (qa2 : Option (Nat × Nat)) (na2 ca2 : Nat) (qa3 : Option (Nat × Nat)) (na3 ca3 : Nat) (pb_2 : Nat) (w : World) (hw : HV w (keys [(pb, .cells #[.func (.func 140) #[] #[ptr pb_1 0, ptr pb_2 0]] 129 (0, 0)), (pb_1, .cells #[ptr db0 0] 139 (0, 0)), (pb_2, .cells #[.int .i64 a11_c1] 3 (0, 0))] []) [(pb, .cells #[.func (.func 140) #[] #[ptr pb_1 0, ptr pb_2 0]] 129 (0, 0)), (pb_1, .cells #[ptr db0 0] 139 (0, 0)), (pb_2, .cells #[.int .i64 a11_c1] 3 (0, 0))] [] [(db0, 0, [slv qa1 na1 ca1, .int .i64 a11_c0.wind.lo, .int .i64 a11_c0.wind.hi, slv qa2 na2 ca2, slv qa3 na3 ca3, .int .i64 ((gatesOf a11_c0).getD 0 0), .int .i64 ((gatesOf a11_c0).getD 1 0), .int .i64 ((gatesOf a11_c0).getD 2 0), .int .i64 ((gatesOf a11_c0).getD 3 0), .int .i64 ((gatesOf a11_c0).getD 4 0), .int .i64 ((gatesOf a11_c0).getD 5 0), .int .i64 ((gatesOf a11_c0).getD 6 0), .int .i64 ((gatesOf a11_c0).getD 7 0)]), (bk qa1, off qa1, RW.enc a11_c0.table), (bk qa2, off qa2, RI.enc a11_c0.floors), (bk qa3, off qa3, RS.enc a11_c0.sills)] w)  (hna1 : a11_c0.table.length = na1) (hqa1 : 0 < na1 → qa1 ≠ none) (hla1 : na1 ≤ ca1) (hna2 : a11_c0.floors.length = na2) (hqa2 : 0 < na2 → qa2 ≠ none) (hla2 : na2 ≤ ca2) (hna3 : a11_c0.sills.length = na3) (hqa3 : 0 < na3 → qa3 ≠ none) (hla3 : na3 ≤ ca3) {res : Bool} (hm : m_tide_every_int_1_3 x0 a11_c0 a11_c1 = some res) :
    Calls Try.prog 151 #[.int .i64 x0, ptr pb 0] w (fun en w' => ∃ l : Unit, en = .returned (.bool res) ∧ (True) ∧ HV w (keys [(pb, .cells #[.func (.func 140) #[] #[ptr pb_1 0, ptr pb_2 0]] 129 (0, 0)), (pb_1, .cells #[ptr db0 0] 139 (0, 0)), (pb_2, .cells #[.int .i64 a11_c1] 3 (0, 0))] []) [(pb, .cells #[.func (.func 140) #[] #[ptr pb_1 0, ptr pb_2 0]] 129 (0, 0)), (pb_1, .cells #[ptr db0 0] 139 (0, 0)), (pb_2, .cells #[.int .i64 a11_c1] 3 (0, 0))] [] [] w') := by
  unfold m_tide_every_int_1_3 at hm
  refine g_enter (args := [.int .i64 x0, ptr pb 0]) Try.func151 rfl Try.ntmps151 rfl (e := [(0, _), (1, _)]) rfl (H := HV w (keys [(pb, .cells #[.func (.func 140) #[] #[ptr pb_1 0, ptr pb_2 0]] 129 (0, 0)), (pb_1, .cells #[ptr db0 0] 139 (0, 0)), (pb_2, .cells #[.int .i64 a11_c1] 3 (0, 0))] []) [(pb, .cells #[.func (.func 140) #[] #[ptr pb_1 0, ptr pb_2 0]] 129 (0, 0)), (pb_1, .cells #[ptr db0 0] 139 (0, 0)), (pb_2, .cells #[.int .i64 a11_c1] 3 (0, 0))] [] [(db0, 0, [slv qa1 na1 ca1, .int .i64 a11_c0.wind.lo, .int .i64 a11_c0.wind.hi, slv qa2 na2 ca2, slv qa3 na3 ca3, .int .i64 ((gatesOf a11_c0).getD 0 0), .int .i64 ((gatesOf a11_c0).getD 1 0), .int .i64 ((gatesOf a11_c0).getD 2 0), .int .i64 ((gatesOf a11_c0).getD 3 0), .int .i64 ((gatesOf a11_c0).getD 4 0), .int .i64 ((gatesOf a11_c0).getD 5 0), .int .i64 ((gatesOf a11_c0).getD 6 0), .int .i64 ((gatesOf a11_c0).getD 7 0)]), (bk qa1, off qa1, RW.enc a11_c0.table), (bk qa2, off qa2, RI.enc a11_c0.floors), (bk qa3, off qa3, RS.enc a11_c0.sills)]) hw ?_
  refine g_seq ?_
  refine g_region ?_
  refine g_val rfl rfl rfl (fun _ _ => v_assign rfl) ?_
  refine g_nil ?_
  refine g_n_then ?_
  refine g_seq ?_
  refine g_region ?_
  refine g_val rfl rfl rfl (fun w hh => v_load (Try.isAgg129 w) rfl (hh.cell 0 rfl rfl)) ?_
  refine g_val rfl rfl rfl (fun _ _ => v_move rfl) ?_
  obtain ⟨t6, h1, hm⟩ := bindO hm
  refine g_sel (S' := [_, _, _]) (vs' := []) [1, 2, 0] [] 0 (by decide) (by decide) rfl rfl rfl ?_
  refine g_callH [_, _] [] rfl rfl rfl rfl rfl rfl rfl (fun a w => Try.call140 a w) (fun w hh => c_tide_Longest_1_1_2 x0 a11_c0 a11_c1 pb_1 db0 qa1 na1 ca1 qa2 na2 ca2 qa3 na3 ca3 pb_2 w (HV.callee (S0 := [_, _]) (vs0 := []) hh (roC (hh.rsep (S0 := [_, _]) (vs0 := []) 0 rfl) (roC (hh.rsep (S0 := [_, _]) (vs0 := []) 1 rfl) (roC (hh.rsep (S0 := [_, _]) (vs0 := []) 2 rfl) (roC (hh.rsep (S0 := [_, _]) (vs0 := []) 3 rfl) roN))))) hna1 hqa1 hla1 hna2 hqa2 hla2 hna3 hqa3 hla3 h1) (fun l h2 => ?_)
  refine g_sel (S' := [_, _, _]) (vs' := []) [0, 1, 2] [] 0 (by decide) (by decide) rfl rfl rfl ?_
  refine g_val rfl rfl rfl (fun _ _ => v_not rfl) ?_
  refine g_val rfl rfl rfl (fun _ _ => v_assign rfl) ?_
  refine g_nil ?_
  refine g_n_then ?_
  refine g_ret ?_
  obtain rfl := Option.some.inj hm
  refine g_done rfl (fun w hh => (.tmp rfl .nil)) (fun w hh => ⟨(), rfl, trivial, hh.sel [2, 0, 1] [] 4 (by decide) (by decide) rfl rfl rfl⟩)
def m_slices_IndexFunc_intint_3_L0 (s0 : (List Int)) (f1_c0_c0 : Sands) (f1_c0_c1 : Int) (s : Int) : Option (Int ⊕ (Unit ⊕ Int)) :=
 if s < (s0.length : Int) then
 ((ix s0 s).bind fun t14 =>
 (m_tide_every_int_1_3 t14 f1_c0_c0 f1_c0_c1).bind fun t16 =>
 if t16 = true then
 (some (.inr (.inr s))) else
 ((addc s 1).bind fun t18 =>
 some (.inl t18))) else
 (some (.inr (.inl ())))
def m_slices_IndexFunc_intint_3 (s0 : (List Int)) (f1_c0_c0 : Sands) (f1_c0_c1 : Int) : Option Int :=
 (iterM FU (m_slices_IndexFunc_intint_3_L0 s0 f1_c0_c0 f1_c0_c1) 0).bind fun o =>
 oc o (fun j => some (-1)) (fun r_1 => some r_1)
set_option maxRecDepth 100000 in
set_option maxHeartbeats 4000000 in
theorem c_slices_IndexFunc_intint_3 (s0 : (List Int)) (f1_c0_c0 : Sands) (f1_c0_c1 : Int) (qa0 : Option (Nat × Nat)) (na0 ca0 : Nat) (pb : Nat) (pb_1 : Nat) (db1 : Nat) (qa2 : Option (Nat × Nat)) (na2 ca2 : Nat) (qa3 : Option (Nat × Nat)) (na3 ca3 : Nat) (qa4 : Option (Nat × Nat)) (na4 ca4 : Nat) (pb_2 : Nat) (w : World) (hw : HV w (keys [(pb, .cells #[.func (.func 140) #[] #[ptr pb_1 0, ptr pb_2 0]] 129 (0, 0)), (pb_1, .cells #[ptr db1 0] 139 (0, 0)), (pb_2, .cells #[.int .i64 f1_c0_c1] 3 (0, 0))] []) [(pb, .cells #[.func (.func 140) #[] #[ptr pb_1 0, ptr pb_2 0]] 129 (0, 0)), (pb_1, .cells #[ptr db1 0] 139 (0, 0)), (pb_2, .cells #[.int .i64 f1_c0_c1] 3 (0, 0))] [] [(bk qa0, off qa0, RI.enc s0), (db1, 0, [slv qa2 na2 ca2, .int .i64 f1_c0_c0.wind.lo, .int .i64 f1_c0_c0.wind.hi, slv qa3 na3 ca3, slv qa4 na4 ca4, .int .i64 ((gatesOf f1_c0_c0).getD 0 0), .int .i64 ((gatesOf f1_c0_c0).getD 1 0), .int .i64 ((gatesOf f1_c0_c0).getD 2 0), .int .i64 ((gatesOf f1_c0_c0).getD 3 0), .int .i64 ((gatesOf f1_c0_c0).getD 4 0), .int .i64 ((gatesOf f1_c0_c0).getD 5 0), .int .i64 ((gatesOf f1_c0_c0).getD 6 0), .int .i64 ((gatesOf f1_c0_c0).getD 7 0)]), (bk qa2, off qa2, RW.enc f1_c0_c0.table), (bk qa3, off qa3, RI.enc f1_c0_c0.floors), (bk qa4, off qa4, RS.enc f1_c0_c0.sills)] w) (hna0 : s0.length = na0) (hqa0 : 0 < na0 → qa0 ≠ none) (hla0 : na0 ≤ ca0)  (hna2 : f1_c0_c0.table.length = na2) (hqa2 : 0 < na2 → qa2 ≠ none) (hla2 : na2 ≤ ca2) (hna3 : f1_c0_c0.floors.length = na3) (hqa3 : 0 < na3 → qa3 ≠ none) (hla3 : na3 ≤ ca3) (hna4 : f1_c0_c0.sills.length = na4) (hqa4 : 0 < na4 → qa4 ≠ none) (hla4 : na4 ≤ ca4) {res : Int} (hm : m_slices_IndexFunc_intint_3 s0 f1_c0_c0 f1_c0_c1 = some res) :
    Calls Try.prog 143 #[slv qa0 na0 ca0, .func (.func 151) #[] #[ptr pb 0]] w (fun en w' => ∃ l : Unit, en = .returned (.int .i64 res) ∧ (True) ∧ HV w (keys [(pb, .cells #[.func (.func 140) #[] #[ptr pb_1 0, ptr pb_2 0]] 129 (0, 0)), (pb_1, .cells #[ptr db1 0] 139 (0, 0)), (pb_2, .cells #[.int .i64 f1_c0_c1] 3 (0, 0))] []) [(pb, .cells #[.func (.func 140) #[] #[ptr pb_1 0, ptr pb_2 0]] 129 (0, 0)), (pb_1, .cells #[ptr db1 0] 139 (0, 0)), (pb_2, .cells #[.int .i64 f1_c0_c1] 3 (0, 0))] [] [] w') := by
  unfold m_slices_IndexFunc_intint_3 at hm
  refine g_enter (args := [slv qa0 na0 ca0, .func (.func 151) #[] #[ptr pb 0]]) Try.func143 rfl Try.ntmps143 rfl (e := [(0, _), (1, _)]) rfl (H := HV w (keys [(pb, .cells #[.func (.func 140) #[] #[ptr pb_1 0, ptr pb_2 0]] 129 (0, 0)), (pb_1, .cells #[ptr db1 0] 139 (0, 0)), (pb_2, .cells #[.int .i64 f1_c0_c1] 3 (0, 0))] []) [(pb, .cells #[.func (.func 140) #[] #[ptr pb_1 0, ptr pb_2 0]] 129 (0, 0)), (pb_1, .cells #[ptr db1 0] 139 (0, 0)), (pb_2, .cells #[.int .i64 f1_c0_c1] 3 (0, 0))] [] [(bk qa0, off qa0, RI.enc s0), (db1, 0, [slv qa2 na2 ca2, .int .i64 f1_c0_c0.wind.lo, .int .i64 f1_c0_c0.wind.hi, slv qa3 na3 ca3, slv qa4 na4 ca4, .int .i64 ((gatesOf f1_c0_c0).getD 0 0), .int .i64 ((gatesOf f1_c0_c0).getD 1 0), .int .i64 ((gatesOf f1_c0_c0).getD 2 0), .int .i64 ((gatesOf f1_c0_c0).getD 3 0), .int .i64 ((gatesOf f1_c0_c0).getD 4 0), .int .i64 ((gatesOf f1_c0_c0).getD 5 0), .int .i64 ((gatesOf f1_c0_c0).getD 6 0), .int .i64 ((gatesOf f1_c0_c0).getD 7 0)]), (bk qa2, off qa2, RW.enc f1_c0_c0.table), (bk qa3, off qa3, RI.enc f1_c0_c0.floors), (bk qa4, off qa4, RS.enc f1_c0_c0.sills)]) hw ?_
  refine g_seq ?_
  refine g_region ?_
  refine g_val rfl rfl rfl (fun _ _ => v_assign rfl) ?_
  refine g_nil ?_
  refine g_n_then ?_
  refine g_seq ?_
  refine g_seq ?_
  refine g_region ?_
  refine g_val rfl rfl rfl (fun _ _ => v_move rfl) ?_
  refine g_val rfl rfl rfl (fun w _ => v_lenN hna0 (Try.runUnderlying26 w) rfl) ?_
  refine g_val rfl rfl rfl (fun _ _ => v_move rfl) ?_
  refine g_nil ?_
  refine g_n_then ?_
  obtain ⟨o, h1, h2⟩ := bindO hm
  refine g_cut (ι := Unit) (fun j => o = .inl j) (fun j => []) (fun j => [(pb, .cells #[.func (.func 140) #[] #[ptr pb_1 0, ptr pb_2 0]] 129 (0, 0)), (pb_1, .cells #[ptr db1 0] 139 (0, 0)), (pb_2, .cells #[.int .i64 f1_c0_c1] 3 (0, 0))]) (fun j => []) ?_ ?_
  ·replace hm := h1
   refine g_block ?_
   refine g_loopF (ι := Unit) hm (fun s l => True) (fun s l => [(0, slv qa0 na0 ca0), (1, .func (.func 151) #[] #[ptr pb 0]), (7, .int .i64 (s0.length : Int)), (8, .int .i64 s)]) (fun s l => [(pb, .cells #[.func (.func 140) #[] #[ptr pb_1 0, ptr pb_2 0]] 129 (0, 0)), (pb_1, .cells #[ptr db1 0] 139 (0, 0)), (pb_2, .cells #[.int .i64 f1_c0_c1] 3 (0, 0))]) (fun s l => []) () (trivial) ((.cons rfl (.cons rfl (.cons rfl (.cons rfl .nil))))) (fun w hh => hh) (fun s l r hpl hm h3 => ?_)
   unfold m_slices_IndexFunc_intint_3_L0 at hm
   refine g_seq ?_
   refine g_region ?_
   refine g_val rfl rfl rfl (fun _ _ => v_lss rfl rfl) ?_
   refine g_nil ?_
   refine g_n_then ?_
   refine g_seq ?_
   refine g_cond rfl (fun h4 => ?_) (fun h4 => ?_)
   ·replace hm := ifT (of_decide_eq_true h4) hm
    refine g_skip ?_
    refine g_n_then ?_
    refine g_seq ?_
    refine g_block ?_
    refine g_seq ?_
    refine g_region ?_
    refine g_val rfl rfl rfl (fun _ _ => v_move rfl) ?_
    refine g_val rfl rfl rfl (fun _ _ => v_assign rfl) ?_
    refine g_nil ?_
    refine g_n_then ?_
    refine g_seq ?_
    refine g_region ?_
    refine g_val rfl rfl rfl (fun _ _ => v_move rfl) ?_
    refine g_val rfl rfl rfl (fun _ _ => v_move rfl) ?_
    refine g_val rfl rfl rfl (fun _ _ => v_move rfl) ?_
    obtain ⟨t14, h5, hm⟩ := bindO hm
    refine g_val rfl rfl rfl (fun w _ => v_ixA h5 (Try.runUnderlying26 w) (Try.sizeOf3 w) rfl rfl hna0 hqa0) ?_
    refine g_val rfl rfl rfl (fun w hh => v_ldE RI 0 h5 (Try.isAgg3 w) rfl (hh.seg 0 rfl) rfl (Nat.add_zero _).symm) ?_
    obtain ⟨t16, h6, hm⟩ := bindO hm
    refine g_callH [_, _, _] [] rfl rfl rfl rfl rfl rfl rfl (fun a w => Try.call151 a w) (fun w hh => c_tide_every_int_1_3 t14 f1_c0_c0 f1_c0_c1 pb pb_1 db1 qa2 na2 ca2 qa3 na3 ca3 qa4 na4 ca4 pb_2 w (HV.callee (S0 := [_, _, _]) (vs0 := []) hh (roC (hh.rsep (S0 := [_, _, _]) (vs0 := []) 1 rfl) (roC (hh.rsep (S0 := [_, _, _]) (vs0 := []) 2 rfl) (roC (hh.rsep (S0 := [_, _, _]) (vs0 := []) 3 rfl) (roC (hh.rsep (S0 := [_, _, _]) (vs0 := []) 4 rfl) roN))))) hna2 hqa2 hla2 hna3 hqa3 hla3 hna4 hqa4 hla4 h6) (fun l_1 h7 => ?_)
    refine g_sel (S' := [_, _, _]) (vs' := []) [0, 1, 2] [] 0 (by decide) (by decide) rfl rfl rfl ?_
    refine g_nil ?_
    refine g_n_then ?_
    refine g_cond rfl (fun h8 => ?_) (fun h8 => ?_)
    ·replace hm := ifT (h8) hm
     refine g_seq ?_
     refine g_region ?_
     refine g_val rfl rfl rfl (fun _ _ => v_move rfl) ?_
     refine g_val rfl rfl rfl (fun _ _ => v_assign rfl) ?_
     refine g_nil ?_
     refine g_n_then ?_
     refine g_ret ?_
     refine g_r_blk ?_
     refine g_r_then ?_
     refine g_r_then ?_
     refine g_r_blk ?_
     obtain rfl := Option.some.inj hm
     have hbo := h3 _ rfl
     subst hbo
     refine g_r_then ?_
     replace hm := ocR h2
     refine g_r_then ?_
     obtain rfl := Option.some.inj hm
     refine g_done rfl (fun w hh => (.tmp rfl .nil)) (fun w hh => ⟨(), rfl, trivial, hh.sel [0, 1, 2] [] 5 (by decide) (by decide) rfl rfl rfl⟩)
    ·replace hm := ifF ((fun hh => Bool.noConfusion ((h8).symm.trans hh))) hm
     refine g_skip ?_
     refine g_n_blk ?_
     refine g_n_then ?_
     refine g_region ?_
     obtain ⟨t18, h9, hm⟩ := bindO hm
     refine g_val rfl rfl rfl (fun _ _ => v_addc h9 rfl rfl) ?_
     refine g_val rfl rfl rfl (fun _ _ => v_move rfl) ?_
     refine g_nil ?_
     obtain rfl := Option.some.inj hm
     refine g_n_then ?_
     exact g_again' _ () rfl (trivial) ((.cons rfl (.cons rfl (.cons rfl (.cons rfl .nil))))) (fun w hh => hh)
   ·replace hm := ifF (of_decide_eq_false h4) hm
    refine g_exit ?_
    refine g_x_then ?_
    refine g_x_then ?_
    refine g_x_blk ?_
    obtain rfl := Option.some.inj hm
    have hbo := h3 _ rfl
    subst hbo
    exact g_leaf () (rfl) (.nil) (fun w hh => hh)
  ·intro j hj
   have h10 := hj
   subst h10
   replace hm := ocL h2
   refine g_n_then ?_
   refine g_seq ?_
   refine g_region ?_
   refine g_val rfl rfl rfl (fun _ _ => v_assign rfl) ?_
   refine g_nil ?_
   refine g_n_then ?_
   refine g_ret ?_
   obtain rfl := Option.some.inj hm
   refine g_done rfl (fun w hh => (.tmp rfl .nil)) (fun w hh => ⟨(), rfl, trivial, hh.sel [0, 1, 2] [] 5 (by decide) (by decide) rfl rfl rfl⟩)
def m_slices_ContainsFunc_intint_3 (s0 : (List Int)) (f1_c0_c0 : Sands) (f1_c0_c1 : Int) : Option Bool :=
 (m_slices_IndexFunc_intint_3 s0 f1_c0_c0 f1_c0_c1).bind fun t7 =>
 some (decide (0 ≤ t7))
set_option maxRecDepth 100000 in
set_option maxHeartbeats 4000000 in
theorem c_slices_ContainsFunc_intint_3 (s0 : (List Int)) (f1_c0_c0 : Sands) (f1_c0_c1 : Int) (qa0 : Option (Nat × Nat)) (na0 ca0 : Nat) (pb : Nat) (pb_1 : Nat) (db1 : Nat) (qa2 : Option (Nat × Nat)) (na2 ca2 : Nat) (qa3 : Option (Nat × Nat)) (na3 ca3 : Nat) (qa4 : Option (Nat × Nat)) (na4 ca4 : Nat) (pb_2 : Nat) (w : World) (hw : HV w (keys [(pb, .cells #[.func (.func 140) #[] #[ptr pb_1 0, ptr pb_2 0]] 129 (0, 0)), (pb_1, .cells #[ptr db1 0] 139 (0, 0)), (pb_2, .cells #[.int .i64 f1_c0_c1] 3 (0, 0))] []) [(pb, .cells #[.func (.func 140) #[] #[ptr pb_1 0, ptr pb_2 0]] 129 (0, 0)), (pb_1, .cells #[ptr db1 0] 139 (0, 0)), (pb_2, .cells #[.int .i64 f1_c0_c1] 3 (0, 0))] [] [(bk qa0, off qa0, RI.enc s0), (db1, 0, [slv qa2 na2 ca2, .int .i64 f1_c0_c0.wind.lo, .int .i64 f1_c0_c0.wind.hi, slv qa3 na3 ca3, slv qa4 na4 ca4, .int .i64 ((gatesOf f1_c0_c0).getD 0 0), .int .i64 ((gatesOf f1_c0_c0).getD 1 0), .int .i64 ((gatesOf f1_c0_c0).getD 2 0), .int .i64 ((gatesOf f1_c0_c0).getD 3 0), .int .i64 ((gatesOf f1_c0_c0).getD 4 0), .int .i64 ((gatesOf f1_c0_c0).getD 5 0), .int .i64 ((gatesOf f1_c0_c0).getD 6 0), .int .i64 ((gatesOf f1_c0_c0).getD 7 0)]), (bk qa2, off qa2, RW.enc f1_c0_c0.table), (bk qa3, off qa3, RI.enc f1_c0_c0.floors), (bk qa4, off qa4, RS.enc f1_c0_c0.sills)] w) (hna0 : s0.length = na0) (hqa0 : 0 < na0 → qa0 ≠ none) (hla0 : na0 ≤ ca0)  (hna2 : f1_c0_c0.table.length = na2) (hqa2 : 0 < na2 → qa2 ≠ none) (hla2 : na2 ≤ ca2) (hna3 : f1_c0_c0.floors.length = na3) (hqa3 : 0 < na3 → qa3 ≠ none) (hla3 : na3 ≤ ca3) (hna4 : f1_c0_c0.sills.length = na4) (hqa4 : 0 < na4 → qa4 ≠ none) (hla4 : na4 ≤ ca4) {res : Bool} (hm : m_slices_ContainsFunc_intint_3 s0 f1_c0_c0 f1_c0_c1 = some res) :
    Calls Try.prog 78 #[slv qa0 na0 ca0, .func (.func 151) #[] #[ptr pb 0]] w (fun en w' => ∃ l : Unit, en = .returned (.bool res) ∧ (True) ∧ HV w (keys [(pb, .cells #[.func (.func 140) #[] #[ptr pb_1 0, ptr pb_2 0]] 129 (0, 0)), (pb_1, .cells #[ptr db1 0] 139 (0, 0)), (pb_2, .cells #[.int .i64 f1_c0_c1] 3 (0, 0))] []) [(pb, .cells #[.func (.func 140) #[] #[ptr pb_1 0, ptr pb_2 0]] 129 (0, 0)), (pb_1, .cells #[ptr db1 0] 139 (0, 0)), (pb_2, .cells #[.int .i64 f1_c0_c1] 3 (0, 0))] [] [] w') := by
  unfold m_slices_ContainsFunc_intint_3 at hm
  refine g_enter (args := [slv qa0 na0 ca0, .func (.func 151) #[] #[ptr pb 0]]) Try.func78 rfl Try.ntmps78 rfl (e := [(0, _), (1, _)]) rfl (H := HV w (keys [(pb, .cells #[.func (.func 140) #[] #[ptr pb_1 0, ptr pb_2 0]] 129 (0, 0)), (pb_1, .cells #[ptr db1 0] 139 (0, 0)), (pb_2, .cells #[.int .i64 f1_c0_c1] 3 (0, 0))] []) [(pb, .cells #[.func (.func 140) #[] #[ptr pb_1 0, ptr pb_2 0]] 129 (0, 0)), (pb_1, .cells #[ptr db1 0] 139 (0, 0)), (pb_2, .cells #[.int .i64 f1_c0_c1] 3 (0, 0))] [] [(bk qa0, off qa0, RI.enc s0), (db1, 0, [slv qa2 na2 ca2, .int .i64 f1_c0_c0.wind.lo, .int .i64 f1_c0_c0.wind.hi, slv qa3 na3 ca3, slv qa4 na4 ca4, .int .i64 ((gatesOf f1_c0_c0).getD 0 0), .int .i64 ((gatesOf f1_c0_c0).getD 1 0), .int .i64 ((gatesOf f1_c0_c0).getD 2 0), .int .i64 ((gatesOf f1_c0_c0).getD 3 0), .int .i64 ((gatesOf f1_c0_c0).getD 4 0), .int .i64 ((gatesOf f1_c0_c0).getD 5 0), .int .i64 ((gatesOf f1_c0_c0).getD 6 0), .int .i64 ((gatesOf f1_c0_c0).getD 7 0)]), (bk qa2, off qa2, RW.enc f1_c0_c0.table), (bk qa3, off qa3, RI.enc f1_c0_c0.floors), (bk qa4, off qa4, RS.enc f1_c0_c0.sills)]) hw ?_
  refine g_seq ?_
  refine g_region ?_
  refine g_val rfl rfl rfl (fun _ _ => v_assign rfl) ?_
  refine g_nil ?_
  refine g_n_then ?_
  refine g_seq ?_
  refine g_region ?_
  refine g_val rfl rfl rfl (fun _ _ => v_move rfl) ?_
  refine g_val rfl rfl rfl (fun _ _ => v_move rfl) ?_
  obtain ⟨t7, h1, hm⟩ := bindO hm
  refine g_callH [_, _, _] [] rfl rfl rfl rfl rfl rfl rfl (fun a w => Try.call143 a w) (fun w hh => c_slices_IndexFunc_intint_3 s0 f1_c0_c0 f1_c0_c1 qa0 na0 ca0 pb pb_1 db1 qa2 na2 ca2 qa3 na3 ca3 qa4 na4 ca4 pb_2 w (HV.callee (S0 := [_, _, _]) (vs0 := []) hh (roC (hh.rsep (S0 := [_, _, _]) (vs0 := []) 0 rfl) (roC (hh.rsep (S0 := [_, _, _]) (vs0 := []) 1 rfl) (roC (hh.rsep (S0 := [_, _, _]) (vs0 := []) 2 rfl) (roC (hh.rsep (S0 := [_, _, _]) (vs0 := []) 3 rfl) (roC (hh.rsep (S0 := [_, _, _]) (vs0 := []) 4 rfl) roN)))))) hna0 hqa0 hla0 hna2 hqa2 hla2 hna3 hqa3 hla3 hna4 hqa4 hla4 h1) (fun l h2 => ?_)
  refine g_sel (S' := [_, _, _]) (vs' := []) [0, 1, 2] [] 0 (by decide) (by decide) rfl rfl rfl ?_
  refine g_val rfl rfl rfl (fun _ _ => v_geq rfl rfl) ?_
  refine g_val rfl rfl rfl (fun _ _ => v_assign rfl) ?_
  refine g_nil ?_
  refine g_n_then ?_
  refine g_ret ?_
  obtain rfl := Option.some.inj hm
  refine g_done rfl (fun w hh => (.tmp rfl .nil)) (fun w hh => ⟨(), rfl, trivial, hh.sel [0, 1, 2] [] 5 (by decide) (by decide) rfl rfl rfl⟩)
def m_tide_every_int_4 (l0 : (List Int)) (holds1_c0 : Sands) (holds1_c1 : Int) : Option Bool :=
 (m_slices_ContainsFunc_intint_3 l0 holds1_c0 holds1_c1).bind fun t7 =>
 some (!t7)
set_option maxRecDepth 100000 in
set_option maxHeartbeats 4000000 in
theorem c_tide_every_int_4 (l0 : (List Int)) (holds1_c0 : Sands) (holds1_c1 : Int) (qa0 : Option (Nat × Nat)) (na0 ca0 : Nat) (pb : Nat) (db1 : Nat) (qa2 : Option (Nat × Nat)) (na2 ca2 : Nat) (qa3 : Option (Nat × Nat)) (na3 ca3 : Nat) (qa4 : Option (Nat × Nat)) (na4 ca4 : Nat) (pb_1 : Nat) (w : World) (hw : HV w (keys [(pb, .cells #[ptr db1 0] 139 (0, 0)), (pb_1, .cells #[.int .i64 holds1_c1] 3 (0, 0))] []) [(pb, .cells #[ptr db1 0] 139 (0, 0)), (pb_1, .cells #[.int .i64 holds1_c1] 3 (0, 0))] [] [(bk qa0, off qa0, RI.enc l0), (db1, 0, [slv qa2 na2 ca2, .int .i64 holds1_c0.wind.lo, .int .i64 holds1_c0.wind.hi, slv qa3 na3 ca3, slv qa4 na4 ca4, .int .i64 ((gatesOf holds1_c0).getD 0 0), .int .i64 ((gatesOf holds1_c0).getD 1 0), .int .i64 ((gatesOf holds1_c0).getD 2 0), .int .i64 ((gatesOf holds1_c0).getD 3 0), .int .i64 ((gatesOf holds1_c0).getD 4 0), .int .i64 ((gatesOf holds1_c0).getD 5 0), .int .i64 ((gatesOf holds1_c0).getD 6 0), .int .i64 ((gatesOf holds1_c0).getD 7 0)]), (bk qa2, off qa2, RW.enc holds1_c0.table), (bk qa3, off qa3, RI.enc holds1_c0.floors), (bk qa4, off qa4, RS.enc holds1_c0.sills)] w) (hna0 : l0.length = na0) (hqa0 : 0 < na0 → qa0 ≠ none) (hla0 : na0 ≤ ca0)  (hna2 : holds1_c0.table.length = na2) (hqa2 : 0 < na2 → qa2 ≠ none) (hla2 : na2 ≤ ca2) (hna3 : holds1_c0.floors.length = na3) (hqa3 : 0 < na3 → qa3 ≠ none) (hla3 : na3 ≤ ca3) (hna4 : holds1_c0.sills.length = na4) (hqa4 : 0 < na4 → qa4 ≠ none) (hla4 : na4 ≤ ca4) {res : Bool} (hm : m_tide_every_int_4 l0 holds1_c0 holds1_c1 = some res) :
    Calls Try.prog 94 #[slv qa0 na0 ca0, .func (.func 140) #[] #[ptr pb 0, ptr pb_1 0]] w (fun en w' => ∃ l : Unit, en = .returned (.bool res) ∧ (True) ∧ HV w (keys [(pb, .cells #[ptr db1 0] 139 (0, 0)), (pb_1, .cells #[.int .i64 holds1_c1] 3 (0, 0))] []) [(pb, .cells #[ptr db1 0] 139 (0, 0)), (pb_1, .cells #[.int .i64 holds1_c1] 3 (0, 0))] [] [] w') := by
  unfold m_tide_every_int_4 at hm
  refine g_enter (args := [slv qa0 na0 ca0, .func (.func 140) #[] #[ptr pb 0, ptr pb_1 0]]) Try.func94 rfl Try.ntmps94 rfl (e := [(0, _), (1, _)]) rfl (H := HV w (keys [(pb, .cells #[ptr db1 0] 139 (0, 0)), (pb_1, .cells #[.int .i64 holds1_c1] 3 (0, 0))] []) [(pb, .cells #[ptr db1 0] 139 (0, 0)), (pb_1, .cells #[.int .i64 holds1_c1] 3 (0, 0))] [] [(bk qa0, off qa0, RI.enc l0), (db1, 0, [slv qa2 na2 ca2, .int .i64 holds1_c0.wind.lo, .int .i64 holds1_c0.wind.hi, slv qa3 na3 ca3, slv qa4 na4 ca4, .int .i64 ((gatesOf holds1_c0).getD 0 0), .int .i64 ((gatesOf holds1_c0).getD 1 0), .int .i64 ((gatesOf holds1_c0).getD 2 0), .int .i64 ((gatesOf holds1_c0).getD 3 0), .int .i64 ((gatesOf holds1_c0).getD 4 0), .int .i64 ((gatesOf holds1_c0).getD 5 0), .int .i64 ((gatesOf holds1_c0).getD 6 0), .int .i64 ((gatesOf holds1_c0).getD 7 0)]), (bk qa2, off qa2, RW.enc holds1_c0.table), (bk qa3, off qa3, RI.enc holds1_c0.floors), (bk qa4, off qa4, RS.enc holds1_c0.sills)]) hw ?_
  refine g_seq ?_
  refine g_region ?_
  refine g_boxV rfl rfl (fun b h1 => ?_)
  refine g_val rfl rfl rfl (fun _ _ => v_assign rfl) ?_
  refine g_nil ?_
  refine g_n_then ?_
  refine g_seq ?_
  refine g_region ?_
  refine g_val rfl rfl rfl (fun _ _ => v_move rfl) ?_
  refine g_val rfl rfl rfl (fun _ _ => v_makeFunc (u := #[]) (u' := #[_]) rfl rfl) ?_
  obtain ⟨t7, h2, hm⟩ := bindO hm
  refine g_callH [_, _, _] [] rfl rfl rfl rfl rfl rfl rfl (fun a w => Try.call78 a w) (fun w hh => c_slices_ContainsFunc_intint_3 l0 holds1_c0 holds1_c1 qa0 na0 ca0 b pb db1 qa2 na2 ca2 qa3 na3 ca3 qa4 na4 ca4 pb_1 w (HV.callee (S0 := [_, _, _]) (vs0 := []) hh (roC (hh.rsep (S0 := [_, _, _]) (vs0 := []) 0 rfl) (roC (hh.rsep (S0 := [_, _, _]) (vs0 := []) 1 rfl) (roC (hh.rsep (S0 := [_, _, _]) (vs0 := []) 2 rfl) (roC (hh.rsep (S0 := [_, _, _]) (vs0 := []) 3 rfl) (roC (hh.rsep (S0 := [_, _, _]) (vs0 := []) 4 rfl) roN)))))) hna0 hqa0 hla0 hna2 hqa2 hla2 hna3 hqa3 hla3 hna4 hqa4 hla4 h2) (fun l h3 => ?_)
  refine g_sel (S' := [_, _, _]) (vs' := []) [0, 1, 2] [] 0 (by decide) (by decide) rfl rfl rfl ?_
  refine g_val rfl rfl rfl (fun _ _ => v_not rfl) ?_
  refine g_val rfl rfl rfl (fun _ _ => v_assign rfl) ?_
  refine g_nil ?_
  refine g_n_then ?_
  refine g_ret ?_
  obtain rfl := Option.some.inj hm
  refine g_done rfl (fun w hh => (.tmp rfl .nil)) (fun w hh => ⟨(), rfl, trivial, hh.sel [1, 2] [] 5 (by decide) (by decide) rfl rfl rfl⟩)
def m_tide_Longest_1_2 (minute0 : Int) (a11 : (List Int)) (a22 : Sands) : Option Bool :=
 (m_tide_every_int_4 a11 a22 minute0).bind fun t7 =>
 some t7
set_option maxRecDepth 100000 in
set_option maxHeartbeats 4000000 in
theorem c_tide_Longest_1_2 (minute0 : Int) (a11 : (List Int)) (a22 : Sands) (pb : Nat) (qa0 : Option (Nat × Nat)) (na0 ca0 : Nat) (pb_1 : Nat) (db1 : Nat) (qa2 : Option (Nat × Nat)) (na2 ca2 : Nat) (qa3 : Option (Nat × Nat)) (na3 ca3 : Nat) (qa4 : Option (Nat × Nat)) (na4 ca4 : Nat) (w : World) (hw : HV w (keys [(pb, .cells #[slv qa0 na0 ca0] 26 (0, 0)), (pb_1, .cells #[ptr db1 0] 139 (0, 0))] []) [(pb, .cells #[slv qa0 na0 ca0] 26 (0, 0)), (pb_1, .cells #[ptr db1 0] 139 (0, 0))] [] [(bk qa0, off qa0, RI.enc a11), (db1, 0, [slv qa2 na2 ca2, .int .i64 a22.wind.lo, .int .i64 a22.wind.hi, slv qa3 na3 ca3, slv qa4 na4 ca4, .int .i64 ((gatesOf a22).getD 0 0), .int .i64 ((gatesOf a22).getD 1 0), .int .i64 ((gatesOf a22).getD 2 0), .int .i64 ((gatesOf a22).getD 3 0), .int .i64 ((gatesOf a22).getD 4 0), .int .i64 ((gatesOf a22).getD 5 0), .int .i64 ((gatesOf a22).getD 6 0), .int .i64 ((gatesOf a22).getD 7 0)]), (bk qa2, off qa2, RW.enc a22.table), (bk qa3, off qa3, RI.enc a22.floors), (bk qa4, off qa4, RS.enc a22.sills)] w) (hna0 : a11.length = na0) (hqa0 : 0 < na0 → qa0 ≠ none) (hla0 : na0 ≤ ca0)  (hna2 : a22.table.length = na2) (hqa2 : 0 < na2 → qa2 ≠ none) (hla2 : na2 ≤ ca2) (hna3 : a22.floors.length = na3) (hqa3 : 0 < na3 → qa3 ≠ none) (hla3 : na3 ≤ ca3) (hna4 : a22.sills.length = na4) (hqa4 : 0 < na4 → qa4 ≠ none) (hla4 : na4 ≤ ca4) {res : Bool} (hm : m_tide_Longest_1_2 minute0 a11 a22 = some res) :
    Calls Try.prog 139 #[.int .i64 minute0, ptr pb 0, ptr pb_1 0] w (fun en w' => ∃ l : Unit, en = .returned (.bool res) ∧ (True) ∧ HV w (keys [(pb, .cells #[slv qa0 na0 ca0] 26 (0, 0)), (pb_1, .cells #[ptr db1 0] 139 (0, 0))] []) [(pb, .cells #[slv qa0 na0 ca0] 26 (0, 0)), (pb_1, .cells #[ptr db1 0] 139 (0, 0))] [] [] w') := by
  unfold m_tide_Longest_1_2 at hm
  refine g_enter (args := [.int .i64 minute0, ptr pb 0, ptr pb_1 0]) Try.func139 rfl Try.ntmps139 rfl (e := [(0, _), (1, _), (2, _)]) rfl (H := HV w (keys [(pb, .cells #[slv qa0 na0 ca0] 26 (0, 0)), (pb_1, .cells #[ptr db1 0] 139 (0, 0))] []) [(pb, .cells #[slv qa0 na0 ca0] 26 (0, 0)), (pb_1, .cells #[ptr db1 0] 139 (0, 0))] [] [(bk qa0, off qa0, RI.enc a11), (db1, 0, [slv qa2 na2 ca2, .int .i64 a22.wind.lo, .int .i64 a22.wind.hi, slv qa3 na3 ca3, slv qa4 na4 ca4, .int .i64 ((gatesOf a22).getD 0 0), .int .i64 ((gatesOf a22).getD 1 0), .int .i64 ((gatesOf a22).getD 2 0), .int .i64 ((gatesOf a22).getD 3 0), .int .i64 ((gatesOf a22).getD 4 0), .int .i64 ((gatesOf a22).getD 5 0), .int .i64 ((gatesOf a22).getD 6 0), .int .i64 ((gatesOf a22).getD 7 0)]), (bk qa2, off qa2, RW.enc a22.table), (bk qa3, off qa3, RI.enc a22.floors), (bk qa4, off qa4, RS.enc a22.sills)]) hw ?_
  refine g_seq ?_
  refine g_region ?_
  refine g_boxV rfl rfl (fun b h1 => ?_)
  refine g_val rfl rfl rfl (fun _ _ => v_assign rfl) ?_
  refine g_nil ?_
  refine g_n_then ?_
  refine g_seq ?_
  refine g_region ?_
  refine g_val rfl rfl rfl (fun w hh => v_load (Try.isAgg26 w) rfl (hh.cell 1 rfl rfl)) ?_
  refine g_val rfl rfl rfl (fun _ _ => v_makeFunc (u := #[]) (u' := #[_, _]) rfl rfl) ?_
  obtain ⟨t7, h2, hm⟩ := bindO hm
  refine g_sel (S' := [_, _, _]) (vs' := []) [2, 0, 1] [] 0 (by decide) (by decide) rfl rfl rfl ?_
  refine g_callH [_, _] [] rfl rfl rfl rfl rfl rfl rfl (fun a w => Try.call94 a w) (fun w hh => c_tide_every_int_4 a11 a22 minute0 qa0 na0 ca0 pb_1 db1 qa2 na2 ca2 qa3 na3 ca3 qa4 na4 ca4 b w (HV.callee (S0 := [_, _]) (vs0 := []) hh (roC (hh.rsep (S0 := [_, _]) (vs0 := []) 0 rfl) (roC (hh.rsep (S0 := [_, _]) (vs0 := []) 1 rfl) (roC (hh.rsep (S0 := [_, _]) (vs0 := []) 2 rfl) (roC (hh.rsep (S0 := [_, _]) (vs0 := []) 3 rfl) (roC (hh.rsep (S0 := [_, _]) (vs0 := []) 4 rfl) roN)))))) hna0 hqa0 hla0 hna2 hqa2 hla2 hna3 hqa3 hla3 hna4 hqa4 hla4 h2) (fun l h3 => ?_)
  refine g_sel (S' := [_, _, _]) (vs' := []) [0, 1, 2] [] 0 (by decide) (by decide) rfl rfl rfl ?_
  refine g_val rfl rfl rfl (fun _ _ => v_assign rfl) ?_
  refine g_nil ?_
  refine g_n_then ?_
  refine g_ret ?_
  obtain rfl := Option.some.inj hm
  refine g_done rfl (fun w hh => (.tmp rfl .nil)) (fun w hh => ⟨(), rfl, trivial, hh.sel [2, 0] [] 5 (by decide) (by decide) rfl rfl rfl⟩)
structure m_tide_desk_spans_1_3_R where
  a11 : Bool
  a22 : (List Span)
def m_tide_desk_spans_1_3 (minute0 : Int) (a11 : Bool) (a22 : (List Span)) (a33 : Int) : Option m_tide_desk_spans_1_3_R :=
 (if a11 = true then
 ((subc minute0 1).bind fun t9 =>
 (appc 16 a22 [(⟨a33, t9⟩ : Span)]).bind fun t12 =>
 some t12) else
 (some a22)).bind fun o =>
 some (⟨false, o⟩ : m_tide_desk_spans_1_3_R)
set_option maxRecDepth 100000 in
set_option maxHeartbeats 4000000 in
theorem c_tide_desk_spans_1_3 (minute0 : Int) (a11 : Bool) (a22 : (List Span)) (a33 : Int) (pb : Nat) (pb_1 : Nat) (V_a22 : VL) (pb_2 : Nat) (w : World) (hw : HV w (keys [(pb, .cells #[.bool a11] 4 (0, 0)), (pb_1, .cells #[slv V_a22.q V_a22.n V_a22.cap] 77 (0, 0)), (pb_2, .cells #[.int .i64 a33] 3 (0, 0))] [⟨25, RP.enc a22, V_a22.sp, V_a22.q, []⟩]) [(pb, .cells #[.bool a11] 4 (0, 0)), (pb_1, .cells #[slv V_a22.q V_a22.n V_a22.cap] 77 (0, 0)), (pb_2, .cells #[.int .i64 a33] 3 (0, 0))] [⟨25, RP.enc a22, V_a22.sp, V_a22.q, []⟩] [] w) (hv_a22 : VOK 2 V_a22.n V_a22.cap (RP.enc a22) V_a22.sp V_a22.q) {res : m_tide_desk_spans_1_3_R} (hm : m_tide_desk_spans_1_3 minute0 a11 a22 a33 = some res) :
    Calls Try.prog 159 #[.int .i64 minute0, ptr pb 0, ptr pb_1 0, ptr pb_2 0] w (fun en w' => ∃ l : VL, en = .returned (.tuple #[]) ∧ (VOK 2 l.n l.cap (RP.enc res.a22) l.sp l.q) ∧ HV w (keys [(pb, .cells #[.bool a11] 4 (0, 0)), (pb_1, .cells #[slv V_a22.q V_a22.n V_a22.cap] 77 (0, 0)), (pb_2, .cells #[.int .i64 a33] 3 (0, 0))] [⟨25, RP.enc a22, V_a22.sp, V_a22.q, []⟩]) [(pb, .cells #[.bool res.a11] 4 (0, 0)), (pb_1, .cells #[slv l.q l.n l.cap] 77 (0, 0)), (pb_2, .cells #[.int .i64 a33] 3 (0, 0))] [⟨25, RP.enc res.a22, l.sp, l.q, []⟩] [] w') := by
  unfold m_tide_desk_spans_1_3 at hm
  refine g_enter (args := [.int .i64 minute0, ptr pb 0, ptr pb_1 0, ptr pb_2 0]) Try.func159 rfl Try.ntmps159 rfl (e := [(0, _), (1, _), (2, _), (3, _)]) rfl (H := HV w (keys [(pb, .cells #[.bool a11] 4 (0, 0)), (pb_1, .cells #[slv V_a22.q V_a22.n V_a22.cap] 77 (0, 0)), (pb_2, .cells #[.int .i64 a33] 3 (0, 0))] [⟨25, RP.enc a22, V_a22.sp, V_a22.q, []⟩]) [(pb, .cells #[.bool a11] 4 (0, 0)), (pb_1, .cells #[slv V_a22.q V_a22.n V_a22.cap] 77 (0, 0)), (pb_2, .cells #[.int .i64 a33] 3 (0, 0))] [⟨25, RP.enc a22, V_a22.sp, V_a22.q, []⟩] []) hw ?_
  refine g_seq ?_
  obtain ⟨o, h2, h3⟩ := bindO hm
  refine g_cut (ι := VL) (fun l => VOK 2 l.n l.cap (RP.enc o) l.sp l.q) (fun l => [(1, ptr pb 0)]) (fun l => [(pb, .cells #[.bool a11] 4 (0, 0)), (pb_1, .cells #[slv l.q l.n l.cap] 77 (0, 0)), (pb_2, .cells #[.int .i64 a33] 3 (0, 0))]) (fun l => [⟨25, RP.enc o, l.sp, l.q, []⟩]) ?_ ?_
  ·replace hm := h2
   refine g_seq ?_
   refine g_region ?_
   refine g_val rfl rfl rfl (fun w hh => v_load (Try.isAgg4 w) rfl (hh.cell 0 rfl rfl)) ?_
   refine g_nil ?_
   refine g_n_then ?_
   refine g_cond rfl (fun h5 => ?_) (fun h5 => ?_)
   ·replace hm := ifT (h5) hm
    refine g_region ?_
    refine g_val rfl rfl rfl (fun w hh => v_load (Try.isAgg77 w) rfl (hh.cell 1 rfl rfl)) ?_
    refine g_val rfl rfl rfl (fun w hh => v_load (Try.isAgg3 w) rfl (hh.cell 2 rfl rfl)) ?_
    refine g_val rfl rfl rfl (fun _ _ => v_move rfl) ?_
    obtain ⟨t9, h6, hm⟩ := bindO hm
    refine g_val rfl rfl rfl (fun _ _ => v_subc h6 rfl rfl) ?_
    refine g_val rfl rfl rfl (fun _ _ => v_build (vs := [(0, _), (1, _)]) (cells := [_, _]) rfl rfl) ?_
    refine g_vlit RP [(⟨a33, t9⟩ : Span)] (ps := [(0, _)]) (cells := [_, _]) (fun w => Try.runUnderlying77 w) (fun w => Try.sizeOf25 w) (fun w => Try.zeroValue25 w) rfl rfl rfl rfl rfl rfl rfl rfl (fun L h7 => ?_)
    obtain ⟨t12, h8, hm⟩ := bindO hm
    refine g_vapp RP 1 h8 Try.underlying77 gxinf25 rfl rfl rfl rfl rfl hv_a22 rfl rfl (vlen RP h7 rfl) (AOK.q (vne h7)) (fun w hh => (hh.vsegA 0 rfl h7)) rfl (fun L_1 h9 h9n => ?_)
    refine g_sel (S' := [_, _, _]) (vs' := [_, _]) [0, 1, 2] [0, 1] 0 (by decide) (by decide) rfl rfl rfl ?_
    refine g_stS (cs' := #[_]) (S' := [_, _, _]) 1 (fun w => Try.sizeOf77 w) rfl rfl rfl rfl rfl rfl rfl ?_
    refine g_nil ?_
    obtain rfl := Option.some.inj hm
    exact g_leaf L_1 (h9) ((.cons rfl .nil)) (fun w hh => hh.sel [0, 1, 2] [1] 0 (by decide) (by decide) rfl rfl rfl)
   ·replace hm := ifF ((fun hh => Bool.noConfusion ((h5).symm.trans hh))) hm
    refine g_skip ?_
    obtain rfl := Option.some.inj hm
    exact g_leaf V_a22 (hv_a22) ((.cons rfl .nil)) (fun w hh => hh)
  ·intro l hj
   have h4 := hj
   replace hm := h3
   refine g_n_then ?_
   refine g_region ?_
   refine g_stS (cs' := #[_]) (S' := [_, _, _]) 0 (fun w => Try.sizeOf4 w) rfl rfl rfl rfl rfl rfl rfl ?_
   refine g_nil ?_
   obtain rfl := Option.some.inj hm
   refine g_doneN rfl (fun w hh => .nil) (fun w hh => ⟨l, rfl, h4, hh⟩)
structure m_tide_desk_spans_1_C0 where
  open9 : Bool
  from8 : Int
  out5 : (List Span)
structure m_tide_desk_spans_1_S0 where
  t41 : Int
  open9 : Bool
  from8 : Int
  out5 : (List Span)
structure m_tide_desk_spans_1_C1 where
  open9 : Bool
  from8 : Int
  out5 : (List Span)
def m_tide_desk_spans_1_L0 (t40 : Int) (t18 : Water) (w1_0_c0 : (List Int)) (w1_0_c1 : Sands) (s : m_tide_desk_spans_1_S0) : Option (m_tide_desk_spans_1_S0 ⊕ m_tide_desk_spans_1_C0) :=
 if s.t41 < t40 then
 (((addc t18.min s.t41).bind fun t48 =>
 (m_tide_Longest_1_2 t48 w1_0_c0 w1_0_c1).bind fun t49 =>
 if (!t49) = true then
 ((addc t18.min s.t41).bind fun t56 =>
 (m_tide_desk_spans_1_3 t56 s.open9 s.out5 s.from8).bind fun t57 =>
 some (⟨t57.a11, s.from8, t57.a22⟩ : m_tide_desk_spans_1_C1)) else
 (if (!s.open9) = true then
 ((addc t18.min s.t41).bind fun t63 =>
 some (⟨true, t63, s.out5⟩ : m_tide_desk_spans_1_C1)) else
 (some (⟨s.open9, s.from8, s.out5⟩ : m_tide_desk_spans_1_C1)))).bind fun o_1 =>
 (addc s.t41 1).bind fun t64 =>
 some (.inl (⟨t64, o_1.open9, o_1.from8, o_1.out5⟩ : m_tide_desk_spans_1_S0))) else
 (some (.inr (⟨s.open9, s.from8, s.out5⟩ : m_tide_desk_spans_1_C0)))
def m_tide_desk_spans_1 (d0 : Sands) (w1_0_c0 : (List Int)) (w1_0_c1 : Sands) : Option (List Span) :=
 (ix d0.table 0).bind fun t18 =>
 (subc (d0.table.length : Int) 1).bind fun t32 =>
 (ix d0.table t32).bind fun t33 =>
 (subc t33.min t18.min).bind fun t39 =>
 (addc t39 1).bind fun t40 =>
 (iterM FU (m_tide_desk_spans_1_L0 t40 t18 w1_0_c0 w1_0_c1) (⟨0, false, 0, []⟩ : m_tide_desk_spans_1_S0)).bind fun o =>
 (addc t33.min 1).bind fun t67 =>
 (m_tide_desk_spans_1_3 t67 o.open9 o.out5 o.from8).bind fun t68 =>
 some t68.a22
set_option maxRecDepth 100000 in
set_option maxHeartbeats 4000000 in
theorem c_tide_desk_spans_1 (d0 : Sands) (w1_0_c0 : (List Int)) (w1_0_c1 : Sands) (db0 : Nat) (qa1 : Option (Nat × Nat)) (na1 ca1 : Nat) (qa2 : Option (Nat × Nat)) (na2 ca2 : Nat) (qa3 : Option (Nat × Nat)) (na3 ca3 : Nat) (pb : Nat) (qa4 : Option (Nat × Nat)) (na4 ca4 : Nat) (pb_1 : Nat) (db5 : Nat) (qa6 : Option (Nat × Nat)) (na6 ca6 : Nat) (qa7 : Option (Nat × Nat)) (na7 ca7 : Nat) (qa8 : Option (Nat × Nat)) (na8 ca8 : Nat) (w : World) (hw : HV w (keys [(pb, .cells #[slv qa4 na4 ca4] 26 (0, 0)), (pb_1, .cells #[ptr db5 0] 139 (0, 0))] []) [(pb, .cells #[slv qa4 na4 ca4] 26 (0, 0)), (pb_1, .cells #[ptr db5 0] 139 (0, 0))] [] [(db0, 0, [slv qa1 na1 ca1, .int .i64 d0.wind.lo, .int .i64 d0.wind.hi, slv qa2 na2 ca2, slv qa3 na3 ca3, .int .i64 ((gatesOf d0).getD 0 0), .int .i64 ((gatesOf d0).getD 1 0), .int .i64 ((gatesOf d0).getD 2 0), .int .i64 ((gatesOf d0).getD 3 0), .int .i64 ((gatesOf d0).getD 4 0), .int .i64 ((gatesOf d0).getD 5 0), .int .i64 ((gatesOf d0).getD 6 0), .int .i64 ((gatesOf d0).getD 7 0)]), (bk qa1, off qa1, RW.enc d0.table), (bk qa2, off qa2, RI.enc d0.floors), (bk qa3, off qa3, RS.enc d0.sills), (bk qa4, off qa4, RI.enc w1_0_c0), (db5, 0, [slv qa6 na6 ca6, .int .i64 w1_0_c1.wind.lo, .int .i64 w1_0_c1.wind.hi, slv qa7 na7 ca7, slv qa8 na8 ca8, .int .i64 ((gatesOf w1_0_c1).getD 0 0), .int .i64 ((gatesOf w1_0_c1).getD 1 0), .int .i64 ((gatesOf w1_0_c1).getD 2 0), .int .i64 ((gatesOf w1_0_c1).getD 3 0), .int .i64 ((gatesOf w1_0_c1).getD 4 0), .int .i64 ((gatesOf w1_0_c1).getD 5 0), .int .i64 ((gatesOf w1_0_c1).getD 6 0), .int .i64 ((gatesOf w1_0_c1).getD 7 0)]), (bk qa6, off qa6, RW.enc w1_0_c1.table), (bk qa7, off qa7, RI.enc w1_0_c1.floors), (bk qa8, off qa8, RS.enc w1_0_c1.sills)] w)  (hna1 : d0.table.length = na1) (hqa1 : 0 < na1 → qa1 ≠ none) (hla1 : na1 ≤ ca1) (hna2 : d0.floors.length = na2) (hqa2 : 0 < na2 → qa2 ≠ none) (hla2 : na2 ≤ ca2) (hna3 : d0.sills.length = na3) (hqa3 : 0 < na3 → qa3 ≠ none) (hla3 : na3 ≤ ca3) (hna4 : w1_0_c0.length = na4) (hqa4 : 0 < na4 → qa4 ≠ none) (hla4 : na4 ≤ ca4)  (hna6 : w1_0_c1.table.length = na6) (hqa6 : 0 < na6 → qa6 ≠ none) (hla6 : na6 ≤ ca6) (hna7 : w1_0_c1.floors.length = na7) (hqa7 : 0 < na7 → qa7 ≠ none) (hla7 : na7 ≤ ca7) (hna8 : w1_0_c1.sills.length = na8) (hqa8 : 0 < na8 → qa8 ≠ none) (hla8 : na8 ≤ ca8) {res : (List Span)} (hm : m_tide_desk_spans_1 d0 w1_0_c0 w1_0_c1 = some res) :
    Calls Try.prog 118 #[ptr db0 0, .agg #[.func (.func 139) #[] #[ptr pb 0, ptr pb_1 0]]] w (fun en w' => ∃ l : VL, en = .returned (slv l.q l.n l.cap) ∧ (VOK 2 l.n l.cap (RP.enc res) l.sp l.q) ∧ HV w (keys [(pb, .cells #[slv qa4 na4 ca4] 26 (0, 0)), (pb_1, .cells #[ptr db5 0] 139 (0, 0))] []) [(pb, .cells #[slv qa4 na4 ca4] 26 (0, 0)), (pb_1, .cells #[ptr db5 0] 139 (0, 0))] [⟨25, RP.enc res, l.sp, l.q, []⟩] [] w') := by
  unfold m_tide_desk_spans_1 at hm
  refine g_enter (args := [ptr db0 0, .agg #[.func (.func 139) #[] #[ptr pb 0, ptr pb_1 0]]]) Try.func118 rfl Try.ntmps118 rfl (e := [(0, _), (1, _)]) rfl (H := HV w (keys [(pb, .cells #[slv qa4 na4 ca4] 26 (0, 0)), (pb_1, .cells #[ptr db5 0] 139 (0, 0))] []) [(pb, .cells #[slv qa4 na4 ca4] 26 (0, 0)), (pb_1, .cells #[ptr db5 0] 139 (0, 0))] [] [(db0, 0, [slv qa1 na1 ca1, .int .i64 d0.wind.lo, .int .i64 d0.wind.hi, slv qa2 na2 ca2, slv qa3 na3 ca3, .int .i64 ((gatesOf d0).getD 0 0), .int .i64 ((gatesOf d0).getD 1 0), .int .i64 ((gatesOf d0).getD 2 0), .int .i64 ((gatesOf d0).getD 3 0), .int .i64 ((gatesOf d0).getD 4 0), .int .i64 ((gatesOf d0).getD 5 0), .int .i64 ((gatesOf d0).getD 6 0), .int .i64 ((gatesOf d0).getD 7 0)]), (bk qa1, off qa1, RW.enc d0.table), (bk qa2, off qa2, RI.enc d0.floors), (bk qa3, off qa3, RS.enc d0.sills), (bk qa4, off qa4, RI.enc w1_0_c0), (db5, 0, [slv qa6 na6 ca6, .int .i64 w1_0_c1.wind.lo, .int .i64 w1_0_c1.wind.hi, slv qa7 na7 ca7, slv qa8 na8 ca8, .int .i64 ((gatesOf w1_0_c1).getD 0 0), .int .i64 ((gatesOf w1_0_c1).getD 1 0), .int .i64 ((gatesOf w1_0_c1).getD 2 0), .int .i64 ((gatesOf w1_0_c1).getD 3 0), .int .i64 ((gatesOf w1_0_c1).getD 4 0), .int .i64 ((gatesOf w1_0_c1).getD 5 0), .int .i64 ((gatesOf w1_0_c1).getD 6 0), .int .i64 ((gatesOf w1_0_c1).getD 7 0)]), (bk qa6, off qa6, RW.enc w1_0_c1.table), (bk qa7, off qa7, RI.enc w1_0_c1.floors), (bk qa8, off qa8, RS.enc w1_0_c1.sills)]) hw ?_
  refine g_seq ?_
  refine g_region ?_
  refine g_boxV rfl rfl (fun b h2 => ?_)
  refine g_val rfl rfl rfl (fun _ _ => v_nilS rfl) ?_
  refine g_nil ?_
  refine g_n_then ?_
  refine g_seq ?_
  refine g_region ?_
  refine g_allocV (fun w => Try.zeroValue77 w) rfl (fun b_1 h3 => ?_)
  refine g_nil ?_
  refine g_n_then ?_
  refine g_seq ?_
  refine g_draw none (.free 0 (.free 1 (.free 2 (.free 3 (.hoist 4 (.free 5 (.free 6 (.hoist 7 (.free 8 (.free 9 (.free 10 (.free 11 (.hoist 12 (.free 13 (.free 14 (.free 15 (.free 16 (.hoist 17 (.free 18 (.free 19 (.free 20 (.free 21 (.hoist 22 (.free 23 (.free 24 .done))))))))))))))))))))))))) _ rfl (by decide +kernel) (fun w k hh => hh.draw k) (fun w hh => hh) ?_
  refine p_free rfl rfl rfl rfl (fun _ _ => v_move rfl) ?_
  refine p_free rfl rfl rfl rfl (fun _ _ => v_nilCheck rfl) ?_
  refine p_free rfl rfl rfl rfl (fun w _ => v_fieldAddr 0 (Try.runUnderlying157 w) rfl (Try.sizeOf29 w) rfl) ?_
  refine p_free rfl rfl rfl rfl (fun w _ => v_fieldAddr 0 (Try.runUnderlying29 w) rfl (Try.sizeOf23 w) rfl) ?_
  refine p_hoist rfl rfl rfl rfl (fun w hh => v_load (Try.isAgg23 w) rfl (segCell (hh.seg 0 rfl) 0 rfl)) ?_
  obtain ⟨t18, h4, hm⟩ := bindO hm
  refine p_free rfl rfl rfl rfl (fun w _ => v_ixA h4 (Try.runUnderlying23 w) (Try.sizeOf68 w) rfl rfl hna1 hqa1) ?_
  refine p_free rfl rfl rfl rfl (fun w _ => v_fieldAddr 0 (Try.runUnderlying68 w) rfl (Try.sizeOf3 w) rfl) ?_
  refine p_hoist rfl rfl rfl rfl (fun w hh => v_ldE RW 0 h4 (Try.isAgg3 w) rfl (hh.seg 1 rfl) rfl rfl) ?_
  refine p_free rfl rfl rfl rfl (fun _ _ => v_move rfl) ?_
  refine p_free rfl rfl rfl rfl (fun _ _ => v_nilCheck rfl) ?_
  refine p_free rfl rfl rfl rfl (fun w _ => v_fieldAddr 0 (Try.runUnderlying157 w) rfl (Try.sizeOf29 w) rfl) ?_
  refine p_free rfl rfl rfl rfl (fun w _ => v_fieldAddr 0 (Try.runUnderlying29 w) rfl (Try.sizeOf23 w) rfl) ?_
  refine p_hoist rfl rfl rfl rfl (fun w hh => v_load (Try.isAgg23 w) rfl (segCell (hh.seg 0 rfl) 0 rfl)) ?_
  refine p_free rfl rfl rfl rfl (fun _ _ => v_move rfl) ?_
  refine p_free rfl rfl rfl rfl (fun _ _ => v_nilCheck rfl) ?_
  refine p_free rfl rfl rfl rfl (fun w _ => v_fieldAddr 0 (Try.runUnderlying157 w) rfl (Try.sizeOf29 w) rfl) ?_
  refine p_free rfl rfl rfl rfl (fun w _ => v_fieldAddr 0 (Try.runUnderlying29 w) rfl (Try.sizeOf23 w) rfl) ?_
  refine p_hoist rfl rfl rfl rfl (fun w hh => v_load (Try.isAgg23 w) rfl (segCell (hh.seg 0 rfl) 0 rfl)) ?_
  refine p_free rfl rfl rfl rfl (fun w _ => v_lenN hna1 (Try.runUnderlying23 w) rfl) ?_
  obtain ⟨t32, h5, hm⟩ := bindO hm
  refine p_free rfl rfl rfl rfl (fun _ _ => v_subc h5 rfl rfl) ?_
  obtain ⟨t33, h6, hm⟩ := bindO hm
  refine p_free rfl rfl rfl rfl (fun w _ => v_ixA h6 (Try.runUnderlying23 w) (Try.sizeOf68 w) rfl rfl hna1 hqa1) ?_
  refine p_free rfl rfl rfl rfl (fun w _ => v_fieldAddr 0 (Try.runUnderlying68 w) rfl (Try.sizeOf3 w) rfl) ?_
  refine p_hoist rfl rfl rfl rfl (fun w hh => v_ldE RW 0 h6 (Try.isAgg3 w) rfl (hh.seg 1 rfl) rfl rfl) ?_
  refine p_free rfl rfl rfl rfl (fun _ _ => v_assign rfl) ?_
  refine p_free rfl rfl rfl rfl (fun _ _ => v_assign rfl) ?_
  refine p_done ?_
  refine g_n_then ?_
  refine g_seq ?_
  refine g_region ?_
  refine g_allocV (fun w => Try.zeroValue3 w) rfl (fun b_2 h7 => ?_)
  refine g_allocV (fun w => Try.zeroValue4 w) rfl (fun b_3 h8 => ?_)
  refine g_stS (cs' := #[_]) (S' := [_, _, _, _, _, _]) 1 (fun w => Try.sizeOf3 w) rfl rfl rfl rfl rfl rfl rfl ?_
  refine g_stS (cs' := #[_]) (S' := [_, _, _, _, _, _]) 0 (fun w => Try.sizeOf4 w) rfl rfl rfl rfl rfl rfl rfl ?_
  refine g_nil ?_
  refine g_n_then ?_
  refine g_seq ?_
  refine g_region ?_
  refine g_val rfl rfl rfl (fun _ _ => v_makeFunc (u := #[]) (u' := #[_, _, _]) rfl rfl) ?_
  refine g_val rfl rfl rfl (fun _ _ => v_assign rfl) ?_
  refine g_nil ?_
  refine g_n_then ?_
  refine g_seq ?_
  refine g_seq ?_
  refine g_region ?_
  refine g_val rfl rfl rfl (fun _ _ => v_move rfl) ?_
  refine g_val rfl rfl rfl (fun _ _ => v_move rfl) ?_
  obtain ⟨t39, h9, hm⟩ := bindO hm
  refine g_val rfl rfl rfl (fun _ _ => v_subc h9 rfl rfl) ?_
  obtain ⟨t40, h10, hm⟩ := bindO hm
  refine g_val rfl rfl rfl (fun _ _ => v_addc h10 rfl rfl) ?_
  refine g_val rfl rfl rfl (fun _ _ => v_move rfl) ?_
  refine g_nil ?_
  refine g_n_then ?_
  refine g_vnil 25 ?_
  obtain ⟨o, h11, h12⟩ := bindO hm
  refine g_cut (ι := VL) (fun l => VOK 2 l.n l.cap (RP.enc o.out5) l.sp l.q) (fun l => [(5, ptr b_1 0), (7, .int .i64 t33.min), (10, .func (.func 159) #[] #[ptr b_3 0, ptr b_1 0, ptr b_2 0])]) (fun l => [(b_3, .cells #[.bool o.open9] 4 (0, 0)), (b_2, .cells #[.int .i64 o.from8] 3 (0, 0)), (b_1, .cells #[slv l.q l.n l.cap] 77 (0, 0)), (b, .cells #[.func (.func 139) #[] #[ptr pb 0, ptr pb_1 0]] 168 (0, 0)), (pb, .cells #[slv qa4 na4 ca4] 26 (0, 0)), (pb_1, .cells #[ptr db5 0] 139 (0, 0))]) (fun l => [⟨25, RP.enc o.out5, l.sp, l.q, []⟩]) ?_ ?_
  ·replace hm := h11
   refine g_block ?_
   refine g_loopF (ι := VL) hm (fun s l_1 => VOK 2 l_1.n l_1.cap (RP.enc s.out5) l_1.sp l_1.q) (fun s l_1 => [(3, ptr b 0), (5, ptr b_1 0), (6, .int .i64 t18.min), (7, .int .i64 t33.min), (8, ptr b_2 0), (9, ptr b_3 0), (10, .func (.func 159) #[] #[ptr b_3 0, ptr b_1 0, ptr b_2 0]), (40, .int .i64 t40), (41, .int .i64 s.t41)]) (fun s l_1 => [(b_3, .cells #[.bool s.open9] 4 (0, 0)), (b_2, .cells #[.int .i64 s.from8] 3 (0, 0)), (b_1, .cells #[slv l_1.q l_1.n l_1.cap] 77 (0, 0)), (b, .cells #[.func (.func 139) #[] #[ptr pb 0, ptr pb_1 0]] 168 (0, 0)), (pb, .cells #[slv qa4 na4 ca4] 26 (0, 0)), (pb_1, .cells #[ptr db5 0] 139 (0, 0))]) (fun s l_1 => [⟨25, RP.enc s.out5, l_1.sp, l_1.q, []⟩]) ⟨none, 0, 0, []⟩ (VOK.nil) ((.cons rfl (.cons rfl (.cons rfl (.cons rfl (.cons rfl (.cons rfl (.cons rfl (.cons rfl (.cons rfl .nil)))))))))) (fun w hh => hh) (fun s l_1 r hpl hm h15 => ?_)
   have h14 := hpl
   unfold m_tide_desk_spans_1_L0 at hm
   refine g_seq ?_
   refine g_region ?_
   refine g_val rfl rfl rfl (fun _ _ => v_lss rfl rfl) ?_
   refine g_nil ?_
   refine g_n_then ?_
   refine g_seq ?_
   refine g_cond rfl (fun h16 => ?_) (fun h16 => ?_)
   ·replace hm := ifT (of_decide_eq_true h16) hm
    refine g_skip ?_
    refine g_n_then ?_
    refine g_seq ?_
    obtain ⟨o_1, h17, h18⟩ := bindO hm
    refine g_cut (ι := VL) (fun l_2 => VOK 2 l_2.n l_2.cap (RP.enc o_1.out5) l_2.sp l_2.q) (fun l_2 => [(3, ptr b 0), (5, ptr b_1 0), (6, .int .i64 t18.min), (7, .int .i64 t33.min), (8, ptr b_2 0), (9, ptr b_3 0), (10, .func (.func 159) #[] #[ptr b_3 0, ptr b_1 0, ptr b_2 0]), (40, .int .i64 t40), (41, .int .i64 s.t41)]) (fun l_2 => [(b_3, .cells #[.bool o_1.open9] 4 (0, 0)), (b_2, .cells #[.int .i64 o_1.from8] 3 (0, 0)), (b_1, .cells #[slv l_2.q l_2.n l_2.cap] 77 (0, 0)), (b, .cells #[.func (.func 139) #[] #[ptr pb 0, ptr pb_1 0]] 168 (0, 0)), (pb, .cells #[slv qa4 na4 ca4] 26 (0, 0)), (pb_1, .cells #[ptr db5 0] 139 (0, 0))]) (fun l_2 => [⟨25, RP.enc o_1.out5, l_2.sp, l_2.q, []⟩]) ?_ ?_
    ·replace hm := h17
     refine g_block ?_
     refine g_seq ?_
     refine g_region ?_
     refine g_val rfl rfl rfl (fun _ _ => v_move rfl) ?_
     refine g_val rfl rfl rfl (fun _ _ => v_assign rfl) ?_
     refine g_nil ?_
     refine g_n_then ?_
     refine g_seq ?_
     refine g_region ?_
     refine g_val rfl rfl rfl (fun w _ => v_fieldAddr 0 (Try.runUnderlying168 w) rfl (Try.sizeOf129 w) rfl) ?_
     refine g_val rfl rfl rfl (fun w hh => v_load (Try.isAgg129 w) rfl (hh.cell 3 rfl rfl)) ?_
     refine g_val rfl rfl rfl (fun _ _ => v_move rfl) ?_
     refine g_val rfl rfl rfl (fun _ _ => v_move rfl) ?_
     obtain ⟨t48, h20, hm⟩ := bindO hm
     refine g_val rfl rfl rfl (fun _ _ => v_addc h20 rfl rfl) ?_
     obtain ⟨t49, h21, hm⟩ := bindO hm
     refine g_sel (S' := [_, _, _, _, _, _]) (vs' := [_]) [4, 5, 0, 1, 2, 3] [0] 0 (by decide) (by decide) rfl rfl rfl ?_
     refine g_callH [_, _] [] rfl rfl rfl rfl rfl rfl rfl (fun a w => Try.call139 a w) (fun w hh => c_tide_Longest_1_2 t48 w1_0_c0 w1_0_c1 pb qa4 na4 ca4 pb_1 db5 qa6 na6 ca6 qa7 na7 ca7 qa8 na8 ca8 w (HV.callee (S0 := [_, _]) (vs0 := []) hh (roC (hh.rsep (S0 := [_, _]) (vs0 := []) 4 rfl) (roC (hh.rsep (S0 := [_, _]) (vs0 := []) 5 rfl) (roC (hh.rsep (S0 := [_, _]) (vs0 := []) 6 rfl) (roC (hh.rsep (S0 := [_, _]) (vs0 := []) 7 rfl) (roC (hh.rsep (S0 := [_, _]) (vs0 := []) 8 rfl) roN)))))) hna4 hqa4 hla4 hna6 hqa6 hla6 hna7 hqa7 hla7 hna8 hqa8 hla8 h21) (fun l_3 h22 => ?_)
     refine g_sel (S' := [_, _, _, _, _, _]) (vs' := [_]) [0, 1, 2, 3, 4, 5] [0] 0 (by decide) (by decide) rfl rfl rfl ?_
     refine g_val rfl rfl rfl (fun _ _ => v_assign rfl) ?_
     refine g_nil ?_
     refine g_n_then ?_
     refine g_block ?_
     refine g_seq ?_
     refine g_region ?_
     refine g_val rfl rfl rfl (fun _ _ => v_move rfl) ?_
     refine g_val rfl rfl rfl (fun _ _ => v_not rfl) ?_
     refine g_val rfl rfl rfl (fun _ _ => v_assign rfl) ?_
     refine g_nil ?_
     refine g_n_then ?_
     refine g_cond rfl (fun h23 => ?_) (fun h23 => ?_)
     ·replace hm := ifT (h23) hm
      refine g_region ?_
      refine g_val rfl rfl rfl (fun _ _ => v_move rfl) ?_
      refine g_val rfl rfl rfl (fun _ _ => v_move rfl) ?_
      refine g_val rfl rfl rfl (fun _ _ => v_move rfl) ?_
      obtain ⟨t56, h24, hm⟩ := bindO hm
      refine g_val rfl rfl rfl (fun _ _ => v_addc h24 rfl rfl) ?_
      obtain ⟨t57, h25, hm⟩ := bindO hm
      refine g_sel (S' := [_, _, _, _, _, _]) (vs' := [_]) [2, 4, 3, 0, 1, 5] [0] 0 (by decide) (by decide) rfl rfl rfl ?_
      refine g_callH [_, _, _] [_] rfl rfl rfl rfl rfl rfl rfl (fun a w => Try.call159 a w) (fun w hh => c_tide_desk_spans_1_3 t56 s.open9 s.out5 s.from8 b_3 b_1 ⟨l_1.q, l_1.n, l_1.cap, l_1.sp⟩ b_2 w (HV.callee (S0 := [_, _, _]) (vs0 := [_]) hh roN) h14 h25) (fun l_4 h26 => ?_)
      have h27 := h26
      refine g_sel (S' := [_, _, _, _, _, _]) (vs' := [_]) [0, 1, 2, 3, 4, 5] [0] 0 (by decide) (by decide) rfl rfl rfl ?_
      refine g_nil ?_
      refine g_n_blk ?_
      refine g_n_blk ?_
      obtain rfl := Option.some.inj hm
      exact g_leaf l_4 (h27) ((.cons rfl (.cons rfl (.cons rfl (.cons rfl (.cons rfl (.cons rfl (.cons rfl (.cons rfl (.cons rfl .nil)))))))))) (fun w hh => hh.sel [0, 2, 1, 5, 3, 4] [0] 0 (by decide) (by decide) rfl rfl rfl)
     ·replace hm := ifF ((fun hh => Bool.noConfusion ((h23).symm.trans hh))) hm
      refine g_seq ?_
      refine g_region ?_
      refine g_val rfl rfl rfl (fun w hh => v_load (Try.isAgg4 w) rfl (hh.cell 2 rfl rfl)) ?_
      refine g_val rfl rfl rfl (fun _ _ => v_not rfl) ?_
      refine g_val rfl rfl rfl (fun _ _ => v_assign rfl) ?_
      refine g_nil ?_
      refine g_n_then ?_
      refine g_cond rfl (fun h28 => ?_) (fun h28 => ?_)
      ·replace hm := ifT (h28) hm
       refine g_region ?_
       refine g_val rfl rfl rfl (fun _ _ => v_move rfl) ?_
       refine g_val rfl rfl rfl (fun _ _ => v_move rfl) ?_
       obtain ⟨t63, h29, hm⟩ := bindO hm
       refine g_val rfl rfl rfl (fun _ _ => v_addc h29 rfl rfl) ?_
       refine g_stS (cs' := #[_]) (S' := [_, _, _, _, _, _]) 3 (fun w => Try.sizeOf3 w) rfl rfl rfl rfl rfl rfl rfl ?_
       refine g_stS (cs' := #[_]) (S' := [_, _, _, _, _, _]) 2 (fun w => Try.sizeOf4 w) rfl rfl rfl rfl rfl rfl rfl ?_
       refine g_nil ?_
       refine g_n_blk ?_
       refine g_n_blk ?_
       obtain rfl := Option.some.inj hm
       exact g_leaf l_1 (h14) ((.cons rfl (.cons rfl (.cons rfl (.cons rfl (.cons rfl (.cons rfl (.cons rfl (.cons rfl (.cons rfl .nil)))))))))) (fun w hh => hh.sel [2, 3, 4, 5, 0, 1] [0] 0 (by decide) (by decide) rfl rfl rfl)
      ·replace hm := ifF ((fun hh => Bool.noConfusion ((h28).symm.trans hh))) hm
       refine g_skip ?_
       refine g_n_blk ?_
       refine g_n_blk ?_
       obtain rfl := Option.some.inj hm
       exact g_leaf l_1 (h14) ((.cons rfl (.cons rfl (.cons rfl (.cons rfl (.cons rfl (.cons rfl (.cons rfl (.cons rfl (.cons rfl .nil)))))))))) (fun w hh => hh.sel [2, 3, 4, 5, 0, 1] [0] 0 (by decide) (by decide) rfl rfl rfl)
    ·intro l_2 hj
     have h19 := hj
     replace hm := h18
     refine g_n_then ?_
     refine g_region ?_
     obtain ⟨t64, h30, hm⟩ := bindO hm
     refine g_val rfl rfl rfl (fun _ _ => v_addc h30 rfl rfl) ?_
     refine g_val rfl rfl rfl (fun _ _ => v_move rfl) ?_
     refine g_nil ?_
     obtain rfl := Option.some.inj hm
     refine g_n_then ?_
     exact g_again' _ l_2 rfl (h19) ((.cons rfl (.cons rfl (.cons rfl (.cons rfl (.cons rfl (.cons rfl (.cons rfl (.cons rfl (.cons rfl .nil)))))))))) (fun w hh => hh)
   ·replace hm := ifF (of_decide_eq_false h16) hm
    refine g_exit ?_
    refine g_x_then ?_
    refine g_x_then ?_
    refine g_x_blk ?_
    obtain rfl := Option.some.inj hm
    have hbo := h15 _ rfl
    subst hbo
    exact g_leaf l_1 (h14) ((.cons rfl (.cons rfl (.cons rfl .nil)))) (fun w hh => hh)
  ·intro l hj
   have h13 := hj
   replace hm := h12
   refine g_n_then ?_
   refine g_seq ?_
   refine g_region ?_
   refine g_val rfl rfl rfl (fun _ _ => v_move rfl) ?_
   refine g_val rfl rfl rfl (fun _ _ => v_move rfl) ?_
   obtain ⟨t67, h31, hm⟩ := bindO hm
   refine g_val rfl rfl rfl (fun _ _ => v_addc h31 rfl rfl) ?_
   obtain ⟨t68, h32, hm⟩ := bindO hm
   refine g_sel (S' := [_, _, _, _, _, _]) (vs' := [_]) [0, 2, 1, 3, 4, 5] [0] 0 (by decide) (by decide) rfl rfl rfl ?_
   refine g_callH [_, _, _] [_] rfl rfl rfl rfl rfl rfl rfl (fun a w => Try.call159 a w) (fun w hh => c_tide_desk_spans_1_3 t67 o.open9 o.out5 o.from8 b_3 b_1 ⟨l.q, l.n, l.cap, l.sp⟩ b_2 w (HV.callee (S0 := [_, _, _]) (vs0 := [_]) hh roN) h13 h32) (fun l_5 h33 => ?_)
   have h34 := h33
   refine g_sel (S' := [_, _, _, _, _, _]) (vs' := [_]) [0, 1, 2, 3, 4, 5] [0] 0 (by decide) (by decide) rfl rfl rfl ?_
   refine g_nil ?_
   refine g_n_then ?_
   refine g_seq ?_
   refine g_region ?_
   refine g_val rfl rfl rfl (fun w hh => v_load (Try.isAgg77 w) rfl (hh.cell 1 rfl rfl)) ?_
   refine g_val rfl rfl rfl (fun _ _ => v_assign rfl) ?_
   refine g_nil ?_
   refine g_n_then ?_
   refine g_ret ?_
   obtain rfl := Option.some.inj hm
   refine g_done rfl (fun w hh => (.tmp rfl .nil)) (fun w hh => ⟨l_5, rfl, h34, hh.sel [4, 5] [0] 9 (by decide) (by decide) rfl rfl rfl⟩)
def m_tide_Longest_2 (a0 : Span) (b1 : Span) : Option Int :=
 (subc a0.hi a0.lo).bind fun t9 =>
 (subc t9 b1.hi).bind fun t12 =>
 (addc t12 b1.lo).bind fun t15 =>
 some t15
set_option maxRecDepth 100000 in
set_option maxHeartbeats 4000000 in
theorem c_tide_Longest_2 (a0 : Span) (b1 : Span)  (w : World) (hw : HV w (keys [] []) [] [] [] w)  {res : Int} (hm : m_tide_Longest_2 a0 b1 = some res) :
    Calls Try.prog 142 #[.agg #[.int .i64 a0.lo, .int .i64 a0.hi], .agg #[.int .i64 b1.lo, .int .i64 b1.hi]] w (fun en w' => ∃ l : Unit, en = .returned (.int .i64 res) ∧ (True) ∧ HV w (keys [] []) [] [] [] w') := by
  unfold m_tide_Longest_2 at hm
  refine g_enter (args := [.agg #[.int .i64 a0.lo, .int .i64 a0.hi], .agg #[.int .i64 b1.lo, .int .i64 b1.hi]]) Try.func142 rfl Try.ntmps142 rfl (e := [(0, _), (1, _)]) rfl (H := HV w (keys [] []) [] [] []) hw ?_
  refine g_seq ?_
  refine g_region ?_
  refine g_boxV rfl rfl (fun b h1 => ?_)
  refine g_boxV rfl rfl (fun b_1 h2 => ?_)
  refine g_val rfl rfl rfl (fun _ _ => v_assign rfl) ?_
  refine g_nil ?_
  refine g_n_then ?_
  refine g_seq ?_
  refine g_region ?_
  refine g_val rfl rfl rfl (fun w _ => v_fieldAddr 1 (Try.runUnderlying25 w) rfl (Try.sizeOf3 w) rfl) ?_
  refine g_val rfl rfl rfl (fun w hh => v_load (Try.isAgg3 w) rfl (hh.cell 1 rfl rfl)) ?_
  refine g_val rfl rfl rfl (fun w _ => v_fieldAddr 0 (Try.runUnderlying25 w) rfl (Try.sizeOf3 w) rfl) ?_
  refine g_val rfl rfl rfl (fun w hh => v_load (Try.isAgg3 w) rfl (hh.cell 1 rfl rfl)) ?_
  obtain ⟨t9, h3, hm⟩ := bindO hm
  refine g_val rfl rfl rfl (fun _ _ => v_subc h3 rfl rfl) ?_
  refine g_val rfl rfl rfl (fun w _ => v_fieldAddr 1 (Try.runUnderlying25 w) rfl (Try.sizeOf3 w) rfl) ?_
  refine g_val rfl rfl rfl (fun w hh => v_load (Try.isAgg3 w) rfl (hh.cell 0 rfl rfl)) ?_
  obtain ⟨t12, h4, hm⟩ := bindO hm
  refine g_val rfl rfl rfl (fun _ _ => v_subc h4 rfl rfl) ?_
  refine g_val rfl rfl rfl (fun w _ => v_fieldAddr 0 (Try.runUnderlying25 w) rfl (Try.sizeOf3 w) rfl) ?_
  refine g_val rfl rfl rfl (fun w hh => v_load (Try.isAgg3 w) rfl (hh.cell 0 rfl rfl)) ?_
  obtain ⟨t15, h5, hm⟩ := bindO hm
  refine g_val rfl rfl rfl (fun _ _ => v_addc h5 rfl rfl) ?_
  refine g_val rfl rfl rfl (fun _ _ => v_assign rfl) ?_
  refine g_nil ?_
  refine g_n_then ?_
  refine g_ret ?_
  obtain rfl := Option.some.inj hm
  refine g_done rfl (fun w hh => (.tmp rfl .nil)) (fun w hh => ⟨(), rfl, trivial, hh.sel [] [] 0 (by decide) (by decide) rfl rfl rfl⟩)
structure m_slices_MaxFunc_apiSpanapiSpan_C0 where
  m5_lo : Int
  m5_hi : Int
structure m_slices_MaxFunc_apiSpanapiSpan_S0 where
  i6 : Int
  m5_lo : Int
  m5_hi : Int
structure m_slices_MaxFunc_apiSpanapiSpan_C1 where
  m5_lo : Int
  m5_hi : Int
def m_slices_MaxFunc_apiSpanapiSpan_L0 (x0 : (List Span)) (s : m_slices_MaxFunc_apiSpanapiSpan_S0) : Option (m_slices_MaxFunc_apiSpanapiSpan_S0 ⊕ m_slices_MaxFunc_apiSpanapiSpan_C0) :=
 if s.i6 < (x0.length : Int) then
 (((ix x0 s.i6).bind fun t23 =>
 (m_tide_Longest_2 (⟨t23.lo, t23.hi⟩ : Span) (⟨s.m5_lo, s.m5_hi⟩ : Span)).bind fun t26 =>
 if 0 < t26 then
 ((ix x0 s.i6).bind fun t30 =>
 some (⟨t30.lo, t30.hi⟩ : m_slices_MaxFunc_apiSpanapiSpan_C1)) else
 (some (⟨s.m5_lo, s.m5_hi⟩ : m_slices_MaxFunc_apiSpanapiSpan_C1))).bind fun o_1 =>
 (addc s.i6 1).bind fun t19 =>
 some (.inl (⟨t19, o_1.m5_lo, o_1.m5_hi⟩ : m_slices_MaxFunc_apiSpanapiSpan_S0))) else
 (some (.inr (⟨s.m5_lo, s.m5_hi⟩ : m_slices_MaxFunc_apiSpanapiSpan_C0)))
def m_slices_MaxFunc_apiSpanapiSpan (x0 : (List Span)) : Option Span :=
 if (x0.length : Int) < 1 then
 (none) else
 ((ix x0 0).bind fun t12 =>
 (iterM FU (m_slices_MaxFunc_apiSpanapiSpan_L0 x0) (⟨1, t12.lo, t12.hi⟩ : m_slices_MaxFunc_apiSpanapiSpan_S0)).bind fun o =>
 some (⟨o.m5_lo, o.m5_hi⟩ : Span))
set_option maxRecDepth 100000 in
set_option maxHeartbeats 4000000 in
theorem c_slices_MaxFunc_apiSpanapiSpan (x0 : (List Span)) (qa0 : Option Addr) (na0 ca0 : Nat) (w : World) (hw : HV w (keys [] []) [] [] [(aB qa0, aO qa0, RP.enc x0)] w) (hna0 : x0.length = na0) (hqa0 : AOK na0 qa0) (hla0 : na0 ≤ ca0) {res : Span} (hm : m_slices_MaxFunc_apiSpanapiSpan x0 = some res) :
    Calls Try.prog 141 #[.slice qa0 na0 ca0, .func (.func 142) #[] #[]] w (fun en w' => ∃ l : Unit, en = .returned (.agg #[.int .i64 res.lo, .int .i64 res.hi]) ∧ (True) ∧ HV w (keys [] []) [] [] [] w') := by
  unfold m_slices_MaxFunc_apiSpanapiSpan at hm
  refine g_enter (args := [.slice qa0 na0 ca0, .func (.func 142) #[] #[]]) Try.func141 rfl Try.ntmps141 rfl (e := [(0, _), (1, _)]) rfl (H := HV w (keys [] []) [] [] [(aB qa0, aO qa0, RP.enc x0)]) hw ?_
  refine g_seq ?_
  refine g_region ?_
  refine g_allocV (fun w => Try.zeroValue25 w) rfl (fun b h1 => ?_)
  refine g_nil ?_
  refine g_n_then ?_
  refine g_seq ?_
  refine g_seq ?_
  refine g_region ?_
  refine g_val rfl rfl rfl (fun _ _ => v_move rfl) ?_
  refine g_val rfl rfl rfl (fun w _ => v_lenR hna0 (Try.runUnderlying77 w) rfl) ?_
  refine g_val rfl rfl rfl (fun _ _ => v_lss rfl rfl) ?_
  refine g_nil ?_
  refine g_n_then ?_
  refine g_cond rfl (fun h2 => ?_) (fun h2 => ?_)
  ·replace hm := ifT (of_decide_eq_true h2) hm
   refine g_region ?_
   exact absurd hm (by simp)
  ·replace hm := ifF (of_decide_eq_false h2) hm
   refine g_skip ?_
   refine g_n_then ?_
   refine g_seq ?_
   refine g_region ?_
   refine g_val rfl rfl rfl (fun _ _ => v_move rfl) ?_
   obtain ⟨t12, h3, hm⟩ := bindO hm
   refine g_val rfl rfl rfl (fun w _ => v_ixR h3 (Try.runUnderlying77 w) (Try.sizeOf25 w) rfl rfl hna0 hqa0) ?_
   refine g_val rfl rfl rfl (fun w hh => v_ldEA RP 0 [.int .i64 t12.lo, .int .i64 t12.hi] h3 (Try.isAgg25 w) (Try.sizeOf25 w) rfl (hh.seg 0 rfl) rfl (Nat.add_zero _).symm) ?_
   refine g_allocV (fun w => Try.zeroValue25 w) rfl (fun b_1 h4 => ?_)
   refine g_stSA (us := #[_, _]) (cs' := [_, _]) (S' := [_, _]) 0 (fun w => Try.sizeOf25 w) rfl rfl rfl rfl rfl rfl rfl ?_
   refine g_nil ?_
   refine g_n_then ?_
   refine g_seq ?_
   refine g_seq ?_
   refine g_region ?_
   refine g_val rfl rfl rfl (fun _ _ => v_assign rfl) ?_
   refine g_nil ?_
   refine g_n_then ?_
   obtain ⟨o, h5, h6⟩ := bindO hm
   refine g_cut (ι := Unit) (fun l => True) (fun l => [(4, ptr b 0), (5, ptr b_1 0)]) (fun l => [(b_1, .cells #[.int .i64 o.m5_lo, .int .i64 o.m5_hi] 25 (0, 0)), (b, .cells #[.int .i64 0, .int .i64 0] 25 (0, 0))]) (fun l => []) ?_ ?_
   ·replace hm := h5
    refine g_block ?_
    refine g_loopF (ι := Unit) hm (fun s l_1 => True) (fun s l_1 => [(0, .slice qa0 na0 ca0), (1, .func (.func 142) #[] #[]), (4, ptr b 0), (5, ptr b_1 0), (6, .int .i64 s.i6)]) (fun s l_1 => [(b_1, .cells #[.int .i64 s.m5_lo, .int .i64 s.m5_hi] 25 (0, 0)), (b, .cells #[.int .i64 0, .int .i64 0] 25 (0, 0))]) (fun s l_1 => []) () (trivial) ((.cons rfl (.cons rfl (.cons rfl (.cons rfl (.cons rfl .nil)))))) (fun w hh => hh) (fun s l_1 r hpl hm h7 => ?_)
    unfold m_slices_MaxFunc_apiSpanapiSpan_L0 at hm
    refine g_seq ?_
    refine g_seq ?_
    refine g_region ?_
    refine g_val rfl rfl rfl (fun _ _ => v_move rfl) ?_
    refine g_val rfl rfl rfl (fun _ _ => v_move rfl) ?_
    refine g_val rfl rfl rfl (fun w _ => v_lenR hna0 (Try.runUnderlying77 w) rfl) ?_
    refine g_val rfl rfl rfl (fun _ _ => v_lss rfl rfl) ?_
    refine g_nil ?_
    refine g_n_then ?_
    refine g_cond rfl (fun h8 => ?_) (fun h8 => ?_)
    ·replace hm := ifT (of_decide_eq_true h8) hm
     refine g_skip ?_
     refine g_n_then ?_
     refine g_seq ?_
     obtain ⟨o_1, h9, h10⟩ := bindO hm
     refine g_cut (ι := Unit) (fun l_2 => True) (fun l_2 => [(0, .slice qa0 na0 ca0), (1, .func (.func 142) #[] #[]), (4, ptr b 0), (5, ptr b_1 0), (6, .int .i64 s.i6)]) (fun l_2 => [(b_1, .cells #[.int .i64 o_1.m5_lo, .int .i64 o_1.m5_hi] 25 (0, 0)), (b, .cells #[.int .i64 0, .int .i64 0] 25 (0, 0))]) (fun l_2 => []) ?_ ?_
     ·replace hm := h9
      refine g_block ?_
      refine g_seq ?_
      refine g_draw none (.free 0 (.free 1 (.free 2 (.free 3 (.hoist 4 (.hoist 5 (.one 6 (.free 7 .done)))))))) _ rfl (by decide +kernel) (fun w k hh => hh.draw k) (fun w hh => hh) ?_
      refine p_free rfl rfl rfl rfl (fun _ _ => v_move rfl) ?_
      refine p_free rfl rfl rfl rfl (fun _ _ => v_move rfl) ?_
      refine p_free rfl rfl rfl rfl (fun _ _ => v_move rfl) ?_
      obtain ⟨t23, h11, hm⟩ := bindO hm
      refine p_free rfl rfl rfl rfl (fun w _ => v_ixR h11 (Try.runUnderlying77 w) (Try.sizeOf25 w) rfl rfl hna0 hqa0) ?_
      refine p_hoist rfl rfl rfl rfl (fun w hh => v_ldEA RP 0 [.int .i64 t23.lo, .int .i64 t23.hi] h11 (Try.isAgg25 w) (Try.sizeOf25 w) rfl (hh.seg 0 rfl) rfl (Nat.add_zero _).symm) ?_
      refine p_hoist rfl rfl rfl rfl (fun w hh => v_loadAgg (vs := [_, _]) (Try.isAgg25 w) (Try.sizeOf25 w) rfl (hh.cells 0 rfl rfl)) ?_
      refine p_one rfl ?_
      obtain ⟨t26, h12, hm⟩ := bindO hm
      refine g_callH [] [] rfl rfl rfl rfl rfl rfl rfl (fun a w => Try.call142 a w) (fun w hh => c_tide_Longest_2 (⟨t23.lo, t23.hi⟩ : Span) (⟨s.m5_lo, s.m5_hi⟩ : Span) w (HV.callee (S0 := []) (vs0 := []) hh roN)  h12) (fun l_3 h13 => ?_)
      refine p_next (fun w hh => hh) ?_
      refine p_free rfl rfl rfl rfl (fun _ _ => v_gtr rfl rfl) ?_
      refine p_done ?_
      refine g_n_then ?_
      refine g_cond rfl (fun h14 => ?_) (fun h14 => ?_)
      ·replace hm := ifT (of_decide_eq_true h14) hm
       refine g_region ?_
       refine g_val rfl rfl rfl (fun _ _ => v_move rfl) ?_
       refine g_val rfl rfl rfl (fun _ _ => v_move rfl) ?_
       obtain ⟨t30, h15, hm⟩ := bindO hm
       refine g_val rfl rfl rfl (fun w _ => v_ixR h15 (Try.runUnderlying77 w) (Try.sizeOf25 w) rfl rfl hna0 hqa0) ?_
       refine g_val rfl rfl rfl (fun w hh => v_ldEA RP 0 [.int .i64 t30.lo, .int .i64 t30.hi] h15 (Try.isAgg25 w) (Try.sizeOf25 w) rfl (hh.seg 0 rfl) rfl (Nat.add_zero _).symm) ?_
       refine g_stSA (us := #[_, _]) (cs' := [_, _]) (S' := [_, _]) 0 (fun w => Try.sizeOf25 w) rfl rfl rfl rfl rfl rfl rfl ?_
       refine g_nil ?_
       refine g_n_blk ?_
       obtain rfl := Option.some.inj hm
       exact g_leaf () (trivial) ((.cons rfl (.cons rfl (.cons rfl (.cons rfl (.cons rfl .nil)))))) (fun w hh => hh)
      ·replace hm := ifF (of_decide_eq_false h14) hm
       refine g_skip ?_
       refine g_n_blk ?_
       obtain rfl := Option.some.inj hm
       exact g_leaf () (trivial) ((.cons rfl (.cons rfl (.cons rfl (.cons rfl (.cons rfl .nil)))))) (fun w hh => hh)
     ·intro l_2 hj
      replace hm := h10
      refine g_n_then ?_
      refine g_region ?_
      refine g_val rfl rfl rfl (fun _ _ => v_move rfl) ?_
      obtain ⟨t19, h16, hm⟩ := bindO hm
      refine g_val rfl rfl rfl (fun _ _ => v_addc h16 rfl rfl) ?_
      refine g_val rfl rfl rfl (fun _ _ => v_assign rfl) ?_
      refine g_nil ?_
      obtain rfl := Option.some.inj hm
      refine g_n_then ?_
      exact g_again' _ () rfl (trivial) ((.cons rfl (.cons rfl (.cons rfl (.cons rfl (.cons rfl .nil)))))) (fun w hh => hh)
    ·replace hm := ifF (of_decide_eq_false h8) hm
     refine g_exit ?_
     refine g_x_then ?_
     refine g_x_then ?_
     refine g_x_blk ?_
     obtain rfl := Option.some.inj hm
     have hbo := h7 _ rfl
     subst hbo
     exact g_leaf () (trivial) ((.cons rfl (.cons rfl .nil))) (fun w hh => hh)
   ·intro l hj
    replace hm := h6
    refine g_n_then ?_
    refine g_seq ?_
    refine g_region ?_
    refine g_val rfl rfl rfl (fun w hh => v_loadAgg (vs := [_, _]) (Try.isAgg25 w) (Try.sizeOf25 w) rfl (hh.cells 0 rfl rfl)) ?_
    refine g_stSA (us := #[_, _]) (cs' := [_, _]) (S' := [_, _]) 1 (fun w => Try.sizeOf25 w) rfl rfl rfl rfl rfl rfl rfl ?_
    refine g_nil ?_
    refine g_n_then ?_
    refine g_ret ?_
    obtain rfl := Option.some.inj hm
    refine g_done rfl (fun w hh => (.cell rfl (loadVar_agg (vs := [_, _]) (Try.isAgg25 _) (Try.sizeOf25 _) (hh.cells 1 rfl rfl)) .nil)) (fun w hh => ⟨(), rfl, trivial, hh.sel [] [] 1 (by decide) (by decide) rfl rfl rfl⟩)
structure m_tide_Longest_1_R where
  r0 : Span
  r1 : Int
def m_tide_Longest_1 (s0 : Sands) (places1 : (List Int)) : Option m_tide_Longest_1_R :=
 if s0.table.length ≤ 8796093022208 ∧ s0.floors.length ≤ 17592186044416 ∧ s0.sills.length ≤ 5864062014805 then (if check s0 = 0 then
 ((m_tide_every_int_3 places1 s0).bind fun t26 =>
 if (!t26) = true then
 (some (⟨(⟨0, 0⟩ : Span), 1⟩ : m_tide_Longest_1_R)) else
 ((m_tide_desk_spans_1 s0 places1 s0).bind fun t32 =>
 if (t32.length : Int) = 0 then
 (some (⟨(⟨0, 0⟩ : Span), 6⟩ : m_tide_Longest_1_R)) else
 ((m_slices_MaxFunc_apiSpanapiSpan t32).bind fun t38 =>
 some (⟨t38, 0⟩ : m_tide_Longest_1_R)))) else
 (some (⟨(⟨0, 0⟩ : Span), (check s0)⟩ : m_tide_Longest_1_R))) else none
set_option maxRecDepth 100000 in
set_option maxHeartbeats 4000000 in
theorem c_tide_Longest_1 (s0 : Sands) (places1 : (List Int)) (qa0 : Option (Nat × Nat)) (na0 ca0 : Nat) (qa1 : Option (Nat × Nat)) (na1 ca1 : Nat) (qa2 : Option (Nat × Nat)) (na2 ca2 : Nat) (qa3 : Option (Nat × Nat)) (na3 ca3 : Nat) (w : World) (hw : HV w (keys [] []) [] [] [(bk qa0, off qa0, RW.enc s0.table), (bk qa1, off qa1, RI.enc s0.floors), (bk qa2, off qa2, RS.enc s0.sills), (bk qa3, off qa3, RI.enc places1)] w) (hna0 : s0.table.length = na0) (hqa0 : 0 < na0 → qa0 ≠ none) (hla0 : na0 ≤ ca0) (hna1 : s0.floors.length = na1) (hqa1 : 0 < na1 → qa1 ≠ none) (hla1 : na1 ≤ ca1) (hna2 : s0.sills.length = na2) (hqa2 : 0 < na2 → qa2 ≠ none) (hla2 : na2 ≤ ca2) (hna3 : places1.length = na3) (hqa3 : 0 < na3 → qa3 ≠ none) (hla3 : na3 ≤ ca3) {res : m_tide_Longest_1_R} (hm : m_tide_Longest_1 s0 places1 = some res) :
    Calls Try.prog 70 #[.agg #[slv qa0 na0 ca0, .int .i64 s0.wind.lo, .int .i64 s0.wind.hi, slv qa1 na1 ca1, slv qa2 na2 ca2], slv qa3 na3 ca3] w (fun en w' => ∃ l : Unit, en = .returned (.tuple #[.agg #[.int .i64 res.r0.lo, .int .i64 res.r0.hi], .int .i64 res.r1]) ∧ (True) ∧ HV w (keys [] []) [] [] [] w') := by
  unfold m_tide_Longest_1 at hm
  refine g_enter (args := [.agg #[slv qa0 na0 ca0, .int .i64 s0.wind.lo, .int .i64 s0.wind.hi, slv qa1 na1 ca1, slv qa2 na2 ca2], slv qa3 na3 ca3]) Try.func70 rfl Try.ntmps70 rfl (e := [(0, _), (1, _)]) rfl (H := HV w (keys [] []) [] [] [(bk qa0, off qa0, RW.enc s0.table), (bk qa1, off qa1, RI.enc s0.floors), (bk qa2, off qa2, RS.enc s0.sills), (bk qa3, off qa3, RI.enc places1)]) hw ?_
  refine g_seq ?_
  refine g_region ?_
  refine g_boxV rfl rfl (fun b h1 => ?_)
  refine g_boxV rfl rfl (fun b_1 h2 => ?_)
  refine g_allocV (fun w => Try.zeroValue25 w) rfl (fun b_2 h3 => ?_)
  refine g_val rfl rfl rfl (fun _ _ => v_assign rfl) ?_
  refine g_nil ?_
  refine g_n_then ?_
  refine g_seq ?_
  refine g_region ?_
  refine g_val rfl rfl rfl (fun w hh => v_loadAgg (vs := [_, _, _, _, _]) (Try.isAgg29 w) (Try.sizeOf29 w) rfl (hh.cells 2 rfl rfl)) ?_
  obtain ⟨h4, hm⟩ := ifO hm
  refine dec_cases (p := check s0 = 0) (fun h5 => ?_) (fun h5 => ?_)
  ·replace hm := ifT h5 hm
   refine g_callFV rfl rfl rfl rfl rfl rfl rfl (fun a w => Try.call102 a w) (fun w hh => cx_opened s0 qa0 na0 ca0 qa1 na1 ca1 qa2 na2 ca2 w (HV.callee (S0 := []) (vs0 := []) hh (roC (hh.rsep (S0 := []) (vs0 := []) 0 rfl) (roC (hh.rsep (S0 := []) (vs0 := []) 1 rfl) (roC (hh.rsep (S0 := []) (vs0 := []) 2 rfl) roN)))) hna0 hqa0 hla0 hna1 hqa1 hla1 hna2 hqa2 hla2 h4 h5) (fun b_3 => ?_)
   refine g_val rfl rfl rfl (fun _ _ => v_move rfl) ?_
   refine g_val rfl rfl rfl (fun _ _ => v_extract rfl rfl) ?_
   refine g_val rfl rfl rfl (fun _ _ => v_extract rfl rfl) ?_
   refine g_allocV (fun w => Try.zeroValue139 w) rfl (fun b_4 h6 => ?_)
   refine g_stS (cs' := #[_]) (S' := [_, _, _, _, _]) 0 (fun w => Try.sizeOf139 w) rfl rfl rfl rfl rfl rfl rfl ?_
   refine g_val rfl rfl rfl (fun _ _ => v_assign rfl) ?_
   refine g_nil ?_
   refine g_n_then ?_
   refine g_seq ?_
   refine g_block ?_
   refine g_seq ?_
   refine g_region ?_
   refine g_val rfl rfl rfl (fun _ _ => v_move rfl) ?_
   refine g_val rfl rfl rfl (fun _ _ => v_neq rfl rfl) ?_
   refine g_val rfl rfl rfl (fun _ _ => v_assign rfl) ?_
   refine g_nil ?_
   refine g_n_then ?_
   refine g_condF rfl rfl ?_
   refine g_seq ?_
   refine g_draw none (.hoist 0 (.hoist 1 (.free 2 (.free 3 (.hoist 4 (.free 5 (.one 6 (.free 7 (.free 8 .done))))))))) _ rfl (by decide +kernel) (fun w k hh => hh.draw k) (fun w hh => hh) ?_
   refine p_hoist rfl rfl rfl rfl (fun w hh => v_load (Try.isAgg26 w) rfl (hh.cell 3 rfl rfl)) ?_
   refine p_hoist rfl rfl rfl rfl (fun w hh => v_load (Try.isAgg139 w) rfl (hh.cell 0 rfl rfl)) ?_
   refine p_free rfl rfl rfl rfl (fun _ _ => v_nilCheck rfl) ?_
   refine p_free rfl rfl rfl rfl (fun w _ => v_fieldAddr 0 (Try.runUnderlying157 w) rfl (Try.sizeOf29 w) rfl) ?_
   refine p_hoist rfl rfl rfl rfl (fun w hh => v_loadAgg (vs := [_, _, _, _, _]) (Try.isAgg29 w) (Try.sizeOf29 w) rfl (hh.cells 1 rfl rfl)) ?_
   refine p_free rfl rfl rfl rfl (fun _ _ => v_makeFunc (u := #[_]) (u' := #[]) rfl rfl) ?_
   refine p_one rfl ?_
   obtain ⟨t26, h7, hm⟩ := bindO hm
   refine g_callH [] [] rfl rfl rfl rfl rfl rfl rfl (fun a w => Try.call94 a w) (fun w hh => c_tide_every_int_3 places1 s0 qa3 na3 ca3 qa0 na0 ca0 qa1 na1 ca1 qa2 na2 ca2 w (HV.callee (S0 := []) (vs0 := []) hh (roC (hh.rsep (S0 := []) (vs0 := []) 3 rfl) (roC (hh.rsep (S0 := []) (vs0 := []) 0 rfl) (roC (hh.rsep (S0 := []) (vs0 := []) 1 rfl) (roC (hh.rsep (S0 := []) (vs0 := []) 2 rfl) roN))))) hna3 hqa3 hla3 hna0 hqa0 hla0 hna1 hqa1 hla1 hna2 hqa2 hla2 h7) (fun l h8 => ?_)
   refine p_next (fun w hh => hh) ?_
   refine p_free rfl rfl rfl rfl (fun _ _ => v_not rfl) ?_
   refine p_free rfl rfl rfl rfl (fun _ _ => v_assign rfl) ?_
   refine p_done ?_
   refine g_n_then ?_
   refine g_cond rfl (fun h9 => ?_) (fun h9 => ?_)
   ·replace hm := ifT (h9) hm
    refine g_seq ?_
    refine g_region ?_
    refine g_val rfl rfl rfl (fun _ _ => v_build (vs := []) (cells := [_, _]) rfl rfl) ?_
    refine g_stSA (us := #[_, _]) (cs' := [_, _]) (S' := [_, _, _, _, _]) 2 (fun w => Try.sizeOf25 w) rfl rfl rfl rfl rfl rfl rfl ?_
    refine g_val rfl rfl rfl (fun _ _ => v_assign rfl) ?_
    refine g_nil ?_
    refine g_n_then ?_
    refine g_ret ?_
    refine g_r_blk ?_
    refine g_r_then ?_
    obtain rfl := Option.some.inj hm
    refine g_done rfl (fun w hh => (.cell rfl (loadVar_agg (vs := [_, _]) (Try.isAgg25 _) (Try.sizeOf25 _) (hh.cells 2 rfl rfl)) (.tmp rfl .nil))) (fun w hh => ⟨(), rfl, trivial, hh.sel [] [] 4 (by decide) (by decide) rfl rfl rfl⟩)
   ·replace hm := ifF ((fun hh => Bool.noConfusion ((h9).symm.trans hh))) hm
    refine g_skip ?_
    refine g_n_blk ?_
    refine g_n_then ?_
    refine g_seq ?_
    refine g_region ?_
    refine g_val rfl rfl rfl (fun w hh => v_load (Try.isAgg139 w) rfl (hh.cell 0 rfl rfl)) ?_
    refine g_val rfl rfl rfl (fun _ _ => v_makeFunc (u := #[]) (u' := #[_, _]) rfl rfl) ?_
    refine g_val rfl rfl rfl (fun _ _ => v_build (vs := [(0, _)]) (cells := [_]) rfl rfl) ?_
    obtain ⟨t32, h10, hm⟩ := bindO hm
    refine g_sel (S' := [_, _, _, _, _]) (vs' := []) [3, 0, 1, 2, 4] [] 0 (by decide) (by decide) rfl rfl rfl ?_
    refine g_callH [_, _] [] rfl rfl rfl rfl rfl rfl rfl (fun a w => Try.call118 a w) (fun w hh => c_tide_desk_spans_1 s0 places1 s0 b_3 qa0 na0 ca0 qa1 na1 ca1 qa2 na2 ca2 b_1 qa3 na3 ca3 b_4 b_3 qa0 na0 ca0 qa1 na1 ca1 qa2 na2 ca2 w (HV.callee (S0 := [_, _]) (vs0 := []) hh (roC (hh.bsepH (S0 := [_, _]) (vs0 := []) 0 rfl) (roC (hh.rsep (S0 := [_, _]) (vs0 := []) 0 rfl) (roC (hh.rsep (S0 := [_, _]) (vs0 := []) 1 rfl) (roC (hh.rsep (S0 := [_, _]) (vs0 := []) 2 rfl) (roC (hh.rsep (S0 := [_, _]) (vs0 := []) 3 rfl) (roC (hh.bsepH (S0 := [_, _]) (vs0 := []) 0 rfl) (roC (hh.rsep (S0 := [_, _]) (vs0 := []) 0 rfl) (roC (hh.rsep (S0 := [_, _]) (vs0 := []) 1 rfl) (roC (hh.rsep (S0 := [_, _]) (vs0 := []) 2 rfl) roN)))))))))) hna0 hqa0 hla0 hna1 hqa1 hla1 hna2 hqa2 hla2 hna3 hqa3 hla3 hna0 hqa0 hla0 hna1 hqa1 hla1 hna2 hqa2 hla2 h10) (fun l_1 h11 => ?_)
    have h12 := h11
    refine g_sel (S' := [_, _, _, _, _]) (vs' := [_]) [0, 1, 2, 3, 4] [0] 0 (by decide) (by decide) rfl rfl rfl ?_
    refine g_val rfl rfl rfl (fun _ _ => v_assign rfl) ?_
    refine g_nil ?_
    refine g_n_then ?_
    refine g_seq ?_
    refine g_seq ?_
    refine g_region ?_
    refine g_val rfl rfl rfl (fun _ _ => v_move rfl) ?_
    refine g_val rfl rfl rfl (fun w _ => v_lenN (vlen RP h12 rfl) (Try.runUnderlying77 w) rfl) ?_
    refine g_val rfl rfl rfl (fun _ _ => v_eql rfl rfl) ?_
    refine g_nil ?_
    refine g_n_then ?_
    refine g_cond rfl (fun h13 => ?_) (fun h13 => ?_)
    ·replace hm := ifT (of_decide_eq_true h13) hm
     refine g_seq ?_
     refine g_region ?_
     refine g_val rfl rfl rfl (fun _ _ => v_build (vs := []) (cells := [_, _]) rfl rfl) ?_
     refine g_stSA (us := #[_, _]) (cs' := [_, _]) (S' := [_, _, _, _, _]) 3 (fun w => Try.sizeOf25 w) rfl rfl rfl rfl rfl rfl rfl ?_
     refine g_val rfl rfl rfl (fun _ _ => v_assign rfl) ?_
     refine g_nil ?_
     refine g_n_then ?_
     refine g_ret ?_
     refine g_r_then ?_
     obtain rfl := Option.some.inj hm
     refine g_done rfl (fun w hh => (.cell rfl (loadVar_agg (vs := [_, _]) (Try.isAgg25 _) (Try.sizeOf25 _) (hh.cells 3 rfl rfl)) (.tmp rfl .nil))) (fun w hh => ⟨(), rfl, trivial, hh.sel [] [] 4 (by decide) (by decide) rfl rfl rfl⟩)
    ·replace hm := ifF (of_decide_eq_false h13) hm
     refine g_skip ?_
     refine g_n_then ?_
     refine g_seq ?_
     refine g_region ?_
     refine g_val rfl rfl rfl (fun _ _ => v_move rfl) ?_
     obtain ⟨t38, h14, hm⟩ := bindO hm
     refine g_callH [] [] rfl rfl rfl rfl rfl rfl rfl (fun a w => Try.call141 a w) (fun w hh => c_slices_MaxFunc_apiSpanapiSpan t32 (qA l_1.q) l_1.n l_1.cap w (HV.callee (S0 := []) (vs0 := []) hh (roC (hh.vsepA (S0 := []) (vs0 := []) 0 rfl h12) roN)) (vlen RP h12 rfl) (AOK.q (vne h12)) (h12).hle h14) (fun l_2 h15 => ?_)
     refine g_stSA (us := #[_, _]) (cs' := [_, _]) (S' := [_, _, _, _, _]) 3 (fun w => Try.sizeOf25 w) rfl rfl rfl rfl rfl rfl rfl ?_
     refine g_val rfl rfl rfl (fun _ _ => v_assign rfl) ?_
     refine g_nil ?_
     refine g_n_then ?_
     refine g_ret ?_
     obtain rfl := Option.some.inj hm
     refine g_done rfl (fun w hh => (.cell rfl (loadVar_agg (vs := [_, _]) (Try.isAgg25 _) (Try.sizeOf25 _) (hh.cells 3 rfl rfl)) (.tmp rfl .nil))) (fun w hh => ⟨(), rfl, trivial, hh.sel [] [] 4 (by decide) (by decide) rfl rfl rfl⟩)
  ·replace hm := ifF h5 hm
   refine g_callN rfl rfl rfl rfl rfl rfl rfl (fun a w => Try.call102 a w) (fun w hh => cx_openedE s0 qa0 na0 ca0 qa1 na1 ca1 qa2 na2 ca2 w (HV.callee (S0 := []) (vs0 := []) hh (roC (hh.rsep (S0 := []) (vs0 := []) 0 rfl) (roC (hh.rsep (S0 := []) (vs0 := []) 1 rfl) (roC (hh.rsep (S0 := []) (vs0 := []) 2 rfl) roN)))) hna0 hqa0 hla0 hna1 hqa1 hla1 hna2 hqa2 hla2 h4 h5) (fun l_3 h16 => ?_)
   refine g_val rfl rfl rfl (fun _ _ => v_move rfl) ?_
   refine g_val rfl rfl rfl (fun _ _ => v_extract rfl rfl) ?_
   refine g_val rfl rfl rfl (fun _ _ => v_extract rfl rfl) ?_
   refine g_allocV (fun w => Try.zeroValue139 w) rfl (fun b_5 h17 => ?_)
   refine g_stS (cs' := #[_]) (S' := [_, _, _, _]) 0 (fun w => Try.sizeOf139 w) rfl rfl rfl rfl rfl rfl rfl ?_
   refine g_val rfl rfl rfl (fun _ _ => v_assign rfl) ?_
   refine g_nil ?_
   refine g_n_then ?_
   refine g_seq ?_
   refine g_block ?_
   refine g_seq ?_
   refine g_region ?_
   refine g_val rfl rfl rfl (fun _ _ => v_move rfl) ?_
   refine g_val rfl rfl rfl (fun _ _ => v_neqT h5 rfl rfl) ?_
   refine g_val rfl rfl rfl (fun _ _ => v_assign rfl) ?_
   refine g_nil ?_
   refine g_n_then ?_
   refine g_condT rfl rfl ?_
   refine g_seq ?_
   refine g_region ?_
   refine g_val rfl rfl rfl (fun _ _ => v_build (vs := []) (cells := [_, _]) rfl rfl) ?_
   refine g_val rfl rfl rfl (fun _ _ => v_move rfl) ?_
   refine g_stSA (us := #[_, _]) (cs' := [_, _]) (S' := [_, _, _, _]) 1 (fun w => Try.sizeOf25 w) rfl rfl rfl rfl rfl rfl rfl ?_
   refine g_val rfl rfl rfl (fun _ _ => v_assign rfl) ?_
   refine g_nil ?_
   refine g_n_then ?_
   refine g_ret ?_
   refine g_r_blk ?_
   refine g_r_then ?_
   obtain rfl := Option.some.inj hm
   refine g_done rfl (fun w hh => (.cell rfl (loadVar_agg (vs := [_, _]) (Try.isAgg25 _) (Try.sizeOf25 _) (hh.cells 1 rfl rfl)) (.tmp rfl .nil))) (fun w hh => ⟨(), rfl, trivial, hh.sel [] [] 4 (by decide) (by decide) rfl rfl rfl⟩)
end Go.Proofs.Wk

namespace Go.Proofs.Wk
open Go Go.Gx Go.Pl
set_option linter.unusedVariables false
/-! ### the longest span in which places are dry -/
def allDry (s : Sands) (pl : List Int) (m : Int) : Bool := pl.all fun p => decide (stateF s m p = 0)
theorem every_place {s : Sands} (hS : Short s) {l : List Int} (hl : l.length ≤ 1000) : m_tide_every_int_3 l s = some (l.all (isPlace s)) := by
  have h1 := hS.t
  have h2 := hS.f
  have h3 := hS.s
  have hpl : ∀ p, x_place s p = some (isPlace s p) := fun p => by unfold x_place; rw [if_pos ⟨by omega, by omega, by omega⟩]
  unfold m_tide_every_int_3 m_slices_ContainsFunc_intint_2 m_slices_IndexFunc_intint_2
  have key := contains_loop (f := m_slices_IndexFunc_intint_2_L0 l s) l 0 (fun x => !isPlace s x) (by omega) (fun k hk => by
    unfold m_slices_IndexFunc_intint_2_L0 m_tide_every_int_1_2
    rw [if_pos (by omega), ix_nat 0 hk, Option.bind_some, hpl, Option.bind_some, Option.bind_some]
    by_cases h : (!isPlace s (l.getD k 0)) = true
    · rw [if_pos h, if_pos h]
    · rw [if_neg h, if_neg h, addc_eq (by omega), Option.bind_some]) (by
    unfold m_slices_IndexFunc_intint_2_L0
    rw [if_neg (by omega)])
  rw [key, Option.bind_some, not_any_not]
theorem x_at_eq {s : Sands} (hG : Good s) {m p : Int} (hd : dayF s m = true) (hp : isPlace s p = true) : x_at s m p = some (stateF s m p) := by
  have hS := Good.short hG
  have h1 := hS.t
  have h2 := hS.f
  have h3 := hS.s
  have hfl := hG.fl
  have hpp := isPlace_iff.1 hp
  unfold x_at
  rw [if_pos ⟨⟨by omega, by omega, by omega⟩, check_of_good hG, hd, by omega, by omega⟩]
theorem every_dry {s : Sands} (hG : Good s) {pl : List Int} (hpl : pl.all (isPlace s) = true) (hl : pl.length ≤ 1000) {m : Int} (hd : dayF s m = true) : m_tide_Longest_1_2 m pl s = some (allDry s pl m) := by
  unfold m_tide_Longest_1_2 m_tide_every_int_4 m_slices_ContainsFunc_intint_3 m_slices_IndexFunc_intint_3
  have key := contains_loop (f := m_slices_IndexFunc_intint_3_L0 pl s m) pl 0 (fun x => !decide (stateF s m x = 0)) (by omega) (fun k hk => by
    have hp : isPlace s (pl.getD k 0) = true := all_getD hpl hk
    unfold m_slices_IndexFunc_intint_3_L0 m_tide_every_int_1_3 m_tide_Longest_1_1_2
    rw [if_pos (by omega), ix_nat 0 hk, Option.bind_some, x_at_eq hG hd hp, Option.bind_some, Option.bind_some, Option.bind_some]
    by_cases h : (!decide (stateF s m (pl.getD k 0) = 0)) = true
    · rw [if_pos h, if_pos h]
    · rw [if_neg h, if_neg h, addc_eq (by omega), Option.bind_some]) (by
    unfold m_slices_IndexFunc_intint_3_L0
    rw [if_neg (by omega)])
  rw [key, Option.bind_some, not_any_not, Option.bind_some]
  rfl
theorem shut_eq {m fr : Int} {op : Bool} {acc : List Span} (hm : -1000000 ≤ m ∧ m ≤ 1000000) (hl : acc.length ≤ 100000) : m_tide_desk_spans_1_3 m op acc fr = some ⟨(shutF ⟨acc, fr, op⟩ m).op, (shutF ⟨acc, fr, op⟩ m).acc⟩ := by
  unfold m_tide_desk_spans_1_3 shutF
  cases op with
  | true =>
    rw [if_pos rfl, subc_eq (by omega), Option.bind_some, appc_eq (by simp only [List.length_singleton]; omega), Option.bind_some, Option.bind_some]
  | false => rw [if_neg (by decide), Option.bind_some]
theorem shut_fr {x : SpanSt} {m : Int} : (shutF x m).fr = x.fr := by unfold shutF; split <;> rfl
theorem spans_walk {s : Sands} (hG : Good s) {pl : List Int} (hpl : pl.all (isPlace s) = true) (hl : pl.length ≤ 1000) : m_tide_desk_spans_1 s pl s = some (spansF s (allDry s pl)) := by
  have htl := hG.tl
  have hds := day_span hG
  obtain ⟨hn, hn2⟩ := Go.Pl.dayN_eq hG
  have e0 : (s.table.getD (0 : Int).toNat default).min = firstM s := rfl
  have e1 : (s.table.getD (((s.table.length : Int) - 1).toNat) default).min = lastM s := by
    unfold lastM
    rw [show ((s.table.length : Int) - 1).toNat = s.table.length - 1 by omega]
  unfold m_tide_desk_spans_1
  rw [ix_eq default (by omega) (by omega), Option.bind_some, subc_eq (by omega), Option.bind_some, ix_eq default (by omega) (by omega), Option.bind_some, e0, e1, subc_eq (by omega), Option.bind_some, addc_eq (by omega), Option.bind_some, ← hn]
  generalize hW : s.table.getD (0 : Int).toNat default = W at e0
  have key : iterM FU (m_tide_desk_spans_1_L0 (dayN s : Int) W pl s) ⟨0, false, 0, []⟩ = some ⟨(spansN (allDry s pl) (firstM s) (dayN s)).op, (spansN (allDry s pl) (firstM s) (dayN s)).fr, (spansN (allDry s pl) (firstM s) (dayN s)).acc⟩ := by
    have hz : (⟨0, false, 0, []⟩ : m_tide_desk_spans_1_S0) = (fun k : Nat => (⟨(k : Int), (spansN (allDry s pl) (firstM s) k).op, (spansN (allDry s pl) (firstM s) k).fr, (spansN (allDry s pl) (firstM s) k).acc⟩ : m_tide_desk_spans_1_S0)) 0 := rfl
    rw [hz]
    refine iterM_run (fun k : Nat => (⟨(k : Int), (spansN (allDry s pl) (firstM s) k).op, (spansN (allDry s pl) (firstM s) k).fr, (spansN (allDry s pl) (firstM s) k).acc⟩ : m_tide_desk_spans_1_S0)) (dayN s) (fun k hk => ?_) ?_ FU (FU_lt (by omega))
    · have hd : dayF s (firstM s + (k : Int)) = true := day_of ⟨by omega, by omega⟩
      have hlen := spansN_len (p := allDry s pl) (a := firstM s) (k := k)
      unfold m_tide_desk_spans_1_L0
      dsimp only
      rw [if_pos (by omega), e0, addc_eq (by omega), Option.bind_some, every_dry hG hpl hl hd, Option.bind_some, spansN_succ]
      generalize spansN (allDry s pl) (firstM s) k = x at hlen ⊢
      obtain ⟨acc, fr, op⟩ := x
      simp only at hlen ⊢
      unfold spanStep
      cases hdry : allDry s pl (firstM s + (k : Int)) with
      | false =>
        rw [if_pos (show (!false) = true from rfl), Option.bind_some, shut_eq (by omega) (by omega), Option.bind_some, Option.bind_some, addc_eq (by omega), Option.bind_some]
        simp only [shut_fr]
        rfl
      | true =>
        rw [if_neg (by decide)]
        cases op with
        | false => rw [if_pos (show (!false) = true from rfl), Option.bind_some, Option.bind_some, addc_eq (by omega), Option.bind_some]; rfl
        | true => rw [if_neg (by decide), Option.bind_some, addc_eq (by omega), Option.bind_some]; rfl
    · unfold m_tide_desk_spans_1_L0
      dsimp only
      rw [if_neg (by omega)]
  have hlen := spansN_len (p := allDry s pl) (a := firstM s) (k := dayN s)
  rw [key, Option.bind_some, addc_eq (by omega), Option.bind_some, shut_eq (by omega) (by dsimp only; omega), Option.bind_some]
  rfl
/-- the first of the longest -/
def maxStep (m x : Span) : Span := if m.hi - m.lo < x.hi - x.lo then x else m
def maxSpan : List Span → Span
  | [] => ⟨0, 0⟩
  | x :: l => l.foldl maxStep x
theorem max_fold : ∀ (l : List Span) (x : Span), l.foldl maxStep x ∈ x :: l ∧ ∀ y, y ∈ x :: l → y.hi - y.lo ≤ (l.foldl maxStep x).hi - (l.foldl maxStep x).lo
  | [], x => ⟨List.mem_cons_self, fun y hy => by rw [List.mem_singleton.1 hy]; exact Int.le_refl _⟩
  | z :: l, x => by
    obtain ⟨h1, h2⟩ := max_fold l (maxStep x z)
    rw [List.foldl_cons]
    have hs : maxStep x z = x ∨ maxStep x z = z := by unfold maxStep; split <;> simp
    have hx : x.hi - x.lo ≤ (maxStep x z).hi - (maxStep x z).lo ∧ z.hi - z.lo ≤ (maxStep x z).hi - (maxStep x z).lo := by unfold maxStep; split <;> omega
    have h3 := h2 _ List.mem_cons_self
    refine ⟨?_, fun y hy => ?_⟩
    · rcases List.mem_cons.1 h1 with h | h
      · rw [h]
        rcases hs with h4 | h4 <;> rw [h4] <;> simp
      · exact List.mem_cons_of_mem _ (List.mem_cons_of_mem _ h)
    · rcases List.mem_cons.1 hy with rfl | hy
      · omega
      · rcases List.mem_cons.1 hy with rfl | hy
        · omega
        · exact h2 y (List.mem_cons_of_mem _ hy)
theorem maxSpan_spec {l : List Span} (h : l ≠ []) : maxSpan l ∈ l ∧ ∀ y, y ∈ l → y.hi - y.lo ≤ (maxSpan l).hi - (maxSpan l).lo := by
  cases l with
  | nil => exact absurd rfl h
  | cons x l => exact max_fold l x
theorem maxfunc_eq {l : List Span} (h : l ≠ []) (hl : l.length ≤ 100000) (hb : ∀ y, y ∈ l → (-1000000 ≤ y.lo ∧ y.lo ≤ 1000000) ∧ -1000000 ≤ y.hi ∧ y.hi ≤ 1000000) : m_slices_MaxFunc_apiSpanapiSpan l = some (maxSpan l) := by
  cases l with
  | nil => exact absurd rfl h
  | cons x l =>
    unfold m_slices_MaxFunc_apiSpanapiSpan
    simp only [List.length_cons] at hl
    rw [if_neg (by simp only [List.length_cons]; omega), ix_eq default (by omega) (by simp)]
    have e : (x :: l).getD (0 : Int).toNat default = x := rfl
    rw [Option.bind_some, e]
    have tk : ∀ k, (l.take k).foldl maxStep x ∈ x :: l := fun k => by
      have := (max_fold (l.take k) x).1
      rcases List.mem_cons.1 this with h | h
      · rw [h]; exact List.mem_cons_self
      · exact List.mem_cons_of_mem _ (List.mem_of_mem_take h)
    have key : iterM FU (m_slices_MaxFunc_apiSpanapiSpan_L0 (x :: l)) ⟨1, x.lo, x.hi⟩ = some ⟨(maxSpan (x :: l)).lo, (maxSpan (x :: l)).hi⟩ := by
      have hz : (⟨1, x.lo, x.hi⟩ : m_slices_MaxFunc_apiSpanapiSpan_S0) = (fun k : Nat => (⟨((k + 1 : Nat) : Int), ((l.take k).foldl maxStep x).lo, ((l.take k).foldl maxStep x).hi⟩ : m_slices_MaxFunc_apiSpanapiSpan_S0)) 0 := rfl
      rw [hz]
      refine iterM_run (fun k : Nat => (⟨((k + 1 : Nat) : Int), ((l.take k).foldl maxStep x).lo, ((l.take k).foldl maxStep x).hi⟩ : m_slices_MaxFunc_apiSpanapiSpan_S0)) l.length (fun k hk => ?_) ?_ FU (FU_lt (by omega))
      · have hm := hb _ (tk k)
        have hy := hb (l.getD k default) (List.mem_cons_of_mem _ (mem_getD hk))
        have hg : ix (x :: l) ((k + 1 : Nat) : Int) = some (l.getD k default) := by
          rw [ix_nat default (by simp; omega)]
          rfl
        have hf : (l.take (k + 1)).foldl maxStep x = maxStep ((l.take k).foldl maxStep x) (l.getD k default) := take_fold default hk
        unfold m_slices_MaxFunc_apiSpanapiSpan_L0 m_tide_Longest_2
        dsimp only
        rw [if_pos (by simp only [List.length_cons]; omega), hg, Option.bind_some, hf]
        generalize (l.take k).foldl maxStep x = m at hm
        generalize l.getD k default = y at hy
        rw [subc_eq (by omega), Option.bind_some, subc_eq (by omega), Option.bind_some, addc_eq (by omega), Option.bind_some, Option.bind_some]
        unfold maxStep
        by_cases hc : m.hi - m.lo < y.hi - y.lo
        · rw [if_pos (by omega), if_pos hc, Option.bind_some, Option.bind_some, addc_eq (by omega), Option.bind_some]
          rfl
        · rw [if_neg (by omega), if_neg hc, Option.bind_some, addc_eq (by omega), Option.bind_some]
          rfl
      · unfold m_slices_MaxFunc_apiSpanapiSpan_L0
        dsimp only
        rw [if_neg (by simp only [List.length_cons]; omega), List.take_length]
        rfl
    rw [key, Option.bind_some]
/-- what Longest comes to -/
def LongestR (s : Sands) (pl : List Int) : Span × Int := if check s ≠ 0 then (⟨0, 0⟩, check s) else if pl.all (isPlace s) = false then (⟨0, 0⟩, 1) else if spansF s (allDry s pl) = [] then (⟨0, 0⟩, 6) else (maxSpan (spansF s (allDry s pl)), 0)
theorem longest_eq {s : Sands} (hS : Short s) {pl : List Int} (hl : pl.length ≤ 1000) : m_tide_Longest_1 s pl = some ⟨(LongestR s pl).1, (LongestR s pl).2⟩ := by
  have h1 := hS.t
  have h2 := hS.f
  have h3 := hS.s
  unfold m_tide_Longest_1 LongestR
  rw [if_pos ⟨by omega, by omega, by omega⟩]
  by_cases hc : check s = 0
  · have hG := good_of_check hc
    rw [if_pos hc, if_neg (show ¬ (check s ≠ 0) by rw [hc]; simp), every_place hS hl, Option.bind_some]
    by_cases hp : pl.all (isPlace s) = true
    · have hlen := spansF_len hG (p := allDry s pl)
      have hruns := (spans_runs hG (p := allDry s pl)).1
      have hds := day_span hG
      rw [hp, if_neg (by decide), if_neg (show ¬ (true = false) by decide), spans_walk hG hp hl, Option.bind_some]
      by_cases he : spansF s (allDry s pl) = []
      · rw [if_pos (by rw [he]; rfl), if_pos he]
      · have hne : ¬ ((spansF s (allDry s pl)).length : Int) = 0 := fun h => he (List.length_eq_zero_iff.1 (by omega))
        rw [if_neg hne, if_neg he, maxfunc_eq he (by omega) (fun y hy => by have := hruns y hy; omega), Option.bind_some]
    · have hp' : pl.all (isPlace s) = false := by simpa using hp
      rw [hp', if_pos (show (!false) = true from rfl), if_pos rfl]
  · rw [if_neg hc, if_pos (show check s ≠ 0 from hc)]
end Go.Proofs.Wk

namespace Go.Proofs.Wk
open Go Go.Gx Go.Pl
set_option linter.unusedVariables false
theorem pile_eqM (l : List Int) : m_laurelkit_Pile l = some ⟨0, 0⟩ := rfl
theorem longestR_good {s : Sands} (hG : Good s) {pl : List Int} (hp : pl.all (isPlace s) = true) : LongestR s pl = if spansF s (allDry s pl) = [] then (⟨0, 0⟩, 6) else (maxSpan (spansF s (allDry s pl)), 0) := by
  unfold LongestR
  rw [check_of_good hG, hp, if_neg (by simp), if_neg (by simp)]
end Go.Proofs.Wk

namespace Go.Proofs.Wk
open Go Go.Gx Go.Pl
set_option linter.unusedVariables false
theorem spansF_short {s : Sands} (hG : Good s) {p : Int → Bool} : (spansF s p).length ≤ 1442 := spansF_len hG
end Go.Proofs.Wk

namespace Go.Proofs.Wk
open Go Go.Fw Go.Gx Go.Pl
set_option linter.unusedVariables false

structure m_tide_Flood_1_R where
  r0 : Int
  r2 : Int
  r1 : (List Int)
structure m_tide_Flood_1_C0 where
  at10 : Int
  places9 : (List Int)
structure m_tide_Flood_1_S0 where
  at10 : Int
  places9 : (List Int)
structure m_tide_Flood_1_S1 where
  t36 : Int
  places9 : (List Int)
def m_tide_Flood_1_L1 (s0 : Sands) (minute1 : Int) (s : m_tide_Flood_1_S0) (s_1 : m_tide_Flood_1_S1) : Option (m_tide_Flood_1_S1 ⊕ (List Int)) :=
 if s_1.t36 < (s0.floors.length : Int) then
 ((((x_at s0 minute1 s_1.t36).bind fun t42 =>
 if t42 = 0 then
 ((x_at s0 s.at10 s_1.t36).bind fun t48 =>
 some (!decide (t48 = 0))) else
 (some false)).bind fun o_3 =>
 if o_3 = true then
 ((appc 8 s_1.places9 [s_1.t36]).bind fun t54 =>
 some t54) else
 (some s_1.places9)).bind fun o_2 =>
 (addc s_1.t36 1).bind fun t55 =>
 some (.inl (⟨t55, o_2⟩ : m_tide_Flood_1_S1))) else
 (some (.inr s_1.places9))
def m_tide_Flood_1_L0 (s0 : Sands) (minute1 : Int) (s : m_tide_Flood_1_S0) : Option (m_tide_Flood_1_S0 ⊕ m_tide_Flood_1_C0) :=
 (x_day s0 s.at10).bind fun t30 =>
 if t30 = true then
 ((iterM FU (m_tide_Flood_1_L1 s0 minute1 s) (⟨0, s.places9⟩ : m_tide_Flood_1_S1)).bind fun o_1 =>
 if 0 < (o_1.length : Int) then
 (some (.inr (⟨s.at10, o_1⟩ : m_tide_Flood_1_C0))) else
 ((addc s.at10 1).bind fun t32 =>
 some (.inl (⟨t32, o_1⟩ : m_tide_Flood_1_S0)))) else
 (some (.inr (⟨s.at10, s.places9⟩ : m_tide_Flood_1_C0)))
def m_tide_Flood_1 (s0 : Sands) (minute1 : Int) : Option m_tide_Flood_1_R :=
 if s0.table.length ≤ 8796093022208 ∧ s0.floors.length ≤ 17592186044416 ∧ s0.sills.length ≤ 5864062014805 then (if check s0 = 0 then
 ((x_day s0 minute1).bind fun t24 =>
 if (!t24) = true then
 (some (⟨0, 3, []⟩ : m_tide_Flood_1_R)) else
 ((addc minute1 1).bind fun t27 =>
 (iterM FU (m_tide_Flood_1_L0 s0 minute1) (⟨t27, []⟩ : m_tide_Flood_1_S0)).bind fun o =>
 if (o.places9.length : Int) = 0 then
 (some (⟨0, 6, []⟩ : m_tide_Flood_1_R)) else
 (some (⟨o.at10, 0, o.places9⟩ : m_tide_Flood_1_R)))) else
 (some (⟨0, (check s0), []⟩ : m_tide_Flood_1_R))) else none
set_option maxRecDepth 100000 in
set_option maxHeartbeats 4000000 in
theorem c_tide_Flood_1 (s0 : Sands) (minute1 : Int) (qa0 : Option (Nat × Nat)) (na0 ca0 : Nat) (qa1 : Option (Nat × Nat)) (na1 ca1 : Nat) (qa2 : Option (Nat × Nat)) (na2 ca2 : Nat) (w : World) (hw : HV w (keys [] []) [] [] [(bk qa0, off qa0, RW.enc s0.table), (bk qa1, off qa1, RI.enc s0.floors), (bk qa2, off qa2, RS.enc s0.sills)] w) (hna0 : s0.table.length = na0) (hqa0 : 0 < na0 → qa0 ≠ none) (hla0 : na0 ≤ ca0) (hna1 : s0.floors.length = na1) (hqa1 : 0 < na1 → qa1 ≠ none) (hla1 : na1 ≤ ca1) (hna2 : s0.sills.length = na2) (hqa2 : 0 < na2 → qa2 ≠ none) (hla2 : na2 ≤ ca2) {res : m_tide_Flood_1_R} (hm : m_tide_Flood_1 s0 minute1 = some res) :
    Calls Try.prog 77 #[.agg #[slv qa0 na0 ca0, .int .i64 s0.wind.lo, .int .i64 s0.wind.hi, slv qa1 na1 ca1, slv qa2 na2 ca2], .int .i64 minute1] w (fun en w' => ∃ l : VL, en = .returned (.tuple #[.int .i64 res.r0, slv l.q l.n l.cap, .int .i64 res.r2]) ∧ (VOK 1 l.n l.cap (RI.enc res.r1) l.sp l.q) ∧ HV w (keys [] []) [] [⟨3, RI.enc res.r1, l.sp, l.q, []⟩] [] w') := by
  unfold m_tide_Flood_1 at hm
  refine g_enter (args := [.agg #[slv qa0 na0 ca0, .int .i64 s0.wind.lo, .int .i64 s0.wind.hi, slv qa1 na1 ca1, slv qa2 na2 ca2], .int .i64 minute1]) Try.func77 rfl Try.ntmps77 rfl (e := [(0, _), (1, _)]) rfl (H := HV w (keys [] []) [] [] [(bk qa0, off qa0, RW.enc s0.table), (bk qa1, off qa1, RI.enc s0.floors), (bk qa2, off qa2, RS.enc s0.sills)]) hw ?_
  refine g_seq ?_
  refine g_region ?_
  refine g_boxV rfl rfl (fun b h2 => ?_)
  refine g_val rfl rfl rfl (fun _ _ => v_assign rfl) ?_
  refine g_val rfl rfl rfl (fun _ _ => v_nilS rfl) ?_
  refine g_val rfl rfl rfl (fun _ _ => v_assign rfl) ?_
  refine g_nil ?_
  refine g_n_then ?_
  refine g_scope ?_
  refine g_seq ?_
  refine g_region ?_
  refine g_val rfl rfl rfl (fun w hh => v_loadAgg (vs := [_, _, _, _, _]) (Try.isAgg29 w) (Try.sizeOf29 w) rfl (hh.cells 0 rfl rfl)) ?_
  obtain ⟨h3, hm⟩ := ifO hm
  refine dec_cases (p := check s0 = 0) (fun h4 => ?_) (fun h4 => ?_)
  ·replace hm := ifT h4 hm
   refine g_callFV rfl rfl rfl rfl rfl rfl rfl (fun a w => Try.call102 a w) (fun w hh => cx_opened s0 qa0 na0 ca0 qa1 na1 ca1 qa2 na2 ca2 w (HV.callee (S0 := []) (vs0 := []) hh (roC (hh.rsep (S0 := []) (vs0 := []) 0 rfl) (roC (hh.rsep (S0 := []) (vs0 := []) 1 rfl) (roC (hh.rsep (S0 := []) (vs0 := []) 2 rfl) roN)))) hna0 hqa0 hla0 hna1 hqa1 hla1 hna2 hqa2 hla2 h3 h4) (fun b_1 => ?_)
   refine g_val rfl rfl rfl (fun _ _ => v_move rfl) ?_
   refine g_val rfl rfl rfl (fun _ _ => v_extract rfl rfl) ?_
   refine g_val rfl rfl rfl (fun _ _ => v_extract rfl rfl) ?_
   refine g_val rfl rfl rfl (fun _ _ => v_assign rfl) ?_
   refine g_val rfl rfl rfl (fun _ _ => v_assign rfl) ?_
   refine g_nil ?_
   refine g_n_then ?_
   refine g_seq ?_
   refine g_block ?_
   refine g_seq ?_
   refine g_region ?_
   refine g_val rfl rfl rfl (fun _ _ => v_move rfl) ?_
   refine g_val rfl rfl rfl (fun _ _ => v_neq rfl rfl) ?_
   refine g_val rfl rfl rfl (fun _ _ => v_assign rfl) ?_
   refine g_nil ?_
   refine g_n_then ?_
   refine g_condF rfl rfl ?_
   refine g_seq ?_
   refine g_region ?_
   refine g_val rfl rfl rfl (fun _ _ => v_move rfl) ?_
   refine g_val rfl rfl rfl (fun _ _ => v_move rfl) ?_
   obtain ⟨t24, h5, hm⟩ := bindO hm
   refine g_callN rfl rfl rfl rfl rfl rfl rfl (fun a w => Try.call103 a w) (fun w hh => cx_day s0 minute1 b_1 qa0 na0 ca0 qa1 na1 ca1 qa2 na2 ca2 w (HV.callee (S0 := []) (vs0 := []) hh (roC (bsep (hh.bseg 0 rfl)) (roC (hh.rsep (S0 := []) (vs0 := []) 0 rfl) (roC (hh.rsep (S0 := []) (vs0 := []) 1 rfl) (roC (hh.rsep (S0 := []) (vs0 := []) 2 rfl) roN))))) hna0 hqa0 hla0 hna1 hqa1 hla1 hna2 hqa2 hla2 h5) (fun l h6 => ?_)
   refine g_val rfl rfl rfl (fun _ _ => v_not rfl) ?_
   refine g_val rfl rfl rfl (fun _ _ => v_assign rfl) ?_
   refine g_nil ?_
   refine g_n_then ?_
   refine g_cond rfl (fun h7 => ?_) (fun h7 => ?_)
   ·replace hm := ifT (h7) hm
    refine g_seq ?_
    refine g_region ?_
    refine g_val rfl rfl rfl (fun _ _ => v_assign rfl) ?_
    refine g_val rfl rfl rfl (fun _ _ => v_nilS rfl) ?_
    refine g_val rfl rfl rfl (fun _ _ => v_assign rfl) ?_
    refine g_nil ?_
    refine g_n_then ?_
    refine g_ret ?_
    refine g_r_blk ?_
    refine g_r_then ?_
    refine g_r_scp ?_
    refine g_vnil 3 ?_
    obtain rfl := Option.some.inj hm
    refine g_done rfl (fun w hh => (.tmp rfl (.tmp rfl (.tmp rfl .nil)))) (fun w hh => ⟨⟨none, 0, 0, []⟩, rfl, VOK.nil, hh.sel [] [0] 3 (by decide) (by decide) rfl rfl rfl⟩)
   ·replace hm := ifF ((fun hh => Bool.noConfusion ((h7).symm.trans hh))) hm
    refine g_skip ?_
    refine g_n_blk ?_
    refine g_n_then ?_
    refine g_seq ?_
    refine g_region ?_
    refine g_val rfl rfl rfl (fun _ _ => v_nilS rfl) ?_
    refine g_nil ?_
    refine g_n_then ?_
    refine g_seq ?_
    refine g_region ?_
    refine g_val rfl rfl rfl (fun _ _ => v_move rfl) ?_
    obtain ⟨t27, h8, hm⟩ := bindO hm
    refine g_val rfl rfl rfl (fun _ _ => v_addc h8 rfl rfl) ?_
    refine g_val rfl rfl rfl (fun _ _ => v_assign rfl) ?_
    refine g_nil ?_
    refine g_n_then ?_
    refine g_seq ?_
    refine g_label ?_
    refine g_n_then ?_
    refine g_seq ?_
    refine g_vnil 3 ?_
    obtain ⟨o, h9, h10⟩ := bindO hm
    refine g_cut (ι := VL) (fun l_1 => VOK 1 l_1.n l_1.cap (RI.enc o.places9) l_1.sp l_1.q) (fun l_1 => [(9, slv l_1.q l_1.n l_1.cap), (10, .int .i64 o.at10)]) (fun l_1 => [(b_1, .cells #[slv qa0 na0 ca0, .int .i64 s0.wind.lo, .int .i64 s0.wind.hi, slv qa1 na1 ca1, slv qa2 na2 ca2, .int .i64 ((gatesOf s0).getD 0 0), .int .i64 ((gatesOf s0).getD 1 0), .int .i64 ((gatesOf s0).getD 2 0), .int .i64 ((gatesOf s0).getD 3 0), .int .i64 ((gatesOf s0).getD 4 0), .int .i64 ((gatesOf s0).getD 5 0), .int .i64 ((gatesOf s0).getD 6 0), .int .i64 ((gatesOf s0).getD 7 0)] 157 (0, 0)), (b, .cells #[slv qa0 na0 ca0, .int .i64 s0.wind.lo, .int .i64 s0.wind.hi, slv qa1 na1 ca1, slv qa2 na2 ca2] 29 (0, 0))]) (fun l_1 => [⟨3, RI.enc o.places9, l_1.sp, l_1.q, []⟩]) ?_ ?_
    ·replace hm := h9
     refine g_block ?_
     refine g_loopF (ι := VL) hm (fun s l_2 => VOK 1 l_2.n l_2.cap (RI.enc s.places9) l_2.sp l_2.q) (fun s l_2 => [(1, .int .i64 minute1), (2, ptr b 0), (7, ptr b_1 0), (9, slv l_2.q l_2.n l_2.cap), (10, .int .i64 s.at10)]) (fun s l_2 => [(b_1, .cells #[slv qa0 na0 ca0, .int .i64 s0.wind.lo, .int .i64 s0.wind.hi, slv qa1 na1 ca1, slv qa2 na2 ca2, .int .i64 ((gatesOf s0).getD 0 0), .int .i64 ((gatesOf s0).getD 1 0), .int .i64 ((gatesOf s0).getD 2 0), .int .i64 ((gatesOf s0).getD 3 0), .int .i64 ((gatesOf s0).getD 4 0), .int .i64 ((gatesOf s0).getD 5 0), .int .i64 ((gatesOf s0).getD 6 0), .int .i64 ((gatesOf s0).getD 7 0)] 157 (0, 0)), (b, .cells #[slv qa0 na0 ca0, .int .i64 s0.wind.lo, .int .i64 s0.wind.hi, slv qa1 na1 ca1, slv qa2 na2 ca2] 29 (0, 0))]) (fun s l_2 => [⟨3, RI.enc s.places9, l_2.sp, l_2.q, []⟩]) ⟨none, 0, 0, []⟩ (VOK.nil) ((.cons rfl (.cons rfl (.cons rfl (.cons rfl (.cons rfl .nil)))))) (fun w hh => hh) (fun s l_2 r hpl hm h13 => ?_)
     have h12 := hpl
     unfold m_tide_Flood_1_L0 at hm
     refine g_seq ?_
     refine g_seq ?_
     refine g_region ?_
     refine g_val rfl rfl rfl (fun _ _ => v_move rfl) ?_
     refine g_val rfl rfl rfl (fun _ _ => v_move rfl) ?_
     obtain ⟨t30, h14, hm⟩ := bindO hm
     refine g_callN rfl rfl rfl rfl rfl rfl rfl (fun a w => Try.call103 a w) (fun w hh => cx_day s0 s.at10 b_1 qa0 na0 ca0 qa1 na1 ca1 qa2 na2 ca2 w (HV.callee (S0 := []) (vs0 := []) hh (roC (bsep (hh.bseg 0 rfl)) (roC (hh.rsep (S0 := []) (vs0 := []) 0 rfl) (roC (hh.rsep (S0 := []) (vs0 := []) 1 rfl) (roC (hh.rsep (S0 := []) (vs0 := []) 2 rfl) roN))))) hna0 hqa0 hla0 hna1 hqa1 hla1 hna2 hqa2 hla2 h14) (fun l_3 h15 => ?_)
     refine g_nil ?_
     refine g_n_then ?_
     refine g_cond rfl (fun h16 => ?_) (fun h16 => ?_)
     ·replace hm := ifT (h16) hm
      refine g_skip ?_
      refine g_n_then ?_
      refine g_seq ?_
      refine g_block ?_
      refine g_seq ?_
      refine g_seq ?_
      refine g_region ?_
      refine g_val rfl rfl rfl (fun w _ => v_fieldAddr 3 (Try.runUnderlying29 w) rfl (Try.sizeOf26 w) rfl) ?_
      refine g_val rfl rfl rfl (fun w hh => v_load (Try.isAgg26 w) rfl (hh.cell 1 rfl rfl)) ?_
      refine g_val rfl rfl rfl (fun w _ => v_lenN hna1 (Try.runUnderlying26 w) rfl) ?_
      refine g_val rfl rfl rfl (fun _ _ => v_move rfl) ?_
      refine g_nil ?_
      refine g_n_then ?_
      obtain ⟨o_1, h17, h18⟩ := bindO hm
      refine g_cut (ι := VL) (fun l_4 => VOK 1 l_4.n l_4.cap (RI.enc o_1) l_4.sp l_4.q) (fun l_4 => [(1, .int .i64 minute1), (2, ptr b 0), (7, ptr b_1 0), (9, slv l_4.q l_4.n l_4.cap), (10, .int .i64 s.at10)]) (fun l_4 => [(b_1, .cells #[slv qa0 na0 ca0, .int .i64 s0.wind.lo, .int .i64 s0.wind.hi, slv qa1 na1 ca1, slv qa2 na2 ca2, .int .i64 ((gatesOf s0).getD 0 0), .int .i64 ((gatesOf s0).getD 1 0), .int .i64 ((gatesOf s0).getD 2 0), .int .i64 ((gatesOf s0).getD 3 0), .int .i64 ((gatesOf s0).getD 4 0), .int .i64 ((gatesOf s0).getD 5 0), .int .i64 ((gatesOf s0).getD 6 0), .int .i64 ((gatesOf s0).getD 7 0)] 157 (0, 0)), (b, .cells #[slv qa0 na0 ca0, .int .i64 s0.wind.lo, .int .i64 s0.wind.hi, slv qa1 na1 ca1, slv qa2 na2 ca2] 29 (0, 0))]) (fun l_4 => [⟨3, RI.enc o_1, l_4.sp, l_4.q, []⟩]) ?_ ?_
      ·replace hm := h17
       refine g_block ?_
       refine g_loopF (ι := VL) hm (fun s_1 l_5 => VOK 1 l_5.n l_5.cap (RI.enc s_1.places9) l_5.sp l_5.q) (fun s_1 l_5 => [(1, .int .i64 minute1), (2, ptr b 0), (7, ptr b_1 0), (9, slv l_5.q l_5.n l_5.cap), (10, .int .i64 s.at10), (35, .int .i64 (s0.floors.length : Int)), (36, .int .i64 s_1.t36)]) (fun s_1 l_5 => [(b_1, .cells #[slv qa0 na0 ca0, .int .i64 s0.wind.lo, .int .i64 s0.wind.hi, slv qa1 na1 ca1, slv qa2 na2 ca2, .int .i64 ((gatesOf s0).getD 0 0), .int .i64 ((gatesOf s0).getD 1 0), .int .i64 ((gatesOf s0).getD 2 0), .int .i64 ((gatesOf s0).getD 3 0), .int .i64 ((gatesOf s0).getD 4 0), .int .i64 ((gatesOf s0).getD 5 0), .int .i64 ((gatesOf s0).getD 6 0), .int .i64 ((gatesOf s0).getD 7 0)] 157 (0, 0)), (b, .cells #[slv qa0 na0 ca0, .int .i64 s0.wind.lo, .int .i64 s0.wind.hi, slv qa1 na1 ca1, slv qa2 na2 ca2] 29 (0, 0))]) (fun s_1 l_5 => [⟨3, RI.enc s_1.places9, l_5.sp, l_5.q, []⟩]) l_2 (h12) ((.cons rfl (.cons rfl (.cons rfl (.cons rfl (.cons rfl (.cons rfl (.cons rfl .nil)))))))) (fun w hh => hh) (fun s_1 l_5 r_1 hpl hm h21 => ?_)
       have h20 := hpl
       unfold m_tide_Flood_1_L1 at hm
       refine g_seq ?_
       refine g_region ?_
       refine g_val rfl rfl rfl (fun _ _ => v_lss rfl rfl) ?_
       refine g_nil ?_
       refine g_n_then ?_
       refine g_seq ?_
       refine g_cond rfl (fun h22 => ?_) (fun h22 => ?_)
       ·replace hm := ifT (of_decide_eq_true h22) hm
        refine g_skip ?_
        refine g_n_then ?_
        refine g_seq ?_
        obtain ⟨o_2, h23, h24⟩ := bindO hm
        refine g_cut (ι := VL) (fun l_6 => VOK 1 l_6.n l_6.cap (RI.enc o_2) l_6.sp l_6.q) (fun l_6 => [(1, .int .i64 minute1), (2, ptr b 0), (7, ptr b_1 0), (9, slv l_6.q l_6.n l_6.cap), (10, .int .i64 s.at10), (35, .int .i64 (s0.floors.length : Int)), (36, .int .i64 s_1.t36)]) (fun l_6 => [(b_1, .cells #[slv qa0 na0 ca0, .int .i64 s0.wind.lo, .int .i64 s0.wind.hi, slv qa1 na1 ca1, slv qa2 na2 ca2, .int .i64 ((gatesOf s0).getD 0 0), .int .i64 ((gatesOf s0).getD 1 0), .int .i64 ((gatesOf s0).getD 2 0), .int .i64 ((gatesOf s0).getD 3 0), .int .i64 ((gatesOf s0).getD 4 0), .int .i64 ((gatesOf s0).getD 5 0), .int .i64 ((gatesOf s0).getD 6 0), .int .i64 ((gatesOf s0).getD 7 0)] 157 (0, 0)), (b, .cells #[slv qa0 na0 ca0, .int .i64 s0.wind.lo, .int .i64 s0.wind.hi, slv qa1 na1 ca1, slv qa2 na2 ca2] 29 (0, 0))]) (fun l_6 => [⟨3, RI.enc o_2, l_6.sp, l_6.q, []⟩]) ?_ ?_
        ·replace hm := h23
         refine g_block ?_
         refine g_seq ?_
         refine g_region ?_
         refine g_val rfl rfl rfl (fun _ _ => v_move rfl) ?_
         refine g_val rfl rfl rfl (fun _ _ => v_assign rfl) ?_
         refine g_nil ?_
         refine g_n_then ?_
         refine g_seq ?_
         obtain ⟨o_3, h26, h27⟩ := bindO hm
         refine g_cut (ι := Unit) (fun l_7 => True) (fun l_7 => [(1, .int .i64 minute1), (2, ptr b 0), (7, ptr b_1 0), (9, slv l_5.q l_5.n l_5.cap), (10, .int .i64 s.at10), (11, .int .i64 s_1.t36), (35, .int .i64 (s0.floors.length : Int)), (36, .int .i64 s_1.t36), (50, .bool o_3)]) (fun l_7 => [(b_1, .cells #[slv qa0 na0 ca0, .int .i64 s0.wind.lo, .int .i64 s0.wind.hi, slv qa1 na1 ca1, slv qa2 na2 ca2, .int .i64 ((gatesOf s0).getD 0 0), .int .i64 ((gatesOf s0).getD 1 0), .int .i64 ((gatesOf s0).getD 2 0), .int .i64 ((gatesOf s0).getD 3 0), .int .i64 ((gatesOf s0).getD 4 0), .int .i64 ((gatesOf s0).getD 5 0), .int .i64 ((gatesOf s0).getD 6 0), .int .i64 ((gatesOf s0).getD 7 0)] 157 (0, 0)), (b, .cells #[slv qa0 na0 ca0, .int .i64 s0.wind.lo, .int .i64 s0.wind.hi, slv qa1 na1 ca1, slv qa2 na2 ca2] 29 (0, 0))]) (fun l_7 => [⟨3, RI.enc s_1.places9, l_5.sp, l_5.q, []⟩]) ?_ ?_
         ·replace hm := h26
          refine g_region ?_
          refine g_val rfl rfl rfl (fun _ _ => v_move rfl) ?_
          refine g_val rfl rfl rfl (fun _ _ => v_move rfl) ?_
          refine g_val rfl rfl rfl (fun _ _ => v_move rfl) ?_
          obtain ⟨t42, h28, hm⟩ := bindO hm
          refine g_callN rfl rfl rfl rfl rfl rfl rfl (fun a w => Try.call104 a w) (fun w hh => cx_at s0 minute1 s_1.t36 b_1 qa0 na0 ca0 qa1 na1 ca1 qa2 na2 ca2 w (HV.callee (S0 := []) (vs0 := []) hh (roC (bsep (hh.bseg 0 rfl)) (roC (hh.rsep (S0 := []) (vs0 := []) 0 rfl) (roC (hh.rsep (S0 := []) (vs0 := []) 1 rfl) (roC (hh.rsep (S0 := []) (vs0 := []) 2 rfl) roN))))) hna0 hqa0 hla0 hna1 hqa1 hla1 hna2 hqa2 hla2 h28) (fun l_8 h29 => ?_)
          refine g_val rfl rfl rfl (fun _ _ => v_eql rfl rfl) ?_
          refine g_val rfl rfl rfl (fun _ _ => v_move rfl) ?_
          refine g_case 44 rfl (fun h30 => ?_) (fun h30 => ?_)
          ·replace hm := ifT (of_decide_eq_true h30) hm
           refine v_unguard rfl rfl ?_
           refine g_val rfl rfl rfl (fun _ _ => v_move rfl) ?_
           refine v_unguard rfl rfl ?_
           refine g_val rfl rfl rfl (fun _ _ => v_move rfl) ?_
           refine v_unguard rfl rfl ?_
           refine g_val rfl rfl rfl (fun _ _ => v_move rfl) ?_
           refine v_unguard rfl rfl ?_
           obtain ⟨t48, h31, hm⟩ := bindO hm
           refine g_callN rfl rfl rfl rfl rfl rfl rfl (fun a w => Try.call104 a w) (fun w hh => cx_at s0 s.at10 s_1.t36 b_1 qa0 na0 ca0 qa1 na1 ca1 qa2 na2 ca2 w (HV.callee (S0 := []) (vs0 := []) hh (roC (bsep (hh.bseg 0 rfl)) (roC (hh.rsep (S0 := []) (vs0 := []) 0 rfl) (roC (hh.rsep (S0 := []) (vs0 := []) 1 rfl) (roC (hh.rsep (S0 := []) (vs0 := []) 2 rfl) roN))))) hna0 hqa0 hla0 hna1 hqa1 hla1 hna2 hqa2 hla2 h31) (fun l_9 h32 => ?_)
           refine v_unguard rfl rfl ?_
           refine g_val rfl rfl rfl (fun _ _ => v_neq rfl rfl) ?_
           refine g_val rfl rfl rfl (fun _ _ => v_pickT rfl rfl) ?_
           refine g_nil ?_
           obtain rfl := Option.some.inj hm
           exact g_leaf () (trivial) ((.cons rfl (.cons rfl (.cons rfl (.cons rfl (.cons rfl (.cons rfl (.cons rfl (.cons rfl (.cons rfl .nil)))))))))) (fun w hh => hh)
          ·replace hm := ifF (of_decide_eq_false h30) hm
           refine g_skipG rfl rfl rfl rfl rfl rfl ?_
           refine g_skipG rfl rfl rfl rfl rfl rfl ?_
           refine g_skipG rfl rfl rfl rfl rfl rfl ?_
           refine g_skipG rfl rfl rfl rfl rfl rfl ?_
           refine g_skipG rfl rfl rfl rfl rfl rfl ?_
           refine g_val rfl rfl rfl (fun _ _ => v_pickF rfl rfl) ?_
           refine g_nil ?_
           obtain rfl := Option.some.inj hm
           exact g_leaf () (trivial) ((.cons rfl (.cons rfl (.cons rfl (.cons rfl (.cons rfl (.cons rfl (.cons rfl (.cons rfl (.cons rfl .nil)))))))))) (fun w hh => hh)
         ·intro l_7 hj
          replace hm := h27
          refine g_n_then ?_
          refine g_cond rfl (fun h33 => ?_) (fun h33 => ?_)
          ·replace hm := ifT (h33) hm
           refine g_region ?_
           refine g_val rfl rfl rfl (fun _ _ => v_move rfl) ?_
           refine g_val rfl rfl rfl (fun _ _ => v_move rfl) ?_
           refine g_vlit RI [s_1.t36] (ps := [(0, _)]) (cells := [_]) (fun w => Try.runUnderlying26 w) (fun w => Try.sizeOf3 w) (fun w => Try.zeroValue3 w) rfl rfl rfl rfl rfl rfl rfl rfl (fun L h34 => ?_)
           obtain ⟨t54, h35, hm⟩ := bindO hm
           refine g_vapp RI 1 h35 Try.underlying26 gxinf3 rfl rfl rfl rfl rfl h20 rfl rfl (vlen RI h34 rfl) (AOK.q (vne h34)) (fun w hh => (hh.vsegA 0 rfl h34)) rfl (fun L_1 h36 h36n => ?_)
           refine g_sel (S' := [_, _]) (vs' := [_, _]) [0, 1] [0, 1] 0 (by decide) (by decide) rfl rfl rfl ?_
           refine g_val rfl rfl rfl (fun _ _ => v_assign rfl) ?_
           refine g_nil ?_
           refine g_n_blk ?_
           obtain rfl := Option.some.inj hm
           exact g_leaf L_1 (h36) ((.cons rfl (.cons rfl (.cons rfl (.cons rfl (.cons rfl (.cons rfl (.cons rfl .nil)))))))) (fun w hh => hh.sel [0, 1] [1] 0 (by decide) (by decide) rfl rfl rfl)
          ·replace hm := ifF ((fun hh => Bool.noConfusion ((h33).symm.trans hh))) hm
           refine g_skip ?_
           refine g_n_blk ?_
           obtain rfl := Option.some.inj hm
           exact g_leaf l_5 (h20) ((.cons rfl (.cons rfl (.cons rfl (.cons rfl (.cons rfl (.cons rfl (.cons rfl .nil)))))))) (fun w hh => hh)
        ·intro l_6 hj
         have h25 := hj
         replace hm := h24
         refine g_n_then ?_
         refine g_region ?_
         obtain ⟨t55, h37, hm⟩ := bindO hm
         refine g_val rfl rfl rfl (fun _ _ => v_addc h37 rfl rfl) ?_
         refine g_val rfl rfl rfl (fun _ _ => v_move rfl) ?_
         refine g_nil ?_
         obtain rfl := Option.some.inj hm
         refine g_n_then ?_
         exact g_again' _ l_6 rfl (h25) ((.cons rfl (.cons rfl (.cons rfl (.cons rfl (.cons rfl (.cons rfl (.cons rfl .nil)))))))) (fun w hh => hh)
       ·replace hm := ifF (of_decide_eq_false h22) hm
        refine g_exit ?_
        refine g_x_then ?_
        refine g_x_then ?_
        refine g_x_blk ?_
        obtain rfl := Option.some.inj hm
        have hbo := h21 _ rfl
        subst hbo
        exact g_leaf l_5 (h20) ((.cons rfl (.cons rfl (.cons rfl (.cons rfl (.cons rfl .nil)))))) (fun w hh => hh)
      ·intro l_4 hj
       have h19 := hj
       replace hm := h18
       refine g_n_then ?_
       refine g_seq ?_
       refine g_region ?_
       refine g_val rfl rfl rfl (fun _ _ => v_move rfl) ?_
       refine g_val rfl rfl rfl (fun w _ => v_lenN (vlen RI h19 rfl) (Try.runUnderlying26 w) rfl) ?_
       refine g_val rfl rfl rfl (fun _ _ => v_gtr rfl rfl) ?_
       refine g_nil ?_
       refine g_n_then ?_
       refine g_cond rfl (fun h38 => ?_) (fun h38 => ?_)
       ·replace hm := ifT (of_decide_eq_true h38) hm
        refine g_exit ?_
        refine g_x_out rfl ?_
        refine g_x_then ?_
        refine g_x_then ?_
        refine g_x_blk ?_
        obtain rfl := Option.some.inj hm
        have hbo := h13 _ rfl
        subst hbo
        exact g_leaf l_4 (h19) ((.cons rfl (.cons rfl .nil))) (fun w hh => hh)
       ·replace hm := ifF (of_decide_eq_false h38) hm
        refine g_skip ?_
        refine g_n_blk ?_
        refine g_n_then ?_
        refine g_region ?_
        refine g_val rfl rfl rfl (fun _ _ => v_move rfl) ?_
        obtain ⟨t32, h39, hm⟩ := bindO hm
        refine g_val rfl rfl rfl (fun _ _ => v_addc h39 rfl rfl) ?_
        refine g_val rfl rfl rfl (fun _ _ => v_assign rfl) ?_
        refine g_nil ?_
        obtain rfl := Option.some.inj hm
        refine g_n_then ?_
        exact g_again' _ l_4 rfl (h19) ((.cons rfl (.cons rfl (.cons rfl (.cons rfl (.cons rfl .nil)))))) (fun w hh => hh)
     ·replace hm := ifF ((fun hh => Bool.noConfusion ((h16).symm.trans hh))) hm
      refine g_exit ?_
      refine g_x_then ?_
      refine g_x_then ?_
      refine g_x_blk ?_
      obtain rfl := Option.some.inj hm
      have hbo := h13 _ rfl
      subst hbo
      exact g_leaf l_2 (h12) ((.cons rfl (.cons rfl .nil))) (fun w hh => hh)
    ·intro l_1 hj
     have h11 := hj
     replace hm := h10
     refine g_n_then ?_
     refine g_seq ?_
     refine g_seq ?_
     refine g_region ?_
     refine g_val rfl rfl rfl (fun _ _ => v_move rfl) ?_
     refine g_val rfl rfl rfl (fun w _ => v_lenN (vlen RI h11 rfl) (Try.runUnderlying26 w) rfl) ?_
     refine g_val rfl rfl rfl (fun _ _ => v_eql rfl rfl) ?_
     refine g_nil ?_
     refine g_n_then ?_
     refine g_cond rfl (fun h40 => ?_) (fun h40 => ?_)
     ·replace hm := ifT (of_decide_eq_true h40) hm
      refine g_seq ?_
      refine g_region ?_
      refine g_val rfl rfl rfl (fun _ _ => v_assign rfl) ?_
      refine g_val rfl rfl rfl (fun _ _ => v_nilS rfl) ?_
      refine g_val rfl rfl rfl (fun _ _ => v_assign rfl) ?_
      refine g_nil ?_
      refine g_n_then ?_
      refine g_ret ?_
      refine g_r_then ?_
      refine g_r_scp ?_
      refine g_vnil 3 ?_
      obtain rfl := Option.some.inj hm
      refine g_done rfl (fun w hh => (.tmp rfl (.tmp rfl (.tmp rfl .nil)))) (fun w hh => ⟨⟨none, 0, 0, []⟩, rfl, VOK.nil, hh.sel [] [0] 3 (by decide) (by decide) rfl rfl rfl⟩)
     ·replace hm := ifF (of_decide_eq_false h40) hm
      refine g_skip ?_
      refine g_n_then ?_
      refine g_seq ?_
      refine g_region ?_
      refine g_val rfl rfl rfl (fun _ _ => v_move rfl) ?_
      refine g_val rfl rfl rfl (fun _ _ => v_move rfl) ?_
      refine g_val rfl rfl rfl (fun _ _ => v_assign rfl) ?_
      refine g_val rfl rfl rfl (fun _ _ => v_assign rfl) ?_
      refine g_val rfl rfl rfl (fun _ _ => v_assign rfl) ?_
      refine g_nil ?_
      refine g_n_then ?_
      refine g_ret ?_
      refine g_r_scp ?_
      obtain rfl := Option.some.inj hm
      refine g_done rfl (fun w hh => (.tmp rfl (.tmp rfl (.tmp rfl .nil)))) (fun w hh => ⟨l_1, rfl, h11, hh.sel [] [0] 3 (by decide) (by decide) rfl rfl rfl⟩)
  ·replace hm := ifF h4 hm
   refine g_callN rfl rfl rfl rfl rfl rfl rfl (fun a w => Try.call102 a w) (fun w hh => cx_openedE s0 qa0 na0 ca0 qa1 na1 ca1 qa2 na2 ca2 w (HV.callee (S0 := []) (vs0 := []) hh (roC (hh.rsep (S0 := []) (vs0 := []) 0 rfl) (roC (hh.rsep (S0 := []) (vs0 := []) 1 rfl) (roC (hh.rsep (S0 := []) (vs0 := []) 2 rfl) roN)))) hna0 hqa0 hla0 hna1 hqa1 hla1 hna2 hqa2 hla2 h3 h4) (fun l_10 h41 => ?_)
   refine g_val rfl rfl rfl (fun _ _ => v_move rfl) ?_
   refine g_val rfl rfl rfl (fun _ _ => v_extract rfl rfl) ?_
   refine g_val rfl rfl rfl (fun _ _ => v_extract rfl rfl) ?_
   refine g_val rfl rfl rfl (fun _ _ => v_assign rfl) ?_
   refine g_val rfl rfl rfl (fun _ _ => v_assign rfl) ?_
   refine g_nil ?_
   refine g_n_then ?_
   refine g_seq ?_
   refine g_block ?_
   refine g_seq ?_
   refine g_region ?_
   refine g_val rfl rfl rfl (fun _ _ => v_move rfl) ?_
   refine g_val rfl rfl rfl (fun _ _ => v_neqT h4 rfl rfl) ?_
   refine g_val rfl rfl rfl (fun _ _ => v_assign rfl) ?_
   refine g_nil ?_
   refine g_n_then ?_
   refine g_condT rfl rfl ?_
   refine g_seq ?_
   refine g_region ?_
   refine g_val rfl rfl rfl (fun _ _ => v_move rfl) ?_
   refine g_val rfl rfl rfl (fun _ _ => v_assign rfl) ?_
   refine g_val rfl rfl rfl (fun _ _ => v_nilS rfl) ?_
   refine g_val rfl rfl rfl (fun _ _ => v_assign rfl) ?_
   refine g_nil ?_
   refine g_n_then ?_
   refine g_ret ?_
   refine g_r_blk ?_
   refine g_r_then ?_
   refine g_r_scp ?_
   refine g_vnil 3 ?_
   obtain rfl := Option.some.inj hm
   refine g_done rfl (fun w hh => (.tmp rfl (.tmp rfl (.tmp rfl .nil)))) (fun w hh => ⟨⟨none, 0, 0, []⟩, rfl, VOK.nil, hh.sel [] [0] 3 (by decide) (by decide) rfl rfl rfl⟩)
end Go.Proofs.Wk

namespace Go.Proofs.Wk
open Go Go.Gx Go.Pl
set_option linter.unusedVariables false
/-! ### which places flood first -/
def wets (s : Sands) (m a : Int) (p : Nat) : Bool := decide (stateF s m (p : Int) = 0) && !decide (stateF s a (p : Int) = 0)
def floodL (s : Sands) (m a : Int) : List Int := filtL (wets s m a) s.floors.length
def floodK (s : Sands) (m : Int) : Option Nat := (List.range (lastM s - m).toNat).find? fun j : Nat => decide (floodL s m (m + 1 + (j : Int)) ≠ [])
def FloodR (s : Sands) (m : Int) : (Int × List Int) × Int := if check s ≠ 0 then ((0, []), check s) else if dayF s m = false then ((0, []), 3) else match floodK s m with
  | some j => ((m + 1 + (j : Int), floodL s m (m + 1 + (j : Int))), 0)
  | none => ((0, []), 6)
theorem len_pos {l : List Int} : 0 < (l.length : Int) ↔ l ≠ [] := by
  cases l with
  | nil => simp
  | cons x l => simp
theorem flood_L1 {s : Sands} (hG : Good s) {m : Int} (hd : dayF s m = true) {S : m_tide_Flood_1_S0} (ha : dayF s S.at10 = true) : iterM FU (m_tide_Flood_1_L1 s m S) ⟨0, []⟩ = some (floodL s m S.at10) := by
  have hfl := hG.fl
  refine iterM_run (f := m_tide_Flood_1_L1 s m S) (fun k : Nat => (⟨(k : Int), filtL (wets s m S.at10) k⟩ : m_tide_Flood_1_S1)) s.floors.length (fun k hk => ?_) ?_ FU (FU_lt (by omega))
  · have hp : isPlace s (k : Int) = true := isPlace_iff.2 ⟨by omega, by omega⟩
    have hlen := filtL_len (p := wets s m S.at10) (k := k)
    unfold m_tide_Flood_1_L1
    dsimp only
    rw [if_pos (by omega), x_at_eq hG hd hp, Option.bind_some, filtL_succ]
    unfold wets
    by_cases h0 : stateF s m (k : Int) = 0
    · rw [if_pos h0, x_at_eq hG ha hp, Option.bind_some, Option.bind_some, decide_eq_true h0, Bool.true_and]
      by_cases h1 : (!decide (stateF s S.at10 (k : Int) = 0)) = true
      · rw [if_pos h1, if_pos h1, appc_eq (by simp only [List.length_singleton]; unfold wets at hlen; omega), Option.bind_some, Option.bind_some, addc_eq (by omega), Option.bind_some]
        rfl
      · rw [if_neg h1, if_neg h1, Option.bind_some, addc_eq (by omega), Option.bind_some]
        rfl
    · rw [if_neg h0, Option.bind_some, if_neg (by decide), Option.bind_some, addc_eq (by omega), Option.bind_some, decide_eq_false h0, Bool.false_and, if_neg (by decide)]
      rfl
  · unfold m_tide_Flood_1_L1
    dsimp only
    rw [if_neg (by omega)]
    rfl
theorem flood_eq {s : Sands} (hS : Short s) {m : Int} : m_tide_Flood_1 s m = some ⟨(FloodR s m).1.1, (FloodR s m).2, (FloodR s m).1.2⟩ := by
  have h1 := hS.t
  have h2 := hS.f
  have h3 := hS.s
  unfold m_tide_Flood_1 FloodR
  rw [if_pos ⟨by omega, by omega, by omega⟩]
  by_cases hc : check s = 0
  · have hG := good_of_check hc
    have hds := day_span hG
    rw [if_pos hc, if_neg (show ¬ (check s ≠ 0) by rw [hc]; simp), x_day_eq hG, Option.bind_some]
    by_cases hd : dayF s m = true
    · have hd' := hd
      simp only [dayF, inr_iff] at hd'
      rw [hd, if_neg (by decide), if_neg (show ¬ (true = false) by decide), addc_eq (by omega), Option.bind_some]
      have key := iterM_find (f := m_tide_Flood_1_L0 s m) (fun k : Nat => (⟨m + 1 + (k : Int), []⟩ : m_tide_Flood_1_S0)) (lastM s - m).toNat (fun j : Nat => decide (floodL s m (m + 1 + (j : Int)) ≠ [])) (fun j => ⟨m + 1 + (j : Int), floodL s m (m + 1 + (j : Int))⟩) ⟨lastM s + 1, []⟩ (fun k hk _ => by
        have ha : dayF s (m + 1 + (k : Int)) = true := by simp only [dayF, inr_iff]; omega
        unfold m_tide_Flood_1_L0
        dsimp only
        rw [x_day_eq hG, Option.bind_some, ha, if_pos rfl, flood_L1 hG hd (S := ⟨m + 1 + (k : Int), []⟩) ha, Option.bind_some]
        by_cases hne : floodL s m (m + 1 + (k : Int)) = []
        · rw [if_neg (by rw [hne]; simp), addc_eq (by omega), Option.bind_some, if_neg (by simp [hne]), hne]
          rw [show m + 1 + (k : Int) + 1 = m + 1 + ((k + 1 : Nat) : Int) by omega]
        · rw [if_pos (len_pos.2 hne), if_pos (by simp [hne])]) (by
        have ha : dayF s (m + 1 + (((lastM s - m).toNat : Nat) : Int)) = false := by
          cases h : dayF s (m + 1 + (((lastM s - m).toNat : Nat) : Int)) with
          | false => rfl
          | true => simp only [dayF, inr_iff] at h; omega
        unfold m_tide_Flood_1_L0
        dsimp only
        rw [x_day_eq hG, Option.bind_some, ha, if_neg (by decide), show m + 1 + (((lastM s - m).toNat : Nat) : Int) = lastM s + 1 by omega]) (N := FU) (FU_lt (by omega))
      have hz : (⟨m + 1, []⟩ : m_tide_Flood_1_S0) = (fun k : Nat => (⟨m + 1 + (k : Int), []⟩ : m_tide_Flood_1_S0)) 0 := by simp
      rw [hz, key, Option.bind_some]
      unfold floodK
      cases hf : (List.range (lastM s - m).toNat).find? (fun j : Nat => decide (floodL s m (m + 1 + (j : Int)) ≠ [])) with
      | none => rfl
      | some j =>
        have hj := List.find?_some hf
        have hne : floodL s m (m + 1 + (j : Int)) ≠ [] := of_decide_eq_true hj
        have := len_pos.2 hne
        dsimp only
        rw [if_neg (by omega)]
    · have hd' : dayF s m = false := by simpa using hd
      rw [hd', if_pos (show (!false) = true from rfl), if_pos rfl]
  · rw [if_neg hc, if_pos (show check s ≠ 0 from hc)]
end Go.Proofs.Wk

namespace Go.Proofs.Wk
open Go Go.Gx Go.Pl
set_option linter.unusedVariables false
/-- not dry: there is no turn -/
theorem turn_none {s : Sands} (hG : Good s) {p m : Int} (hp : isPlace s p = true) (hd : dayF s m = true) (h0 : stateF s m p ≠ 0) : TurnR s p m = (0, 6) := by
  have hr := (spans_runs hG (p := isState s p 0)).1
  have hE : spansE s p 0 = 0 := by
    unfold spansE
    rw [check_of_good hG, hp]
    rfl
  have hi : idxf (fun x : Span => inr m x.lo x.hi) (spansF s (isState s p 0)) < 0 := by
    refine Int.not_le.1 fun h => ?_
    have hrg := idxf_range (p := fun x : Span => inr m x.lo x.hi) (l := spansF s (isState s p 0))
    have hin := idxf_holds (d := default) (p := fun x : Span => inr m x.lo x.hi) (l := spansF s (isState s p 0)) h
    generalize idxf (fun x : Span => inr m x.lo x.hi) (spansF s (isState s p 0)) = i at h hrg hin
    have hm := mem_getD (d := (default : Span)) (l := spansF s (isState s p 0)) (j := i.toNat) (by omega)
    have hin2 := inr_iff.1 hin
    have := (hr _ hm).2.2.2.1 m hin2.1 hin2.2
    exact h0 (of_decide_eq_true this)
  unfold TurnR
  rw [hE, hd, if_neg (by simp), if_neg (by simp), if_pos hi]
end Go.Proofs.Wk

