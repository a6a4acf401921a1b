/- What the functions that the law TideLooked reaches come to, and why it holds: part 4. -/
import Derived.Test.YtaicfimbclibpaaTideLooked3
namespace Go.Proofs.Wk
open Go Go.Fw Go.Gx Go.Pl
set_option linter.unusedVariables false
theorem gxinf3 : (Try.prog.info? 3).map (fun i => (i.zero, i.size, i.bytes)) = some (some (.int .i64 0), 1, 8) := by kernel_rfl
theorem gxinf51 : (Try.prog.info? 51).map (fun i => (i.zero, i.size, i.bytes)) = some (some (.agg #[.int .i64 0, .int .i64 0, .int .i64 0]), 3, 24) := by kernel_rfl
theorem gxinf68 : (Try.prog.info? 68).map (fun i => (i.zero, i.size, i.bytes)) = some (some (.agg #[.int .i64 0, .int .i64 0]), 2, 16) := by kernel_rfl
theorem gxinf89 : (Try.prog.info? 89).map (fun i => (i.zero, i.size, i.bytes)) = some (some (.agg #[.int .i64 0, .int .i64 0, .bool false]), 3, 24) := by kernel_rfl
set_option maxRecDepth 100000 in
theorem gxeqg89 : Try.prog.eqGuardType Try.prog.depth 89 = false := by decide +kernel
set_option maxRecDepth 100000 in
theorem gxsth89 : Try.prog.stoodInHeld 89 = false := by decide +kernel
set_option maxRecDepth 100000 in
theorem gxeq89 (x y : Look) (w : World) : (Op.equalIn 10000 89 (.agg (RL.cells x).toArray) (.agg (RL.cells y).toArray)).run Try.prog w = .ok (decide (x = y)) w := by
  have h := equal_struct (xs := (RL.cells x).toArray) (ys := (RL.cells y).toArray) Try.underlying89 gxsth89 (.int rfl (fun w => Try.isAgg3 w) ⟨_, Try.underlying3⟩ rfl rfl (.int rfl (fun w => Try.isAgg3 w) ⟨_, Try.underlying3⟩ rfl rfl (.bool rfl (fun w => Try.isAgg4 w) Try.underlying4 rfl rfl .nil))) w
  rw [h]
  congr 1
  cases x; cases y
  rw [Bool.eq_iff_iff]
  simp only [Bool.and_eq_true, decide_eq_true_eq, Look.mk.injEq, and_true]
structure m_laurelkit_Pile_R where
  t5_1 : Int
  t5_2 : Int
def m_laurelkit_Pile (shells0 : (List Int)) : Option m_laurelkit_Pile_R :=
 some (⟨0, 0⟩ : m_laurelkit_Pile_R)
set_option maxRecDepth 100000 in
set_option maxHeartbeats 4000000 in
theorem c_laurelkit_Pile (shells0 : (List Int)) (qa0 : Option Addr) (na0 ca0 : Nat) (w : World) (hw : HV w (keys [] []) [] [] [(aB qa0, aO qa0, RU8.enc shells0)] w) (hna0 : shells0.length = na0) (hqa0 : AOK na0 qa0) (hla0 : na0 ≤ ca0) {res : m_laurelkit_Pile_R} (hm : m_laurelkit_Pile shells0 = some res) :
    Calls Try.prog 19 #[.slice qa0 na0 ca0] w (fun en w' => ∃ l : Nat, en = .returned (ptr l 0) ∧ (True) ∧ HV w (keys [] []) [(l, .cells #[.slice qa0 na0 ca0, .int .i64 res.t5_1, .int .u32 res.t5_2] 138 (0, 0))] [] [] w') := by
  unfold m_laurelkit_Pile at hm
  refine g_enter (args := [.slice qa0 na0 ca0]) Try.func19 rfl Try.ntmps19 rfl (e := [(0, _)]) rfl (H := HV w (keys [] []) [] [] [(aB qa0, aO qa0, RU8.enc shells0)]) hw ?_
  refine g_seq ?_
  refine g_region ?_
  refine g_val rfl rfl rfl (fun _ _ => v_assign rfl) ?_
  refine g_nil ?_
  refine g_n_then ?_
  refine g_seq ?_
  refine g_region ?_
  refine g_val rfl rfl rfl (fun _ _ => v_move rfl) ?_
  refine g_val rfl rfl rfl (fun _ _ => v_build (vs := [(0, _)]) (cells := [_, _, _]) rfl rfl) ?_
  refine g_boxV rfl rfl (fun b h1 => ?_)
  refine g_val rfl rfl rfl (fun _ _ => v_assign rfl) ?_
  refine g_nil ?_
  refine g_n_then ?_
  refine g_ret ?_
  obtain rfl := Option.some.inj hm
  refine g_done rfl (fun w hh => (.tmp rfl .nil)) (fun w hh => ⟨b, rfl, trivial, hh.sel [0] [] 1 (by decide) (by decide) rfl rfl rfl⟩)
structure m_laurelkit_Heap_pick_R where
  r0 : Int
  h0_1 : Int
  h0_2 : Int
structure m_laurelkit_Heap_pick_C1 where
  h0_1 : Int
  h0_2 : Int
def m_laurelkit_Heap_pick (h00 : (List Int)) (h01 : Int) (h02 : Int) : Option m_laurelkit_Heap_pick_R :=
 (if h01 < (h00.length : Int) then
 ((ix h00 h01).bind fun t29 =>
 some (IntKind.u32.wrap ((IntKind.u32.wrap (40503 * (IntKind.u32.wrap (h02 + 1)))) + (IntKind.u32.wrap (331 * (IntKind.u32.wrap t29)))))) else
 (some (IntKind.u32.wrap (40503 * (IntKind.u32.wrap (h02 + 1)))))).bind fun o =>
 ((addc h01 1).bind fun t38 =>
 if (h00.length : Int) ≤ t38 then
 (some (⟨0, (IntKind.u32.wrap (h02 + 1))⟩ : m_laurelkit_Heap_pick_C1)) else
 (some (⟨t38, h02⟩ : m_laurelkit_Heap_pick_C1))).bind fun o_1 =>
 some (⟨(IntKind.i64.wrap (IntKind.u32.wrap (BitVec.ofInt IntKind.u32.bits (IntKind.u32.wrap (BitVec.ofInt IntKind.u32.bits o ^^^ BitVec.ofInt IntKind.u32.bits (Int.fdiv o (2 ^ min (Int.toNat 9) IntKind.u32.bits))).toNat) &&& BitVec.ofInt IntKind.u32.bits 32767).toNat)), o_1.h0_1, o_1.h0_2⟩ : m_laurelkit_Heap_pick_R)
set_option maxRecDepth 100000 in
set_option maxHeartbeats 4000000 in
theorem c_laurelkit_Heap_pick (h00 : (List Int)) (h01 : Int) (h02 : Int) (pb : Nat) (qa0 : Option Addr) (na0 ca0 : Nat) (w : World) (hw : HV w (keys [(pb, .cells #[.slice qa0 na0 ca0, .int .i64 h01, .int .u32 h02] 138 (0, 0))] []) [(pb, .cells #[.slice qa0 na0 ca0, .int .i64 h01, .int .u32 h02] 138 (0, 0))] [] [(aB qa0, aO qa0, RU8.enc h00)] w) (hna0 : h00.length = na0) (hqa0 : AOK na0 qa0) (hla0 : na0 ≤ ca0) {res : m_laurelkit_Heap_pick_R} (hm : m_laurelkit_Heap_pick h00 h01 h02 = some res) :
    Calls Try.prog 132 #[ptr pb 0] w (fun en w' => ∃ l : Unit, en = .returned (.int .i64 res.r0) ∧ (True) ∧ HV w (keys [(pb, .cells #[.slice qa0 na0 ca0, .int .i64 h01, .int .u32 h02] 138 (0, 0))] []) [(pb, .cells #[.slice qa0 na0 ca0, .int .i64 res.h0_1, .int .u32 res.h0_2] 138 (0, 0))] [] [] w') := by
  unfold m_laurelkit_Heap_pick at hm
  refine g_enter (args := [ptr pb 0]) Try.func132 rfl Try.ntmps132 rfl (e := [(0, _)]) rfl (H := HV w (keys [(pb, .cells #[.slice qa0 na0 ca0, .int .i64 h01, .int .u32 h02] 138 (0, 0))] []) [(pb, .cells #[.slice qa0 na0 ca0, .int .i64 h01, .int .u32 h02] 138 (0, 0))] [] [(aB qa0, aO qa0, RU8.enc h00)]) hw ?_
  refine g_seq ?_
  refine g_region ?_
  refine g_val rfl rfl rfl (fun _ _ => v_assign rfl) ?_
  refine g_nil ?_
  refine g_n_then ?_
  refine g_seq ?_
  refine g_region ?_
  refine g_val rfl rfl rfl (fun _ _ => v_move rfl) ?_
  refine g_val rfl rfl rfl (fun _ _ => v_nilCheck rfl) ?_
  refine g_val rfl rfl rfl (fun w _ => v_fieldAddr 2 (Try.runUnderlying138 w) rfl (Try.sizeOf136 w) rfl) ?_
  refine g_val rfl rfl rfl (fun w hh => v_load (Try.isAgg136 w) rfl (hh.cell 0 rfl rfl)) ?_
  refine g_val rfl rfl rfl (fun _ _ => v_addW rfl rfl) ?_
  refine g_val rfl rfl rfl (fun _ _ => v_mulW rfl rfl) ?_
  refine g_val rfl rfl rfl (fun _ _ => v_assign rfl) ?_
  refine g_nil ?_
  refine g_n_then ?_
  refine g_seq ?_
  obtain ⟨o, h1, h2⟩ := bindO hm
  refine g_cut (ι := Unit) (fun l => True) (fun l => [(0, ptr pb 0), (3, .int .u32 o)]) (fun l => [(pb, .cells #[.slice qa0 na0 ca0, .int .i64 h01, .int .u32 h02] 138 (0, 0))]) (fun l => []) ?_ ?_
  ·replace hm := h1
   refine g_seq ?_
   refine g_draw none (.free 0 (.free 1 (.free 2 (.hoist 3 (.free 4 (.free 5 (.free 6 (.hoist 7 (.free 8 (.free 9 .done)))))))))) _ rfl (by decide +kernel) (fun w k hh => hh.draw k) (fun w hh => hh) ?_
   refine p_free rfl rfl rfl rfl (fun _ _ => v_move rfl) ?_
   refine p_free rfl rfl rfl rfl (fun _ _ => v_nilCheck rfl) ?_
   refine p_free rfl rfl rfl rfl (fun w _ => v_fieldAddr 1 (Try.runUnderlying138 w) rfl (Try.sizeOf3 w) rfl) ?_
   refine p_hoist rfl rfl rfl rfl (fun w hh => v_load (Try.isAgg3 w) rfl (hh.cell 0 rfl rfl)) ?_
   refine p_free rfl rfl rfl rfl (fun _ _ => v_move rfl) ?_
   refine p_free rfl rfl rfl rfl (fun _ _ => v_nilCheck rfl) ?_
   refine p_free rfl rfl rfl rfl (fun w _ => v_fieldAddr 0 (Try.runUnderlying138 w) rfl (Try.sizeOf22 w) rfl) ?_
   refine p_hoist rfl rfl rfl rfl (fun w hh => v_load (Try.isAgg22 w) rfl (hh.cell 0 rfl rfl)) ?_
   refine p_free rfl rfl rfl rfl (fun w _ => v_lenR hna0 (Try.runUnderlying22 w) rfl) ?_
   refine p_free rfl rfl rfl rfl (fun _ _ => v_lss rfl rfl) ?_
   refine p_done ?_
   refine g_n_then ?_
   refine g_cond rfl (fun h3 => ?_) (fun h3 => ?_)
   ·replace hm := ifT (of_decide_eq_true h3) hm
    refine g_draw none (.free 0 (.free 1 (.free 2 (.free 3 (.hoist 4 (.free 5 (.free 6 (.free 7 (.hoist 8 (.free 9 (.hoist 10 (.free 11 (.free 12 (.free 13 (.free 14 .done))))))))))))))) _ rfl (by decide +kernel) (fun w k hh => hh.draw k) (fun w hh => hh) ?_
    refine p_free rfl rfl rfl rfl (fun _ _ => v_move rfl) ?_
    refine p_free rfl rfl rfl rfl (fun _ _ => v_move rfl) ?_
    refine p_free rfl rfl rfl rfl (fun _ _ => v_nilCheck rfl) ?_
    refine p_free rfl rfl rfl rfl (fun w _ => v_fieldAddr 0 (Try.runUnderlying138 w) rfl (Try.sizeOf22 w) rfl) ?_
    refine p_hoist rfl rfl rfl rfl (fun w hh => v_load (Try.isAgg22 w) rfl (hh.cell 0 rfl rfl)) ?_
    refine p_free rfl rfl rfl rfl (fun _ _ => v_move rfl) ?_
    refine p_free rfl rfl rfl rfl (fun _ _ => v_nilCheck rfl) ?_
    refine p_free rfl rfl rfl rfl (fun w _ => v_fieldAddr 1 (Try.runUnderlying138 w) rfl (Try.sizeOf3 w) rfl) ?_
    refine p_hoist rfl rfl rfl rfl (fun w hh => v_load (Try.isAgg3 w) rfl (hh.cell 0 rfl rfl)) ?_
    obtain ⟨t29, h4, hm⟩ := bindO hm
    refine p_free rfl rfl rfl rfl (fun w _ => v_ixR h4 (Try.runUnderlying22 w) (Try.sizeOf5 w) rfl rfl hna0 hqa0) ?_
    refine p_hoist rfl rfl rfl rfl (fun w hh => v_ldE RU8 0 h4 (Try.isAgg5 w) rfl (hh.seg 0 rfl) rfl (Nat.add_zero _).symm) ?_
    refine p_free rfl rfl rfl rfl (fun w _ => v_conv (Try.runUnderlying5 w) (Try.runUnderlying136 w) rfl) ?_
    refine p_free rfl rfl rfl rfl (fun _ _ => v_mulW rfl rfl) ?_
    refine p_free rfl rfl rfl rfl (fun _ _ => v_addW rfl rfl) ?_
    refine p_free rfl rfl rfl rfl (fun _ _ => v_assign rfl) ?_
    refine p_done ?_
    obtain rfl := Option.some.inj hm
    exact g_leaf () (trivial) ((.cons rfl (.cons rfl .nil))) (fun w hh => hh)
   ·replace hm := ifF (of_decide_eq_false h3) hm
    refine g_skip ?_
    obtain rfl := Option.some.inj hm
    exact g_leaf () (trivial) ((.cons rfl (.cons rfl .nil))) (fun w hh => hh)
  ·intro l hj
   replace hm := h2
   refine g_n_then ?_
   refine g_seq ?_
   obtain ⟨o_1, h5, h6⟩ := bindO hm
   refine g_cut (ι := Unit) (fun l_1 => True) (fun l_1 => [(3, .int .u32 o)]) (fun l_1 => [(pb, .cells #[.slice qa0 na0 ca0, .int .i64 o_1.h0_1, .int .u32 o_1.h0_2] 138 (0, 0))]) (fun l_1 => []) ?_ ?_
   ·replace hm := h5
    refine g_seq ?_
    refine g_region ?_
    refine g_val rfl rfl rfl (fun _ _ => v_move rfl) ?_
    refine g_val rfl rfl rfl (fun _ _ => v_nilCheck rfl) ?_
    refine g_val rfl rfl rfl (fun w _ => v_fieldAddr 1 (Try.runUnderlying138 w) rfl (Try.sizeOf3 w) rfl) ?_
    refine g_val rfl rfl rfl (fun w hh => v_load (Try.isAgg3 w) rfl (hh.cell 0 rfl rfl)) ?_
    obtain ⟨t38, h7, hm⟩ := bindO hm
    refine g_val rfl rfl rfl (fun _ _ => v_addc h7 rfl rfl) ?_
    refine g_val rfl rfl rfl (fun _ _ => v_nilCheck rfl) ?_
    refine g_val rfl rfl rfl (fun w _ => v_fieldAddr 1 (Try.runUnderlying138 w) rfl (Try.sizeOf3 w) rfl) ?_
    refine g_stS (cs' := #[_, _, _]) (S' := [_]) 0 (fun w => Try.sizeOf3 w) rfl rfl rfl rfl rfl rfl rfl ?_
    refine g_nil ?_
    refine g_n_then ?_
    refine g_seq ?_
    refine g_draw none (.free 0 (.free 1 (.free 2 (.hoist 3 (.free 4 (.free 5 (.free 6 (.hoist 7 (.free 8 (.free 9 .done)))))))))) _ rfl (by decide +kernel) (fun w k hh => hh.draw k) (fun w hh => hh) ?_
    refine p_free rfl rfl rfl rfl (fun _ _ => v_move rfl) ?_
    refine p_free rfl rfl rfl rfl (fun _ _ => v_nilCheck rfl) ?_
    refine p_free rfl rfl rfl rfl (fun w _ => v_fieldAddr 1 (Try.runUnderlying138 w) rfl (Try.sizeOf3 w) rfl) ?_
    refine p_hoist rfl rfl rfl rfl (fun w hh => v_load (Try.isAgg3 w) rfl (hh.cell 0 rfl rfl)) ?_
    refine p_free rfl rfl rfl rfl (fun _ _ => v_move rfl) ?_
    refine p_free rfl rfl rfl rfl (fun _ _ => v_nilCheck rfl) ?_
    refine p_free rfl rfl rfl rfl (fun w _ => v_fieldAddr 0 (Try.runUnderlying138 w) rfl (Try.sizeOf22 w) rfl) ?_
    refine p_hoist rfl rfl rfl rfl (fun w hh => v_load (Try.isAgg22 w) rfl (hh.cell 0 rfl rfl)) ?_
    refine p_free rfl rfl rfl rfl (fun w _ => v_lenR hna0 (Try.runUnderlying22 w) rfl) ?_
    refine p_free rfl rfl rfl rfl (fun _ _ => v_geq rfl rfl) ?_
    refine p_done ?_
    refine g_n_then ?_
    refine g_cond rfl (fun h8 => ?_) (fun h8 => ?_)
    ·replace hm := ifT (of_decide_eq_true h8) hm
     refine g_region ?_
     refine g_val rfl rfl rfl (fun _ _ => v_move rfl) ?_
     refine g_val rfl rfl rfl (fun _ _ => v_move rfl) ?_
     refine g_val rfl rfl rfl (fun _ _ => v_move rfl) ?_
     refine g_val rfl rfl rfl (fun _ _ => v_nilCheck rfl) ?_
     refine g_val rfl rfl rfl (fun w _ => v_fieldAddr 2 (Try.runUnderlying138 w) rfl (Try.sizeOf136 w) rfl) ?_
     refine g_val rfl rfl rfl (fun w hh => v_load (Try.isAgg136 w) rfl (hh.cell 0 rfl rfl)) ?_
     refine g_val rfl rfl rfl (fun _ _ => v_addW rfl rfl) ?_
     refine g_val rfl rfl rfl (fun _ _ => v_nilCheck rfl) ?_
     refine g_val rfl rfl rfl (fun w _ => v_fieldAddr 1 (Try.runUnderlying138 w) rfl (Try.sizeOf3 w) rfl) ?_
     refine g_stS (cs' := #[_, _, _]) (S' := [_]) 0 (fun w => Try.sizeOf3 w) rfl rfl rfl rfl rfl rfl rfl ?_
     refine g_val rfl rfl rfl (fun _ _ => v_nilCheck rfl) ?_
     refine g_val rfl rfl rfl (fun w _ => v_fieldAddr 2 (Try.runUnderlying138 w) rfl (Try.sizeOf136 w) rfl) ?_
     refine g_stS (cs' := #[_, _, _]) (S' := [_]) 0 (fun w => Try.sizeOf136 w) rfl rfl rfl rfl rfl rfl rfl ?_
     refine g_nil ?_
     obtain rfl := Option.some.inj hm
     exact g_leaf () (trivial) ((.cons rfl .nil)) (fun w hh => hh)
    ·replace hm := ifF (of_decide_eq_false h8) hm
     refine g_skip ?_
     obtain rfl := Option.some.inj hm
     exact g_leaf () (trivial) ((.cons rfl .nil)) (fun w hh => hh)
   ·intro l_1 hj
    replace hm := h6
    refine g_n_then ?_
    refine g_seq ?_
    refine g_region ?_
    refine g_val rfl rfl rfl (fun _ _ => v_move rfl) ?_
    refine g_val rfl rfl rfl (fun _ _ => v_move rfl) ?_
    refine g_val rfl rfl rfl (fun _ _ => v_shr rfl rfl (by decide)) ?_
    refine g_val rfl rfl rfl (fun _ _ => v_bits rfl rfl rfl) ?_
    refine g_val rfl rfl rfl (fun _ _ => v_bits rfl rfl rfl) ?_
    refine g_val rfl rfl rfl (fun w _ => v_conv (Try.runUnderlying136 w) (Try.runUnderlying3 w) rfl) ?_
    refine g_val rfl rfl rfl (fun _ _ => v_assign rfl) ?_
    refine g_nil ?_
    refine g_n_then ?_
    refine g_ret ?_
    obtain rfl := Option.some.inj hm
    refine g_done rfl (fun w hh => (.tmp rfl .nil)) (fun w hh => ⟨(), rfl, trivial, hh.sel [0] [] 1 (by decide) (by decide) rfl rfl rfl⟩)
structure m_laurelkit_Heap_Upto_R where
  r0 : Int
  h0_1 : Int
  h0_2 : Int
def m_laurelkit_Heap_Upto (h00 : (List Int)) (h01 : Int) (h02 : Int) (n1 : Int) : Option m_laurelkit_Heap_Upto_R :=
 (m_laurelkit_Heap_pick h00 h01 h02).bind fun t6 =>
 (addc n1 1).bind fun t8 =>
 (remc t6.r0 (max 1 t8)).bind fun t10 =>
 some (⟨t10, t6.h0_1, t6.h0_2⟩ : m_laurelkit_Heap_Upto_R)
set_option maxRecDepth 100000 in
set_option maxHeartbeats 4000000 in
theorem c_laurelkit_Heap_Upto (h00 : (List Int)) (h01 : Int) (h02 : Int) (n1 : Int) (pb : Nat) (qa0 : Option Addr) (na0 ca0 : Nat) (w : World) (hw : HV w (keys [(pb, .cells #[.slice qa0 na0 ca0, .int .i64 h01, .int .u32 h02] 138 (0, 0))] []) [(pb, .cells #[.slice qa0 na0 ca0, .int .i64 h01, .int .u32 h02] 138 (0, 0))] [] [(aB qa0, aO qa0, RU8.enc h00)] w) (hna0 : h00.length = na0) (hqa0 : AOK na0 qa0) (hla0 : na0 ≤ ca0) {res : m_laurelkit_Heap_Upto_R} (hm : m_laurelkit_Heap_Upto h00 h01 h02 n1 = some res) :
    Calls Try.prog 64 #[ptr pb 0, .int .i64 n1] w (fun en w' => ∃ l : Unit, en = .returned (.int .i64 res.r0) ∧ (True) ∧ HV w (keys [(pb, .cells #[.slice qa0 na0 ca0, .int .i64 h01, .int .u32 h02] 138 (0, 0))] []) [(pb, .cells #[.slice qa0 na0 ca0, .int .i64 res.h0_1, .int .u32 res.h0_2] 138 (0, 0))] [] [] w') := by
  unfold m_laurelkit_Heap_Upto at hm
  refine g_enter (args := [ptr pb 0, .int .i64 n1]) Try.func64 rfl Try.ntmps64 rfl (e := [(0, _), (1, _)]) rfl (H := HV w (keys [(pb, .cells #[.slice qa0 na0 ca0, .int .i64 h01, .int .u32 h02] 138 (0, 0))] []) [(pb, .cells #[.slice qa0 na0 ca0, .int .i64 h01, .int .u32 h02] 138 (0, 0))] [] [(aB qa0, aO qa0, RU8.enc h00)]) hw ?_
  refine g_seq ?_
  refine g_region ?_
  refine g_val rfl rfl rfl (fun _ _ => v_assign rfl) ?_
  refine g_nil ?_
  refine g_n_then ?_
  refine g_seq ?_
  refine g_region ?_
  refine g_val rfl rfl rfl (fun _ _ => v_move rfl) ?_
  obtain ⟨t6, h1, hm⟩ := bindO hm
  refine g_callH [_] [] rfl rfl rfl rfl rfl rfl rfl (fun a w => Try.call132 a w) (fun w hh => c_laurelkit_Heap_pick h00 h01 h02 pb qa0 na0 ca0 w (HV.callee (S0 := [_]) (vs0 := []) hh (roC (hh.rsep (S0 := [_]) (vs0 := []) 0 rfl) roN)) hna0 hqa0 hla0 h1) (fun l h2 => ?_)
  refine g_sel (S' := [_]) (vs' := []) [0] [] 0 (by decide) (by decide) rfl rfl rfl ?_
  refine g_val rfl rfl rfl (fun _ _ => v_move rfl) ?_
  obtain ⟨t8, h3, hm⟩ := bindO hm
  refine g_val rfl rfl rfl (fun _ _ => v_addc h3 rfl rfl) ?_
  refine g_val rfl rfl rfl (fun _ _ => v_max rfl rfl) ?_
  obtain ⟨t10, h4, hm⟩ := bindO hm
  refine g_val rfl rfl rfl (fun _ _ => v_remc h4 rfl rfl) ?_
  refine g_val rfl rfl rfl (fun _ _ => v_assign rfl) ?_
  refine g_nil ?_
  refine g_n_then ?_
  refine g_ret ?_
  obtain rfl := Option.some.inj hm
  refine g_done rfl (fun w hh => (.tmp rfl .nil)) (fun w hh => ⟨(), rfl, trivial, hh.sel [0] [] 1 (by decide) (by decide) rfl rfl rfl⟩)
structure m_laurelkit_Heap_From_R where
  r0 : Int
  h0_1 : Int
  h0_2 : Int
def m_laurelkit_Heap_From (h00 : (List Int)) (h01 : Int) (h02 : Int) (lo1 : Int) (hi2 : Int) : Option m_laurelkit_Heap_From_R :=
 (subc hi2 lo1).bind fun t11 =>
 (m_laurelkit_Heap_Upto h00 h01 h02 t11).bind fun t12 =>
 (addc lo1 t12.r0).bind fun t13 =>
 some (⟨t13, t12.h0_1, t12.h0_2⟩ : m_laurelkit_Heap_From_R)
set_option maxRecDepth 100000 in
set_option maxHeartbeats 4000000 in
theorem c_laurelkit_Heap_From (h00 : (List Int)) (h01 : Int) (h02 : Int) (lo1 : Int) (hi2 : Int) (pb : Nat) (qa0 : Option Addr) (na0 ca0 : Nat) (w : World) (hw : HV w (keys [(pb, .cells #[.slice qa0 na0 ca0, .int .i64 h01, .int .u32 h02] 138 (0, 0))] []) [(pb, .cells #[.slice qa0 na0 ca0, .int .i64 h01, .int .u32 h02] 138 (0, 0))] [] [(aB qa0, aO qa0, RU8.enc h00)] w) (hna0 : h00.length = na0) (hqa0 : AOK na0 qa0) (hla0 : na0 ≤ ca0) {res : m_laurelkit_Heap_From_R} (hm : m_laurelkit_Heap_From h00 h01 h02 lo1 hi2 = some res) :
    Calls Try.prog 20 #[ptr pb 0, .int .i64 lo1, .int .i64 hi2] w (fun en w' => ∃ l : Unit, en = .returned (.int .i64 res.r0) ∧ (True) ∧ HV w (keys [(pb, .cells #[.slice qa0 na0 ca0, .int .i64 h01, .int .u32 h02] 138 (0, 0))] []) [(pb, .cells #[.slice qa0 na0 ca0, .int .i64 res.h0_1, .int .u32 res.h0_2] 138 (0, 0))] [] [] w') := by
  unfold m_laurelkit_Heap_From at hm
  refine g_enter (args := [ptr pb 0, .int .i64 lo1, .int .i64 hi2]) Try.func20 rfl Try.ntmps20 rfl (e := [(0, _), (1, _), (2, _)]) rfl (H := HV w (keys [(pb, .cells #[.slice qa0 na0 ca0, .int .i64 h01, .int .u32 h02] 138 (0, 0))] []) [(pb, .cells #[.slice qa0 na0 ca0, .int .i64 h01, .int .u32 h02] 138 (0, 0))] [] [(aB qa0, aO qa0, RU8.enc h00)]) hw ?_
  refine g_seq ?_
  refine g_region ?_
  refine g_val rfl rfl rfl (fun _ _ => v_assign rfl) ?_
  refine g_nil ?_
  refine g_n_then ?_
  refine g_seq ?_
  refine g_region ?_
  refine g_val rfl rfl rfl (fun _ _ => v_move rfl) ?_
  refine g_val rfl rfl rfl (fun _ _ => v_move rfl) ?_
  refine g_val rfl rfl rfl (fun _ _ => v_move rfl) ?_
  refine g_val rfl rfl rfl (fun _ _ => v_move rfl) ?_
  obtain ⟨t11, h1, hm⟩ := bindO hm
  refine g_val rfl rfl rfl (fun _ _ => v_subc h1 rfl rfl) ?_
  obtain ⟨t12, h2, hm⟩ := bindO hm
  refine g_callH [_] [] rfl rfl rfl rfl rfl rfl rfl (fun a w => Try.call64 a w) (fun w hh => c_laurelkit_Heap_Upto h00 h01 h02 t11 pb qa0 na0 ca0 w (HV.callee (S0 := [_]) (vs0 := []) hh (roC (hh.rsep (S0 := [_]) (vs0 := []) 0 rfl) roN)) hna0 hqa0 hla0 h2) (fun l h3 => ?_)
  refine g_sel (S' := [_]) (vs' := []) [0] [] 0 (by decide) (by decide) rfl rfl rfl ?_
  obtain ⟨t13, h4, hm⟩ := bindO hm
  refine g_val rfl rfl rfl (fun _ _ => v_addc h4 rfl rfl) ?_
  refine g_val rfl rfl rfl (fun _ _ => v_assign rfl) ?_
  refine g_nil ?_
  refine g_n_then ?_
  refine g_ret ?_
  obtain rfl := Option.some.inj hm
  refine g_done rfl (fun w hh => (.tmp rfl .nil)) (fun w hh => ⟨(), rfl, trivial, hh.sel [0] [] 1 (by decide) (by decide) rfl rfl rfl⟩)
structure m_laurelkit_Heap_Once_R where
  r0 : Bool
  h0_1 : Int
  h0_2 : Int
def m_laurelkit_Heap_Once (h00 : (List Int)) (h01 : Int) (h02 : Int) (n1 : Int) : Option m_laurelkit_Heap_Once_R :=
 (subc n1 1).bind fun t7 =>
 (m_laurelkit_Heap_Upto h00 h01 h02 t7).bind fun t8 =>
 some (⟨(decide (t8.r0 = 0)), t8.h0_1, t8.h0_2⟩ : m_laurelkit_Heap_Once_R)
set_option maxRecDepth 100000 in
set_option maxHeartbeats 4000000 in
theorem c_laurelkit_Heap_Once (h00 : (List Int)) (h01 : Int) (h02 : Int) (n1 : Int) (pb : Nat) (qa0 : Option Addr) (na0 ca0 : Nat) (w : World) (hw : HV w (keys [(pb, .cells #[.slice qa0 na0 ca0, .int .i64 h01, .int .u32 h02] 138 (0, 0))] []) [(pb, .cells #[.slice qa0 na0 ca0, .int .i64 h01, .int .u32 h02] 138 (0, 0))] [] [(aB qa0, aO qa0, RU8.enc h00)] w) (hna0 : h00.length = na0) (hqa0 : AOK na0 qa0) (hla0 : na0 ≤ ca0) {res : m_laurelkit_Heap_Once_R} (hm : m_laurelkit_Heap_Once h00 h01 h02 n1 = some res) :
    Calls Try.prog 85 #[ptr pb 0, .int .i64 n1] w (fun en w' => ∃ l : Unit, en = .returned (.bool res.r0) ∧ (True) ∧ HV w (keys [(pb, .cells #[.slice qa0 na0 ca0, .int .i64 h01, .int .u32 h02] 138 (0, 0))] []) [(pb, .cells #[.slice qa0 na0 ca0, .int .i64 res.h0_1, .int .u32 res.h0_2] 138 (0, 0))] [] [] w') := by
  unfold m_laurelkit_Heap_Once at hm
  refine g_enter (args := [ptr pb 0, .int .i64 n1]) Try.func85 rfl Try.ntmps85 rfl (e := [(0, _), (1, _)]) rfl (H := HV w (keys [(pb, .cells #[.slice qa0 na0 ca0, .int .i64 h01, .int .u32 h02] 138 (0, 0))] []) [(pb, .cells #[.slice qa0 na0 ca0, .int .i64 h01, .int .u32 h02] 138 (0, 0))] [] [(aB qa0, aO qa0, RU8.enc h00)]) hw ?_
  refine g_seq ?_
  refine g_region ?_
  refine g_val rfl rfl rfl (fun _ _ => v_assign rfl) ?_
  refine g_nil ?_
  refine g_n_then ?_
  refine g_seq ?_
  refine g_region ?_
  refine g_val rfl rfl rfl (fun _ _ => v_move rfl) ?_
  refine g_val rfl rfl rfl (fun _ _ => v_move rfl) ?_
  obtain ⟨t7, h1, hm⟩ := bindO hm
  refine g_val rfl rfl rfl (fun _ _ => v_subc h1 rfl rfl) ?_
  obtain ⟨t8, h2, hm⟩ := bindO hm
  refine g_callH [_] [] rfl rfl rfl rfl rfl rfl rfl (fun a w => Try.call64 a w) (fun w hh => c_laurelkit_Heap_Upto h00 h01 h02 t7 pb qa0 na0 ca0 w (HV.callee (S0 := [_]) (vs0 := []) hh (roC (hh.rsep (S0 := [_]) (vs0 := []) 0 rfl) roN)) hna0 hqa0 hla0 h2) (fun l h3 => ?_)
  refine g_sel (S' := [_]) (vs' := []) [0] [] 0 (by decide) (by decide) rfl rfl rfl ?_
  refine g_val rfl rfl rfl (fun _ _ => v_eql rfl rfl) ?_
  refine g_val rfl rfl rfl (fun _ _ => v_assign rfl) ?_
  refine g_nil ?_
  refine g_n_then ?_
  refine g_ret ?_
  obtain rfl := Option.some.inj hm
  refine g_done rfl (fun w hh => (.tmp rfl .nil)) (fun w hh => ⟨(), rfl, trivial, hh.sel [0] [] 1 (by decide) (by decide) rfl rfl rfl⟩)
structure m_laurellaw01_Made_R where
  r0 : Sands
  b0_1 : Int
  b0_2 : Int
structure m_laurellaw01_Made_C0 where
  b0_1 : Int
  b0_2 : Int
  s7_table : (List Water)
structure m_laurellaw01_Made_S0 where
  at8 : Int
  t23 : Int
  b0_1 : Int
  b0_2 : Int
  s7_table : (List Water)
def m_laurellaw01_Made_L0 (t22 : m_laurelkit_Heap_From_R) (b00 : (List Int)) (s : m_laurellaw01_Made_S0) : Option (m_laurellaw01_Made_S0 ⊕ m_laurellaw01_Made_C0) :=
 if s.t23 < t22.r0 then
 ((m_laurelkit_Heap_Upto b00 s.b0_1 s.b0_2 60).bind fun t29 =>
 (appc 16 s.s7_table [(⟨s.at8, t29.r0⟩ : Water)]).bind fun t32 =>
 (m_laurelkit_Heap_From b00 t29.h0_1 t29.h0_2 1 30).bind fun t36 =>
 (addc s.at8 t36.r0).bind fun t37 =>
 (addc s.t23 1).bind fun t38 =>
 some (.inl (⟨t37, t38, t36.h0_1, t36.h0_2, t32⟩ : m_laurellaw01_Made_S0))) else
 (some (.inr (⟨s.b0_1, s.b0_2, s.s7_table⟩ : m_laurellaw01_Made_C0)))
structure m_laurellaw01_Made_C1 where
  b0_1 : Int
  b0_2 : Int
  s7_floors : (List Int)
structure m_laurellaw01_Made_S1 where
  t42 : Int
  b0_1 : Int
  b0_2 : Int
  s7_floors : (List Int)
def m_laurellaw01_Made_L1 (t41 : m_laurelkit_Heap_From_R) (b00 : (List Int)) (s_1 : m_laurellaw01_Made_S1) : Option (m_laurellaw01_Made_S1 ⊕ m_laurellaw01_Made_C1) :=
 if s_1.t42 < t41.r0 then
 ((m_laurelkit_Heap_Upto b00 s_1.b0_1 s_1.b0_2 50).bind fun t47 =>
 (appc 8 s_1.s7_floors [t47.r0]).bind fun t49 =>
 (addc s_1.t42 1).bind fun t51 =>
 some (.inl (⟨t51, t47.h0_1, t47.h0_2, t49⟩ : m_laurellaw01_Made_S1))) else
 (some (.inr (⟨s_1.b0_1, s_1.b0_2, s_1.s7_floors⟩ : m_laurellaw01_Made_C1)))
structure m_laurellaw01_Made_C2 where
  b0_1 : Int
  b0_2 : Int
  s7_sills : (List Sill)
structure m_laurellaw01_Made_S2 where
  t55 : Int
  b0_1 : Int
  b0_2 : Int
  s7_sills : (List Sill)
structure m_laurellaw01_Made_C3 where
  b0_1 : Int
  b0_2 : Int
  s7_sills : (List Sill)
structure m_laurellaw01_Made_C4 where
  x11_a : Int
  x11_b : Int
  b0_1 : Int
  b0_2 : Int
structure m_laurellaw01_Made_C5 where
  x11_a : Int
  x11_b : Int
  b0_1 : Int
  b0_2 : Int
def m_laurellaw01_Made_L2 (t54 : m_laurelkit_Heap_Upto_R) (o_1 : m_laurellaw01_Made_C1) (b00 : (List Int)) (s_2 : m_laurellaw01_Made_S2) : Option (m_laurellaw01_Made_S2 ⊕ m_laurellaw01_Made_C2) :=
 if s_2.t55 < t54.r0 then
 (((subc (o_1.s7_floors.length : Int) 1).bind fun t62 =>
 (subc (min s_2.t55 t62) 1).bind fun t66 =>
 (m_laurelkit_Heap_From b00 s_2.b0_1 s_2.b0_2 (-1) t66).bind fun t67 =>
 (m_laurelkit_Heap_Upto b00 t67.h0_1 t67.h0_2 50).bind fun t70 =>
 (if (o_1.s7_floors.length : Int) ≤ s_2.t55 then
 ((subc (o_1.s7_floors.length : Int) 1).bind fun t81 =>
 (subc (o_1.s7_floors.length : Int) 1).bind fun t87 =>
 (m_laurelkit_Heap_From b00 t70.h0_1 t70.h0_2 (-1) t81).bind fun t82 =>
 (m_laurelkit_Heap_Upto b00 t82.h0_1 t82.h0_2 t87).bind fun t88 =>
 some (⟨t82.r0, t88.r0, t88.h0_1, t88.h0_2⟩ : m_laurellaw01_Made_C4)) else
 (some (⟨t67.r0, (min s_2.t55 t62), t70.h0_1, t70.h0_2⟩ : m_laurellaw01_Made_C4))).bind fun o_4 =>
 ((m_laurelkit_Heap_Once b00 o_4.b0_1 o_4.b0_2 3).bind fun t92 =>
 if t92.r0 = true then
 (some (⟨o_4.x11_b, o_4.x11_a, t92.h0_1, t92.h0_2⟩ : m_laurellaw01_Made_C5)) else
 (some (⟨o_4.x11_a, o_4.x11_b, t92.h0_1, t92.h0_2⟩ : m_laurellaw01_Made_C5))).bind fun o_5 =>
 if o_5.x11_a = o_5.x11_b then
 (some (⟨o_5.b0_1, o_5.b0_2, s_2.s7_sills⟩ : m_laurellaw01_Made_C3)) else
 ((appc 24 s_2.s7_sills [(⟨o_5.x11_a, o_5.x11_b, t70.r0⟩ : Sill)]).bind fun t108 =>
 some (⟨o_5.b0_1, o_5.b0_2, t108⟩ : m_laurellaw01_Made_C3))).bind fun o_3 =>
 (addc s_2.t55 1).bind fun t110 =>
 some (.inl (⟨t110, o_3.b0_1, o_3.b0_2, o_3.s7_sills⟩ : m_laurellaw01_Made_S2))) else
 (some (.inr (⟨s_2.b0_1, s_2.b0_2, s_2.s7_sills⟩ : m_laurellaw01_Made_C2)))
def m_laurellaw01_Made (b00 : (List Int)) (b01 : Int) (b02 : Int) (places1 : Int) (sills2 : Int) : Option m_laurellaw01_Made_R :=
 (m_laurelkit_Heap_Upto b00 b01 b02 8).bind fun t13 =>
 (negc t13.r0).bind fun t14 =>
 (m_laurelkit_Heap_Upto b00 t13.h0_1 t13.h0_2 8).bind fun t16 =>
 (m_laurelkit_Heap_Upto b00 t16.h0_1 t16.h0_2 20).bind fun t20 =>
 (m_laurelkit_Heap_From b00 t20.h0_1 t20.h0_2 2 4).bind fun t22 =>
 (iterM FU (m_laurellaw01_Made_L0 t22 b00) (⟨t20.r0, 0, t22.h0_1, t22.h0_2, []⟩ : m_laurellaw01_Made_S0)).bind fun o =>
 (m_laurelkit_Heap_From b00 o.b0_1 o.b0_2 1 places1).bind fun t41 =>
 (iterM FU (m_laurellaw01_Made_L1 t41 b00) (⟨0, t41.h0_1, t41.h0_2, []⟩ : m_laurellaw01_Made_S1)).bind fun o_1 =>
 (m_laurelkit_Heap_Upto b00 o_1.b0_1 o_1.b0_2 sills2).bind fun t54 =>
 (iterM FU (m_laurellaw01_Made_L2 t54 o_1 b00) (⟨0, t54.h0_1, t54.h0_2, []⟩ : m_laurellaw01_Made_S2)).bind fun o_2 =>
 some (⟨(⟨o.s7_table, (⟨t14, t16.r0⟩ : Span), o_1.s7_floors, o_2.s7_sills⟩ : Sands), o_2.b0_1, o_2.b0_2⟩ : m_laurellaw01_Made_R)
set_option maxRecDepth 100000 in
set_option maxHeartbeats 4000000 in
theorem c_laurellaw01_Made (b00 : (List Int)) (b01 : Int) (b02 : Int) (places1 : Int) (sills2 : Int) (pb : Nat) (qa0 : Option Addr) (na0 ca0 : Nat) (w : World) (hw : HV w (keys [(pb, .cells #[.slice qa0 na0 ca0, .int .i64 b01, .int .u32 b02] 138 (0, 0))] []) [(pb, .cells #[.slice qa0 na0 ca0, .int .i64 b01, .int .u32 b02] 138 (0, 0))] [] [(aB qa0, aO qa0, RU8.enc b00)] w) (hna0 : b00.length = na0) (hqa0 : AOK na0 qa0) (hla0 : na0 ≤ ca0) {res : m_laurellaw01_Made_R} (hm : m_laurellaw01_Made b00 b01 b02 places1 sills2 = some res) :
    Calls Try.prog 18 #[ptr pb 0, .int .i64 places1, .int .i64 sills2] w (fun en w' => ∃ l : VL × VL × VL, en = .returned (.agg #[slv l.1.q l.1.n l.1.cap, .int .i64 res.r0.wind.lo, .int .i64 res.r0.wind.hi, slv l.2.1.q l.2.1.n l.2.1.cap, slv l.2.2.q l.2.2.n l.2.2.cap]) ∧ (VOK 2 l.1.n l.1.cap (RW.enc res.r0.table) l.1.sp l.1.q ∧ VOK 1 l.2.1.n l.2.1.cap (RI.enc res.r0.floors) l.2.1.sp l.2.1.q ∧ VOK 3 l.2.2.n l.2.2.cap (RS.enc res.r0.sills) l.2.2.sp l.2.2.q) ∧ HV w (keys [(pb, .cells #[.slice qa0 na0 ca0, .int .i64 b01, .int .u32 b02] 138 (0, 0))] []) [(pb, .cells #[.slice qa0 na0 ca0, .int .i64 res.b0_1, .int .u32 res.b0_2] 138 (0, 0))] [⟨68, RW.enc res.r0.table, l.1.sp, l.1.q⟩, ⟨3, RI.enc res.r0.floors, l.2.1.sp, l.2.1.q⟩, ⟨51, RS.enc res.r0.sills, l.2.2.sp, l.2.2.q⟩] [] w') := by
  unfold m_laurellaw01_Made at hm
  refine g_enter (args := [ptr pb 0, .int .i64 places1, .int .i64 sills2]) Try.func18 rfl Try.ntmps18 rfl (e := [(0, _), (1, _), (2, _)]) rfl (H := HV w (keys [(pb, .cells #[.slice qa0 na0 ca0, .int .i64 b01, .int .u32 b02] 138 (0, 0))] []) [(pb, .cells #[.slice qa0 na0 ca0, .int .i64 b01, .int .u32 b02] 138 (0, 0))] [] [(aB qa0, aO qa0, RU8.enc b00)]) hw ?_
  refine g_seq ?_
  refine g_region ?_
  refine g_allocV (fun w => Try.zeroValue29 w) rfl (fun b h4 => ?_)
  refine g_nil ?_
  refine g_n_then ?_
  refine g_seq ?_
  refine g_region ?_
  refine g_val rfl rfl rfl (fun _ _ => v_move rfl) ?_
  obtain ⟨t13, h5, hm⟩ := bindO hm
  refine g_sel (S' := [_, _]) (vs' := []) [1, 0] [] 0 (by decide) (by decide) rfl rfl rfl ?_
  refine g_callH [_] [] rfl rfl rfl rfl rfl rfl rfl (fun a w => Try.call64 a w) (fun w hh => c_laurelkit_Heap_Upto b00 b01 b02 8 pb qa0 na0 ca0 w (HV.callee (S0 := [_]) (vs0 := []) hh (roC (hh.rsep (S0 := [_]) (vs0 := []) 0 rfl) roN)) hna0 hqa0 hla0 h5) (fun l h6 => ?_)
  refine g_sel (S' := [_, _]) (vs' := []) [0, 1] [] 0 (by decide) (by decide) rfl rfl rfl ?_
  obtain ⟨t14, h7, hm⟩ := bindO hm
  refine g_val rfl rfl rfl (fun _ _ => v_negc h7 rfl) ?_
  refine g_val rfl rfl rfl (fun _ _ => v_move rfl) ?_
  obtain ⟨t16, h8, hm⟩ := bindO hm
  refine g_callH [_] [] rfl rfl rfl rfl rfl rfl rfl (fun a w => Try.call64 a w) (fun w hh => c_laurelkit_Heap_Upto b00 t13.h0_1 t13.h0_2 8 pb qa0 na0 ca0 w (HV.callee (S0 := [_]) (vs0 := []) hh (roC (hh.rsep (S0 := [_]) (vs0 := []) 0 rfl) roN)) hna0 hqa0 hla0 h8) (fun l_1 h9 => ?_)
  refine g_sel (S' := [_, _]) (vs' := []) [0, 1] [] 0 (by decide) (by decide) rfl rfl rfl ?_
  refine g_val rfl rfl rfl (fun _ _ => v_build (vs := [(0, _), (1, _)]) (cells := [_, _]) rfl rfl) ?_
  refine g_val rfl rfl rfl (fun _ _ => v_build (vs := [(1, _)]) (cells := [_, _, _, _, _]) rfl rfl) ?_
  refine g_allocV (fun w => Try.zeroValue29 w) rfl (fun b_1 h10 => ?_)
  refine g_stSA (us := #[_, _, _, _, _]) (cs' := [_, _, _, _, _]) (S' := [_, _, _]) 0 (fun w => Try.sizeOf29 w) rfl rfl rfl rfl rfl rfl rfl ?_
  refine g_nil ?_
  refine g_n_then ?_
  refine g_seq ?_
  refine g_region ?_
  refine g_val rfl rfl rfl (fun _ _ => v_move rfl) ?_
  obtain ⟨t20, h11, hm⟩ := bindO hm
  refine g_sel (S' := [_, _, _]) (vs' := []) [1, 0, 2] [] 0 (by decide) (by decide) rfl rfl rfl ?_
  refine g_callH [_] [] rfl rfl rfl rfl rfl rfl rfl (fun a w => Try.call64 a w) (fun w hh => c_laurelkit_Heap_Upto b00 t16.h0_1 t16.h0_2 20 pb qa0 na0 ca0 w (HV.callee (S0 := [_]) (vs0 := []) hh (roC (hh.rsep (S0 := [_]) (vs0 := []) 0 rfl) roN)) hna0 hqa0 hla0 h11) (fun l_2 h12 => ?_)
  refine g_sel (S' := [_, _, _]) (vs' := []) [0, 1, 2] [] 0 (by decide) (by decide) rfl rfl rfl ?_
  refine g_val rfl rfl rfl (fun _ _ => v_assign rfl) ?_
  refine g_nil ?_
  refine g_n_then ?_
  refine g_seq ?_
  refine g_seq ?_
  refine g_region ?_
  refine g_val rfl rfl rfl (fun _ _ => v_move rfl) ?_
  obtain ⟨t22, h13, hm⟩ := bindO hm
  refine g_callH [_] [] rfl rfl rfl rfl rfl rfl rfl (fun a w => Try.call20 a w) (fun w hh => c_laurelkit_Heap_From b00 t20.h0_1 t20.h0_2 2 4 pb qa0 na0 ca0 w (HV.callee (S0 := [_]) (vs0 := []) hh (roC (hh.rsep (S0 := [_]) (vs0 := []) 0 rfl) roN)) hna0 hqa0 hla0 h13) (fun l_3 h14 => ?_)
  refine g_sel (S' := [_, _, _]) (vs' := []) [0, 1, 2] [] 0 (by decide) (by decide) rfl rfl rfl ?_
  refine g_val rfl rfl rfl (fun _ _ => v_move rfl) ?_
  refine g_nil ?_
  refine g_n_then ?_
  refine g_vnil 68 ?_
  obtain ⟨o, h15, h16⟩ := bindO hm
  refine g_cut (ι := VL) (fun l_4 => VOK 2 l_4.n l_4.cap (RW.enc o.s7_table) l_4.sp l_4.q) (fun l_4 => [(0, ptr pb 0), (1, .int .i64 places1), (2, .int .i64 sills2), (6, ptr b 0), (7, ptr b_1 0)]) (fun l_4 => [(pb, .cells #[.slice qa0 na0 ca0, .int .i64 o.b0_1, .int .u32 o.b0_2] 138 (0, 0)), (b_1, .cells #[slv l_4.q l_4.n l_4.cap, .int .i64 t14, .int .i64 t16.r0, slv none 0 0, slv none 0 0] 29 (0, 0)), (b, .cells #[slv none 0 0, .int .i64 0, .int .i64 0, slv none 0 0, slv none 0 0] 29 (0, 0))]) (fun l_4 => [⟨68, RW.enc o.s7_table, l_4.sp, l_4.q⟩]) ?_ ?_
  ·replace hm := h15
   refine g_block ?_
   refine g_loopF (ι := VL) hm (fun s l_5 => VOK 2 l_5.n l_5.cap (RW.enc s.s7_table) l_5.sp l_5.q) (fun s l_5 => [(0, ptr pb 0), (1, .int .i64 places1), (2, .int .i64 sills2), (6, ptr b 0), (7, ptr b_1 0), (8, .int .i64 s.at8), (22, .int .i64 t22.r0), (23, .int .i64 s.t23)]) (fun s l_5 => [(pb, .cells #[.slice qa0 na0 ca0, .int .i64 s.b0_1, .int .u32 s.b0_2] 138 (0, 0)), (b_1, .cells #[slv l_5.q l_5.n l_5.cap, .int .i64 t14, .int .i64 t16.r0, slv none 0 0, slv none 0 0] 29 (0, 0)), (b, .cells #[slv none 0 0, .int .i64 0, .int .i64 0, slv none 0 0, slv none 0 0] 29 (0, 0))]) (fun s l_5 => [⟨68, RW.enc s.s7_table, l_5.sp, l_5.q⟩]) ⟨none, 0, 0, []⟩ (VOK.nil) ((.cons rfl (.cons rfl (.cons rfl (.cons rfl (.cons rfl (.cons rfl (.cons rfl (.cons rfl .nil))))))))) (fun w hh => hh) (fun s l_5 r hpl hm h19 => ?_)
   have h18 := hpl
   unfold m_laurellaw01_Made_L0 at hm
   refine g_seq ?_
   refine g_region ?_
   refine g_val rfl rfl rfl (fun _ _ => v_lss rfl rfl) ?_
   refine g_nil ?_
   refine g_n_then ?_
   refine g_seq ?_
   refine g_cond rfl (fun h20 => ?_) (fun h20 => ?_)
   ·replace hm := ifT (of_decide_eq_true h20) hm
    refine g_skip ?_
    refine g_n_then ?_
    refine g_seq ?_
    refine g_block ?_
    refine g_seq ?_
    refine g_draw (some 9) (.free 0 (.hoist 1 (.free 2 (.free 3 (.one 4 (.free 5 (.one 6 (.one 7 (.free 8 (.last 9 .done)))))))))) (HV _ _ [(b_1, .cells #[slv l_5.q l_5.n l_5.cap, .int .i64 t14, .int .i64 t16.r0, slv none 0 0, slv none 0 0] 29 (0, 0)), (b, .cells #[slv none 0 0, .int .i64 0, .int .i64 0, slv none 0 0, slv none 0 0] 29 (0, 0))] [] _) rfl (by decide +kernel) (fun w k hh => hh.draw k) (fun w hh => hh.sel [1, 2] [] 0 (by decide) (by decide) rfl rfl rfl) ?_
    refine p_free rfl rfl rfl rfl (fun w _ => v_fieldAddr 0 (Try.runUnderlying29 w) rfl (Try.sizeOf23 w) rfl) ?_
    refine p_hoist rfl rfl rfl rfl (fun w hh => v_load (Try.isAgg23 w) rfl (hh.cell 0 rfl rfl)) ?_
    refine p_free rfl rfl rfl rfl (fun _ _ => v_move rfl) ?_
    refine p_free rfl rfl rfl rfl (fun _ _ => v_move rfl) ?_
    refine p_one rfl ?_
    obtain ⟨t29, h21, hm⟩ := bindO hm
    refine g_callH [_] [] rfl rfl rfl rfl rfl rfl rfl (fun a w => Try.call64 a w) (fun w hh => c_laurelkit_Heap_Upto b00 s.b0_1 s.b0_2 60 pb qa0 na0 ca0 w (HV.callee (S0 := [_]) (vs0 := []) hh (roC (hh.rsep (S0 := [_]) (vs0 := []) 0 rfl) roN)) hna0 hqa0 hla0 h21) (fun l_6 h22 => ?_)
    refine g_sel (S' := [_, _, _]) (vs' := [_]) [0, 1, 2] [0] 0 (by decide) (by decide) rfl rfl rfl ?_
    refine p_next (fun w hh => hh.sel [1, 2] [] 0 (by decide) (by decide) rfl rfl rfl) ?_
    refine p_free rfl rfl rfl rfl (fun _ _ => v_build (vs := [(0, _), (1, _)]) (cells := [_, _]) rfl rfl) ?_
    refine p_one rfl ?_
    refine g_vlit RW [(⟨s.at8, t29.r0⟩ : Water)] (ps := [(0, _)]) (cells := [_, _]) (fun w => Try.runUnderlying23 w) (fun w => Try.sizeOf68 w) (fun w => Try.zeroValue68 w) rfl rfl rfl rfl rfl rfl rfl rfl (fun L h23 => ?_)
    refine p_next (fun w hh => hh.sel [1, 2] [] 0 (by decide) (by decide) rfl rfl rfl) ?_
    refine p_one rfl ?_
    obtain ⟨t32, h24, hm⟩ := bindO hm
    refine g_vapp RW 1 h24 Try.underlying23 gxinf68 rfl rfl rfl rfl rfl h18 rfl rfl (vlen RW h23 rfl) (AOK.q (vne h23)) (fun w hh => (hh.vsegA 0 rfl h23)) rfl (fun L_1 h25 h25n => ?_)
    refine g_sel (S' := [_, _, _]) (vs' := [_, _]) [0, 1, 2] [0, 1] 0 (by decide) (by decide) rfl rfl rfl ?_
    refine p_next (fun w hh => hh.sel [1, 2] [] 0 (by decide) (by decide) rfl rfl rfl) ?_
    refine p_free rfl rfl rfl rfl (fun w _ => v_fieldAddr 0 (Try.runUnderlying29 w) rfl (Try.sizeOf23 w) rfl) ?_
    refine p_last rfl ?_
    refine g_stS (cs' := #[_, _, _, _, _]) (S' := [_, _, _]) 1 (fun w => Try.sizeOf23 w) rfl rfl rfl rfl rfl rfl rfl ?_
    refine p_nextL ?_
    refine p_done ?_
    refine g_n_then ?_
    refine g_region ?_
    refine g_val rfl rfl rfl (fun _ _ => v_move rfl) ?_
    refine g_val rfl rfl rfl (fun _ _ => v_move rfl) ?_
    obtain ⟨t36, h26, hm⟩ := bindO hm
    refine g_callH [_] [] rfl rfl rfl rfl rfl rfl rfl (fun a w => Try.call20 a w) (fun w hh => c_laurelkit_Heap_From b00 t29.h0_1 t29.h0_2 1 30 pb qa0 na0 ca0 w (HV.callee (S0 := [_]) (vs0 := []) hh (roC (hh.rsep (S0 := [_]) (vs0 := []) 0 rfl) roN)) hna0 hqa0 hla0 h26) (fun l_7 h27 => ?_)
    refine g_sel (S' := [_, _, _]) (vs' := [_, _]) [0, 1, 2] [0, 1] 0 (by decide) (by decide) rfl rfl rfl ?_
    obtain ⟨t37, h28, hm⟩ := bindO hm
    refine g_val rfl rfl rfl (fun _ _ => v_addc h28 rfl rfl) ?_
    refine g_val rfl rfl rfl (fun _ _ => v_assign rfl) ?_
    refine g_nil ?_
    refine g_n_blk ?_
    refine g_n_then ?_
    refine g_region ?_
    obtain ⟨t38, h29, hm⟩ := bindO hm
    refine g_val rfl rfl rfl (fun _ _ => v_addc h29 rfl rfl) ?_
    refine g_val rfl rfl rfl (fun _ _ => v_move rfl) ?_
    refine g_nil ?_
    obtain rfl := Option.some.inj hm
    refine g_n_then ?_
    exact g_again' _ L_1 rfl (h25) ((.cons rfl (.cons rfl (.cons rfl (.cons rfl (.cons rfl (.cons rfl (.cons rfl (.cons rfl .nil))))))))) (fun w hh => hh.sel [0, 1, 2] [1] 0 (by decide) (by decide) rfl rfl rfl)
   ·replace hm := ifF (of_decide_eq_false h20) hm
    refine g_exit ?_
    refine g_x_then ?_
    refine g_x_then ?_
    refine g_x_blk ?_
    obtain rfl := Option.some.inj hm
    have hbo := h19 _ rfl
    subst hbo
    exact g_leaf l_5 (h18) ((.cons rfl (.cons rfl (.cons rfl (.cons rfl (.cons rfl .nil)))))) (fun w hh => hh)
  ·intro l_4 hj
   have h17 := hj
   replace hm := h16
   refine g_n_then ?_
   refine g_seq ?_
   refine g_seq ?_
   refine g_region ?_
   refine g_val rfl rfl rfl (fun _ _ => v_move rfl) ?_
   refine g_val rfl rfl rfl (fun _ _ => v_move rfl) ?_
   obtain ⟨t41, h30, hm⟩ := bindO hm
   refine g_callH [_] [] rfl rfl rfl rfl rfl rfl rfl (fun a w => Try.call20 a w) (fun w hh => c_laurelkit_Heap_From b00 o.b0_1 o.b0_2 1 places1 pb qa0 na0 ca0 w (HV.callee (S0 := [_]) (vs0 := []) hh (roC (hh.rsep (S0 := [_]) (vs0 := []) 0 rfl) roN)) hna0 hqa0 hla0 h30) (fun l_8 h31 => ?_)
   refine g_sel (S' := [_, _, _]) (vs' := [_]) [0, 1, 2] [0] 0 (by decide) (by decide) rfl rfl rfl ?_
   refine g_val rfl rfl rfl (fun _ _ => v_move rfl) ?_
   refine g_nil ?_
   refine g_n_then ?_
   refine g_vnil 3 ?_
   obtain ⟨o_1, h32, h33⟩ := bindO hm
   refine g_cut (ι := VL) (fun l_9 => VOK 1 l_9.n l_9.cap (RI.enc o_1.s7_floors) l_9.sp l_9.q) (fun l_9 => [(0, ptr pb 0), (2, .int .i64 sills2), (6, ptr b 0), (7, ptr b_1 0)]) (fun l_9 => [(pb, .cells #[.slice qa0 na0 ca0, .int .i64 o_1.b0_1, .int .u32 o_1.b0_2] 138 (0, 0)), (b_1, .cells #[slv l_4.q l_4.n l_4.cap, .int .i64 t14, .int .i64 t16.r0, slv l_9.q l_9.n l_9.cap, slv none 0 0] 29 (0, 0)), (b, .cells #[slv none 0 0, .int .i64 0, .int .i64 0, slv none 0 0, slv none 0 0] 29 (0, 0))]) (fun l_9 => [⟨68, RW.enc o.s7_table, l_4.sp, l_4.q⟩, ⟨3, RI.enc o_1.s7_floors, l_9.sp, l_9.q⟩]) ?_ ?_
   ·replace hm := h32
    refine g_block ?_
    refine g_loopF (ι := VL) hm (fun s_1 l_10 => VOK 1 l_10.n l_10.cap (RI.enc s_1.s7_floors) l_10.sp l_10.q) (fun s_1 l_10 => [(0, ptr pb 0), (2, .int .i64 sills2), (6, ptr b 0), (7, ptr b_1 0), (41, .int .i64 t41.r0), (42, .int .i64 s_1.t42)]) (fun s_1 l_10 => [(pb, .cells #[.slice qa0 na0 ca0, .int .i64 s_1.b0_1, .int .u32 s_1.b0_2] 138 (0, 0)), (b_1, .cells #[slv l_4.q l_4.n l_4.cap, .int .i64 t14, .int .i64 t16.r0, slv l_10.q l_10.n l_10.cap, slv none 0 0] 29 (0, 0)), (b, .cells #[slv none 0 0, .int .i64 0, .int .i64 0, slv none 0 0, slv none 0 0] 29 (0, 0))]) (fun s_1 l_10 => [⟨68, RW.enc o.s7_table, l_4.sp, l_4.q⟩, ⟨3, RI.enc s_1.s7_floors, l_10.sp, l_10.q⟩]) ⟨none, 0, 0, []⟩ (VOK.nil) ((.cons rfl (.cons rfl (.cons rfl (.cons rfl (.cons rfl (.cons rfl .nil))))))) (fun w hh => hh.sel [0, 1, 2] [1, 0] 0 (by decide) (by decide) rfl rfl rfl) (fun s_1 l_10 r_1 hpl hm h36 => ?_)
    have h35 := hpl
    unfold m_laurellaw01_Made_L1 at hm
    refine g_seq ?_
    refine g_region ?_
    refine g_val rfl rfl rfl (fun _ _ => v_lss rfl rfl) ?_
    refine g_nil ?_
    refine g_n_then ?_
    refine g_seq ?_
    refine g_cond rfl (fun h37 => ?_) (fun h37 => ?_)
    ·replace hm := ifT (of_decide_eq_true h37) hm
     refine g_skip ?_
     refine g_n_then ?_
     refine g_seq ?_
     refine g_block ?_
     refine g_draw (some 7) (.free 0 (.hoist 1 (.free 2 (.one 3 (.one 4 (.one 5 (.free 6 (.last 7 .done)))))))) (HV _ _ [(b_1, .cells #[slv l_4.q l_4.n l_4.cap, .int .i64 t14, .int .i64 t16.r0, slv l_10.q l_10.n l_10.cap, slv none 0 0] 29 (0, 0)), (b, .cells #[slv none 0 0, .int .i64 0, .int .i64 0, slv none 0 0, slv none 0 0] 29 (0, 0))] [⟨68, RW.enc o.s7_table, l_4.sp, l_4.q⟩] _) rfl (by decide +kernel) (fun w k hh => hh.draw k) (fun w hh => hh.sel [1, 2] [0] 0 (by decide) (by decide) rfl rfl rfl) ?_
     refine p_free rfl rfl rfl rfl (fun w _ => v_fieldAddr 3 (Try.runUnderlying29 w) rfl (Try.sizeOf26 w) rfl) ?_
     refine p_hoist rfl rfl rfl rfl (fun w hh => v_load (Try.isAgg26 w) rfl (hh.cell 0 rfl rfl)) ?_
     refine p_free rfl rfl rfl rfl (fun _ _ => v_move rfl) ?_
     refine p_one rfl ?_
     obtain ⟨t47, h38, hm⟩ := bindO hm
     refine g_callH [_] [] rfl rfl rfl rfl rfl rfl rfl (fun a w => Try.call64 a w) (fun w hh => c_laurelkit_Heap_Upto b00 s_1.b0_1 s_1.b0_2 50 pb qa0 na0 ca0 w (HV.callee (S0 := [_]) (vs0 := []) hh (roC (hh.rsep (S0 := [_]) (vs0 := []) 0 rfl) roN)) hna0 hqa0 hla0 h38) (fun l_11 h39 => ?_)
     refine g_sel (S' := [_, _, _]) (vs' := [_, _]) [0, 1, 2] [0, 1] 0 (by decide) (by decide) rfl rfl rfl ?_
     refine p_next (fun w hh => hh.sel [1, 2] [0] 0 (by decide) (by decide) rfl rfl rfl) ?_
     refine p_one rfl ?_
     refine g_vlit RI [t47.r0] (ps := [(0, _)]) (cells := [_]) (fun w => Try.runUnderlying26 w) (fun w => Try.sizeOf3 w) (fun w => Try.zeroValue3 w) rfl rfl rfl rfl rfl rfl rfl rfl (fun L_2 h40 => ?_)
     refine p_next (fun w hh => hh.sel [1, 2] [1] 0 (by decide) (by decide) rfl rfl rfl) ?_
     refine p_one rfl ?_
     obtain ⟨t49, h41, hm⟩ := bindO hm
     refine g_vapp RI 2 h41 Try.underlying26 gxinf3 rfl rfl rfl rfl rfl h35 rfl rfl (vlen RI h40 rfl) (AOK.q (vne h40)) (fun w hh => (hh.vsegA 0 rfl h40)) rfl (fun L_3 h42 h42n => ?_)
     refine g_sel (S' := [_, _, _]) (vs' := [_, _, _]) [0, 1, 2] [0, 1, 2] 0 (by decide) (by decide) rfl rfl rfl ?_
     refine p_next (fun w hh => hh.sel [1, 2] [1] 0 (by decide) (by decide) rfl rfl rfl) ?_
     refine p_free rfl rfl rfl rfl (fun w _ => v_fieldAddr 3 (Try.runUnderlying29 w) rfl (Try.sizeOf26 w) rfl) ?_
     refine p_last rfl ?_
     refine g_stS (cs' := #[_, _, _, _, _]) (S' := [_, _, _]) 1 (fun w => Try.sizeOf26 w) rfl rfl rfl rfl rfl rfl rfl ?_
     refine p_nextL ?_
     refine p_done ?_
     refine g_n_blk ?_
     refine g_n_then ?_
     refine g_region ?_
     obtain ⟨t51, h43, hm⟩ := bindO hm
     refine g_val rfl rfl rfl (fun _ _ => v_addc h43 rfl rfl) ?_
     refine g_val rfl rfl rfl (fun _ _ => v_move rfl) ?_
     refine g_nil ?_
     obtain rfl := Option.some.inj hm
     refine g_n_then ?_
     exact g_again' _ L_3 rfl (h42) ((.cons rfl (.cons rfl (.cons rfl (.cons rfl (.cons rfl (.cons rfl .nil))))))) (fun w hh => hh.sel [0, 1, 2] [1, 2] 0 (by decide) (by decide) rfl rfl rfl)
    ·replace hm := ifF (of_decide_eq_false h37) hm
     refine g_exit ?_
     refine g_x_then ?_
     refine g_x_then ?_
     refine g_x_blk ?_
     obtain rfl := Option.some.inj hm
     have hbo := h36 _ rfl
     subst hbo
     exact g_leaf l_10 (h35) ((.cons rfl (.cons rfl (.cons rfl (.cons rfl .nil))))) (fun w hh => hh)
   ·intro l_9 hj
    have h34 := hj
    replace hm := h33
    refine g_n_then ?_
    refine g_seq ?_
    refine g_seq ?_
    refine g_region ?_
    refine g_val rfl rfl rfl (fun _ _ => v_move rfl) ?_
    refine g_val rfl rfl rfl (fun _ _ => v_move rfl) ?_
    obtain ⟨t54, h44, hm⟩ := bindO hm
    refine g_callH [_] [] rfl rfl rfl rfl rfl rfl rfl (fun a w => Try.call64 a w) (fun w hh => c_laurelkit_Heap_Upto b00 o_1.b0_1 o_1.b0_2 sills2 pb qa0 na0 ca0 w (HV.callee (S0 := [_]) (vs0 := []) hh (roC (hh.rsep (S0 := [_]) (vs0 := []) 0 rfl) roN)) hna0 hqa0 hla0 h44) (fun l_12 h45 => ?_)
    refine g_sel (S' := [_, _, _]) (vs' := [_, _]) [0, 1, 2] [0, 1] 0 (by decide) (by decide) rfl rfl rfl ?_
    refine g_val rfl rfl rfl (fun _ _ => v_move rfl) ?_
    refine g_nil ?_
    refine g_n_then ?_
    refine g_vnil 51 ?_
    obtain ⟨o_2, h46, h47⟩ := bindO hm
    refine g_cut (ι := VL) (fun l_13 => VOK 3 l_13.n l_13.cap (RS.enc o_2.s7_sills) l_13.sp l_13.q) (fun l_13 => [(6, ptr b 0), (7, ptr b_1 0)]) (fun l_13 => [(pb, .cells #[.slice qa0 na0 ca0, .int .i64 o_2.b0_1, .int .u32 o_2.b0_2] 138 (0, 0)), (b_1, .cells #[slv l_4.q l_4.n l_4.cap, .int .i64 t14, .int .i64 t16.r0, slv l_9.q l_9.n l_9.cap, slv l_13.q l_13.n l_13.cap] 29 (0, 0)), (b, .cells #[slv none 0 0, .int .i64 0, .int .i64 0, slv none 0 0, slv none 0 0] 29 (0, 0))]) (fun l_13 => [⟨68, RW.enc o.s7_table, l_4.sp, l_4.q⟩, ⟨3, RI.enc o_1.s7_floors, l_9.sp, l_9.q⟩, ⟨51, RS.enc o_2.s7_sills, l_13.sp, l_13.q⟩]) ?_ ?_
    ·replace hm := h46
     refine g_block ?_
     refine g_loopF (ι := VL) hm (fun s_2 l_14 => VOK 3 l_14.n l_14.cap (RS.enc s_2.s7_sills) l_14.sp l_14.q) (fun s_2 l_14 => [(0, ptr pb 0), (6, ptr b 0), (7, ptr b_1 0), (54, .int .i64 t54.r0), (55, .int .i64 s_2.t55)]) (fun s_2 l_14 => [(pb, .cells #[.slice qa0 na0 ca0, .int .i64 s_2.b0_1, .int .u32 s_2.b0_2] 138 (0, 0)), (b_1, .cells #[slv l_4.q l_4.n l_4.cap, .int .i64 t14, .int .i64 t16.r0, slv l_9.q l_9.n l_9.cap, slv l_14.q l_14.n l_14.cap] 29 (0, 0)), (b, .cells #[slv none 0 0, .int .i64 0, .int .i64 0, slv none 0 0, slv none 0 0] 29 (0, 0))]) (fun s_2 l_14 => [⟨68, RW.enc o.s7_table, l_4.sp, l_4.q⟩, ⟨3, RI.enc o_1.s7_floors, l_9.sp, l_9.q⟩, ⟨51, RS.enc s_2.s7_sills, l_14.sp, l_14.q⟩]) ⟨none, 0, 0, []⟩ (VOK.nil) ((.cons rfl (.cons rfl (.cons rfl (.cons rfl (.cons rfl .nil)))))) (fun w hh => hh.sel [0, 1, 2] [1, 2, 0] 0 (by decide) (by decide) rfl rfl rfl) (fun s_2 l_14 r_2 hpl hm h50 => ?_)
     have h49 := hpl
     unfold m_laurellaw01_Made_L2 at hm
     refine g_seq ?_
     refine g_region ?_
     refine g_val rfl rfl rfl (fun _ _ => v_lss rfl rfl) ?_
     refine g_nil ?_
     refine g_n_then ?_
     refine g_seq ?_
     refine g_cond rfl (fun h51 => ?_) (fun h51 => ?_)
     ·replace hm := ifT (of_decide_eq_true h51) hm
      refine g_skip ?_
      refine g_n_then ?_
      refine g_seq ?_
      obtain ⟨o_3, h52, h53⟩ := bindO hm
      refine g_cut (ι := VL) (fun l_15 => VOK 3 l_15.n l_15.cap (RS.enc o_3.s7_sills) l_15.sp l_15.q) (fun l_15 => [(0, ptr pb 0), (6, ptr b 0), (7, ptr b_1 0), (54, .int .i64 t54.r0), (55, .int .i64 s_2.t55)]) (fun l_15 => [(pb, .cells #[.slice qa0 na0 ca0, .int .i64 o_3.b0_1, .int .u32 o_3.b0_2] 138 (0, 0)), (b_1, .cells #[slv l_4.q l_4.n l_4.cap, .int .i64 t14, .int .i64 t16.r0, slv l_9.q l_9.n l_9.cap, slv l_15.q l_15.n l_15.cap] 29 (0, 0)), (b, .cells #[slv none 0 0, .int .i64 0, .int .i64 0, slv none 0 0, slv none 0 0] 29 (0, 0))]) (fun l_15 => [⟨68, RW.enc o.s7_table, l_4.sp, l_4.q⟩, ⟨3, RI.enc o_1.s7_floors, l_9.sp, l_9.q⟩, ⟨51, RS.enc o_3.s7_sills, l_15.sp, l_15.q⟩]) ?_ ?_
      ·replace hm := h52
       refine g_block ?_
       refine g_seq ?_
       refine g_region ?_
       refine g_val rfl rfl rfl (fun _ _ => v_move rfl) ?_
       refine g_val rfl rfl rfl (fun _ _ => v_assign rfl) ?_
       refine g_nil ?_
       refine g_n_then ?_
       refine g_seq ?_
       refine g_region ?_
       refine g_val rfl rfl rfl (fun _ _ => v_move rfl) ?_
       refine g_val rfl rfl rfl (fun w _ => v_fieldAddr 3 (Try.runUnderlying29 w) rfl (Try.sizeOf26 w) rfl) ?_
       refine g_val rfl rfl rfl (fun w hh => v_load (Try.isAgg26 w) rfl (hh.cell 1 rfl rfl)) ?_
       refine g_val rfl rfl rfl (fun w _ => v_lenN (vlen RI h34 rfl) (Try.runUnderlying26 w) rfl) ?_
       obtain ⟨t62, h55, hm⟩ := bindO hm
       refine g_val rfl rfl rfl (fun _ _ => v_subc h55 rfl rfl) ?_
       refine g_val rfl rfl rfl (fun _ _ => v_min rfl rfl) ?_
       refine g_val rfl rfl rfl (fun _ _ => v_assign rfl) ?_
       refine g_nil ?_
       refine g_n_then ?_
       refine g_seq ?_
       refine g_region ?_
       refine g_val rfl rfl rfl (fun _ _ => v_move rfl) ?_
       refine g_val rfl rfl rfl (fun _ _ => v_move rfl) ?_
       obtain ⟨t66, h56, hm⟩ := bindO hm
       refine g_val rfl rfl rfl (fun _ _ => v_subc h56 rfl rfl) ?_
       obtain ⟨t67, h57, hm⟩ := bindO hm
       refine g_callH [_] [] rfl rfl rfl rfl rfl rfl rfl (fun a w => Try.call20 a w) (fun w hh => c_laurelkit_Heap_From b00 s_2.b0_1 s_2.b0_2 (-1) t66 pb qa0 na0 ca0 w (HV.callee (S0 := [_]) (vs0 := []) hh (roC (hh.rsep (S0 := [_]) (vs0 := []) 0 rfl) roN)) hna0 hqa0 hla0 h57) (fun l_16 h58 => ?_)
       refine g_sel (S' := [_, _, _]) (vs' := [_, _, _]) [0, 1, 2] [0, 1, 2] 0 (by decide) (by decide) rfl rfl rfl ?_
       refine g_val rfl rfl rfl (fun _ _ => v_move rfl) ?_
       refine g_val rfl rfl rfl (fun _ _ => v_move rfl) ?_
       obtain ⟨t70, h59, hm⟩ := bindO hm
       refine g_callH [_] [] rfl rfl rfl rfl rfl rfl rfl (fun a w => Try.call64 a w) (fun w hh => c_laurelkit_Heap_Upto b00 t67.h0_1 t67.h0_2 50 pb qa0 na0 ca0 w (HV.callee (S0 := [_]) (vs0 := []) hh (roC (hh.rsep (S0 := [_]) (vs0 := []) 0 rfl) roN)) hna0 hqa0 hla0 h59) (fun l_17 h60 => ?_)
       refine g_sel (S' := [_, _, _]) (vs' := [_, _, _]) [0, 1, 2] [0, 1, 2] 0 (by decide) (by decide) rfl rfl rfl ?_
       refine g_val rfl rfl rfl (fun _ _ => v_build (vs := [(0, _), (1, _), (2, _)]) (cells := [_, _, _]) rfl rfl) ?_
       refine g_allocV (fun w => Try.zeroValue51 w) rfl (fun b_2 h61 => ?_)
       refine g_stSA (us := #[_, _, _]) (cs' := [_, _, _]) (S' := [_, _, _, _]) 0 (fun w => Try.sizeOf51 w) rfl rfl rfl rfl rfl rfl rfl ?_
       refine g_nil ?_
       refine g_n_then ?_
       refine g_seq ?_
       obtain ⟨o_4, h62, h63⟩ := bindO hm
       refine g_cut (ι := Unit) (fun l_18 => True) (fun l_18 => [(0, ptr pb 0), (6, ptr b 0), (7, ptr b_1 0), (11, ptr b_2 0), (54, .int .i64 t54.r0), (55, .int .i64 s_2.t55)]) (fun l_18 => [(b_2, .cells #[.int .i64 o_4.x11_a, .int .i64 o_4.x11_b, .int .i64 t70.r0] 51 (0, 0)), (pb, .cells #[.slice qa0 na0 ca0, .int .i64 o_4.b0_1, .int .u32 o_4.b0_2] 138 (0, 0)), (b_1, .cells #[slv l_4.q l_4.n l_4.cap, .int .i64 t14, .int .i64 t16.r0, slv l_9.q l_9.n l_9.cap, slv l_14.q l_14.n l_14.cap] 29 (0, 0)), (b, .cells #[slv none 0 0, .int .i64 0, .int .i64 0, slv none 0 0, slv none 0 0] 29 (0, 0))]) (fun l_18 => [⟨68, RW.enc o.s7_table, l_4.sp, l_4.q⟩, ⟨3, RI.enc o_1.s7_floors, l_9.sp, l_9.q⟩, ⟨51, RS.enc s_2.s7_sills, l_14.sp, l_14.q⟩]) ?_ ?_
       ·replace hm := h62
        refine g_seq ?_
        refine g_region ?_
        refine g_val rfl rfl rfl (fun _ _ => v_move rfl) ?_
        refine g_val rfl rfl rfl (fun w _ => v_fieldAddr 3 (Try.runUnderlying29 w) rfl (Try.sizeOf26 w) rfl) ?_
        refine g_val rfl rfl rfl (fun w hh => v_load (Try.isAgg26 w) rfl (hh.cell 2 rfl rfl)) ?_
        refine g_val rfl rfl rfl (fun w _ => v_lenN (vlen RI h34 rfl) (Try.runUnderlying26 w) rfl) ?_
        refine g_val rfl rfl rfl (fun _ _ => v_geq rfl rfl) ?_
        refine g_nil ?_
        refine g_n_then ?_
        refine g_cond rfl (fun h64 => ?_) (fun h64 => ?_)
        ·replace hm := ifT (of_decide_eq_true h64) hm
         refine g_draw none (.free 0 (.free 1 (.hoist 2 (.free 3 (.free 4 (.free 6 (.free 7 (.hoist 8 (.free 9 (.free 10 (.one 5 (.free 12 (.one 11 (.one 13 (.free 14 (.one 15 .done)))))))))))))))) (HV _ _ [(b_1, .cells #[slv l_4.q l_4.n l_4.cap, .int .i64 t14, .int .i64 t16.r0, slv l_9.q l_9.n l_9.cap, slv l_14.q l_14.n l_14.cap] 29 (0, 0)), (b, .cells #[slv none 0 0, .int .i64 0, .int .i64 0, slv none 0 0, slv none 0 0] 29 (0, 0))] [⟨68, RW.enc o.s7_table, l_4.sp, l_4.q⟩, ⟨3, RI.enc o_1.s7_floors, l_9.sp, l_9.q⟩, ⟨51, RS.enc s_2.s7_sills, l_14.sp, l_14.q⟩] _) rfl (by decide +kernel) (fun w k hh => hh.draw k) (fun w hh => hh.sel [2, 3] [0, 1, 2] 0 (by decide) (by decide) rfl rfl rfl) ?_
         refine p_free rfl rfl rfl rfl (fun _ _ => v_move rfl) ?_
         refine p_free rfl rfl rfl rfl (fun w _ => v_fieldAddr 3 (Try.runUnderlying29 w) rfl (Try.sizeOf26 w) rfl) ?_
         refine p_hoist rfl rfl rfl rfl (fun w hh => v_load (Try.isAgg26 w) rfl (hh.cell 0 rfl rfl)) ?_
         refine p_free rfl rfl rfl rfl (fun w _ => v_lenN (vlen RI h34 rfl) (Try.runUnderlying26 w) rfl) ?_
         obtain ⟨t81, h65, hm⟩ := bindO hm
         refine p_free rfl rfl rfl rfl (fun _ _ => v_subc h65 rfl rfl) ?_
         refine p_free rfl rfl rfl rfl (fun _ _ => v_move rfl) ?_
         refine p_free rfl rfl rfl rfl (fun w _ => v_fieldAddr 3 (Try.runUnderlying29 w) rfl (Try.sizeOf26 w) rfl) ?_
         refine p_hoist rfl rfl rfl rfl (fun w hh => v_load (Try.isAgg26 w) rfl (hh.cell 0 rfl rfl)) ?_
         refine p_free rfl rfl rfl rfl (fun w _ => v_lenN (vlen RI h34 rfl) (Try.runUnderlying26 w) rfl) ?_
         obtain ⟨t87, h66, hm⟩ := bindO hm
         refine p_free rfl rfl rfl rfl (fun _ _ => v_subc h66 rfl rfl) ?_
         refine p_one rfl ?_
         obtain ⟨t82, h67, hm⟩ := bindO hm
         refine g_sel (S' := [_, _, _, _]) (vs' := [_, _, _]) [1, 0, 2, 3] [0, 1, 2] 0 (by decide) (by decide) rfl rfl rfl ?_
         refine g_callH [_] [] rfl rfl rfl rfl rfl rfl rfl (fun a w => Try.call20 a w) (fun w hh => c_laurelkit_Heap_From b00 t70.h0_1 t70.h0_2 (-1) t81 pb qa0 na0 ca0 w (HV.callee (S0 := [_]) (vs0 := []) hh (roC (hh.rsep (S0 := [_]) (vs0 := []) 0 rfl) roN)) hna0 hqa0 hla0 h67) (fun l_19 h68 => ?_)
         refine g_sel (S' := [_, _, _, _]) (vs' := [_, _, _]) [0, 1, 2, 3] [0, 1, 2] 0 (by decide) (by decide) rfl rfl rfl ?_
         refine p_next (fun w hh => hh.sel [2, 3] [0, 1, 2] 0 (by decide) (by decide) rfl rfl rfl) ?_
         refine p_free rfl rfl rfl rfl (fun w _ => v_fieldAddr 0 (Try.runUnderlying51 w) rfl (Try.sizeOf3 w) rfl) ?_
         refine p_one rfl ?_
         obtain ⟨t88, h69, hm⟩ := bindO hm
         refine g_callH [_] [] rfl rfl rfl rfl rfl rfl rfl (fun a w => Try.call64 a w) (fun w hh => c_laurelkit_Heap_Upto b00 t82.h0_1 t82.h0_2 t87 pb qa0 na0 ca0 w (HV.callee (S0 := [_]) (vs0 := []) hh (roC (hh.rsep (S0 := [_]) (vs0 := []) 0 rfl) roN)) hna0 hqa0 hla0 h69) (fun l_20 h70 => ?_)
         refine g_sel (S' := [_, _, _, _]) (vs' := [_, _, _]) [0, 1, 2, 3] [0, 1, 2] 0 (by decide) (by decide) rfl rfl rfl ?_
         refine p_next (fun w hh => hh.sel [2, 3] [0, 1, 2] 0 (by decide) (by decide) rfl rfl rfl) ?_
         refine p_one rfl ?_
         refine g_stS (cs' := #[_, _, _]) (S' := [_, _, _, _]) 1 (fun w => Try.sizeOf3 w) rfl rfl rfl rfl rfl rfl rfl ?_
         refine p_next (fun w hh => hh.sel [2, 3] [0, 1, 2] 0 (by decide) (by decide) rfl rfl rfl) ?_
         refine p_free rfl rfl rfl rfl (fun w _ => v_fieldAddr 1 (Try.runUnderlying51 w) rfl (Try.sizeOf3 w) rfl) ?_
         refine p_one rfl ?_
         refine g_stS (cs' := #[_, _, _]) (S' := [_, _, _, _]) 1 (fun w => Try.sizeOf3 w) rfl rfl rfl rfl rfl rfl rfl ?_
         refine p_next (fun w hh => hh.sel [2, 3] [0, 1, 2] 0 (by decide) (by decide) rfl rfl rfl) ?_
         refine p_done ?_
         obtain rfl := Option.some.inj hm
         exact g_leaf () (trivial) ((.cons rfl (.cons rfl (.cons rfl (.cons rfl (.cons rfl (.cons rfl .nil))))))) (fun w hh => hh.sel [1, 0, 2, 3] [0, 1, 2] 0 (by decide) (by decide) rfl rfl rfl)
        ·replace hm := ifF (of_decide_eq_false h64) hm
         refine g_skip ?_
         obtain rfl := Option.some.inj hm
         exact g_leaf () (trivial) ((.cons rfl (.cons rfl (.cons rfl (.cons rfl (.cons rfl (.cons rfl .nil))))))) (fun w hh => hh)
       ·intro l_18 hj
        replace hm := h63
        refine g_n_then ?_
        refine g_seq ?_
        obtain ⟨o_5, h71, h72⟩ := bindO hm
        refine g_cut (ι := Unit) (fun l_21 => True) (fun l_21 => [(0, ptr pb 0), (6, ptr b 0), (7, ptr b_1 0), (11, ptr b_2 0), (54, .int .i64 t54.r0), (55, .int .i64 s_2.t55)]) (fun l_21 => [(b_2, .cells #[.int .i64 o_5.x11_a, .int .i64 o_5.x11_b, .int .i64 t70.r0] 51 (0, 0)), (pb, .cells #[.slice qa0 na0 ca0, .int .i64 o_5.b0_1, .int .u32 o_5.b0_2] 138 (0, 0)), (b_1, .cells #[slv l_4.q l_4.n l_4.cap, .int .i64 t14, .int .i64 t16.r0, slv l_9.q l_9.n l_9.cap, slv l_14.q l_14.n l_14.cap] 29 (0, 0)), (b, .cells #[slv none 0 0, .int .i64 0, .int .i64 0, slv none 0 0, slv none 0 0] 29 (0, 0))]) (fun l_21 => [⟨68, RW.enc o.s7_table, l_4.sp, l_4.q⟩, ⟨3, RI.enc o_1.s7_floors, l_9.sp, l_9.q⟩, ⟨51, RS.enc s_2.s7_sills, l_14.sp, l_14.q⟩]) ?_ ?_
        ·replace hm := h71
         refine g_seq ?_
         refine g_region ?_
         refine g_val rfl rfl rfl (fun _ _ => v_move rfl) ?_
         obtain ⟨t92, h73, hm⟩ := bindO hm
         refine g_sel (S' := [_, _, _, _]) (vs' := [_, _, _]) [1, 0, 2, 3] [0, 1, 2] 0 (by decide) (by decide) rfl rfl rfl ?_
         refine g_callH [_] [] rfl rfl rfl rfl rfl rfl rfl (fun a w => Try.call85 a w) (fun w hh => c_laurelkit_Heap_Once b00 o_4.b0_1 o_4.b0_2 3 pb qa0 na0 ca0 w (HV.callee (S0 := [_]) (vs0 := []) hh (roC (hh.rsep (S0 := [_]) (vs0 := []) 0 rfl) roN)) hna0 hqa0 hla0 h73) (fun l_22 h74 => ?_)
         refine g_sel (S' := [_, _, _, _]) (vs' := [_, _, _]) [0, 1, 2, 3] [0, 1, 2] 0 (by decide) (by decide) rfl rfl rfl ?_
         refine g_nil ?_
         refine g_n_then ?_
         refine g_cond rfl (fun h75 => ?_) (fun h75 => ?_)
         ·replace hm := ifT (h75) hm
          refine g_region ?_
          refine g_val rfl rfl rfl (fun w _ => v_fieldAddr 1 (Try.runUnderlying51 w) rfl (Try.sizeOf3 w) rfl) ?_
          refine g_val rfl rfl rfl (fun w hh => v_load (Try.isAgg3 w) rfl (hh.cell 1 rfl rfl)) ?_
          refine g_val rfl rfl rfl (fun w _ => v_fieldAddr 0 (Try.runUnderlying51 w) rfl (Try.sizeOf3 w) rfl) ?_
          refine g_val rfl rfl rfl (fun w hh => v_load (Try.isAgg3 w) rfl (hh.cell 1 rfl rfl)) ?_
          refine g_val rfl rfl rfl (fun w _ => v_fieldAddr 0 (Try.runUnderlying51 w) rfl (Try.sizeOf3 w) rfl) ?_
          refine g_stS (cs' := #[_, _, _]) (S' := [_, _, _, _]) 1 (fun w => Try.sizeOf3 w) rfl rfl rfl rfl rfl rfl rfl ?_
          refine g_val rfl rfl rfl (fun w _ => v_fieldAddr 1 (Try.runUnderlying51 w) rfl (Try.sizeOf3 w) rfl) ?_
          refine g_stS (cs' := #[_, _, _]) (S' := [_, _, _, _]) 1 (fun w => Try.sizeOf3 w) rfl rfl rfl rfl rfl rfl rfl ?_
          refine g_nil ?_
          obtain rfl := Option.some.inj hm
          exact g_leaf () (trivial) ((.cons rfl (.cons rfl (.cons rfl (.cons rfl (.cons rfl (.cons rfl .nil))))))) (fun w hh => hh.sel [1, 0, 2, 3] [0, 1, 2] 0 (by decide) (by decide) rfl rfl rfl)
         ·replace hm := ifF ((fun hh => Bool.noConfusion ((h75).symm.trans hh))) hm
          refine g_skip ?_
          obtain rfl := Option.some.inj hm
          exact g_leaf () (trivial) ((.cons rfl (.cons rfl (.cons rfl (.cons rfl (.cons rfl (.cons rfl .nil))))))) (fun w hh => hh.sel [1, 0, 2, 3] [0, 1, 2] 0 (by decide) (by decide) rfl rfl rfl)
        ·intro l_21 hj
         replace hm := h72
         refine g_n_then ?_
         refine g_seq ?_
         refine g_region ?_
         refine g_val rfl rfl rfl (fun w _ => v_fieldAddr 0 (Try.runUnderlying51 w) rfl (Try.sizeOf3 w) rfl) ?_
         refine g_val rfl rfl rfl (fun w hh => v_load (Try.isAgg3 w) rfl (hh.cell 0 rfl rfl)) ?_
         refine g_val rfl rfl rfl (fun w _ => v_fieldAddr 1 (Try.runUnderlying51 w) rfl (Try.sizeOf3 w) rfl) ?_
         refine g_val rfl rfl rfl (fun w hh => v_load (Try.isAgg3 w) rfl (hh.cell 0 rfl rfl)) ?_
         refine g_val rfl rfl rfl (fun _ _ => v_neq rfl rfl) ?_
         refine g_nil ?_
         refine g_n_then ?_
         refine g_cond rfl (fun h76 => ?_) (fun h76 => ?_)
         ·replace hm := ifF (of_ndec_true h76) hm
          refine g_region ?_
          refine g_val rfl rfl rfl (fun w _ => v_fieldAddr 4 (Try.runUnderlying29 w) rfl (Try.sizeOf27 w) rfl) ?_
          refine g_val rfl rfl rfl (fun w hh => v_load (Try.isAgg27 w) rfl (hh.cell 2 rfl rfl)) ?_
          refine g_val rfl rfl rfl (fun w hh => v_loadAgg (vs := [_, _, _]) (Try.isAgg51 w) (Try.sizeOf51 w) rfl (hh.cells 0 rfl rfl)) ?_
          refine g_vlit RS [(⟨o_5.x11_a, o_5.x11_b, t70.r0⟩ : Sill)] (ps := [(0, _)]) (cells := [_, _, _]) (fun w => Try.runUnderlying27 w) (fun w => Try.sizeOf51 w) (fun w => Try.zeroValue51 w) rfl rfl rfl rfl rfl rfl rfl rfl (fun L_4 h77 => ?_)
          obtain ⟨t108, h78, hm⟩ := bindO hm
          refine g_vapp RS 3 h78 Try.underlying27 gxinf51 rfl rfl rfl rfl rfl h49 rfl rfl (vlen RS h77 rfl) (AOK.q (vne h77)) (fun w hh => (hh.vsegA 0 rfl h77)) rfl (fun L_5 h79 h79n => ?_)
          refine g_sel (S' := [_, _, _, _]) (vs' := [_, _, _, _]) [0, 1, 2, 3] [0, 1, 2, 3] 0 (by decide) (by decide) rfl rfl rfl ?_
          refine g_val rfl rfl rfl (fun w _ => v_fieldAddr 4 (Try.runUnderlying29 w) rfl (Try.sizeOf27 w) rfl) ?_
          refine g_stS (cs' := #[_, _, _, _, _]) (S' := [_, _, _, _]) 2 (fun w => Try.sizeOf27 w) rfl rfl rfl rfl rfl rfl rfl ?_
          refine g_nil ?_
          refine g_n_blk ?_
          obtain rfl := Option.some.inj hm
          exact g_leaf L_5 (h79) ((.cons rfl (.cons rfl (.cons rfl (.cons rfl (.cons rfl .nil)))))) (fun w hh => hh.sel [1, 2, 3] [1, 2, 3] 0 (by decide) (by decide) rfl rfl rfl)
         ·replace hm := ifT (of_ndec_false h76) hm
          refine g_skip ?_
          refine g_n_blk ?_
          obtain rfl := Option.some.inj hm
          exact g_leaf l_14 (h49) ((.cons rfl (.cons rfl (.cons rfl (.cons rfl (.cons rfl .nil)))))) (fun w hh => hh.sel [1, 2, 3] [0, 1, 2] 0 (by decide) (by decide) rfl rfl rfl)
      ·intro l_15 hj
       have h54 := hj
       replace hm := h53
       refine g_n_then ?_
       refine g_region ?_
       obtain ⟨t110, h80, hm⟩ := bindO hm
       refine g_val rfl rfl rfl (fun _ _ => v_addc h80 rfl rfl) ?_
       refine g_val rfl rfl rfl (fun _ _ => v_move rfl) ?_
       refine g_nil ?_
       obtain rfl := Option.some.inj hm
       refine g_n_then ?_
       exact g_again' _ l_15 rfl (h54) ((.cons rfl (.cons rfl (.cons rfl (.cons rfl (.cons rfl .nil)))))) (fun w hh => hh)
     ·replace hm := ifF (of_decide_eq_false h51) hm
      refine g_exit ?_
      refine g_x_then ?_
      refine g_x_then ?_
      refine g_x_blk ?_
      obtain rfl := Option.some.inj hm
      have hbo := h50 _ rfl
      subst hbo
      exact g_leaf l_14 (h49) ((.cons rfl (.cons rfl .nil))) (fun w hh => hh)
    ·intro l_13 hj
     have h48 := hj
     replace hm := h47
     refine g_n_then ?_
     refine g_seq ?_
     refine g_region ?_
     refine g_val rfl rfl rfl (fun w hh => v_loadAgg (vs := [_, _, _, _, _]) (Try.isAgg29 w) (Try.sizeOf29 w) rfl (hh.cells 1 rfl rfl)) ?_
     refine g_stSA (us := #[_, _, _, _, _]) (cs' := [_, _, _, _, _]) (S' := [_, _, _]) 2 (fun w => Try.sizeOf29 w) rfl rfl rfl rfl rfl rfl rfl ?_
     refine g_nil ?_
     refine g_n_then ?_
     refine g_ret ?_
     obtain rfl := Option.some.inj hm
     refine g_done rfl (fun w hh => (.cell rfl (loadVar_agg (vs := [_, _, _, _, _]) (Try.isAgg29 _) (Try.sizeOf29 _) (hh.cells 2 rfl rfl)) .nil)) (fun w hh => ⟨(l_4, l_9, l_13), rfl, ⟨h17, h34, h48⟩, hh.sel [0] [0, 1, 2] 1 (by decide) (by decide) rfl rfl rfl⟩)
def m_laurellaw01_first (s0 : Sands) : Option Int :=
 (ix s0.table 0).bind fun t5 =>
 some t5.min
set_option maxRecDepth 100000 in
set_option maxHeartbeats 4000000 in
theorem c_laurellaw01_first (s0 : Sands) (qa0 : Option Addr) (na0 ca0 : Nat) (qa1 : Option Addr) (na1 ca1 : Nat) (qa2 : Option Addr) (na2 ca2 : Nat) (w : World) (hw : HV w (keys [] []) [] [] [(aB qa0, aO qa0, RW.enc s0.table), (aB qa1, aO qa1, RI.enc s0.floors), (aB qa2, aO qa2, RS.enc s0.sills)] w) (hna0 : s0.table.length = na0) (hqa0 : AOK na0 qa0) (hla0 : na0 ≤ ca0) (hna1 : s0.floors.length = na1) (hqa1 : AOK na1 qa1) (hla1 : na1 ≤ ca1) (hna2 : s0.sills.length = na2) (hqa2 : AOK na2 qa2) (hla2 : na2 ≤ ca2) {res : Int} (hm : m_laurellaw01_first s0 = some res) :
    Calls Try.prog 26 #[.agg #[.slice qa0 na0 ca0, .int .i64 s0.wind.lo, .int .i64 s0.wind.hi, .slice qa1 na1 ca1, .slice qa2 na2 ca2]] w (fun en w' => ∃ l : Unit, en = .returned (.int .i64 res) ∧ (True) ∧ HV w (keys [] []) [] [] [] w') := by
  unfold m_laurellaw01_first at hm
  refine g_enter (args := [.agg #[.slice qa0 na0 ca0, .int .i64 s0.wind.lo, .int .i64 s0.wind.hi, .slice qa1 na1 ca1, .slice qa2 na2 ca2]]) Try.func26 rfl Try.ntmps26 rfl (e := [(0, _)]) rfl (H := HV w (keys [] []) [] [] [(aB qa0, aO qa0, RW.enc s0.table), (aB qa1, aO qa1, RI.enc s0.floors), (aB qa2, aO qa2, RS.enc s0.sills)]) hw ?_
  refine g_seq ?_
  refine g_region ?_
  refine g_boxV rfl rfl (fun b h1 => ?_)
  refine g_val rfl rfl rfl (fun _ _ => v_assign rfl) ?_
  refine g_nil ?_
  refine g_n_then ?_
  refine g_seq ?_
  refine g_region ?_
  refine g_val rfl rfl rfl (fun w _ => v_fieldAddr 0 (Try.runUnderlying29 w) rfl (Try.sizeOf23 w) rfl) ?_
  refine g_val rfl rfl rfl (fun w hh => v_load (Try.isAgg23 w) rfl (hh.cell 0 rfl rfl)) ?_
  obtain ⟨t5, h2, hm⟩ := bindO hm
  refine g_val rfl rfl rfl (fun w _ => v_ixR h2 (Try.runUnderlying23 w) (Try.sizeOf68 w) rfl rfl hna0 hqa0) ?_
  refine g_val rfl rfl rfl (fun w _ => v_fieldAddr 0 (Try.runUnderlying68 w) rfl (Try.sizeOf3 w) rfl) ?_
  refine g_val rfl rfl rfl (fun w hh => v_ldE RW 0 h2 (Try.isAgg3 w) rfl (hh.seg 0 rfl) rfl rfl) ?_
  refine g_val rfl rfl rfl (fun _ _ => v_assign rfl) ?_
  refine g_nil ?_
  refine g_n_then ?_
  refine g_ret ?_
  obtain rfl := Option.some.inj hm
  refine g_done rfl (fun w hh => (.tmp rfl .nil)) (fun w hh => ⟨(), rfl, trivial, hh.sel [] [] 3 (by decide) (by decide) rfl rfl rfl⟩)
def m_laurellaw01_last (s0 : Sands) : Option Int :=
 (subc (s0.table.length : Int) 1).bind fun t8 =>
 (ix s0.table t8).bind fun t9 =>
 some t9.min
set_option maxRecDepth 100000 in
set_option maxHeartbeats 4000000 in
theorem c_laurellaw01_last (s0 : Sands) (qa0 : Option Addr) (na0 ca0 : Nat) (qa1 : Option Addr) (na1 ca1 : Nat) (qa2 : Option Addr) (na2 ca2 : Nat) (w : World) (hw : HV w (keys [] []) [] [] [(aB qa0, aO qa0, RW.enc s0.table), (aB qa1, aO qa1, RI.enc s0.floors), (aB qa2, aO qa2, RS.enc s0.sills)] w) (hna0 : s0.table.length = na0) (hqa0 : AOK na0 qa0) (hla0 : na0 ≤ ca0) (hna1 : s0.floors.length = na1) (hqa1 : AOK na1 qa1) (hla1 : na1 ≤ ca1) (hna2 : s0.sills.length = na2) (hqa2 : AOK na2 qa2) (hla2 : na2 ≤ ca2) {res : Int} (hm : m_laurellaw01_last s0 = some res) :
    Calls Try.prog 27 #[.agg #[.slice qa0 na0 ca0, .int .i64 s0.wind.lo, .int .i64 s0.wind.hi, .slice qa1 na1 ca1, .slice qa2 na2 ca2]] w (fun en w' => ∃ l : Unit, en = .returned (.int .i64 res) ∧ (True) ∧ HV w (keys [] []) [] [] [] w') := by
  unfold m_laurellaw01_last at hm
  refine g_enter (args := [.agg #[.slice qa0 na0 ca0, .int .i64 s0.wind.lo, .int .i64 s0.wind.hi, .slice qa1 na1 ca1, .slice qa2 na2 ca2]]) Try.func27 rfl Try.ntmps27 rfl (e := [(0, _)]) rfl (H := HV w (keys [] []) [] [] [(aB qa0, aO qa0, RW.enc s0.table), (aB qa1, aO qa1, RI.enc s0.floors), (aB qa2, aO qa2, RS.enc s0.sills)]) hw ?_
  refine g_seq ?_
  refine g_region ?_
  refine g_boxV rfl rfl (fun b h1 => ?_)
  refine g_val rfl rfl rfl (fun _ _ => v_assign rfl) ?_
  refine g_nil ?_
  refine g_n_then ?_
  refine g_seq ?_
  refine g_region ?_
  refine g_val rfl rfl rfl (fun w _ => v_fieldAddr 0 (Try.runUnderlying29 w) rfl (Try.sizeOf23 w) rfl) ?_
  refine g_val rfl rfl rfl (fun w hh => v_load (Try.isAgg23 w) rfl (hh.cell 0 rfl rfl)) ?_
  refine g_val rfl rfl rfl (fun w _ => v_fieldAddr 0 (Try.runUnderlying29 w) rfl (Try.sizeOf23 w) rfl) ?_
  refine g_val rfl rfl rfl (fun w hh => v_load (Try.isAgg23 w) rfl (hh.cell 0 rfl rfl)) ?_
  refine g_val rfl rfl rfl (fun w _ => v_lenR hna0 (Try.runUnderlying23 w) rfl) ?_
  obtain ⟨t8, h2, hm⟩ := bindO hm
  refine g_val rfl rfl rfl (fun _ _ => v_subc h2 rfl rfl) ?_
  obtain ⟨t9, h3, hm⟩ := bindO hm
  refine g_val rfl rfl rfl (fun w _ => v_ixR h3 (Try.runUnderlying23 w) (Try.sizeOf68 w) rfl rfl hna0 hqa0) ?_
  refine g_val rfl rfl rfl (fun w _ => v_fieldAddr 0 (Try.runUnderlying68 w) rfl (Try.sizeOf3 w) rfl) ?_
  refine g_val rfl rfl rfl (fun w hh => v_ldE RW 0 h3 (Try.isAgg3 w) rfl (hh.seg 0 rfl) rfl rfl) ?_
  refine g_val rfl rfl rfl (fun _ _ => v_assign rfl) ?_
  refine g_nil ?_
  refine g_n_then ?_
  refine g_ret ?_
  obtain rfl := Option.some.inj hm
  refine g_done rfl (fun w hh => (.tmp rfl .nil)) (fun w hh => ⟨(), rfl, trivial, hh.sel [] [] 3 (by decide) (by decide) rfl rfl rfl⟩)
end Go.Proofs.Wk

namespace Go.Proofs.Wk
open Go Go.Fw Go.Gx Go.Pl
set_option linter.unusedVariables false
def m_laurellaw01_line_L0 (s0 : Sands) (minute1 : Int) (s : Int) : Option (Int ⊕ (Unit ⊕ Int)) :=
 if s < (s0.table.length : Int) then
 ((ix s0.table s).bind fun t15 =>
 if t15.min = minute1 then
 (some (.inr (.inr t15.h))) else
 (if minute1 < t15.min then
 ((subc s 1).bind fun t30 =>
 (ix s0.table t30).bind fun t31 =>
 (subc t15.min t31.min).bind fun t37 =>
 (mulc t31.h t37).bind fun t41 =>
 (subc t15.h t31.h).bind fun t46 =>
 (subc minute1 t31.min).bind fun t50 =>
 (mulc t46 t50).bind fun t51 =>
 (addc t41 t51).bind fun t52 =>
 (mulc 1000 t37).bind fun t54 =>
 (addc t52 t54).bind fun t55 =>
 (quoc t55 t37).bind fun t57 =>
 (subc t57 1000).bind fun t58 =>
 some (.inr (.inr t58))) else
 ((addc s 1).bind fun t59 =>
 some (.inl t59)))) else
 (some (.inr (.inl ())))
def m_laurellaw01_line (s0 : Sands) (minute1 : Int) : Option Int :=
 (iterM FU (m_laurellaw01_line_L0 s0 minute1) 0).bind fun o =>
 oc o (fun j => some 0) (fun r_1 => some r_1)
set_option maxRecDepth 100000 in
set_option maxHeartbeats 4000000 in
theorem c_laurellaw01_line (s0 : Sands) (minute1 : Int) (qa0 : Option Addr) (na0 ca0 : Nat) (qa1 : Option Addr) (na1 ca1 : Nat) (qa2 : Option Addr) (na2 ca2 : Nat) (w : World) (hw : HV w (keys [] []) [] [] [(aB qa0, aO qa0, RW.enc s0.table), (aB qa1, aO qa1, RI.enc s0.floors), (aB qa2, aO qa2, RS.enc s0.sills)] w) (hna0 : s0.table.length = na0) (hqa0 : AOK na0 qa0) (hla0 : na0 ≤ ca0) (hna1 : s0.floors.length = na1) (hqa1 : AOK na1 qa1) (hla1 : na1 ≤ ca1) (hna2 : s0.sills.length = na2) (hqa2 : AOK na2 qa2) (hla2 : na2 ≤ ca2) {res : Int} (hm : m_laurellaw01_line s0 minute1 = some res) :
    Calls Try.prog 40 #[.agg #[.slice qa0 na0 ca0, .int .i64 s0.wind.lo, .int .i64 s0.wind.hi, .slice qa1 na1 ca1, .slice qa2 na2 ca2], .int .i64 minute1] w (fun en w' => ∃ l : Unit, en = .returned (.int .i64 res) ∧ (True) ∧ HV w (keys [] []) [] [] [] w') := by
  unfold m_laurellaw01_line at hm
  refine g_enter (args := [.agg #[.slice qa0 na0 ca0, .int .i64 s0.wind.lo, .int .i64 s0.wind.hi, .slice qa1 na1 ca1, .slice qa2 na2 ca2], .int .i64 minute1]) Try.func40 rfl Try.ntmps40 rfl (e := [(0, _), (1, _)]) rfl (H := HV w (keys [] []) [] [] [(aB qa0, aO qa0, RW.enc s0.table), (aB qa1, aO qa1, RI.enc s0.floors), (aB qa2, aO qa2, RS.enc s0.sills)]) hw ?_
  refine g_seq ?_
  refine g_region ?_
  refine g_boxV rfl rfl (fun b h1 => ?_)
  refine g_val rfl rfl rfl (fun _ _ => v_assign rfl) ?_
  refine g_nil ?_
  refine g_n_then ?_
  refine g_seq ?_
  refine g_seq ?_
  refine g_region ?_
  refine g_val rfl rfl rfl (fun w _ => v_fieldAddr 0 (Try.runUnderlying29 w) rfl (Try.sizeOf23 w) rfl) ?_
  refine g_val rfl rfl rfl (fun w hh => v_load (Try.isAgg23 w) rfl (hh.cell 0 rfl rfl)) ?_
  refine g_val rfl rfl rfl (fun w _ => v_lenR hna0 (Try.runUnderlying23 w) rfl) ?_
  refine g_val rfl rfl rfl (fun _ _ => v_move rfl) ?_
  refine g_nil ?_
  refine g_n_then ?_
  obtain ⟨o, h2, h3⟩ := bindO hm
  refine g_cut (ι := Unit) (fun j => o = .inl j) (fun j => []) (fun j => [(b, .cells #[.slice qa0 na0 ca0, .int .i64 s0.wind.lo, .int .i64 s0.wind.hi, .slice qa1 na1 ca1, .slice qa2 na2 ca2] 29 (0, 0))]) (fun j => []) ?_ ?_
  ·replace hm := h2
   refine g_block ?_
   refine g_loopF (ι := Unit) hm (fun s l => True) (fun s l => [(1, .int .i64 minute1), (2, ptr b 0), (10, .slice qa0 na0 ca0), (11, .int .i64 (s0.table.length : Int)), (12, .int .i64 s)]) (fun s l => [(b, .cells #[.slice qa0 na0 ca0, .int .i64 s0.wind.lo, .int .i64 s0.wind.hi, .slice qa1 na1 ca1, .slice qa2 na2 ca2] 29 (0, 0))]) (fun s l => []) () (trivial) ((.cons rfl (.cons rfl (.cons rfl (.cons rfl (.cons rfl .nil)))))) (fun w hh => hh) (fun s l r hpl hm h4 => ?_)
   unfold m_laurellaw01_line_L0 at hm
   refine g_seq ?_
   refine g_region ?_
   refine g_val rfl rfl rfl (fun _ _ => v_lss rfl rfl) ?_
   refine g_nil ?_
   refine g_n_then ?_
   refine g_seq ?_
   refine g_cond rfl (fun h5 => ?_) (fun h5 => ?_)
   ·replace hm := ifT (of_decide_eq_true h5) hm
    refine g_skip ?_
    refine g_n_then ?_
    refine g_seq ?_
    refine g_block ?_
    refine g_seq ?_
    refine g_region ?_
    refine g_val rfl rfl rfl (fun _ _ => v_move rfl) ?_
    obtain ⟨t15, h6, hm⟩ := bindO hm
    refine g_val rfl rfl rfl (fun w _ => v_ixR h6 (Try.runUnderlying23 w) (Try.sizeOf68 w) rfl rfl hna0 hqa0) ?_
    refine g_val rfl rfl rfl (fun w hh => v_ldEA RW 0 [.int .i64 t15.min, .int .i64 t15.h] h6 (Try.isAgg68 w) (Try.sizeOf68 w) rfl (hh.seg 0 rfl) rfl (Nat.add_zero _).symm) ?_
    refine g_allocV (fun w => Try.zeroValue68 w) rfl (fun b_1 h7 => ?_)
    refine g_val rfl rfl rfl (fun _ _ => v_assign rfl) ?_
    refine g_stSA (us := #[_, _]) (cs' := [_, _]) (S' := [_, _]) 0 (fun w => Try.sizeOf68 w) rfl rfl rfl rfl rfl rfl rfl ?_
    refine g_nil ?_
    refine g_n_then ?_
    refine g_seq ?_
    refine g_seq ?_
    refine g_region ?_
    refine g_val rfl rfl rfl (fun w _ => v_fieldAddr 0 (Try.runUnderlying68 w) rfl (Try.sizeOf3 w) rfl) ?_
    refine g_val rfl rfl rfl (fun w hh => v_load (Try.isAgg3 w) rfl (hh.cell 0 rfl rfl)) ?_
    refine g_val rfl rfl rfl (fun _ _ => v_move rfl) ?_
    refine g_val rfl rfl rfl (fun _ _ => v_eql rfl rfl) ?_
    refine g_nil ?_
    refine g_n_then ?_
    refine g_cond rfl (fun h8 => ?_) (fun h8 => ?_)
    ·replace hm := ifT (of_decide_eq_true h8) hm
     refine g_seq ?_
     refine g_region ?_
     refine g_val rfl rfl rfl (fun w _ => v_fieldAddr 1 (Try.runUnderlying68 w) rfl (Try.sizeOf3 w) rfl) ?_
     refine g_val rfl rfl rfl (fun w hh => v_load (Try.isAgg3 w) rfl (hh.cell 0 rfl rfl)) ?_
     refine g_val rfl rfl rfl (fun _ _ => v_assign rfl) ?_
     refine g_nil ?_
     refine g_n_then ?_
     refine g_ret ?_
     refine g_r_then ?_
     refine g_r_blk ?_
     refine g_r_then ?_
     refine g_r_then ?_
     refine g_r_blk ?_
     obtain rfl := Option.some.inj hm
     have hbo := h4 _ rfl
     subst hbo
     refine g_r_then ?_
     replace hm := ocR h3
     refine g_r_then ?_
     obtain rfl := Option.some.inj hm
     refine g_done rfl (fun w hh => (.tmp rfl .nil)) (fun w hh => ⟨(), rfl, trivial, hh.sel [] [] 3 (by decide) (by decide) rfl rfl rfl⟩)
    ·replace hm := ifF (of_decide_eq_false h8) hm
     refine g_skip ?_
     refine g_n_then ?_
     refine g_seq ?_
     refine g_region ?_
     refine g_val rfl rfl rfl (fun w _ => v_fieldAddr 0 (Try.runUnderlying68 w) rfl (Try.sizeOf3 w) rfl) ?_
     refine g_val rfl rfl rfl (fun w hh => v_load (Try.isAgg3 w) rfl (hh.cell 0 rfl rfl)) ?_
     refine g_val rfl rfl rfl (fun _ _ => v_move rfl) ?_
     refine g_val rfl rfl rfl (fun _ _ => v_gtr rfl rfl) ?_
     refine g_nil ?_
     refine g_n_then ?_
     refine g_cond rfl (fun h9 => ?_) (fun h9 => ?_)
     ·replace hm := ifT (of_decide_eq_true h9) hm
      refine g_seq ?_
      refine g_region ?_
      refine g_val rfl rfl rfl (fun w _ => v_fieldAddr 0 (Try.runUnderlying29 w) rfl (Try.sizeOf23 w) rfl) ?_
      refine g_val rfl rfl rfl (fun w hh => v_load (Try.isAgg23 w) rfl (hh.cell 1 rfl rfl)) ?_
      refine g_val rfl rfl rfl (fun _ _ => v_move rfl) ?_
      obtain ⟨t30, h10, hm⟩ := bindO hm
      refine g_val rfl rfl rfl (fun _ _ => v_subc h10 rfl rfl) ?_
      obtain ⟨t31, h11, hm⟩ := bindO hm
      refine g_val rfl rfl rfl (fun w _ => v_ixR h11 (Try.runUnderlying23 w) (Try.sizeOf68 w) rfl rfl hna0 hqa0) ?_
      refine g_val rfl rfl rfl (fun w hh => v_ldEA RW 0 [.int .i64 t31.min, .int .i64 t31.h] h11 (Try.isAgg68 w) (Try.sizeOf68 w) rfl (hh.seg 0 rfl) rfl (Nat.add_zero _).symm) ?_
      refine g_allocV (fun w => Try.zeroValue68 w) rfl (fun b_2 h12 => ?_)
      refine g_stSA (us := #[_, _]) (cs' := [_, _]) (S' := [_, _, _]) 0 (fun w => Try.sizeOf68 w) rfl rfl rfl rfl rfl rfl rfl ?_
      refine g_nil ?_
      refine g_n_then ?_
      refine g_seq ?_
      refine g_region ?_
      refine g_val rfl rfl rfl (fun w _ => v_fieldAddr 0 (Try.runUnderlying68 w) rfl (Try.sizeOf3 w) rfl) ?_
      refine g_val rfl rfl rfl (fun w hh => v_load (Try.isAgg3 w) rfl (hh.cell 1 rfl rfl)) ?_
      refine g_val rfl rfl rfl (fun w _ => v_fieldAddr 0 (Try.runUnderlying68 w) rfl (Try.sizeOf3 w) rfl) ?_
      refine g_val rfl rfl rfl (fun w hh => v_load (Try.isAgg3 w) rfl (hh.cell 0 rfl rfl)) ?_
      obtain ⟨t37, h13, hm⟩ := bindO hm
      refine g_val rfl rfl rfl (fun _ _ => v_subc h13 rfl rfl) ?_
      refine g_val rfl rfl rfl (fun _ _ => v_assign rfl) ?_
      refine g_nil ?_
      refine g_n_then ?_
      refine g_seq ?_
      refine g_region ?_
      refine g_val rfl rfl rfl (fun w _ => v_fieldAddr 1 (Try.runUnderlying68 w) rfl (Try.sizeOf3 w) rfl) ?_
      refine g_val rfl rfl rfl (fun w hh => v_load (Try.isAgg3 w) rfl (hh.cell 0 rfl rfl)) ?_
      refine g_val rfl rfl rfl (fun _ _ => v_move rfl) ?_
      obtain ⟨t41, h14, hm⟩ := bindO hm
      refine g_val rfl rfl rfl (fun _ _ => v_mulc h14 rfl rfl) ?_
      refine g_val rfl rfl rfl (fun w _ => v_fieldAddr 1 (Try.runUnderlying68 w) rfl (Try.sizeOf3 w) rfl) ?_
      refine g_val rfl rfl rfl (fun w hh => v_load (Try.isAgg3 w) rfl (hh.cell 1 rfl rfl)) ?_
      refine g_val rfl rfl rfl (fun w _ => v_fieldAddr 1 (Try.runUnderlying68 w) rfl (Try.sizeOf3 w) rfl) ?_
      refine g_val rfl rfl rfl (fun w hh => v_load (Try.isAgg3 w) rfl (hh.cell 0 rfl rfl)) ?_
      obtain ⟨t46, h15, hm⟩ := bindO hm
      refine g_val rfl rfl rfl (fun _ _ => v_subc h15 rfl rfl) ?_
      refine g_val rfl rfl rfl (fun _ _ => v_move rfl) ?_
      refine g_val rfl rfl rfl (fun w _ => v_fieldAddr 0 (Try.runUnderlying68 w) rfl (Try.sizeOf3 w) rfl) ?_
      refine g_val rfl rfl rfl (fun w hh => v_load (Try.isAgg3 w) rfl (hh.cell 0 rfl rfl)) ?_
      obtain ⟨t50, h16, hm⟩ := bindO hm
      refine g_val rfl rfl rfl (fun _ _ => v_subc h16 rfl rfl) ?_
      obtain ⟨t51, h17, hm⟩ := bindO hm
      refine g_val rfl rfl rfl (fun _ _ => v_mulc h17 rfl rfl) ?_
      obtain ⟨t52, h18, hm⟩ := bindO hm
      refine g_val rfl rfl rfl (fun _ _ => v_addc h18 rfl rfl) ?_
      refine g_val rfl rfl rfl (fun _ _ => v_move rfl) ?_
      obtain ⟨t54, h19, hm⟩ := bindO hm
      refine g_val rfl rfl rfl (fun _ _ => v_mulc h19 rfl rfl) ?_
      obtain ⟨t55, h20, hm⟩ := bindO hm
      refine g_val rfl rfl rfl (fun _ _ => v_addc h20 rfl rfl) ?_
      refine g_val rfl rfl rfl (fun _ _ => v_move rfl) ?_
      obtain ⟨t57, h21, hm⟩ := bindO hm
      refine g_val rfl rfl rfl (fun _ _ => v_quoc h21 rfl rfl) ?_
      obtain ⟨t58, h22, hm⟩ := bindO hm
      refine g_val rfl rfl rfl (fun _ _ => v_subc h22 rfl rfl) ?_
      refine g_val rfl rfl rfl (fun _ _ => v_assign rfl) ?_
      refine g_nil ?_
      refine g_n_then ?_
      refine g_ret ?_
      refine g_r_blk ?_
      refine g_r_then ?_
      refine g_r_then ?_
      refine g_r_blk ?_
      obtain rfl := Option.some.inj hm
      have hbo := h4 _ rfl
      subst hbo
      refine g_r_then ?_
      replace hm := ocR h3
      refine g_r_then ?_
      obtain rfl := Option.some.inj hm
      refine g_done rfl (fun w hh => (.tmp rfl .nil)) (fun w hh => ⟨(), rfl, trivial, hh.sel [] [] 3 (by decide) (by decide) rfl rfl rfl⟩)
     ·replace hm := ifF (of_decide_eq_false h9) hm
      refine g_skip ?_
      refine g_n_blk ?_
      refine g_n_then ?_
      refine g_region ?_
      obtain ⟨t59, h23, hm⟩ := bindO hm
      refine g_val rfl rfl rfl (fun _ _ => v_addc h23 rfl rfl) ?_
      refine g_val rfl rfl rfl (fun _ _ => v_move rfl) ?_
      refine g_nil ?_
      obtain rfl := Option.some.inj hm
      refine g_n_then ?_
      exact g_again' _ () rfl (trivial) ((.cons rfl (.cons rfl (.cons rfl (.cons rfl (.cons rfl .nil)))))) (fun w hh => hh.sel [1] [] 0 (by decide) (by decide) rfl rfl rfl)
   ·replace hm := ifF (of_decide_eq_false h5) hm
    refine g_exit ?_
    refine g_x_then ?_
    refine g_x_then ?_
    refine g_x_blk ?_
    obtain rfl := Option.some.inj hm
    have hbo := h4 _ rfl
    subst hbo
    exact g_leaf () (rfl) (.nil) (fun w hh => hh)
  ·intro j hj
   have h24 := hj
   subst h24
   replace hm := ocL h3
   refine g_n_then ?_
   refine g_seq ?_
   refine g_region ?_
   refine g_val rfl rfl rfl (fun _ _ => v_assign rfl) ?_
   refine g_nil ?_
   refine g_n_then ?_
   refine g_ret ?_
   obtain rfl := Option.some.inj hm
   refine g_done rfl (fun w hh => (.tmp rfl .nil)) (fun w hh => ⟨(), rfl, trivial, hh.sel [] [] 3 (by decide) (by decide) rfl rfl rfl⟩)
end Go.Proofs.Wk

namespace Go.Pl
structure TabOK (T : List Water) (at_ : Int) : Prop where
  inc : ∀ i, i + 1 < T.length → (T.getD i default).min < (T.getD (i + 1) default).min
  rg : ∀ i, i < T.length → 0 ≤ (T.getD i default).min ∧ (T.getD i default).min < at_ ∧ 0 ≤ (T.getD i default).h ∧ (T.getD i default).h ≤ 60
theorem TabOK.nil {a : Int} : TabOK [] a := ⟨fun i h => by simp at h, fun i h => by simp at h⟩
theorem getD_snoc {α : Type} {d : α} {l : List α} {x : α} {i : Nat} : (l ++ [x]).getD i d = if i < l.length then l.getD i d else if i = l.length then x else d := by
  simp only [List.getD_eq_getElem?_getD]
  by_cases h : i < l.length
  · rw [List.getElem?_append_left h, if_pos h]
  · rw [List.getElem?_append_right (by omega), if_neg h]
    by_cases h2 : i = l.length
    · subst h2; simp
    · rw [if_neg h2, List.getElem?_eq_none (by simp; omega)]; rfl
theorem TabOK.snoc {T : List Water} {a b h : Int} (k : TabOK T a) (h0 : 0 ≤ a) (hb : a < b) (hh : 0 ≤ h ∧ h ≤ 60) : TabOK (T ++ [⟨a, h⟩]) b := by
  refine ⟨fun i hi => ?_, fun i hi => ?_⟩
  · simp only [List.length_append, List.length_singleton] at hi
    rw [getD_snoc, getD_snoc, if_pos (by omega)]
    by_cases h1 : i + 1 < T.length
    · rw [if_pos h1]; exact k.inc i h1
    · rw [if_neg h1, if_pos (by omega)]
      exact (k.rg i (by omega)).2.1
  · simp only [List.length_append, List.length_singleton] at hi
    rw [getD_snoc]
    by_cases h1 : i < T.length
    · rw [if_pos h1]; have := k.rg i h1; omega
    · rw [if_neg h1, if_pos (by omega)]; simp only; omega
def sillOK (n : Int) (x : Sill) : Prop := (-1 ≤ x.a ∧ x.a < n) ∧ (-1 ≤ x.b ∧ x.b < n) ∧ x.a ≠ x.b ∧ 0 ≤ x.h ∧ x.h ≤ 50
structure MadeOK (pl sl : Int) (s : Sands) : Prop where
  tl : 2 ≤ s.table.length ∧ s.table.length ≤ 4
  tab : ∃ a, TabOK s.table a ∧ a ≤ 140
  lo : -8 ≤ s.wind.lo ∧ s.wind.lo ≤ 0
  hi : 0 ≤ s.wind.hi ∧ s.wind.hi ≤ 8
  fl : 1 ≤ s.floors.length ∧ (s.floors.length : Int) ≤ pl
  flo : ∀ x, x ∈ s.floors → 0 ≤ x ∧ x ≤ 50
  sl : (s.sills.length : Int) ≤ sl
  sil : ∀ x, x ∈ s.sills → sillOK s.floors.length x
theorem mem_getD {α : Type} {d : α} {l : List α} {j : Nat} (h : j < l.length) : l.getD j d ∈ l := by
  simp only [List.getD_eq_getElem?_getD, List.getElem?_eq_getElem h, Option.getD_some]; exact List.getElem_mem h
theorem MadeOK.check {pl sl : Int} {s : Sands} (h : MadeOK pl sl s) (hp : pl ≤ 8) (hs : sl ≤ 16) : check s = 0 := by
  obtain ⟨a, ht, ha⟩ := h.tab
  have h1 := h.tl
  have h2 := h.fl
  have h3 := h.sl
  have e1 : inr s.table.length 2 12 = true := inr_iff.2 (by omega)
  have e2 : inr s.floors.length 1 8 = true := inr_iff.2 (by omega)
  have e3 : decide (16 < (s.sills.length : Int)) = false := by simp; omega
  have e4 : s.table.all bigW = true := all_of_getD (d := default) (fun j hj => by
    have := ht.rg j hj
    simp only [bigW, Bool.and_eq_true, inr_iff]; omega)
  have e5 : inr s.wind.lo (-50) 50 = true := inr_iff.2 (by have := h.lo; omega)
  have e6 : inr s.wind.hi (-50) 50 = true := inr_iff.2 (by have := h.hi; omega)
  have e7 : s.floors.all hgt = true := all_of_getD (d := 0) (fun j hj => by
    have := h.flo _ (mem_getD (d := 0) hj)
    rw [hgt_iff]; omega)
  have e8 : s.sills.all (fun x => hgt x.h) = true := all_of_getD (d := default) (fun j hj => by
    have := (h.sil _ (mem_getD (d := default) hj)).2.2
    rw [hgt_iff]; omega)
  have e9 : ordered s = true := by
    rw [ordered_true (fun i hi => ht.inc i (by omega))]
    have := h.lo; have := h.hi
    simp; omega
  have e10 : s.sills.all (fun x => isEnd s x.a && isEnd s x.b) = true := all_of_getD (d := default) (fun j hj => by
    have := h.sil _ (mem_getD (d := default) hj)
    unfold sillOK at this
    simp only [Bool.and_eq_true, isEnd_iff]
    omega)
  have e11 : s.sills.all (fun x => !decide (x.a = x.b)) = true := all_of_getD (d := default) (fun j hj => by
    have := h.sil _ (mem_getD (d := default) hj)
    simpa using this.2.2.1)
  simp only [Pl.check, e1, e2, e3, e4, e5, e6, e7, e8, e9, e10, e11, Bool.not_true, Bool.or_self, Bool.false_eq_true, if_false]
end Go.Pl

namespace Go.Pl
inductive Reach (s : Sands) (h : Int) : Int → Prop
  | sea : Reach s h (-1)
  | step {p q : Int} {x : Sill} : Reach s h p → x ∈ s.sills → (x.a = p ∧ x.b = q ∨ x.b = p ∧ x.a = q) → q ≠ -1 → x.h ≤ h → s.floors.getD q.toNat 0 ≤ h → Reach s h q
theorem Reach.mono {s : Sands} {h k : Int} {q : Int} (r : Reach s h q) (hk : h ≤ k) : Reach s k q := by
  induction r with
  | sea => exact .sea
  | step _ hx hj hq h1 h2 ih => exact .step ih hx hj hq (by omega) (by omega)
/-! the gates are sound -/
def Snd (s : Sands) (g : List Int) : Prop := ∀ j, j < 8 → g.getD j 0 < 1000 → Reach s (g.getD j 0) (j : Nat)
theorem snd_low {s : Sands} (hG : Good s) {p at_ : Int} (hp : at_ < 1000 → Reach s at_ p) {g : List Int} (hg : OKg g) (hs : Snd s g) {x : Sill} (hx : x ∈ s.sills) {q : Int} (hj : x.a = p ∧ x.b = q ∨ x.b = p ∧ x.a = q) (hq : -1 ≤ q) : Snd s (lowAt s at_ x.h g q) := by
  unfold lowAt
  split
  · exact hs
  · rename_i hq1
    intro j hj8 hlt
    rw [getD_set, foldmax2] at hlt ⊢
    split at hlt
    · rename_i hc
      rw [if_pos hc]
      have hjq : (j : Int) = q := by omega
      rcases Int.le_total (g.getD q.toNat 0) (max (max at_ x.h) (s.floors.getD q.toNat 0)) with hle | hle
      · rw [Int.min_eq_left hle] at hlt ⊢
        have := hs j hj8 (by rw [← hc.1]; exact hlt)
        rw [hc.1]; exact this
      · rw [Int.min_eq_right hle] at hlt ⊢
        rw [hjq]
        exact .step ((hp (by omega)).mono (by omega)) hx hj hq1 (by omega) (by omega)
    · rename_i hc
      rw [if_neg hc]
      exact hs j hj8 hlt
theorem snd_lower {s : Sands} (hG : Good s) {p at_ : Int} (ha : 0 ≤ at_) (hp : at_ < 1000 → Reach s at_ p) {g : List Int} (hg : OKg g) (hs : Snd s g) : Snd s (lowerF s p at_ g) := by
  have key : ∀ (l : List Sill), (∀ x ∈ l, x ∈ s.sills) → ∀ g, OKg g → Snd s g → Snd s (l.foldl (lowStep s p at_) g) := by
    intro l
    induction l with
    | nil => intro _ g _ h; exact h
    | cons x l ih =>
      intro hl g hg hs
      have hx := hl x List.mem_cons_self
      obtain ⟨k, hk, hkx⟩ := List.mem_iff_getElem.1 hx
      have e : s.sills.getD k default = x := by simp [List.getD_eq_getElem?_getD, hk, hkx]
      have h1 := hG.sa k hk
      have h2 := hG.sb k hk
      rw [e] at h1 h2
      refine ih (fun y hy => hl y (List.mem_cons_of_mem _ hy)) _ (lowStep_ok hg ha) ?_
      unfold lowStep
      split
      · rename_i h; exact snd_low hG hp hg hs hx (.inl ⟨h, rfl⟩) h2.1
      · split
        · rename_i h; exact snd_low hG hp hg hs hx (.inr ⟨h, rfl⟩) h1.1
        · exact hs
  exact key s.sills (fun _ h => h) g hg hs
theorem snd_round {s : Sands} (hG : Good s) {g : List Int} (hg : OKg g) (hs : Snd s g) : ∀ k, k ≤ 8 → Snd s (roundN s g k) ∧ OKg (roundN s g k) := by
  intro k
  induction k with
  | zero => intro _; exact ⟨snd_lower hG (Int.le_refl 0) (fun _ => .sea) hg hs, (roundN_ok hg).1⟩
  | succ k ih =>
    intro hk
    obtain ⟨h1, h2⟩ := ih (by omega)
    refine ⟨?_, (roundN_ok hg).1⟩
    rw [roundN_succ]
    exact snd_lower hG (h2.lo k) (fun hlt => h1 k (by omega) hlt) h2 h1
theorem gates_snd {s : Sands} (hG : Good s) : Snd s (gatesOf s) := by
  have key : ∀ (k : Nat) (g : List Int), OKg g → Snd s g → Snd s (fixF s k g) := by
    intro k
    induction k with
    | zero => intro g _ h; exact h
    | succ k ih =>
      intro g hg hs
      unfold fixF
      split
      · exact hs
      · have := snd_round hG hg hs s.floors.length (by have := hG.fl; omega)
        exact ih _ this.2 this.1
  refine key _ _ initG_ok (fun j hj hlt => ?_)
  have : ∀ j, j < 8 → (initG 8).getD j 0 = 1000 := by decide
  rw [this j hj] at hlt
  exact absurd hlt (by omega)
/-! … and closed -/
theorem lower_fix {s : Sands} : lowerF s (-1) 0 (gatesOf s) = gatesOf s ∧ ∀ p, p < s.floors.length → lowerF s (p : Nat) ((gatesOf s).getD p 0) (gatesOf s) = gatesOf s := by
  have hf := gates_fixed (s := s)
  have hg := gates_ok (s := s)
  have h1 := lowerF_ok (s := s) (p := -1) hg (Int.le_refl 0)
  have h2 := foldl_le (I := OKg) (f := fun g (p : Nat) => lowerF s (p : Nat) (g.getD p 0) g) (fun g x h => (lowerF_ok h (h.lo x)).1) (fun g x h => (lowerF_ok h (h.lo x)).2) (List.range s.floors.length) _ h1.1
  have h3 : (List.range s.floors.length).foldl (fun g (p : Nat) => lowerF s (p : Nat) (g.getD p 0) g) (lowerF s (-1) 0 (gatesOf s)) = gatesOf s := hf
  rw [h3] at h2
  have e1 : lowerF s (-1) 0 (gatesOf s) = gatesOf s := h1.2.antisymm h2.2
  rw [e1] at h3
  refine ⟨e1, fun p hp => ?_⟩
  exact foldl_fix (I := OKg) (fun g x h => (lowerF_ok h (h.lo x)).1) (fun g x h => (lowerF_ok h (h.lo x)).2) _ _ hg h3 p (List.mem_range.2 hp)
theorem low_le {s : Sands} {p at_ : Int} {g : List Int} (hg : OKg g) (ha : 0 ≤ at_) (hf : lowerF s p at_ g = g) {x : Sill} (hx : x ∈ s.sills) {q : Int} (hj : x.a = p ∧ x.b = q ∨ x.b = p ∧ x.a = q) (hne : x.a ≠ x.b) (hq : 0 ≤ q ∧ q < 8) : g.getD q.toNat 0 ≤ max (max at_ x.h) (s.floors.getD q.toNat 0) := by
  have h1 := foldl_fix (I := OKg) (fun _ _ h => lowStep_ok h ha) (fun _ _ _ => lowStep_le) _ _ hg hf x hx
  have h2 : lowAt s at_ x.h g q = g := by
    unfold lowStep at h1
    rcases hj with ⟨ha, hb⟩ | ⟨hb, ha⟩
    · rw [if_pos ha, hb] at h1; exact h1
    · rw [if_neg (by omega), if_pos hb, ha] at h1; exact h1
  have h3 := congrArg (fun l => l.getD q.toNat 0) h2
  simp only [lowAt] at h3
  rw [if_neg (by omega), getD_set, if_pos ⟨rfl, by rw [hg.len]; omega⟩, foldmax2] at h3
  omega
theorem gates_le {s : Sands} (hG : Good s) {h : Int} (h0 : 0 ≤ h) {q : Int} (r : Reach s h q) : q = -1 ∨ ((0 ≤ q ∧ q < s.floors.length) ∧ (gatesOf s).getD q.toNat 0 ≤ h) := by
  have hfl := hG.fl
  induction r with
  | sea => exact .inl rfl
  | @step p q x r hx hj hq h1 h2 ih =>
    right
    obtain ⟨k, hk, hkx⟩ := List.mem_iff_getElem.1 hx
    have e : s.sills.getD k default = x := by simp [List.getD_eq_getElem?_getD, hk, hkx]
    have ha := hG.sa k hk
    have hb := hG.sb k hk
    have hne := hG.ne k hk
    rw [e] at ha hb hne
    have hqr : 0 ≤ q ∧ q < s.floors.length := by rcases hj with ⟨h3, h4⟩ | ⟨h3, h4⟩ <;> omega
    refine ⟨hqr, ?_⟩
    have hf := lower_fix (s := s)
    rcases ih with rfl | ⟨hp, hle⟩
    · have := low_le gates_ok (Int.le_refl 0) hf.1 hx hj hne (by omega)
      omega
    · have h5 := hf.2 p.toNat (by omega)
      rw [Int.toNat_of_nonneg hp.1] at h5
      have := low_le gates_ok (gates_ok.lo _) h5 hx hj hne (by omega)
      omega
end Go.Pl

namespace Go.Pl
theorem gStep_le {s : Sands} {h : Int} {out : List Int} {y : Sill} : Le (gStep s h out y) out := by
  refine ⟨gStep_length, fun j => ?_⟩
  unfold gStep
  split
  · rw [getD_set]
    split
    · rename_i hq; rw [hq.1]; exact Int.min_le_left _ _
    · exact Int.le_refl _
  · exact Int.le_refl _
theorem foldl_Le {α : Type} {f : List Int → α → List Int} (hf : ∀ o x, Le (f o x) o) : ∀ (l : List α) (o : List Int), Le (l.foldl f o) o
  | [], o => Le.refl o
  | x :: l, o => (foldl_Le hf l (f o x)).trans (hf o x)
def sStep (s : Sands) (h : Int) (o : List Int) (x : Sill) : List Int := (both x).foldl (gStep s h) o
theorem sStep_le {s : Sands} {h : Int} {o : List Int} {x : Sill} : Le (sStep s h o x) o := foldl_Le (fun _ _ => gStep_le) _ _
theorem sillN_all {s : Sands} {h : Int} {out : List Int} : sillN s h out s.sills.length = s.sills.foldl (sStep s h) out := by
  unfold sillN; rw [List.take_length]; rfl
theorem pass_le {s : Sands} {h : Int} {out : List Int} : Le (sillN s h out s.sills.length) out := by rw [sillN_all]; exact foldl_Le (fun _ _ => sStep_le) _ _
/-! sound -/
def LSnd (s : Sands) (h : Int) (out : List Int) : Prop := ∀ j, j < s.floors.length → out.getD j 0 = 1000000 ∨ (0 ≤ out.getD j 0 ∧ out.getD j 0 ≤ h ∧ Reach s (out.getD j 0) (j : Nat))
theorem gStep_snd {s : Sands} {h : Int} (h0 : 0 ≤ h ∧ h ≤ 999) {out : List Int} (hs : LSnd s h out) {x y : Sill} (hx : x ∈ s.sills) (hy : y = x ∨ y = swapS x) (ha : -1 ≤ y.a ∧ y.a < s.floors.length) (hb : -1 ≤ y.b ∧ y.b < s.floors.length) : LSnd s h (gStep s h out y) := by
  unfold gStep
  split
  · rename_i hc
    obtain ⟨c1, c2, c3, c4⟩ := hc
    intro j hj
    rw [getD_set]
    split
    · rename_i hq
      have hjb : (j : Int) = y.b := by omega
      have hra : Reach s h y.a := by
        rcases c4 with c4 | c4
        · rw [c4]; exact .sea
        · rcases Int.lt_or_le y.a 0 with h1 | h1
          · have : y.a = -1 := by omega
            rw [this]; exact .sea
          · have h2 := hs y.a.toNat (by omega)
            rw [Int.toNat_of_nonneg h1] at h2
            rcases h2 with h2 | h2
            · omega
            · exact h2.2.2.mono h2.2.1
      have hrb : Reach s h y.b := by
        refine .step hra hx ?_ c2 ?_ c3
        · rcases hy with rfl | rfl
          · exact .inl ⟨rfl, rfl⟩
          · exact .inr ⟨rfl, rfl⟩
        · rcases hy with rfl | rfl
          · exact c1
          · exact c1
      have hold := hs j hj
      rw [hq.1]
      rcases Int.le_total (out.getD j 0) h with hle | hle
      · rw [Int.min_eq_left hle]; exact hold
      · rw [Int.min_eq_right hle]
        exact .inr ⟨h0.1, Int.le_refl _, by rw [hjb]; exact hrb⟩
    · exact hs j hj
  · exact hs
theorem pass_snd {s : Sands} (hG : Good s) {h : Int} (h0 : 0 ≤ h ∧ h ≤ 999) {out : List Int} (hs : LSnd s h out) : LSnd s h (sillN s h out s.sills.length) := by
  rw [sillN_all]
  have key : ∀ (l : List Sill), (∀ x ∈ l, x ∈ s.sills) → ∀ o, LSnd s h o → LSnd s h (l.foldl (sStep s h) o) := by
    intro l
    induction l with
    | nil => intro _ o h; exact h
    | cons x l ih =>
      intro hl o ho
      have hx := hl x List.mem_cons_self
      obtain ⟨k, hk, hkx⟩ := List.mem_iff_getElem.1 hx
      have e : s.sills.getD k default = x := by simp [List.getD_eq_getElem?_getD, hk, hkx]
      have ha := hG.sa k hk
      have hb := hG.sb k hk
      rw [e] at ha hb
      refine ih (fun y hy => hl y (List.mem_cons_of_mem _ hy)) _ ?_
      exact gStep_snd h0 (gStep_snd h0 ho hx (.inl rfl) ha hb) hx (.inr rfl) hb ha
  exact key s.sills (fun _ h => h) out hs
theorem rounds_snd {s : Sands} (hG : Good s) {h : Int} (h0 : 0 ≤ h ∧ h ≤ 999) {out : List Int} (hs : LSnd s h out) : ∀ r, LSnd s h (roundsN s h out r)
  | 0 => hs
  | r + 1 => pass_snd hG h0 (rounds_snd hG h0 hs r)
theorem heights_snd {s : Sands} (hG : Good s) : ∀ h : Nat, h ≤ 900 → LSnd s h (heightN s (initO s.floors.length s.floors.length) h)
  | 0, _ => fun j hj => .inl (by simp [heightN, initO, List.getD_eq_getElem?_getD, hj])
  | h + 1, hh => by
    have h1 := rounds_snd hG (h := (h : Nat)) (by omega) (heights_snd hG h (by omega)) s.floors.length
    intro j hj
    rcases h1 j hj with h2 | ⟨h2, h3, h4⟩
    · exact .inl h2
    · exact .inr ⟨h2, by push_cast; exact Int.le_trans h3 (by omega), h4⟩
/-! complete -/
theorem gStep_reach {s : Sands} {h : Int} {out : List Int} {y : Sill} (hc : gCond s h out y) (hb : 0 ≤ y.b ∧ y.b < out.length) : (gStep s h out y).getD y.b.toNat 0 ≤ h := by
  unfold gStep
  rw [if_pos hc, getD_set, if_pos ⟨rfl, by omega⟩]
  exact Int.min_le_right _ _
theorem pass_reach {s : Sands} {h : Int} {out : List Int} (hl : out.length = s.floors.length) {x : Sill} (hx : x ∈ s.sills) {p q : Int} (hj : x.a = p ∧ x.b = q ∨ x.b = p ∧ x.a = q) (hq : 0 ≤ q ∧ q < s.floors.length) (h1 : x.h ≤ h) (h2 : s.floors.getD q.toNat 0 ≤ h) (hp : p = -1 ∨ out.getD p.toNat 0 ≤ h) : (sillN s h out s.sills.length).getD q.toNat 0 ≤ h := by
  rw [sillN_all]
  obtain ⟨l1, l2, hs⟩ := List.append_of_mem hx
  rw [hs, List.foldl_append, List.foldl_cons]
  have e1 : Le (l1.foldl (sStep s h) out) out := foldl_Le (fun _ _ => sStep_le) _ _
  refine Int.le_trans ((foldl_Le (fun _ _ => sStep_le) l2 _).le q.toNat) ?_
  generalize l1.foldl (sStep s h) out = o at *
  have hol : o.length = s.floors.length := e1.len.trans hl
  have hpo : p = -1 ∨ o.getD p.toNat 0 ≤ h := hp.imp id (fun h => Int.le_trans (e1.le _) h)
  show (gStep s h (gStep s h o x) (swapS x)).getD q.toNat 0 ≤ h
  rcases hj with ⟨ha, hb⟩ | ⟨hb, ha⟩
  · refine Int.le_trans (gStep_le.le _) ?_
    have := gStep_reach (s := s) (h := h) (out := o) (y := x) ⟨h1, by omega, by rw [hb]; exact h2, by rw [ha]; exact hpo⟩ (by omega)
    rwa [hb] at this
  · have := gStep_reach (s := s) (h := h) (out := gStep s h o x) (y := swapS x) ⟨h1, by show x.a ≠ -1; omega, by show s.floors.getD x.a.toNat 0 ≤ h; rw [ha]; exact h2, by
      have e2 : (swapS x).a = p := hb
      rw [e2]
      exact hpo.imp id (fun h => Int.le_trans (gStep_le.le _) h)⟩ (by rw [gStep_length]; show 0 ≤ x.a ∧ x.a < _; omega)
    have e : (swapS x).b = q := ha
    rwa [e] at this
def cntLe (h : Int) (o : List Int) : Nat := o.countP (fun v => decide (v ≤ h))
theorem cnt_mono {h : Int} : ∀ {a b : List Int}, a.length = b.length → (∀ j, a.getD j 0 ≤ b.getD j 0) → cntLe h b ≤ cntLe h a ∧ ((∃ j, j < b.length ∧ a.getD j 0 ≤ h ∧ h < b.getD j 0) → cntLe h b + 1 ≤ cntLe h a)
  | [], [], _, _ => ⟨Nat.le_refl _, fun ⟨j, hj, _⟩ => by simp at hj⟩
  | [], _ :: _, hl, _ => by simp at hl
  | _ :: _, [], hl, _ => by simp at hl
  | x :: a, y :: b, hl, hle => by
    have ih := cnt_mono (h := h) (a := a) (b := b) (by simpa using hl) (fun j => by simpa using hle (j + 1))
    have hxy : x ≤ y := by simpa using hle 0
    simp only [cntLe, List.countP_cons] at *
    refine ⟨?_, ?_⟩
    · by_cases h1 : y ≤ h
      · have : x ≤ h := by omega
        simp [h1, this]; exact ih.1
      · simp [h1]; split <;> omega
    · rintro ⟨j, hj, h1, h2⟩
      cases j with
      | zero =>
        simp only [List.getD_cons_zero] at h1 h2
        have h3 : ¬ y ≤ h := by omega
        simp [h1, h3]; exact ih.1
      | succ j =>
        simp only [List.getD_cons_succ] at h1 h2
        have := ih.2 ⟨j, by simpa using hj, h1, h2⟩
        by_cases h3 : y ≤ h
        · have : x ≤ h := by omega
          simp [h3, this]; omega
        · simp [h3]; split <;> omega
theorem rounds_len {s : Sands} {h : Int} {out : List Int} {r : Nat} (hl : out.length = s.floors.length) : (roundsN s h out r).length = s.floors.length := roundsN_length.trans hl
theorem closed_reach {s : Sands} (hG : Good s) {h : Int} {o : List Int} (hc : ∀ j, j < s.floors.length → (sillN s h o s.sills.length).getD j 0 ≤ h → o.getD j 0 ≤ h) (hl : o.length = s.floors.length) {q : Int} (r : Reach s h q) : q = -1 ∨ ((0 ≤ q ∧ q < s.floors.length) ∧ o.getD q.toNat 0 ≤ h) := by
  induction r with
  | sea => exact .inl rfl
  | @step p q x r hx hj hq h1 h2 ih =>
    right
    obtain ⟨k, hk, hkx⟩ := List.mem_iff_getElem.1 hx
    have e : s.sills.getD k default = x := by simp [List.getD_eq_getElem?_getD, hk, hkx]
    have ha := hG.sa k hk
    have hb := hG.sb k hk
    rw [e] at ha hb
    have hqr : 0 ≤ q ∧ q < s.floors.length := by rcases hj with ⟨h3, h4⟩ | ⟨h3, h4⟩ <;> omega
    exact ⟨hqr, hc _ (by omega) (pass_reach hl hx hj hqr h1 h2 (ih.imp id (fun h => h.2)))⟩
theorem rounds_all {s : Sands} (hG : Good s) {h : Int} {out : List Int} (hl : out.length = s.floors.length) : ∀ r : Nat, (∀ q, Reach s h q → q = -1 ∨ ((0 ≤ q ∧ q < s.floors.length) ∧ (roundsN s h out r).getD q.toNat 0 ≤ h)) ∨ r ≤ cntLe h (roundsN s h out r) := by
  intro r
  induction r with
  | zero => exact .inr (Nat.zero_le _)
  | succ r ih =>
    have hle : Le (roundsN s h out (r + 1)) (roundsN s h out r) := pass_le
    rcases ih with ih | ih
    · left
      intro q hq
      exact (ih q hq).imp id (fun h => ⟨h.1, Int.le_trans (hle.le _) h.2⟩)
    · have hc := cnt_mono (h := h) hle.len hle.le
      by_cases hn : ∃ j, j < (roundsN s h out r).length ∧ (roundsN s h out (r + 1)).getD j 0 ≤ h ∧ h < (roundsN s h out r).getD j 0
      · right
        have := hc.2 hn
        omega
      · left
        intro q hq
        have := closed_reach hG (o := roundsN s h out r) (fun j hj hlt => by
          rcases Int.lt_or_le h ((roundsN s h out r).getD j 0) with h1 | h1
          · exact absurd ⟨j, by rw [rounds_len hl]; exact hj, hlt, h1⟩ hn
          · exact h1) (rounds_len hl) hq
        exact this.imp id (fun h => ⟨h.1, Int.le_trans (hle.le _) h.2⟩)
theorem cnt_all {h : Int} : ∀ {o : List Int}, o.length ≤ cntLe h o → ∀ j, j < o.length → o.getD j 0 ≤ h
  | [], _, j, hj => by simp at hj
  | x :: o, hc, j, hj => by
    have h1 : cntLe h o ≤ o.length := List.countP_le_length
    simp only [cntLe, List.countP_cons, List.length_cons] at hc h1
    by_cases hx : x ≤ h
    · cases j with
      | zero => simpa using hx
      | succ j =>
        simp [hx] at hc
        simpa using cnt_all (h := h) (o := o) hc j (by simpa using hj)
    · simp [hx] at hc
      omega
theorem rounds_full {s : Sands} (hG : Good s) {h : Int} {out : List Int} (hl : out.length = s.floors.length) {q : Int} (r : Reach s h q) (hq : 0 ≤ q ∧ q < s.floors.length) : (roundsN s h out s.floors.length).getD q.toNat 0 ≤ h := by
  rcases rounds_all hG hl s.floors.length with h1 | h1
  · rcases h1 q r with h2 | h2
    · omega
    · exact h2.2
  · exact cnt_all (by rw [rounds_len hl]; exact h1) q.toNat (by rw [rounds_len hl]; omega)
theorem rounds_le {s : Sands} {h : Int} {out : List Int} : ∀ r, Le (roundsN s h out r) out
  | 0 => Le.refl _
  | r + 1 => (pass_le (s := s)).trans (rounds_le r)
theorem heights_full {s : Sands} (hG : Good s) {q : Int} (hq : 0 ≤ q ∧ q < s.floors.length) {h : Nat} (r : Reach s (h : Nat) q) : ∀ k : Nat, h < k → (heightN s (initO s.floors.length s.floors.length) k).getD q.toNat 0 ≤ h
  | 0, hk => absurd hk (by omega)
  | k + 1, hk => by
    by_cases hkk : h < k
    · exact Int.le_trans ((rounds_le _).le _) (heights_full hG hq r k hkk)
    · have : h = k := by omega
      subst this
      exact rounds_full hG (by rw [heightN_length, initO_length]) r hq
/-- low sands: nothing is higher than 50 -/
theorem reach_low {s : Sands} (hG : Good s) (h1 : ∀ x, x ∈ s.sills → x.h ≤ 50) (h2 : ∀ j, j < s.floors.length → s.floors.getD j 0 ≤ 50) {h : Int} {q : Int} (r : Reach s h q) : Reach s 50 q := by
  induction r with
  | sea => exact .sea
  | @step p q x r hx hj hq h3 h4 ih =>
    refine .step ih hx hj hq (h1 x hx) ?_
    by_cases hl : q.toNat < s.floors.length
    · exact h2 _ hl
    · rw [List.getD_eq_getElem?_getD, List.getElem?_eq_none (by omega)]; decide
theorem lawGates_eq {s : Sands} (hG : Good s) (h1 : ∀ x, x ∈ s.sills → x.h ≤ 50) (h2 : ∀ j, j < s.floors.length → s.floors.getD j 0 ≤ 50) {j : Nat} (hj : j < s.floors.length) :
    (lawGates s).getD j 0 = if (gatesOf s).getD j 0 = 1000 then 1000000 else (gatesOf s).getD j 0 := by
  have hfl := hG.fl
  have hsnd := heights_snd hG 62 (by omega) j hj
  have hg0 := gates_ok (s := s)
  have hlo := hg0.lo j
  have hhi := hg0.hi j
  by_cases hg : (gatesOf s).getD j 0 = 1000
  · rw [if_pos hg]
    rcases hsnd with h3 | ⟨h3, h4, h5⟩
    · exact h3
    · have := gates_le hG h3 h5
      rcases this with h6 | ⟨_, h6⟩
      · omega
      · rw [Int.toNat_natCast, hg] at h6
        exfalso
        have h4' : (heightN s (initO s.floors.length s.floors.length) 62).getD j 0 ≤ 62 := h4
        omega
  · rw [if_neg hg]
    have hr := gates_snd hG j (by omega) (by omega)
    have h50 := gates_le hG (by omega) (reach_low hG h1 h2 hr)
    rcases h50 with h6 | ⟨_, h6⟩
    · omega
    · rw [Int.toNat_natCast] at h6
      have hr' : Reach s (((gatesOf s).getD j 0).toNat : Nat) (j : Nat) := by rw [Int.toNat_of_nonneg hlo]; exact hr
      have hle := heights_full hG (q := (j : Nat)) (by omega) hr' 62 (by omega)
      rw [Int.toNat_natCast, Int.toNat_of_nonneg hlo] at hle
      have hlg : lawGates s = heightN s (initO s.floors.length s.floors.length) 62 := rfl
      rw [hlg]
      rcases hsnd with h7 | ⟨h7, h8, h9⟩
      · omega
      · have := gates_le hG h7 h9
        rcases this with h10 | ⟨_, h10⟩
        · omega
        · rw [Int.toNat_natCast] at h10
          omega
end Go.Pl

namespace Go.Pl
/-- the gate of a place, and the law's number for it -/
def gateRel (g v : Int) : Prop := (g = 1000 ∧ v = 1000000) ∨ (g ≠ 1000 ∧ v = g)
theorem made_rel {pl sl : Int} {s : Sands} (h : MadeOK pl sl s) (hG : Good s) {j : Nat} (hj : j < s.floors.length) : gateRel ((gatesOf s).getD j 0) ((lawGates s).getD j 0) := by
  have := lawGates_eq hG (fun x hx => (h.sil x hx).2.2.2.2) (fun j hj => (h.flo _ (mem_getD (d := 0) hj)).2) hj
  rw [this]
  unfold gateRel
  split
  · rename_i h1; exact .inl ⟨h1, rfl⟩
  · rename_i h1; exact .inr ⟨h1, rfl⟩
theorem left_told {s : Sands} (hG : Good s) {gs : List Int} (hgl : ∀ j, j < s.floors.length → gateRel ((gatesOf s).getD j 0) (gs.getD j 0)) {tr : Int} (ht : s.wind.lo ≤ tr ∧ tr ≤ s.wind.hi) : ∀ (l : List Look), (∀ x, x ∈ l → lookT s gs tr x) → ∀ (o : Span), (s.wind.lo ≤ o.lo ∧ o.lo ≤ tr) → (tr ≤ o.hi ∧ o.hi ≤ s.wind.hi) → (s.wind.lo ≤ (l.foldl (leftStep s (gatesOf s)) o).lo ∧ (l.foldl (leftStep s (gatesOf s)) o).lo ≤ tr) ∧ (tr ≤ (l.foldl (leftStep s (gatesOf s)) o).hi ∧ (l.foldl (leftStep s (gatesOf s)) o).hi ≤ s.wind.hi)
  | [], _, o, h1, h2 => ⟨h1, h2⟩
  | x :: l, h, o, h1, h2 => by
    have hx := h x List.mem_cons_self
    have hp := isPlace_iff.1 hx.1.2
    have hr := hgl x.place.toNat (by omega)
    have hb := height_tight hG hx.1.1
    have hlo := hG.lo
    have hhi := hG.hi
    have hw := hx.2
    refine left_told hG hgl ht l (fun y hy => h y (List.mem_cons_of_mem _ hy)) _ ?_ ?_
    all_goals
      unfold leftStep mostG
      unfold gateRel at hr
      cases hwet : x.wet with
      | true =>
        rw [hwet] at hw
        have hw' := of_decide_eq_true hw.symm
        simp only [if_true]
        first | omega | (split <;> omega)
      | false =>
        rw [hwet] at hw
        have hw' := of_decide_eq_false hw.symm
        simp only [Bool.false_eq_true, if_false]
        first | omega | (split <;> omega)
end Go.Pl

namespace Go.Proofs.Wk
open Go Go.Gx Go.Pl
set_option linter.unusedVariables false
/-! ### numbers out of bytes -/
def HOK (l : List Int) (p : Int) : Prop := 0 ≤ p ∧ (p < (l.length : Int) ∨ p = 0)
theorem pick_ok {l : List Int} {p r : Int} (hl : l.length ≤ 9223372036854775807) (hp : HOK l p) : ∃ x, m_laurelkit_Heap_pick l p r = some x ∧ (0 ≤ x.r0 ∧ x.r0 ≤ 32767) ∧ HOK l x.h0_1 := by
  obtain ⟨h0, h1⟩ := hp
  unfold m_laurelkit_Heap_pick
  have e1 : addc p 1 = some (p + 1) := addc_eq (by omega)
  by_cases hlt : p < (l.length : Int)
  · rw [if_pos hlt, ix_eq 0 h0 hlt, e1]
    simp only [Option.bind_some]
    by_cases hge : (l.length : Int) ≤ p + 1
    · rw [if_pos hge]
      refine ⟨_, rfl, Go.Fw.and_bound _ _ rfl, ?_⟩
      exact ⟨Int.le_refl _, .inr rfl⟩
    · rw [if_neg hge]
      refine ⟨_, rfl, Go.Fw.and_bound _ _ rfl, ?_⟩
      exact ⟨by simp only; omega, .inl (by simp only; omega)⟩
  · rw [if_neg hlt, e1]
    simp only [Option.bind_some]
    by_cases hge : (l.length : Int) ≤ p + 1
    · rw [if_pos hge]
      refine ⟨_, rfl, Go.Fw.and_bound _ _ rfl, ?_⟩
      exact ⟨Int.le_refl _, .inr rfl⟩
    · rw [if_neg hge]
      refine ⟨_, rfl, Go.Fw.and_bound _ _ rfl, ?_⟩
      exact ⟨by simp only; omega, .inl (by simp only; omega)⟩
theorem upto_ok {l : List Int} {p r n : Int} (hl : l.length ≤ 9223372036854775807) (hp : HOK l p) (hn : -1000000 ≤ n ∧ n ≤ 1000000) : ∃ x, m_laurelkit_Heap_Upto l p r n = some x ∧ (0 ≤ x.r0 ∧ x.r0 ≤ max 0 n) ∧ HOK l x.h0_1 := by
  obtain ⟨x, hx, hb, hk⟩ := pick_ok (r := r) hl hp
  unfold m_laurelkit_Heap_Upto
  rw [hx]
  simp only [Option.bind_some]
  rw [addc_eq (by omega)]
  simp only [Option.bind_some]
  rw [remc_eq (by omega)]
  simp only [Option.bind_some]
  refine ⟨_, rfl, ?_, hk⟩
  have h1 := Int.tmod_nonneg (max 1 (n + 1)) hb.1
  have h2 := Int.tmod_lt_of_pos x.r0 (show 0 < max 1 (n + 1) by omega)
  simp only
  omega
theorem from_ok {l : List Int} {p r lo hi : Int} (hl : l.length ≤ 9223372036854775807) (hp : HOK l p) (hn : (-400000 ≤ lo ∧ lo ≤ 400000) ∧ -400000 ≤ hi ∧ hi ≤ 400000) : ∃ x, m_laurelkit_Heap_From l p r lo hi = some x ∧ (lo ≤ x.r0 ∧ x.r0 ≤ max lo hi) ∧ HOK l x.h0_1 := by
  unfold m_laurelkit_Heap_From
  rw [subc_eq (by omega)]
  simp only [Option.bind_some]
  obtain ⟨x, hx, hb, hk⟩ := upto_ok (r := r) (n := hi - lo) hl hp (by omega)
  rw [hx]
  simp only [Option.bind_some]
  rw [addc_eq (by omega)]
  simp only [Option.bind_some]
  exact ⟨_, rfl, by simp only; omega, hk⟩
theorem once_ok {l : List Int} {p r n : Int} (hl : l.length ≤ 9223372036854775807) (hp : HOK l p) (hn : -400000 ≤ n ∧ n ≤ 400000) : ∃ x, m_laurelkit_Heap_Once l p r n = some x ∧ HOK l x.h0_1 := by
  unfold m_laurelkit_Heap_Once
  rw [subc_eq (by omega)]
  simp only [Option.bind_some]
  obtain ⟨x, hx, hb, hk⟩ := upto_ok (r := r) (n := n - 1) hl hp (by omega)
  rw [hx]
  simp only [Option.bind_some]
  exact ⟨_, rfl, hk⟩
/-! ### sands out of bytes -/
theorem made_L0 {l : List Int} (hl : l.length ≤ 9223372036854775807) {t : m_laurelkit_Heap_From_R} (ht : 0 ≤ t.r0 ∧ t.r0 ≤ 4) {a p r : Int} (ha : 0 ≤ a ∧ a ≤ 20) (hp : HOK l p) :
    ∃ o, iterM FU (m_laurellaw01_Made_L0 t l) ⟨a, 0, p, r, []⟩ = some o ∧ (∃ e, TabOK o.s7_table e ∧ e ≤ 140) ∧ (o.s7_table.length : Int) = t.r0 ∧ HOK l o.b0_1 := by
  refine iterM_inv (fun s => (0 ≤ s.t23 ∧ s.t23 ≤ t.r0) ∧ (s.s7_table.length : Int) = s.t23 ∧ TabOK s.s7_table s.at8 ∧ (0 ≤ s.at8 ∧ s.at8 ≤ 20 + 30 * s.t23) ∧ HOK l s.b0_1) (fun s => (t.r0 - s.t23).toNat) _ (fun s hs => ?_) FU _ (FU_lt (by simp only; omega)) ⟨⟨Int.le_refl _, ht.1⟩, rfl, TabOK.nil, by simp only; omega, hp⟩
  obtain ⟨h1, h2, h3, h4, h5⟩ := hs
  unfold m_laurellaw01_Made_L0
  by_cases hc : s.t23 < t.r0
  · left
    obtain ⟨x, hx, hxb, hxk⟩ := upto_ok (r := s.b0_2) (n := 60) hl h5 (by omega)
    obtain ⟨y, hy, hyb, hyk⟩ := from_ok (r := x.h0_2) (lo := 1) (hi := 30) hl hxk (by omega)
    have e1 : appc 16 s.s7_table [(⟨s.at8, x.r0⟩ : Water)] = some (s.s7_table ++ [⟨s.at8, x.r0⟩]) := appc_eq (by simp; omega)
    have e2 : addc s.at8 y.r0 = some (s.at8 + y.r0) := addc_eq (by omega)
    have e3 : addc s.t23 1 = some (s.t23 + 1) := addc_eq (by omega)
    simp only [if_pos hc, hx, e1, hy, e2, e3, Option.bind_some]
    refine ⟨_, rfl, ⟨by simp only; omega, by simp; omega, h3.snoc h4.1 (by simp only; omega) (by omega), by simp only; omega, hyk⟩, by simp only; omega⟩
  · right
    rw [if_neg hc]
    exact ⟨_, rfl, ⟨s.at8, h3, by omega⟩, by simp only; omega, h5⟩
theorem made_L1 {l : List Int} (hl : l.length ≤ 9223372036854775807) {t : m_laurelkit_Heap_From_R} (ht : 0 ≤ t.r0 ∧ t.r0 ≤ 8) {p r : Int} (hp : HOK l p) :
    ∃ o, iterM FU (m_laurellaw01_Made_L1 t l) ⟨0, p, r, []⟩ = some o ∧ (∀ x, x ∈ o.s7_floors → 0 ≤ x ∧ x ≤ 50) ∧ (o.s7_floors.length : Int) = t.r0 ∧ HOK l o.b0_1 := by
  refine iterM_inv (fun s => (0 ≤ s.t42 ∧ s.t42 ≤ t.r0) ∧ (s.s7_floors.length : Int) = s.t42 ∧ (∀ x, x ∈ s.s7_floors → 0 ≤ x ∧ x ≤ 50) ∧ HOK l s.b0_1) (fun s => (t.r0 - s.t42).toNat) _ (fun s hs => ?_) FU _ (FU_lt (by simp only; omega)) ⟨⟨Int.le_refl _, ht.1⟩, rfl, (fun x hx => by cases hx), hp⟩
  obtain ⟨h1, h2, h3, h5⟩ := hs
  unfold m_laurellaw01_Made_L1
  by_cases hc : s.t42 < t.r0
  · left
    obtain ⟨x, hx, hxb, hxk⟩ := upto_ok (r := s.b0_2) (n := 50) hl h5 (by omega)
    have e1 : appc 8 s.s7_floors [x.r0] = some (s.s7_floors ++ [x.r0]) := appc_eq (by simp; omega)
    have e3 : addc s.t42 1 = some (s.t42 + 1) := addc_eq (by omega)
    simp only [if_pos hc, hx, e1, e3, Option.bind_some]
    refine ⟨_, rfl, ⟨by simp only; omega, by simp; omega, fun y hy => ?_, hxk⟩, by simp only; omega⟩
    rcases List.mem_append.1 hy with h | h
    · exact h3 y h
    · simp only [List.mem_singleton] at h
      subst h; omega
  · right
    rw [if_neg hc]
    exact ⟨_, rfl, h3, by simp only; omega, h5⟩
theorem made_L2 {l : List Int} (hl : l.length ≤ 9223372036854775807) {t : m_laurelkit_Heap_Upto_R} {sl : Int} (hsl : 0 ≤ sl ∧ sl ≤ 16) (ht : 0 ≤ t.r0 ∧ t.r0 ≤ sl) {o1 : m_laurellaw01_Made_C1} (ho : 1 ≤ o1.s7_floors.length ∧ o1.s7_floors.length ≤ 8) {p r : Int} (hp : HOK l p) :
    ∃ o, iterM FU (m_laurellaw01_Made_L2 t o1 l) ⟨0, p, r, []⟩ = some o ∧ (∀ x, x ∈ o.s7_sills → sillOK (o1.s7_floors.length : Int) x) ∧ (o.s7_sills.length : Int) ≤ t.r0 ∧ HOK l o.b0_1 := by
  refine iterM_inv (fun s => (0 ≤ s.t55 ∧ s.t55 ≤ t.r0) ∧ (s.s7_sills.length : Int) ≤ s.t55 ∧ (∀ x, x ∈ s.s7_sills → sillOK (o1.s7_floors.length : Int) x) ∧ HOK l s.b0_1) (fun s => (t.r0 - s.t55).toNat) _ (fun s hs => ?_) FU _ (FU_lt (by simp only; omega)) ⟨⟨Int.le_refl _, ht.1⟩, by simp, (fun x hx => by cases hx), hp⟩
  obtain ⟨h1, h2, h3, h5⟩ := hs
  unfold m_laurellaw01_Made_L2
  by_cases hc : s.t55 < t.r0
  · left
    have e62 : subc (o1.s7_floors.length : Int) 1 = some ((o1.s7_floors.length : Int) - 1) := subc_eq (by omega)
    have e66 : subc (min s.t55 ((o1.s7_floors.length : Int) - 1)) 1 = some (min s.t55 ((o1.s7_floors.length : Int) - 1) - 1) := subc_eq (by omega)
    obtain ⟨x, hx, hxb, hxk⟩ := from_ok (r := s.b0_2) (lo := -1) (hi := min s.t55 ((o1.s7_floors.length : Int) - 1) - 1) hl h5 (by omega)
    obtain ⟨y, hy, hyb, hyk⟩ := upto_ok (r := x.h0_2) (n := 50) hl hxk (by omega)
    have e110 : addc s.t55 1 = some (s.t55 + 1) := addc_eq (by omega)
    simp only [if_pos hc, e62, e66, hx, hy, e110, Option.bind_some]
    -- the ends
    obtain ⟨c4, hc4, hca, hcb, hck⟩ : ∃ c4 : m_laurellaw01_Made_C4, (if (o1.s7_floors.length : Int) ≤ s.t55 then (m_laurelkit_Heap_From l y.h0_1 y.h0_2 (-1) ((o1.s7_floors.length : Int) - 1)).bind fun t82 => (m_laurelkit_Heap_Upto l t82.h0_1 t82.h0_2 ((o1.s7_floors.length : Int) - 1)).bind fun t88 => some (⟨t82.r0, t88.r0, t88.h0_1, t88.h0_2⟩ : m_laurellaw01_Made_C4) else some (⟨x.r0, min s.t55 ((o1.s7_floors.length : Int) - 1), y.h0_1, y.h0_2⟩ : m_laurellaw01_Made_C4)) = some c4 ∧ (-1 ≤ c4.x11_a ∧ c4.x11_a < o1.s7_floors.length) ∧ (-1 ≤ c4.x11_b ∧ c4.x11_b < o1.s7_floors.length) ∧ HOK l c4.b0_1 := by
      by_cases hf : (o1.s7_floors.length : Int) ≤ s.t55
      · obtain ⟨u, hu, hub, huk⟩ := from_ok (r := y.h0_2) (lo := -1) (hi := (o1.s7_floors.length : Int) - 1) hl hyk (by omega)
        obtain ⟨v, hv, hvb, hvk⟩ := upto_ok (r := u.h0_2) (n := (o1.s7_floors.length : Int) - 1) hl huk (by omega)
        simp only [if_pos hf, hu, hv, Option.bind_some]
        exact ⟨_, rfl, by simp only; omega, by simp only; omega, hvk⟩
      · simp only [if_neg hf]
        exact ⟨_, rfl, by simp only; omega, by simp only; omega, hyk⟩
    rw [hc4]
    simp only [Option.bind_some]
    obtain ⟨z, hz, hzk⟩ := once_ok (r := c4.b0_2) (n := 3) hl hck (by omega)
    rw [hz]
    simp only [Option.bind_some]
    obtain ⟨c5, hc5, hda, hdb, hdk⟩ : ∃ c5 : m_laurellaw01_Made_C5, (if z.r0 = true then some (⟨c4.x11_b, c4.x11_a, z.h0_1, z.h0_2⟩ : m_laurellaw01_Made_C5) else some (⟨c4.x11_a, c4.x11_b, z.h0_1, z.h0_2⟩ : m_laurellaw01_Made_C5)) = some c5 ∧ (-1 ≤ c5.x11_a ∧ c5.x11_a < o1.s7_floors.length) ∧ (-1 ≤ c5.x11_b ∧ c5.x11_b < o1.s7_floors.length) ∧ HOK l c5.b0_1 := by
      cases z.r0 with
      | true => exact ⟨_, rfl, hcb, hca, hzk⟩
      | false => exact ⟨_, rfl, hca, hcb, hzk⟩
    rw [hc5]
    simp only [Option.bind_some]
    by_cases hab : c5.x11_a = c5.x11_b
    · rw [if_pos hab]
      simp only [Option.bind_some]
      exact ⟨_, rfl, ⟨by simp only; omega, by simp only; omega, h3, hdk⟩, by simp only; omega⟩
    · rw [if_neg hab, appc_eq (by simp; omega)]
      simp only [Option.bind_some]
      refine ⟨_, rfl, ⟨by simp only; omega, by simp; omega, fun q hq => ?_, hdk⟩, by simp only; omega⟩
      rcases List.mem_append.1 hq with h | h
      · exact h3 q h
      · simp only [List.mem_singleton] at h
        subst h
        exact ⟨hda, hdb, hab, by simp only; omega⟩
  · right
    rw [if_neg hc]
    exact ⟨_, rfl, h3, by simp only; omega, h5⟩
theorem made_ok {l : List Int} (hl : l.length ≤ 9223372036854775807) {p r pl sl : Int} (hp : HOK l p) (hpl : 1 ≤ pl ∧ pl ≤ 8) (hsl : 0 ≤ sl ∧ sl ≤ 16) :
    ∃ o, m_laurellaw01_Made l p r pl sl = some o ∧ MadeOK pl sl o.r0 ∧ HOK l o.b0_1 := by
  unfold m_laurellaw01_Made
  obtain ⟨a, ha, hab, hak⟩ := upto_ok (r := r) (n := 8) hl hp (by omega)
  have e14 : negc a.r0 = some (-a.r0) := negc_eq (by omega)
  obtain ⟨b, hb, hbb, hbk⟩ := upto_ok (r := a.h0_2) (n := 8) hl hak (by omega)
  obtain ⟨c, hc, hcb, hck⟩ := upto_ok (r := b.h0_2) (n := 20) hl hbk (by omega)
  obtain ⟨d, hd, hdb, hdk⟩ := from_ok (r := c.h0_2) (lo := 2) (hi := 4) hl hck (by omega)
  simp only [ha, e14, hb, hc, hd, Option.bind_some]
  obtain ⟨o, ho, ⟨e, hte, hee⟩, hol, hok⟩ := made_L0 hl (t := d) (by omega) (a := c.r0) (r := d.h0_2) (by omega) hdk
  simp only [ho, Option.bind_some]
  obtain ⟨f, hf, hfb, hfk⟩ := from_ok (r := o.b0_2) (lo := 1) (hi := pl) hl hok (by omega)
  simp only [hf, Option.bind_some]
  obtain ⟨o1, ho1, hof, hofl, hok1⟩ := made_L1 hl (t := f) (by omega) (r := f.h0_2) hfk
  simp only [ho1, Option.bind_some]
  obtain ⟨g, hg, hgb, hgk⟩ := upto_ok (r := o1.b0_2) (n := sl) hl hok1 (by omega)
  simp only [hg, Option.bind_some]
  obtain ⟨o2, ho2, hos, hosl, hok2⟩ := made_L2 hl hsl (t := g) (by omega) (o1 := o1) (by omega) (r := g.h0_2) hgk
  simp only [ho2, Option.bind_some]
  exact ⟨_, rfl, ⟨by simp only; omega, ⟨e, hte, hee⟩, by simp only; omega, by simp only; omega, by simp only; omega, hof, by simp only; omega, hos⟩, hok2⟩
end Go.Proofs.Wk

namespace Go.Proofs.Wk
open Go Go.Gx Go.Pl
set_option linter.unusedVariables false
/-- sands whose lists are short -/
structure Short (s : Sands) : Prop where
  t : s.table.length ≤ 100
  f : s.floors.length ≤ 100
  s : s.sills.length ≤ 100
theorem take_snoc {α : Type} {l : List α} {k : Nat} (d : α) (h : k < l.length) : l.take k ++ [l.getD k d] = l.take (k + 1) := by
  rw [List.take_succ_eq_append_getElem h, List.getD_eq_getElem?_getD]
  simp [h]
theorem Good.short {s : Sands} (h : Good s) : Short s := ⟨by have := h.tl; omega, by have := h.fl; omega, by have := h.sl; omega⟩
theorem x_awake_eq : x_awake = some true := rfl
/-! ### sands that pass -/
theorem check_of_good {s : Sands} (h : Good s) : check s = 0 := by
  have h1 := h.tl
  have h2 := h.fl
  have h3 := h.sl
  have e1 : inr s.table.length 2 12 = true := inr_iff.2 (by omega)
  have e2 : inr s.floors.length 1 8 = true := inr_iff.2 (by omega)
  have e3 : decide (16 < (s.sills.length : Int)) = false := by simp; omega
  have e4 : s.table.all bigW = true := all_of_getD (d := default) (fun j hj => by
    have := h.tab j hj
    simp only [bigW, Bool.and_eq_true, inr_iff]; omega)
  have e5 : inr s.wind.lo (-50) 50 = true := inr_iff.2 (by have := h.lo; omega)
  have e6 : inr s.wind.hi (-50) 50 = true := inr_iff.2 (by have := h.hi; omega)
  have e7 : s.floors.all hgt = true := all_of_getD (d := 0) (fun j hj => by
    have := h.flo j hj
    rw [hgt_iff]; omega)
  have e8 : s.sills.all (fun x => hgt x.h) = true := all_of_getD (d := default) (fun j hj => by
    have := h.sh j hj
    rw [hgt_iff]; omega)
  have e9 : ordered s = true := by
    rw [ordered_true h.inc]
    simp [h.wind]
  have e10 : s.sills.all (fun x => isEnd s x.a && isEnd s x.b) = true := all_of_getD (d := default) (fun j hj => by
    have ha := h.sa j hj
    have hb := h.sb j hj
    simp only [Bool.and_eq_true, isEnd_iff]
    omega)
  have e11 : s.sills.all (fun x => !decide (x.a = x.b)) = true := all_of_getD (d := default) (fun j hj => by
    have := h.ne j hj
    simpa using this)
  unfold check
  rw [e1, e2, e3, e4, e5, e6, e7, e8, e9, e10, e11]
  rfl
theorem MadeOK.good {pl sl : Int} {s : Sands} (h : MadeOK pl sl s) (hp : pl ≤ 8) (hs : sl ≤ 16) : Good s := good_of_check (h.check hp hs)
theorem lawfirst_eq {s : Sands} (h : 0 < s.table.length) : m_laurellaw01_first s = some (firstM s) := by
  unfold m_laurellaw01_first
  rw [show (0 : Int) = ((0 : Nat) : Int) from rfl, ix_nat default h]
  rfl
theorem lawlast_eq {s : Sands} (hs : Short s) (h : 0 < s.table.length) : m_laurellaw01_last s = some (lastM s) := by
  have h1 := hs.t
  unfold m_laurellaw01_last
  rw [subc_eq (by omega), Option.bind_some, show (s.table.length : Int) - 1 = ((s.table.length - 1 : Nat) : Int) by omega, ix_nat default (by omega)]
  rfl
end Go.Proofs.Wk

namespace Go.Proofs.Wk
open Go Go.Gx Go.Pl
set_option linter.unusedVariables false
/-! ### the table of ways is whole -/
def joins (x : Sill) (p q : Int) : Prop := x.a = p ∧ x.b = q ∨ x.b = p ∧ x.a = q
end Go.Proofs.Wk

namespace Go.Proofs.Wk
open Go Go.Gx Go.Pl
set_option linter.unusedVariables false
/-- one step of the water -/
structure Stp (s : Sands) (sl pl : List Int) (h a q : Int) (k : Nat) : Prop where
  kl : k < s.sills.length
  jn : joins (s.sills.getD k default) a q
  qn : 0 ≤ q
  sn : hasI sl (k : Int) = false
  pn : hasI pl q = false
  hh : (s.sills.getD k default).h ≤ h
  ff : s.floors.getD q.toNat 0 ≤ h
/-- a way on, that meets no place twice -/
inductive Path (s : Sands) (sl pl : List Int) (h to : Int) : List Int → Int → Prop
  | done {met : List Int} : Path s sl pl h to met to
  | step {met : List Int} {a q : Int} {k : Nat} : Stp s sl pl h a q k → q ∉ met → Path s sl pl h to (met ++ [q]) q → Path s sl pl h to met a
/-- what water reaches, some sills and places left out -/
inductive Rch (s : Sands) (sl pl : List Int) (h : Int) : Int → Prop
  | sea : Rch s sl pl h (-1)
  | step {a q : Int} {k : Nat} : Rch s sl pl h a → Stp s sl pl h a q k → Rch s sl pl h q
/-- steps one behind the other -/
def Chn (s : Sands) (sl pl : List Int) (h : Int) : Int → List Int → Prop
  | _, [] => True
  | a, q :: l => (∃ k, Stp s sl pl h a q k) ∧ Chn s sl pl h q l
def endOf : Int → List Int → Int
  | a, [] => a
  | _, q :: l => endOf q l
theorem Chn.snoc {s : Sands} {sl pl : List Int} {h q : Int} {k : Nat} : ∀ {l : List Int} {a : Int}, Chn s sl pl h a l → Stp s sl pl h (endOf a l) q k → Chn s sl pl h a (l ++ [q]) ∧ endOf a (l ++ [q]) = q
  | [], a, _, hs => ⟨⟨⟨k, hs⟩, trivial⟩, rfl⟩
  | x :: l, a, hc, hs => by
    obtain ⟨h1, h2⟩ := Chn.snoc (l := l) (a := x) hc.2 hs
    exact ⟨⟨hc.1, h1⟩, h2⟩
theorem Chn.drop {s : Sands} {sl pl : List Int} {h q : Int} : ∀ {l b : List Int} {a : Int}, Chn s sl pl h a (l ++ q :: b) → Chn s sl pl h q b ∧ endOf a (l ++ q :: b) = endOf q b
  | [], b, a, hc => ⟨hc.2, rfl⟩
  | x :: l, b, a, hc => Chn.drop (l := l) hc.2
theorem Chn.once {s : Sands} {sl pl : List Int} {h : Int} : ∀ (l : List Int) (a : Int), Chn s sl pl h a l → ∃ l', Chn s sl pl h a l' ∧ endOf a l' = endOf a l ∧ l'.Nodup
  | [], a, _ => ⟨[], trivial, rfl, List.nodup_nil⟩
  | q :: l, a, hc => by
    obtain ⟨l', h1, h2, h3⟩ := Chn.once l q hc.2
    by_cases hq : q ∈ l'
    · obtain ⟨x, y, rfl⟩ := List.append_of_mem hq
      obtain ⟨h4, h5⟩ := Chn.drop h1
      have h6 : (q :: y).Nodup := (List.nodup_append.1 h3).2.1
      exact ⟨q :: y, ⟨hc.1, h4⟩, by show endOf q y = endOf q l; rw [← h5, h2], h6⟩
    · exact ⟨q :: l', ⟨hc.1, h1⟩, h2, List.nodup_cons.2 ⟨hq, h3⟩⟩
/-- what is met: places, each once -/
structure Met (s : Sands) (met : List Int) : Prop where
  nd : met.Nodup
  rg : ∀ x ∈ met, 0 ≤ x ∧ x < s.floors.length
theorem Met.len {s : Sands} {met : List Int} (h : Met s met) : met.length ≤ s.floors.length := by
  have h1 := nodup_map (f := fun k : Int => k.toNat) h.nd (fun x hx y hy he => by
    have a := h.rg x hx
    have b := h.rg y hy
    have hc : x.toNat = y.toNat := he
    omega)
  have h2 := nodup_lt s.floors.length _ h1 (fun x hx => by
    obtain ⟨k, hk, rfl⟩ := List.mem_map.1 hx
    have a := h.rg k hk
    have : (fun k : Int => k.toNat) k = k.toNat := rfl
    omega)
  simpa using h2
theorem Met.snoc {s : Sands} {met : List Int} (h : Met s met) {q : Int} (hq : 0 ≤ q ∧ q < s.floors.length) (hn : q ∉ met) : Met s (met ++ [q]) := by
  refine ⟨List.nodup_append.2 ⟨h.nd, by simp, fun a ha b hb hab => ?_⟩, fun x hx => ?_⟩
  · simp at hb; subst hb; subst hab; exact hn ha
  · rcases List.mem_append.1 hx with hx | hx
    · exact h.rg x hx
    · simp at hx; subst hx; exact hq
/-- the loop's state -/
structure LIn (s : Sands) (sl pl : List Int) (to : Int) (met : List Int) (a crest out : Int) (i : Nat) : Prop where
  snd : out = 5000 ∨ ((crest ≤ out ∧ out ≤ 999) ∧ Path s sl pl out to met a)
  cmp : ∀ h (k : Nat) q, crest ≤ h → k < i → Stp s sl pl h a q k → q ∉ met → Path s sl pl h to (met ++ [q]) q → out ≤ h
theorem LIn.skip {s : Sands} {sl pl : List Int} {to : Int} {met : List Int} {a crest out : Int} {i : Nat} (h : LIn s sl pl to met a crest out i) (hs : ∀ h q, Stp s sl pl h a q i → q ∉ met → False) : LIn s sl pl to met a crest out (i + 1) := by
  refine ⟨h.snd, fun hh k q hc hk hst hq hp => ?_⟩
  by_cases he : k = i
  · subst he; exact (hs hh q hst hq).elim
  · exact h.cmp hh k q hc (by omega) hst hq hp
/-- the reference's gate, by ours -/
def refGate (g : Int) : Int := if g = 1000 then 5000 else g
end Go.Proofs.Wk

namespace Go.Proofs.Wk
open Go Go.Gx Go.Pl
set_option linter.unusedVariables false
theorem dayN_eq {s : Sands} (hG : Good s) : ((dayN s : Nat) : Int) = lastM s - firstM s + 1 := by
  have := day_span hG
  unfold dayN; omega
end Go.Proofs.Wk

namespace Go.Proofs.Wk
open Go Go.Fw Go.Gx Go.Pl
set_option linter.unusedVariables false
def m_tide_Clash_1_1 (l0 : (List Look)) (a11 : Sands) : Option Bool :=
 (x_left a11  l0).bind fun t7 =>
 some (decide (t7.hi < t7.lo))
set_option maxRecDepth 100000 in
set_option maxHeartbeats 4000000 in
theorem c_tide_Clash_1_1 (l0 : (List Look)) (a11 : Sands) (qa0 : Option (Nat × Nat)) (na0 ca0 : Nat) (pb : Nat) (db1 : Nat) (qa2 : Option (Nat × Nat)) (na2 ca2 : Nat) (qa3 : Option (Nat × Nat)) (na3 ca3 : Nat) (qa4 : Option (Nat × Nat)) (na4 ca4 : Nat) (w : World) (hw : HV w (keys [(pb, .cells #[ptr db1 0] 139 (0, 0))] []) [(pb, .cells #[ptr db1 0] 139 (0, 0))] [] [(bk qa0, off qa0, RL.enc l0), (db1, 0, [slv qa2 na2 ca2, .int .i64 a11.wind.lo, .int .i64 a11.wind.hi, slv qa3 na3 ca3, slv qa4 na4 ca4, .int .i64 ((gatesOf a11).getD 0 0), .int .i64 ((gatesOf a11).getD 1 0), .int .i64 ((gatesOf a11).getD 2 0), .int .i64 ((gatesOf a11).getD 3 0), .int .i64 ((gatesOf a11).getD 4 0), .int .i64 ((gatesOf a11).getD 5 0), .int .i64 ((gatesOf a11).getD 6 0), .int .i64 ((gatesOf a11).getD 7 0)]), (bk qa2, off qa2, RW.enc a11.table), (bk qa3, off qa3, RI.enc a11.floors), (bk qa4, off qa4, RS.enc a11.sills)] w) (hna0 : l0.length = na0) (hqa0 : 0 < na0 → qa0 ≠ none) (hla0 : na0 ≤ ca0)  (hna2 : a11.table.length = na2) (hqa2 : 0 < na2 → qa2 ≠ none) (hla2 : na2 ≤ ca2) (hna3 : a11.floors.length = na3) (hqa3 : 0 < na3 → qa3 ≠ none) (hla3 : na3 ≤ ca3) (hna4 : a11.sills.length = na4) (hqa4 : 0 < na4 → qa4 ≠ none) (hla4 : na4 ≤ ca4) {res : Bool} (hm : m_tide_Clash_1_1 l0 a11 = some res) :
    Calls Try.prog 129 #[slv qa0 na0 ca0, ptr pb 0] w (fun en w' => ∃ l : Unit, en = .returned (.bool res) ∧ (True) ∧ HV w (keys [(pb, .cells #[ptr db1 0] 139 (0, 0))] []) [(pb, .cells #[ptr db1 0] 139 (0, 0))] [] [] w') := by
  unfold m_tide_Clash_1_1 at hm
  refine g_enter (args := [slv qa0 na0 ca0, ptr pb 0]) Try.func129 rfl Try.ntmps129 rfl (e := [(0, _), (1, _)]) rfl (H := HV w (keys [(pb, .cells #[ptr db1 0] 139 (0, 0))] []) [(pb, .cells #[ptr db1 0] 139 (0, 0))] [] [(bk qa0, off qa0, RL.enc l0), (db1, 0, [slv qa2 na2 ca2, .int .i64 a11.wind.lo, .int .i64 a11.wind.hi, slv qa3 na3 ca3, slv qa4 na4 ca4, .int .i64 ((gatesOf a11).getD 0 0), .int .i64 ((gatesOf a11).getD 1 0), .int .i64 ((gatesOf a11).getD 2 0), .int .i64 ((gatesOf a11).getD 3 0), .int .i64 ((gatesOf a11).getD 4 0), .int .i64 ((gatesOf a11).getD 5 0), .int .i64 ((gatesOf a11).getD 6 0), .int .i64 ((gatesOf a11).getD 7 0)]), (bk qa2, off qa2, RW.enc a11.table), (bk qa3, off qa3, RI.enc a11.floors), (bk qa4, off qa4, RS.enc a11.sills)]) hw ?_
  refine g_seq ?_
  refine g_region ?_
  refine g_val rfl rfl rfl (fun _ _ => v_assign rfl) ?_
  refine g_nil ?_
  refine g_n_then ?_
  refine g_seq ?_
  refine g_region ?_
  refine g_val rfl rfl rfl (fun w hh => v_load (Try.isAgg139 w) rfl (hh.cell 0 rfl rfl)) ?_
  refine g_val rfl rfl rfl (fun _ _ => v_move rfl) ?_
  obtain ⟨t7, h1, hm⟩ := bindO hm
  refine g_callN rfl rfl rfl rfl rfl rfl rfl (fun a w => Try.call87 a w) (fun w hh => cx_left a11  l0 db1 qa2 na2 ca2 qa3 na3 ca3 qa4 na4 ca4 qa0 na0 ca0 w (HV.callee (S0 := []) (vs0 := []) hh (roC (hh.rsep (S0 := []) (vs0 := []) 1 rfl) (roC (hh.rsep (S0 := []) (vs0 := []) 2 rfl) (roC (hh.rsep (S0 := []) (vs0 := []) 3 rfl) (roC (hh.rsep (S0 := []) (vs0 := []) 4 rfl) (roC (hh.rsep (S0 := []) (vs0 := []) 0 rfl) roN)))))) hna2 hqa2 hla2 hna3 hqa3 hla3 hna4 hqa4 hla4 hna0 hqa0 hla0 h1) (fun l h2 => ?_)
  refine g_allocV (fun w => Try.zeroValue25 w) rfl (fun b h3 => ?_)
  refine g_stSA (us := #[_, _]) (cs' := [_, _]) (S' := [_, _]) 0 (fun w => Try.sizeOf25 w) rfl rfl rfl rfl rfl rfl rfl ?_
  refine g_nil ?_
  refine g_n_then ?_
  refine g_seq ?_
  refine g_region ?_
  refine g_val rfl rfl rfl (fun w _ => v_fieldAddr 0 (Try.runUnderlying25 w) rfl (Try.sizeOf3 w) rfl) ?_
  refine g_val rfl rfl rfl (fun w hh => v_load (Try.isAgg3 w) rfl (hh.cell 0 rfl rfl)) ?_
  refine g_val rfl rfl rfl (fun w _ => v_fieldAddr 1 (Try.runUnderlying25 w) rfl (Try.sizeOf3 w) rfl) ?_
  refine g_val rfl rfl rfl (fun w hh => v_load (Try.isAgg3 w) rfl (hh.cell 0 rfl rfl)) ?_
  refine g_val rfl rfl rfl (fun _ _ => v_gtr rfl rfl) ?_
  refine g_val rfl rfl rfl (fun _ _ => v_assign rfl) ?_
  refine g_nil ?_
  refine g_n_then ?_
  refine g_ret ?_
  obtain rfl := Option.some.inj hm
  refine g_done rfl (fun w hh => (.tmp rfl .nil)) (fun w hh => ⟨(), rfl, trivial, hh.sel [1] [] 5 (by decide) (by decide) rfl rfl rfl⟩)
structure m_tide_Clash_1_R where
  r1 : Int
  r0 : (List Int)
def m_tide_Clash_1_L0 (looks1 : (List Look)) (s0 : Sands) (s : Int) : Option (Int ⊕ (Unit ⊕ m_tide_Clash_1_R)) :=
 if s < (looks1.length : Int) then
 ((ix looks1 s).bind fun t30 =>
 (m_tide_Clash_1_1 [(⟨t30.min, t30.place, t30.wet⟩ : Look)] s0).bind fun t35 =>
 if t35 = true then
 (some (.inr (.inr (⟨0, [s]⟩ : m_tide_Clash_1_R)))) else
 ((addc s 1).bind fun t38 =>
 some (.inl t38))) else
 (some (.inr (.inl ())))
def m_tide_Clash_1_L2 (looks1 : (List Look)) (t48 : Int) (t44 : Look) (s0 : Sands) (s_1 : Int) (s_2 : Int) : Option (Int ⊕ (Unit ⊕ m_tide_Clash_1_R)) :=
 if s_2 < ((looks1.drop (Int.toNat t48)).length : Int) then
 ((ix (looks1.drop (Int.toNat t48)) s_2).bind fun t54 =>
 (if (⟨t44.min, t44.place, t44.wet⟩ : Look) = (⟨t54.min, t54.place, t54.wet⟩ : Look) then
 (some false) else
 ((m_tide_Clash_1_1 [(⟨t44.min, t44.place, t44.wet⟩ : Look), (⟨t54.min, t54.place, t54.wet⟩ : Look)] s0).bind fun t64 =>
 some t64)).bind fun o_3 =>
 if o_3 = true then
 ((addc s_1 1).bind fun t68 =>
 (addc t68 s_2).bind fun t70 =>
 some (.inr (.inr (⟨0, [s_1, t70]⟩ : m_tide_Clash_1_R)))) else
 ((addc s_2 1).bind fun t72 =>
 some (.inl t72))) else
 (some (.inr (.inl ())))
def m_tide_Clash_1_L1 (looks1 : (List Look)) (s0 : Sands) (s_1 : Int) : Option (Int ⊕ (Unit ⊕ m_tide_Clash_1_R)) :=
 if s_1 < (looks1.length : Int) then
 ((ix looks1 s_1).bind fun t44 =>
 (addc s_1 1).bind fun t48 =>
 if 0 ≤ t48 ∧ t48 ≤ (looks1.length : Int) then ((iterM FU (m_tide_Clash_1_L2 looks1 t48 t44 s0 s_1) 0).bind fun o_2 =>
 oc o_2 (fun j_2 => (addc s_1 1).bind fun t73 =>
 some (.inl t73)) (fun r_3 => some (.inr (.inr r_3)))) else none) else
 (some (.inr (.inl ())))
def m_tide_Clash_1 (s0 : Sands) (looks1 : (List Look)) : Option m_tide_Clash_1_R :=
 if (s0.table.length ≤ 8796093022208 ∧ s0.floors.length ≤ 17592186044416 ∧ s0.sills.length ≤ 5864062014805) ∧ looks1.length ≤ 5864062014805 then (if lookedE s0 looks1 = 0 then
 ((iterM FU (m_tide_Clash_1_L0 looks1 s0) 0).bind fun o =>
 oc o (fun j => (iterM FU (m_tide_Clash_1_L1 looks1 s0) 0).bind fun o_1 =>
 oc o_1 (fun j_1 => some (⟨6, []⟩ : m_tide_Clash_1_R)) (fun r_4 => some r_4)) (fun r_5 => some r_5)) else
 (some (⟨(lookedE s0 looks1), []⟩ : m_tide_Clash_1_R))) else none
set_option maxRecDepth 100000 in
set_option maxHeartbeats 4000000 in
theorem c_tide_Clash_1 (s0 : Sands) (looks1 : (List Look)) (qa0 : Option (Nat × Nat)) (na0 ca0 : Nat) (qa1 : Option (Nat × Nat)) (na1 ca1 : Nat) (qa2 : Option (Nat × Nat)) (na2 ca2 : Nat) (qa3 : Option (Nat × Nat)) (na3 ca3 : Nat) (w : World) (hw : HV w (keys [] []) [] [] [(bk qa0, off qa0, RW.enc s0.table), (bk qa1, off qa1, RI.enc s0.floors), (bk qa2, off qa2, RS.enc s0.sills), (bk qa3, off qa3, RL.enc looks1)] w) (hna0 : s0.table.length = na0) (hqa0 : 0 < na0 → qa0 ≠ none) (hla0 : na0 ≤ ca0) (hna1 : s0.floors.length = na1) (hqa1 : 0 < na1 → qa1 ≠ none) (hla1 : na1 ≤ ca1) (hna2 : s0.sills.length = na2) (hqa2 : 0 < na2 → qa2 ≠ none) (hla2 : na2 ≤ ca2) (hna3 : looks1.length = na3) (hqa3 : 0 < na3 → qa3 ≠ none) (hla3 : na3 ≤ ca3) {res : m_tide_Clash_1_R} (hm : m_tide_Clash_1 s0 looks1 = some res) :
    Calls Try.prog 58 #[.agg #[slv qa0 na0 ca0, .int .i64 s0.wind.lo, .int .i64 s0.wind.hi, slv qa1 na1 ca1, slv qa2 na2 ca2], slv qa3 na3 ca3] w (fun en w' => ∃ l : VL, en = .returned (.tuple #[slv l.q l.n l.cap, .int .i64 res.r1]) ∧ (VOK 1 l.n l.cap (RI.enc res.r0) l.sp l.q) ∧ HV w (keys [] []) [] [⟨3, RI.enc res.r0, l.sp, l.q⟩] [] w') := by
  unfold m_tide_Clash_1 at hm
  refine g_enter (args := [.agg #[slv qa0 na0 ca0, .int .i64 s0.wind.lo, .int .i64 s0.wind.hi, slv qa1 na1 ca1, slv qa2 na2 ca2], slv qa3 na3 ca3]) Try.func58 rfl Try.ntmps58 rfl (e := [(0, _), (1, _)]) rfl (H := HV w (keys [] []) [] [] [(bk qa0, off qa0, RW.enc s0.table), (bk qa1, off qa1, RI.enc s0.floors), (bk qa2, off qa2, RS.enc s0.sills), (bk qa3, off qa3, RL.enc looks1)]) hw ?_
  refine g_seq ?_
  refine g_region ?_
  refine g_boxV rfl rfl (fun b h2 => ?_)
  refine g_val rfl rfl rfl (fun _ _ => v_nilS rfl) ?_
  refine g_val rfl rfl rfl (fun _ _ => v_assign rfl) ?_
  refine g_nil ?_
  refine g_n_then ?_
  refine g_seq ?_
  refine g_region ?_
  refine g_val rfl rfl rfl (fun w hh => v_loadAgg (vs := [_, _, _, _, _]) (Try.isAgg29 w) (Try.sizeOf29 w) rfl (hh.cells 0 rfl rfl)) ?_
  refine g_val rfl rfl rfl (fun _ _ => v_move rfl) ?_
  obtain ⟨h3, hm⟩ := ifO hm
  refine dec_cases (p := lookedE s0 looks1 = 0) (fun h4 => ?_) (fun h4 => ?_)
  ·replace hm := ifT h4 hm
   refine g_callN rfl rfl rfl rfl rfl rfl rfl (fun a w => Try.call86 a w) (fun w hh => cx_looked s0 looks1 qa0 na0 ca0 qa1 na1 ca1 qa2 na2 ca2 qa3 na3 ca3 w (HV.callee (S0 := []) (vs0 := []) hh (roC (hh.rsep (S0 := []) (vs0 := []) 0 rfl) (roC (hh.rsep (S0 := []) (vs0 := []) 1 rfl) (roC (hh.rsep (S0 := []) (vs0 := []) 2 rfl) (roC (hh.rsep (S0 := []) (vs0 := []) 3 rfl) roN))))) hna0 hqa0 hla0 hna1 hqa1 hla1 hna2 hqa2 hla2 hna3 hqa3 hla3 h3 h4) (fun b_1 h5 => ?_)
   refine g_val rfl rfl rfl (fun _ _ => v_move rfl) ?_
   refine g_val rfl rfl rfl (fun _ _ => v_extract rfl rfl) ?_
   refine g_val rfl rfl rfl (fun _ _ => v_extract rfl rfl) ?_
   refine g_allocV (fun w => Try.zeroValue139 w) rfl (fun b_2 h6 => ?_)
   refine g_stS (cs' := #[_]) (S' := [_, _]) 0 (fun w => Try.sizeOf139 w) rfl rfl rfl rfl rfl rfl rfl ?_
   refine g_val rfl rfl rfl (fun _ _ => v_assign rfl) ?_
   refine g_nil ?_
   refine g_n_then ?_
   refine g_seq ?_
   refine g_seq ?_
   refine g_region ?_
   refine g_val rfl rfl rfl (fun _ _ => v_move rfl) ?_
   refine g_val rfl rfl rfl (fun _ _ => v_neq rfl rfl) ?_
   refine g_nil ?_
   refine g_n_then ?_
   refine g_condF rfl rfl ?_
   refine g_skip ?_
   refine g_n_then ?_
   refine g_seq ?_
   refine g_region ?_
   refine g_val rfl rfl rfl (fun _ _ => v_makeFunc (u := #[]) (u' := #[_]) rfl rfl) ?_
   refine g_val rfl rfl rfl (fun _ _ => v_assign rfl) ?_
   refine g_nil ?_
   refine g_n_then ?_
   refine g_seq ?_
   refine g_seq ?_
   refine g_region ?_
   refine g_val rfl rfl rfl (fun _ _ => v_move rfl) ?_
   refine g_val rfl rfl rfl (fun w _ => v_lenN hna3 (Try.runUnderlying35 w) rfl) ?_
   refine g_val rfl rfl rfl (fun _ _ => v_move rfl) ?_
   refine g_nil ?_
   refine g_n_then ?_
   obtain ⟨o, h7, h8⟩ := bindO hm
   refine g_cut (ι := Unit) (fun j => o = .inl j) (fun j => [(1, slv qa3 na3 ca3), (8, .func (.func 129) #[] #[ptr b_2 0])]) (fun j => [(b_2, .cells #[ptr b_1 0] 139 (0, 0)), (b, .cells #[slv qa0 na0 ca0, .int .i64 s0.wind.lo, .int .i64 s0.wind.hi, slv qa1 na1 ca1, slv qa2 na2 ca2] 29 (0, 0))]) (fun j => []) ?_ ?_
   ·replace hm := h7
    refine g_block ?_
    refine g_loopF (ι := Unit) hm (fun s l => True) (fun s l => [(1, slv qa3 na3 ca3), (8, .func (.func 129) #[] #[ptr b_2 0]), (25, slv qa3 na3 ca3), (26, .int .i64 (looks1.length : Int)), (27, .int .i64 s)]) (fun s l => [(b_2, .cells #[ptr b_1 0] 139 (0, 0)), (b, .cells #[slv qa0 na0 ca0, .int .i64 s0.wind.lo, .int .i64 s0.wind.hi, slv qa1 na1 ca1, slv qa2 na2 ca2] 29 (0, 0))]) (fun s l => []) () (trivial) ((.cons rfl (.cons rfl (.cons rfl (.cons rfl (.cons rfl .nil)))))) (fun w hh => hh) (fun s l r hpl hm h9 => ?_)
    unfold m_tide_Clash_1_L0 at hm
    refine g_seq ?_
    refine g_region ?_
    refine g_val rfl rfl rfl (fun _ _ => v_lss rfl rfl) ?_
    refine g_nil ?_
    refine g_n_then ?_
    refine g_seq ?_
    refine g_cond rfl (fun h10 => ?_) (fun h10 => ?_)
    ·replace hm := ifT (of_decide_eq_true h10) hm
     refine g_skip ?_
     refine g_n_then ?_
     refine g_seq ?_
     refine g_block ?_
     refine g_seq ?_
     refine g_region ?_
     refine g_val rfl rfl rfl (fun _ _ => v_move rfl) ?_
     obtain ⟨t30, h11, hm⟩ := bindO hm
     refine g_val rfl rfl rfl (fun w _ => v_ixA h11 (Try.runUnderlying35 w) (Try.sizeOf89 w) rfl rfl hna3 hqa3) ?_
     refine g_val rfl rfl rfl (fun w hh => v_ldEA RL 0 [.int .i64 t30.min, .int .i64 t30.place, .bool t30.wet] h11 (Try.isAgg89 w) (Try.sizeOf89 w) rfl (hh.seg 4 rfl) rfl (Nat.add_zero _).symm) ?_
     refine g_allocV (fun w => Try.zeroValue89 w) rfl (fun b_3 h12 => ?_)
     refine g_val rfl rfl rfl (fun _ _ => v_assign rfl) ?_
     refine g_stSA (us := #[_, _, _]) (cs' := [_, _, _]) (S' := [_, _, _]) 0 (fun w => Try.sizeOf89 w) rfl rfl rfl rfl rfl rfl rfl ?_
     refine g_nil ?_
     refine g_n_then ?_
     refine g_seq ?_
     refine g_region ?_
     refine g_val rfl rfl rfl (fun _ _ => v_move rfl) ?_
     refine g_val rfl rfl rfl (fun w hh => v_loadAgg (vs := [_, _, _]) (Try.isAgg89 w) (Try.sizeOf89 w) rfl (hh.cells 0 rfl rfl)) ?_
     refine g_vlit RL [(⟨t30.min, t30.place, t30.wet⟩ : Look)] (ps := [(0, _)]) (cells := [_, _, _]) (fun w => Try.runUnderlying35 w) (fun w => Try.sizeOf89 w) (fun w => Try.zeroValue89 w) rfl rfl rfl rfl rfl rfl rfl rfl (fun L h13 => ?_)
     obtain ⟨t35, h14, hm⟩ := bindO hm
     refine g_sel (S' := [_, _, _]) (vs' := [_]) [1, 0, 2] [0] 0 (by decide) (by decide) rfl rfl rfl ?_
     refine g_callH [_] [] rfl rfl rfl rfl rfl rfl rfl (fun a w => Try.call129 a w) (fun w hh => c_tide_Clash_1_1 [(⟨t30.min, t30.place, t30.wet⟩ : Look)] s0 L.q L.n L.cap b_2 b_1 qa0 na0 ca0 qa1 na1 ca1 qa2 na2 ca2 w (HV.callee (S0 := [_]) (vs0 := []) hh (roC (hh.vsep (S0 := [_]) (vs0 := []) 0 rfl h13) (roC (hh.rsep (S0 := [_]) (vs0 := []) 0 rfl) (roC (hh.rsep (S0 := [_]) (vs0 := []) 1 rfl) (roC (hh.rsep (S0 := [_]) (vs0 := []) 2 rfl) (roC (hh.rsep (S0 := [_]) (vs0 := []) 3 rfl) roN)))))) (vlen RL h13 rfl) (vne h13) (h13).hle hna0 hqa0 hla0 hna1 hqa1 hla1 hna2 hqa2 hla2 h14) (fun l_1 h15 => ?_)
     refine g_sel (S' := [_, _, _]) (vs' := [_]) [0, 1, 2] [0] 0 (by decide) (by decide) rfl rfl rfl ?_
     refine g_nil ?_
     refine g_n_then ?_
     refine g_cond rfl (fun h16 => ?_) (fun h16 => ?_)
     ·replace hm := ifT (h16) hm
      refine g_seq ?_
      refine g_region ?_
      refine g_val rfl rfl rfl (fun _ _ => v_move rfl) ?_
      refine g_vlit RI [s] (ps := [(0, _)]) (cells := [_]) (fun w => Try.runUnderlying26 w) (fun w => Try.sizeOf3 w) (fun w => Try.zeroValue3 w) rfl rfl rfl rfl rfl rfl rfl rfl (fun L_1 h17 => ?_)
      refine g_val rfl rfl rfl (fun _ _ => v_assign rfl) ?_
      refine g_val rfl rfl rfl (fun _ _ => v_assign rfl) ?_
      refine g_nil ?_
      refine g_n_then ?_
      refine g_ret ?_
      refine g_r_blk ?_
      refine g_r_then ?_
      refine g_r_then ?_
      refine g_r_blk ?_
      obtain rfl := Option.some.inj hm
      have hbo := h9 _ rfl
      subst hbo
      refine g_r_then ?_
      replace hm := ocR h8
      refine g_r_then ?_
      obtain rfl := Option.some.inj hm
      refine g_done rfl (fun w hh => (.tmp rfl (.tmp rfl .nil))) (fun w hh => ⟨L_1, rfl, h17, hh.sel [] [0] 5 (by decide) (by decide) rfl rfl rfl⟩)
     ·replace hm := ifF ((fun hh => Bool.noConfusion ((h16).symm.trans hh))) hm
      refine g_skip ?_
      refine g_n_blk ?_
      refine g_n_then ?_
      refine g_region ?_
      obtain ⟨t38, h18, hm⟩ := bindO hm
      refine g_val rfl rfl rfl (fun _ _ => v_addc h18 rfl rfl) ?_
      refine g_val rfl rfl rfl (fun _ _ => v_move rfl) ?_
      refine g_nil ?_
      obtain rfl := Option.some.inj hm
      refine g_n_then ?_
      exact g_again' _ () rfl (trivial) ((.cons rfl (.cons rfl (.cons rfl (.cons rfl (.cons rfl .nil)))))) (fun w hh => hh.sel [0, 2] [] 0 (by decide) (by decide) rfl rfl rfl)
    ·replace hm := ifF (of_decide_eq_false h10) hm
     refine g_exit ?_
     refine g_x_then ?_
     refine g_x_then ?_
     refine g_x_blk ?_
     obtain rfl := Option.some.inj hm
     have hbo := h9 _ rfl
     subst hbo
     exact g_leaf () (rfl) ((.cons rfl (.cons rfl .nil))) (fun w hh => hh)
   ·intro j hj
    have h19 := hj
    subst h19
    replace hm := ocL h8
    refine g_n_then ?_
    refine g_seq ?_
    refine g_seq ?_
    refine g_region ?_
    refine g_val rfl rfl rfl (fun _ _ => v_move rfl) ?_
    refine g_val rfl rfl rfl (fun w _ => v_lenN hna3 (Try.runUnderlying35 w) rfl) ?_
    refine g_val rfl rfl rfl (fun _ _ => v_move rfl) ?_
    refine g_nil ?_
    refine g_n_then ?_
    obtain ⟨o_1, h20, h21⟩ := bindO hm
    refine g_cut (ι := Unit) (fun j_1 => o_1 = .inl j_1) (fun j_1 => []) (fun j_1 => [(b_2, .cells #[ptr b_1 0] 139 (0, 0)), (b, .cells #[slv qa0 na0 ca0, .int .i64 s0.wind.lo, .int .i64 s0.wind.hi, slv qa1 na1 ca1, slv qa2 na2 ca2] 29 (0, 0))]) (fun j_1 => []) ?_ ?_
    ·replace hm := h20
     refine g_block ?_
     refine g_loopF (ι := Unit) hm (fun s_1 l_2 => True) (fun s_1 l_2 => [(1, slv qa3 na3 ca3), (8, .func (.func 129) #[] #[ptr b_2 0]), (39, slv qa3 na3 ca3), (40, .int .i64 (looks1.length : Int)), (41, .int .i64 s_1)]) (fun s_1 l_2 => [(b_2, .cells #[ptr b_1 0] 139 (0, 0)), (b, .cells #[slv qa0 na0 ca0, .int .i64 s0.wind.lo, .int .i64 s0.wind.hi, slv qa1 na1 ca1, slv qa2 na2 ca2] 29 (0, 0))]) (fun s_1 l_2 => []) () (trivial) ((.cons rfl (.cons rfl (.cons rfl (.cons rfl (.cons rfl .nil)))))) (fun w hh => hh) (fun s_1 l_2 r_1 hpl hm h22 => ?_)
     unfold m_tide_Clash_1_L1 at hm
     refine g_seq ?_
     refine g_region ?_
     refine g_val rfl rfl rfl (fun _ _ => v_lss rfl rfl) ?_
     refine g_nil ?_
     refine g_n_then ?_
     refine g_seq ?_
     refine g_cond rfl (fun h23 => ?_) (fun h23 => ?_)
     ·replace hm := ifT (of_decide_eq_true h23) hm
      refine g_skip ?_
      refine g_n_then ?_
      refine g_seq ?_
      refine g_block ?_
      refine g_seq ?_
      refine g_region ?_
      refine g_val rfl rfl rfl (fun _ _ => v_move rfl) ?_
      obtain ⟨t44, h24, hm⟩ := bindO hm
      refine g_val rfl rfl rfl (fun w _ => v_ixA h24 (Try.runUnderlying35 w) (Try.sizeOf89 w) rfl rfl hna3 hqa3) ?_
      refine g_val rfl rfl rfl (fun w hh => v_ldEA RL 0 [.int .i64 t44.min, .int .i64 t44.place, .bool t44.wet] h24 (Try.isAgg89 w) (Try.sizeOf89 w) rfl (hh.seg 4 rfl) rfl (Nat.add_zero _).symm) ?_
      refine g_allocV (fun w => Try.zeroValue89 w) rfl (fun b_4 h25 => ?_)
      refine g_val rfl rfl rfl (fun _ _ => v_assign rfl) ?_
      refine g_stSA (us := #[_, _, _]) (cs' := [_, _, _]) (S' := [_, _, _]) 0 (fun w => Try.sizeOf89 w) rfl rfl rfl rfl rfl rfl rfl ?_
      refine g_nil ?_
      refine g_n_then ?_
      refine g_seq ?_
      refine g_region ?_
      refine g_val rfl rfl rfl (fun _ _ => v_move rfl) ?_
      refine g_val rfl rfl rfl (fun _ _ => v_move rfl) ?_
      obtain ⟨t48, h26, hm⟩ := bindO hm
      refine g_val rfl rfl rfl (fun _ _ => v_addc h26 rfl rfl) ?_
      obtain ⟨h27, hm⟩ := ifO hm
      refine g_val rfl rfl rfl (fun w _ => v_sliceFrom (Try.runUnderlying35 w) (Try.sizeOf89 w) rfl rfl h27.1 (tail_in hna3 h27) hla3) ?_
      refine g_tail RL 4 rfl hna3 hqa3 hla3 h27 ?_
      refine g_val rfl rfl rfl (fun w _ => v_lenN (tail_hn hna3) (Try.runUnderlying35 w) rfl) ?_
      refine g_val rfl rfl rfl (fun _ _ => v_move rfl) ?_
      refine g_nil ?_
      refine g_n_then ?_
      obtain ⟨o_2, h28, h29⟩ := bindO hm
      refine g_cut (ι := Unit) (fun j_2 => o_2 = .inl j_2) (fun j_2 => [(1, slv qa3 na3 ca3), (8, .func (.func 129) #[] #[ptr b_2 0]), (39, slv qa3 na3 ca3), (40, .int .i64 (looks1.length : Int)), (41, .int .i64 s_1)]) (fun j_2 => [(b_4, .cells #[.int .i64 t44.min, .int .i64 t44.place, .bool t44.wet] 89 (0, 0)), (b_2, .cells #[ptr b_1 0] 139 (0, 0)), (b, .cells #[slv qa0 na0 ca0, .int .i64 s0.wind.lo, .int .i64 s0.wind.hi, slv qa1 na1 ca1, slv qa2 na2 ca2] 29 (0, 0))]) (fun j_2 => []) ?_ ?_
      ·replace hm := h28
       refine g_block ?_
       refine g_loopF (ι := Unit) hm (fun s_2 l_3 => True) (fun s_2 l_3 => [(1, slv qa3 na3 ca3), (8, .func (.func 129) #[] #[ptr b_2 0]), (11, .int .i64 s_1), (12, ptr b_4 0), (39, slv qa3 na3 ca3), (40, .int .i64 (looks1.length : Int)), (41, .int .i64 s_1), (49, slv (tailQ qa3 3 (Int.toNat t48) ca3) (na3 - (Int.toNat t48)) (ca3 - (Int.toNat t48))), (50, .int .i64 ((looks1.drop (Int.toNat t48)).length : Int)), (51, .int .i64 s_2)]) (fun s_2 l_3 => [(b_4, .cells #[.int .i64 t44.min, .int .i64 t44.place, .bool t44.wet] 89 (0, 0)), (b_2, .cells #[ptr b_1 0] 139 (0, 0)), (b, .cells #[slv qa0 na0 ca0, .int .i64 s0.wind.lo, .int .i64 s0.wind.hi, slv qa1 na1 ca1, slv qa2 na2 ca2] 29 (0, 0))]) (fun s_2 l_3 => []) () (trivial) ((.cons rfl (.cons rfl (.cons rfl (.cons rfl (.cons rfl (.cons rfl (.cons rfl (.cons rfl (.cons rfl (.cons rfl .nil))))))))))) (fun w hh => hh) (fun s_2 l_3 r_2 hpl hm h30 => ?_)
       unfold m_tide_Clash_1_L2 at hm
       refine g_seq ?_
       refine g_region ?_
       refine g_val rfl rfl rfl (fun _ _ => v_lss rfl rfl) ?_
       refine g_nil ?_
       refine g_n_then ?_
       refine g_seq ?_
       refine g_cond rfl (fun h31 => ?_) (fun h31 => ?_)
       ·replace hm := ifT (of_decide_eq_true h31) hm
        refine g_skip ?_
        refine g_n_then ?_
        refine g_seq ?_
        refine g_block ?_
        refine g_seq ?_
        refine g_region ?_
        refine g_val rfl rfl rfl (fun _ _ => v_move rfl) ?_
        obtain ⟨t54, h32, hm⟩ := bindO hm
        refine g_val rfl rfl rfl (fun w _ => v_ixA h32 (Try.runUnderlying35 w) (Try.sizeOf89 w) rfl rfl (tail_hn hna3) (tail_hne hqa3)) ?_
        refine g_val rfl rfl rfl (fun w hh => v_ldEA RL 0 [.int .i64 t54.min, .int .i64 t54.place, .bool t54.wet] h32 (Try.isAgg89 w) (Try.sizeOf89 w) rfl (hh.seg 0 rfl) rfl (Nat.add_zero _).symm) ?_
        refine g_allocV (fun w => Try.zeroValue89 w) rfl (fun b_5 h33 => ?_)
        refine g_val rfl rfl rfl (fun _ _ => v_assign rfl) ?_
        refine g_stSA (us := #[_, _, _]) (cs' := [_, _, _]) (S' := [_, _, _, _]) 0 (fun w => Try.sizeOf89 w) rfl rfl rfl rfl rfl rfl rfl ?_
        refine g_nil ?_
        refine g_n_then ?_
        refine g_seq ?_
        obtain ⟨o_3, h34, h35⟩ := bindO hm
        refine g_cut (ι := Unit) (fun l_4 => True) (fun l_4 => [(1, slv qa3 na3 ca3), (8, .func (.func 129) #[] #[ptr b_2 0]), (11, .int .i64 s_1), (12, ptr b_4 0), (13, .int .i64 s_2), (39, slv qa3 na3 ca3), (40, .int .i64 (looks1.length : Int)), (41, .int .i64 s_1), (49, slv (tailQ qa3 3 (Int.toNat t48) ca3) (na3 - (Int.toNat t48)) (ca3 - (Int.toNat t48))), (50, .int .i64 ((looks1.drop (Int.toNat t48)).length : Int)), (51, .int .i64 s_2), (65, .bool o_3)]) (fun l_4 => [(b_5, .cells #[.int .i64 t54.min, .int .i64 t54.place, .bool t54.wet] 89 (0, 0)), (b_4, .cells #[.int .i64 t44.min, .int .i64 t44.place, .bool t44.wet] 89 (0, 0)), (b_2, .cells #[ptr b_1 0] 139 (0, 0)), (b, .cells #[slv qa0 na0 ca0, .int .i64 s0.wind.lo, .int .i64 s0.wind.hi, slv qa1 na1 ca1, slv qa2 na2 ca2] 29 (0, 0))]) (fun l_4 => []) ?_ ?_
        ·replace hm := h34
         refine g_region ?_
         refine g_val rfl rfl rfl (fun w hh => v_loadAgg (vs := [_, _, _]) (Try.isAgg89 w) (Try.sizeOf89 w) rfl (hh.cells 1 rfl rfl)) ?_
         refine g_val rfl rfl rfl (fun w hh => v_loadAgg (vs := [_, _, _]) (Try.isAgg89 w) (Try.sizeOf89 w) rfl (hh.cells 0 rfl rfl)) ?_
         refine g_val rfl rfl rfl (fun w _ => v_neqAgg (gxeq89 (⟨t44.min, t44.place, t44.wet⟩ : Look) (⟨t54.min, t54.place, t54.wet⟩ : Look) w) gxeqg89 rfl rfl) ?_
         refine g_val rfl rfl rfl (fun _ _ => v_move rfl) ?_
         refine g_case 59 rfl (fun h36 => ?_) (fun h36 => ?_)
         ·replace hm := ifF (of_ndec_true h36) hm
          refine v_unguard rfl rfl ?_
          refine g_val rfl rfl rfl (fun _ _ => v_move rfl) ?_
          refine v_unguard rfl rfl ?_
          refine g_val rfl rfl rfl (fun w hh => v_loadAgg (vs := [_, _, _]) (Try.isAgg89 w) (Try.sizeOf89 w) rfl (hh.cells 1 rfl rfl)) ?_
          refine v_unguard rfl rfl ?_
          refine g_val rfl rfl rfl (fun w hh => v_loadAgg (vs := [_, _, _]) (Try.isAgg89 w) (Try.sizeOf89 w) rfl (hh.cells 0 rfl rfl)) ?_
          refine v_unguard rfl rfl ?_
          refine g_vlit RL [(⟨t44.min, t44.place, t44.wet⟩ : Look), (⟨t54.min, t54.place, t54.wet⟩ : Look)] (ps := [(0, _), (1, _)]) (cells := [_, _, _, _, _, _]) (fun w => Try.runUnderlying35 w) (fun w => Try.sizeOf89 w) (fun w => Try.zeroValue89 w) rfl rfl rfl rfl rfl rfl rfl rfl (fun L_2 h37 => ?_)
          refine v_unguard rfl rfl ?_
          obtain ⟨t64, h38, hm⟩ := bindO hm
          refine g_sel (S' := [_, _, _, _]) (vs' := [_]) [2, 0, 1, 3] [0] 0 (by decide) (by decide) rfl rfl rfl ?_
          refine g_callH [_] [] rfl rfl rfl rfl rfl rfl rfl (fun a w => Try.call129 a w) (fun w hh => c_tide_Clash_1_1 [(⟨t44.min, t44.place, t44.wet⟩ : Look), (⟨t54.min, t54.place, t54.wet⟩ : Look)] s0 L_2.q L_2.n L_2.cap b_2 b_1 qa0 na0 ca0 qa1 na1 ca1 qa2 na2 ca2 w (HV.callee (S0 := [_]) (vs0 := []) hh (roC (hh.vsep (S0 := [_]) (vs0 := []) 0 rfl h37) (roC (hh.rsep (S0 := [_]) (vs0 := []) 1 rfl) (roC (hh.rsep (S0 := [_]) (vs0 := []) 2 rfl) (roC (hh.rsep (S0 := [_]) (vs0 := []) 3 rfl) (roC (hh.rsep (S0 := [_]) (vs0 := []) 4 rfl) roN)))))) (vlen RL h37 rfl) (vne h37) (h37).hle hna0 hqa0 hla0 hna1 hqa1 hla1 hna2 hqa2 hla2 h38) (fun l_5 h39 => ?_)
          refine g_sel (S' := [_, _, _, _]) (vs' := [_]) [0, 1, 2, 3] [0] 0 (by decide) (by decide) rfl rfl rfl ?_
          refine g_val rfl rfl rfl (fun _ _ => v_pickT rfl rfl) ?_
          refine g_nil ?_
          obtain rfl := Option.some.inj hm
          exact g_leaf () (trivial) ((.cons rfl (.cons rfl (.cons rfl (.cons rfl (.cons rfl (.cons rfl (.cons rfl (.cons rfl (.cons rfl (.cons rfl (.cons rfl (.cons rfl .nil))))))))))))) (fun w hh => hh.sel [1, 2, 0, 3] [] 0 (by decide) (by decide) rfl rfl rfl)
         ·replace hm := ifT (of_ndec_false h36) hm
          refine g_skipG rfl rfl rfl rfl rfl rfl ?_
          refine g_skipG rfl rfl rfl rfl rfl rfl ?_
          refine g_skipG rfl rfl rfl rfl rfl rfl ?_
          refine g_skipG rfl rfl rfl rfl rfl rfl ?_
          refine g_skipG rfl rfl rfl rfl rfl rfl ?_
          refine g_val rfl rfl rfl (fun _ _ => v_pickF rfl rfl) ?_
          refine g_nil ?_
          obtain rfl := Option.some.inj hm
          exact g_leaf () (trivial) ((.cons rfl (.cons rfl (.cons rfl (.cons rfl (.cons rfl (.cons rfl (.cons rfl (.cons rfl (.cons rfl (.cons rfl (.cons rfl (.cons rfl .nil))))))))))))) (fun w hh => hh)
        ·intro l_4 hj
         replace hm := h35
         refine g_n_then ?_
         refine g_cond rfl (fun h40 => ?_) (fun h40 => ?_)
         ·replace hm := ifT (h40) hm
          refine g_seq ?_
          refine g_region ?_
          refine g_val rfl rfl rfl (fun _ _ => v_move rfl) ?_
          refine g_val rfl rfl rfl (fun _ _ => v_move rfl) ?_
          obtain ⟨t68, h41, hm⟩ := bindO hm
          refine g_val rfl rfl rfl (fun _ _ => v_addc h41 rfl rfl) ?_
          refine g_val rfl rfl rfl (fun _ _ => v_move rfl) ?_
          obtain ⟨t70, h42, hm⟩ := bindO hm
          refine g_val rfl rfl rfl (fun _ _ => v_addc h42 rfl rfl) ?_
          refine g_vlit RI [s_1, t70] (ps := [(0, _), (1, _)]) (cells := [_, _]) (fun w => Try.runUnderlying26 w) (fun w => Try.sizeOf3 w) (fun w => Try.zeroValue3 w) rfl rfl rfl rfl rfl rfl rfl rfl (fun L_3 h43 => ?_)
          refine g_val rfl rfl rfl (fun _ _ => v_assign rfl) ?_
          refine g_val rfl rfl rfl (fun _ _ => v_assign rfl) ?_
          refine g_nil ?_
          refine g_n_then ?_
          refine g_ret ?_
          refine g_r_blk ?_
          refine g_r_then ?_
          refine g_r_then ?_
          refine g_r_blk ?_
          obtain rfl := Option.some.inj hm
          have hbo := h30 _ rfl
          subst hbo
          refine g_r_then ?_
          replace hm := ocR h29
          refine g_r_blk ?_
          refine g_r_then ?_
          refine g_r_then ?_
          refine g_r_blk ?_
          obtain rfl := Option.some.inj hm
          have hbo := h22 _ rfl
          subst hbo
          refine g_r_then ?_
          replace hm := ocR h21
          refine g_r_then ?_
          obtain rfl := Option.some.inj hm
          refine g_done rfl (fun w hh => (.tmp rfl (.tmp rfl .nil))) (fun w hh => ⟨L_3, rfl, h43, hh.sel [] [0] 6 (by decide) (by decide) rfl rfl rfl⟩)
         ·replace hm := ifF ((fun hh => Bool.noConfusion ((h40).symm.trans hh))) hm
          refine g_skip ?_
          refine g_n_blk ?_
          refine g_n_then ?_
          refine g_region ?_
          obtain ⟨t72, h44, hm⟩ := bindO hm
          refine g_val rfl rfl rfl (fun _ _ => v_addc h44 rfl rfl) ?_
          refine g_val rfl rfl rfl (fun _ _ => v_move rfl) ?_
          refine g_nil ?_
          obtain rfl := Option.some.inj hm
          refine g_n_then ?_
          exact g_again' _ () rfl (trivial) ((.cons rfl (.cons rfl (.cons rfl (.cons rfl (.cons rfl (.cons rfl (.cons rfl (.cons rfl (.cons rfl (.cons rfl .nil))))))))))) (fun w hh => hh.sel [1, 2, 3] [] 0 (by decide) (by decide) rfl rfl rfl)
       ·replace hm := ifF (of_decide_eq_false h31) hm
        refine g_exit ?_
        refine g_x_then ?_
        refine g_x_then ?_
        refine g_x_blk ?_
        obtain rfl := Option.some.inj hm
        have hbo := h30 _ rfl
        subst hbo
        exact g_leaf () (rfl) ((.cons rfl (.cons rfl (.cons rfl (.cons rfl (.cons rfl .nil)))))) (fun w hh => hh)
      ·intro j_2 hj
       have h45 := hj
       subst h45
       replace hm := ocL h29
       refine g_n_blk ?_
       refine g_n_then ?_
       refine g_region ?_
       obtain ⟨t73, h46, hm⟩ := bindO hm
       refine g_val rfl rfl rfl (fun _ _ => v_addc h46 rfl rfl) ?_
       refine g_val rfl rfl rfl (fun _ _ => v_move rfl) ?_
       refine g_nil ?_
       obtain rfl := Option.some.inj hm
       refine g_n_then ?_
       exact g_again' _ () rfl (trivial) ((.cons rfl (.cons rfl (.cons rfl (.cons rfl (.cons rfl .nil)))))) (fun w hh => hh.sel [1, 2] [] 1 (by decide) (by decide) rfl rfl rfl)
     ·replace hm := ifF (of_decide_eq_false h23) hm
      refine g_exit ?_
      refine g_x_then ?_
      refine g_x_then ?_
      refine g_x_blk ?_
      obtain rfl := Option.some.inj hm
      have hbo := h22 _ rfl
      subst hbo
      exact g_leaf () (rfl) (.nil) (fun w hh => hh)
    ·intro j_1 hj
     have h47 := hj
     subst h47
     replace hm := ocL h21
     refine g_n_then ?_
     refine g_seq ?_
     refine g_region ?_
     refine g_val rfl rfl rfl (fun _ _ => v_nilS rfl) ?_
     refine g_val rfl rfl rfl (fun _ _ => v_assign rfl) ?_
     refine g_nil ?_
     refine g_n_then ?_
     refine g_ret ?_
     refine g_vnil 3 ?_
     obtain rfl := Option.some.inj hm
     refine g_done rfl (fun w hh => (.tmp rfl (.tmp rfl .nil))) (fun w hh => ⟨⟨none, 0, 0, []⟩, rfl, VOK.nil, hh.sel [] [0] 5 (by decide) (by decide) rfl rfl rfl⟩)
  ·replace hm := ifF h4 hm
   refine g_callN rfl rfl rfl rfl rfl rfl rfl (fun a w => Try.call86 a w) (fun w hh => cx_lookedE s0 looks1 qa0 na0 ca0 qa1 na1 ca1 qa2 na2 ca2 qa3 na3 ca3 w (HV.callee (S0 := []) (vs0 := []) hh (roC (hh.rsep (S0 := []) (vs0 := []) 0 rfl) (roC (hh.rsep (S0 := []) (vs0 := []) 1 rfl) (roC (hh.rsep (S0 := []) (vs0 := []) 2 rfl) (roC (hh.rsep (S0 := []) (vs0 := []) 3 rfl) roN))))) hna0 hqa0 hla0 hna1 hqa1 hla1 hna2 hqa2 hla2 hna3 hqa3 hla3 h3 h4) (fun l_6 h48 => ?_)
   refine g_val rfl rfl rfl (fun _ _ => v_move rfl) ?_
   refine g_val rfl rfl rfl (fun _ _ => v_extract rfl rfl) ?_
   refine g_val rfl rfl rfl (fun _ _ => v_extract rfl rfl) ?_
   refine g_allocV (fun w => Try.zeroValue139 w) rfl (fun b_6 h49 => ?_)
   refine g_stS (cs' := #[_]) (S' := [_, _]) 0 (fun w => Try.sizeOf139 w) rfl rfl rfl rfl rfl rfl rfl ?_
   refine g_val rfl rfl rfl (fun _ _ => v_assign rfl) ?_
   refine g_nil ?_
   refine g_n_then ?_
   refine g_seq ?_
   refine g_seq ?_
   refine g_region ?_
   refine g_val rfl rfl rfl (fun _ _ => v_move rfl) ?_
   refine g_val rfl rfl rfl (fun _ _ => v_neqT h4 rfl rfl) ?_
   refine g_nil ?_
   refine g_n_then ?_
   refine g_condT rfl rfl ?_
   refine g_seq ?_
   refine g_region ?_
   refine g_val rfl rfl rfl (fun _ _ => v_move rfl) ?_
   refine g_val rfl rfl rfl (fun _ _ => v_nilS rfl) ?_
   refine g_val rfl rfl rfl (fun _ _ => v_assign rfl) ?_
   refine g_nil ?_
   refine g_n_then ?_
   refine g_ret ?_
   refine g_r_then ?_
   refine g_vnil 3 ?_
   obtain rfl := Option.some.inj hm
   refine g_done rfl (fun w hh => (.tmp rfl (.tmp rfl .nil))) (fun w hh => ⟨⟨none, 0, 0, []⟩, rfl, VOK.nil, hh.sel [] [0] 4 (by decide) (by decide) rfl rfl rfl⟩)
end Go.Proofs.Wk

namespace Go.Proofs.Wk
open Go Go.Gx Go.Pl
set_option linter.unusedVariables false
/-! ### truths that agree with looks -/
def agT (s : Sands) (w : Int) (l : Look) : Bool := decide (refGate ((gatesOf s).getD l.place.toNat 0) < heightF s l.min + w) == l.wet
theorem step_mem {s : Sands} (hG : Good s) {w : Int} (hw : s.wind.lo ≤ w ∧ w ≤ s.wind.hi) {l : Look} (hl : lookOK s l) (o : Span) :
    ((leftStep s (gatesOf s) o l).lo ≤ w ∧ w ≤ (leftStep s (gatesOf s) o l).hi) ↔ (o.lo ≤ w ∧ w ≤ o.hi) ∧ agT s w l = true := by
  have hhi := hG.hi
  have hh := height_tight hG hl.1
  have hgo := gates_ok (s := s)
  have hg0 := hgo.lo l.place.toNat
  have hg1 := hgo.hi l.place.toNat
  unfold leftStep mostG agT refGate
  generalize (gatesOf s).getD l.place.toNat 0 = g at hg0 hg1
  generalize heightF s l.min = h at hh
  cases hwet : l.wet with
  | true =>
    simp only [if_true]
    by_cases hg : g = 1000
    · rw [if_pos hg, if_pos hg, decide_eq_false (by omega)]
      simp only [beq_iff_eq, Bool.false_eq_true, and_false, iff_false]
      omega
    · rw [if_neg hg, if_neg hg]
      by_cases hc : g < h + w
      · rw [decide_eq_true hc]
        simp only [beq_self_eq_true, and_true]
        omega
      · rw [decide_eq_false hc]
        simp only [beq_iff_eq, Bool.false_eq_true, and_false, iff_false]
        omega
  | false =>
    simp only [Bool.false_eq_true, if_false]
    by_cases hg : g = 1000
    · rw [if_pos hg, if_pos hg, decide_eq_false (by omega)]
      simp only [beq_self_eq_true, and_true]
      omega
    · rw [if_neg hg, if_neg hg]
      by_cases hc : g < h + w
      · rw [decide_eq_true hc]
        simp only [beq_iff_eq, Bool.true_eq_false, and_false, iff_false]
        omega
      · rw [decide_eq_false hc]
        simp only [beq_self_eq_true, and_true]
        omega
theorem fold_mem {s : Sands} (hG : Good s) {w : Int} (hw : s.wind.lo ≤ w ∧ w ≤ s.wind.hi) : ∀ (k : List Look) (o : Span), (∀ l, l ∈ k → lookOK s l) → (((k.foldl (leftStep s (gatesOf s)) o).lo ≤ w ∧ w ≤ (k.foldl (leftStep s (gatesOf s)) o).hi) ↔ (o.lo ≤ w ∧ w ≤ o.hi) ∧ ∀ l, l ∈ k → agT s w l = true)
  | [], o, _ => by simp
  | x :: k, o, h => by
    rw [List.foldl_cons, fold_mem hG hw k _ (fun l hl => h l (List.mem_cons_of_mem _ hl)), step_mem hG hw (h x List.mem_cons_self)]
    simp only [List.mem_cons, forall_eq_or_imp]
    constructor
    · rintro ⟨⟨h1, h2⟩, h3⟩; exact ⟨h1, h2, h3⟩
    · rintro ⟨h1, h2, h3⟩; exact ⟨⟨h1, h2⟩, h3⟩
/-- a truth lies in what looks leave, just if it agrees with them all -/
theorem left_mem {s : Sands} (hG : Good s) {w : Int} (hw : s.wind.lo ≤ w ∧ w ≤ s.wind.hi) {k : List Look} (hk : ∀ l, l ∈ k → lookOK s l) : ((leftG s (gatesOf s) k).lo ≤ w ∧ w ≤ (leftG s (gatesOf s) k).hi) ↔ ∀ l, l ∈ k → agT s w l = true := by
  unfold leftG
  rw [fold_mem hG hw k s.wind hk]
  exact ⟨fun h => h.2, fun h => ⟨hw, h⟩⟩
theorem fold_in {s : Sands} : ∀ (k : List Look) (o : Span), o.lo ≤ (k.foldl (leftStep s (gatesOf s)) o).lo ∧ (k.foldl (leftStep s (gatesOf s)) o).hi ≤ o.hi
  | [], o => ⟨Int.le_refl _, Int.le_refl _⟩
  | x :: k, o => by
    have h := fold_in (s := s) k (leftStep s (gatesOf s) o x)
    rw [List.foldl_cons]
    have h2 : o.lo ≤ (leftStep s (gatesOf s) o x).lo ∧ (leftStep s (gatesOf s) o x).hi ≤ o.hi := by
      unfold leftStep
      split <;> (simp only; omega)
    omega
end Go.Proofs.Wk

namespace Go.Proofs.Wk
open Go Go.Gx Go.Pl
set_option linter.unusedVariables false
/-- looks leave nothing, just if no truth agrees with them all -/
theorem left_empty {s : Sands} (hG : Good s) {k : List Look} (hk : ∀ l, l ∈ k → lookOK s l) : (leftG s (gatesOf s) k).hi < (leftG s (gatesOf s) k).lo ↔ ∀ w, s.wind.lo ≤ w → w ≤ s.wind.hi → ¬ ∀ l, l ∈ k → agT s w l = true := by
  have hin := fold_in (s := s) k s.wind
  have e : leftG s (gatesOf s) k = k.foldl (leftStep s (gatesOf s)) s.wind := rfl
  rw [← e] at hin
  constructor
  · intro h w h1 h2 h3
    have := (left_mem hG ⟨h1, h2⟩ hk).2 h3
    omega
  · intro h
    refine Classical.byContradiction fun hc => ?_
    exact h (leftG s (gatesOf s) k).lo hin.1 (by omega) ((left_mem hG ⟨hin.1, by omega⟩ hk).1 ⟨Int.le_refl _, by omega⟩)
end Go.Proofs.Wk

namespace Go.Proofs.Wk
open Go Go.Gx Go.Pl
set_option linter.unusedVariables false
/-! ### the look that settles most -/
def mostF (s : Sands) (m : Int) (p : Nat) : Int := if (gatesOf s).getD p 0 = 1000 then 50 else (gatesOf s).getD p 0 - heightF s m
def yesF (s : Sands) (m : Int) (p : Nat) : Int := max 0 (s.wind.hi - max s.wind.lo (mostF s m p + 1) + 1)
def allW (s : Sands) : Int := s.wind.hi - s.wind.lo + 1
def nF (s : Sands) (m : Int) (p : Nat) : Int := max (yesF s m p) (allW s - yesF s m p)
def askStep (s : Sands) (m : Int) (st : Int × Look) (p : Nat) : Int × Look := if nF s m p < st.1 then (nF s m p, ⟨m, (p : Int), true⟩) else st
theorem x_left_eq {s : Sands} (hG : Good s) {k : List Look} (hk : k.all (fun l => dayF s l.min && isPlace s l.place) = true) (hl : k.length ≤ 1000) : x_left s k = some (leftG s (gatesOf s) k) := by
  have hs := Good.short hG
  have h1 := hs.t
  have h2 := hs.f
  have h3 := hs.s
  unfold x_left
  rw [if_pos ⟨⟨by omega, by omega, by omega⟩, check_of_good hG, hk, by omega⟩]
end Go.Proofs.Wk

namespace Go.Proofs.Wk
open Go Go.Gx Go.Pl
set_option linter.unusedVariables false
/-- looks that no truth agrees with -/
def noneT (s : Sands) (k : List Look) : Bool := decide ((leftG s (gatesOf s) k).hi < (leftG s (gatesOf s) k).lo)
theorem none_eq {s : Sands} (hG : Good s) {k : List Look} (hk : ∀ l, l ∈ k → lookOK s l) (hl : k.length ≤ 1000) : m_tide_Clash_1_1 k s = some (noneT s k) := by
  have h : k.all (fun l => dayF s l.min && isPlace s l.place) = true := List.all_eq_true.2 fun l hm => by
    have := hk l hm
    unfold lookOK at this
    rw [this.1, this.2]; rfl
  unfold m_tide_Clash_1_1
  rw [x_left_eq hG h hl, Option.bind_some]
  rfl
theorem none_iff {s : Sands} (hG : Good s) {k : List Look} (hk : ∀ l, l ∈ k → lookOK s l) : noneT s k = true ↔ ∀ w, s.wind.lo ≤ w → w ≤ s.wind.hi → ¬ ∀ l, l ∈ k → agT s w l = true := by
  unfold noneT
  rw [decide_eq_true_iff]
  exact left_empty hG hk
end Go.Proofs.Wk

namespace Go.Proofs.Wk
open Go Go.Gx Go.Pl
set_option linter.unusedVariables false
/-- where the ends of what looks leave come from -/
theorem fold_ends {s : Sands} {g : List Int} : ∀ (k : List Look) (o : Span),
    ((k.foldl (leftStep s g) o).lo = o.lo ∨ ∃ x, x ∈ k ∧ x.wet = true ∧ (k.foldl (leftStep s g) o).lo = mostG s g x + 1) ∧
    ((k.foldl (leftStep s g) o).hi = o.hi ∨ ∃ x, x ∈ k ∧ x.wet = false ∧ (k.foldl (leftStep s g) o).hi = mostG s g x)
  | [], o => ⟨.inl rfl, .inl rfl⟩
  | x :: k, o => by
    obtain ⟨h1, h2⟩ := fold_ends (s := s) (g := g) k (leftStep s g o x)
    rw [List.foldl_cons]
    cases hw : x.wet with
    | true =>
      have e : leftStep s g o x = ⟨max o.lo (mostG s g x + 1), o.hi⟩ := by unfold leftStep; rw [if_pos hw]
      rw [e] at h1 h2 ⊢
      refine ⟨?_, ?_⟩
      · rcases h1 with h1 | ⟨y, hy, h3, h4⟩
        · simp only at h1
          by_cases hc : o.lo ≤ mostG s g x + 1
          · exact .inr ⟨x, List.mem_cons_self, hw, by omega⟩
          · exact .inl (by omega)
        · exact .inr ⟨y, List.mem_cons_of_mem _ hy, h3, h4⟩
      · rcases h2 with h2 | ⟨y, hy, h3, h4⟩
        · exact .inl h2
        · exact .inr ⟨y, List.mem_cons_of_mem _ hy, h3, h4⟩
    | false =>
      have e : leftStep s g o x = ⟨o.lo, min o.hi (mostG s g x)⟩ := by unfold leftStep; rw [if_neg (by rw [hw]; decide)]
      rw [e] at h1 h2 ⊢
      refine ⟨?_, ?_⟩
      · rcases h1 with h1 | ⟨y, hy, h3, h4⟩
        · exact .inl h1
        · exact .inr ⟨y, List.mem_cons_of_mem _ hy, h3, h4⟩
      · rcases h2 with h2 | ⟨y, hy, h3, h4⟩
        · simp only at h2
          by_cases hc : mostG s g x ≤ o.hi
          · exact .inr ⟨x, List.mem_cons_self, hw, by omega⟩
          · exact .inl (by omega)
        · exact .inr ⟨y, List.mem_cons_of_mem _ hy, h3, h4⟩
theorem none_one {s : Sands} {x : Look} : noneT s [x] = decide ((leftStep s (gatesOf s) s.wind x).hi < (leftStep s (gatesOf s) s.wind x).lo) := rfl
theorem none_two {s : Sands} {x y : Look} : noneT s [x, y] = decide ((leftStep s (gatesOf s) (leftStep s (gatesOf s) s.wind x) y).hi < (leftStep s (gatesOf s) (leftStep s (gatesOf s) s.wind x) y).lo) := rfl
/-- intervals of a line -/
theorem helly {s : Sands} (hG : Good s) {k : List Look} (h1 : ∀ x, x ∈ k → noneT s [x] = false) (h2 : ∀ x y, x ∈ k → y ∈ k → noneT s [x, y] = false) : noneT s k = false := by
  have hwi := hG.wind
  obtain ⟨ha, hb⟩ := fold_ends (s := s) (g := gatesOf s) k s.wind
  have e : leftG s (gatesOf s) k = k.foldl (leftStep s (gatesOf s)) s.wind := rfl
  rw [← e] at ha hb
  unfold noneT
  rw [decide_eq_false_iff_not]
  rcases ha with ha | ⟨x, hx, hxw, ha⟩ <;> rcases hb with hb | ⟨y, hy, hyw, hb⟩
  · omega
  · have := h1 y hy
    rw [none_one, decide_eq_false_iff_not] at this
    unfold leftStep at this
    rw [if_neg (by rw [hyw]; decide)] at this
    simp only at this
    omega
  · have := h1 x hx
    rw [none_one, decide_eq_false_iff_not] at this
    unfold leftStep at this
    rw [if_pos hxw] at this
    simp only at this
    omega
  · have := h2 x y hx hy
    rw [none_two, decide_eq_false_iff_not] at this
    unfold leftStep at this
    rw [if_pos hxw, if_neg (by rw [hyw]; decide)] at this
    simp only at this
    omega
end Go.Proofs.Wk

namespace Go.Proofs.Wk
open Go Go.Gx Go.Pl
set_option linter.unusedVariables false
/-- singles first -/
theorem clash_L0 {s : Sands} (hG : Good s) {k : List Look} (hk : ∀ l, l ∈ k → lookOK s l) (hl : k.length ≤ 1000) :
    iterM FU (m_tide_Clash_1_L0 k s) 0 = some (match (List.range k.length).find? (fun i => noneT s [k.getD i default]) with | some i => .inr ⟨0, [(i : Int)]⟩ | none => .inl ()) := by
  have key := iterM_any (f := m_tide_Clash_1_L0 k s) 0 k.length (fun i => noneT s [k.getD i default]) (fun i => (⟨0, [(i : Int)]⟩ : m_tide_Clash_1_R)) (fun i hi => by
    have hm := mem_getD (d := (default : Look)) hi
    unfold m_tide_Clash_1_L0
    rw [Int.zero_add, if_pos (by omega), ix_nat default hi, Option.bind_some, none_eq hG (fun l h => by rw [List.mem_singleton.1 h]; exact hk _ hm) (by simp), Option.bind_some]
    cases noneT s [k.getD i default] with
    | true => rw [if_pos rfl]; rfl
    | false => rw [if_neg (by decide), addc_eq (by omega), Option.bind_some]; rfl) (by
    unfold m_tide_Clash_1_L0
    rw [Int.zero_add, if_neg (by omega)]) (N := FU) (FU_lt (by omega))
  rw [key]
  cases (List.range k.length).find? (fun i => noneT s [k.getD i default]) <;> rfl
/-- pairs with a given first -/
def pairT (s : Sands) (k : List Look) (i j : Nat) : Bool := !decide (k.getD i default = k.getD (i + 1 + j) default) && noneT s [k.getD i default, k.getD (i + 1 + j) default]
theorem clash_L2 {s : Sands} (hG : Good s) {k : List Look} (hk : ∀ l, l ∈ k → lookOK s l) (hl : k.length ≤ 1000) {i : Nat} (hi : i < k.length) :
    iterM FU (m_tide_Clash_1_L2 k ((i : Int) + 1) (k.getD i default) s (i : Int)) 0 = some (match (List.range (k.length - (i + 1))).find? (pairT s k i) with | some j => .inr ⟨0, [(i : Int), ((i + 1 + j : Nat) : Int)]⟩ | none => .inl ()) := by
  have hlen : (k.drop (((i : Int) + 1).toNat)).length = k.length - (i + 1) := by rw [List.length_drop]; omega
  have key := iterM_any (f := m_tide_Clash_1_L2 k ((i : Int) + 1) (k.getD i default) s (i : Int)) 0 (k.length - (i + 1)) (pairT s k i) (fun j => (⟨0, [(i : Int), ((i + 1 + j : Nat) : Int)]⟩ : m_tide_Clash_1_R)) (fun j hj => by
    have hmi := mem_getD (d := (default : Look)) hi
    have hmj := mem_getD (d := (default : Look)) (show i + 1 + j < k.length by omega)
    have hg : (k.drop (((i : Int) + 1).toNat)).getD j default = k.getD (i + 1 + j) default := by
      rw [List.getD_eq_getElem?_getD, List.getElem?_drop, List.getD_eq_getElem?_getD, show ((i : Int) + 1).toNat = i + 1 by omega]
    unfold m_tide_Clash_1_L2
    rw [Int.zero_add, if_pos (by rw [hlen]; omega), ix_nat default (by rw [hlen]; exact hj), Option.bind_some, hg]
    unfold pairT
    by_cases he : k.getD i default = k.getD (i + 1 + j) default
    · rw [if_pos he, Option.bind_some, if_neg (by decide), addc_eq (by omega), Option.bind_some, decide_eq_true he]
      rfl
    · rw [if_neg he, none_eq hG (fun l h => by
        rcases List.mem_cons.1 h with h | h
        · rw [h]; exact hk _ hmi
        · rw [List.mem_singleton.1 h]; exact hk _ hmj) (by simp), Option.bind_some, Option.bind_some, decide_eq_false he, Bool.not_false, Bool.true_and]
      cases noneT s [k.getD i default, k.getD (i + 1 + j) default] with
      | true =>
        rw [if_pos rfl, addc_eq (by omega), Option.bind_some, addc_eq (by omega), Option.bind_some, if_pos rfl]
        exact congrArg (fun z => some (Sum.inr (Sum.inr (⟨0, [(i : Int), z]⟩ : m_tide_Clash_1_R)))) (by omega)
      | false => rw [if_neg (by decide), addc_eq (by omega), Option.bind_some, if_neg (by decide)]) (by
    unfold m_tide_Clash_1_L2
    rw [Int.zero_add, if_neg (by rw [hlen]; omega)]) (N := FU) (FU_lt (by omega))
  rw [key]
  cases (List.range (k.length - (i + 1))).find? (pairT s k i) <;> rfl
end Go.Proofs.Wk

namespace Go.Proofs.Wk
open Go Go.Gx Go.Pl
set_option linter.unusedVariables false
def mateF (s : Sands) (k : List Look) (i : Nat) : Option Nat := (List.range (k.length - (i + 1))).find? (pairT s k i)
/-- pairs behind singles -/
theorem clash_L1 {s : Sands} (hG : Good s) {k : List Look} (hk : ∀ l, l ∈ k → lookOK s l) (hl : k.length ≤ 1000) :
    iterM FU (m_tide_Clash_1_L1 k s) 0 = some (match (List.range k.length).find? (fun i => (mateF s k i).isSome) with | some i => .inr ⟨0, [(i : Int), ((i + 1 + (mateF s k i).getD 0 : Nat) : Int)]⟩ | none => .inl ()) := by
  have key := iterM_any (f := m_tide_Clash_1_L1 k s) 0 k.length (fun i => (mateF s k i).isSome) (fun i => (⟨0, [(i : Int), ((i + 1 + (mateF s k i).getD 0 : Nat) : Int)]⟩ : m_tide_Clash_1_R)) (fun i hi => by
    unfold m_tide_Clash_1_L1
    rw [Int.zero_add, if_pos (by omega), ix_nat default hi, Option.bind_some, addc_eq (by omega), Option.bind_some, if_pos ⟨by omega, by omega⟩, clash_L2 hG hk hl hi, Option.bind_some]
    have e : (List.range (k.length - (i + 1))).find? (pairT s k i) = mateF s k i := rfl
    rw [e]
    cases mateF s k i with
    | none => 
      unfold oc
      simp only
      rfl
    | some j => rfl) (by
    unfold m_tide_Clash_1_L1
    rw [Int.zero_add, if_neg (by omega)]) (N := FU) (FU_lt (by omega))
  rw [key]
  cases (List.range k.length).find? (fun i => (mateF s k i).isSome) <;> rfl
/-- what Clash comes to -/
def ClashR (s : Sands) (k : List Look) : m_tide_Clash_1_R :=
  if lookedE s k ≠ 0 then ⟨lookedE s k, []⟩ else
  match (List.range k.length).find? (fun i => noneT s [k.getD i default]) with
  | some i => ⟨0, [(i : Int)]⟩
  | none => match (List.range k.length).find? (fun i => (mateF s k i).isSome) with
    | some i => ⟨0, [(i : Int), ((i + 1 + (mateF s k i).getD 0 : Nat) : Int)]⟩
    | none => ⟨6, []⟩
theorem clash_eq {s : Sands} (hS : Short s) {k : List Look} (hl : k.length ≤ 1000) (hG : lookedE s k = 0 → Good s ∧ ∀ l, l ∈ k → lookOK s l) : m_tide_Clash_1 s k = some (ClashR s k) := by
  have h1 := hS.t
  have h2 := hS.f
  have h3 := hS.s
  unfold m_tide_Clash_1 ClashR
  rw [if_pos ⟨⟨by omega, by omega, by omega⟩, by omega⟩]
  by_cases hc : lookedE s k = 0
  · obtain ⟨hG, hk⟩ := hG hc
    rw [if_pos hc, if_neg (show ¬ (lookedE s k ≠ 0) by rw [hc]; simp), clash_L0 hG hk hl, Option.bind_some]
    cases (List.range k.length).find? (fun i => noneT s [k.getD i default]) with
    | some i => rfl
    | none =>
      unfold oc
      simp only
      rw [clash_L1 hG hk hl, Option.bind_some]
      cases (List.range k.length).find? (fun i => (mateF s k i).isSome) <;> rfl
  · rw [if_neg hc, if_pos hc]
end Go.Proofs.Wk

namespace Go.Proofs.Wk
open Go Go.Gx Go.Pl
set_option linter.unusedVariables false
theorem find_first {n : Nat} {p : Nat → Bool} {i : Nat} (h : (List.range n).find? p = some i) : i < n ∧ p i = true ∧ ∀ j, j < i → p j = false := by
  rw [List.find?_range_eq_some] at h
  exact ⟨by simpa using h.2.1, h.1, fun j hj => by simpa using h.2.2 j hj⟩
end Go.Proofs.Wk

namespace Go.Proofs.Wk
open Go Go.Gx Go.Pl
set_option linter.unusedVariables false
theorem none_twice {s : Sands} (hG : Good s) {x : Look} (hx : lookOK s x) : noneT s [x, x] = noneT s [x] := by
  rw [Bool.eq_iff_iff, none_iff hG (fun l h => by simp at h; subst h; exact hx), none_iff hG (fun l h => by simp at h; subst h; exact hx)]
  simp
theorem pair_none {s : Sands} (hG : Good s) {k : List Look} (hk : ∀ l, l ∈ k → lookOK s l) (h1 : ∀ i, i < k.length → noneT s [k.getD i default] = false) {i j : Nat} (hij : i < j) (hj : j < k.length) : pairT s k i (j - (i + 1)) = noneT s [k.getD i default, k.getD j default] := by
  have e : i + 1 + (j - (i + 1)) = j := by omega
  unfold pairT
  rw [e]
  by_cases h : k.getD i default = k.getD j default
  · rw [← h, none_twice hG (hk _ (mem_getD (show i < k.length by omega))), h1 i (by omega)]
    simp
  · rw [decide_eq_false h]; simp
end Go.Proofs.Wk

namespace Go.Proofs.Wk
open Go Go.Gx Go.Pl
set_option linter.unusedVariables false
theorem none_swap {s : Sands} (hG : Good s) {x y : Look} (hx : lookOK s x) (hy : lookOK s y) : noneT s [x, y] = noneT s [y, x] := by
  have h1 : ∀ l, l ∈ [x, y] → lookOK s l := fun l h => by
    rcases List.mem_cons.1 h with h | h
    · exact h ▸ hx
    · exact (List.mem_singleton.1 h) ▸ hy
  have h2 : ∀ l, l ∈ [y, x] → lookOK s l := fun l h => by
    rcases List.mem_cons.1 h with h | h
    · exact h ▸ hy
    · exact (List.mem_singleton.1 h) ▸ hx
  rw [Bool.eq_iff_iff, none_iff hG h1, none_iff hG h2]
  refine ⟨fun h w a b c => h w a b fun l hl => c l ?_, fun h w a b c => h w a b fun l hl => c l ?_⟩ <;>
  · simp only [List.mem_cons, List.not_mem_nil, or_false] at hl ⊢
    exact hl.symm
theorem find_none {n : Nat} {p : Nat → Bool} (h : (List.range n).find? p = none) : ∀ j, j < n → p j = false := fun j hj => by
  have := List.find?_eq_none.1 h j (by simpa using hj)
  simpa using this
/-- no single and no pair clashes: nothing does -/
theorem no_clash {s : Sands} (hG : Good s) {k : List Look} (hk : ∀ l, l ∈ k → lookOK s l) (h1 : ∀ i, i < k.length → noneT s [k.getD i default] = false)
    (h2 : ∀ i j, i < j → j < k.length → noneT s [k.getD i default, k.getD j default] = false) : noneT s k = false := by
  have idx : ∀ x, x ∈ k → ∃ i, i < k.length ∧ k.getD i default = x := fun x hx => by
    obtain ⟨i, hi, he⟩ := List.getElem_of_mem hx
    exact ⟨i, hi, by rw [List.getD_eq_getElem?_getD, List.getElem?_eq_getElem hi]; exact he⟩
  refine helly hG (fun x hx => ?_) (fun x y hx hy => ?_)
  · obtain ⟨i, hi, rfl⟩ := idx x hx
    exact h1 i hi
  · obtain ⟨i, hi, rfl⟩ := idx x hx
    obtain ⟨j, hj, rfl⟩ := idx y hy
    rcases Nat.lt_trichotomy i j with h | h | h
    · exact h2 i j h hj
    · subst h; rw [none_twice hG (hk _ hx)]; exact h1 i hi
    · rw [none_swap hG (hk _ hx) (hk _ hy)]; exact h2 j i h hi
end Go.Proofs.Wk

namespace Go.Proofs.Wk
open Go Go.Gx Go.Pl
set_option linter.unusedVariables false
theorem n_bd {s : Sands} (hG : Good s) {m : Int} {p : Nat} : 0 ≤ nF s m p ∧ nF s m p ≤ allW s := by
  have := hG.lo
  have := hG.hi
  have := hG.wind
  unfold nF yesF allW
  omega
/-- the search so far -/
def AskInv (s : Sands) (st : Int × Look) (D : Int → Nat → Prop) : Prop :=
  ((∀ m p, ¬ D m p) ∧ st = (allW s + 1, ⟨0, 0, false⟩)) ∨ ∃ (m : Int) (p : Nat), D m p ∧ st = (nF s m p, ⟨m, (p : Int), true⟩) ∧ ∀ m' p', D m' p' → nF s m p ≤ nF s m' p' ∧ (nF s m' p' = nF s m p → m < m' ∨ (m = m' ∧ p ≤ p'))
theorem AskInv.step {s : Sands} (hG : Good s) {st : Int × Look} {D : Int → Nat → Prop} (h : AskInv s st D) {m : Int} {p : Nat} (hlt : ∀ m' p', D m' p' → m' < m ∨ (m' = m ∧ p' < p)) : AskInv s (askStep s m st p) (fun m' p' => D m' p' ∨ (m' = m ∧ p' = p)) := by
  have hb := n_bd hG (m := m) (p := p)
  right
  unfold askStep
  rcases h with ⟨h1, rfl⟩ | ⟨a, b, hD, rfl, hmin⟩
  · rw [if_pos (show nF s m p < allW s + 1 by omega)]
    refine ⟨m, p, .inr ⟨rfl, rfl⟩, rfl, fun m' p' h => ?_⟩
    rcases h with h | ⟨rfl, rfl⟩
    · exact (h1 _ _ h).elim
    · exact ⟨Int.le_refl _, fun _ => .inr ⟨rfl, Nat.le_refl _⟩⟩
  · by_cases hc : nF s m p < nF s a b
    · rw [if_pos hc]
      refine ⟨m, p, .inr ⟨rfl, rfl⟩, rfl, fun m' p' h => ?_⟩
      rcases h with h | ⟨rfl, rfl⟩
      · have := (hmin m' p' h).1
        exact ⟨by omega, fun he => by omega⟩
      · exact ⟨Int.le_refl _, fun _ => .inr ⟨rfl, Nat.le_refl _⟩⟩
    · rw [if_neg hc]
      refine ⟨a, b, .inl hD, rfl, fun m' p' h => ?_⟩
      rcases h with h | ⟨rfl, rfl⟩
      · exact hmin m' p' h
      · refine ⟨by omega, fun _ => ?_⟩
        rcases hlt a b hD with h2 | ⟨h2, h3⟩
        · exact .inl h2
        · exact .inr ⟨h2, by omega⟩
theorem AskInv.congr {s : Sands} {st : Int × Look} {D E : Int → Nat → Prop} (h : AskInv s st D) (he : ∀ m p, D m p ↔ E m p) : AskInv s st E := by
  have : D = E := by funext m p; exact propext (he m p)
  rw [← this]; exact h
theorem x_Looks_eq {s : Sands} {k : List Look} (hs : Short s) (hk : k.length ≤ 1000) : x_Looks s k = some (LooksR s k) := by
  have h1 := hs.t
  have h2 := hs.f
  have h3 := hs.s
  unfold x_Looks
  rw [if_pos ⟨by omega, by omega, by omega, by omega⟩]
end Go.Proofs.Wk

namespace Go.Proofs.Wk
open Go Go.Gx Go.Pl
set_option linter.unusedVariables false
theorem looked_ok {s : Sands} {k : List Look} (h : lookedE s k = 0) : Good s ∧ ∀ l, l ∈ k → lookOK s l := by
  obtain ⟨h1, h2, h3⟩ := lookedE_zero h
  refine ⟨good_of_check h1, fun l hl => ?_⟩
  obtain ⟨i, hi, he⟩ := List.getElem_of_mem hl
  have := lookE_all h3 i hi
  rw [List.getD_eq_getElem?_getD, List.getElem?_eq_getElem hi] at this
  rw [← he]; exact this
end Go.Proofs.Wk

namespace Go.Proofs.Wk
open Go Go.Gx Go.Pl
set_option linter.unusedVariables false
theorem drop_cons {l : List Int} {k : Nat} (h : k < l.length) : l.drop k = l.getD k 0 :: l.drop (k + 1) := by
  rw [List.drop_eq_getElem_cons h, List.getD_eq_getElem?_getD, List.getElem?_eq_getElem h]
  rfl
end Go.Proofs.Wk

namespace Go.Proofs.Wk
open Go Go.Gx Go.Pl
set_option linter.unusedVariables false
theorem Rch.mono {s : Sands} {sl pl : List Int} {h h' p : Int} (hh : h ≤ h') (r : Rch s sl pl h p) : Rch s sl pl h' p := by
  induction r with
  | sea => exact .sea
  | step _ hs ih => exact .step ih ⟨hs.kl, hs.jn, hs.qn, hs.sn, hs.pn, by have := hs.hh; omega, by have := hs.ff; omega⟩
theorem take_fold {α β : Type} {f : β → α → β} {z : β} {l : List α} {k : Nat} (d : α) (h : k < l.length) : (l.take (k + 1)).foldl f z = f ((l.take k).foldl f z) (l.getD k d) := by
  rw [← take_snoc d h, List.foldl_append]
  rfl
end Go.Proofs.Wk

namespace Go.Proofs.Wk
open Go Go.Gx Go.Pl
set_option linter.unusedVariables false
/-! ### what the line is -/
theorem line_eq {s : Sands} (hG : Good s) {m : Int} (hd : dayF s m = true) : m_laurellaw01_line s m = some (heightF s m) := by
  have htl := hG.tl
  obtain ⟨j, ej, hj, hm, hl, hj0⟩ := day_idx hG hd
  have hds : 0 ≤ m ∧ m ≤ 1440 := by
    have h1 := day_span hG
    have h2 := (inr_iff.1 hd)
    omega
  unfold m_laurellaw01_line
  have key : iterM FU (m_laurellaw01_line_L0 s m) 0 = some (.inr (heightF s m)) := by
    refine iterM_run (fun k => (k : Int)) j (fun k hk => ?_) ?_ FU (FU_lt (by omega))
    · have h1 := hl k hk
      unfold m_laurellaw01_line_L0
      rw [if_pos (by omega), ix_nat default (by omega)]
      simp only [Option.bind_some]
      rw [if_neg (by omega), if_neg (by omega), addc_eq (by omega)]
      simp only [Option.bind_some]
      rw [show ((k + 1 : Nat) : Int) = (k : Int) + 1 by omega]
    · unfold m_laurellaw01_line_L0
      rw [if_pos (by omega), ix_nat default hj]
      simp only [Option.bind_some]
      by_cases he : (s.table.getD j default).min = m
      · rw [if_pos he, height_eq hj hl he]
      · have hj1 : j ≠ 0 := fun h => he (hj0 h)
        have h2 := hl (j - 1) (by omega)
        have ha := hG.tab (j - 1) (by omega)
        have hb := hG.tab j hj
        rw [if_neg he, if_pos (by omega), subc_eq (by omega)]
        simp only [Option.bind_some]
        rw [show ((j : Nat) : Int) - 1 = ((j - 1 : Nat) : Int) by omega, ix_nat default (by omega)]
        simp only [Option.bind_some]
        have hlt := line_tight ⟨h2, show m < (s.table.getD j default).min by omega⟩ ha.2 hb.2
        rw [height_line hG hj hl (by omega) hj1]
        unfold lineAt at hlt ⊢
        generalize s.table.getD (j - 1) default = v at *
        generalize s.table.getD j default = u at *
        have e37 : subc u.min v.min = some (u.min - v.min) := subc_eq (by omega)
        have e46 : subc u.h v.h = some (u.h - v.h) := subc_eq (by omega)
        have e50 : subc m v.min = some (m - v.min) := subc_eq (by omega)
        simp only [e37, e46, e50, Option.bind_some]
        generalize hN : u.min - v.min = N at *
        generalize hT : m - v.min = t at *
        have hNN : 0 < N ∧ N ≤ 1440 := by omega
        have htt : 0 ≤ t ∧ t ≤ 1440 := by omega
        have b1 : 0 ≤ v.h * N := Int.mul_nonneg (by omega) (by omega)
        have b2 : v.h * N ≤ 999 * 1440 := Int.le_trans (Int.mul_le_mul_of_nonneg_right (show v.h ≤ 999 by omega) (by omega)) (Int.mul_le_mul_of_nonneg_left (by omega) (by omega))
        have b3 : (u.h - v.h) * t ≤ 999 * 1440 := Int.le_trans (Int.mul_le_mul_of_nonneg_right (show u.h - v.h ≤ 999 by omega) (by omega)) (Int.mul_le_mul_of_nonneg_left (by omega) (by omega))
        have b4 : -(999 * 1440) ≤ (u.h - v.h) * t := by
          have h1 : (-999) * t ≤ (u.h - v.h) * t := Int.mul_le_mul_of_nonneg_right (by omega) (by omega)
          omega
        have e41 : mulc v.h N = some (v.h * N) := mulc_eq (by omega)
        have e51 : mulc (u.h - v.h) t = some ((u.h - v.h) * t) := mulc_eq (by omega)
        have e52 : addc (v.h * N) ((u.h - v.h) * t) = some (v.h * N + (u.h - v.h) * t) := addc_eq (by omega)
        have e54 : mulc 1000 N = some (1000 * N) := mulc_eq (by omega)
        have e55 : addc (v.h * N + (u.h - v.h) * t) (1000 * N) = some (v.h * N + (u.h - v.h) * t + 1000 * N) := addc_eq (by omega)
        have e57 : quoc (v.h * N + (u.h - v.h) * t + 1000 * N) N = some ((v.h * N + (u.h - v.h) * t + 1000 * N).tdiv N) := quoc_eq (by omega) (by omega)
        have e58 : subc ((v.h * N + (u.h - v.h) * t + 1000 * N).tdiv N) 1000 = some ((v.h * N + (u.h - v.h) * t + 1000 * N).tdiv N - 1000) := subc_eq (by omega)
        simp only [e41, e51, e52, e54, e55, e57, e58, Option.bind_some]
  rw [key]
  rfl
end Go.Proofs.Wk

namespace Go.Proofs.Wk
open Go Go.Fw Go.Gx Go.Pl
set_option linter.unusedVariables false

structure m_laurellaw01_gates_S0 where
  t16 : Int
  t13 : (List Int)
def m_laurellaw01_gates_L0 (t13 : (List Int)) (s : m_laurellaw01_gates_S0) : Option (m_laurellaw01_gates_S0 ⊕ (List Int)) :=
 if s.t16 < (t13.length : Int) then
 ((ix s.t13 s.t16).bind fun t21 =>
 (some (s.t13.set (Int.toNat s.t16) 1000000)).bind fun t13_1 =>
 (addc s.t16 1).bind fun t22 =>
 some (.inl (⟨t22, t13_1⟩ : m_laurellaw01_gates_S0))) else
 (some (.inr s.t13))
structure m_laurellaw01_gates_S1 where
  t23 : Int
  t13 : (List Int)
structure m_laurellaw01_gates_S2 where
  t29 : Int
  t13 : (List Int)
structure m_laurellaw01_gates_S3 where
  t34 : Int
  t13 : (List Int)
structure m_laurellaw01_gates_S4 where
  t48 : Int
  t13 : (List Int)
def m_laurellaw01_gates_L4 (t36 : Sill) (s_1 : m_laurellaw01_gates_S1) (s0 : Sands) (s_4 : m_laurellaw01_gates_S4) : Option (m_laurellaw01_gates_S4 ⊕ (List Int)) :=
 if s_4.t48 < ([(⟨t36.a, t36.b, t36.h⟩ : Sill), (⟨t36.b, t36.a, t36.h⟩ : Sill)].length : Int) then
 (((ix [(⟨t36.a, t36.b, t36.h⟩ : Sill), (⟨t36.b, t36.a, t36.h⟩ : Sill)] s_4.t48).bind fun t50 =>
 (if t50.h ≤ s_1.t23 then
 (if t50.b = (-1) then
 (some false) else
 ((ix s0.floors t50.b).bind fun t66 =>
 if t66 ≤ s_1.t23 then
 (if t50.a = (-1) then
 (some true) else
 ((ix s_4.t13 t50.a).bind fun t79 =>
 some (decide (t79 ≤ s_1.t23)))) else
 (some false))) else
 (some false)).bind fun o_6 =>
 if o_6 = true then
 ((ix s_4.t13 t50.b).bind fun t91 =>
 (ix s_4.t13 t50.b).bind fun t95 =>
 (some (s_4.t13.set (Int.toNat t50.b) (min t91 s_1.t23))).bind fun t13_2 =>
 some t13_2) else
 (some s_4.t13)).bind fun o_5 =>
 (addc s_4.t48 1).bind fun t96 =>
 some (.inl (⟨t96, o_5⟩ : m_laurellaw01_gates_S4))) else
 (some (.inr s_4.t13))
def m_laurellaw01_gates_L3 (s0 : Sands) (s_1 : m_laurellaw01_gates_S1) (s_3 : m_laurellaw01_gates_S3) : Option (m_laurellaw01_gates_S3 ⊕ (List Int)) :=
 if s_3.t34 < (s0.sills.length : Int) then
 ((ix s0.sills s_3.t34).bind fun t36 =>
 (iterM FU (m_laurellaw01_gates_L4 t36 s_1 s0) (⟨0, s_3.t13⟩ : m_laurellaw01_gates_S4)).bind fun o_4 =>
 (addc s_3.t34 1).bind fun t97 =>
 some (.inl (⟨t97, o_4⟩ : m_laurellaw01_gates_S3))) else
 (some (.inr s_3.t13))
def m_laurellaw01_gates_L2 (s0 : Sands) (s_1 : m_laurellaw01_gates_S1) (s_2 : m_laurellaw01_gates_S2) : Option (m_laurellaw01_gates_S2 ⊕ (List Int)) :=
 if s_2.t29 < (s0.floors.length : Int) then
 ((iterM FU (m_laurellaw01_gates_L3 s0 s_1) (⟨0, s_2.t13⟩ : m_laurellaw01_gates_S3)).bind fun o_3 =>
 (addc s_2.t29 1).bind fun t98 =>
 some (.inl (⟨t98, o_3⟩ : m_laurellaw01_gates_S2))) else
 (some (.inr s_2.t13))
def m_laurellaw01_gates_L1 (s0 : Sands) (s_1 : m_laurellaw01_gates_S1) : Option (m_laurellaw01_gates_S1 ⊕ (List Int)) :=
 if s_1.t23 < 1000 then
 ((iterM FU (m_laurellaw01_gates_L2 s0 s_1) (⟨0, s_1.t13⟩ : m_laurellaw01_gates_S2)).bind fun o_2 =>
 if 60 < s_1.t23 then
 (some (.inr o_2)) else
 ((addc s_1.t23 1).bind fun t101 =>
 some (.inl (⟨t101, o_2⟩ : m_laurellaw01_gates_S1)))) else
 (some (.inr s_1.t13))
def m_laurellaw01_gates (s0 : Sands) : Option (List Int) :=
 (makec 8 0 (s0.floors.length : Int) (s0.floors.length : Int)).bind fun t13 =>
 (iterM FU (m_laurellaw01_gates_L0 t13) (⟨0, t13⟩ : m_laurellaw01_gates_S0)).bind fun o =>
 (iterM FU (m_laurellaw01_gates_L1 s0) (⟨0, o⟩ : m_laurellaw01_gates_S1)).bind fun o_1 =>
 some o_1
set_option maxRecDepth 100000 in
set_option maxHeartbeats 4000000 in
theorem c_laurellaw01_gates (s0 : Sands) (qa0 : Option Addr) (na0 ca0 : Nat) (qa1 : Option Addr) (na1 ca1 : Nat) (qa2 : Option Addr) (na2 ca2 : Nat) (w : World) (hw : HV w (keys [] []) [] [] [(aB qa0, aO qa0, RW.enc s0.table), (aB qa1, aO qa1, RI.enc s0.floors), (aB qa2, aO qa2, RS.enc s0.sills)] w) (hna0 : s0.table.length = na0) (hqa0 : AOK na0 qa0) (hla0 : na0 ≤ ca0) (hna1 : s0.floors.length = na1) (hqa1 : AOK na1 qa1) (hla1 : na1 ≤ ca1) (hna2 : s0.sills.length = na2) (hqa2 : AOK na2 qa2) (hla2 : na2 ≤ ca2) {res : (List Int)} (hm : m_laurellaw01_gates s0 = some res) :
    Calls Try.prog 21 #[.agg #[.slice qa0 na0 ca0, .int .i64 s0.wind.lo, .int .i64 s0.wind.hi, .slice qa1 na1 ca1, .slice qa2 na2 ca2]] w (fun en w' => ∃ l : VL, en = .returned (slv l.q l.n l.cap) ∧ (VOK 1 l.n l.cap (RI.enc res) l.sp l.q) ∧ HV w (keys [] []) [] [⟨3, RI.enc res, l.sp, l.q⟩] [] w') := by
  unfold m_laurellaw01_gates at hm
  refine g_enter (args := [.agg #[.slice qa0 na0 ca0, .int .i64 s0.wind.lo, .int .i64 s0.wind.hi, .slice qa1 na1 ca1, .slice qa2 na2 ca2]]) Try.func21 rfl Try.ntmps21 rfl (e := [(0, _)]) rfl (H := HV w (keys [] []) [] [] [(aB qa0, aO qa0, RW.enc s0.table), (aB qa1, aO qa1, RI.enc s0.floors), (aB qa2, aO qa2, RS.enc s0.sills)]) hw ?_
  refine g_seq ?_
  refine g_region ?_
  refine g_boxV rfl rfl (fun b h2 => ?_)
  refine g_val rfl rfl rfl (fun _ _ => v_nilS rfl) ?_
  refine g_nil ?_
  refine g_n_then ?_
  refine g_seq ?_
  refine g_region ?_
  refine g_val rfl rfl rfl (fun w _ => v_fieldAddr 3 (Try.runUnderlying29 w) rfl (Try.sizeOf26 w) rfl) ?_
  refine g_val rfl rfl rfl (fun w hh => v_load (Try.isAgg26 w) rfl (hh.cell 0 rfl rfl)) ?_
  refine g_val rfl rfl rfl (fun w _ => v_lenR hna1 (Try.runUnderlying26 w) rfl) ?_
  obtain ⟨t13, h3, hm⟩ := bindO hm
  refine g_vmake RI 0 h3 Try.underlying26 gxinf3 rfl rfl rfl rfl rfl (fun L h4 => ?_)
  refine g_val rfl rfl rfl (fun _ _ => v_assign rfl) ?_
  refine g_nil ?_
  refine g_n_then ?_
  refine g_seq ?_
  refine g_seq ?_
  refine g_region ?_
  refine g_val rfl rfl rfl (fun _ _ => v_move rfl) ?_
  refine g_val rfl rfl rfl (fun w _ => v_lenN (vlen RI h4 rfl) (Try.runUnderlying26 w) rfl) ?_
  refine g_val rfl rfl rfl (fun _ _ => v_move rfl) ?_
  refine g_nil ?_
  refine g_n_then ?_
  obtain ⟨o, h5, h6⟩ := bindO hm
  refine g_cut (ι := Unit) (fun l => VOK 1 L.n L.cap (RI.enc o) L.sp L.q) (fun l => [(1, ptr b 0), (3, slv L.q L.n L.cap)]) (fun l => [(b, .cells #[.slice qa0 na0 ca0, .int .i64 s0.wind.lo, .int .i64 s0.wind.hi, .slice qa1 na1 ca1, .slice qa2 na2 ca2] 29 (0, 0))]) (fun l => [⟨3, RI.enc o, L.sp, L.q⟩]) ?_ ?_
  ·replace hm := h5
   refine g_block ?_
   refine g_loopF (ι := Unit) hm (fun s l_1 => VOK 1 L.n L.cap (RI.enc s.t13) L.sp L.q) (fun s l_1 => [(1, ptr b 0), (3, slv L.q L.n L.cap), (15, .int .i64 (t13.length : Int)), (16, .int .i64 s.t16)]) (fun s l_1 => [(b, .cells #[.slice qa0 na0 ca0, .int .i64 s0.wind.lo, .int .i64 s0.wind.hi, .slice qa1 na1 ca1, .slice qa2 na2 ca2] 29 (0, 0))]) (fun s l_1 => [⟨3, RI.enc s.t13, L.sp, L.q⟩]) () (h4) ((.cons rfl (.cons rfl (.cons rfl (.cons rfl .nil))))) (fun w hh => hh) (fun s l_1 r hpl hm h9 => ?_)
   have h8 := hpl
   unfold m_laurellaw01_gates_L0 at hm
   refine g_seq ?_
   refine g_region ?_
   refine g_val rfl rfl rfl (fun _ _ => v_lss rfl rfl) ?_
   refine g_nil ?_
   refine g_n_then ?_
   refine g_seq ?_
   refine g_cond rfl (fun h10 => ?_) (fun h10 => ?_)
   ·replace hm := ifT (of_decide_eq_true h10) hm
    refine g_skip ?_
    refine g_n_then ?_
    refine g_seq ?_
    refine g_block ?_
    refine g_seq ?_
    refine g_region ?_
    refine g_val rfl rfl rfl (fun _ _ => v_move rfl) ?_
    refine g_val rfl rfl rfl (fun _ _ => v_assign rfl) ?_
    refine g_nil ?_
    refine g_n_then ?_
    refine g_region ?_
    refine g_val rfl rfl rfl (fun _ _ => v_move rfl) ?_
    refine g_val rfl rfl rfl (fun _ _ => v_move rfl) ?_
    obtain ⟨t21, h11, hm⟩ := bindO hm
    refine g_val rfl rfl rfl (fun w _ => v_ixA h11 (Try.runUnderlying26 w) (Try.sizeOf3 w) rfl rfl (vlen RI h8 rfl) (vne h8)) ?_
    obtain ⟨t13_1, ht13_1, hm⟩ := bindO hm
    refine g_vst RI 0 0 1000000 (fun w => Try.sizeOf3 w) rfl rfl rfl rfl h8 rfl (Nat.add_zero _).symm rfl h11 rfl rfl (Option.some.inj ht13_1) (fun h12 => ?_)
    refine g_sel (S' := [_]) (vs' := [_]) [0] [0] 0 (by decide) (by decide) rfl rfl rfl ?_
    refine g_nil ?_
    refine g_n_blk ?_
    refine g_n_then ?_
    refine g_region ?_
    obtain ⟨t22, h13, hm⟩ := bindO hm
    refine g_val rfl rfl rfl (fun _ _ => v_addc h13 rfl rfl) ?_
    refine g_val rfl rfl rfl (fun _ _ => v_move rfl) ?_
    refine g_nil ?_
    obtain rfl := Option.some.inj hm
    refine g_n_then ?_
    exact g_again' _ () rfl (h12) ((.cons rfl (.cons rfl (.cons rfl (.cons rfl .nil))))) (fun w hh => hh)
   ·replace hm := ifF (of_decide_eq_false h10) hm
    refine g_exit ?_
    refine g_x_then ?_
    refine g_x_then ?_
    refine g_x_blk ?_
    obtain rfl := Option.some.inj hm
    have hbo := h9 _ rfl
    subst hbo
    exact g_leaf () (h8) ((.cons rfl (.cons rfl .nil))) (fun w hh => hh)
  ·intro l hj
   have h7 := hj
   replace hm := h6
   refine g_n_then ?_
   refine g_seq ?_
   refine g_seq ?_
   refine g_region ?_
   refine g_val rfl rfl rfl (fun _ _ => v_move rfl) ?_
   refine g_nil ?_
   refine g_n_then ?_
   obtain ⟨o_1, h14, h15⟩ := bindO hm
   refine g_cut (ι := Unit) (fun l_2 => VOK 1 L.n L.cap (RI.enc o_1) L.sp L.q) (fun l_2 => [(3, slv L.q L.n L.cap)]) (fun l_2 => [(b, .cells #[.slice qa0 na0 ca0, .int .i64 s0.wind.lo, .int .i64 s0.wind.hi, .slice qa1 na1 ca1, .slice qa2 na2 ca2] 29 (0, 0))]) (fun l_2 => [⟨3, RI.enc o_1, L.sp, L.q⟩]) ?_ ?_
   ·replace hm := h14
    refine g_block ?_
    refine g_loopF (ι := Unit) hm (fun s_1 l_3 => VOK 1 L.n L.cap (RI.enc s_1.t13) L.sp L.q) (fun s_1 l_3 => [(1, ptr b 0), (3, slv L.q L.n L.cap), (23, .int .i64 s_1.t23)]) (fun s_1 l_3 => [(b, .cells #[.slice qa0 na0 ca0, .int .i64 s0.wind.lo, .int .i64 s0.wind.hi, .slice qa1 na1 ca1, .slice qa2 na2 ca2] 29 (0, 0))]) (fun s_1 l_3 => [⟨3, RI.enc s_1.t13, L.sp, L.q⟩]) () (h7) ((.cons rfl (.cons rfl (.cons rfl .nil)))) (fun w hh => hh) (fun s_1 l_3 r_1 hpl hm h18 => ?_)
    have h17 := hpl
    unfold m_laurellaw01_gates_L1 at hm
    refine g_seq ?_
    refine g_region ?_
    refine g_val rfl rfl rfl (fun _ _ => v_lss rfl rfl) ?_
    refine g_nil ?_
    refine g_n_then ?_
    refine g_seq ?_
    refine g_cond rfl (fun h19 => ?_) (fun h19 => ?_)
    ·replace hm := ifT (of_decide_eq_true h19) hm
     refine g_skip ?_
     refine g_n_then ?_
     refine g_seq ?_
     refine g_block ?_
     refine g_seq ?_
     refine g_region ?_
     refine g_val rfl rfl rfl (fun _ _ => v_move rfl) ?_
     refine g_val rfl rfl rfl (fun _ _ => v_assign rfl) ?_
     refine g_nil ?_
     refine g_n_then ?_
     refine g_seq ?_
     refine g_seq ?_
     refine g_region ?_
     refine g_val rfl rfl rfl (fun w _ => v_fieldAddr 3 (Try.runUnderlying29 w) rfl (Try.sizeOf26 w) rfl) ?_
     refine g_val rfl rfl rfl (fun w hh => v_load (Try.isAgg26 w) rfl (hh.cell 0 rfl rfl)) ?_
     refine g_val rfl rfl rfl (fun w _ => v_lenR hna1 (Try.runUnderlying26 w) rfl) ?_
     refine g_val rfl rfl rfl (fun _ _ => v_move rfl) ?_
     refine g_nil ?_
     refine g_n_then ?_
     obtain ⟨o_2, h20, h21⟩ := bindO hm
     refine g_cut (ι := Unit) (fun l_4 => VOK 1 L.n L.cap (RI.enc o_2) L.sp L.q) (fun l_4 => [(1, ptr b 0), (3, slv L.q L.n L.cap), (5, .int .i64 s_1.t23), (23, .int .i64 s_1.t23)]) (fun l_4 => [(b, .cells #[.slice qa0 na0 ca0, .int .i64 s0.wind.lo, .int .i64 s0.wind.hi, .slice qa1 na1 ca1, .slice qa2 na2 ca2] 29 (0, 0))]) (fun l_4 => [⟨3, RI.enc o_2, L.sp, L.q⟩]) ?_ ?_
     ·replace hm := h20
      refine g_block ?_
      refine g_loopF (ι := Unit) hm (fun s_2 l_5 => VOK 1 L.n L.cap (RI.enc s_2.t13) L.sp L.q) (fun s_2 l_5 => [(1, ptr b 0), (3, slv L.q L.n L.cap), (5, .int .i64 s_1.t23), (23, .int .i64 s_1.t23), (28, .int .i64 (s0.floors.length : Int)), (29, .int .i64 s_2.t29)]) (fun s_2 l_5 => [(b, .cells #[.slice qa0 na0 ca0, .int .i64 s0.wind.lo, .int .i64 s0.wind.hi, .slice qa1 na1 ca1, .slice qa2 na2 ca2] 29 (0, 0))]) (fun s_2 l_5 => [⟨3, RI.enc s_2.t13, L.sp, L.q⟩]) () (h17) ((.cons rfl (.cons rfl (.cons rfl (.cons rfl (.cons rfl (.cons rfl .nil))))))) (fun w hh => hh) (fun s_2 l_5 r_2 hpl hm h24 => ?_)
      have h23 := hpl
      unfold m_laurellaw01_gates_L2 at hm
      refine g_seq ?_
      refine g_region ?_
      refine g_val rfl rfl rfl (fun _ _ => v_lss rfl rfl) ?_
      refine g_nil ?_
      refine g_n_then ?_
      refine g_seq ?_
      refine g_cond rfl (fun h25 => ?_) (fun h25 => ?_)
      ·replace hm := ifT (of_decide_eq_true h25) hm
       refine g_skip ?_
       refine g_n_then ?_
       refine g_seq ?_
       refine g_block ?_
       refine g_seq ?_
       refine g_region ?_
       refine g_val rfl rfl rfl (fun w _ => v_fieldAddr 4 (Try.runUnderlying29 w) rfl (Try.sizeOf27 w) rfl) ?_
       refine g_val rfl rfl rfl (fun w hh => v_load (Try.isAgg27 w) rfl (hh.cell 0 rfl rfl)) ?_
       refine g_val rfl rfl rfl (fun w _ => v_lenR hna2 (Try.runUnderlying27 w) rfl) ?_
       refine g_val rfl rfl rfl (fun _ _ => v_move rfl) ?_
       refine g_nil ?_
       refine g_n_then ?_
       obtain ⟨o_3, h26, h27⟩ := bindO hm
       refine g_cut (ι := Unit) (fun l_6 => VOK 1 L.n L.cap (RI.enc o_3) L.sp L.q) (fun l_6 => [(1, ptr b 0), (3, slv L.q L.n L.cap), (5, .int .i64 s_1.t23), (23, .int .i64 s_1.t23), (28, .int .i64 (s0.floors.length : Int)), (29, .int .i64 s_2.t29)]) (fun l_6 => [(b, .cells #[.slice qa0 na0 ca0, .int .i64 s0.wind.lo, .int .i64 s0.wind.hi, .slice qa1 na1 ca1, .slice qa2 na2 ca2] 29 (0, 0))]) (fun l_6 => [⟨3, RI.enc o_3, L.sp, L.q⟩]) ?_ ?_
       ·replace hm := h26
        refine g_block ?_
        refine g_loopF (ι := Unit) hm (fun s_3 l_7 => VOK 1 L.n L.cap (RI.enc s_3.t13) L.sp L.q) (fun s_3 l_7 => [(1, ptr b 0), (3, slv L.q L.n L.cap), (5, .int .i64 s_1.t23), (23, .int .i64 s_1.t23), (28, .int .i64 (s0.floors.length : Int)), (29, .int .i64 s_2.t29), (32, .slice qa2 na2 ca2), (33, .int .i64 (s0.sills.length : Int)), (34, .int .i64 s_3.t34)]) (fun s_3 l_7 => [(b, .cells #[.slice qa0 na0 ca0, .int .i64 s0.wind.lo, .int .i64 s0.wind.hi, .slice qa1 na1 ca1, .slice qa2 na2 ca2] 29 (0, 0))]) (fun s_3 l_7 => [⟨3, RI.enc s_3.t13, L.sp, L.q⟩]) () (h23) ((.cons rfl (.cons rfl (.cons rfl (.cons rfl (.cons rfl (.cons rfl (.cons rfl (.cons rfl (.cons rfl .nil)))))))))) (fun w hh => hh) (fun s_3 l_7 r_3 hpl hm h30 => ?_)
        have h29 := hpl
        unfold m_laurellaw01_gates_L3 at hm
        refine g_seq ?_
        refine g_region ?_
        refine g_val rfl rfl rfl (fun _ _ => v_lss rfl rfl) ?_
        refine g_nil ?_
        refine g_n_then ?_
        refine g_seq ?_
        refine g_cond rfl (fun h31 => ?_) (fun h31 => ?_)
        ·replace hm := ifT (of_decide_eq_true h31) hm
         refine g_skip ?_
         refine g_n_then ?_
         refine g_seq ?_
         refine g_block ?_
         refine g_seq ?_
         refine g_region ?_
         obtain ⟨t36, h32, hm⟩ := bindO hm
         refine g_val rfl rfl rfl (fun w _ => v_ixR h32 (Try.runUnderlying27 w) (Try.sizeOf51 w) rfl rfl hna2 hqa2) ?_
         refine g_val rfl rfl rfl (fun w hh => v_ldEA RS 0 [.int .i64 t36.a, .int .i64 t36.b, .int .i64 t36.h] h32 (Try.isAgg51 w) (Try.sizeOf51 w) rfl (hh.seg 2 rfl) rfl (Nat.add_zero _).symm) ?_
         refine g_allocV (fun w => Try.zeroValue51 w) rfl (fun b_1 h33 => ?_)
         refine g_stSA (us := #[_, _, _]) (cs' := [_, _, _]) (S' := [_, _]) 0 (fun w => Try.sizeOf51 w) rfl rfl rfl rfl rfl rfl rfl ?_
         refine g_nil ?_
         refine g_n_then ?_
         refine g_seq ?_
         refine g_region ?_
         refine g_val rfl rfl rfl (fun w hh => v_loadAgg (vs := [_, _, _]) (Try.isAgg51 w) (Try.sizeOf51 w) rfl (hh.cells 0 rfl rfl)) ?_
         refine g_val rfl rfl rfl (fun w _ => v_fieldAddr 1 (Try.runUnderlying51 w) rfl (Try.sizeOf3 w) rfl) ?_
         refine g_val rfl rfl rfl (fun w hh => v_load (Try.isAgg3 w) rfl (hh.cell 0 rfl rfl)) ?_
         refine g_val rfl rfl rfl (fun w _ => v_fieldAddr 0 (Try.runUnderlying51 w) rfl (Try.sizeOf3 w) rfl) ?_
         refine g_val rfl rfl rfl (fun w hh => v_load (Try.isAgg3 w) rfl (hh.cell 0 rfl rfl)) ?_
         refine g_val rfl rfl rfl (fun w _ => v_fieldAddr 2 (Try.runUnderlying51 w) rfl (Try.sizeOf3 w) rfl) ?_
         refine g_val rfl rfl rfl (fun w hh => v_load (Try.isAgg3 w) rfl (hh.cell 0 rfl rfl)) ?_
         refine g_val rfl rfl rfl (fun _ _ => v_build (vs := [(0, _), (1, _), (2, _)]) (cells := [_, _, _]) rfl rfl) ?_
         refine g_vlit RS [(⟨t36.a, t36.b, t36.h⟩ : Sill), (⟨t36.b, t36.a, t36.h⟩ : Sill)] (ps := [(0, _), (1, _)]) (cells := [_, _, _, _, _, _]) (fun w => Try.runUnderlying27 w) (fun w => Try.sizeOf51 w) (fun w => Try.zeroValue51 w) rfl rfl rfl rfl rfl rfl rfl rfl (fun L_1 h34 => ?_)
         refine g_val rfl rfl rfl (fun w _ => v_lenN (vlen RS h34 rfl) (Try.runUnderlying27 w) rfl) ?_
         refine g_val rfl rfl rfl (fun _ _ => v_move rfl) ?_
         refine g_nil ?_
         refine g_n_then ?_
         obtain ⟨o_4, h35, h36⟩ := bindO hm
         refine g_cut (ι := Unit) (fun l_8 => VOK 1 L.n L.cap (RI.enc o_4) L.sp L.q) (fun l_8 => [(1, ptr b 0), (3, slv L.q L.n L.cap), (5, .int .i64 s_1.t23), (23, .int .i64 s_1.t23), (28, .int .i64 (s0.floors.length : Int)), (29, .int .i64 s_2.t29), (32, .slice qa2 na2 ca2), (33, .int .i64 (s0.sills.length : Int)), (34, .int .i64 s_3.t34)]) (fun l_8 => [(b_1, .cells #[.int .i64 t36.a, .int .i64 t36.b, .int .i64 t36.h] 51 (0, 0)), (b, .cells #[.slice qa0 na0 ca0, .int .i64 s0.wind.lo, .int .i64 s0.wind.hi, .slice qa1 na1 ca1, .slice qa2 na2 ca2] 29 (0, 0))]) (fun l_8 => [⟨3, RI.enc o_4, L.sp, L.q⟩]) ?_ ?_
         ·replace hm := h35
          refine g_block ?_
          refine g_loopF (ι := Unit) hm (fun s_4 l_9 => VOK 1 L.n L.cap (RI.enc s_4.t13) L.sp L.q) (fun s_4 l_9 => [(1, ptr b 0), (3, slv L.q L.n L.cap), (5, .int .i64 s_1.t23), (23, .int .i64 s_1.t23), (28, .int .i64 (s0.floors.length : Int)), (29, .int .i64 s_2.t29), (32, .slice qa2 na2 ca2), (33, .int .i64 (s0.sills.length : Int)), (34, .int .i64 s_3.t34), (46, slv L_1.q L_1.n L_1.cap), (47, .int .i64 ([(⟨t36.a, t36.b, t36.h⟩ : Sill), (⟨t36.b, t36.a, t36.h⟩ : Sill)].length : Int)), (48, .int .i64 s_4.t48)]) (fun s_4 l_9 => [(b_1, .cells #[.int .i64 t36.a, .int .i64 t36.b, .int .i64 t36.h] 51 (0, 0)), (b, .cells #[.slice qa0 na0 ca0, .int .i64 s0.wind.lo, .int .i64 s0.wind.hi, .slice qa1 na1 ca1, .slice qa2 na2 ca2] 29 (0, 0))]) (fun s_4 l_9 => [⟨3, RI.enc s_4.t13, L.sp, L.q⟩, ⟨51, RS.enc [(⟨t36.a, t36.b, t36.h⟩ : Sill), (⟨t36.b, t36.a, t36.h⟩ : Sill)], L_1.sp, L_1.q⟩]) () (h29) ((.cons rfl (.cons rfl (.cons rfl (.cons rfl (.cons rfl (.cons rfl (.cons rfl (.cons rfl (.cons rfl (.cons rfl (.cons rfl (.cons rfl .nil))))))))))))) (fun w hh => hh.sel [0, 1] [1, 0] 0 (by decide) (by decide) rfl rfl rfl) (fun s_4 l_9 r_4 hpl hm h39 => ?_)
          have h38 := hpl
          unfold m_laurellaw01_gates_L4 at hm
          refine g_seq ?_
          refine g_region ?_
          refine g_val rfl rfl rfl (fun _ _ => v_lss rfl rfl) ?_
          refine g_nil ?_
          refine g_n_then ?_
          refine g_seq ?_
          refine g_cond rfl (fun h40 => ?_) (fun h40 => ?_)
          ·replace hm := ifT (of_decide_eq_true h40) hm
           refine g_skip ?_
           refine g_n_then ?_
           refine g_seq ?_
           obtain ⟨o_5, h41, h42⟩ := bindO hm
           refine g_cut (ι := Unit) (fun l_10 => VOK 1 L.n L.cap (RI.enc o_5) L.sp L.q) (fun l_10 => [(1, ptr b 0), (3, slv L.q L.n L.cap), (5, .int .i64 s_1.t23), (23, .int .i64 s_1.t23), (28, .int .i64 (s0.floors.length : Int)), (29, .int .i64 s_2.t29), (32, .slice qa2 na2 ca2), (33, .int .i64 (s0.sills.length : Int)), (34, .int .i64 s_3.t34), (46, slv L_1.q L_1.n L_1.cap), (47, .int .i64 ([(⟨t36.a, t36.b, t36.h⟩ : Sill), (⟨t36.b, t36.a, t36.h⟩ : Sill)].length : Int)), (48, .int .i64 s_4.t48)]) (fun l_10 => [(b_1, .cells #[.int .i64 t36.a, .int .i64 t36.b, .int .i64 t36.h] 51 (0, 0)), (b, .cells #[.slice qa0 na0 ca0, .int .i64 s0.wind.lo, .int .i64 s0.wind.hi, .slice qa1 na1 ca1, .slice qa2 na2 ca2] 29 (0, 0))]) (fun l_10 => [⟨3, RI.enc o_5, L.sp, L.q⟩, ⟨51, RS.enc [(⟨t36.a, t36.b, t36.h⟩ : Sill), (⟨t36.b, t36.a, t36.h⟩ : Sill)], L_1.sp, L_1.q⟩]) ?_ ?_
           ·replace hm := h41
            refine g_block ?_
            refine g_seq ?_
            refine g_region ?_
            obtain ⟨t50, h44, hm⟩ := bindO hm
            refine g_val rfl rfl rfl (fun w _ => v_ixA h44 (Try.runUnderlying27 w) (Try.sizeOf51 w) rfl rfl (vlen RS h34 rfl) (vne h34)) ?_
            refine g_val rfl rfl rfl (fun w hh => v_ldEA RS 0 [.int .i64 t50.a, .int .i64 t50.b, .int .i64 t50.h] h44 (Try.isAgg51 w) (Try.sizeOf51 w) rfl (hh.vseg 1 rfl h34) rfl (Nat.add_zero _).symm) ?_
            refine g_allocV (fun w => Try.zeroValue51 w) rfl (fun b_2 h45 => ?_)
            refine g_stSA (us := #[_, _, _]) (cs' := [_, _, _]) (S' := [_, _, _]) 0 (fun w => Try.sizeOf51 w) rfl rfl rfl rfl rfl rfl rfl ?_
            refine g_nil ?_
            refine g_n_then ?_
            refine g_seq ?_
            obtain ⟨o_6, h46, h47⟩ := bindO hm
            refine g_cut (ι := Unit) (fun l_11 => True) (fun l_11 => [(1, ptr b 0), (3, slv L.q L.n L.cap), (5, .int .i64 s_1.t23), (9, ptr b_2 0), (23, .int .i64 s_1.t23), (28, .int .i64 (s0.floors.length : Int)), (29, .int .i64 s_2.t29), (32, .slice qa2 na2 ca2), (33, .int .i64 (s0.sills.length : Int)), (34, .int .i64 s_3.t34), (46, slv L_1.q L_1.n L_1.cap), (47, .int .i64 ([(⟨t36.a, t36.b, t36.h⟩ : Sill), (⟨t36.b, t36.a, t36.h⟩ : Sill)].length : Int)), (48, .int .i64 s_4.t48), (84, .bool o_6)]) (fun l_11 => [(b_2, .cells #[.int .i64 t50.a, .int .i64 t50.b, .int .i64 t50.h] 51 (0, 0)), (b_1, .cells #[.int .i64 t36.a, .int .i64 t36.b, .int .i64 t36.h] 51 (0, 0)), (b, .cells #[.slice qa0 na0 ca0, .int .i64 s0.wind.lo, .int .i64 s0.wind.hi, .slice qa1 na1 ca1, .slice qa2 na2 ca2] 29 (0, 0))]) (fun l_11 => [⟨3, RI.enc s_4.t13, L.sp, L.q⟩, ⟨51, RS.enc [(⟨t36.a, t36.b, t36.h⟩ : Sill), (⟨t36.b, t36.a, t36.h⟩ : Sill)], L_1.sp, L_1.q⟩]) ?_ ?_
            ·replace hm := h46
             refine g_region ?_
             refine g_val rfl rfl rfl (fun w _ => v_fieldAddr 2 (Try.runUnderlying51 w) rfl (Try.sizeOf3 w) rfl) ?_
             refine g_val rfl rfl rfl (fun w hh => v_load (Try.isAgg3 w) rfl (hh.cell 0 rfl rfl)) ?_
             refine g_val rfl rfl rfl (fun _ _ => v_move rfl) ?_
             refine g_val rfl rfl rfl (fun _ _ => v_leq rfl rfl) ?_
             refine g_val rfl rfl rfl (fun _ _ => v_move rfl) ?_
             refine g_case 56 rfl (fun h48 => ?_) (fun h48 => ?_)
             ·replace hm := ifT (of_decide_eq_true h48) hm
              refine v_unguard rfl rfl ?_
              refine g_val rfl rfl rfl (fun w _ => v_fieldAddr 1 (Try.runUnderlying51 w) rfl (Try.sizeOf3 w) rfl) ?_
              refine v_unguard rfl rfl ?_
              refine g_val rfl rfl rfl (fun w hh => v_load (Try.isAgg3 w) rfl (hh.cell 0 rfl rfl)) ?_
              refine v_unguard rfl rfl ?_
              refine g_val rfl rfl rfl (fun _ _ => v_neq rfl rfl) ?_
              refine g_val rfl rfl rfl (fun _ _ => v_pickT rfl rfl) ?_
              refine g_val rfl rfl rfl (fun _ _ => v_move rfl) ?_
              refine g_case 61 rfl (fun h49 => ?_) (fun h49 => ?_)
              ·replace hm := ifF (of_ndec_true h49) hm
               refine v_unguard rfl rfl ?_
               refine g_val rfl rfl rfl (fun w _ => v_fieldAddr 3 (Try.runUnderlying29 w) rfl (Try.sizeOf26 w) rfl) ?_
               refine v_unguard rfl rfl ?_
               refine g_val rfl rfl rfl (fun w hh => v_load (Try.isAgg26 w) rfl (hh.cell 2 rfl rfl)) ?_
               refine v_unguard rfl rfl ?_
               refine g_val rfl rfl rfl (fun w _ => v_fieldAddr 1 (Try.runUnderlying51 w) rfl (Try.sizeOf3 w) rfl) ?_
               refine v_unguard rfl rfl ?_
               refine g_val rfl rfl rfl (fun w hh => v_load (Try.isAgg3 w) rfl (hh.cell 0 rfl rfl)) ?_
               refine v_unguard rfl rfl ?_
               obtain ⟨t66, h50, hm⟩ := bindO hm
               refine g_val rfl rfl rfl (fun w _ => v_ixR h50 (Try.runUnderlying26 w) (Try.sizeOf3 w) rfl rfl hna1 hqa1) ?_
               refine v_unguard rfl rfl ?_
               refine g_val rfl rfl rfl (fun w hh => v_ldE RI 0 h50 (Try.isAgg3 w) rfl (hh.seg 1 rfl) rfl (Nat.add_zero _).symm) ?_
               refine v_unguard rfl rfl ?_
               refine g_val rfl rfl rfl (fun _ _ => v_move rfl) ?_
               refine v_unguard rfl rfl ?_
               refine g_val rfl rfl rfl (fun _ _ => v_leq rfl rfl) ?_
               refine g_val rfl rfl rfl (fun _ _ => v_pickT rfl rfl) ?_
               refine g_val rfl rfl rfl (fun _ _ => v_move rfl) ?_
               refine g_case 71 rfl (fun h51 => ?_) (fun h51 => ?_)
               ·replace hm := ifT (of_decide_eq_true h51) hm
                refine v_unguard rfl rfl ?_
                refine g_val rfl rfl rfl (fun w _ => v_fieldAddr 0 (Try.runUnderlying51 w) rfl (Try.sizeOf3 w) rfl) ?_
                refine v_unguard rfl rfl ?_
                refine g_val rfl rfl rfl (fun w hh => v_load (Try.isAgg3 w) rfl (hh.cell 0 rfl rfl)) ?_
                refine v_unguard rfl rfl ?_
                refine g_val rfl rfl rfl (fun _ _ => v_eql rfl rfl) ?_
                refine v_unguard rfl rfl ?_
                refine g_val rfl rfl rfl (fun _ _ => v_move rfl) ?_
                refine g_case 75 rfl (fun h52 => ?_) (fun h52 => ?_)
                ·replace hm := ifT (of_decide_eq_true h52) hm
                 refine g_skipG rfl rfl rfl rfl rfl rfl ?_
                 refine g_skipG rfl rfl rfl rfl rfl rfl ?_
                 refine g_skipG rfl rfl rfl rfl rfl rfl ?_
                 refine g_skipG rfl rfl rfl rfl rfl rfl ?_
                 refine g_skipG rfl rfl rfl rfl rfl rfl ?_
                 refine g_skipG rfl rfl rfl rfl rfl rfl ?_
                 refine g_skipG rfl rfl rfl rfl rfl rfl ?_
                 refine v_unguard rfl rfl ?_
                 refine g_val rfl rfl rfl (fun _ _ => v_pickT rfl rfl) ?_
                 refine g_val rfl rfl rfl (fun _ _ => v_pickT rfl rfl) ?_
                 refine g_nil ?_
                 obtain rfl := Option.some.inj hm
                 exact g_leaf () (trivial) ((.cons rfl (.cons rfl (.cons rfl (.cons rfl (.cons rfl (.cons rfl (.cons rfl (.cons rfl (.cons rfl (.cons rfl (.cons rfl (.cons rfl (.cons rfl (.cons rfl .nil))))))))))))))) (fun w hh => hh)
                ·replace hm := ifF (of_decide_eq_false h52) hm
                 refine v_unguard rfl rfl ?_
                 refine g_val rfl rfl rfl (fun _ _ => v_move rfl) ?_
                 refine v_unguard rfl rfl ?_
                 refine g_val rfl rfl rfl (fun w _ => v_fieldAddr 0 (Try.runUnderlying51 w) rfl (Try.sizeOf3 w) rfl) ?_
                 refine v_unguard rfl rfl ?_
                 refine g_val rfl rfl rfl (fun w hh => v_load (Try.isAgg3 w) rfl (hh.cell 0 rfl rfl)) ?_
                 refine v_unguard rfl rfl ?_
                 obtain ⟨t79, h53, hm⟩ := bindO hm
                 refine g_val rfl rfl rfl (fun w _ => v_ixA h53 (Try.runUnderlying26 w) (Try.sizeOf3 w) rfl rfl (vlen RI h38 rfl) (vne h38)) ?_
                 refine v_unguard rfl rfl ?_
                 refine g_val rfl rfl rfl (fun w hh => v_ldE RI 0 h53 (Try.isAgg3 w) rfl (hh.vseg 0 rfl h38) rfl (Nat.add_zero _).symm) ?_
                 refine v_unguard rfl rfl ?_
                 refine g_val rfl rfl rfl (fun _ _ => v_move rfl) ?_
                 refine v_unguard rfl rfl ?_
                 refine g_val rfl rfl rfl (fun _ _ => v_leq rfl rfl) ?_
                 refine v_unguard rfl rfl ?_
                 refine g_val rfl rfl rfl (fun _ _ => v_pickF rfl rfl) ?_
                 refine g_val rfl rfl rfl (fun _ _ => v_pickT rfl rfl) ?_
                 refine g_nil ?_
                 obtain rfl := Option.some.inj hm
                 exact g_leaf () (trivial) ((.cons rfl (.cons rfl (.cons rfl (.cons rfl (.cons rfl (.cons rfl (.cons rfl (.cons rfl (.cons rfl (.cons rfl (.cons rfl (.cons rfl (.cons rfl (.cons rfl .nil))))))))))))))) (fun w hh => hh)
               ·replace hm := ifF (of_decide_eq_false h51) hm
                refine g_skipG rfl rfl rfl rfl rfl rfl ?_
                refine g_skipG rfl rfl rfl rfl rfl rfl ?_
                refine g_skipG rfl rfl rfl rfl rfl rfl ?_
                refine g_skipG rfl rfl rfl rfl rfl rfl ?_
                refine g_skipU' rfl rfl rfl rfl rfl ?_
                refine g_skipU' rfl rfl rfl rfl rfl ?_
                refine g_skipU' rfl rfl rfl rfl rfl ?_
                refine g_skipU' rfl rfl rfl rfl rfl ?_
                refine g_skipU' rfl rfl rfl rfl rfl ?_
                refine g_skipU' rfl rfl rfl rfl rfl ?_
                refine g_skipU' rfl rfl rfl rfl rfl ?_
                refine g_skipG rfl rfl rfl rfl rfl rfl ?_
                refine g_val rfl rfl rfl (fun _ _ => v_pickF rfl rfl) ?_
                refine g_nil ?_
                obtain rfl := Option.some.inj hm
                exact g_leaf () (trivial) ((.cons rfl (.cons rfl (.cons rfl (.cons rfl (.cons rfl (.cons rfl (.cons rfl (.cons rfl (.cons rfl (.cons rfl (.cons rfl (.cons rfl (.cons rfl (.cons rfl .nil))))))))))))))) (fun w hh => hh)
              ·replace hm := ifT (of_ndec_false h49) hm
               refine g_skipG rfl rfl rfl rfl rfl rfl ?_
               refine g_skipG rfl rfl rfl rfl rfl rfl ?_
               refine g_skipG rfl rfl rfl rfl rfl rfl ?_
               refine g_skipG rfl rfl rfl rfl rfl rfl ?_
               refine g_skipG rfl rfl rfl rfl rfl rfl ?_
               refine g_skipG rfl rfl rfl rfl rfl rfl ?_
               refine g_skipG rfl rfl rfl rfl rfl rfl ?_
               refine g_skipG rfl rfl rfl rfl rfl rfl ?_
               refine g_val rfl rfl rfl (fun _ _ => v_pickF rfl rfl) ?_
               refine g_val rfl rfl rfl (fun _ _ => v_move rfl) ?_
               refine g_skipG rfl rfl rfl rfl rfl rfl ?_
               refine g_skipG rfl rfl rfl rfl rfl rfl ?_
               refine g_skipG rfl rfl rfl rfl rfl rfl ?_
               refine g_skipG rfl rfl rfl rfl rfl rfl ?_
               refine g_skipU' rfl rfl rfl rfl rfl ?_
               refine g_skipU' rfl rfl rfl rfl rfl ?_
               refine g_skipU' rfl rfl rfl rfl rfl ?_
               refine g_skipU' rfl rfl rfl rfl rfl ?_
               refine g_skipU' rfl rfl rfl rfl rfl ?_
               refine g_skipU' rfl rfl rfl rfl rfl ?_
               refine g_skipU' rfl rfl rfl rfl rfl ?_
               refine g_skipG rfl rfl rfl rfl rfl rfl ?_
               refine g_val rfl rfl rfl (fun _ _ => v_pickF rfl rfl) ?_
               refine g_nil ?_
               obtain rfl := Option.some.inj hm
               exact g_leaf () (trivial) ((.cons rfl (.cons rfl (.cons rfl (.cons rfl (.cons rfl (.cons rfl (.cons rfl (.cons rfl (.cons rfl (.cons rfl (.cons rfl (.cons rfl (.cons rfl (.cons rfl .nil))))))))))))))) (fun w hh => hh)
             ·replace hm := ifF (of_decide_eq_false h48) hm
              refine g_skipG rfl rfl rfl rfl rfl rfl ?_
              refine g_skipG rfl rfl rfl rfl rfl rfl ?_
              refine g_skipG rfl rfl rfl rfl rfl rfl ?_
              refine g_val rfl rfl rfl (fun _ _ => v_pickF rfl rfl) ?_
              refine g_val rfl rfl rfl (fun _ _ => v_move rfl) ?_
              refine g_skipG rfl rfl rfl rfl rfl rfl ?_
              refine g_skipG rfl rfl rfl rfl rfl rfl ?_
              refine g_skipG rfl rfl rfl rfl rfl rfl ?_
              refine g_skipG rfl rfl rfl rfl rfl rfl ?_
              refine g_skipG rfl rfl rfl rfl rfl rfl ?_
              refine g_skipG rfl rfl rfl rfl rfl rfl ?_
              refine g_skipG rfl rfl rfl rfl rfl rfl ?_
              refine g_skipG rfl rfl rfl rfl rfl rfl ?_
              refine g_val rfl rfl rfl (fun _ _ => v_pickF rfl rfl) ?_
              refine g_val rfl rfl rfl (fun _ _ => v_move rfl) ?_
              refine g_skipG rfl rfl rfl rfl rfl rfl ?_
              refine g_skipG rfl rfl rfl rfl rfl rfl ?_
              refine g_skipG rfl rfl rfl rfl rfl rfl ?_
              refine g_skipG rfl rfl rfl rfl rfl rfl ?_
              refine g_skipU' rfl rfl rfl rfl rfl ?_
              refine g_skipU' rfl rfl rfl rfl rfl ?_
              refine g_skipU' rfl rfl rfl rfl rfl ?_
              refine g_skipU' rfl rfl rfl rfl rfl ?_
              refine g_skipU' rfl rfl rfl rfl rfl ?_
              refine g_skipU' rfl rfl rfl rfl rfl ?_
              refine g_skipU' rfl rfl rfl rfl rfl ?_
              refine g_skipG rfl rfl rfl rfl rfl rfl ?_
              refine g_val rfl rfl rfl (fun _ _ => v_pickF rfl rfl) ?_
              refine g_nil ?_
              obtain rfl := Option.some.inj hm
              exact g_leaf () (trivial) ((.cons rfl (.cons rfl (.cons rfl (.cons rfl (.cons rfl (.cons rfl (.cons rfl (.cons rfl (.cons rfl (.cons rfl (.cons rfl (.cons rfl (.cons rfl (.cons rfl .nil))))))))))))))) (fun w hh => hh)
            ·intro l_11 hj
             replace hm := h47
             refine g_n_then ?_
             refine g_cond rfl (fun h54 => ?_) (fun h54 => ?_)
             ·replace hm := ifT (h54) hm
              refine g_draw (some 11) (.free 0 (.free 1 (.hoist 2 (.free 3 (.free 4 (.hoist 5 (.free 6 (.hoist 7 (.free 8 (.free 9 (.free 10 (.last 11 .done)))))))))))) _ rfl (by decide +kernel) (fun w k hh => hh.draw k) (fun w hh => hh) ?_
              refine p_free rfl rfl rfl rfl (fun _ _ => v_move rfl) ?_
              refine p_free rfl rfl rfl rfl (fun w _ => v_fieldAddr 1 (Try.runUnderlying51 w) rfl (Try.sizeOf3 w) rfl) ?_
              refine p_hoist rfl rfl rfl rfl (fun w hh => v_load (Try.isAgg3 w) rfl (hh.cell 0 rfl rfl)) ?_
              refine p_free rfl rfl rfl rfl (fun _ _ => v_move rfl) ?_
              refine p_free rfl rfl rfl rfl (fun w _ => v_fieldAddr 1 (Try.runUnderlying51 w) rfl (Try.sizeOf3 w) rfl) ?_
              refine p_hoist rfl rfl rfl rfl (fun w hh => v_load (Try.isAgg3 w) rfl (hh.cell 0 rfl rfl)) ?_
              obtain ⟨t91, h55, hm⟩ := bindO hm
              refine p_free rfl rfl rfl rfl (fun w _ => v_ixA h55 (Try.runUnderlying26 w) (Try.sizeOf3 w) rfl rfl (vlen RI h38 rfl) (vne h38)) ?_
              refine p_hoist rfl rfl rfl rfl (fun w hh => v_ldE RI 0 h55 (Try.isAgg3 w) rfl (hh.vseg 0 rfl h38) rfl (Nat.add_zero _).symm) ?_
              refine p_free rfl rfl rfl rfl (fun _ _ => v_move rfl) ?_
              refine p_free rfl rfl rfl rfl (fun _ _ => v_min rfl rfl) ?_
              obtain ⟨t95, h56, hm⟩ := bindO hm
              refine p_free rfl rfl rfl rfl (fun w _ => v_ixA h56 (Try.runUnderlying26 w) (Try.sizeOf3 w) rfl rfl (vlen RI h38 rfl) (vne h38)) ?_
              refine p_last rfl ?_
              obtain ⟨t13_2, ht13_2, hm⟩ := bindO hm
              refine g_vst RI 0 0 (min t91 s_1.t23) (fun w => Try.sizeOf3 w) rfl rfl rfl rfl h38 rfl (Nat.add_zero _).symm rfl h56 rfl rfl (Option.some.inj ht13_2) (fun h57 => ?_)
              refine g_sel (S' := [_, _, _]) (vs' := [_, _]) [0, 1, 2] [0, 1] 0 (by decide) (by decide) rfl rfl rfl ?_
              refine p_nextL ?_
              refine p_done ?_
              refine g_n_blk ?_
              obtain rfl := Option.some.inj hm
              exact g_leaf () (h57) ((.cons rfl (.cons rfl (.cons rfl (.cons rfl (.cons rfl (.cons rfl (.cons rfl (.cons rfl (.cons rfl (.cons rfl (.cons rfl (.cons rfl .nil))))))))))))) (fun w hh => hh.sel [1, 2] [0, 1] 0 (by decide) (by decide) rfl rfl rfl)
             ·replace hm := ifF ((fun hh => Bool.noConfusion ((h54).symm.trans hh))) hm
              refine g_skip ?_
              refine g_n_blk ?_
              obtain rfl := Option.some.inj hm
              exact g_leaf () (h38) ((.cons rfl (.cons rfl (.cons rfl (.cons rfl (.cons rfl (.cons rfl (.cons rfl (.cons rfl (.cons rfl (.cons rfl (.cons rfl (.cons rfl .nil))))))))))))) (fun w hh => hh.sel [1, 2] [0, 1] 0 (by decide) (by decide) rfl rfl rfl)
           ·intro l_10 hj
            have h43 := hj
            replace hm := h42
            refine g_n_then ?_
            refine g_region ?_
            obtain ⟨t96, h58, hm⟩ := bindO hm
            refine g_val rfl rfl rfl (fun _ _ => v_addc h58 rfl rfl) ?_
            refine g_val rfl rfl rfl (fun _ _ => v_move rfl) ?_
            refine g_nil ?_
            obtain rfl := Option.some.inj hm
            refine g_n_then ?_
            exact g_again' _ () rfl (h43) ((.cons rfl (.cons rfl (.cons rfl (.cons rfl (.cons rfl (.cons rfl (.cons rfl (.cons rfl (.cons rfl (.cons rfl (.cons rfl (.cons rfl .nil))))))))))))) (fun w hh => hh)
          ·replace hm := ifF (of_decide_eq_false h40) hm
           refine g_exit ?_
           refine g_x_then ?_
           refine g_x_then ?_
           refine g_x_blk ?_
           obtain rfl := Option.some.inj hm
           have hbo := h39 _ rfl
           subst hbo
           exact g_leaf () (h38) ((.cons rfl (.cons rfl (.cons rfl (.cons rfl (.cons rfl (.cons rfl (.cons rfl (.cons rfl (.cons rfl .nil)))))))))) (fun w hh => hh.sel [0, 1] [0] 0 (by decide) (by decide) rfl rfl rfl)
         ·intro l_8 hj
          have h37 := hj
          replace hm := h36
          refine g_n_blk ?_
          refine g_n_then ?_
          refine g_region ?_
          obtain ⟨t97, h59, hm⟩ := bindO hm
          refine g_val rfl rfl rfl (fun _ _ => v_addc h59 rfl rfl) ?_
          refine g_val rfl rfl rfl (fun _ _ => v_move rfl) ?_
          refine g_nil ?_
          obtain rfl := Option.some.inj hm
          refine g_n_then ?_
          exact g_again' _ () rfl (h37) ((.cons rfl (.cons rfl (.cons rfl (.cons rfl (.cons rfl (.cons rfl (.cons rfl (.cons rfl (.cons rfl .nil)))))))))) (fun w hh => hh.sel [1] [0] 0 (by decide) (by decide) rfl rfl rfl)
        ·replace hm := ifF (of_decide_eq_false h31) hm
         refine g_exit ?_
         refine g_x_then ?_
         refine g_x_then ?_
         refine g_x_blk ?_
         obtain rfl := Option.some.inj hm
         have hbo := h30 _ rfl
         subst hbo
         exact g_leaf () (h29) ((.cons rfl (.cons rfl (.cons rfl (.cons rfl (.cons rfl (.cons rfl .nil))))))) (fun w hh => hh)
       ·intro l_6 hj
        have h28 := hj
        replace hm := h27
        refine g_n_blk ?_
        refine g_n_then ?_
        refine g_region ?_
        obtain ⟨t98, h60, hm⟩ := bindO hm
        refine g_val rfl rfl rfl (fun _ _ => v_addc h60 rfl rfl) ?_
        refine g_val rfl rfl rfl (fun _ _ => v_move rfl) ?_
        refine g_nil ?_
        obtain rfl := Option.some.inj hm
        refine g_n_then ?_
        exact g_again' _ () rfl (h28) ((.cons rfl (.cons rfl (.cons rfl (.cons rfl (.cons rfl (.cons rfl .nil))))))) (fun w hh => hh)
      ·replace hm := ifF (of_decide_eq_false h25) hm
       refine g_exit ?_
       refine g_x_then ?_
       refine g_x_then ?_
       refine g_x_blk ?_
       obtain rfl := Option.some.inj hm
       have hbo := h24 _ rfl
       subst hbo
       exact g_leaf () (h23) ((.cons rfl (.cons rfl (.cons rfl (.cons rfl .nil))))) (fun w hh => hh)
     ·intro l_4 hj
      have h22 := hj
      replace hm := h21
      refine g_n_then ?_
      refine g_seq ?_
      refine g_region ?_
      refine g_val rfl rfl rfl (fun _ _ => v_move rfl) ?_
      refine g_val rfl rfl rfl (fun _ _ => v_gtr rfl rfl) ?_
      refine g_nil ?_
      refine g_n_then ?_
      refine g_cond rfl (fun h61 => ?_) (fun h61 => ?_)
      ·replace hm := ifT (of_decide_eq_true h61) hm
       refine g_exit ?_
       refine g_x_out rfl ?_
       refine g_x_then ?_
       refine g_x_then ?_
       refine g_x_blk ?_
       obtain rfl := Option.some.inj hm
       have hbo := h18 _ rfl
       subst hbo
       exact g_leaf () (h22) ((.cons rfl .nil)) (fun w hh => hh)
      ·replace hm := ifF (of_decide_eq_false h61) hm
       refine g_skip ?_
       refine g_n_blk ?_
       refine g_n_then ?_
       refine g_region ?_
       obtain ⟨t101, h62, hm⟩ := bindO hm
       refine g_val rfl rfl rfl (fun _ _ => v_addc h62 rfl rfl) ?_
       refine g_val rfl rfl rfl (fun _ _ => v_move rfl) ?_
       refine g_nil ?_
       obtain rfl := Option.some.inj hm
       refine g_n_then ?_
       exact g_again' _ () rfl (h22) ((.cons rfl (.cons rfl (.cons rfl .nil)))) (fun w hh => hh)
    ·replace hm := ifF (of_decide_eq_false h19) hm
     refine g_exit ?_
     refine g_x_then ?_
     refine g_x_then ?_
     refine g_x_blk ?_
     obtain rfl := Option.some.inj hm
     have hbo := h18 _ rfl
     subst hbo
     exact g_leaf () (h17) ((.cons rfl .nil)) (fun w hh => hh)
   ·intro l_2 hj
    have h16 := hj
    replace hm := h15
    refine g_n_then ?_
    refine g_seq ?_
    refine g_region ?_
    refine g_val rfl rfl rfl (fun _ _ => v_move rfl) ?_
    refine g_val rfl rfl rfl (fun _ _ => v_assign rfl) ?_
    refine g_nil ?_
    refine g_n_then ?_
    refine g_ret ?_
    obtain rfl := Option.some.inj hm
    refine g_done rfl (fun w hh => (.tmp rfl .nil)) (fun w hh => ⟨L, rfl, h16, hh.sel [] [0] 3 (by decide) (by decide) rfl rfl rfl⟩)
def m_laurellaw01_wet (s0 : Sands) (g1 : (List Int)) (minute2 : Int) (place3 : Int) (truth4 : Int) : Option Bool :=
 (ix g1 place3).bind fun t18 =>
 (m_laurellaw01_line s0 minute2).bind fun t13 =>
 (addc t13 truth4).bind fun t15 =>
 some (decide (t18 < t15))
set_option maxRecDepth 100000 in
set_option maxHeartbeats 4000000 in
theorem c_laurellaw01_wet (s0 : Sands) (g1 : (List Int)) (minute2 : Int) (place3 : Int) (truth4 : Int) (qa0 : Option Addr) (na0 ca0 : Nat) (qa1 : Option Addr) (na1 ca1 : Nat) (qa2 : Option Addr) (na2 ca2 : Nat) (qa3 : Option Addr) (na3 ca3 : Nat) (w : World) (hw : HV w (keys [] []) [] [] [(aB qa0, aO qa0, RW.enc s0.table), (aB qa1, aO qa1, RI.enc s0.floors), (aB qa2, aO qa2, RS.enc s0.sills), (aB qa3, aO qa3, RI.enc g1)] w) (hna0 : s0.table.length = na0) (hqa0 : AOK na0 qa0) (hla0 : na0 ≤ ca0) (hna1 : s0.floors.length = na1) (hqa1 : AOK na1 qa1) (hla1 : na1 ≤ ca1) (hna2 : s0.sills.length = na2) (hqa2 : AOK na2 qa2) (hla2 : na2 ≤ ca2) (hna3 : g1.length = na3) (hqa3 : AOK na3 qa3) (hla3 : na3 ≤ ca3) {res : Bool} (hm : m_laurellaw01_wet s0 g1 minute2 place3 truth4 = some res) :
    Calls Try.prog 29 #[.agg #[.slice qa0 na0 ca0, .int .i64 s0.wind.lo, .int .i64 s0.wind.hi, .slice qa1 na1 ca1, .slice qa2 na2 ca2], .slice qa3 na3 ca3, .int .i64 minute2, .int .i64 place3, .int .i64 truth4] w (fun en w' => ∃ l : Unit, en = .returned (.bool res) ∧ (True) ∧ HV w (keys [] []) [] [] [] w') := by
  unfold m_laurellaw01_wet at hm
  refine g_enter (args := [.agg #[.slice qa0 na0 ca0, .int .i64 s0.wind.lo, .int .i64 s0.wind.hi, .slice qa1 na1 ca1, .slice qa2 na2 ca2], .slice qa3 na3 ca3, .int .i64 minute2, .int .i64 place3, .int .i64 truth4]) Try.func29 rfl Try.ntmps29 rfl (e := [(0, _), (1, _), (2, _), (3, _), (4, _)]) rfl (H := HV w (keys [] []) [] [] [(aB qa0, aO qa0, RW.enc s0.table), (aB qa1, aO qa1, RI.enc s0.floors), (aB qa2, aO qa2, RS.enc s0.sills), (aB qa3, aO qa3, RI.enc g1)]) hw ?_
  refine g_seq ?_
  refine g_region ?_
  refine g_boxV rfl rfl (fun b h1 => ?_)
  refine g_val rfl rfl rfl (fun _ _ => v_assign rfl) ?_
  refine g_nil ?_
  refine g_n_then ?_
  refine g_seq ?_
  refine g_draw none (.hoist 0 (.free 1 (.free 3 (.free 5 (.free 6 (.free 7 (.hoist 8 (.one 2 (.free 4 (.free 9 (.free 10 .done))))))))))) _ rfl (by decide +kernel) (fun w k hh => hh.draw k) (fun w hh => hh) ?_
  refine p_hoist rfl rfl rfl rfl (fun w hh => v_loadAgg (vs := [_, _, _, _, _]) (Try.isAgg29 w) (Try.sizeOf29 w) rfl (hh.cells 0 rfl rfl)) ?_
  refine p_free rfl rfl rfl rfl (fun _ _ => v_move rfl) ?_
  refine p_free rfl rfl rfl rfl (fun _ _ => v_move rfl) ?_
  refine p_free rfl rfl rfl rfl (fun _ _ => v_move rfl) ?_
  refine p_free rfl rfl rfl rfl (fun _ _ => v_move rfl) ?_
  obtain ⟨t18, h2, hm⟩ := bindO hm
  refine p_free rfl rfl rfl rfl (fun w _ => v_ixR h2 (Try.runUnderlying26 w) (Try.sizeOf3 w) rfl rfl hna3 hqa3) ?_
  refine p_hoist rfl rfl rfl rfl (fun w hh => v_ldE RI 0 h2 (Try.isAgg3 w) rfl (hh.seg 3 rfl) rfl (Nat.add_zero _).symm) ?_
  refine p_one rfl ?_
  obtain ⟨t13, h3, hm⟩ := bindO hm
  refine g_callH [] [] rfl rfl rfl rfl rfl rfl rfl (fun a w => Try.call40 a w) (fun w hh => c_laurellaw01_line s0 minute2 qa0 na0 ca0 qa1 na1 ca1 qa2 na2 ca2 w (HV.callee (S0 := []) (vs0 := []) hh (roC (hh.rsep (S0 := []) (vs0 := []) 0 rfl) (roC (hh.rsep (S0 := []) (vs0 := []) 1 rfl) (roC (hh.rsep (S0 := []) (vs0 := []) 2 rfl) roN)))) hna0 hqa0 hla0 hna1 hqa1 hla1 hna2 hqa2 hla2 h3) (fun l h4 => ?_)
  refine p_next (fun w hh => hh) ?_
  obtain ⟨t15, h5, hm⟩ := bindO hm
  refine p_free rfl rfl rfl rfl (fun _ _ => v_addc h5 rfl rfl) ?_
  refine p_free rfl rfl rfl rfl (fun _ _ => v_gtr rfl rfl) ?_
  refine p_free rfl rfl rfl rfl (fun _ _ => v_assign rfl) ?_
  refine p_done ?_
  refine g_n_then ?_
  refine g_ret ?_
  obtain rfl := Option.some.inj hm
  refine g_done rfl (fun w hh => (.tmp rfl .nil)) (fun w hh => ⟨(), rfl, trivial, hh.sel [] [] 4 (by decide) (by decide) rfl rfl rfl⟩)
structure m_laurellaw01_looked_R where
  b0_1 : Int
  b0_2 : Int
  r0 : (List Look)
structure m_laurellaw01_looked_C0 where
  b0_1 : Int
  b0_2 : Int
  out11 : (List Look)
structure m_laurellaw01_looked_S0 where
  t16 : Int
  b0_1 : Int
  b0_2 : Int
  out11 : (List Look)
structure m_laurellaw01_looked_C1 where
  l12 : Look
  b0_1 : Int
  b0_2 : Int
def m_laurellaw01_looked_L0 (t15 : m_laurelkit_Heap_Upto_R) (s1 : Sands) (b00 : (List Int)) (g2 : (List Int)) (truth3 : Int) (s : m_laurellaw01_looked_S0) : Option (m_laurellaw01_looked_S0 ⊕ m_laurellaw01_looked_C0) :=
 if s.t16 < t15.r0 then
 (((subc (s1.floors.length : Int) 1).bind fun t28 =>
 (m_laurellaw01_first s1).bind fun t20 =>
 (m_laurellaw01_last s1).bind fun t22 =>
 (m_laurelkit_Heap_From b00 s.b0_1 s.b0_2 t20 t22).bind fun t23 =>
 (m_laurelkit_Heap_Upto b00 t23.h0_1 t23.h0_2 t28).bind fun t29 =>
 some (⟨(⟨t23.r0, t29.r0, false⟩ : Look), t29.h0_1, t29.h0_2⟩ : m_laurellaw01_looked_C1)).bind fun o_1 =>
 (m_laurellaw01_wet s1 g2 o_1.l12.min o_1.l12.place truth3).bind fun t38 =>
 (appc 24 s.out11 [(⟨o_1.l12.min, o_1.l12.place, t38⟩ : Look)]).bind fun t43 =>
 (addc s.t16 1).bind fun t44 =>
 some (.inl (⟨t44, o_1.b0_1, o_1.b0_2, t43⟩ : m_laurellaw01_looked_S0))) else
 (some (.inr (⟨s.b0_1, s.b0_2, s.out11⟩ : m_laurellaw01_looked_C0)))
def m_laurellaw01_looked (b00 : (List Int)) (b01 : Int) (b02 : Int) (s1 : Sands) (g2 : (List Int)) (truth3 : Int) (most4 : Int) : Option m_laurellaw01_looked_R :=
 (m_laurelkit_Heap_Upto b00 b01 b02 most4).bind fun t15 =>
 (iterM FU (m_laurellaw01_looked_L0 t15 s1 b00 g2 truth3) (⟨0, t15.h0_1, t15.h0_2, []⟩ : m_laurellaw01_looked_S0)).bind fun o =>
 some (⟨o.b0_1, o.b0_2, o.out11⟩ : m_laurellaw01_looked_R)
set_option maxRecDepth 100000 in
set_option maxHeartbeats 4000000 in
theorem c_laurellaw01_looked (b00 : (List Int)) (b01 : Int) (b02 : Int) (s1 : Sands) (g2 : (List Int)) (truth3 : Int) (most4 : Int) (pb : Nat) (qa0 : Option Addr) (na0 ca0 : Nat) (qa1 : Option Addr) (na1 ca1 : Nat) (qa2 : Option Addr) (na2 ca2 : Nat) (qa3 : Option Addr) (na3 ca3 : Nat) (qa4 : Option Addr) (na4 ca4 : Nat) (w : World) (hw : HV w (keys [(pb, .cells #[.slice qa0 na0 ca0, .int .i64 b01, .int .u32 b02] 138 (0, 0))] []) [(pb, .cells #[.slice qa0 na0 ca0, .int .i64 b01, .int .u32 b02] 138 (0, 0))] [] [(aB qa0, aO qa0, RU8.enc b00), (aB qa1, aO qa1, RW.enc s1.table), (aB qa2, aO qa2, RI.enc s1.floors), (aB qa3, aO qa3, RS.enc s1.sills), (aB qa4, aO qa4, RI.enc g2)] w) (hna0 : b00.length = na0) (hqa0 : AOK na0 qa0) (hla0 : na0 ≤ ca0) (hna1 : s1.table.length = na1) (hqa1 : AOK na1 qa1) (hla1 : na1 ≤ ca1) (hna2 : s1.floors.length = na2) (hqa2 : AOK na2 qa2) (hla2 : na2 ≤ ca2) (hna3 : s1.sills.length = na3) (hqa3 : AOK na3 qa3) (hla3 : na3 ≤ ca3) (hna4 : g2.length = na4) (hqa4 : AOK na4 qa4) (hla4 : na4 ≤ ca4) {res : m_laurellaw01_looked_R} (hm : m_laurellaw01_looked b00 b01 b02 s1 g2 truth3 most4 = some res) :
    Calls Try.prog 22 #[ptr pb 0, .agg #[.slice qa1 na1 ca1, .int .i64 s1.wind.lo, .int .i64 s1.wind.hi, .slice qa2 na2 ca2, .slice qa3 na3 ca3], .slice qa4 na4 ca4, .int .i64 truth3, .int .i64 most4] w (fun en w' => ∃ l : VL, en = .returned (slv l.q l.n l.cap) ∧ (VOK 3 l.n l.cap (RL.enc res.r0) l.sp l.q) ∧ HV w (keys [(pb, .cells #[.slice qa0 na0 ca0, .int .i64 b01, .int .u32 b02] 138 (0, 0))] []) [(pb, .cells #[.slice qa0 na0 ca0, .int .i64 res.b0_1, .int .u32 res.b0_2] 138 (0, 0))] [⟨89, RL.enc res.r0, l.sp, l.q⟩] [] w') := by
  unfold m_laurellaw01_looked at hm
  refine g_enter (args := [ptr pb 0, .agg #[.slice qa1 na1 ca1, .int .i64 s1.wind.lo, .int .i64 s1.wind.hi, .slice qa2 na2 ca2, .slice qa3 na3 ca3], .slice qa4 na4 ca4, .int .i64 truth3, .int .i64 most4]) Try.func22 rfl Try.ntmps22 rfl (e := [(0, _), (1, _), (2, _), (3, _), (4, _)]) rfl (H := HV w (keys [(pb, .cells #[.slice qa0 na0 ca0, .int .i64 b01, .int .u32 b02] 138 (0, 0))] []) [(pb, .cells #[.slice qa0 na0 ca0, .int .i64 b01, .int .u32 b02] 138 (0, 0))] [] [(aB qa0, aO qa0, RU8.enc b00), (aB qa1, aO qa1, RW.enc s1.table), (aB qa2, aO qa2, RI.enc s1.floors), (aB qa3, aO qa3, RS.enc s1.sills), (aB qa4, aO qa4, RI.enc g2)]) hw ?_
  refine g_seq ?_
  refine g_region ?_
  refine g_boxV rfl rfl (fun b h2 => ?_)
  refine g_val rfl rfl rfl (fun _ _ => v_nilS rfl) ?_
  refine g_nil ?_
  refine g_n_then ?_
  refine g_seq ?_
  refine g_region ?_
  refine g_val rfl rfl rfl (fun _ _ => v_nilS rfl) ?_
  refine g_nil ?_
  refine g_n_then ?_
  refine g_seq ?_
  refine g_seq ?_
  refine g_region ?_
  refine g_val rfl rfl rfl (fun _ _ => v_move rfl) ?_
  refine g_val rfl rfl rfl (fun _ _ => v_move rfl) ?_
  obtain ⟨t15, h3, hm⟩ := bindO hm
  refine g_sel (S' := [_, _]) (vs' := []) [1, 0] [] 0 (by decide) (by decide) rfl rfl rfl ?_
  refine g_callH [_] [] rfl rfl rfl rfl rfl rfl rfl (fun a w => Try.call64 a w) (fun w hh => c_laurelkit_Heap_Upto b00 b01 b02 most4 pb qa0 na0 ca0 w (HV.callee (S0 := [_]) (vs0 := []) hh (roC (hh.rsep (S0 := [_]) (vs0 := []) 0 rfl) roN)) hna0 hqa0 hla0 h3) (fun l h4 => ?_)
  refine g_sel (S' := [_, _]) (vs' := []) [0, 1] [] 0 (by decide) (by decide) rfl rfl rfl ?_
  refine g_val rfl rfl rfl (fun _ _ => v_move rfl) ?_
  refine g_nil ?_
  refine g_n_then ?_
  refine g_vnil 89 ?_
  obtain ⟨o, h5, h6⟩ := bindO hm
  refine g_cut (ι := VL) (fun l_1 => VOK 3 l_1.n l_1.cap (RL.enc o.out11) l_1.sp l_1.q) (fun l_1 => [(11, slv l_1.q l_1.n l_1.cap)]) (fun l_1 => [(pb, .cells #[.slice qa0 na0 ca0, .int .i64 o.b0_1, .int .u32 o.b0_2] 138 (0, 0)), (b, .cells #[.slice qa1 na1 ca1, .int .i64 s1.wind.lo, .int .i64 s1.wind.hi, .slice qa2 na2 ca2, .slice qa3 na3 ca3] 29 (0, 0))]) (fun l_1 => [⟨89, RL.enc o.out11, l_1.sp, l_1.q⟩]) ?_ ?_
  ·replace hm := h5
   refine g_block ?_
   refine g_loopF (ι := VL) hm (fun s l_2 => VOK 3 l_2.n l_2.cap (RL.enc s.out11) l_2.sp l_2.q) (fun s l_2 => [(0, ptr pb 0), (2, .slice qa4 na4 ca4), (3, .int .i64 truth3), (6, ptr b 0), (11, slv l_2.q l_2.n l_2.cap), (15, .int .i64 t15.r0), (16, .int .i64 s.t16)]) (fun s l_2 => [(pb, .cells #[.slice qa0 na0 ca0, .int .i64 s.b0_1, .int .u32 s.b0_2] 138 (0, 0)), (b, .cells #[.slice qa1 na1 ca1, .int .i64 s1.wind.lo, .int .i64 s1.wind.hi, .slice qa2 na2 ca2, .slice qa3 na3 ca3] 29 (0, 0))]) (fun s l_2 => [⟨89, RL.enc s.out11, l_2.sp, l_2.q⟩]) ⟨none, 0, 0, []⟩ (VOK.nil) ((.cons rfl (.cons rfl (.cons rfl (.cons rfl (.cons rfl (.cons rfl (.cons rfl .nil)))))))) (fun w hh => hh) (fun s l_2 r hpl hm h9 => ?_)
   have h8 := hpl
   unfold m_laurellaw01_looked_L0 at hm
   refine g_seq ?_
   refine g_region ?_
   refine g_val rfl rfl rfl (fun _ _ => v_lss rfl rfl) ?_
   refine g_nil ?_
   refine g_n_then ?_
   refine g_seq ?_
   refine g_cond rfl (fun h10 => ?_) (fun h10 => ?_)
   ·replace hm := ifT (of_decide_eq_true h10) hm
    refine g_skip ?_
    refine g_n_then ?_
    refine g_seq ?_
    refine g_block ?_
    refine g_seq ?_
    obtain ⟨o_1, h11, h12⟩ := bindO hm
    refine g_cut (ι := Nat) (fun l_3 => True) (fun l_3 => [(0, ptr pb 0), (2, .slice qa4 na4 ca4), (3, .int .i64 truth3), (6, ptr b 0), (11, slv l_2.q l_2.n l_2.cap), (12, ptr l_3 0), (15, .int .i64 t15.r0), (16, .int .i64 s.t16)]) (fun l_3 => [(pb, .cells #[.slice qa0 na0 ca0, .int .i64 o_1.b0_1, .int .u32 o_1.b0_2] 138 (0, 0)), (b, .cells #[.slice qa1 na1 ca1, .int .i64 s1.wind.lo, .int .i64 s1.wind.hi, .slice qa2 na2 ca2, .slice qa3 na3 ca3] 29 (0, 0)), (l_3, .cells #[.int .i64 o_1.l12.min, .int .i64 o_1.l12.place, .bool o_1.l12.wet] 89 (0, 0))]) (fun l_3 => [⟨89, RL.enc s.out11, l_2.sp, l_2.q⟩]) ?_ ?_
    ·replace hm := h11
     obtain ⟨t28, h13, hm⟩ := bindO hm
     obtain ⟨t20, h14, hm⟩ := bindO hm
     obtain ⟨t22, h15, hm⟩ := bindO hm
     obtain ⟨t23, h16, hm⟩ := bindO hm
     obtain ⟨t29, h17, hm⟩ := bindO hm
     refine g_draw none (.free 0 (.hoist 1 (.hoist 3 (.free 6 (.free 7 (.hoist 8 (.free 9 (.free 10 (.br (.alt 2 (.br (.alt 4 (.br (.alt 5 (.br (.alt 11 (.free 12 (.one 13 (.one 14 .done))) (.alt 13 (.one 11 (.free 12 (.one 14 .done))) .nil))) (.alt 13 (.one 5 (.one 11 (.free 12 (.one 14 .done)))) .nil))) (.alt 13 (.one 4 (.one 5 (.one 11 (.free 12 (.one 14 .done))))) .nil))) (.alt 13 (.one 2 (.one 4 (.one 5 (.one 11 (.free 12 (.one 14 .done)))))) .nil))))))))))) (HV _ _ [(b, .cells #[.slice qa1 na1 ca1, .int .i64 s1.wind.lo, .int .i64 s1.wind.hi, .slice qa2 na2 ca2, .slice qa3 na3 ca3] 29 (0, 0))] [⟨89, RL.enc s.out11, l_2.sp, l_2.q⟩] _) rfl (by decide +kernel) (fun w k hh => hh.draw k) (fun w hh => hh.sel [1] [0] 0 (by decide) (by decide) rfl rfl rfl) ?_
     refine p_free rfl rfl rfl rfl (fun _ _ => v_move rfl) ?_
     refine p_hoist rfl rfl rfl rfl (fun w hh => v_loadAgg (vs := [_, _, _, _, _]) (Try.isAgg29 w) (Try.sizeOf29 w) rfl (hh.cells 0 rfl rfl)) ?_
     refine p_hoist rfl rfl rfl rfl (fun w hh => v_loadAgg (vs := [_, _, _, _, _]) (Try.isAgg29 w) (Try.sizeOf29 w) rfl (hh.cells 0 rfl rfl)) ?_
     refine p_free rfl rfl rfl rfl (fun _ _ => v_move rfl) ?_
     refine p_free rfl rfl rfl rfl (fun w _ => v_fieldAddr 3 (Try.runUnderlying29 w) rfl (Try.sizeOf26 w) rfl) ?_
     refine p_hoist rfl rfl rfl rfl (fun w hh => v_load (Try.isAgg26 w) rfl (hh.cell 0 rfl rfl)) ?_
     refine p_free rfl rfl rfl rfl (fun w _ => v_lenR hna2 (Try.runUnderlying26 w) rfl) ?_
     refine p_free rfl rfl rfl rfl (fun _ _ => v_subc h13 rfl rfl) ?_
     refine p_br ?_
     refine p_alt rfl ?_ ?_
     ·refine g_callH [] [] rfl rfl rfl rfl rfl rfl rfl (fun a w => Try.call26 a w) (fun w hh => c_laurellaw01_first s1 qa1 na1 ca1 qa2 na2 ca2 qa3 na3 ca3 w (HV.callee (S0 := []) (vs0 := []) hh (roC (hh.rsep (S0 := []) (vs0 := []) 1 rfl) (roC (hh.rsep (S0 := []) (vs0 := []) 2 rfl) (roC (hh.rsep (S0 := []) (vs0 := []) 3 rfl) roN)))) hna1 hqa1 hla1 hna2 hqa2 hla2 hna3 hqa3 hla3 h14) (fun l_4 h18 => ?_)
      refine p_next (fun w hh => hh.sel [1] [0] 0 (by decide) (by decide) rfl rfl rfl) ?_
      refine p_br ?_
      refine p_alt rfl ?_ ?_
      ·refine g_callH [] [] rfl rfl rfl rfl rfl rfl rfl (fun a w => Try.call27 a w) (fun w hh => c_laurellaw01_last s1 qa1 na1 ca1 qa2 na2 ca2 qa3 na3 ca3 w (HV.callee (S0 := []) (vs0 := []) hh (roC (hh.rsep (S0 := []) (vs0 := []) 1 rfl) (roC (hh.rsep (S0 := []) (vs0 := []) 2 rfl) (roC (hh.rsep (S0 := []) (vs0 := []) 3 rfl) roN)))) hna1 hqa1 hla1 hna2 hqa2 hla2 hna3 hqa3 hla3 h15) (fun l_5 h19 => ?_)
       refine p_next (fun w hh => hh.sel [1] [0] 0 (by decide) (by decide) rfl rfl rfl) ?_
       refine p_br ?_
       refine p_alt rfl ?_ ?_
       ·refine g_callH [_] [] rfl rfl rfl rfl rfl rfl rfl (fun a w => Try.call20 a w) (fun w hh => c_laurelkit_Heap_From b00 s.b0_1 s.b0_2 t20 t22 pb qa0 na0 ca0 w (HV.callee (S0 := [_]) (vs0 := []) hh (roC (hh.rsep (S0 := [_]) (vs0 := []) 0 rfl) roN)) hna0 hqa0 hla0 h16) (fun l_6 h20 => ?_)
        refine g_sel (S' := [_, _]) (vs' := [_]) [0, 1] [0] 0 (by decide) (by decide) rfl rfl rfl ?_
        refine p_next (fun w hh => hh.sel [1] [0] 0 (by decide) (by decide) rfl rfl rfl) ?_
        refine p_br ?_
        refine p_alt rfl ?_ ?_
        ·refine g_callH [_] [] rfl rfl rfl rfl rfl rfl rfl (fun a w => Try.call64 a w) (fun w hh => c_laurelkit_Heap_Upto b00 t23.h0_1 t23.h0_2 t28 pb qa0 na0 ca0 w (HV.callee (S0 := [_]) (vs0 := []) hh (roC (hh.rsep (S0 := [_]) (vs0 := []) 0 rfl) roN)) hna0 hqa0 hla0 h17) (fun l_7 h21 => ?_)
         refine g_sel (S' := [_, _]) (vs' := [_]) [0, 1] [0] 0 (by decide) (by decide) rfl rfl rfl ?_
         refine p_next (fun w hh => hh.sel [1] [0] 0 (by decide) (by decide) rfl rfl rfl) ?_
         refine p_free rfl rfl rfl rfl (fun _ _ => v_build (vs := [(0, _), (1, _)]) (cells := [_, _, _]) rfl rfl) ?_
         refine p_one rfl ?_
         refine g_allocV (fun w => Try.zeroValue89 w) rfl (fun b_1 h22 => ?_)
         refine p_next (fun w hh => hh.sel [2] [0] 0 (by decide) (by decide) rfl rfl rfl) ?_
         refine p_one rfl ?_
         refine g_stSA (us := #[_, _, _]) (cs' := [_, _, _]) (S' := [_, _, _]) 0 (fun w => Try.sizeOf89 w) rfl rfl rfl rfl rfl rfl rfl ?_
         refine p_next (fun w hh => hh.sel [2] [0] 0 (by decide) (by decide) rfl rfl rfl) ?_
         refine p_done ?_
         obtain rfl := Option.some.inj hm
         exact g_leaf b_1 (trivial) ((.cons rfl (.cons rfl (.cons rfl (.cons rfl (.cons rfl (.cons rfl (.cons rfl (.cons rfl .nil))))))))) (fun w hh => hh.sel [1, 2, 0] [0] 0 (by decide) (by decide) rfl rfl rfl)
        refine p_alt rfl ?_ ?_
        ·refine g_allocV (fun w => Try.zeroValue89 w) rfl (fun b_2 h23 => ?_)
         refine p_next (fun w hh => hh.sel [2] [0] 0 (by decide) (by decide) rfl rfl rfl) ?_
         refine p_one rfl ?_
         refine g_sel (S' := [_, _, _]) (vs' := [_]) [1, 0, 2] [0] 0 (by decide) (by decide) rfl rfl rfl ?_
         refine g_callH [_] [] rfl rfl rfl rfl rfl rfl rfl (fun a w => Try.call64 a w) (fun w hh => c_laurelkit_Heap_Upto b00 t23.h0_1 t23.h0_2 t28 pb qa0 na0 ca0 w (HV.callee (S0 := [_]) (vs0 := []) hh (roC (hh.rsep (S0 := [_]) (vs0 := []) 0 rfl) roN)) hna0 hqa0 hla0 h17) (fun l_8 h24 => ?_)
         refine g_sel (S' := [_, _, _]) (vs' := [_]) [0, 1, 2] [0] 0 (by decide) (by decide) rfl rfl rfl ?_
         refine p_next (fun w hh => hh.sel [2] [0] 0 (by decide) (by decide) rfl rfl rfl) ?_
         refine p_free rfl rfl rfl rfl (fun _ _ => v_build (vs := [(0, _), (1, _)]) (cells := [_, _, _]) rfl rfl) ?_
         refine p_one rfl ?_
         refine g_stSA (us := #[_, _, _]) (cs' := [_, _, _]) (S' := [_, _, _]) 1 (fun w => Try.sizeOf89 w) rfl rfl rfl rfl rfl rfl rfl ?_
         refine p_next (fun w hh => hh.sel [2] [0] 0 (by decide) (by decide) rfl rfl rfl) ?_
         refine p_done ?_
         obtain rfl := Option.some.inj hm
         exact g_leaf b_2 (trivial) ((.cons rfl (.cons rfl (.cons rfl (.cons rfl (.cons rfl (.cons rfl (.cons rfl (.cons rfl .nil))))))))) (fun w hh => hh.sel [0, 2, 1] [0] 0 (by decide) (by decide) rfl rfl rfl)
        exact p_nil
       refine p_alt rfl ?_ ?_
       ·refine g_allocV (fun w => Try.zeroValue89 w) rfl (fun b_3 h25 => ?_)
        refine p_next (fun w hh => hh.sel [2] [0] 0 (by decide) (by decide) rfl rfl rfl) ?_
        refine p_one rfl ?_
        refine g_sel (S' := [_, _, _]) (vs' := [_]) [1, 0, 2] [0] 0 (by decide) (by decide) rfl rfl rfl ?_
        refine g_callH [_] [] rfl rfl rfl rfl rfl rfl rfl (fun a w => Try.call20 a w) (fun w hh => c_laurelkit_Heap_From b00 s.b0_1 s.b0_2 t20 t22 pb qa0 na0 ca0 w (HV.callee (S0 := [_]) (vs0 := []) hh (roC (hh.rsep (S0 := [_]) (vs0 := []) 0 rfl) roN)) hna0 hqa0 hla0 h16) (fun l_9 h26 => ?_)
        refine g_sel (S' := [_, _, _]) (vs' := [_]) [0, 1, 2] [0] 0 (by decide) (by decide) rfl rfl rfl ?_
        refine p_next (fun w hh => hh.sel [2] [0] 0 (by decide) (by decide) rfl rfl rfl) ?_
        refine p_one rfl ?_
        refine g_callH [_] [] rfl rfl rfl rfl rfl rfl rfl (fun a w => Try.call64 a w) (fun w hh => c_laurelkit_Heap_Upto b00 t23.h0_1 t23.h0_2 t28 pb qa0 na0 ca0 w (HV.callee (S0 := [_]) (vs0 := []) hh (roC (hh.rsep (S0 := [_]) (vs0 := []) 0 rfl) roN)) hna0 hqa0 hla0 h17) (fun l_10 h27 => ?_)
        refine g_sel (S' := [_, _, _]) (vs' := [_]) [0, 1, 2] [0] 0 (by decide) (by decide) rfl rfl rfl ?_
        refine p_next (fun w hh => hh.sel [2] [0] 0 (by decide) (by decide) rfl rfl rfl) ?_
        refine p_free rfl rfl rfl rfl (fun _ _ => v_build (vs := [(0, _), (1, _)]) (cells := [_, _, _]) rfl rfl) ?_
        refine p_one rfl ?_
        refine g_stSA (us := #[_, _, _]) (cs' := [_, _, _]) (S' := [_, _, _]) 1 (fun w => Try.sizeOf89 w) rfl rfl rfl rfl rfl rfl rfl ?_
        refine p_next (fun w hh => hh.sel [2] [0] 0 (by decide) (by decide) rfl rfl rfl) ?_
        refine p_done ?_
        obtain rfl := Option.some.inj hm
        exact g_leaf b_3 (trivial) ((.cons rfl (.cons rfl (.cons rfl (.cons rfl (.cons rfl (.cons rfl (.cons rfl (.cons rfl .nil))))))))) (fun w hh => hh.sel [0, 2, 1] [0] 0 (by decide) (by decide) rfl rfl rfl)
       exact p_nil
      refine p_alt rfl ?_ ?_
      ·refine g_allocV (fun w => Try.zeroValue89 w) rfl (fun b_4 h28 => ?_)
       refine p_next (fun w hh => hh.sel [2] [0] 0 (by decide) (by decide) rfl rfl rfl) ?_
       refine p_one rfl ?_
       refine g_callH [] [] rfl rfl rfl rfl rfl rfl rfl (fun a w => Try.call27 a w) (fun w hh => c_laurellaw01_last s1 qa1 na1 ca1 qa2 na2 ca2 qa3 na3 ca3 w (HV.callee (S0 := []) (vs0 := []) hh (roC (hh.rsep (S0 := []) (vs0 := []) 1 rfl) (roC (hh.rsep (S0 := []) (vs0 := []) 2 rfl) (roC (hh.rsep (S0 := []) (vs0 := []) 3 rfl) roN)))) hna1 hqa1 hla1 hna2 hqa2 hla2 hna3 hqa3 hla3 h15) (fun l_11 h29 => ?_)
       refine p_next (fun w hh => hh.sel [2] [0] 0 (by decide) (by decide) rfl rfl rfl) ?_
       refine p_one rfl ?_
       refine g_sel (S' := [_, _, _]) (vs' := [_]) [1, 0, 2] [0] 0 (by decide) (by decide) rfl rfl rfl ?_
       refine g_callH [_] [] rfl rfl rfl rfl rfl rfl rfl (fun a w => Try.call20 a w) (fun w hh => c_laurelkit_Heap_From b00 s.b0_1 s.b0_2 t20 t22 pb qa0 na0 ca0 w (HV.callee (S0 := [_]) (vs0 := []) hh (roC (hh.rsep (S0 := [_]) (vs0 := []) 0 rfl) roN)) hna0 hqa0 hla0 h16) (fun l_12 h30 => ?_)
       refine g_sel (S' := [_, _, _]) (vs' := [_]) [0, 1, 2] [0] 0 (by decide) (by decide) rfl rfl rfl ?_
       refine p_next (fun w hh => hh.sel [2] [0] 0 (by decide) (by decide) rfl rfl rfl) ?_
       refine p_one rfl ?_
       refine g_callH [_] [] rfl rfl rfl rfl rfl rfl rfl (fun a w => Try.call64 a w) (fun w hh => c_laurelkit_Heap_Upto b00 t23.h0_1 t23.h0_2 t28 pb qa0 na0 ca0 w (HV.callee (S0 := [_]) (vs0 := []) hh (roC (hh.rsep (S0 := [_]) (vs0 := []) 0 rfl) roN)) hna0 hqa0 hla0 h17) (fun l_13 h31 => ?_)
       refine g_sel (S' := [_, _, _]) (vs' := [_]) [0, 1, 2] [0] 0 (by decide) (by decide) rfl rfl rfl ?_
       refine p_next (fun w hh => hh.sel [2] [0] 0 (by decide) (by decide) rfl rfl rfl) ?_
       refine p_free rfl rfl rfl rfl (fun _ _ => v_build (vs := [(0, _), (1, _)]) (cells := [_, _, _]) rfl rfl) ?_
       refine p_one rfl ?_
       refine g_stSA (us := #[_, _, _]) (cs' := [_, _, _]) (S' := [_, _, _]) 1 (fun w => Try.sizeOf89 w) rfl rfl rfl rfl rfl rfl rfl ?_
       refine p_next (fun w hh => hh.sel [2] [0] 0 (by decide) (by decide) rfl rfl rfl) ?_
       refine p_done ?_
       obtain rfl := Option.some.inj hm
       exact g_leaf b_4 (trivial) ((.cons rfl (.cons rfl (.cons rfl (.cons rfl (.cons rfl (.cons rfl (.cons rfl (.cons rfl .nil))))))))) (fun w hh => hh.sel [0, 2, 1] [0] 0 (by decide) (by decide) rfl rfl rfl)
      exact p_nil
     refine p_alt rfl ?_ ?_
     ·refine g_allocV (fun w => Try.zeroValue89 w) rfl (fun b_5 h32 => ?_)
      refine p_next (fun w hh => hh.sel [2] [0] 0 (by decide) (by decide) rfl rfl rfl) ?_
      refine p_one rfl ?_
      refine g_callH [] [] rfl rfl rfl rfl rfl rfl rfl (fun a w => Try.call26 a w) (fun w hh => c_laurellaw01_first s1 qa1 na1 ca1 qa2 na2 ca2 qa3 na3 ca3 w (HV.callee (S0 := []) (vs0 := []) hh (roC (hh.rsep (S0 := []) (vs0 := []) 1 rfl) (roC (hh.rsep (S0 := []) (vs0 := []) 2 rfl) (roC (hh.rsep (S0 := []) (vs0 := []) 3 rfl) roN)))) hna1 hqa1 hla1 hna2 hqa2 hla2 hna3 hqa3 hla3 h14) (fun l_14 h33 => ?_)
      refine p_next (fun w hh => hh.sel [2] [0] 0 (by decide) (by decide) rfl rfl rfl) ?_
      refine p_one rfl ?_
      refine g_callH [] [] rfl rfl rfl rfl rfl rfl rfl (fun a w => Try.call27 a w) (fun w hh => c_laurellaw01_last s1 qa1 na1 ca1 qa2 na2 ca2 qa3 na3 ca3 w (HV.callee (S0 := []) (vs0 := []) hh (roC (hh.rsep (S0 := []) (vs0 := []) 1 rfl) (roC (hh.rsep (S0 := []) (vs0 := []) 2 rfl) (roC (hh.rsep (S0 := []) (vs0 := []) 3 rfl) roN)))) hna1 hqa1 hla1 hna2 hqa2 hla2 hna3 hqa3 hla3 h15) (fun l_15 h34 => ?_)
      refine p_next (fun w hh => hh.sel [2] [0] 0 (by decide) (by decide) rfl rfl rfl) ?_
      refine p_one rfl ?_
      refine g_sel (S' := [_, _, _]) (vs' := [_]) [1, 0, 2] [0] 0 (by decide) (by decide) rfl rfl rfl ?_
      refine g_callH [_] [] rfl rfl rfl rfl rfl rfl rfl (fun a w => Try.call20 a w) (fun w hh => c_laurelkit_Heap_From b00 s.b0_1 s.b0_2 t20 t22 pb qa0 na0 ca0 w (HV.callee (S0 := [_]) (vs0 := []) hh (roC (hh.rsep (S0 := [_]) (vs0 := []) 0 rfl) roN)) hna0 hqa0 hla0 h16) (fun l_16 h35 => ?_)
      refine g_sel (S' := [_, _, _]) (vs' := [_]) [0, 1, 2] [0] 0 (by decide) (by decide) rfl rfl rfl ?_
      refine p_next (fun w hh => hh.sel [2] [0] 0 (by decide) (by decide) rfl rfl rfl) ?_
      refine p_one rfl ?_
      refine g_callH [_] [] rfl rfl rfl rfl rfl rfl rfl (fun a w => Try.call64 a w) (fun w hh => c_laurelkit_Heap_Upto b00 t23.h0_1 t23.h0_2 t28 pb qa0 na0 ca0 w (HV.callee (S0 := [_]) (vs0 := []) hh (roC (hh.rsep (S0 := [_]) (vs0 := []) 0 rfl) roN)) hna0 hqa0 hla0 h17) (fun l_17 h36 => ?_)
      refine g_sel (S' := [_, _, _]) (vs' := [_]) [0, 1, 2] [0] 0 (by decide) (by decide) rfl rfl rfl ?_
      refine p_next (fun w hh => hh.sel [2] [0] 0 (by decide) (by decide) rfl rfl rfl) ?_
      refine p_free rfl rfl rfl rfl (fun _ _ => v_build (vs := [(0, _), (1, _)]) (cells := [_, _, _]) rfl rfl) ?_
      refine p_one rfl ?_
      refine g_stSA (us := #[_, _, _]) (cs' := [_, _, _]) (S' := [_, _, _]) 1 (fun w => Try.sizeOf89 w) rfl rfl rfl rfl rfl rfl rfl ?_
      refine p_next (fun w hh => hh.sel [2] [0] 0 (by decide) (by decide) rfl rfl rfl) ?_
      refine p_done ?_
      obtain rfl := Option.some.inj hm
      exact g_leaf b_5 (trivial) ((.cons rfl (.cons rfl (.cons rfl (.cons rfl (.cons rfl (.cons rfl (.cons rfl (.cons rfl .nil))))))))) (fun w hh => hh.sel [0, 2, 1] [0] 0 (by decide) (by decide) rfl rfl rfl)
     exact p_nil
    ·intro l_3 hj
     replace hm := h12
     refine g_n_then ?_
     refine g_seq ?_
     refine g_region ?_
     refine g_val rfl rfl rfl (fun w hh => v_loadAgg (vs := [_, _, _, _, _]) (Try.isAgg29 w) (Try.sizeOf29 w) rfl (hh.cells 1 rfl rfl)) ?_
     refine g_val rfl rfl rfl (fun _ _ => v_move rfl) ?_
     refine g_val rfl rfl rfl (fun w _ => v_fieldAddr 0 (Try.runUnderlying89 w) rfl (Try.sizeOf3 w) rfl) ?_
     refine g_val rfl rfl rfl (fun w hh => v_load (Try.isAgg3 w) rfl (hh.cell 2 rfl rfl)) ?_
     refine g_val rfl rfl rfl (fun w _ => v_fieldAddr 1 (Try.runUnderlying89 w) rfl (Try.sizeOf3 w) rfl) ?_
     refine g_val rfl rfl rfl (fun w hh => v_load (Try.isAgg3 w) rfl (hh.cell 2 rfl rfl)) ?_
     refine g_val rfl rfl rfl (fun _ _ => v_move rfl) ?_
     obtain ⟨t38, h37, hm⟩ := bindO hm
     refine g_callH [] [] rfl rfl rfl rfl rfl rfl rfl (fun a w => Try.call29 a w) (fun w hh => c_laurellaw01_wet s1 g2 o_1.l12.min o_1.l12.place truth3 qa1 na1 ca1 qa2 na2 ca2 qa3 na3 ca3 qa4 na4 ca4 w (HV.callee (S0 := []) (vs0 := []) hh (roC (hh.rsep (S0 := []) (vs0 := []) 1 rfl) (roC (hh.rsep (S0 := []) (vs0 := []) 2 rfl) (roC (hh.rsep (S0 := []) (vs0 := []) 3 rfl) (roC (hh.rsep (S0 := []) (vs0 := []) 4 rfl) roN))))) hna1 hqa1 hla1 hna2 hqa2 hla2 hna3 hqa3 hla3 hna4 hqa4 hla4 h37) (fun l_18 h38 => ?_)
     refine g_val rfl rfl rfl (fun w _ => v_fieldAddr 2 (Try.runUnderlying89 w) rfl (Try.sizeOf4 w) rfl) ?_
     refine g_stS (cs' := #[_, _, _]) (S' := [_, _, _]) 2 (fun w => Try.sizeOf4 w) rfl rfl rfl rfl rfl rfl rfl ?_
     refine g_nil ?_
     refine g_n_then ?_
     refine g_region ?_
     refine g_val rfl rfl rfl (fun _ _ => v_move rfl) ?_
     refine g_val rfl rfl rfl (fun w hh => v_loadAgg (vs := [_, _, _]) (Try.isAgg89 w) (Try.sizeOf89 w) rfl (hh.cells 2 rfl rfl)) ?_
     refine g_vlit RL [(⟨o_1.l12.min, o_1.l12.place, t38⟩ : Look)] (ps := [(0, _)]) (cells := [_, _, _]) (fun w => Try.runUnderlying35 w) (fun w => Try.sizeOf89 w) (fun w => Try.zeroValue89 w) rfl rfl rfl rfl rfl rfl rfl rfl (fun L h39 => ?_)
     obtain ⟨t43, h40, hm⟩ := bindO hm
     refine g_vapp RL 1 h40 Try.underlying35 gxinf89 rfl rfl rfl rfl rfl h8 rfl rfl (vlen RL h39 rfl) (AOK.q (vne h39)) (fun w hh => (hh.vsegA 0 rfl h39)) rfl (fun L_1 h41 h41n => ?_)
     refine g_sel (S' := [_, _, _]) (vs' := [_, _]) [0, 1, 2] [0, 1] 0 (by decide) (by decide) rfl rfl rfl ?_
     refine g_val rfl rfl rfl (fun _ _ => v_assign rfl) ?_
     refine g_nil ?_
     refine g_n_blk ?_
     refine g_n_then ?_
     refine g_region ?_
     obtain ⟨t44, h42, hm⟩ := bindO hm
     refine g_val rfl rfl rfl (fun _ _ => v_addc h42 rfl rfl) ?_
     refine g_val rfl rfl rfl (fun _ _ => v_move rfl) ?_
     refine g_nil ?_
     obtain rfl := Option.some.inj hm
     refine g_n_then ?_
     exact g_again' _ L_1 rfl (h41) ((.cons rfl (.cons rfl (.cons rfl (.cons rfl (.cons rfl (.cons rfl (.cons rfl .nil)))))))) (fun w hh => hh.sel [0, 1] [1] 0 (by decide) (by decide) rfl rfl rfl)
   ·replace hm := ifF (of_decide_eq_false h10) hm
    refine g_exit ?_
    refine g_x_then ?_
    refine g_x_then ?_
    refine g_x_blk ?_
    obtain rfl := Option.some.inj hm
    have hbo := h9 _ rfl
    subst hbo
    exact g_leaf l_2 (h8) ((.cons rfl .nil)) (fun w hh => hh)
  ·intro l_1 hj
   have h7 := hj
   replace hm := h6
   refine g_n_then ?_
   refine g_seq ?_
   refine g_region ?_
   refine g_val rfl rfl rfl (fun _ _ => v_move rfl) ?_
   refine g_val rfl rfl rfl (fun _ _ => v_assign rfl) ?_
   refine g_nil ?_
   refine g_n_then ?_
   refine g_ret ?_
   obtain rfl := Option.some.inj hm
   refine g_done rfl (fun w hh => (.tmp rfl .nil)) (fun w hh => ⟨l_1, rfl, h7, hh.sel [0] [0] 5 (by decide) (by decide) rfl rfl rfl⟩)
def m_slices_Clone_tideLooktideLook (s0 : (List Look)) : Option (List Look) :=
 if 0 < (s0.length : Int) then ((appc 24 [] s0).bind fun t7 =>
 some t7) else none
set_option maxRecDepth 100000 in
set_option maxHeartbeats 4000000 in
theorem c_slices_Clone_tideLooktideLook (s0 : (List Look)) (qa0 : Option Addr) (na0 ca0 : Nat) (w : World) (hw : HV w (keys [] []) [] [] [(aB qa0, aO qa0, RL.enc s0)] w) (hna0 : s0.length = na0) (hqa0 : AOK na0 qa0) (hla0 : na0 ≤ ca0) {res : (List Look)} (hm : m_slices_Clone_tideLooktideLook s0 = some res) :
    Calls Try.prog 72 #[.slice qa0 na0 ca0] w (fun en w' => ∃ l : VL, en = .returned (slv l.q l.n l.cap) ∧ (VOK 3 l.n l.cap (RL.enc res) l.sp l.q) ∧ HV w (keys [] []) [] [⟨89, RL.enc res, l.sp, l.q⟩] [] w') := by
  unfold m_slices_Clone_tideLooktideLook at hm
  refine g_enter (args := [.slice qa0 na0 ca0]) Try.func72 rfl Try.ntmps72 rfl (e := [(0, _)]) rfl (H := HV w (keys [] []) [] [] [(aB qa0, aO qa0, RL.enc s0)]) hw ?_
  refine g_seq ?_
  refine g_region ?_
  refine g_val rfl rfl rfl (fun _ _ => v_nilS rfl) ?_
  refine g_nil ?_
  refine g_n_then ?_
  refine g_seq ?_
  refine g_seq ?_
  refine g_region ?_
  refine g_val rfl rfl rfl (fun _ _ => v_move rfl) ?_
  obtain ⟨h2, hm⟩ := ifO hm
  refine g_val rfl rfl rfl (fun w _ => v_eqlNe hqa0 (len_posN hna0 h2) (Try.runUnderlying35 w) rfl rfl) ?_
  refine g_nil ?_
  refine g_n_then ?_
  refine g_condF rfl rfl ?_
  refine g_skip ?_
  refine g_n_then ?_
  refine g_seq ?_
  refine g_region ?_
  refine g_vlit0 RL (fun w => Try.runUnderlying35 w) (fun w => Try.sizeOf89 w) rfl rfl (fun L h3 => ?_)
  refine g_val rfl rfl rfl (fun _ _ => v_move rfl) ?_
  obtain ⟨t7, h4, hm⟩ := bindO hm
  refine g_vapp RL 0 h4 Try.underlying35 gxinf89 rfl rfl rfl rfl rfl h3 rfl rfl hna0 hqa0 (fun w hh => (hh.seg 0 rfl)) rfl (fun L_1 h5 h5n => ?_)
  refine g_sel (S' := []) (vs' := [_]) [] [0] 0 (by decide) (by decide) rfl rfl rfl ?_
  refine g_val rfl rfl rfl (fun _ _ => v_assign rfl) ?_
  refine g_nil ?_
  refine g_n_then ?_
  refine g_ret ?_
  obtain rfl := Option.some.inj hm
  refine g_done rfl (fun w hh => (.tmp rfl .nil)) (fun w hh => ⟨L_1, rfl, h5, hh.sel [] [0] 1 (by decide) (by decide) rfl rfl rfl⟩)
def m_slices_Delete_tideLooktideLook_1 (s0 : (List Look)) (i1 : Int) (j2 : Int) : Option (List Look) :=
 if 0 ≤ i1 ∧ i1 ≤ j2 ∧ j2 ≤ (s0.length : Int) then (if i1 = j2 then
 (some s0) else
 (if 0 ≤ i1 ∧ i1 ≤ (s0.length : Int) then (if 0 ≤ j2 ∧ j2 ≤ (s0.length : Int) then (if i1 < j2 then (if ((s0.take (Int.toNat i1) ++ s0.drop (Int.toNat j2)).length : Int) ≤ (s0.length : Int) then (some (s0.take (Int.toNat i1) ++ s0.drop (Int.toNat j2))) else none) else none) else none) else none)) else none
set_option maxRecDepth 100000 in
set_option maxHeartbeats 4000000 in
theorem c_slices_Delete_tideLooktideLook_1 (s0 : (List Look)) (i1 : Int) (j2 : Int) (V_s0 : VL) (w : World) (hw : HV w (keys [] [⟨89, RL.enc s0, V_s0.sp, V_s0.q⟩]) [] [⟨89, RL.enc s0, V_s0.sp, V_s0.q⟩] [] w) (hv_s0 : VOK 3 V_s0.n V_s0.cap (RL.enc s0) V_s0.sp V_s0.q) {res : (List Look)} (hm : m_slices_Delete_tideLooktideLook_1 s0 i1 j2 = some res) :
    Calls Try.prog 71 #[slv V_s0.q V_s0.n V_s0.cap, .int .i64 i1, .int .i64 j2] w (fun en w' => ∃ l : VL, en = .returned (slv l.q l.n l.cap) ∧ (VOK 3 l.n l.cap (RL.enc res) l.sp l.q) ∧ HV w (keys [] [⟨89, RL.enc s0, V_s0.sp, V_s0.q⟩]) [] [⟨89, RL.enc res, l.sp, l.q⟩] [] w') := by
  unfold m_slices_Delete_tideLooktideLook_1 at hm
  refine g_enter (args := [slv V_s0.q V_s0.n V_s0.cap, .int .i64 i1, .int .i64 j2]) Try.func71 rfl Try.ntmps71 rfl (e := [(0, _), (1, _), (2, _)]) rfl (H := HV w (keys [] [⟨89, RL.enc s0, V_s0.sp, V_s0.q⟩]) [] [⟨89, RL.enc s0, V_s0.sp, V_s0.q⟩] []) hw ?_
  refine g_seq ?_
  refine g_region ?_
  refine g_val rfl rfl rfl (fun _ _ => v_nilS rfl) ?_
  refine g_nil ?_
  refine g_n_then ?_
  refine g_seq ?_
  refine g_region ?_
  refine g_val rfl rfl rfl (fun _ _ => v_move rfl) ?_
  refine g_val rfl rfl rfl (fun _ _ => v_move rfl) ?_
  refine g_val rfl rfl rfl (fun _ _ => v_move rfl) ?_
  refine g_val rfl rfl rfl (fun _ _ => v_move rfl) ?_
  refine g_val rfl rfl rfl (fun w _ => v_lenN (vlen RL hv_s0 rfl) (Try.runUnderlying35 w) rfl) ?_
  obtain ⟨h2, hm⟩ := ifO hm
  refine g_val rfl rfl rfl (fun w _ => v_slice3 (Try.runUnderlying35 w) (Try.sizeOf89 w) rfl rfl rfl rfl h2.1 h2.2.1 h2.2.2 (cap_le (vlen RL hv_s0 rfl) (hv_s0).hle rfl)) ?_
  refine g_nil ?_
  refine g_n_then ?_
  refine g_seq ?_
  refine g_seq ?_
  refine g_region ?_
  refine g_val rfl rfl rfl (fun _ _ => v_move rfl) ?_
  refine g_val rfl rfl rfl (fun _ _ => v_move rfl) ?_
  refine g_val rfl rfl rfl (fun _ _ => v_eql rfl rfl) ?_
  refine g_nil ?_
  refine g_n_then ?_
  refine g_cond rfl (fun h3 => ?_) (fun h3 => ?_)
  ·replace hm := ifT (of_decide_eq_true h3) hm
   refine g_seq ?_
   refine g_region ?_
   refine g_val rfl rfl rfl (fun _ _ => v_move rfl) ?_
   refine g_val rfl rfl rfl (fun _ _ => v_assign rfl) ?_
   refine g_nil ?_
   refine g_n_then ?_
   refine g_ret ?_
   refine g_r_then ?_
   obtain rfl := Option.some.inj hm
   refine g_done rfl (fun w hh => (.tmp rfl .nil)) (fun w hh => ⟨V_s0, rfl, hv_s0, hh⟩)
  ·replace hm := ifF (of_decide_eq_false h3) hm
   refine g_skip ?_
   refine g_n_then ?_
   refine g_seq ?_
   refine g_region ?_
   refine g_val rfl rfl rfl (fun _ _ => v_move rfl) ?_
   refine g_val rfl rfl rfl (fun w _ => v_lenN (vlen RL hv_s0 rfl) (Try.runUnderlying35 w) rfl) ?_
   refine g_val rfl rfl rfl (fun _ _ => v_assign rfl) ?_
   refine g_nil ?_
   refine g_n_then ?_
   refine g_seq ?_
   refine g_draw none (.free 0 (.free 1 (.free 2 (.free 3 (.free 4 (.free 5 (.one 6 (.free 7 .done)))))))) (HV _ _ [] [] _) rfl (by decide +kernel) (fun w k hh => hh.draw k) (fun w hh => hh.sel [] [] 0 (by decide) (by decide) rfl rfl rfl) ?_
   refine p_free rfl rfl rfl rfl (fun _ _ => v_move rfl) ?_
   refine p_free rfl rfl rfl rfl (fun _ _ => v_move rfl) ?_
   obtain ⟨h4, hm⟩ := ifO hm
   refine p_free rfl rfl rfl rfl (fun w _ => v_slicePre (Try.runUnderlying35 w) (Try.sizeOf89 w) rfl rfl h4.1 (pre_hle (vlen RL hv_s0 rfl) h4 (hv_s0).hle)) ?_
   refine p_free rfl rfl rfl rfl (fun _ _ => v_move rfl) ?_
   refine p_free rfl rfl rfl rfl (fun _ _ => v_move rfl) ?_
   obtain ⟨h5, hm⟩ := ifO hm
   refine p_free rfl rfl rfl rfl (fun w _ => v_sliceFrom (Try.runUnderlying35 w) (Try.sizeOf89 w) rfl rfl h5.1 (tail_in (vlen RL hv_s0 rfl) h5) (hv_s0).hle) ?_
   refine p_one rfl ?_
   obtain ⟨h6, hm⟩ := ifO hm
   refine g_vself RL 0 (fun w => Try.runUnderlying35 w) (fun w => Try.sizeOf89 w) rfl rfl rfl hv_s0 ⟨h4.1, h6, h5.2⟩ rfl rfl rfl (fun L h8 h7 => ?_)
   have h9 : V_s0.n ≤ L.cap := by rw [h8]; exact (hv_s0).hle
   refine g_sel (S' := []) (vs' := [_]) [] [0] 0 (by decide) (by decide) rfl rfl rfl ?_
   refine p_next (fun w hh => hh.sel [] [] 0 (by decide) (by decide) rfl rfl rfl) ?_
   refine p_free rfl rfl rfl rfl (fun _ _ => v_assign rfl) ?_
   refine p_done ?_
   refine g_n_then ?_
   refine g_seq ?_
   refine g_region ?_
   refine g_val rfl rfl rfl (fun _ _ => v_move rfl) ?_
   refine g_val rfl rfl rfl (fun _ _ => v_move rfl) ?_
   refine g_val rfl rfl rfl (fun w _ => v_lenN (vlen RL h7 rfl) (Try.runUnderlying35 w) rfl) ?_
   refine g_val rfl rfl rfl (fun _ _ => v_move rfl) ?_
   obtain ⟨h10, hm⟩ := ifO hm
   refine g_val rfl rfl rfl (fun w _ => v_sliceMid (Try.runUnderlying35 w) (Try.sizeOf89 w) rfl rfl rfl (Int.natCast_nonneg _) h10 (cap_le (vlen RL hv_s0 rfl) h9 rfl)) ?_
   refine g_vclearX RL 0 (fun w => Try.runUnderlying35 w) (fun w => Try.zeroValue89 w) rfl rfl rfl rfl rfl h7 ⟨rfl, h10, (cap_le (vlen RL hv_s0 rfl) h9 rfl)⟩ rfl (fun sp h11 => ?_)
   refine g_sel (S' := []) (vs' := [_]) [] [0] 0 (by decide) (by decide) rfl rfl rfl ?_
   refine g_nil ?_
   refine g_n_then ?_
   refine g_seq ?_
   refine g_region ?_
   refine g_val rfl rfl rfl (fun _ _ => v_move rfl) ?_
   refine g_val rfl rfl rfl (fun _ _ => v_assign rfl) ?_
   refine g_nil ?_
   refine g_n_then ?_
   refine g_ret ?_
   obtain rfl := Option.some.inj hm
   refine g_done rfl (fun w hh => (.tmp rfl .nil)) (fun w hh => ⟨⟨L.q, L.n, L.cap, sp⟩, rfl, h11, hh⟩)
end Go.Proofs.Wk

