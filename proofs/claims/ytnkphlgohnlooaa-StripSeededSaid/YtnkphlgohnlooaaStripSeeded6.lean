/- What the functions that the law StripSeeded reaches come to, and why it holds: part 6. -/
import Derived.Test.YtnkphlgohnlooaaStripSeeded5
import Derived.Deep.Slices
import Derived.ChangeArms
namespace Go.Proofs.Ws
set_option maxHeartbeats 4000000
set_option maxRecDepth 100000
open Go Go.Fw Go.Gx Go.Sp
set_option linter.unusedVariables false

structure m_laurelkit_Pile_R where
  t5_1 : Int
  t5_2 : Int
def m_laurelkit_Pile (shells0 : (List Int)) : Option m_laurelkit_Pile_R :=
 some (⟨0, 0⟩ : m_laurelkit_Pile_R)
theorem c_laurelkit_Pile (shells0 : (List Int)) (qa0 : Option Addr) (na0 ca0 : Nat) (w : World) (hw : HV w (keys [] []) [] [] [(aB qa0, aO qa0, RU8.enc shells0)] w) (hna0 : shells0.length = na0) (hqa0 : AOK na0 qa0) (hla0 : na0 ≤ ca0) {res : m_laurelkit_Pile_R} (hm : m_laurelkit_Pile shells0 = some res) :
    Calls Try.prog 12 #[.slice qa0 na0 ca0] w (fun en w' => ∃ l : Nat, en = .returned (ptr l 0) ∧ (True) ∧ HV w (keys [] []) [(l, .cells #[.slice qa0 na0 ca0, .int .i64 res.t5_1, .int .u32 res.t5_2] 105 (0, 0))] [] [] w') := by
  unfold m_laurelkit_Pile at hm
  refine g_en Try.func12 rfl Try.ntmps12 rfl (e := [(0, _)]) rfl hw (g_sr (g_as rfl rfl (g_nx (g_mv rfl rfl (g_val rfl rfl rfl (fun _ _ => v_build (vs := [(0, _)]) (cells := [_, _, _]) rfl rfl) ?_)))))
  refine g_boxV rfl rfl (fun b h1 => ?_)
  refine g_as rfl rfl (g_nt (g_ret ?_))
  obtain rfl := sj hm
  refine g_done rfl (fun w hh => (.tmp rfl .nil)) (fun w hh => ⟨b, rfl, trivial, hh.se [0] [] 1 rfl rfl rfl rfl⟩)
structure m_laurelkit_Heap_pick_1_R where
  r0 : Int
  h0_1 : Int
  h0_2 : Int
structure m_laurelkit_Heap_pick_1_C1 where
  h0_1 : Int
  h0_2 : Int
def m_laurelkit_Heap_pick_1 (h00 : (List Int)) (h01 : Int) (h02 : Int) : Option m_laurelkit_Heap_pick_1_R :=
 (if h01 < (h00.length : Int) then
 ((ix h00 h01).bind fun t29 =>
 some (IntKind.u32.wrap ((IntKind.u32.wrap (40503 * (IntKind.u32.wrap (h02 + 1)))) + (IntKind.u32.wrap (331 * (IntKind.u32.wrap t29)))))) else
 (some (IntKind.u32.wrap (40503 * (IntKind.u32.wrap (h02 + 1)))))).bind fun o =>
 ((addc h01 1).bind fun t38 =>
 if (h00.length : Int) ≤ t38 then
 (some (⟨0, (IntKind.u32.wrap (h02 + 1))⟩ : m_laurelkit_Heap_pick_1_C1)) else
 (some (⟨t38, h02⟩ : m_laurelkit_Heap_pick_1_C1))).bind fun o_1 =>
 some (⟨(IntKind.i64.wrap (IntKind.u32.wrap (BitVec.ofInt IntKind.u32.bits (IntKind.u32.wrap (BitVec.ofInt IntKind.u32.bits o ^^^ BitVec.ofInt IntKind.u32.bits (Int.fdiv o (2 ^ min (Int.toNat 9) IntKind.u32.bits))).toNat) &&& BitVec.ofInt IntKind.u32.bits 32767).toNat)), o_1.h0_1, o_1.h0_2⟩ : m_laurelkit_Heap_pick_1_R)
theorem c_laurelkit_Heap_pick_1 (h00 : (List Int)) (h01 : Int) (h02 : Int) (pb : Nat) (qa0 : Option Addr) (na0 ca0 : Nat) (w : World) (hw : HV w (keys [(pb, .cells #[.slice qa0 na0 ca0, .int .i64 h01, .int .u32 h02] 105 (0, 0))] []) [(pb, .cells #[.slice qa0 na0 ca0, .int .i64 h01, .int .u32 h02] 105 (0, 0))] [] [(aB qa0, aO qa0, RU8.enc h00)] w) (hna0 : h00.length = na0) (hqa0 : AOK na0 qa0) (hla0 : na0 ≤ ca0) {res : m_laurelkit_Heap_pick_1_R} (hm : m_laurelkit_Heap_pick_1 h00 h01 h02 = some res) :
    Calls Try.prog 90 #[ptr pb 0] w (fun en w' => ∃ l : Unit, en = .returned (.int .i64 res.r0) ∧ (True) ∧ HV w (keys [(pb, .cells #[.slice qa0 na0 ca0, .int .i64 h01, .int .u32 h02] 105 (0, 0))] []) [(pb, .cells #[.slice qa0 na0 ca0, .int .i64 res.h0_1, .int .u32 res.h0_2] 105 (0, 0))] [] [] w') := by
  unfold m_laurelkit_Heap_pick_1 at hm
  refine g_en Try.func90 rfl Try.ntmps90 rfl (e := [(0, _)]) rfl hw (g_sr (g_as rfl rfl (g_nx (g_mv rfl rfl (g_val rfl rfl rfl (fun _ _ => v_nilCheck rfl) (g_fa 2 Try.runUnderlying105 rfl Try.sizeOf103 rfl rfl (g_lc 0 Try.isAgg103 rfl rfl rfl rfl ?_)))))))
  refine g_val rfl rfl rfl (fun _ _ => v_addW rfl rfl) (g_val rfl rfl rfl (fun _ _ => v_mulW rfl rfl) (g_as rfl rfl (g_nt (g_seq ?_))))
  obtain ⟨o, h1, h2⟩ := bindO hm
  refine g_cut (ι := Unit) (fun l => True) (fun l => [(0, ptr pb 0), (3, .int .u32 o)]) (fun l => [(pb, .cells #[.slice qa0 na0 ca0, .int .i64 h01, .int .u32 h02] 105 (0, 0))]) (fun l => []) ?_ ?_
  ·replace hm := h1
   refine g_seq ?_
   refine g_draw none (.free 0 (.free 1 (.free 2 (.hoist 3 (.free 4 (.free 5 (.free 6 (.hoist 7 (.free 8 (.free 9 .done)))))))))) _ rfl (by decide +kernel) (fun w k hh => hh.draw k) (fun w hh => hh) ?_
   refine p_free rfl rfl rfl rfl (fun _ _ => v_move rfl) (p_free rfl rfl rfl rfl (fun _ _ => v_nilCheck rfl) (p_free rfl rfl rfl rfl (fun w _ => v_fieldAddr 1 (Try.runUnderlying105 w) rfl (Try.sizeOf3 w) rfl) (p_hoist rfl rfl rfl rfl (fun w hh => v_load (Try.isAgg3 w) rfl (hh.cell 0 rfl rfl)) (p_free rfl rfl rfl rfl (fun _ _ => v_move rfl) (p_free rfl rfl rfl rfl (fun _ _ => v_nilCheck rfl) (p_free rfl rfl rfl rfl (fun w _ => v_fieldAddr 0 (Try.runUnderlying105 w) rfl (Try.sizeOf22 w) rfl) (p_hoist rfl rfl rfl rfl (fun w hh => v_load (Try.isAgg22 w) rfl (hh.cell 0 rfl rfl)) ?_)))))))
   refine p_free rfl rfl rfl rfl (fun w _ => v_lenR hna0 (Try.runUnderlying22 w) rfl) (p_free rfl rfl rfl rfl (fun _ _ => v_lss rfl rfl) (p_done (g_n_then ?_)))
   refine g_cond rfl (fun h3 => ?_) (fun h3 => ?_)
   ·replace hm := ifD h3 hm
    refine g_draw none (.free 0 (.free 1 (.free 2 (.free 3 (.hoist 4 (.free 5 (.free 6 (.free 7 (.hoist 8 (.free 9 (.hoist 10 (.free 11 (.free 12 (.free 13 (.free 14 .done))))))))))))))) _ rfl (by decide +kernel) (fun w k hh => hh.draw k) (fun w hh => hh) ?_
    refine p_free rfl rfl rfl rfl (fun _ _ => v_move rfl) (p_free rfl rfl rfl rfl (fun _ _ => v_move rfl) (p_free rfl rfl rfl rfl (fun _ _ => v_nilCheck rfl) (p_free rfl rfl rfl rfl (fun w _ => v_fieldAddr 0 (Try.runUnderlying105 w) rfl (Try.sizeOf22 w) rfl) (p_hoist rfl rfl rfl rfl (fun w hh => v_load (Try.isAgg22 w) rfl (hh.cell 0 rfl rfl)) (p_free rfl rfl rfl rfl (fun _ _ => v_move rfl) (p_free rfl rfl rfl rfl (fun _ _ => v_nilCheck rfl) (p_free rfl rfl rfl rfl (fun w _ => v_fieldAddr 1 (Try.runUnderlying105 w) rfl (Try.sizeOf3 w) rfl) ?_)))))))
    refine p_hoist rfl rfl rfl rfl (fun w hh => v_load (Try.isAgg3 w) rfl (hh.cell 0 rfl rfl)) ?_
    obtain ⟨t29, h4, hm⟩ := bindO hm
    refine p_free rfl rfl rfl rfl (fun w _ => v_ixR h4 (Try.runUnderlying22 w) (Try.sizeOf5 w) rfl rfl hna0 hqa0) (p_hoist rfl rfl rfl rfl (fun w hh => v_ldE RU8 0 h4 (Try.isAgg5 w) rfl (hh.seg 0 rfl) rfl (Nat.add_zero _).symm) (p_free rfl rfl rfl rfl (fun w _ => v_conv (Try.runUnderlying5 w) (Try.runUnderlying103 w) rfl) (p_free rfl rfl rfl rfl (fun _ _ => v_mulW rfl rfl) (p_free rfl rfl rfl rfl (fun _ _ => v_addW rfl rfl) (p_free rfl rfl rfl rfl (fun _ _ => v_assign rfl) (p_done ?_))))))
    obtain rfl := sj hm
    exact g_leaf () (trivial) (sE rfl) (fun w hh => hh)
   ·replace hm := ifE h3 hm
    refine g_skip ?_
    obtain rfl := sj hm
    exact g_leaf () (trivial) (sE rfl) (fun w hh => hh)
  ·intro l hj
   replace hm := h2
   refine g_n_then (g_seq ?_)
   obtain ⟨o_1, h5, h6⟩ := bindO hm
   refine g_cut (ι := Unit) (fun l_1 => True) (fun l_1 => [(3, .int .u32 o)]) (fun l_1 => [(pb, .cells #[.slice qa0 na0 ca0, .int .i64 o_1.h0_1, .int .u32 o_1.h0_2] 105 (0, 0))]) (fun l_1 => []) ?_ ?_
   ·replace hm := h5
    refine g_sr (g_mv rfl rfl (g_val rfl rfl rfl (fun _ _ => v_nilCheck rfl) (g_fa 1 Try.runUnderlying105 rfl Try.sizeOf3 rfl rfl (g_lc 0 Try.isAgg3 rfl rfl rfl rfl ?_))))
    obtain ⟨t38, h7, hm⟩ := bindO hm
    refine g_ac h7 rfl rfl rfl (g_val rfl rfl rfl (fun _ _ => v_nilCheck rfl) (g_fa 1 Try.runUnderlying105 rfl Try.sizeOf3 rfl rfl (g_stS (cs' := #[_, _, _]) (S' := [_]) 0 (fun w => Try.sizeOf3 w) rfl rfl rfl rfl rfl rfl rfl (g_nt (g_seq ?_)))))
    refine g_draw none (.free 0 (.free 1 (.free 2 (.hoist 3 (.free 4 (.free 5 (.free 6 (.hoist 7 (.free 8 (.free 9 .done)))))))))) _ rfl (by decide +kernel) (fun w k hh => hh.draw k) (fun w hh => hh) ?_
    refine p_free rfl rfl rfl rfl (fun _ _ => v_move rfl) (p_free rfl rfl rfl rfl (fun _ _ => v_nilCheck rfl) (p_free rfl rfl rfl rfl (fun w _ => v_fieldAddr 1 (Try.runUnderlying105 w) rfl (Try.sizeOf3 w) rfl) (p_hoist rfl rfl rfl rfl (fun w hh => v_load (Try.isAgg3 w) rfl (hh.cell 0 rfl rfl)) (p_free rfl rfl rfl rfl (fun _ _ => v_move rfl) (p_free rfl rfl rfl rfl (fun _ _ => v_nilCheck rfl) (p_free rfl rfl rfl rfl (fun w _ => v_fieldAddr 0 (Try.runUnderlying105 w) rfl (Try.sizeOf22 w) rfl) (p_hoist rfl rfl rfl rfl (fun w hh => v_load (Try.isAgg22 w) rfl (hh.cell 0 rfl rfl)) ?_)))))))
    refine p_free rfl rfl rfl rfl (fun w _ => v_lenR hna0 (Try.runUnderlying22 w) rfl) (p_free rfl rfl rfl rfl (fun _ _ => v_geq rfl rfl) (p_done (g_n_then ?_)))
    refine g_cond rfl (fun h8 => ?_) (fun h8 => ?_)
    ·replace hm := ifD h8 hm
     refine g_region (g_mv rfl rfl (g_mv rfl rfl (g_mv rfl rfl (g_val rfl rfl rfl (fun _ _ => v_nilCheck rfl) (g_fa 2 Try.runUnderlying105 rfl Try.sizeOf103 rfl rfl (g_lc 0 Try.isAgg103 rfl rfl rfl rfl (g_val rfl rfl rfl (fun _ _ => v_addW rfl rfl) ?_)))))))
     refine g_val rfl rfl rfl (fun _ _ => v_nilCheck rfl) (g_fa 1 Try.runUnderlying105 rfl Try.sizeOf3 rfl rfl (g_stS (cs' := #[_, _, _]) (S' := [_]) 0 (fun w => Try.sizeOf3 w) rfl rfl rfl rfl rfl rfl rfl (g_val rfl rfl rfl (fun _ _ => v_nilCheck rfl) (g_fa 2 Try.runUnderlying105 rfl Try.sizeOf103 rfl rfl (g_stS (cs' := #[_, _, _]) (S' := [_]) 0 (fun w => Try.sizeOf103 w) rfl rfl rfl rfl rfl rfl rfl (g_nil ?_))))))
     obtain rfl := sj hm
     exact g_leaf () (trivial) (sE rfl) (fun w hh => hh)
    ·replace hm := ifE h8 hm
     refine g_skip ?_
     obtain rfl := sj hm
     exact g_leaf () (trivial) (sE rfl) (fun w hh => hh)
   ·intro l_1 hj
    replace hm := h6
    refine g_n_then (g_sr (g_mv rfl rfl (g_mv rfl rfl (g_val rfl rfl rfl (fun _ _ => v_shr rfl rfl (by decide)) (g_val rfl rfl rfl (fun _ _ => v_bits rfl rfl rfl) (g_val rfl rfl rfl (fun _ _ => v_bits rfl rfl rfl) (g_val rfl rfl rfl (fun w _ => v_conv (Try.runUnderlying103 w) (Try.runUnderlying3 w) rfl) ?_)))))))
    refine g_as rfl rfl (g_nt (g_ret ?_))
    obtain rfl := sj hm
    refine g_done rfl (fun w hh => (.tmp rfl .nil)) (fun w hh => ⟨(), rfl, trivial, hh.se [0] [] 1 rfl rfl rfl rfl⟩)
structure m_laurelkit_Heap_Upto_1_R where
  r0 : Int
  h0_1 : Int
  h0_2 : Int
def m_laurelkit_Heap_Upto_1 (h00 : (List Int)) (h01 : Int) (h02 : Int) (n1 : Int) : Option m_laurelkit_Heap_Upto_1_R :=
 (m_laurelkit_Heap_pick_1 h00 h01 h02).bind fun t6 =>
 (addc n1 1).bind fun t8 =>
 (remc t6.r0 (max 1 t8)).bind fun t10 =>
 some (⟨t10, t6.h0_1, t6.h0_2⟩ : m_laurelkit_Heap_Upto_1_R)
theorem c_laurelkit_Heap_Upto_1 (h00 : (List Int)) (h01 : Int) (h02 : Int) (n1 : Int) (pb : Nat) (qa0 : Option Addr) (na0 ca0 : Nat) (w : World) (hw : HV w (keys [(pb, .cells #[.slice qa0 na0 ca0, .int .i64 h01, .int .u32 h02] 105 (0, 0))] []) [(pb, .cells #[.slice qa0 na0 ca0, .int .i64 h01, .int .u32 h02] 105 (0, 0))] [] [(aB qa0, aO qa0, RU8.enc h00)] w) (hna0 : h00.length = na0) (hqa0 : AOK na0 qa0) (hla0 : na0 ≤ ca0) {res : m_laurelkit_Heap_Upto_1_R} (hm : m_laurelkit_Heap_Upto_1 h00 h01 h02 n1 = some res) :
    Calls Try.prog 33 #[ptr pb 0, .int .i64 n1] w (fun en w' => ∃ l : Unit, en = .returned (.int .i64 res.r0) ∧ (True) ∧ HV w (keys [(pb, .cells #[.slice qa0 na0 ca0, .int .i64 h01, .int .u32 h02] 105 (0, 0))] []) [(pb, .cells #[.slice qa0 na0 ca0, .int .i64 res.h0_1, .int .u32 res.h0_2] 105 (0, 0))] [] [] w') := by
  unfold m_laurelkit_Heap_Upto_1 at hm
  refine g_en Try.func33 rfl Try.ntmps33 rfl (e := [(0, _), (1, _)]) rfl hw (g_sr (g_as rfl rfl (g_nx (g_mv rfl rfl ?_))))
  obtain ⟨t6, h1, hm⟩ := bindO hm
  refine g_callH [_] [] rfl rfl rfl rfl rfl rfl rfl Try.call90 (fun w hh => c_laurelkit_Heap_pick_1 h00 h01 h02 pb qa0 na0 ca0 w (HV.callee (S0 := [_]) (vs0 := []) hh (roC (hh.rsep 0 rfl) roN)) hna0 hqa0 hla0 h1) (fun l h2 => ?_)
  refine g_se (S' := [_]) (vs' := []) [0] [] 0 rfl rfl rfl rfl (g_mv rfl rfl ?_)
  obtain ⟨t8, h3, hm⟩ := bindO hm
  refine g_ac h3 rfl rfl rfl (g_val rfl rfl rfl (fun _ _ => v_max rfl rfl) ?_)
  obtain ⟨t10, h4, hm⟩ := bindO hm
  refine g_val rfl rfl rfl (fun _ _ => v_remc h4 rfl rfl) (g_as rfl rfl (g_nt (g_ret ?_)))
  obtain rfl := sj hm
  refine g_done rfl (fun w hh => (.tmp rfl .nil)) (fun w hh => ⟨(), rfl, trivial, hh.se [0] [] 1 rfl rfl rfl rfl⟩)
structure m_laurelkit_Heap_From_1_R where
  r0 : Int
  h0_1 : Int
  h0_2 : Int
def m_laurelkit_Heap_From_1 (h00 : (List Int)) (h01 : Int) (h02 : Int) (lo1 : Int) (hi2 : Int) : Option m_laurelkit_Heap_From_1_R :=
 (subc hi2 lo1).bind fun t11 =>
 (m_laurelkit_Heap_Upto_1 h00 h01 h02 t11).bind fun t12 =>
 (addc lo1 t12.r0).bind fun t13 =>
 some (⟨t13, t12.h0_1, t12.h0_2⟩ : m_laurelkit_Heap_From_1_R)
theorem c_laurelkit_Heap_From_1 (h00 : (List Int)) (h01 : Int) (h02 : Int) (lo1 : Int) (hi2 : Int) (pb : Nat) (qa0 : Option Addr) (na0 ca0 : Nat) (w : World) (hw : HV w (keys [(pb, .cells #[.slice qa0 na0 ca0, .int .i64 h01, .int .u32 h02] 105 (0, 0))] []) [(pb, .cells #[.slice qa0 na0 ca0, .int .i64 h01, .int .u32 h02] 105 (0, 0))] [] [(aB qa0, aO qa0, RU8.enc h00)] w) (hna0 : h00.length = na0) (hqa0 : AOK na0 qa0) (hla0 : na0 ≤ ca0) {res : m_laurelkit_Heap_From_1_R} (hm : m_laurelkit_Heap_From_1 h00 h01 h02 lo1 hi2 = some res) :
    Calls Try.prog 42 #[ptr pb 0, .int .i64 lo1, .int .i64 hi2] w (fun en w' => ∃ l : Unit, en = .returned (.int .i64 res.r0) ∧ (True) ∧ HV w (keys [(pb, .cells #[.slice qa0 na0 ca0, .int .i64 h01, .int .u32 h02] 105 (0, 0))] []) [(pb, .cells #[.slice qa0 na0 ca0, .int .i64 res.h0_1, .int .u32 res.h0_2] 105 (0, 0))] [] [] w') := by
  unfold m_laurelkit_Heap_From_1 at hm
  refine g_en Try.func42 rfl Try.ntmps42 rfl (e := [(0, _), (1, _), (2, _)]) rfl hw (g_sr (g_as rfl rfl (g_nx (g_mv rfl rfl (g_mv rfl rfl (g_mv rfl rfl (g_mv rfl rfl ?_)))))))
  obtain ⟨t11, h1, hm⟩ := bindO hm
  refine g_val rfl rfl rfl (fun _ _ => v_subc h1 rfl rfl) ?_
  obtain ⟨t12, h2, hm⟩ := bindO hm
  refine g_callH [_] [] rfl rfl rfl rfl rfl rfl rfl Try.call33 (fun w hh => c_laurelkit_Heap_Upto_1 h00 h01 h02 t11 pb qa0 na0 ca0 w (HV.callee (S0 := [_]) (vs0 := []) hh (roC (hh.rsep 0 rfl) roN)) hna0 hqa0 hla0 h2) (fun l h3 => ?_)
  refine g_se (S' := [_]) (vs' := []) [0] [] 0 rfl rfl rfl rfl ?_
  obtain ⟨t13, h4, hm⟩ := bindO hm
  refine g_ac h4 rfl rfl rfl (g_as rfl rfl (g_nt (g_ret ?_)))
  obtain rfl := sj hm
  refine g_done rfl (fun w hh => (.tmp rfl .nil)) (fun w hh => ⟨(), rfl, trivial, hh.se [0] [] 1 rfl rfl rfl rfl⟩)
def m_laurellaw09_reaches_L0 (s0 : Scalps) (tenant1 : Int) (which2 : Int) (s : Int) : Option (Int ⊕ (Unit ⊕ Bool)) :=
 if s < (s0.strips.length : Int) then
 ((ix s0.strips s).bind fun t15 =>
 (if t15.tenant = tenant1 then
 ((subc s which2).bind fun t24 =>
 (subc which2 s).bind fun t27 =>
 some (decide ((max t24 t27) < 2))) else
 (some false)).bind fun o_1 =>
 if o_1 = true then
 (some (.inr (.inr true))) else
 ((addc s 1).bind fun t31 =>
 some (.inl t31))) else
 (some (.inr (.inl ())))
def m_laurellaw09_reaches (s0 : Scalps) (tenant1 : Int) (which2 : Int) : Option Bool :=
 (iterM FU (m_laurellaw09_reaches_L0 s0 tenant1 which2) 0).bind fun o =>
 oc o (fun j => some false) (fun r_1 => some r_1)
theorem c_laurellaw09_reaches (s0 : Scalps) (tenant1 : Int) (which2 : Int) (qa0 : Option Addr) (na0 ca0 : Nat) (qa1 : Option Addr) (na1 ca1 : Nat) (w : World) (hw : HV w (keys [] []) [] [] [(aB qa0, aO qa0, RSt.enc s0.strips), (aB qa1, aO qa1, RSp.enc s0.carried)] w) (hna0 : s0.strips.length = na0) (hqa0 : AOK na0 qa0) (hla0 : na0 ≤ ca0) (hna1 : s0.carried.length = na1) (hqa1 : AOK na1 qa1) (hla1 : na1 ≤ ca1) {res : Bool} (hm : m_laurellaw09_reaches s0 tenant1 which2 = some res) :
    Calls Try.prog 43 #[.agg #[.slice qa0 na0 ca0, .slice qa1 na1 ca1], .int .i64 tenant1, .int .i64 which2] w (fun en w' => ∃ l : Unit, en = .returned (.bool res) ∧ (True) ∧ HV w (keys [] []) [] [] [] w') := by
  unfold m_laurellaw09_reaches at hm
  refine g_en Try.func43 rfl Try.ntmps43 rfl (e := [(0, _), (1, _), (2, _)]) rfl hw (g_sr ?_)
  refine g_boxV rfl rfl (fun b h1 => ?_)
  refine g_as rfl rfl (g_nt (g_seq (g_sr (g_fa 0 Try.runUnderlying28 rfl Try.sizeOf25 rfl rfl (g_lc 0 Try.isAgg25 rfl rfl rfl rfl (g_val rfl rfl rfl (fun w _ => v_lenR hna0 (Try.runUnderlying25 w) rfl) (g_mv rfl rfl ?_)))))))
  refine g_nt ?_
  obtain ⟨o, h2, h3⟩ := bindO hm
  refine g_cut (ι := Unit) (fun j => o = .inl j) (fun j => []) (fun j => [(b, .cells #[.slice qa0 na0 ca0, .slice qa1 na1 ca1] 28 (0, 0))]) (fun j => []) ?_ ?_
  ·replace hm := h2
   refine g_block ?_
   refine g_loopF (ι := Unit) hm (fun s l => True) (fun s l => [(1, .int .i64 tenant1), (2, .int .i64 which2), (10, .slice qa0 na0 ca0), (11, .int .i64 (s0.strips.length : Int)), (12, .int .i64 s)]) (fun s l => [(b, .cells #[.slice qa0 na0 ca0, .slice qa1 na1 ca1] 28 (0, 0))]) (fun s l => []) () (trivial) (sE rfl) (fun w hh => hh) (fun s l r hpl hm h4 => ?_)
   unfold m_laurellaw09_reaches_L0 at hm
   refine g_sr (g_ls rfl rfl rfl (g_nt (g_seq ?_)))
   refine g_cond rfl (fun h5 => ?_) (fun h5 => ?_)
   ·replace hm := ifD h5 hm
    refine g_skip (g_n_then (g_seq (g_block (g_sr (g_mv rfl rfl ?_)))))
    obtain ⟨t15, h6, hm⟩ := bindO hm
    refine g_val rfl rfl rfl (fun w _ => v_ixR h6 (Try.runUnderlying25 w) (Try.sizeOf77 w) rfl rfl hna0 hqa0) ?_
    refine g_val rfl rfl rfl (fun w hh => v_ldEA RSt 0 [.int .i64 t15.tenant, .int .i64 t15.lay.lo, .int .i64 t15.lay.hi, .int .i64 t15.seeded.lo, .int .i64 t15.seeded.hi, .int .i64 t15.left.lo, .int .i64 t15.left.hi] h6 (Try.isAgg77 w) (Try.sizeOf77 w) rfl (hh.seg 0 rfl) rfl (Nat.add_zero _).symm) ?_
    refine g_allocV (fun w => Try.zeroValue77 w) rfl (fun b_1 h7 => ?_)
    refine g_as rfl rfl (g_stSA (us := #[_, _, _, _, _, _, _]) (cs' := [_, _, _, _, _, _, _]) (S' := [_, _]) 0 (fun w => Try.sizeOf77 w) rfl rfl rfl rfl rfl rfl rfl (g_nt (g_seq ?_)))
    obtain ⟨o_1, h8, h9⟩ := bindO hm
    refine g_cut (ι := Unit) (fun l_1 => True) (fun l_1 => [(1, .int .i64 tenant1), (2, .int .i64 which2), (10, .slice qa0 na0 ca0), (11, .int .i64 (s0.strips.length : Int)), (12, .int .i64 s), (30, .bool o_1)]) (fun l_1 => [(b_1, .cells #[.int .i64 t15.tenant, .int .i64 t15.lay.lo, .int .i64 t15.lay.hi, .int .i64 t15.seeded.lo, .int .i64 t15.seeded.hi, .int .i64 t15.left.lo, .int .i64 t15.left.hi] 77 (0, 0)), (b, .cells #[.slice qa0 na0 ca0, .slice qa1 na1 ca1] 28 (0, 0))]) (fun l_1 => []) ?_ ?_
    ·replace hm := h8
     refine g_region (g_fa 0 Try.runUnderlying77 rfl Try.sizeOf3 rfl rfl (g_lc 0 Try.isAgg3 rfl rfl rfl rfl (g_mv rfl rfl (g_val rfl rfl rfl (fun _ _ => v_eql rfl rfl) (g_mv rfl rfl ?_)))))
     refine g_case 21 rfl (fun h10 => ?_) (fun h10 => ?_)
     ·replace hm := ifD h10 hm
      refine v_unguard rfl rfl (g_mv rfl rfl (v_unguard rfl rfl (g_mv rfl rfl (v_unguard rfl rfl ?_))))
      obtain ⟨t24, h11, hm⟩ := bindO hm
      refine g_val rfl rfl rfl (fun _ _ => v_subc h11 rfl rfl) (v_unguard rfl rfl (g_mv rfl rfl (v_unguard rfl rfl (g_mv rfl rfl (v_unguard rfl rfl ?_)))))
      obtain ⟨t27, h12, hm⟩ := bindO hm
      refine g_val rfl rfl rfl (fun _ _ => v_subc h12 rfl rfl) (v_unguard rfl rfl (g_val rfl rfl rfl (fun _ _ => v_max rfl rfl) (v_unguard rfl rfl (g_ls rfl rfl rfl (g_pt rfl rfl rfl (g_nil ?_))))))
      obtain rfl := sj hm
      exact g_leaf () (trivial) (sE rfl) (fun w hh => hh)
     ·replace hm := ifE h10 hm
      refine g_k rfl rfl rfl rfl (g_k rfl rfl rfl rfl (g_k rfl rfl rfl rfl (g_k rfl rfl rfl rfl (g_k rfl rfl rfl rfl (g_k rfl rfl rfl rfl (g_k rfl rfl rfl rfl (g_k rfl rfl rfl rfl ?_)))))))
      refine g_pf rfl rfl rfl (g_nil ?_)
      obtain rfl := sj hm
      exact g_leaf () (trivial) (sE rfl) (fun w hh => hh)
    ·intro l_1 hj
     replace hm := h9
     refine g_n_then ?_
     refine g_cond rfl (fun h13 => ?_) (fun h13 => ?_)
     ·replace hm := ifT (h13) hm
      refine g_sr (g_as rfl rfl (g_nt (g_ret (g_r_blk (g_r_then (g_r_then (g_r_blk ?_)))))))
      obtain rfl := sj hm
      have hbo := h4 _ rfl
      subst hbo
      refine g_r_then ?_
      replace hm := ocR h3
      refine g_r_then ?_
      obtain rfl := sj hm
      refine g_done rfl (fun w hh => (.tmp rfl .nil)) (fun w hh => ⟨(), rfl, trivial, hh.se [] [] 2 rfl rfl rfl rfl⟩)
     ·replace hm := ifN h13 hm
      refine g_skip (g_n_blk (g_n_then (g_region ?_)))
      obtain ⟨t31, h14, hm⟩ := bindO hm
      refine g_ac h14 rfl rfl rfl (g_mv rfl rfl (g_nil ?_))
      obtain rfl := sj hm
      refine g_n_then ?_
      exact g_again' _ () rfl (trivial) (sE rfl) (fun w hh => hh.se [1] [] 0 rfl rfl rfl rfl)
   ·replace hm := ifE h5 hm
    refine g_exit (g_x_then (g_x_then (g_x_blk ?_)))
    obtain rfl := sj hm
    have hbo := h4 _ rfl
    subst hbo
    exact g_leaf () (rfl) (.nil) (fun w hh => hh)
  ·intro j hj
   have h15 := hj
   subst h15
   replace hm := ocL h3
   refine g_n_then (g_sr (g_as rfl rfl (g_nt (g_ret ?_))))
   obtain rfl := sj hm
   refine g_done rfl (fun w hh => (.tmp rfl .nil)) (fun w hh => ⟨(), rfl, trivial, hh.se [] [] 2 rfl rfl rfl rfl⟩)
structure m_laurelkit_Heap_Once_1_R where
  r0 : Bool
  h0_1 : Int
  h0_2 : Int
def m_laurelkit_Heap_Once_1 (h00 : (List Int)) (h01 : Int) (h02 : Int) (n1 : Int) : Option m_laurelkit_Heap_Once_1_R :=
 (subc n1 1).bind fun t7 =>
 (m_laurelkit_Heap_Upto_1 h00 h01 h02 t7).bind fun t8 =>
 some (⟨(decide (t8.r0 = 0)), t8.h0_1, t8.h0_2⟩ : m_laurelkit_Heap_Once_1_R)
theorem c_laurelkit_Heap_Once_1 (h00 : (List Int)) (h01 : Int) (h02 : Int) (n1 : Int) (pb : Nat) (qa0 : Option Addr) (na0 ca0 : Nat) (w : World) (hw : HV w (keys [(pb, .cells #[.slice qa0 na0 ca0, .int .i64 h01, .int .u32 h02] 105 (0, 0))] []) [(pb, .cells #[.slice qa0 na0 ca0, .int .i64 h01, .int .u32 h02] 105 (0, 0))] [] [(aB qa0, aO qa0, RU8.enc h00)] w) (hna0 : h00.length = na0) (hqa0 : AOK na0 qa0) (hla0 : na0 ≤ ca0) {res : m_laurelkit_Heap_Once_1_R} (hm : m_laurelkit_Heap_Once_1 h00 h01 h02 n1 = some res) :
    Calls Try.prog 34 #[ptr pb 0, .int .i64 n1] w (fun en w' => ∃ l : Unit, en = .returned (.bool res.r0) ∧ (True) ∧ HV w (keys [(pb, .cells #[.slice qa0 na0 ca0, .int .i64 h01, .int .u32 h02] 105 (0, 0))] []) [(pb, .cells #[.slice qa0 na0 ca0, .int .i64 res.h0_1, .int .u32 res.h0_2] 105 (0, 0))] [] [] w') := by
  unfold m_laurelkit_Heap_Once_1 at hm
  refine g_en Try.func34 rfl Try.ntmps34 rfl (e := [(0, _), (1, _)]) rfl hw (g_sr (g_as rfl rfl (g_nx (g_mv rfl rfl (g_mv rfl rfl ?_)))))
  obtain ⟨t7, h1, hm⟩ := bindO hm
  refine g_val rfl rfl rfl (fun _ _ => v_subc h1 rfl rfl) ?_
  obtain ⟨t8, h2, hm⟩ := bindO hm
  refine g_callH [_] [] rfl rfl rfl rfl rfl rfl rfl Try.call33 (fun w hh => c_laurelkit_Heap_Upto_1 h00 h01 h02 t7 pb qa0 na0 ca0 w (HV.callee (S0 := [_]) (vs0 := []) hh (roC (hh.rsep 0 rfl) roN)) hna0 hqa0 hla0 h2) (fun l h3 => ?_)
  refine g_se (S' := [_]) (vs' := []) [0] [] 0 rfl rfl rfl rfl (g_val rfl rfl rfl (fun _ _ => v_eql rfl rfl) (g_as rfl rfl (g_nt (g_ret ?_))))
  obtain rfl := sj hm
  refine g_done rfl (fun w hh => (.tmp rfl .nil)) (fun w hh => ⟨(), rfl, trivial, hh.se [0] [] 1 rfl rfl rfl rfl⟩)
structure m_laurellaw09_around_1_R where
  r0 : Span
  b0_1 : Int
  b0_2 : Int
def m_laurellaw09_around_1 (b00 : (List Int)) (b01 : Int) (b02 : Int) (n1 : Int) (wider2 : Int) : Option m_laurellaw09_around_1_R :=
 (m_laurelkit_Heap_Upto_1 b00 b01 b02 wider2).bind fun t10 =>
 (subc n1 t10.r0).bind fun t11 =>
 (m_laurelkit_Heap_Upto_1 b00 t10.h0_1 t10.h0_2 wider2).bind fun t16 =>
 (addc n1 t16.r0).bind fun t17 =>
 some (⟨(⟨(max 0 t11), (min 30 t17)⟩ : Span), t16.h0_1, t16.h0_2⟩ : m_laurellaw09_around_1_R)
theorem c_laurellaw09_around_1 (b00 : (List Int)) (b01 : Int) (b02 : Int) (n1 : Int) (wider2 : Int) (pb : Nat) (qa0 : Option Addr) (na0 ca0 : Nat) (w : World) (hw : HV w (keys [(pb, .cells #[.slice qa0 na0 ca0, .int .i64 b01, .int .u32 b02] 105 (0, 0))] []) [(pb, .cells #[.slice qa0 na0 ca0, .int .i64 b01, .int .u32 b02] 105 (0, 0))] [] [(aB qa0, aO qa0, RU8.enc b00)] w) (hna0 : b00.length = na0) (hqa0 : AOK na0 qa0) (hla0 : na0 ≤ ca0) {res : m_laurellaw09_around_1_R} (hm : m_laurellaw09_around_1 b00 b01 b02 n1 wider2 = some res) :
    Calls Try.prog 35 #[ptr pb 0, .int .i64 n1, .int .i64 wider2] w (fun en w' => ∃ l : Unit, en = .returned (.agg #[.int .i64 res.r0.lo, .int .i64 res.r0.hi]) ∧ (True) ∧ HV w (keys [(pb, .cells #[.slice qa0 na0 ca0, .int .i64 b01, .int .u32 b02] 105 (0, 0))] []) [(pb, .cells #[.slice qa0 na0 ca0, .int .i64 res.b0_1, .int .u32 res.b0_2] 105 (0, 0))] [] [] w') := by
  unfold m_laurellaw09_around_1 at hm
  refine g_en Try.func35 rfl Try.ntmps35 rfl (e := [(0, _), (1, _), (2, _)]) rfl hw (g_sr ?_)
  refine g_allocV (fun w => Try.zeroValue37 w) rfl (fun b h1 => ?_)
  refine g_nx (g_mv rfl rfl (g_mv rfl rfl (g_mv rfl rfl ?_)))
  obtain ⟨t10, h2, hm⟩ := bindO hm
  refine g_se (S' := [_, _]) (vs' := []) [1, 0] [] 0 rfl rfl rfl rfl ?_
  refine g_callH [_] [] rfl rfl rfl rfl rfl rfl rfl Try.call33 (fun w hh => c_laurelkit_Heap_Upto_1 b00 b01 b02 wider2 pb qa0 na0 ca0 w (HV.callee (S0 := [_]) (vs0 := []) hh (roC (hh.rsep 0 rfl) roN)) hna0 hqa0 hla0 h2) (fun l h3 => ?_)
  refine g_se (S' := [_, _]) (vs' := []) [0, 1] [] 0 rfl rfl rfl rfl ?_
  obtain ⟨t11, h4, hm⟩ := bindO hm
  refine g_val rfl rfl rfl (fun _ _ => v_subc h4 rfl rfl) (g_val rfl rfl rfl (fun _ _ => v_max rfl rfl) (g_mv rfl rfl (g_mv rfl rfl (g_mv rfl rfl ?_))))
  obtain ⟨t16, h5, hm⟩ := bindO hm
  refine g_callH [_] [] rfl rfl rfl rfl rfl rfl rfl Try.call33 (fun w hh => c_laurelkit_Heap_Upto_1 b00 t10.h0_1 t10.h0_2 wider2 pb qa0 na0 ca0 w (HV.callee (S0 := [_]) (vs0 := []) hh (roC (hh.rsep 0 rfl) roN)) hna0 hqa0 hla0 h5) (fun l_1 h6 => ?_)
  refine g_se (S' := [_, _]) (vs' := []) [0, 1] [] 0 rfl rfl rfl rfl ?_
  obtain ⟨t17, h7, hm⟩ := bindO hm
  refine g_ac h7 rfl rfl rfl (g_val rfl rfl rfl (fun _ _ => v_min rfl rfl) (g_val rfl rfl rfl (fun _ _ => v_build (vs := [(0, _), (1, _)]) (cells := [_, _]) rfl rfl) (g_stSA (us := #[_, _]) (cs' := [_, _]) (S' := [_, _]) 1 (fun w => Try.sizeOf37 w) rfl rfl rfl rfl rfl rfl rfl (g_nt (g_ret ?_)))))
  obtain rfl := sj hm
  refine g_done rfl (fun w hh => (.cell rfl (loadVar_agg (vs := [_, _]) (Try.isAgg37 _) (Try.sizeOf37 _) (hh.cells 1 rfl rfl)) .nil)) (fun w hh => ⟨(), rfl, trivial, hh.se [0] [] 1 rfl rfl rfl rfl⟩)
structure m_laurellaw09_Made_1_R where
  r0 : Scalps
  b0_1 : Int
  b0_2 : Int
  r1 : (List (List Int))
structure m_laurellaw09_Made_1_C0 where
  b0_1 : Int
  b0_2 : Int
  s8_strips : (List Strip)
structure m_laurellaw09_Made_1_S0 where
  t29 : Int
  b0_1 : Int
  b0_2 : Int
  s8_strips : (List Strip)
def m_laurellaw09_Made_1_L0 (t24 : m_laurelkit_Heap_From_1_R) (t27 : m_laurelkit_Heap_From_1_R) (b00 : (List Int)) (s : m_laurellaw09_Made_1_S0) : Option (m_laurellaw09_Made_1_S0 ⊕ m_laurellaw09_Made_1_C0) :=
 if s.t29 < t24.r0 then
 ((subc t27.r0 1).bind fun t35 =>
 (m_laurelkit_Heap_Upto_1 b00 s.b0_1 s.b0_2 t35).bind fun t36 =>
 (appc 56 s.s8_strips [(⟨t36.r0, (⟨0, 0⟩ : Span), (⟨0, 0⟩ : Span), (⟨0, 0⟩ : Span)⟩ : Strip)]).bind fun t39 =>
 (addc s.t29 1).bind fun t41 =>
 some (.inl (⟨t41, t36.h0_1, t36.h0_2, t39⟩ : m_laurellaw09_Made_1_S0))) else
 (some (.inr (⟨s.b0_1, s.b0_2, s.s8_strips⟩ : m_laurellaw09_Made_1_C0)))
structure m_laurellaw09_Made_1_C1 where
  b0_1 : Int
  b0_2 : Int
  real11 : (List (List Int))
  s8_carried : (List Span)
structure m_laurellaw09_Made_1_S1 where
  t46 : Int
  b0_1 : Int
  b0_2 : Int
  real11 : (List (List Int))
  s8_carried : (List Span)
structure m_laurellaw09_Made_1_C2 where
  sum13 : Int
  b0_1 : Int
  b0_2 : Int
  real11 : (List (List Int))
structure m_laurellaw09_Made_1_S2 where
  sum13 : Int
  t50 : Int
  b0_1 : Int
  b0_2 : Int
  real11 : (List (List Int))
structure m_laurellaw09_Made_1_C3 where
  n15 : Int
  b0_1 : Int
  b0_2 : Int
structure m_laurellaw09_Made_1_C4 where
  t70 : Bool
  b0_1 : Int
  b0_2 : Int
def m_laurellaw09_Made_1_L2 (t24 : m_laurelkit_Heap_From_1_R) (o : m_laurellaw09_Made_1_C0) (s_1 : m_laurellaw09_Made_1_S1) (b00 : (List Int)) (s_2 : m_laurellaw09_Made_1_S2) : Option (m_laurellaw09_Made_1_S2 ⊕ m_laurellaw09_Made_1_C2) :=
 if s_2.t50 < t24.r0 then
 ((((m_laurellaw09_reaches (⟨o.s8_strips, s_1.s8_carried⟩ : Scalps) s_1.t46 s_2.t50).bind fun t56 =>
 if t56 = true then
 ((ix o.s8_strips s_2.t50).bind fun t61 =>
 if t61.tenant = s_1.t46 then
 (some (⟨true, s_2.b0_1, s_2.b0_2⟩ : m_laurellaw09_Made_1_C4)) else
 ((m_laurelkit_Heap_Once_1 b00 s_2.b0_1 s_2.b0_2 4).bind fun t68 =>
 some (⟨t68.r0, t68.h0_1, t68.h0_2⟩ : m_laurellaw09_Made_1_C4))) else
 (some (⟨false, s_2.b0_1, s_2.b0_2⟩ : m_laurellaw09_Made_1_C4))).bind fun o_4 =>
 if o_4.t70 = true then
 ((m_laurelkit_Heap_Upto_1 b00 o_4.b0_1 o_4.b0_2 4).bind fun t72 =>
 some (⟨t72.r0, t72.h0_1, t72.h0_2⟩ : m_laurellaw09_Made_1_C3)) else
 (some (⟨0, o_4.b0_1, o_4.b0_2⟩ : m_laurellaw09_Made_1_C3))).bind fun o_3 =>
 (ix s_2.real11 s_1.t46).bind fun t77 =>
 (appc 8 t77 [o_3.n15]).bind fun t81 =>
 (addc s_2.sum13 o_3.n15).bind fun t84 =>
 (ix s_2.real11 s_1.t46).bind fun t85 =>
 (some (s_2.real11.set (Int.toNat s_1.t46) t81)).bind fun real11 =>
 (addc s_2.t50 1).bind fun t86 =>
 some (.inl (⟨t84, t86, o_3.b0_1, o_3.b0_2, real11⟩ : m_laurellaw09_Made_1_S2))) else
 (some (.inr (⟨s_2.sum13, s_2.b0_1, s_2.b0_2, s_2.real11⟩ : m_laurellaw09_Made_1_C2)))
def m_laurellaw09_Made_1_L1 (t43 : (List (List Int))) (t24 : m_laurelkit_Heap_From_1_R) (o : m_laurellaw09_Made_1_C0) (b00 : (List Int)) (s_1 : m_laurellaw09_Made_1_S1) : Option (m_laurellaw09_Made_1_S1 ⊕ m_laurellaw09_Made_1_C1) :=
 if s_1.t46 < (t43.length : Int) then
 ((iterM FU (m_laurellaw09_Made_1_L2 t24 o s_1 b00) (⟨0, 0, s_1.b0_1, s_1.b0_2, s_1.real11⟩ : m_laurellaw09_Made_1_S2)).bind fun o_2 =>
 (m_laurellaw09_around_1 b00 o_2.b0_1 o_2.b0_2 o_2.sum13 2).bind fun t91 =>
 (appc 16 s_1.s8_carried [t91.r0]).bind fun t93 =>
 (addc s_1.t46 1).bind fun t95 =>
 some (.inl (⟨t95, t91.b0_1, t91.b0_2, o_2.real11, t93⟩ : m_laurellaw09_Made_1_S1))) else
 (some (.inr (⟨s_1.b0_1, s_1.b0_2, s_1.real11, s_1.s8_carried⟩ : m_laurellaw09_Made_1_C1)))
structure m_laurellaw09_Made_1_C5 where
  b0_1 : Int
  b0_2 : Int
  s8_strips : (List Strip)
structure m_laurellaw09_Made_1_S3 where
  t97 : Int
  b0_1 : Int
  b0_2 : Int
  s8_strips : (List Strip)
structure m_laurellaw09_Made_1_S4 where
  gone17 : Int
  t102 : Int
def m_laurellaw09_Made_1_L4 (o_1 : m_laurellaw09_Made_1_C1) (s_3 : m_laurellaw09_Made_1_S3) (s_4 : m_laurellaw09_Made_1_S4) : Option (m_laurellaw09_Made_1_S4 ⊕ Int) :=
 if s_4.t102 < (o_1.real11.length : Int) then
 ((ix o_1.real11 s_4.t102).bind fun t108 =>
 (ix t108 s_3.t97).bind fun t111 =>
 (addc s_4.gone17 t111).bind fun t113 =>
 (addc s_4.t102 1).bind fun t114 =>
 some (.inl (⟨t113, t114⟩ : m_laurellaw09_Made_1_S4))) else
 (some (.inr s_4.gone17))
def m_laurellaw09_Made_1_L3 (t24 : m_laurelkit_Heap_From_1_R) (o_1 : m_laurellaw09_Made_1_C1) (b00 : (List Int)) (s_3 : m_laurellaw09_Made_1_S3) : Option (m_laurellaw09_Made_1_S3 ⊕ m_laurellaw09_Made_1_C5) :=
 if s_3.t97 < t24.r0 then
 ((iterM FU (m_laurellaw09_Made_1_L4 o_1 s_3) (⟨0, 0⟩ : m_laurellaw09_Made_1_S4)).bind fun o_6 =>
 (m_laurelkit_Heap_Upto_1 b00 s_3.b0_1 s_3.b0_2 3).bind fun t116 =>
 (m_laurelkit_Heap_Upto_1 b00 t116.h0_1 t116.h0_2 2).bind fun t118 =>
 (addc o_6 t116.r0).bind fun t121 =>
 (ix s_3.s8_strips s_3.t97).bind fun t126 =>
 (addc o_6 t116.r0).bind fun t133 =>
 (subc t133 (min t118.r0 t121)).bind fun t135 =>
 (m_laurellaw09_around_1 b00 t118.h0_1 t118.h0_2 t135 1).bind fun t136 =>
 (m_laurellaw09_around_1 b00 t136.b0_1 t136.b0_2 (min t118.r0 t121) 1).bind fun t139 =>
 (m_laurellaw09_around_1 b00 t139.b0_1 t139.b0_2 t116.r0 1).bind fun t142 =>
 (some (s_3.s8_strips.set (Int.toNat s_3.t97) (⟨t126.tenant, t136.r0, t126.seeded, t126.left⟩ : Strip))).bind fun s8_strips =>
 (ix s8_strips s_3.t97).bind fun x =>
 (some (s8_strips.set (Int.toNat s_3.t97) (⟨x.tenant, x.lay, t139.r0, x.left⟩ : Strip))).bind fun s8_strips_1 =>
 (ix s8_strips_1 s_3.t97).bind fun x_1 =>
 (some (s8_strips_1.set (Int.toNat s_3.t97) (⟨x_1.tenant, x_1.lay, x_1.seeded, t142.r0⟩ : Strip))).bind fun s8_strips_2 =>
 (addc s_3.t97 1).bind fun t149 =>
 some (.inl (⟨t149, t142.b0_1, t142.b0_2, s8_strips_2⟩ : m_laurellaw09_Made_1_S3))) else
 (some (.inr (⟨s_3.b0_1, s_3.b0_2, s_3.s8_strips⟩ : m_laurellaw09_Made_1_C5)))
def m_laurellaw09_Made_1 (b00 : (List Int)) (b01 : Int) (b02 : Int) (strips1 : Int) (tenants2 : Int) : Option m_laurellaw09_Made_1_R :=
 (m_laurelkit_Heap_From_1 b00 b01 b02 1 strips1).bind fun t24 =>
 (m_laurelkit_Heap_From_1 b00 t24.h0_1 t24.h0_2 1 tenants2).bind fun t27 =>
 (iterM FU (m_laurellaw09_Made_1_L0 t24 t27 b00) (⟨0, t27.h0_1, t27.h0_2, []⟩ : m_laurellaw09_Made_1_S0)).bind fun o =>
 (makec 24 ([] : (List Int)) t27.r0 t27.r0).bind fun t43 =>
 (iterM FU (m_laurellaw09_Made_1_L1 t43 t24 o b00) (⟨0, o.b0_1, o.b0_2, t43, []⟩ : m_laurellaw09_Made_1_S1)).bind fun o_1 =>
 (iterM FU (m_laurellaw09_Made_1_L3 t24 o_1 b00) (⟨0, o_1.b0_1, o_1.b0_2, o.s8_strips⟩ : m_laurellaw09_Made_1_S3)).bind fun o_5 =>
 some (⟨(⟨o_5.s8_strips, o_1.s8_carried⟩ : Scalps), o_5.b0_1, o_5.b0_2, o_1.real11⟩ : m_laurellaw09_Made_1_R)
theorem c_laurellaw09_Made_1 (b00 : (List Int)) (b01 : Int) (b02 : Int) (strips1 : Int) (tenants2 : Int) (pb : Nat) (qa0 : Option Addr) (na0 ca0 : Nat) (w : World) (hw : HV w (keys [(pb, .cells #[.slice qa0 na0 ca0, .int .i64 b01, .int .u32 b02] 105 (0, 0))] []) [(pb, .cells #[.slice qa0 na0 ca0, .int .i64 b01, .int .u32 b02] 105 (0, 0))] [] [(aB qa0, aO qa0, RU8.enc b00)] w) (hna0 : b00.length = na0) (hqa0 : AOK na0 qa0) (hla0 : na0 ≤ ca0) {res : m_laurellaw09_Made_1_R} (hm : m_laurellaw09_Made_1 b00 b01 b02 strips1 tenants2 = some res) :
    Calls Try.prog 13 #[ptr pb 0, .int .i64 strips1, .int .i64 tenants2] w (fun en w' => ∃ l : VL × VL × DL, en = .returned (.tuple #[.agg #[slv l.1.q l.1.n l.1.cap, slv l.2.1.q l.2.1.n l.2.1.cap], slv l.2.2.v.q l.2.2.v.n l.2.2.v.cap]) ∧ (VOK 7 l.1.n l.1.cap (RSt.enc res.r0.strips) l.1.sp l.1.q ∧ VOK 2 l.2.1.n l.2.1.cap (RSp.enc res.r0.carried) l.2.1.sp l.2.1.q ∧ VOK 1 l.2.2.v.n l.2.2.v.cap (RwH.enc l.2.2.rs) l.2.2.v.sp l.2.2.v.q ∧ DOK RI res.r1 l.2.2.rs) ∧ HV w (keys [(pb, .cells #[.slice qa0 na0 ca0, .int .i64 b01, .int .u32 b02] 105 (0, 0))] []) [(pb, .cells #[.slice qa0 na0 ca0, .int .i64 res.b0_1, .int .u32 res.b0_2] 105 (0, 0))] [⟨77, RSt.enc res.r0.strips, l.1.sp, l.1.q, []⟩, ⟨37, RSp.enc res.r0.carried, l.2.1.sp, l.2.1.q, []⟩, ⟨32, RwH.enc l.2.2.rs, l.2.2.v.sp, l.2.2.v.q, dbl 3 RI res.r1 l.2.2.rs⟩] [] w') := by
  unfold m_laurellaw09_Made_1 at hm
  refine g_en Try.func13 rfl Try.ntmps13 rfl (e := [(0, _), (1, _), (2, _)]) rfl hw (g_sr ?_)
  refine g_allocV (fun w => Try.zeroValue28 w) rfl (fun b h5 => ?_)
  refine g_val rfl rfl rfl (fun _ _ => v_nilS rfl) (g_nx ?_)
  refine g_allocV (fun w => Try.zeroValue28 w) rfl (fun b_1 h6 => ?_)
  refine g_nx (g_mv rfl rfl (g_mv rfl rfl ?_))
  obtain ⟨t24, h7, hm⟩ := bindO hm
  refine g_se (S' := [_, _, _]) (vs' := []) [2, 0, 1] [] 0 rfl rfl rfl rfl ?_
  refine g_callH [_] [] rfl rfl rfl rfl rfl rfl rfl Try.call42 (fun w hh => c_laurelkit_Heap_From_1 b00 b01 b02 1 strips1 pb qa0 na0 ca0 w (HV.callee (S0 := [_]) (vs0 := []) hh (roC (hh.rsep 0 rfl) roN)) hna0 hqa0 hla0 h7) (fun l h8 => ?_)
  refine g_se (S' := [_, _, _]) (vs' := []) [0, 1, 2] [] 0 rfl rfl rfl rfl (g_mv rfl rfl (g_mv rfl rfl ?_))
  obtain ⟨t27, h9, hm⟩ := bindO hm
  refine g_callH [_] [] rfl rfl rfl rfl rfl rfl rfl Try.call42 (fun w hh => c_laurelkit_Heap_From_1 b00 t24.h0_1 t24.h0_2 1 tenants2 pb qa0 na0 ca0 w (HV.callee (S0 := [_]) (vs0 := []) hh (roC (hh.rsep 0 rfl) roN)) hna0 hqa0 hla0 h9) (fun l_1 h10 => ?_)
  refine g_se (S' := [_, _, _]) (vs' := []) [0, 1, 2] [] 0 rfl rfl rfl rfl (g_as rfl rfl (g_as rfl rfl (g_nt (g_seq (g_sr (g_mv rfl rfl (g_mv rfl rfl ?_)))))))
  refine g_nt (g_vnil 77 ?_)
  obtain ⟨o, h11, h12⟩ := bindO hm
  refine g_cut (ι := VL) (fun l_2 => VOK 7 l_2.n l_2.cap (RSt.enc o.s8_strips) l_2.sp l_2.q) (fun l_2 => [(0, ptr pb 0), (6, ptr b 0), (8, ptr b_1 0), (9, .int .i64 t24.r0), (10, .int .i64 t27.r0)]) (fun l_2 => [(pb, .cells #[.slice qa0 na0 ca0, .int .i64 o.b0_1, .int .u32 o.b0_2] 105 (0, 0)), (b_1, .cells #[slv l_2.q l_2.n l_2.cap, slv none 0 0] 28 (0, 0)), (b, .cells #[slv none 0 0, slv none 0 0] 28 (0, 0))]) (fun l_2 => [⟨77, RSt.enc o.s8_strips, l_2.sp, l_2.q, []⟩]) ?_ ?_
  ·replace hm := h11
   refine g_block ?_
   refine g_loopF (ι := VL) hm (fun s l_3 => VOK 7 l_3.n l_3.cap (RSt.enc s.s8_strips) l_3.sp l_3.q) (fun s l_3 => [(0, ptr pb 0), (6, ptr b 0), (8, ptr b_1 0), (9, .int .i64 t24.r0), (10, .int .i64 t27.r0), (28, .int .i64 t24.r0), (29, .int .i64 s.t29)]) (fun s l_3 => [(pb, .cells #[.slice qa0 na0 ca0, .int .i64 s.b0_1, .int .u32 s.b0_2] 105 (0, 0)), (b_1, .cells #[slv l_3.q l_3.n l_3.cap, slv none 0 0] 28 (0, 0)), (b, .cells #[slv none 0 0, slv none 0 0] 28 (0, 0))]) (fun s l_3 => [⟨77, RSt.enc s.s8_strips, l_3.sp, l_3.q, []⟩]) ⟨none, 0, 0, []⟩ (VOK.nil) (sE rfl) (fun w hh => hh) (fun s l_3 r hpl hm h15 => ?_)
   have h14 := hpl
   unfold m_laurellaw09_Made_1_L0 at hm
   refine g_sr (g_ls rfl rfl rfl (g_nt (g_seq ?_)))
   refine g_cond rfl (fun h16 => ?_) (fun h16 => ?_)
   ·replace hm := ifD h16 hm
    refine g_skip (g_n_then (g_seq (g_block ?_)))
    refine g_draw (some 10) (.free 0 (.hoist 1 (.free 2 (.free 3 (.free 4 (.one 5 (.free 6 (.one 7 (.one 8 (.free 9 (.last 10 .done))))))))))) (HV _ _ [(b_1, .cells #[slv l_3.q l_3.n l_3.cap, slv none 0 0] 28 (0, 0)), (b, .cells #[slv none 0 0, slv none 0 0] 28 (0, 0))] [] _) rfl (by decide +kernel) (fun w k hh => hh.draw k) (fun w hh => hh.se [1, 2] [] 0 rfl rfl rfl rfl) ?_
    refine p_free rfl rfl rfl rfl (fun w _ => v_fieldAddr 0 (Try.runUnderlying28 w) rfl (Try.sizeOf25 w) rfl) (p_hoist rfl rfl rfl rfl (fun w hh => v_load (Try.isAgg25 w) rfl (hh.cell 0 rfl rfl)) (p_free rfl rfl rfl rfl (fun _ _ => v_move rfl) (p_free rfl rfl rfl rfl (fun _ _ => v_move rfl) ?_)))
    obtain ⟨t35, h17, hm⟩ := bindO hm
    refine p_free rfl rfl rfl rfl (fun _ _ => v_subc h17 rfl rfl) (p_one rfl ?_)
    obtain ⟨t36, h18, hm⟩ := bindO hm
    refine g_callH [_] [] rfl rfl rfl rfl rfl rfl rfl Try.call33 (fun w hh => c_laurelkit_Heap_Upto_1 b00 s.b0_1 s.b0_2 t35 pb qa0 na0 ca0 w (HV.callee (S0 := [_]) (vs0 := []) hh (roC (hh.rsep 0 rfl) roN)) hna0 hqa0 hla0 h18) (fun l_4 h19 => ?_)
    refine g_se (S' := [_, _, _]) (vs' := [_]) [0, 1, 2] [0] 0 rfl rfl rfl rfl (p_next (fun w hh => hh.se [1, 2] [] 0 rfl rfl rfl rfl) (p_free rfl rfl rfl rfl (fun _ _ => v_build (vs := [(0, _)]) (cells := [_, _, _, _, _, _, _]) rfl rfl) (p_one rfl ?_)))
    refine g_vlit RSt [(⟨t36.r0, (⟨0, 0⟩ : Span), (⟨0, 0⟩ : Span), (⟨0, 0⟩ : Span)⟩ : Strip)] (ps := [(0, _)]) (cells := [_, _, _, _, _, _, _]) (fun w => Try.runUnderlying25 w) (fun w => Try.sizeOf77 w) (fun w => Try.zeroValue77 w) rfl rfl rfl rfl rfl rfl rfl rfl (fun L h20 => ?_)
    refine p_next (fun w hh => hh.se [1, 2] [] 0 rfl rfl rfl rfl) (p_one rfl ?_)
    obtain ⟨t39, h21, hm⟩ := bindO hm
    refine g_vapp RSt 1 h21 Try.underlying25 gxinf77 rfl rfl rfl rfl rfl h14 rfl rfl (vlen RSt h20 rfl) (AOK.q (vne h20)) (fun w hh => (hh.vsegA 0 rfl h20)) rfl (fun L_1 h22 h22n => ?_)
    refine g_se (S' := [_, _, _]) (vs' := [_, _]) [0, 1, 2] [0, 1] 0 rfl rfl rfl rfl (p_next (fun w hh => hh.se [1, 2] [] 0 rfl rfl rfl rfl) (p_free rfl rfl rfl rfl (fun w _ => v_fieldAddr 0 (Try.runUnderlying28 w) rfl (Try.sizeOf25 w) rfl) (p_last rfl (g_stS (cs' := #[_, _]) (S' := [_, _, _]) 1 (fun w => Try.sizeOf25 w) rfl rfl rfl rfl rfl rfl rfl (p_nextL (p_done (g_n_blk ?_)))))))
    refine g_n_then (g_region ?_)
    obtain ⟨t41, h23, hm⟩ := bindO hm
    refine g_ac h23 rfl rfl rfl (g_mv rfl rfl (g_nil ?_))
    obtain rfl := sj hm
    refine g_n_then ?_
    exact g_again' _ L_1 rfl (h22) (sE rfl) (fun w hh => hh.se [0, 1, 2] [1] 0 rfl rfl rfl rfl)
   ·replace hm := ifE h16 hm
    refine g_exit (g_x_then (g_x_then (g_x_blk ?_)))
    obtain rfl := sj hm
    have hbo := h15 _ rfl
    subst hbo
    exact g_leaf l_3 (h14) (sE rfl) (fun w hh => hh)
  ·intro l_2 hj
   have h13 := hj
   replace hm := h12
   refine g_n_then (g_sr (g_mv rfl rfl ?_))
   obtain ⟨t43, h24, hm⟩ := bindO hm
   refine g_vmake RwH vl0 (makecL vl0 h24) Try.underlying29 gxinf32 rfl rfl rfl rfl rfl (fun L_2 h25 => ?_)
   refine g_drep (E2 := 3) RI (Int.toNat t27.r0) (makecO h24).1.symm (fun h26 => ?_)
   refine g_as rfl rfl (g_nt (g_seq (g_sr (g_mv rfl rfl (g_val rfl rfl rfl (fun w _ => v_lenN (Eq.trans (h26).len (vlen RwH h25 rfl)) (Try.runUnderlying29 w) rfl) (g_mv rfl rfl (g_nt ?_)))))))
   refine g_vnil 37 ?_
   obtain ⟨o_1, h27, h28⟩ := bindO hm
   refine g_cut (ι := DL × VL) (fun l_5 => VOK 1 l_5.1.v.n l_5.1.v.cap (RwH.enc l_5.1.rs) l_5.1.v.sp l_5.1.v.q ∧ DOK RI o_1.real11 l_5.1.rs ∧ VOK 2 l_5.2.n l_5.2.cap (RSp.enc o_1.s8_carried) l_5.2.sp l_5.2.q) (fun l_5 => [(0, ptr pb 0), (6, ptr b 0), (8, ptr b_1 0), (9, .int .i64 t24.r0), (11, slv l_5.1.v.q l_5.1.v.n l_5.1.v.cap)]) (fun l_5 => [(pb, .cells #[.slice qa0 na0 ca0, .int .i64 o_1.b0_1, .int .u32 o_1.b0_2] 105 (0, 0)), (b_1, .cells #[slv l_2.q l_2.n l_2.cap, slv l_5.2.q l_5.2.n l_5.2.cap] 28 (0, 0)), (b, .cells #[slv none 0 0, slv none 0 0] 28 (0, 0))]) (fun l_5 => [⟨32, RwH.enc l_5.1.rs, l_5.1.v.sp, l_5.1.v.q, dbl 3 RI o_1.real11 l_5.1.rs⟩, ⟨77, RSt.enc o.s8_strips, l_2.sp, l_2.q, []⟩, ⟨37, RSp.enc o_1.s8_carried, l_5.2.sp, l_5.2.q, []⟩]) ?_ ?_
   ·replace hm := h27
    refine g_block ?_
    refine g_loopF (ι := DL × VL) hm (fun s_1 l_6 => VOK 1 l_6.1.v.n l_6.1.v.cap (RwH.enc l_6.1.rs) l_6.1.v.sp l_6.1.v.q ∧ DOK RI s_1.real11 l_6.1.rs ∧ VOK 2 l_6.2.n l_6.2.cap (RSp.enc s_1.s8_carried) l_6.2.sp l_6.2.q) (fun s_1 l_6 => [(0, ptr pb 0), (6, ptr b 0), (8, ptr b_1 0), (9, .int .i64 t24.r0), (11, slv l_6.1.v.q l_6.1.v.n l_6.1.v.cap), (45, .int .i64 (t43.length : Int)), (46, .int .i64 s_1.t46)]) (fun s_1 l_6 => [(pb, .cells #[.slice qa0 na0 ca0, .int .i64 s_1.b0_1, .int .u32 s_1.b0_2] 105 (0, 0)), (b_1, .cells #[slv l_2.q l_2.n l_2.cap, slv l_6.2.q l_6.2.n l_6.2.cap] 28 (0, 0)), (b, .cells #[slv none 0 0, slv none 0 0] 28 (0, 0))]) (fun s_1 l_6 => [⟨32, RwH.enc l_6.1.rs, l_6.1.v.sp, l_6.1.v.q, dbl 3 RI s_1.real11 l_6.1.rs⟩, ⟨77, RSt.enc o.s8_strips, l_2.sp, l_2.q, []⟩, ⟨37, RSp.enc s_1.s8_carried, l_6.2.sp, l_6.2.q, []⟩]) (⟨⟨L_2.q, L_2.n, L_2.cap, L_2.sp⟩, (List.replicate (Int.toNat t27.r0) vl0)⟩, ⟨none, 0, 0, []⟩) (⟨h25, h26, VOK.nil⟩) (sE rfl) (fun w hh => hh.se [0, 1, 2] [1, 2, 0] 0 rfl rfl rfl rfl) (fun s_1 l_6 r_1 hpl hm h35 => ?_)
    obtain ⟨h32, h33, h34⟩ := hpl
    unfold m_laurellaw09_Made_1_L1 at hm
    refine g_sr (g_ls rfl rfl rfl (g_nt (g_seq ?_)))
    refine g_cond rfl (fun h36 => ?_) (fun h36 => ?_)
    ·replace hm := ifD h36 hm
     refine g_skip (g_n_then (g_seq (g_block (g_sr (g_mv rfl rfl (g_as rfl rfl (g_nx ?_)))))))
     refine g_as rfl rfl (g_nt (g_seq (g_sr (g_mv rfl rfl (g_mv rfl rfl (g_nt ?_))))))
     obtain ⟨o_2, h37, h38⟩ := bindO hm
     refine g_cut (ι := DL) (fun l_7 => VOK 1 l_7.v.n l_7.v.cap (RwH.enc l_7.rs) l_7.v.sp l_7.v.q ∧ DOK RI o_2.real11 l_7.rs) (fun l_7 => [(0, ptr pb 0), (6, ptr b 0), (8, ptr b_1 0), (9, .int .i64 t24.r0), (11, slv l_7.v.q l_7.v.n l_7.v.cap), (13, .int .i64 o_2.sum13), (45, .int .i64 (t43.length : Int)), (46, .int .i64 s_1.t46)]) (fun l_7 => [(pb, .cells #[.slice qa0 na0 ca0, .int .i64 o_2.b0_1, .int .u32 o_2.b0_2] 105 (0, 0)), (b_1, .cells #[slv l_2.q l_2.n l_2.cap, slv l_6.2.q l_6.2.n l_6.2.cap] 28 (0, 0)), (b, .cells #[slv none 0 0, slv none 0 0] 28 (0, 0))]) (fun l_7 => [⟨32, RwH.enc l_7.rs, l_7.v.sp, l_7.v.q, dbl 3 RI o_2.real11 l_7.rs⟩, ⟨77, RSt.enc o.s8_strips, l_2.sp, l_2.q, []⟩, ⟨37, RSp.enc s_1.s8_carried, l_6.2.sp, l_6.2.q, []⟩]) ?_ ?_
     ·replace hm := h37
      refine g_block ?_
      refine g_loopF (ι := DL) hm (fun s_2 l_8 => VOK 1 l_8.v.n l_8.v.cap (RwH.enc l_8.rs) l_8.v.sp l_8.v.q ∧ DOK RI s_2.real11 l_8.rs) (fun s_2 l_8 => [(0, ptr pb 0), (6, ptr b 0), (8, ptr b_1 0), (9, .int .i64 t24.r0), (11, slv l_8.v.q l_8.v.n l_8.v.cap), (12, .int .i64 s_1.t46), (13, .int .i64 s_2.sum13), (45, .int .i64 (t43.length : Int)), (46, .int .i64 s_1.t46), (49, .int .i64 t24.r0), (50, .int .i64 s_2.t50)]) (fun s_2 l_8 => [(pb, .cells #[.slice qa0 na0 ca0, .int .i64 s_2.b0_1, .int .u32 s_2.b0_2] 105 (0, 0)), (b_1, .cells #[slv l_2.q l_2.n l_2.cap, slv l_6.2.q l_6.2.n l_6.2.cap] 28 (0, 0)), (b, .cells #[slv none 0 0, slv none 0 0] 28 (0, 0))]) (fun s_2 l_8 => [⟨32, RwH.enc l_8.rs, l_8.v.sp, l_8.v.q, dbl 3 RI s_2.real11 l_8.rs⟩, ⟨77, RSt.enc o.s8_strips, l_2.sp, l_2.q, []⟩, ⟨37, RSp.enc s_1.s8_carried, l_6.2.sp, l_6.2.q, []⟩]) l_6.1 (⟨h32, h33⟩) (sE rfl) (fun w hh => hh) (fun s_2 l_8 r_2 hpl hm h43 => ?_)
      obtain ⟨h41, h42⟩ := hpl
      unfold m_laurellaw09_Made_1_L2 at hm
      refine g_sr (g_ls rfl rfl rfl (g_nt (g_seq ?_)))
      refine g_cond rfl (fun h44 => ?_) (fun h44 => ?_)
      ·replace hm := ifD h44 hm
       refine g_skip (g_n_then (g_seq (g_block (g_sr (g_mv rfl rfl (g_as rfl rfl (g_nx ?_)))))))
       refine g_as rfl rfl (g_nt (g_seq ?_))
       obtain ⟨o_3, h45, h46⟩ := bindO hm
       refine g_cut (ι := Unit) (fun l_9 => True) (fun l_9 => [(0, ptr pb 0), (6, ptr b 0), (8, ptr b_1 0), (9, .int .i64 t24.r0), (11, slv l_8.v.q l_8.v.n l_8.v.cap), (12, .int .i64 s_1.t46), (13, .int .i64 s_2.sum13), (15, .int .i64 o_3.n15), (45, .int .i64 (t43.length : Int)), (46, .int .i64 s_1.t46), (49, .int .i64 t24.r0), (50, .int .i64 s_2.t50)]) (fun l_9 => [(pb, .cells #[.slice qa0 na0 ca0, .int .i64 o_3.b0_1, .int .u32 o_3.b0_2] 105 (0, 0)), (b_1, .cells #[slv l_2.q l_2.n l_2.cap, slv l_6.2.q l_6.2.n l_6.2.cap] 28 (0, 0)), (b, .cells #[slv none 0 0, slv none 0 0] 28 (0, 0))]) (fun l_9 => [⟨32, RwH.enc l_8.rs, l_8.v.sp, l_8.v.q, dbl 3 RI s_2.real11 l_8.rs⟩, ⟨77, RSt.enc o.s8_strips, l_2.sp, l_2.q, []⟩, ⟨37, RSp.enc s_1.s8_carried, l_6.2.sp, l_6.2.q, []⟩]) ?_ ?_
       ·replace hm := h45
        refine g_seq ?_
        obtain ⟨o_4, h47, h48⟩ := bindO hm
        refine g_cut (ι := Unit) (fun l_10 => True) (fun l_10 => [(0, ptr pb 0), (6, ptr b 0), (8, ptr b_1 0), (9, .int .i64 t24.r0), (11, slv l_8.v.q l_8.v.n l_8.v.cap), (12, .int .i64 s_1.t46), (13, .int .i64 s_2.sum13), (15, .int .i64 0), (45, .int .i64 (t43.length : Int)), (46, .int .i64 s_1.t46), (49, .int .i64 t24.r0), (50, .int .i64 s_2.t50), (70, .bool o_4.t70)]) (fun l_10 => [(pb, .cells #[.slice qa0 na0 ca0, .int .i64 o_4.b0_1, .int .u32 o_4.b0_2] 105 (0, 0)), (b_1, .cells #[slv l_2.q l_2.n l_2.cap, slv l_6.2.q l_6.2.n l_6.2.cap] 28 (0, 0)), (b, .cells #[slv none 0 0, slv none 0 0] 28 (0, 0))]) (fun l_10 => [⟨32, RwH.enc l_8.rs, l_8.v.sp, l_8.v.q, dbl 3 RI s_2.real11 l_8.rs⟩, ⟨77, RSt.enc o.s8_strips, l_2.sp, l_2.q, []⟩, ⟨37, RSp.enc s_1.s8_carried, l_6.2.sp, l_6.2.q, []⟩]) ?_ ?_
        ·replace hm := h47
         refine g_region (g_val rfl rfl rfl (fun w hh => v_loadAgg (vs := [_, _]) (Try.isAgg28 w) (Try.sizeOf28 w) rfl (hh.cells 1 rfl rfl)) (g_mv rfl rfl (g_mv rfl rfl ?_)))
         obtain ⟨t56, h49, hm⟩ := bindO hm
         refine g_callH [] [] rfl rfl rfl rfl rfl rfl rfl Try.call43 (fun w hh => c_laurellaw09_reaches (⟨o.s8_strips, s_1.s8_carried⟩ : Scalps) s_1.t46 s_2.t50 (qA l_2.q) l_2.n l_2.cap (qA l_6.2.q) l_6.2.n l_6.2.cap w (HV.callee (S0 := []) (vs0 := []) hh (roC (hh.vsepA 1 rfl h13) (roC (hh.vsepA 2 rfl h34) roN))) (vlen RSt h13 rfl) (AOK.q (vne h13)) (h13).hle (vlen RSp h34 rfl) (AOK.q (vne h34)) (h34).hle h49) (fun l_11 h50 => ?_)
         refine g_mv rfl rfl ?_
         refine g_case 57 rfl (fun h51 => ?_) (fun h51 => ?_)
         ·replace hm := ifT (h51) hm
          refine v_unguard rfl rfl (g_fa 0 Try.runUnderlying28 rfl Try.sizeOf25 rfl rfl (v_unguard rfl rfl (g_lc 1 Try.isAgg25 rfl rfl rfl rfl (v_unguard rfl rfl (g_mv rfl rfl (v_unguard rfl rfl ?_))))))
          obtain ⟨t61, h52, hm⟩ := bindO hm
          refine g_val rfl rfl rfl (fun w _ => v_ixA h52 (Try.runUnderlying25 w) (Try.sizeOf77 w) rfl rfl (vlen RSt h13 rfl) (vne h13)) (v_unguard rfl rfl (g_fa 0 Try.runUnderlying77 rfl Try.sizeOf3 rfl rfl (v_unguard rfl rfl (g_val rfl rfl rfl (fun w hh => v_ldE RSt 0 h52 (Try.isAgg3 w) rfl (hh.vseg 1 rfl h13) rfl rfl) (v_unguard rfl rfl (g_mv rfl rfl (v_unguard rfl rfl ?_)))))))
          refine g_val rfl rfl rfl (fun _ _ => v_eql rfl rfl) (v_unguard rfl rfl (g_mv rfl rfl ?_))
          refine g_case 66 rfl (fun h53 => ?_) (fun h53 => ?_)
          ·replace hm := ifD h53 hm
           refine g_k rfl rfl rfl rfl (g_k rfl rfl rfl rfl (v_unguard rfl rfl (g_pt rfl rfl rfl (g_pt rfl rfl rfl (g_nil ?_)))))
           obtain rfl := sj hm
           exact g_leaf () (trivial) (sE rfl) (fun w hh => hh)
          ·replace hm := ifE h53 hm
           refine v_unguard rfl rfl (g_mv rfl rfl (v_unguard rfl rfl ?_))
           obtain ⟨t68, h54, hm⟩ := bindO hm
           refine g_callH [_] [] rfl rfl rfl rfl rfl rfl rfl Try.call34 (fun w hh => c_laurelkit_Heap_Once_1 b00 s_2.b0_1 s_2.b0_2 4 pb qa0 na0 ca0 w (HV.callee (S0 := [_]) (vs0 := []) hh (roC (hh.rsep 0 rfl) roN)) hna0 hqa0 hla0 h54) (fun l_12 h55 => ?_)
           refine g_se (S' := [_, _, _]) (vs' := [_, _, _]) [0, 1, 2] [0, 1, 2] 0 rfl rfl rfl rfl (v_unguard rfl rfl (g_pf rfl rfl rfl (g_pt rfl rfl rfl (g_nil ?_))))
           obtain rfl := sj hm
           exact g_leaf () (trivial) (sE rfl) (fun w hh => hh)
         ·replace hm := ifN h51 hm
          refine g_k rfl rfl rfl rfl (g_k rfl rfl rfl rfl (g_k rfl rfl rfl rfl (g_k rfl rfl rfl rfl (g_k rfl rfl rfl rfl (g_k rfl rfl rfl rfl (g_k rfl rfl rfl rfl (g_k rfl rfl rfl rfl ?_)))))))
          refine g_k rfl rfl rfl rfl ?_
          refine g_skipU' rfl rfl rfl rfl rfl ?_
          refine g_skipU' rfl rfl rfl rfl rfl ?_
          refine g_k rfl rfl rfl rfl (g_pf rfl rfl rfl (g_nil ?_))
          obtain rfl := sj hm
          exact g_leaf () (trivial) (sE rfl) (fun w hh => hh)
        ·intro l_10 hj
         replace hm := h48
         refine g_n_then ?_
         refine g_cond rfl (fun h56 => ?_) (fun h56 => ?_)
         ·replace hm := ifT (h56) hm
          refine g_region (g_mv rfl rfl ?_)
          obtain ⟨t72, h57, hm⟩ := bindO hm
          refine g_callH [_] [] rfl rfl rfl rfl rfl rfl rfl Try.call33 (fun w hh => c_laurelkit_Heap_Upto_1 b00 o_4.b0_1 o_4.b0_2 4 pb qa0 na0 ca0 w (HV.callee (S0 := [_]) (vs0 := []) hh (roC (hh.rsep 0 rfl) roN)) hna0 hqa0 hla0 h57) (fun l_13 h58 => ?_)
          refine g_se (S' := [_, _, _]) (vs' := [_, _, _]) [0, 1, 2] [0, 1, 2] 0 rfl rfl rfl rfl (g_as rfl rfl (g_nil ?_))
          obtain rfl := sj hm
          exact g_leaf () (trivial) (sE rfl) (fun w hh => hh)
         ·replace hm := ifN h56 hm
          refine g_skip ?_
          obtain rfl := sj hm
          exact g_leaf () (trivial) (sE rfl) (fun w hh => hh)
       ·intro l_9 hj
        replace hm := h46
        refine g_n_then (g_region (g_mv rfl rfl (g_mv rfl rfl (g_mv rfl rfl (g_mv rfl rfl ?_)))))
        obtain ⟨t77, h59, hm⟩ := bindO hm
        obtain ⟨L_3, h60, h61⟩ := (h42).row h59
        refine g_val rfl rfl rfl (fun w _ => v_ixA h60 (Try.runUnderlying29 w) (Try.sizeOf32 w) rfl rfl (vlen RwH h41 rfl) (vne h41)) (g_val rfl rfl rfl (fun w hh => v_ldE RwH 0 h60 (Try.isAgg32 w) rfl (hh.vseg 0 rfl h41) rfl (Nat.add_zero _).symm) (g_mv rfl rfl ?_))
        refine g_vlit RI [o_3.n15] (ps := [(0, _)]) (cells := [_]) (fun w => Try.runUnderlying32 w) (fun w => Try.sizeOf3 w) (fun w => Try.zeroValue3 w) rfl rfl rfl rfl rfl rfl rfl rfl (fun L_4 h62 => ?_)
        refine g_se (S' := [_, _, _]) (vs' := [_, _, _, _]) [0, 1, 2] [1, 0, 2, 3] 0 rfl rfl rfl rfl ?_
        refine g_dtake RI s_1.t46 h42 h59 h60 (fun _ => ?_)
        obtain ⟨t81, h63, hm⟩ := bindO hm
        refine g_vapp RI 1 h63 Try.underlying32 gxinf3 rfl rfl rfl rfl rfl h61 rfl rfl (vlen RI h62 rfl) (AOK.q (vne h62)) (fun w hh => (hh.vsegA 2 rfl h62)) rfl (fun L_5 h64 h64n => ?_)
        refine g_se (S' := [_, _, _]) (vs' := [_, _, _, _, _]) [0, 1, 2] [0, 1, 2, 3, 4] 0 rfl rfl rfl rfl (g_mv rfl rfl (g_mv rfl rfl ?_))
        obtain ⟨t84, h65, hm⟩ := bindO hm
        refine g_ac h65 rfl rfl rfl ?_
        obtain ⟨t85, h66, hm⟩ := bindO hm
        obtain ⟨L_6, h67, h68⟩ := (h42).row h66
        refine g_val rfl rfl rfl (fun w _ => v_ixA h67 (Try.runUnderlying29 w) (Try.sizeOf32 w) rfl rfl (vlen RwH h41 rfl) (vne h41)) ?_
        obtain ⟨real11, hreal11, hm⟩ := bindO hm
        refine g_vst RwH 0 0 (⟨L_5.q, L_5.n, L_5.cap, L_5.sp⟩ : VL) (fun w => Try.sizeOf32 w) rfl rfl rfl rfl h41 rfl (Nat.add_zero _).symm rfl h60 rfl rfl rfl (fun h69 => ?_)
        refine g_se (S' := [_, _, _]) (vs' := [_, _, _, _, _]) [0, 1, 2] [0, 1, 2, 3, 4] 0 rfl rfl rfl rfl (g_se (S' := [_, _, _]) (vs' := [_, _, _, _, _]) [0, 1, 2] [0, 1, 2, 3, 4] 0 rfl rfl rfl rfl ?_)
        refine g_dback' RI s_1.t46 L_5.n L_5.cap h42 h59 h60 h64 (Option.some.inj hreal11) (fun h70 => ?_)
        refine g_as rfl rfl (g_nil (g_n_blk (g_n_then (g_region ?_))))
        obtain ⟨t86, h71, hm⟩ := bindO hm
        refine g_ac h71 rfl rfl rfl (g_mv rfl rfl (g_nil ?_))
        obtain rfl := sj hm
        refine g_n_then ?_
        exact g_again' _ (⟨⟨l_8.v.q, l_8.v.n, l_8.v.cap, l_8.v.sp⟩, (l_8.rs.set (Int.toNat s_1.t46) (⟨L_5.q, L_5.n, L_5.cap, L_5.sp⟩ : VL))⟩) rfl (⟨h69, h70⟩) (sE rfl) (fun w hh => hh.se [0, 1, 2] [0, 2, 3] 0 rfl rfl rfl rfl)
      ·replace hm := ifE h44 hm
       refine g_exit (g_x_then (g_x_then (g_x_blk ?_)))
       obtain rfl := sj hm
       have hbo := h43 _ rfl
       subst hbo
       exact g_leaf l_8 (⟨h41, h42⟩) (sE rfl) (fun w hh => hh)
     ·intro l_7 hj
      obtain ⟨h39, h40⟩ := hj
      replace hm := h38
      refine g_n_then ?_
      refine g_draw (some 8) (.free 0 (.hoist 1 (.free 2 (.free 3 (.one 4 (.one 5 (.one 6 (.free 7 (.last 8 .done))))))))) (HV _ _ [(b_1, .cells #[slv l_2.q l_2.n l_2.cap, slv l_6.2.q l_6.2.n l_6.2.cap] 28 (0, 0)), (b, .cells #[slv none 0 0, slv none 0 0] 28 (0, 0))] [⟨32, RwH.enc l_7.rs, l_7.v.sp, l_7.v.q, dbl 3 RI o_2.real11 l_7.rs⟩, ⟨77, RSt.enc o.s8_strips, l_2.sp, l_2.q, []⟩] _) rfl (by decide +kernel) (fun w k hh => hh.draw k) (fun w hh => hh.se [1, 2] [0, 1] 0 rfl rfl rfl rfl) ?_
      refine p_free rfl rfl rfl rfl (fun w _ => v_fieldAddr 1 (Try.runUnderlying28 w) rfl (Try.sizeOf26 w) rfl) (p_hoist rfl rfl rfl rfl (fun w hh => v_load (Try.isAgg26 w) rfl (hh.cell 0 rfl rfl)) (p_free rfl rfl rfl rfl (fun _ _ => v_move rfl) (p_free rfl rfl rfl rfl (fun _ _ => v_move rfl) (p_one rfl ?_))))
      obtain ⟨t91, h72, hm⟩ := bindO hm
      refine g_callH [_] [] rfl rfl rfl rfl rfl rfl rfl Try.call35 (fun w hh => c_laurellaw09_around_1 b00 o_2.b0_1 o_2.b0_2 o_2.sum13 2 pb qa0 na0 ca0 w (HV.callee (S0 := [_]) (vs0 := []) hh (roC (hh.rsep 0 rfl) roN)) hna0 hqa0 hla0 h72) (fun l_14 h73 => ?_)
      refine g_se (S' := [_, _, _]) (vs' := [_, _, _]) [0, 1, 2] [0, 1, 2] 0 rfl rfl rfl rfl (p_next (fun w hh => hh.se [1, 2] [0, 1] 0 rfl rfl rfl rfl) (p_one rfl ?_))
      refine g_vlit RSp [t91.r0] (ps := [(0, _)]) (cells := [_, _]) (fun w => Try.runUnderlying26 w) (fun w => Try.sizeOf37 w) (fun w => Try.zeroValue37 w) rfl rfl rfl rfl rfl rfl rfl rfl (fun L_7 h74 => ?_)
      refine p_next (fun w hh => hh.se [1, 2] [1, 2] 0 rfl rfl rfl rfl) (p_one rfl ?_)
      obtain ⟨t93, h75, hm⟩ := bindO hm
      refine g_vapp RSp 3 h75 Try.underlying26 gxinf37 rfl rfl rfl rfl rfl h34 rfl rfl (vlen RSp h74 rfl) (AOK.q (vne h74)) (fun w hh => (hh.vsegA 0 rfl h74)) rfl (fun L_8 h76 h76n => ?_)
      refine g_se (S' := [_, _, _]) (vs' := [_, _, _, _]) [0, 1, 2] [0, 1, 2, 3] 0 rfl rfl rfl rfl (p_next (fun w hh => hh.se [1, 2] [1, 2] 0 rfl rfl rfl rfl) (p_free rfl rfl rfl rfl (fun w _ => v_fieldAddr 1 (Try.runUnderlying28 w) rfl (Try.sizeOf26 w) rfl) (p_last rfl (g_stS (cs' := #[_, _]) (S' := [_, _, _]) 1 (fun w => Try.sizeOf26 w) rfl rfl rfl rfl rfl rfl rfl (p_nextL (p_done (g_n_blk ?_)))))))
      refine g_n_then (g_region ?_)
      obtain ⟨t95, h77, hm⟩ := bindO hm
      refine g_ac h77 rfl rfl rfl (g_mv rfl rfl (g_nil ?_))
      obtain rfl := sj hm
      refine g_n_then ?_
      exact g_again' _ (l_7, L_8) rfl (⟨h39, h40, h76⟩) (sE rfl) (fun w hh => hh.se [0, 1, 2] [1, 2, 3] 0 rfl rfl rfl rfl)
    ·replace hm := ifE h36 hm
     refine g_exit (g_x_then (g_x_then (g_x_blk ?_)))
     obtain rfl := sj hm
     have hbo := h35 _ rfl
     subst hbo
     exact g_leaf (l_6.1, l_6.2) (⟨h32, h33, h34⟩) (sE rfl) (fun w hh => hh)
   ·intro l_5 hj
    obtain ⟨h29, h30, h31⟩ := hj
    replace hm := h28
    refine g_n_then (g_seq (g_sr (g_mv rfl rfl (g_mv rfl rfl (g_nt ?_)))))
    obtain ⟨o_5, h78, h79⟩ := bindO hm
    refine g_cut (ι := Unit) (fun l_15 => VOK 7 l_2.n l_2.cap (RSt.enc o_5.s8_strips) l_2.sp l_2.q) (fun l_15 => [(6, ptr b 0), (8, ptr b_1 0), (11, slv l_5.1.v.q l_5.1.v.n l_5.1.v.cap)]) (fun l_15 => [(pb, .cells #[.slice qa0 na0 ca0, .int .i64 o_5.b0_1, .int .u32 o_5.b0_2] 105 (0, 0)), (b_1, .cells #[slv l_2.q l_2.n l_2.cap, slv l_5.2.q l_5.2.n l_5.2.cap] 28 (0, 0)), (b, .cells #[slv none 0 0, slv none 0 0] 28 (0, 0))]) (fun l_15 => [⟨32, RwH.enc l_5.1.rs, l_5.1.v.sp, l_5.1.v.q, dbl 3 RI o_1.real11 l_5.1.rs⟩, ⟨77, RSt.enc o_5.s8_strips, l_2.sp, l_2.q, []⟩, ⟨37, RSp.enc o_1.s8_carried, l_5.2.sp, l_5.2.q, []⟩]) ?_ ?_
    ·replace hm := h78
     refine g_block ?_
     refine g_loopF (ι := Unit) hm (fun s_3 l_16 => VOK 7 l_2.n l_2.cap (RSt.enc s_3.s8_strips) l_2.sp l_2.q) (fun s_3 l_16 => [(0, ptr pb 0), (6, ptr b 0), (8, ptr b_1 0), (11, slv l_5.1.v.q l_5.1.v.n l_5.1.v.cap), (96, .int .i64 t24.r0), (97, .int .i64 s_3.t97)]) (fun s_3 l_16 => [(pb, .cells #[.slice qa0 na0 ca0, .int .i64 s_3.b0_1, .int .u32 s_3.b0_2] 105 (0, 0)), (b_1, .cells #[slv l_2.q l_2.n l_2.cap, slv l_5.2.q l_5.2.n l_5.2.cap] 28 (0, 0)), (b, .cells #[slv none 0 0, slv none 0 0] 28 (0, 0))]) (fun s_3 l_16 => [⟨32, RwH.enc l_5.1.rs, l_5.1.v.sp, l_5.1.v.q, dbl 3 RI o_1.real11 l_5.1.rs⟩, ⟨77, RSt.enc s_3.s8_strips, l_2.sp, l_2.q, []⟩, ⟨37, RSp.enc o_1.s8_carried, l_5.2.sp, l_5.2.q, []⟩]) () (h13) (sE rfl) (fun w hh => hh) (fun s_3 l_16 r_3 hpl hm h82 => ?_)
     have h81 := hpl
     unfold m_laurellaw09_Made_1_L3 at hm
     refine g_sr (g_ls rfl rfl rfl (g_nt (g_seq ?_)))
     refine g_cond rfl (fun h83 => ?_) (fun h83 => ?_)
     ·replace hm := ifD h83 hm
      refine g_skip (g_n_then (g_seq (g_block (g_sr (g_mv rfl rfl (g_as rfl rfl (g_nx ?_)))))))
      refine g_as rfl rfl (g_nt (g_seq (g_sr (g_mv rfl rfl (g_val rfl rfl rfl (fun w _ => v_lenN (Eq.trans (h30).len (vlen RwH h29 rfl)) (Try.runUnderlying29 w) rfl) (g_mv rfl rfl (g_nt ?_)))))))
      obtain ⟨o_6, h84, h85⟩ := bindO hm
      refine g_cut (ι := Unit) (fun l_17 => True) (fun l_17 => [(0, ptr pb 0), (6, ptr b 0), (8, ptr b_1 0), (11, slv l_5.1.v.q l_5.1.v.n l_5.1.v.cap), (16, .int .i64 s_3.t97), (17, .int .i64 o_6), (96, .int .i64 t24.r0), (97, .int .i64 s_3.t97)]) (fun l_17 => [(pb, .cells #[.slice qa0 na0 ca0, .int .i64 s_3.b0_1, .int .u32 s_3.b0_2] 105 (0, 0)), (b_1, .cells #[slv l_2.q l_2.n l_2.cap, slv l_5.2.q l_5.2.n l_5.2.cap] 28 (0, 0)), (b, .cells #[slv none 0 0, slv none 0 0] 28 (0, 0))]) (fun l_17 => [⟨32, RwH.enc l_5.1.rs, l_5.1.v.sp, l_5.1.v.q, dbl 3 RI o_1.real11 l_5.1.rs⟩, ⟨77, RSt.enc s_3.s8_strips, l_2.sp, l_2.q, []⟩, ⟨37, RSp.enc o_1.s8_carried, l_5.2.sp, l_5.2.q, []⟩]) ?_ ?_
      ·replace hm := h84
       refine g_block ?_
       refine g_loopF (ι := Unit) hm (fun s_4 l_18 => True) (fun s_4 l_18 => [(0, ptr pb 0), (6, ptr b 0), (8, ptr b_1 0), (11, slv l_5.1.v.q l_5.1.v.n l_5.1.v.cap), (16, .int .i64 s_3.t97), (17, .int .i64 s_4.gone17), (96, .int .i64 t24.r0), (97, .int .i64 s_3.t97), (101, .int .i64 (o_1.real11.length : Int)), (102, .int .i64 s_4.t102)]) (fun s_4 l_18 => [(pb, .cells #[.slice qa0 na0 ca0, .int .i64 s_3.b0_1, .int .u32 s_3.b0_2] 105 (0, 0)), (b_1, .cells #[slv l_2.q l_2.n l_2.cap, slv l_5.2.q l_5.2.n l_5.2.cap] 28 (0, 0)), (b, .cells #[slv none 0 0, slv none 0 0] 28 (0, 0))]) (fun s_4 l_18 => [⟨32, RwH.enc l_5.1.rs, l_5.1.v.sp, l_5.1.v.q, dbl 3 RI o_1.real11 l_5.1.rs⟩, ⟨77, RSt.enc s_3.s8_strips, l_2.sp, l_2.q, []⟩, ⟨37, RSp.enc o_1.s8_carried, l_5.2.sp, l_5.2.q, []⟩]) () (trivial) (sE rfl) (fun w hh => hh) (fun s_4 l_18 r_4 hpl hm h86 => ?_)
       unfold m_laurellaw09_Made_1_L4 at hm
       refine g_sr (g_ls rfl rfl rfl (g_nt (g_seq ?_)))
       refine g_cond rfl (fun h87 => ?_) (fun h87 => ?_)
       ·replace hm := ifD h87 hm
        refine g_skip (g_n_then (g_seq (g_block (g_sr (g_mv rfl rfl (g_as rfl rfl (g_nt ?_)))))))
        refine g_region (g_mv rfl rfl (g_mv rfl rfl (g_mv rfl rfl ?_)))
        obtain ⟨t108, h88, hm⟩ := bindO hm
        obtain ⟨L_9, h89, h90⟩ := (h30).row h88
        refine g_val rfl rfl rfl (fun w _ => v_ixA h89 (Try.runUnderlying29 w) (Try.sizeOf32 w) rfl rfl (vlen RwH h29 rfl) (vne h29)) (g_val rfl rfl rfl (fun w hh => v_ldE RwH 0 h89 (Try.isAgg32 w) rfl (hh.vseg 0 rfl h29) rfl (Nat.add_zero _).symm) (g_mv rfl rfl ?_))
        obtain ⟨t111, h91, hm⟩ := bindO hm
        refine g_val rfl rfl rfl (fun w _ => v_ixA h91 (Try.runUnderlying32 w) (Try.sizeOf3 w) rfl rfl (vlen RI h90 rfl) (vne h90)) (g_val rfl rfl rfl (fun w hh => v_ldE RI 0 h91 (Try.isAgg3 w) rfl (hh.dseg 0 rfl h88 h89 h90) rfl (Nat.add_zero _).symm) ?_)
        obtain ⟨t113, h92, hm⟩ := bindO hm
        refine g_ac h92 rfl rfl rfl (g_as rfl rfl (g_nil (g_n_blk (g_n_then (g_region ?_)))))
        obtain ⟨t114, h93, hm⟩ := bindO hm
        refine g_ac h93 rfl rfl rfl (g_mv rfl rfl (g_nil ?_))
        obtain rfl := sj hm
        refine g_n_then ?_
        exact g_again' _ () rfl (trivial) (sE rfl) (fun w hh => hh)
       ·replace hm := ifE h87 hm
        refine g_exit (g_x_then (g_x_then (g_x_blk ?_)))
        obtain rfl := sj hm
        have hbo := h86 _ rfl
        subst hbo
        exact g_leaf () (trivial) (sE rfl) (fun w hh => hh)
      ·intro l_17 hj
       replace hm := h85
       refine g_n_then (g_sr (g_mv rfl rfl ?_))
       obtain ⟨t116, h94, hm⟩ := bindO hm
       refine g_callH [_] [] rfl rfl rfl rfl rfl rfl rfl Try.call33 (fun w hh => c_laurelkit_Heap_Upto_1 b00 s_3.b0_1 s_3.b0_2 3 pb qa0 na0 ca0 w (HV.callee (S0 := [_]) (vs0 := []) hh (roC (hh.rsep 0 rfl) roN)) hna0 hqa0 hla0 h94) (fun l_19 h95 => ?_)
       refine g_se (S' := [_, _, _]) (vs' := [_, _, _]) [0, 1, 2] [0, 1, 2] 0 rfl rfl rfl rfl (g_as rfl rfl (g_nx (g_mv rfl rfl ?_)))
       obtain ⟨t118, h96, hm⟩ := bindO hm
       refine g_callH [_] [] rfl rfl rfl rfl rfl rfl rfl Try.call33 (fun w hh => c_laurelkit_Heap_Upto_1 b00 t116.h0_1 t116.h0_2 2 pb qa0 na0 ca0 w (HV.callee (S0 := [_]) (vs0 := []) hh (roC (hh.rsep 0 rfl) roN)) hna0 hqa0 hla0 h96) (fun l_20 h97 => ?_)
       refine g_se (S' := [_, _, _]) (vs' := [_, _, _]) [0, 1, 2] [0, 1, 2] 0 rfl rfl rfl rfl (g_mv rfl rfl (g_mv rfl rfl ?_))
       obtain ⟨t121, h98, hm⟩ := bindO hm
       refine g_ac h98 rfl rfl rfl (g_val rfl rfl rfl (fun _ _ => v_min rfl rfl) (g_as rfl rfl (g_nx (g_fa 0 Try.runUnderlying28 rfl Try.sizeOf25 rfl rfl (g_lc 1 Try.isAgg25 rfl rfl rfl rfl (g_mv rfl rfl ?_))))))
       obtain ⟨t126, h99, hm⟩ := bindO hm
       refine g_val rfl rfl rfl (fun w _ => v_ixA h99 (Try.runUnderlying25 w) (Try.sizeOf77 w) rfl rfl (vlen RSt h81 rfl) (vne h81)) (g_as rfl rfl (g_nt (g_region (g_mv rfl rfl (g_mv rfl rfl (g_mv rfl rfl (g_mv rfl rfl ?_)))))))
       refine g_mv rfl rfl (g_mv rfl rfl ?_)
       obtain ⟨t133, h100, hm⟩ := bindO hm
       refine g_ac h100 rfl rfl rfl (g_mv rfl rfl ?_)
       obtain ⟨t135, h101, hm⟩ := bindO hm
       refine g_val rfl rfl rfl (fun _ _ => v_subc h101 rfl rfl) ?_
       obtain ⟨t136, h102, hm⟩ := bindO hm
       refine g_callH [_] [] rfl rfl rfl rfl rfl rfl rfl Try.call35 (fun w hh => c_laurellaw09_around_1 b00 t118.h0_1 t118.h0_2 t135 1 pb qa0 na0 ca0 w (HV.callee (S0 := [_]) (vs0 := []) hh (roC (hh.rsep 0 rfl) roN)) hna0 hqa0 hla0 h102) (fun l_21 h103 => ?_)
       refine g_se (S' := [_, _, _]) (vs' := [_, _, _]) [0, 1, 2] [0, 1, 2] 0 rfl rfl rfl rfl (g_mv rfl rfl (g_mv rfl rfl ?_))
       obtain ⟨t139, h104, hm⟩ := bindO hm
       refine g_callH [_] [] rfl rfl rfl rfl rfl rfl rfl Try.call35 (fun w hh => c_laurellaw09_around_1 b00 t136.b0_1 t136.b0_2 (min t118.r0 t121) 1 pb qa0 na0 ca0 w (HV.callee (S0 := [_]) (vs0 := []) hh (roC (hh.rsep 0 rfl) roN)) hna0 hqa0 hla0 h104) (fun l_22 h105 => ?_)
       refine g_se (S' := [_, _, _]) (vs' := [_, _, _]) [0, 1, 2] [0, 1, 2] 0 rfl rfl rfl rfl (g_mv rfl rfl (g_mv rfl rfl ?_))
       obtain ⟨t142, h106, hm⟩ := bindO hm
       refine g_callH [_] [] rfl rfl rfl rfl rfl rfl rfl Try.call35 (fun w hh => c_laurellaw09_around_1 b00 t139.b0_1 t139.b0_2 t116.r0 1 pb qa0 na0 ca0 w (HV.callee (S0 := [_]) (vs0 := []) hh (roC (hh.rsep 0 rfl) roN)) hna0 hqa0 hla0 h106) (fun l_23 h107 => ?_)
       refine g_se (S' := [_, _, _]) (vs' := [_, _, _]) [0, 1, 2] [0, 1, 2] 0 rfl rfl rfl rfl (g_val rfl rfl rfl (fun _ _ => v_nilCheck rfl) (g_fa 1 Try.runUnderlying77 rfl Try.sizeOf37 rfl rfl ?_))
       obtain ⟨s8_strips, hs8_strips, hm⟩ := bindO hm
       refine g_vstP (us := #[_, _]) RSt 1 1 (⟨t126.tenant, t136.r0, t126.seeded, t126.left⟩ : Strip) (fun w => Try.sizeOf37 w) rfl rfl rfl h81 rfl rfl rfl rfl rfl rfl h99 rfl (Option.some.inj hs8_strips) (fun h108 => ?_)
       refine g_se (S' := [_, _, _]) (vs' := [_, _, _]) [0, 1, 2] [0, 1, 2] 0 rfl rfl rfl rfl (g_val rfl rfl rfl (fun _ _ => v_nilCheck rfl) (g_fa 3 Try.runUnderlying77 rfl Try.sizeOf37 rfl rfl ?_))
       obtain ⟨x, h109, hm⟩ := bindO hm
       obtain ⟨s8_strips_1, hs8_strips_1, hm⟩ := bindO hm
       refine g_vstP (us := #[_, _]) RSt 1 3 (⟨x.tenant, x.lay, t139.r0, x.left⟩ : Strip) (fun w => Try.sizeOf37 w) rfl rfl rfl h108 rfl rfl rfl rfl rfl rfl h109 rfl (Option.some.inj hs8_strips_1) (fun h110 => ?_)
       refine g_se (S' := [_, _, _]) (vs' := [_, _, _]) [0, 1, 2] [0, 1, 2] 0 rfl rfl rfl rfl (g_val rfl rfl rfl (fun _ _ => v_nilCheck rfl) (g_fa 5 Try.runUnderlying77 rfl Try.sizeOf37 rfl rfl ?_))
       obtain ⟨x_1, h111, hm⟩ := bindO hm
       obtain ⟨s8_strips_2, hs8_strips_2, hm⟩ := bindO hm
       refine g_vstP (us := #[_, _]) RSt 1 5 (⟨x_1.tenant, x_1.lay, x_1.seeded, t142.r0⟩ : Strip) (fun w => Try.sizeOf37 w) rfl rfl rfl h110 rfl rfl rfl rfl rfl rfl h111 rfl (Option.some.inj hs8_strips_2) (fun h112 => ?_)
       refine g_se (S' := [_, _, _]) (vs' := [_, _, _]) [0, 1, 2] [0, 1, 2] 0 rfl rfl rfl rfl (g_nil (g_n_blk (g_n_then (g_region ?_))))
       obtain ⟨t149, h113, hm⟩ := bindO hm
       refine g_ac h113 rfl rfl rfl (g_mv rfl rfl (g_nil ?_))
       obtain rfl := sj hm
       refine g_n_then ?_
       exact g_again' _ () rfl (h112) (sE rfl) (fun w hh => hh)
     ·replace hm := ifE h83 hm
      refine g_exit (g_x_then (g_x_then (g_x_blk ?_)))
      obtain rfl := sj hm
      have hbo := h82 _ rfl
      subst hbo
      exact g_leaf () (h81) (sE rfl) (fun w hh => hh)
    ·intro l_15 hj
     have h80 := hj
     replace hm := h79
     refine g_n_then (g_sr (g_val rfl rfl rfl (fun w hh => v_loadAgg (vs := [_, _]) (Try.isAgg28 w) (Try.sizeOf28 w) rfl (hh.cells 1 rfl rfl)) (g_mv rfl rfl (g_stSA (us := #[_, _]) (cs' := [_, _]) (S' := [_, _, _]) 2 (fun w => Try.sizeOf28 w) rfl rfl rfl rfl rfl rfl rfl (g_as rfl rfl (g_nt (g_ret ?_)))))))
     obtain rfl := sj hm
     refine g_done rfl (fun w hh => (.cell rfl (loadVar_agg (vs := [_, _]) (Try.isAgg28 _) (Try.sizeOf28 _) (hh.cells 2 rfl rfl)) (.tmp rfl .nil))) (fun w hh => ⟨(l_2, l_5.2, l_5.1), rfl, ⟨h80, h31, h29, h30⟩, hh.se [0] [1, 2, 0] 1 rfl rfl rfl rfl⟩)
end Go.Proofs.Ws

namespace Go.Proofs.Ws
set_option maxHeartbeats 4000000
set_option maxRecDepth 100000
open Go Go.Fw Go.Gx Go.Sp
set_option linter.unusedVariables false
def m_strip_some_3 (holds0_c0 : Int) (holds0_c10 : (List Strip)) (holds0_c11 : (List Span)) : Option Unit :=
 some ()
theorem c_strip_some_3 (holds0_c0 : Int) (holds0_c10 : (List Strip)) (holds0_c11 : (List Span)) (rb : Nat) (rb_1 : Nat) (rb_2 : Nat) (qa3 : Option Addr) (na3 ca3 : Nat) (qa4 : Option Addr) (na4 ca4 : Nat) (mv : Value) (w : World) (hw : HV w (keys [] []) [] [] [(rb, 0, [.int .i64 holds0_c0]), (rb_1, 0, [ptr rb_2 0]), (rb_2, 0, [.slice qa3 na3 ca3, .slice qa4 na4 ca4, mv]), (aB qa3, aO qa3, RSt.enc holds0_c10), (aB qa4, aO qa4, RSp.enc holds0_c11)] w)    (hna3 : holds0_c10.length = na3) (hqa3 : AOK na3 qa3) (hla3 : na3 ≤ ca3) (hna4 : holds0_c11.length = na4) (hqa4 : AOK na4 qa4) (hla4 : na4 ≤ ca4) {res : Unit} (hm : m_strip_some_3 holds0_c0 holds0_c10 holds0_c11 = some res) :
    Calls Try.prog 73 #[.func (.func 96) #[] #[ptr rb 0, ptr rb_1 0]] w (fun en w' => ∃ l : Nat, en = .returned (.agg #[.func (.func 122) #[] #[ptr l 0]]) ∧ (True) ∧ HV w (keys [] []) [(l, .cells #[.func (.func 96) #[] #[ptr rb 0, ptr rb_1 0]] 131 (0, 0))] [] [] w') := by
  unfold m_strip_some_3 at hm
  refine g_en Try.func73 rfl Try.ntmps73 rfl (e := [(0, _)]) rfl hw (g_sr ?_)
  refine g_boxV rfl rfl (fun b h1 => ?_)
  refine g_allocV (fun w => Try.zeroValue123 w) rfl (fun b_1 h2 => ?_)
  refine g_nx (g_val rfl rfl rfl (fun _ _ => v_makeFunc (u := #[]) (u' := #[_]) rfl rfl) (g_val rfl rfl rfl (fun _ _ => v_build (vs := [(0, _)]) (cells := [_]) rfl rfl) (g_stSA (us := #[_]) (cs' := [_]) (S' := [_, _]) 0 (fun w => Try.sizeOf123 w) rfl rfl rfl rfl rfl rfl rfl (g_nt (g_ret ?_)))))
  obtain rfl := sj hm
  refine g_done rfl (fun w hh => (.cell rfl (loadVar_agg (vs := [_]) (Try.isAgg123 _) (Try.sizeOf123 _) (hh.cells 0 rfl rfl)) .nil)) (fun w hh => ⟨b, rfl, trivial, hh.se [1] [] 5 rfl rfl rfl rfl⟩)
def m_strip_Stolen_1 (p0 : Pair) (a11 : Int) (a220 : (List Strip)) (a221 : (List Span)) : Option Bool :=
 (if p0.tenant = a11 then
 ((m_strip_desk_other a220 a221 p0).bind fun t12 =>
 some t12) else
 (some false)).bind fun o =>
 some o
theorem c_strip_Stolen_1 (p0 : Pair) (a11 : Int) (a220 : (List Strip)) (a221 : (List Span)) (rb : Nat) (rb_1 : Nat) (rb_2 : Nat) (qa3 : Option Addr) (na3 ca3 : Nat) (qa4 : Option Addr) (na4 ca4 : Nat) (mv : Value) (w : World) (hw : HV w (keys [] []) [] [] [(rb, 0, [.int .i64 a11]), (rb_1, 0, [ptr rb_2 0]), (rb_2, 0, [.slice qa3 na3 ca3, .slice qa4 na4 ca4, mv]), (aB qa3, aO qa3, RSt.enc a220), (aB qa4, aO qa4, RSp.enc a221)] w)    (hna3 : a220.length = na3) (hqa3 : AOK na3 qa3) (hla3 : na3 ≤ ca3) (hna4 : a221.length = na4) (hqa4 : AOK na4 qa4) (hla4 : na4 ≤ ca4) {res : Bool} (hm : m_strip_Stolen_1 p0 a11 a220 a221 = some res) :
    Calls Try.prog 96 #[.agg #[.int .i64 p0.tenant, .int .i64 p0.strip], ptr rb 0, ptr rb_1 0] w (fun en w' => ∃ l : Unit, en = .returned (.bool res) ∧ (True) ∧ HV w (keys [] []) [] [] [] w') := by
  unfold m_strip_Stolen_1 at hm
  refine g_en Try.func96 rfl Try.ntmps96 rfl (e := [(0, _), (1, _), (2, _)]) rfl hw (g_sr ?_)
  refine g_boxV rfl rfl (fun b h1 => ?_)
  refine g_as rfl rfl (g_nt (g_seq ?_))
  obtain ⟨o, h2, h3⟩ := bindO hm
  refine g_cut (ι := Unit) (fun l => True) (fun l => [(4, .bool o)]) (fun l => [(b, .cells #[.int .i64 p0.tenant, .int .i64 p0.strip] 128 (0, 0))]) (fun l => []) ?_ ?_
  ·replace hm := h2
   refine g_region (g_fa 0 Try.runUnderlying128 rfl Try.sizeOf3 rfl rfl (g_lc 0 Try.isAgg3 rfl rfl rfl rfl (g_val rfl rfl rfl (fun w hh => v_load (Try.isAgg3 w) rfl (segCell (hh.seg 0 rfl) 0 rfl)) (g_val rfl rfl rfl (fun _ _ => v_eql rfl rfl) (g_mv rfl rfl ?_)))))
   refine g_case 9 rfl (fun h4 => ?_) (fun h4 => ?_)
   ·replace hm := ifD h4 hm
    refine v_unguard rfl rfl (g_val rfl rfl rfl (fun w hh => v_load (Try.isAgg115 w) rfl (segCell (hh.seg 1 rfl) 0 rfl)) (v_unguard rfl rfl (g_val rfl rfl rfl (fun w hh => v_loadAgg (vs := [_, _]) (Try.isAgg128 w) (Try.sizeOf128 w) rfl (hh.cells 0 rfl rfl)) (v_unguard rfl rfl ?_))))
    obtain ⟨t12, h5, hm⟩ := bindO hm
    refine g_callH [] [] rfl rfl rfl rfl rfl rfl rfl Try.call97 (fun w hh => c_strip_desk_other a220 a221 p0 rb_2 qa3 na3 ca3 qa4 na4 ca4 mv w (HV.callee (S0 := []) (vs0 := []) hh (roC (hh.rsep 2 rfl) (roC (hh.rsep 3 rfl) (roC (hh.rsep 4 rfl) roN)))) hna3 hqa3 hla3 hna4 hqa4 hla4 h5) (fun l_1 h6 => ?_)
    refine g_pt rfl rfl rfl (g_as rfl rfl (g_nil ?_))
    obtain rfl := sj hm
    exact g_leaf () (trivial) (sE rfl) (fun w hh => hh)
   ·replace hm := ifE h4 hm
    refine g_k rfl rfl rfl rfl (g_k rfl rfl rfl rfl (g_k rfl rfl rfl rfl (g_pf rfl rfl rfl (g_as rfl rfl (g_nil ?_)))))
    obtain rfl := sj hm
    exact g_leaf () (trivial) (sE rfl) (fun w hh => hh)
  ·intro l hj
   replace hm := h3
   refine g_n_then (g_ret ?_)
   obtain rfl := sj hm
   refine g_done rfl (fun w hh => (.tmp rfl .nil)) (fun w hh => ⟨(), rfl, trivial, hh.se [] [] 5 rfl rfl rfl rfl⟩)
def m_strip_some_1_2 (p0 : Pair) (a11_c0 : Int) (a11_c10 : (List Strip)) (a11_c11 : (List Span)) : Option Int :=
 (m_strip_Stolen_1 p0 a11_c0 a11_c10 a11_c11).bind fun t6 =>
 if t6 = true then
 (some 1) else
 (some 0)
theorem c_strip_some_1_2 (p0 : Pair) (a11_c0 : Int) (a11_c10 : (List Strip)) (a11_c11 : (List Span)) (rb : Nat) (rb_1 : Nat) (rb_2 : Nat) (rb_3 : Nat) (qa4 : Option Addr) (na4 ca4 : Nat) (qa5 : Option Addr) (na5 ca5 : Nat) (mv : Value) (w : World) (hw : HV w (keys [] []) [] [] [(rb, 0, [.func (.func 96) #[] #[ptr rb_1 0, ptr rb_2 0]]), (rb_1, 0, [.int .i64 a11_c0]), (rb_2, 0, [ptr rb_3 0]), (rb_3, 0, [.slice qa4 na4 ca4, .slice qa5 na5 ca5, mv]), (aB qa4, aO qa4, RSt.enc a11_c10), (aB qa5, aO qa5, RSp.enc a11_c11)] w)     (hna4 : a11_c10.length = na4) (hqa4 : AOK na4 qa4) (hla4 : na4 ≤ ca4) (hna5 : a11_c11.length = na5) (hqa5 : AOK na5 qa5) (hla5 : na5 ≤ ca5) {res : Int} (hm : m_strip_some_1_2 p0 a11_c0 a11_c10 a11_c11 = some res) :
    Calls Try.prog 122 #[.agg #[.int .i64 p0.tenant, .int .i64 p0.strip], ptr rb 0] w (fun en w' => ∃ l : Unit, en = .returned (.int .i64 res) ∧ (True) ∧ HV w (keys [] []) [] [] [] w') := by
  unfold m_strip_some_1_2 at hm
  refine g_en Try.func122 rfl Try.ntmps122 rfl (e := [(0, _), (1, _)]) rfl hw (g_sr ?_)
  refine g_boxV rfl rfl (fun b h1 => ?_)
  refine g_as rfl rfl (g_nt (g_seq (g_sr (g_val rfl rfl rfl (fun w hh => v_load (Try.isAgg131 w) rfl (segCell (hh.seg 0 rfl) 0 rfl)) (g_val rfl rfl rfl (fun w hh => v_loadAgg (vs := [_, _]) (Try.isAgg128 w) (Try.sizeOf128 w) rfl (hh.cells 0 rfl rfl)) ?_)))))
  obtain ⟨t6, h2, hm⟩ := bindO hm
  refine g_callH [] [] rfl rfl rfl rfl rfl rfl rfl Try.call96 (fun w hh => c_strip_Stolen_1 p0 a11_c0 a11_c10 a11_c11 rb_1 rb_2 rb_3 qa4 na4 ca4 qa5 na5 ca5 mv w (HV.callee (S0 := []) (vs0 := []) hh (roC (hh.rsep 1 rfl) (roC (hh.rsep 2 rfl) (roC (hh.rsep 3 rfl) (roC (hh.rsep 4 rfl) (roC (hh.rsep 5 rfl) roN)))))) hna4 hqa4 hla4 hna5 hqa5 hla5 h2) (fun l h3 => ?_)
  refine g_nt ?_
  refine g_cond rfl (fun h4 => ?_) (fun h4 => ?_)
  ·replace hm := ifT (h4) hm
   refine g_sr (g_as rfl rfl (g_nt (g_ret (g_r_then ?_))))
   obtain rfl := sj hm
   refine g_done rfl (fun w hh => (.tmp rfl .nil)) (fun w hh => ⟨(), rfl, trivial, hh.se [] [] 6 rfl rfl rfl rfl⟩)
  ·replace hm := ifN h4 hm
   refine g_skip (g_n_then (g_sr (g_as rfl rfl (g_nt (g_ret ?_)))))
   obtain rfl := sj hm
   refine g_done rfl (fun w hh => (.tmp rfl .nil)) (fun w hh => ⟨(), rfl, trivial, hh.se [] [] 6 rfl rfl rfl rfl⟩)
structure m_strip_Stolen_R where
  r0 : Span
  r1 : Int
def m_strip_Stolen (s0 : Scalps) (tenant1 : Int) : Option m_strip_Stolen_R :=
 (m_strip_opened s0).bind fun t10 =>
 oc t10 (fun t10a => some (⟨(⟨0, 0⟩ : Span), t10a⟩ : m_strip_Stolen_R)) (fun t10b => (m_strip_Scalps_tenant s0 tenant1).bind fun t21 =>
 if (!t21) = true then
 (some (⟨(⟨0, 0⟩ : Span), 1⟩ : m_strip_Stolen_R)) else
 ((m_strip_some_3 tenant1 s0.strips s0.carried).bind fun t26 =>
 (m_strip_desk_spread_1 s0.strips s0.carried t10b (fun p_1 : Pair => m_strip_some_1_2 p_1 tenant1 s0.strips s0.carried)).bind fun t27 =>
 some (⟨t27.r0, t27.r1⟩ : m_strip_Stolen_R)))
theorem c_strip_Stolen (s0 : Scalps) (tenant1 : Int) (qa0 : Option Addr) (na0 ca0 : Nat) (qa1 : Option Addr) (na1 ca1 : Nat) (w : World) (hw : HV w (keys [] []) [] [] [(aB qa0, aO qa0, RSt.enc s0.strips), (aB qa1, aO qa1, RSp.enc s0.carried)] w) (hna0 : s0.strips.length = na0) (hqa0 : AOK na0 qa0) (hla0 : na0 ≤ ca0) (hna1 : s0.carried.length = na1) (hqa1 : AOK na1 qa1) (hla1 : na1 ≤ ca1) {res : m_strip_Stolen_R} (hm : m_strip_Stolen s0 tenant1 = some res) :
    Calls Try.prog 38 #[.agg #[.slice qa0 na0 ca0, .slice qa1 na1 ca1], .int .i64 tenant1] w (fun en w' => ∃ l : Unit, en = .returned (.tuple #[.agg #[.int .i64 res.r0.lo, .int .i64 res.r0.hi], .int .i64 res.r1]) ∧ (True) ∧ HV w (keys [] []) [] [] [] w') := by
  unfold m_strip_Stolen at hm
  refine g_en Try.func38 rfl Try.ntmps38 rfl (e := [(0, _), (1, _)]) rfl hw (g_sr ?_)
  refine g_boxV rfl rfl (fun b h1 => ?_)
  refine g_boxV rfl rfl (fun b_1 h2 => ?_)
  refine g_allocV (fun w => Try.zeroValue37 w) rfl (fun b_2 h3 => ?_)
  refine g_as rfl rfl (g_nx (g_val rfl rfl rfl (fun w hh => v_loadAgg (vs := [_, _]) (Try.isAgg28 w) (Try.sizeOf28 w) rfl (hh.cells 2 rfl rfl)) ?_))
  obtain ⟨t10, h4, hm⟩ := bindO hm
  rcases t10 with t10a | t10b
  ·replace hm := ocL hm
   refine g_callH [] [] rfl rfl rfl rfl rfl rfl rfl Try.call65 (fun w hh => c_strip_opened s0 qa0 na0 ca0 qa1 na1 ca1 w (HV.callee (S0 := []) (vs0 := []) hh (roC (hh.rsep 0 rfl) (roC (hh.rsep 1 rfl) roN))) hna0 hqa0 hla0 hna1 hqa1 hla1 h4) (fun l h5 => ?_)
   have h6 := h5
   refine g_mv rfl rfl (g_xt rfl rfl rfl (g_xt rfl rfl rfl ?_))
   refine g_allocV (fun w => Try.zeroValue115 w) rfl (fun b_3 h7 => ?_)
   refine g_stS (cs' := #[_]) (S' := [_, _, _, _]) 0 (fun w => Try.sizeOf115 w) rfl rfl rfl rfl rfl rfl rfl (g_as rfl rfl (g_nt (g_seq (g_block (g_sr (g_mv rfl rfl (g_val rfl rfl rfl (fun _ _ => v_neqT h6 rfl rfl) ?_)))))))
   refine g_as rfl rfl (g_nt (g_condT rfl rfl (g_sr (g_val rfl rfl rfl (fun _ _ => v_build (vs := []) (cells := [_, _]) rfl rfl) (g_mv rfl rfl (g_stSA (us := #[_, _]) (cs' := [_, _]) (S' := [_, _, _, _]) 1 (fun w => Try.sizeOf37 w) rfl rfl rfl rfl rfl rfl rfl (g_as rfl rfl ?_)))))))
   refine g_nt (g_ret (g_r_blk (g_r_then ?_)))
   obtain rfl := sj hm
   refine g_done rfl (fun w hh => (.cell rfl (loadVar_agg (vs := [_, _]) (Try.isAgg37 _) (Try.sizeOf37 _) (hh.cells 1 rfl rfl)) (.tmp rfl .nil))) (fun w hh => ⟨(), rfl, trivial, hh.se [] [] 2 rfl rfl rfl rfl⟩)
  ·replace hm := ocR hm
   refine g_callH [] [] rfl rfl rfl rfl rfl rfl rfl Try.call65 (fun w hh => c_strip_opened s0 qa0 na0 ca0 qa1 na1 ca1 w (HV.callee (S0 := []) (vs0 := []) hh (roC (hh.rsep 0 rfl) (roC (hh.rsep 1 rfl) roN))) hna0 hqa0 hla0 hna1 hqa1 hla1 h4) (fun l_1 h8 => ?_)
   refine g_se (S' := [_, _, _, _, _]) (vs' := []) [0, 1, 2, 3, 4] [] 0 rfl rfl rfl rfl (g_mv rfl rfl (g_xt rfl rfl rfl (g_xt rfl rfl rfl ?_)))
   refine g_allocV (fun w => Try.zeroValue115 w) rfl (fun b_4 h9 => ?_)
   refine g_stS (cs' := #[_]) (S' := [_, _, _, _, _, _]) 0 (fun w => Try.sizeOf115 w) rfl rfl rfl rfl rfl rfl rfl (g_as rfl rfl (g_nt (g_seq (g_block (g_sr (g_mv rfl rfl (g_val rfl rfl rfl (fun _ _ => v_neq rfl rfl) ?_)))))))
   refine g_as rfl rfl (g_nt (g_condF rfl rfl (g_sr (g_val rfl rfl rfl (fun w hh => v_loadAgg (vs := [_, _]) (Try.isAgg28 w) (Try.sizeOf28 w) rfl (hh.cells 5 rfl rfl)) (g_lc 4 Try.isAgg3 rfl rfl rfl rfl ?_)))))
   obtain ⟨t21, h10, hm⟩ := bindO hm
   refine g_callH [] [] rfl rfl rfl rfl rfl rfl rfl Try.call53 (fun w hh => c_strip_Scalps_tenant s0 tenant1 qa0 na0 ca0 qa1 na1 ca1 w (HV.callee (S0 := []) (vs0 := []) hh (roC (hh.rsep 0 rfl) (roC (hh.rsep 1 rfl) roN))) hna0 hqa0 hla0 hna1 hqa1 hla1 h10) (fun l_2 h11 => ?_)
   refine g_val rfl rfl rfl (fun _ _ => v_not rfl) (g_as rfl rfl (g_nt ?_))
   refine g_cond rfl (fun h12 => ?_) (fun h12 => ?_)
   ·replace hm := ifT (h12) hm
    refine g_sr (g_val rfl rfl rfl (fun _ _ => v_build (vs := []) (cells := [_, _]) rfl rfl) (g_stSA (us := #[_, _]) (cs' := [_, _]) (S' := [_, _, _, _, _, _]) 3 (fun w => Try.sizeOf37 w) rfl rfl rfl rfl rfl rfl rfl (g_as rfl rfl (g_nt (g_ret (g_r_blk (g_r_then ?_)))))))
    obtain rfl := sj hm
    refine g_done rfl (fun w hh => (.cell rfl (loadVar_agg (vs := [_, _]) (Try.isAgg37 _) (Try.sizeOf37 _) (hh.cells 3 rfl rfl)) (.tmp rfl .nil))) (fun w hh => ⟨(), rfl, trivial, hh.se [] [] 2 rfl rfl rfl rfl⟩)
   ·replace hm := ifN h12 hm
    refine g_skip (g_n_blk (g_n_then (g_seq ?_)))
    refine g_draw none (.hoist 0 (.free 1 (.one 2 (.one 3 (.free 4 (.free 5 (.one 6 (.free 7 .done)))))))) (HV _ _ [(b_4, .cells #[ptr l_1.1 0] 115 (0, 0)), (l_1.1, .cells #[.slice qa0 na0 ca0, .slice qa1 na1 ca1, .map (some l_1.2)] 163 (0, 0)), (l_1.2, gobj (kR RPr) kB t10b), (b_1, .cells #[.int .i64 tenant1] 3 (0, 0)), (b, .cells #[.slice qa0 na0 ca0, .slice qa1 na1 ca1] 28 (0, 0))] [] _) rfl (by decide +kernel) (fun w k hh => hh.draw k) (fun w hh => hh.se [0, 1, 2, 4, 5] [] 0 rfl rfl rfl rfl) ?_
    refine p_hoist rfl rfl rfl rfl (fun w hh => v_load (Try.isAgg115 w) rfl (hh.cell 0 rfl rfl)) (p_free rfl rfl rfl rfl (fun _ _ => v_makeFunc (u := #[]) (u' := #[_, _]) rfl rfl) (p_one rfl ?_))
    obtain ⟨t26, h13, hm⟩ := bindO hm
    refine g_callH [] [] rfl rfl rfl rfl rfl rfl rfl Try.call73 (fun w hh => c_strip_some_3 tenant1 s0.strips s0.carried b_1 b_4 l_1.1 qa0 na0 ca0 qa1 na1 ca1 (.map (some l_1.2)) w (HV.callee (S0 := []) (vs0 := []) hh (roC (bsep (hh.bseg 4 rfl)) (roC (bsep (hh.bseg 0 rfl)) (roC (bsep (hh.bseg 1 rfl)) (roC (hh.rsep 0 rfl) (roC (hh.rsep 1 rfl) roN)))))) hna0 hqa0 hla0 hna1 hqa1 hla1 h13) (fun l_3 h14 => ?_)
    refine g_se (S' := [_, _, _, _, _, _, _]) (vs' := []) [0, 1, 2, 3, 4, 5, 6] [] 0 rfl rfl rfl rfl (p_next (fun w hh => hh.se [1, 2, 3, 5, 6] [] 0 rfl rfl rfl rfl) (p_one rfl ?_))
    obtain ⟨t27, h15, hm⟩ := bindO hm
    refine g_se (S' := [_, _, _, _, _, _, _]) (vs' := []) [3, 0, 1, 2, 4, 5, 6] [] 0 rfl rfl rfl rfl ?_
    refine g_callH [_] [] rfl rfl rfl rfl rfl rfl rfl Try.call72 (fun w hh => c_strip_desk_spread_1 s0.strips s0.carried t10b (fun p_1 : Pair => m_strip_some_1_2 p_1 tenant1 s0.strips s0.carried) l_1.1 qa0 na0 ca0 qa1 na1 ca1 l_1.2 122 (#[]) (#[ptr l_3 0]) ([(l_3, 0, [.func (.func 96) #[] #[ptr b_1 0, ptr b_4 0]]), (b_1, 0, [.int .i64 tenant1]), (b_4, 0, [ptr l_1.1 0]), (l_1.1, 0, [.slice qa0 na0 ca0, .slice qa1 na1 ca1, .map (some l_1.2)]), (aB qa0, aO qa0, RSt.enc s0.strips), (aB qa1, aO qa1, RSp.enc s0.carried)]) w (HV.callee (S0 := [_]) (vs0 := []) hh (roA (roC (hh.bsepH 2 rfl) (roC (hh.rsep 0 rfl) (roC (hh.rsep 1 rfl) roN))) (roC (hh.bsepH 0 rfl) (roC (hh.bsepH 4 rfl) (roC (hh.bsepH 1 rfl) (roC (hh.bsepH 2 rfl) (roC (hh.rsep 0 rfl) (roC (hh.rsep 1 rfl) roN)))))))) hna0 hqa0 hla0 hna1 hqa1 hla1 (⟨fun a w => Try.call122 a w, (fun p_1 r hr w hT => clRet (c_strip_some_1_2 p_1 tenant1 s0.strips s0.carried l_3 b_1 b_4 l_1.1 qa0 na0 ca0 qa1 na1 ca1 (.map (some l_1.2)) w (HVstart hT) hna0 hqa0 hla0 hna1 hqa1 hla1 hr))⟩ : ClOK Try.prog 122 #[] #[ptr l_3 0] ([(l_3, 0, [.func (.func 96) #[] #[ptr b_1 0, ptr b_4 0]]), (b_1, 0, [.int .i64 tenant1]), (b_4, 0, [ptr l_1.1 0]), (l_1.1, 0, [.slice qa0 na0 ca0, .slice qa1 na1 ca1, .map (some l_1.2)]), (aB qa0, aO qa0, RSt.enc s0.strips), (aB qa1, aO qa1, RSp.enc s0.carried)]) (fun x : Pair => [.agg #[.int .i64 x.tenant, .int .i64 x.strip]]) (fun x : Int => .int .i64 x) (fun p_1 : Pair => m_strip_some_1_2 p_1 tenant1 s0.strips s0.carried)) h15) (fun l_4 h16 => ?_)
    refine g_se (S' := [_, _, _, _, _, _, _]) (vs' := []) [0, 1, 2, 3, 4, 5, 6] [] 0 rfl rfl rfl rfl (p_next (fun w hh => hh.se [2, 3, 0, 5, 6] [] 0 rfl rfl rfl rfl) (p_free rfl rfl rfl rfl (fun _ _ => v_extract rfl rfl) (p_free rfl rfl rfl rfl (fun _ _ => v_extract rfl rfl) (p_one rfl (g_stSA (us := #[_, _]) (cs' := [_, _]) (S' := [_, _, _, _, _, _, _]) 4 (fun w => Try.sizeOf37 w) rfl rfl rfl rfl rfl rfl rfl (p_next (fun w hh => hh.se [2, 3, 0, 5, 6] [] 0 rfl rfl rfl rfl) (p_free rfl rfl rfl rfl (fun _ _ => v_assign rfl) ?_)))))))
    refine p_done (g_n_then (g_ret ?_))
    obtain rfl := sj hm
    refine g_done rfl (fun w hh => (.cell rfl (loadVar_agg (vs := [_, _]) (Try.isAgg37 _) (Try.sizeOf37 _) (hh.cells 4 rfl rfl)) (.tmp rfl .nil))) (fun w hh => ⟨(), rfl, trivial, hh.se [] [] 2 rfl rfl rfl rfl⟩)
end Go.Proofs.Ws

namespace Go.Proofs.Ws
set_option maxHeartbeats 4000000
set_option maxRecDepth 100000
open Go Go.Fw Go.Gx Go.Sp
set_option linter.unusedVariables false

structure m_strip_Gone_R where
  r0 : Span
  r1 : Int
def m_strip_Gone (s0 : Scalps) (strip1 : Int) : Option m_strip_Gone_R :=
 (m_strip_opened s0).bind fun t10 =>
 oc t10 (fun t10a => some (⟨(⟨0, 0⟩ : Span), t10a⟩ : m_strip_Gone_R)) (fun t10b => (m_strip_Scalps_strip s0 strip1).bind fun t21 =>
 if (!t21) = true then
 (some (⟨(⟨0, 0⟩ : Span), 1⟩ : m_strip_Gone_R)) else
 ((ix s0.strips strip1).bind fun t27 =>
 (m_strip_Strip_gone (⟨t27.tenant, (⟨t27.lay.lo, t27.lay.hi⟩ : Span), (⟨t27.seeded.lo, t27.seeded.hi⟩ : Span), (⟨t27.left.lo, t27.left.hi⟩ : Span)⟩ : Strip)).bind fun t29 =>
 some (⟨t29, 0⟩ : m_strip_Gone_R)))
theorem c_strip_Gone (s0 : Scalps) (strip1 : Int) (qa0 : Option Addr) (na0 ca0 : Nat) (qa1 : Option Addr) (na1 ca1 : Nat) (w : World) (hw : HV w (keys [] []) [] [] [(aB qa0, aO qa0, RSt.enc s0.strips), (aB qa1, aO qa1, RSp.enc s0.carried)] w) (hna0 : s0.strips.length = na0) (hqa0 : AOK na0 qa0) (hla0 : na0 ≤ ca0) (hna1 : s0.carried.length = na1) (hqa1 : AOK na1 qa1) (hla1 : na1 ≤ ca1) {res : m_strip_Gone_R} (hm : m_strip_Gone s0 strip1 = some res) :
    Calls Try.prog 37 #[.agg #[.slice qa0 na0 ca0, .slice qa1 na1 ca1], .int .i64 strip1] w (fun en w' => ∃ l : Unit, en = .returned (.tuple #[.agg #[.int .i64 res.r0.lo, .int .i64 res.r0.hi], .int .i64 res.r1]) ∧ (True) ∧ HV w (keys [] []) [] [] [] w') := by
  unfold m_strip_Gone at hm
  refine g_en Try.func37 rfl Try.ntmps37 rfl (e := [(0, _), (1, _)]) rfl hw (g_sr ?_)
  refine g_boxV rfl rfl (fun b h1 => ?_)
  refine g_allocV (fun w => Try.zeroValue37 w) rfl (fun b_1 h2 => ?_)
  refine g_as rfl rfl (g_nx (g_val rfl rfl rfl (fun w hh => v_loadAgg (vs := [_, _]) (Try.isAgg28 w) (Try.sizeOf28 w) rfl (hh.cells 1 rfl rfl)) ?_))
  obtain ⟨t10, h3, hm⟩ := bindO hm
  rcases t10 with t10a | t10b
  ·replace hm := ocL hm
   refine g_callH [] [] rfl rfl rfl rfl rfl rfl rfl Try.call65 (fun w hh => c_strip_opened s0 qa0 na0 ca0 qa1 na1 ca1 w (HV.callee (S0 := []) (vs0 := []) hh (roC (hh.rsep 0 rfl) (roC (hh.rsep 1 rfl) roN))) hna0 hqa0 hla0 hna1 hqa1 hla1 h3) (fun l h4 => ?_)
   have h5 := h4
   refine g_mv rfl rfl (g_xt rfl rfl rfl (g_xt rfl rfl rfl (g_as rfl rfl (g_as rfl rfl (g_nt (g_seq (g_block ?_)))))))
   refine g_sr (g_mv rfl rfl (g_val rfl rfl rfl (fun _ _ => v_neqT h5 rfl rfl) (g_as rfl rfl (g_nt (g_condT rfl rfl (g_sr (g_val rfl rfl rfl (fun _ _ => v_build (vs := []) (cells := [_, _]) rfl rfl) ?_)))))))
   refine g_mv rfl rfl (g_stSA (us := #[_, _]) (cs' := [_, _]) (S' := [_, _]) 0 (fun w => Try.sizeOf37 w) rfl rfl rfl rfl rfl rfl rfl (g_as rfl rfl (g_nt (g_ret (g_r_blk (g_r_then ?_))))))
   obtain rfl := sj hm
   refine g_done rfl (fun w hh => (.cell rfl (loadVar_agg (vs := [_, _]) (Try.isAgg37 _) (Try.sizeOf37 _) (hh.cells 0 rfl rfl)) (.tmp rfl .nil))) (fun w hh => ⟨(), rfl, trivial, hh.se [] [] 2 rfl rfl rfl rfl⟩)
  ·replace hm := ocR hm
   refine g_callH [] [] rfl rfl rfl rfl rfl rfl rfl Try.call65 (fun w hh => c_strip_opened s0 qa0 na0 ca0 qa1 na1 ca1 w (HV.callee (S0 := []) (vs0 := []) hh (roC (hh.rsep 0 rfl) (roC (hh.rsep 1 rfl) roN))) hna0 hqa0 hla0 hna1 hqa1 hla1 h3) (fun l_1 h6 => ?_)
   refine g_se (S' := [_, _, _, _]) (vs' := []) [0, 1, 2, 3] [] 0 rfl rfl rfl rfl (g_mv rfl rfl (g_xt rfl rfl rfl (g_xt rfl rfl rfl (g_as rfl rfl (g_as rfl rfl (g_nt (g_seq ?_)))))))
   refine g_block (g_sr (g_mv rfl rfl (g_val rfl rfl rfl (fun _ _ => v_neq rfl rfl) (g_as rfl rfl (g_nt (g_condF rfl rfl (g_sr ?_)))))))
   refine g_val rfl rfl rfl (fun w hh => v_loadAgg (vs := [_, _]) (Try.isAgg28 w) (Try.sizeOf28 w) rfl (hh.cells 3 rfl rfl)) (g_mv rfl rfl ?_)
   obtain ⟨t21, h7, hm⟩ := bindO hm
   refine g_callH [] [] rfl rfl rfl rfl rfl rfl rfl Try.call71 (fun w hh => c_strip_Scalps_strip s0 strip1 qa0 na0 ca0 qa1 na1 ca1 w (HV.callee (S0 := []) (vs0 := []) hh (roC (hh.rsep 0 rfl) (roC (hh.rsep 1 rfl) roN))) hna0 hqa0 hla0 hna1 hqa1 hla1 h7) (fun l_2 h8 => ?_)
   refine g_val rfl rfl rfl (fun _ _ => v_not rfl) (g_as rfl rfl (g_nt ?_))
   refine g_cond rfl (fun h9 => ?_) (fun h9 => ?_)
   ·replace hm := ifT (h9) hm
    refine g_sr (g_val rfl rfl rfl (fun _ _ => v_build (vs := []) (cells := [_, _]) rfl rfl) (g_stSA (us := #[_, _]) (cs' := [_, _]) (S' := [_, _, _, _]) 2 (fun w => Try.sizeOf37 w) rfl rfl rfl rfl rfl rfl rfl (g_as rfl rfl (g_nt (g_ret (g_r_blk (g_r_then ?_)))))))
    obtain rfl := sj hm
    refine g_done rfl (fun w hh => (.cell rfl (loadVar_agg (vs := [_, _]) (Try.isAgg37 _) (Try.sizeOf37 _) (hh.cells 2 rfl rfl)) (.tmp rfl .nil))) (fun w hh => ⟨(), rfl, trivial, hh.se [] [] 2 rfl rfl rfl rfl⟩)
   ·replace hm := ifN h9 hm
    refine g_skip (g_n_blk (g_n_then (g_sr (g_fa 0 Try.runUnderlying28 rfl Try.sizeOf25 rfl rfl (g_lc 3 Try.isAgg25 rfl rfl rfl rfl (g_mv rfl rfl ?_))))))
    obtain ⟨t27, h10, hm⟩ := bindO hm
    refine g_val rfl rfl rfl (fun w _ => v_ixR h10 (Try.runUnderlying25 w) (Try.sizeOf77 w) rfl rfl hna0 hqa0) ?_
    refine g_val rfl rfl rfl (fun w hh => v_ldEA RSt 0 [.int .i64 t27.tenant, .int .i64 t27.lay.lo, .int .i64 t27.lay.hi, .int .i64 t27.seeded.lo, .int .i64 t27.seeded.hi, .int .i64 t27.left.lo, .int .i64 t27.left.hi] h10 (Try.isAgg77 w) (Try.sizeOf77 w) rfl (hh.seg 0 rfl) rfl (Nat.add_zero _).symm) ?_
    obtain ⟨t29, h11, hm⟩ := bindO hm
    refine g_callH [] [] rfl rfl rfl rfl rfl rfl rfl Try.call64 (fun w hh => c_strip_Strip_gone (⟨t27.tenant, (⟨t27.lay.lo, t27.lay.hi⟩ : Span), (⟨t27.seeded.lo, t27.seeded.hi⟩ : Span), (⟨t27.left.lo, t27.left.hi⟩ : Span)⟩ : Strip) w (HV.callee (S0 := []) (vs0 := []) hh roN)  h11) (fun l_3 h12 => ?_)
    refine g_stSA (us := #[_, _]) (cs' := [_, _]) (S' := [_, _, _, _]) 2 (fun w => Try.sizeOf37 w) rfl rfl rfl rfl rfl rfl rfl (g_as rfl rfl (g_nt (g_ret ?_)))
    obtain rfl := sj hm
    refine g_done rfl (fun w hh => (.cell rfl (loadVar_agg (vs := [_, _]) (Try.isAgg37 _) (Try.sizeOf37 _) (hh.cells 2 rfl rfl)) (.tmp rfl .nil))) (fun w hh => ⟨(), rfl, trivial, hh.se [] [] 2 rfl rfl rfl rfl⟩)
end Go.Proofs.Ws

namespace Go.Proofs.Ws
set_option maxHeartbeats 4000000
set_option maxRecDepth 100000
open Go Go.Fw Go.Gx Go.Sp
set_option linter.unusedVariables false

structure m_laurellaw09_StripSeeded_C0 where
  seeded11 : Scalps
  left12 : Scalps
def m_laurellaw09_StripSeeded_Q0 : Plan := (.one 1 (.one 3 (.one 6 (.one 7 .done))))
def m_laurellaw09_StripSeeded_Q1 : Plan := (.br (.alt 3 (.one 4 (.one 6 (.one 7 .done))) (.alt 4 (.one 3 (.one 6 (.one 7 .done))) .nil)))
def m_laurellaw09_StripSeeded_Q2 : Plan := (.br (.alt 1 m_laurellaw09_StripSeeded_Q1 (.alt 4 m_laurellaw09_StripSeeded_Q0 .nil)))
def m_laurellaw09_StripSeeded_Q3 : Plan := (.br (.alt 3 (.one 5 (.one 6 (.one 7 .done))) (.alt 5 (.one 3 (.one 6 (.one 7 .done))) .nil)))
def m_laurellaw09_StripSeeded_Q4 : Plan := (.br (.alt 1 m_laurellaw09_StripSeeded_Q3 (.alt 5 m_laurellaw09_StripSeeded_Q0 .nil)))
def m_laurellaw09_StripSeeded_Q5 : Plan := (.br (.alt 4 (.one 5 (.one 6 (.one 7 .done))) (.alt 5 (.one 4 (.one 6 (.one 7 .done))) .nil)))
def m_laurellaw09_StripSeeded_Q6 : Plan := (.br (.alt 3 m_laurellaw09_StripSeeded_Q5 (.alt 4 m_laurellaw09_StripSeeded_Q3 (.alt 5 m_laurellaw09_StripSeeded_Q1 .nil))))
def m_laurellaw09_StripSeeded_L0 (t35 : m_laurellaw09_Made_1_R) (seeded11_strips_1 : (List Strip)) (o : m_laurellaw09_StripSeeded_C0) (s : Int) : Option (Int ⊕ (Unit ⊕ Bool)) :=
 if s < (t35.r0.carried.length : Int) then
 ((m_strip_Stolen t35.r0 s).bind fun t189 =>
 (m_strip_Stolen (⟨seeded11_strips_1, o.seeded11.carried⟩ : Scalps) s).bind fun t195 =>
 (if t189.r1 = 0 then
 (if t195.r1 = 0 then
 (some (!decide (t189.r0 = t195.r0))) else
 (some true)) else
 (some true)).bind fun o_4 =>
 if o_4 = true then
 (some (.inr (.inr false))) else
 ((addc s 1).bind fun t209 =>
 some (.inl t209))) else
 (some (.inr (.inl ())))
def m_laurellaw09_StripSeeded_L1 (t35 : m_laurellaw09_Made_1_R) (left12_strips_1 : (List Strip)) (o : m_laurellaw09_StripSeeded_C0) (s_1 : Int) : Option (Int ⊕ (Unit ⊕ Bool)) :=
 if s_1 < (t35.r0.carried.length : Int) then
 ((m_strip_Stolen t35.r0 s_1).bind fun t189_1 =>
 (m_strip_Stolen (⟨left12_strips_1, o.left12.carried⟩ : Scalps) s_1).bind fun t195_1 =>
 (if t189_1.r1 = 0 then
 (if t195_1.r1 = 0 then
 (some (!decide (t189_1.r0 = t195_1.r0))) else
 (some true)) else
 (some true)).bind fun o_7 =>
 if o_7 = true then
 (some (.inr (.inr false))) else
 ((addc s_1 1).bind fun t209_1 =>
 some (.inl t209_1))) else
 (some (.inr (.inl ())))
def m_laurellaw09_StripSeeded (numbers0 : (List Int)) (which1 : Int) (many2 : Int) : Option Bool :=
 (m_laurelkit_Pile numbers0).bind fun t34 =>
 (m_laurellaw09_Made_1 numbers0 t34.t5_1 t34.t5_2 5 4).bind fun t35 =>
 (remc (IntKind.i64.wrap which1) (t35.r0.strips.length : Int)).bind fun t43 =>
 (remc (IntKind.i64.wrap many2) 8).bind fun t46 =>
 ((m_laurellaw09_Own t35.r0).bind fun t48 =>
 (m_laurellaw09_Own t35.r0).bind fun t50 =>
 some (⟨t48, t50⟩ : m_laurellaw09_StripSeeded_C0)).bind fun o =>
 (ix o.seeded11.strips t43).bind fun t54 =>
 (some (o.seeded11.strips.set (Int.toNat t43) (⟨t54.tenant, (⟨t54.seeded.lo, t54.seeded.hi⟩ : Span), t54.seeded, t54.left⟩ : Strip))).bind fun seeded11_strips =>
 (ix seeded11_strips t43).bind fun x =>
 (some (seeded11_strips.set (Int.toNat t43) (⟨x.tenant, x.lay, (⟨t54.lay.lo, t54.lay.hi⟩ : Span), x.left⟩ : Strip))).bind fun seeded11_strips_1 =>
 (ix o.left12.strips t43).bind fun t72 =>
 (addc t72.lay.lo t46).bind fun t80 =>
 (addc t72.lay.hi t46).bind fun t87 =>
 (some (o.left12.strips.set (Int.toNat t43) (⟨t72.tenant, (⟨t80, t87⟩ : Span), t72.seeded, t72.left⟩ : Strip))).bind fun left12_strips =>
 (ix left12_strips t43).bind fun t96 =>
 (addc t96.left.lo t46).bind fun t98 =>
 (ix left12_strips t43).bind fun t103 =>
 (addc t103.left.hi t46).bind fun t105 =>
 (ix left12_strips t43).bind fun x_1 =>
 (some (left12_strips.set (Int.toNat t43) (⟨x_1.tenant, x_1.lay, x_1.seeded, (⟨t98, t105⟩ : Span)⟩ : Strip))).bind fun left12_strips_1 =>
 ((ix left12_strips_1 t43).bind fun t113 =>
 if 30 < t113.lay.hi then
 (some true) else
 ((ix left12_strips_1 t43).bind fun t120 =>
 some (decide (30 < t120.left.hi)))).bind fun o_1 =>
 if o_1 = true then
 ((m_laurellaw09_awake).bind fun t123 =>
 some t123) else
 ((m_strip_Gone t35.r0 t43).bind fun t135 =>
 (m_strip_Gone (⟨seeded11_strips_1, o.seeded11.carried⟩ : Scalps) t43).bind fun t141 =>
 (m_strip_Least t35.r0).bind fun t146 =>
 (m_strip_Least (⟨seeded11_strips_1, o.seeded11.carried⟩ : Scalps)).bind fun t152 =>
 (if t135.r1 = 0 then
 (if t141.r1 = 0 then
 (if t146.r2 = 0 then
 (if t152.r2 = 0 then
 (if t135.r0 = t141.r0 then
 (some (!decide (t146.r1 = t152.r1))) else
 (some true)) else
 (some true)) else
 (some true)) else
 (some true)) else
 (some true)).bind fun o_2 =>
 if o_2 = true then
 (some false) else
 ((iterM FU (m_laurellaw09_StripSeeded_L0 t35 seeded11_strips_1 o) 0).bind fun o_3 =>
 oc o_3 (fun j => (m_strip_Gone t35.r0 t43).bind fun t135_1 =>
 (m_strip_Gone (⟨left12_strips_1, o.left12.carried⟩ : Scalps) t43).bind fun t141_1 =>
 (m_strip_Least t35.r0).bind fun t146_1 =>
 (m_strip_Least (⟨left12_strips_1, o.left12.carried⟩ : Scalps)).bind fun t152_1 =>
 (if t135_1.r1 = 0 then
 (if t141_1.r1 = 0 then
 (if t146_1.r2 = 0 then
 (if t152_1.r2 = 0 then
 (if t135_1.r0 = t141_1.r0 then
 (some (!decide (t146_1.r1 = t152_1.r1))) else
 (some true)) else
 (some true)) else
 (some true)) else
 (some true)) else
 (some true)).bind fun o_5 =>
 if o_5 = true then
 (some false) else
 ((iterM FU (m_laurellaw09_StripSeeded_L1 t35 left12_strips_1 o) 0).bind fun o_6 =>
 oc o_6 (fun j_1 => (m_laurellaw09_awake).bind fun t211 =>
 some t211) (fun r_2 => some r_2))) (fun r_3 => some r_3)))
theorem c_laurellaw09_StripSeeded (numbers0 : (List Int)) (which1 : Int) (many2 : Int) (qa0 : Option Addr) (na0 ca0 : Nat) (w : World) (hw : HV w (keys [] []) [] [] [(aB qa0, aO qa0, RU8.enc numbers0)] w) (hna0 : numbers0.length = na0) (hqa0 : AOK na0 qa0) (hla0 : na0 ≤ ca0) {res : Bool} (hm : m_laurellaw09_StripSeeded numbers0 which1 many2 = some res) :
    Calls Try.prog 6 #[.slice qa0 na0 ca0, .int .u8 which1, .int .u8 many2] w (fun en w' => ∃ l : Unit, en = .returned (.bool res) ∧ (True) ∧ HV w (keys [] []) [] [] [] w') := by
  unfold m_laurellaw09_StripSeeded at hm
  refine g_en Try.func6 rfl Try.ntmps6 rfl (e := [(0, _), (1, _), (2, _)]) rfl hw (g_sr (g_as rfl rfl (g_nx (g_mv rfl rfl ?_))))
  obtain ⟨t34, h1, hm⟩ := bindO hm
  refine g_callH [] [] rfl rfl rfl rfl rfl rfl rfl Try.call12 (fun w hh => c_laurelkit_Pile numbers0 qa0 na0 ca0 w (HV.callee (S0 := []) (vs0 := []) hh (roC (hh.rsep 0 rfl) roN)) hna0 hqa0 hla0 h1) (fun l h2 => ?_)
  refine g_se (S' := [_]) (vs' := []) [0] [] 0 rfl rfl rfl rfl ?_
  obtain ⟨t35, h3, hm⟩ := bindO hm
  refine g_callH [_] [] rfl rfl rfl rfl rfl rfl rfl Try.call13 (fun w hh => c_laurellaw09_Made_1 numbers0 t34.t5_1 t34.t5_2 5 4 l qa0 na0 ca0 w (HV.callee (S0 := [_]) (vs0 := []) hh (roC (hh.rsep 0 rfl) roN)) hna0 hqa0 hla0 h3) (fun l_1 h4 => ?_)
  obtain ⟨h5, h6, h7, h8⟩ := h4
  refine g_se (S' := [_]) (vs' := [_, _, _]) [0] [0, 1, 2] 0 rfl rfl rfl rfl (g_mv rfl rfl (g_xt rfl rfl rfl (g_xt rfl rfl rfl ?_)))
  refine g_allocV (fun w => Try.zeroValue28 w) rfl (fun b h9 => ?_)
  refine g_stSA (us := #[_, _]) (cs' := [_, _]) (S' := [_, _]) 0 (fun w => Try.sizeOf28 w) rfl rfl rfl rfl rfl rfl rfl (g_as rfl rfl (g_nx (g_mv rfl rfl (g_val rfl rfl rfl (fun w _ => v_conv (Try.runUnderlying5 w) (Try.runUnderlying3 w) rfl) (g_fa 0 Try.runUnderlying28 rfl Try.sizeOf25 rfl rfl (g_lc 0 Try.isAgg25 rfl rfl rfl rfl (g_val rfl rfl rfl (fun w _ => v_lenN (vlen RSt h5 rfl) (Try.runUnderlying25 w) rfl) ?_)))))))
  obtain ⟨t43, h10, hm⟩ := bindO hm
  refine g_val rfl rfl rfl (fun _ _ => v_remc h10 rfl rfl) (g_mv rfl rfl (g_val rfl rfl rfl (fun w _ => v_conv (Try.runUnderlying5 w) (Try.runUnderlying3 w) rfl) ?_))
  obtain ⟨t46, h11, hm⟩ := bindO hm
  refine g_val rfl rfl rfl (fun _ _ => v_remc h11 rfl rfl) (g_as rfl rfl (g_as rfl rfl (g_nt (g_seq ?_))))
  obtain ⟨o, h12, h13⟩ := bindO hm
  refine g_cut (ι := Nat × Nat × VL × VL × VL × VL) (fun l_2 => VOK 7 l_2.2.2.1.n l_2.2.2.1.cap (RSt.enc o.seeded11.strips) l_2.2.2.1.sp l_2.2.2.1.q ∧ VOK 2 l_2.2.2.2.1.n l_2.2.2.2.1.cap (RSp.enc o.seeded11.carried) l_2.2.2.2.1.sp l_2.2.2.2.1.q ∧ VOK 7 l_2.2.2.2.2.1.n l_2.2.2.2.2.1.cap (RSt.enc o.left12.strips) l_2.2.2.2.2.1.sp l_2.2.2.2.2.1.q ∧ VOK 2 l_2.2.2.2.2.2.n l_2.2.2.2.2.2.cap (RSp.enc o.left12.carried) l_2.2.2.2.2.2.sp l_2.2.2.2.2.2.q) (fun l_2 => [(7, ptr b 0), (9, .int .i64 t43), (10, .int .i64 t46), (11, ptr l_2.1 0), (12, ptr l_2.2.1 0)]) (fun l_2 => [(b, .cells #[slv l_1.1.q l_1.1.n l_1.1.cap, slv l_1.2.1.q l_1.2.1.n l_1.2.1.cap] 28 (0, 0)), (l, .cells #[.slice qa0 na0 ca0, .int .i64 t35.b0_1, .int .u32 t35.b0_2] 105 (0, 0)), (l_2.1, .cells #[slv l_2.2.2.1.q l_2.2.2.1.n l_2.2.2.1.cap, slv l_2.2.2.2.1.q l_2.2.2.2.1.n l_2.2.2.2.1.cap] 28 (0, 0)), (l_2.2.1, .cells #[slv l_2.2.2.2.2.1.q l_2.2.2.2.2.1.n l_2.2.2.2.2.1.cap, slv l_2.2.2.2.2.2.q l_2.2.2.2.2.2.n l_2.2.2.2.2.2.cap] 28 (0, 0))]) (fun l_2 => [⟨77, RSt.enc t35.r0.strips, l_1.1.sp, l_1.1.q, []⟩, ⟨37, RSp.enc t35.r0.carried, l_1.2.1.sp, l_1.2.1.q, []⟩, ⟨77, RSt.enc o.seeded11.strips, l_2.2.2.1.sp, l_2.2.2.1.q, []⟩, ⟨37, RSp.enc o.seeded11.carried, l_2.2.2.2.1.sp, l_2.2.2.2.1.q, []⟩, ⟨77, RSt.enc o.left12.strips, l_2.2.2.2.2.1.sp, l_2.2.2.2.2.1.q, []⟩, ⟨37, RSp.enc o.left12.carried, l_2.2.2.2.2.2.sp, l_2.2.2.2.2.2.q, []⟩]) ?_ ?_
  ·replace hm := h12
   obtain ⟨t48, h18, hm⟩ := bindO hm
   obtain ⟨t50, h19, hm⟩ := bindO hm
   refine g_draw none (.hoist 0 (.hoist 2 (.br (.alt 1 m_laurellaw09_StripSeeded_Q6 (.alt 4 m_laurellaw09_StripSeeded_Q4 (.alt 5 m_laurellaw09_StripSeeded_Q2 .nil)))))) _ rfl (by decide +kernel) (fun w k hh => hh.draw k) (fun w hh => hh) ?_
   refine p_hoist rfl rfl rfl rfl (fun w hh => v_loadAgg (vs := [_, _]) (Try.isAgg28 w) (Try.sizeOf28 w) rfl (hh.cells 0 rfl rfl)) (p_hoist rfl rfl rfl rfl (fun w hh => v_loadAgg (vs := [_, _]) (Try.isAgg28 w) (Try.sizeOf28 w) rfl (hh.cells 0 rfl rfl)) ?_)
   refine p_share (.one 7 .done) (fun g => ∀ (b_1 : Nat) (b_2 : Nat) (L : VL) (L_1 : VL) (L_2 : VL) (L_3 : VL), vk 7 L (RSt.enc t50.strips) → vk 2 L_1 (RSp.enc t50.carried) → vk 7 L_2 (RSt.enc t48.strips) → vk 2 L_3 (RSp.enc t48.carried) → g [(7, ptr b 0), (9, .int .i64 t43), (10, .int .i64 t46), (11, ptr b_1 0), (12, ptr b_2 0), (50, .agg #[sL L, sL L_1])] [(b, .cells #[sL l_1.1, sL l_1.2.1] 28 (0, 0)), (l, .cells #[.slice qa0 na0 ca0, .int .i64 t35.b0_1, .int .u32 t35.b0_2] 105 (0, 0)), (b_1, .cells #[sL L_2, sL L_3] 28 (0, 0)), (b_2, .cells #[slv none 0 0, slv none 0 0] 28 (0, 0))] [vL 77 L (RSt.enc t50.strips), vL 37 L_1 (RSp.enc t50.carried), vL 77 l_1.1 (RSt.enc t35.r0.strips), vL 37 l_1.2.1 (RSp.enc t35.r0.carried), vL 77 L_2 (RSt.enc t48.strips), vL 37 L_3 (RSp.enc t48.carried), ⟨32, RwH.enc l_1.2.2.rs, l_1.2.2.v.sp, l_1.2.2.v.q, dbl 3 RI t35.r1 l_1.2.2.rs⟩]) ?_ (fun h24 => ?_)
   ·intro b_1 b_2 L L_1 L_2 L_3 h20 h21 h22 h23
    refine p_one rfl (g_stSA (us := #[_, _]) (cs' := [_, _]) (S' := [_, _, _, _]) 3 (fun w => Try.sizeOf28 w) rfl rfl rfl rfl rfl rfl rfl (p_next (fun w hh => hh.se [0, 1] [2, 3, 6] 0 rfl rfl rfl rfl) (p_done ?_)))
    obtain rfl := sj hm
    exact g_leaf (b_1, b_2, L_2, L_3, L, L_1) (⟨h22, h23, h20, h21⟩) (sE rfl) (fun w hh => hh.se [0, 1, 2, 3] [2, 3, 4, 5, 0, 1] 0 rfl rfl rfl rfl)
   refine p_share (.one 6 (.one 7 .done)) (fun g => ∀ (b_3 : Nat) (b_4 : Nat) (L_4 : VL) (L_5 : VL) (L_6 : VL) (L_7 : VL), vk 7 L_4 (RSt.enc t48.strips) → vk 2 L_5 (RSp.enc t48.carried) → vk 7 L_6 (RSt.enc t50.strips) → vk 2 L_7 (RSp.enc t50.carried) → g [(7, ptr b 0), (9, .int .i64 t43), (10, .int .i64 t46), (11, ptr b_3 0), (12, ptr b_4 0), (48, .agg #[sL L_4, sL L_5]), (50, .agg #[sL L_6, sL L_7])] [(b, .cells #[sL l_1.1, sL l_1.2.1] 28 (0, 0)), (l, .cells #[.slice qa0 na0 ca0, .int .i64 t35.b0_1, .int .u32 t35.b0_2] 105 (0, 0)), (b_3, .cells #[slv none 0 0, slv none 0 0] 28 (0, 0)), (b_4, .cells #[slv none 0 0, slv none 0 0] 28 (0, 0))] [vL 77 L_4 (RSt.enc t48.strips), vL 37 L_5 (RSp.enc t48.carried), vL 77 L_6 (RSt.enc t50.strips), vL 37 L_7 (RSp.enc t50.carried), vL 77 l_1.1 (RSt.enc t35.r0.strips), vL 37 l_1.2.1 (RSp.enc t35.r0.carried), ⟨32, RwH.enc l_1.2.2.rs, l_1.2.2.v.sp, l_1.2.2.v.q, dbl 3 RI t35.r1 l_1.2.2.rs⟩]) ?_ (fun h29 => ?_)
   ·intro b_3 b_4 L_4 L_5 L_6 L_7 h25 h26 h27 h28
    refine p_one rfl (g_stSA (us := #[_, _]) (cs' := [_, _]) (S' := [_, _, _, _]) 2 (fun w => Try.sizeOf28 w) rfl rfl rfl rfl rfl rfl rfl (p_next (fun w hh => hh.se [0, 1] [4, 5, 6] 0 rfl rfl rfl rfl) ?_))
    exact p_shr (h24 b_3 b_4 L_6 L_7 L_4 L_5 h27 h28 h25 h26) (sE rfl) (fun w hh => hh.se [0, 1, 2, 3] [2, 3, 4, 5, 0, 1, 6] 0 rfl rfl rfl rfl)
   refine p_share (.one 3 (.one 6 (.one 7 .done))) (fun g => ∀ (b_5 : Nat) (b_6 : Nat) (L_8 : VL) (L_9 : VL), vk 7 L_8 (RSt.enc t48.strips) → vk 2 L_9 (RSp.enc t48.carried) → g [(7, ptr b 0), (9, .int .i64 t43), (10, .int .i64 t46), (11, ptr b_5 0), (12, ptr b_6 0), (48, .agg #[sL L_8, sL L_9]), (49, .agg #[sL l_1.1, sL l_1.2.1])] [(b, .cells #[sL l_1.1, sL l_1.2.1] 28 (0, 0)), (l, .cells #[.slice qa0 na0 ca0, .int .i64 t35.b0_1, .int .u32 t35.b0_2] 105 (0, 0)), (b_5, .cells #[slv none 0 0, slv none 0 0] 28 (0, 0)), (b_6, .cells #[slv none 0 0, slv none 0 0] 28 (0, 0))] [vL 77 L_8 (RSt.enc t48.strips), vL 37 L_9 (RSp.enc t48.carried), vL 77 l_1.1 (RSt.enc t35.r0.strips), vL 37 l_1.2.1 (RSp.enc t35.r0.carried), ⟨32, RwH.enc l_1.2.2.rs, l_1.2.2.v.sp, l_1.2.2.v.q, dbl 3 RI t35.r1 l_1.2.2.rs⟩]) ?_ (fun h32 => ?_)
   ·intro b_5 b_6 L_8 L_9 h30 h31
    refine p_one rfl ?_
    refine g_callH [] [] rfl rfl rfl rfl rfl rfl rfl Try.call22 (fun w hh => c_laurellaw09_Own t35.r0 (qA l_1.1.q) l_1.1.n l_1.1.cap (qA l_1.2.1.q) l_1.2.1.n l_1.2.1.cap w (HV.callee (S0 := []) (vs0 := []) hh (roC (hh.vsepA 2 rfl h5) (roC (hh.vsepA 3 rfl h6) roN))) (vlen RSt h5 rfl) (AOK.q (vne h5)) (h5).hle (vlen RSp h6 rfl) (AOK.q (vne h6)) (h6).hle h19) (fun l_3 h33 => ?_)
    obtain ⟨h34, h35⟩ := h33
    refine g_se (S' := [_, _, _, _]) (vs' := [_, _, _, _, _, _, _]) [0, 1, 2, 3] [0, 1, 2, 3, 4, 5, 6] 0 rfl rfl rfl rfl (p_next (fun w hh => hh.se [0, 1] [4, 5, 6] 0 rfl rfl rfl rfl) ?_)
    exact p_shr (h29 b_5 b_6 L_8 L_9 l_3.1 l_3.2 h30 h31 h34 h35) (sE rfl) (fun w hh => hh.se [0, 1, 2, 3] [2, 3, 0, 1, 4, 5, 6] 0 rfl rfl rfl rfl)
   refine p_share (.one 4 (.one 6 (.one 7 .done))) (fun g => ∀ (b_7 : Nat) (L_10 : VL) (L_11 : VL) (L_12 : VL) (L_13 : VL), vk 7 L_10 (RSt.enc t48.strips) → vk 2 L_11 (RSp.enc t48.carried) → vk 7 L_12 (RSt.enc t50.strips) → vk 2 L_13 (RSp.enc t50.carried) → g [(7, ptr b 0), (9, .int .i64 t43), (10, .int .i64 t46), (12, ptr b_7 0), (48, .agg #[sL L_10, sL L_11]), (50, .agg #[sL L_12, sL L_13])] [(b, .cells #[sL l_1.1, sL l_1.2.1] 28 (0, 0)), (l, .cells #[.slice qa0 na0 ca0, .int .i64 t35.b0_1, .int .u32 t35.b0_2] 105 (0, 0)), (b_7, .cells #[slv none 0 0, slv none 0 0] 28 (0, 0))] [vL 77 L_10 (RSt.enc t48.strips), vL 37 L_11 (RSp.enc t48.carried), vL 77 L_12 (RSt.enc t50.strips), vL 37 L_13 (RSp.enc t50.carried), vL 77 l_1.1 (RSt.enc t35.r0.strips), vL 37 l_1.2.1 (RSp.enc t35.r0.carried), ⟨32, RwH.enc l_1.2.2.rs, l_1.2.2.v.sp, l_1.2.2.v.q, dbl 3 RI t35.r1 l_1.2.2.rs⟩]) ?_ (fun h40 => ?_)
   ·intro b_7 L_10 L_11 L_12 L_13 h36 h37 h38 h39
    refine p_one rfl ?_
    refine g_allocV (fun w => Try.zeroValue28 w) rfl (fun b_8 h41 => ?_)
    refine p_next (fun w hh => hh.se [1, 2] [4, 5, 6] 0 rfl rfl rfl rfl) ?_
    exact p_shr (h29 b_8 b_7 L_10 L_11 L_12 L_13 h36 h37 h38 h39) (sE rfl) (fun w hh => hh.se [1, 2, 0, 3] [0, 1, 2, 3, 4, 5, 6] 0 rfl rfl rfl rfl)
   refine p_share (.one 5 (.one 6 (.one 7 .done))) (fun g => ∀ (b_9 : Nat) (L_14 : VL) (L_15 : VL) (L_16 : VL) (L_17 : VL), vk 7 L_14 (RSt.enc t48.strips) → vk 2 L_15 (RSp.enc t48.carried) → vk 7 L_16 (RSt.enc t50.strips) → vk 2 L_17 (RSp.enc t50.carried) → g [(7, ptr b 0), (9, .int .i64 t43), (10, .int .i64 t46), (11, ptr b_9 0), (48, .agg #[sL L_14, sL L_15]), (50, .agg #[sL L_16, sL L_17])] [(b, .cells #[sL l_1.1, sL l_1.2.1] 28 (0, 0)), (l, .cells #[.slice qa0 na0 ca0, .int .i64 t35.b0_1, .int .u32 t35.b0_2] 105 (0, 0)), (b_9, .cells #[slv none 0 0, slv none 0 0] 28 (0, 0))] [vL 77 L_14 (RSt.enc t48.strips), vL 37 L_15 (RSp.enc t48.carried), vL 77 L_16 (RSt.enc t50.strips), vL 37 L_17 (RSp.enc t50.carried), vL 77 l_1.1 (RSt.enc t35.r0.strips), vL 37 l_1.2.1 (RSp.enc t35.r0.carried), ⟨32, RwH.enc l_1.2.2.rs, l_1.2.2.v.sp, l_1.2.2.v.q, dbl 3 RI t35.r1 l_1.2.2.rs⟩]) ?_ (fun h46 => ?_)
   ·intro b_9 L_14 L_15 L_16 L_17 h42 h43 h44 h45
    refine p_one rfl ?_
    refine g_allocV (fun w => Try.zeroValue28 w) rfl (fun b_10 h47 => ?_)
    refine p_next (fun w hh => hh.se [1, 2] [4, 5, 6] 0 rfl rfl rfl rfl) ?_
    exact p_shr (h29 b_9 b_10 L_14 L_15 L_16 L_17 h42 h43 h44 h45) (sE rfl) (fun w hh => hh.se [1, 2, 3, 0] [0, 1, 2, 3, 4, 5, 6] 0 rfl rfl rfl rfl)
   refine p_share m_laurellaw09_StripSeeded_Q0 (fun g => ∀ (b_11 : Nat) (b_12 : Nat), g [(7, ptr b 0), (9, .int .i64 t43), (10, .int .i64 t46), (11, ptr b_11 0), (12, ptr b_12 0), (47, .agg #[sL l_1.1, sL l_1.2.1]), (49, .agg #[sL l_1.1, sL l_1.2.1])] [(b, .cells #[sL l_1.1, sL l_1.2.1] 28 (0, 0)), (l, .cells #[.slice qa0 na0 ca0, .int .i64 t35.b0_1, .int .u32 t35.b0_2] 105 (0, 0)), (b_11, .cells #[slv none 0 0, slv none 0 0] 28 (0, 0)), (b_12, .cells #[slv none 0 0, slv none 0 0] 28 (0, 0))] [vL 77 l_1.1 (RSt.enc t35.r0.strips), vL 37 l_1.2.1 (RSp.enc t35.r0.carried), ⟨32, RwH.enc l_1.2.2.rs, l_1.2.2.v.sp, l_1.2.2.v.q, dbl 3 RI t35.r1 l_1.2.2.rs⟩]) ?_ (fun h48 => ?_)
   ·intro b_11 b_12
    refine p_one rfl ?_
    refine g_callH [] [] rfl rfl rfl rfl rfl rfl rfl Try.call22 (fun w hh => c_laurellaw09_Own t35.r0 (qA l_1.1.q) l_1.1.n l_1.1.cap (qA l_1.2.1.q) l_1.2.1.n l_1.2.1.cap w (HV.callee (S0 := []) (vs0 := []) hh (roC (hh.vsepA 0 rfl h5) (roC (hh.vsepA 1 rfl h6) roN))) (vlen RSt h5 rfl) (AOK.q (vne h5)) (h5).hle (vlen RSp h6 rfl) (AOK.q (vne h6)) (h6).hle h18) (fun l_4 h49 => ?_)
    obtain ⟨h50, h51⟩ := h49
    refine g_se (S' := [_, _, _, _]) (vs' := [_, _, _, _, _]) [0, 1, 2, 3] [0, 1, 2, 3, 4] 0 rfl rfl rfl rfl (p_next (fun w hh => hh.se [0, 1] [2, 3, 4] 0 rfl rfl rfl rfl) ?_)
    exact p_shr (h32 b_11 b_12 l_4.1 l_4.2 h50 h51) (sE rfl) (fun w hh => hh)
   refine p_share m_laurellaw09_StripSeeded_Q1 (fun g => ∀ (b_13 : Nat) (L_18 : VL) (L_19 : VL), vk 7 L_18 (RSt.enc t48.strips) → vk 2 L_19 (RSp.enc t48.carried) → g [(7, ptr b 0), (9, .int .i64 t43), (10, .int .i64 t46), (12, ptr b_13 0), (48, .agg #[sL L_18, sL L_19]), (49, .agg #[sL l_1.1, sL l_1.2.1])] [(b, .cells #[sL l_1.1, sL l_1.2.1] 28 (0, 0)), (l, .cells #[.slice qa0 na0 ca0, .int .i64 t35.b0_1, .int .u32 t35.b0_2] 105 (0, 0)), (b_13, .cells #[slv none 0 0, slv none 0 0] 28 (0, 0))] [vL 77 L_18 (RSt.enc t48.strips), vL 37 L_19 (RSp.enc t48.carried), vL 77 l_1.1 (RSt.enc t35.r0.strips), vL 37 l_1.2.1 (RSp.enc t35.r0.carried), ⟨32, RwH.enc l_1.2.2.rs, l_1.2.2.v.sp, l_1.2.2.v.q, dbl 3 RI t35.r1 l_1.2.2.rs⟩]) ?_ (fun h54 => ?_)
   ·intro b_13 L_18 L_19 h52 h53
    refine p_br ?_
    refine p_alt rfl ?_ ?_
    ·refine g_callH [] [] rfl rfl rfl rfl rfl rfl rfl Try.call22 (fun w hh => c_laurellaw09_Own t35.r0 (qA l_1.1.q) l_1.1.n l_1.1.cap (qA l_1.2.1.q) l_1.2.1.n l_1.2.1.cap w (HV.callee (S0 := []) (vs0 := []) hh (roC (hh.vsepA 2 rfl h5) (roC (hh.vsepA 3 rfl h6) roN))) (vlen RSt h5 rfl) (AOK.q (vne h5)) (h5).hle (vlen RSp h6 rfl) (AOK.q (vne h6)) (h6).hle h19) (fun l_5 h55 => ?_)
     obtain ⟨h56, h57⟩ := h55
     refine g_se (S' := [_, _, _]) (vs' := [_, _, _, _, _, _, _]) [0, 1, 2] [0, 1, 2, 3, 4, 5, 6] 0 rfl rfl rfl rfl (p_next (fun w hh => hh.se [0, 1] [4, 5, 6] 0 rfl rfl rfl rfl) ?_)
     exact p_shr (h40 b_13 L_18 L_19 l_5.1 l_5.2 h52 h53 h56 h57) (sE rfl) (fun w hh => hh.se [0, 1, 2] [2, 3, 0, 1, 4, 5, 6] 0 rfl rfl rfl rfl)
    refine p_alt rfl ?_ ?_
    ·refine g_allocV (fun w => Try.zeroValue28 w) rfl (fun b_14 h58 => ?_)
     refine p_next (fun w hh => hh.se [1, 2] [2, 3, 4] 0 rfl rfl rfl rfl) ?_
     exact p_shr (h32 b_14 b_13 L_18 L_19 h52 h53) (sE rfl) (fun w hh => hh.se [1, 2, 0, 3] [0, 1, 2, 3, 4] 0 rfl rfl rfl rfl)
    exact p_nil
   refine p_share m_laurellaw09_StripSeeded_Q3 (fun g => ∀ (b_15 : Nat) (L_20 : VL) (L_21 : VL), vk 7 L_20 (RSt.enc t48.strips) → vk 2 L_21 (RSp.enc t48.carried) → g [(7, ptr b 0), (9, .int .i64 t43), (10, .int .i64 t46), (11, ptr b_15 0), (48, .agg #[sL L_20, sL L_21]), (49, .agg #[sL l_1.1, sL l_1.2.1])] [(b, .cells #[sL l_1.1, sL l_1.2.1] 28 (0, 0)), (l, .cells #[.slice qa0 na0 ca0, .int .i64 t35.b0_1, .int .u32 t35.b0_2] 105 (0, 0)), (b_15, .cells #[slv none 0 0, slv none 0 0] 28 (0, 0))] [vL 77 L_20 (RSt.enc t48.strips), vL 37 L_21 (RSp.enc t48.carried), vL 77 l_1.1 (RSt.enc t35.r0.strips), vL 37 l_1.2.1 (RSp.enc t35.r0.carried), ⟨32, RwH.enc l_1.2.2.rs, l_1.2.2.v.sp, l_1.2.2.v.q, dbl 3 RI t35.r1 l_1.2.2.rs⟩]) ?_ (fun h61 => ?_)
   ·intro b_15 L_20 L_21 h59 h60
    refine p_br ?_
    refine p_alt rfl ?_ ?_
    ·refine g_callH [] [] rfl rfl rfl rfl rfl rfl rfl Try.call22 (fun w hh => c_laurellaw09_Own t35.r0 (qA l_1.1.q) l_1.1.n l_1.1.cap (qA l_1.2.1.q) l_1.2.1.n l_1.2.1.cap w (HV.callee (S0 := []) (vs0 := []) hh (roC (hh.vsepA 2 rfl h5) (roC (hh.vsepA 3 rfl h6) roN))) (vlen RSt h5 rfl) (AOK.q (vne h5)) (h5).hle (vlen RSp h6 rfl) (AOK.q (vne h6)) (h6).hle h19) (fun l_6 h62 => ?_)
     obtain ⟨h63, h64⟩ := h62
     refine g_se (S' := [_, _, _]) (vs' := [_, _, _, _, _, _, _]) [0, 1, 2] [0, 1, 2, 3, 4, 5, 6] 0 rfl rfl rfl rfl (p_next (fun w hh => hh.se [0, 1] [4, 5, 6] 0 rfl rfl rfl rfl) ?_)
     exact p_shr (h46 b_15 L_20 L_21 l_6.1 l_6.2 h59 h60 h63 h64) (sE rfl) (fun w hh => hh.se [0, 1, 2] [2, 3, 0, 1, 4, 5, 6] 0 rfl rfl rfl rfl)
    refine p_alt rfl ?_ ?_
    ·refine g_allocV (fun w => Try.zeroValue28 w) rfl (fun b_16 h65 => ?_)
     refine p_next (fun w hh => hh.se [1, 2] [2, 3, 4] 0 rfl rfl rfl rfl) ?_
     exact p_shr (h32 b_15 b_16 L_20 L_21 h59 h60) (sE rfl) (fun w hh => hh.se [1, 2, 3, 0] [0, 1, 2, 3, 4] 0 rfl rfl rfl rfl)
    exact p_nil
   refine p_br ?_
   refine p_alt rfl ?_ ?_
   ·refine g_callH [] [] rfl rfl rfl rfl rfl rfl rfl Try.call22 (fun w hh => c_laurellaw09_Own t35.r0 (qA l_1.1.q) l_1.1.n l_1.1.cap (qA l_1.2.1.q) l_1.2.1.n l_1.2.1.cap w (HV.callee (S0 := []) (vs0 := []) hh (roC (hh.vsepA 0 rfl h5) (roC (hh.vsepA 1 rfl h6) roN))) (vlen RSt h5 rfl) (AOK.q (vne h5)) (h5).hle (vlen RSp h6 rfl) (AOK.q (vne h6)) (h6).hle h18) (fun l_7 h66 => ?_)
    obtain ⟨h67, h68⟩ := h66
    refine g_se (S' := [_, _]) (vs' := [_, _, _, _, _]) [0, 1] [0, 1, 2, 3, 4] 0 rfl rfl rfl rfl (p_next (fun w hh => hh.se [0, 1] [2, 3, 4] 0 rfl rfl rfl rfl) (p_br ?_))
    refine p_alt rfl ?_ ?_
    ·refine g_callH [] [] rfl rfl rfl rfl rfl rfl rfl Try.call22 (fun w hh => c_laurellaw09_Own t35.r0 (qA l_1.1.q) l_1.1.n l_1.1.cap (qA l_1.2.1.q) l_1.2.1.n l_1.2.1.cap w (HV.callee (S0 := []) (vs0 := []) hh (roC (hh.vsepA 2 rfl h5) (roC (hh.vsepA 3 rfl h6) roN))) (vlen RSt h5 rfl) (AOK.q (vne h5)) (h5).hle (vlen RSp h6 rfl) (AOK.q (vne h6)) (h6).hle h19) (fun l_8 h69 => ?_)
     obtain ⟨h70, h71⟩ := h69
     refine g_se (S' := [_, _]) (vs' := [_, _, _, _, _, _, _]) [0, 1] [0, 1, 2, 3, 4, 5, 6] 0 rfl rfl rfl rfl (p_next (fun w hh => hh.se [0, 1] [4, 5, 6] 0 rfl rfl rfl rfl) (p_br ?_))
     refine p_alt rfl ?_ ?_
     ·refine g_allocV (fun w => Try.zeroValue28 w) rfl (fun b_17 h72 => ?_)
      refine p_next (fun w hh => hh.se [1, 2] [4, 5, 6] 0 rfl rfl rfl rfl) ?_
      exact p_shr (h46 b_17 l_7.1 l_7.2 l_8.1 l_8.2 h67 h68 h70 h71) (sE rfl) (fun w hh => hh.se [1, 2, 0] [2, 3, 0, 1, 4, 5, 6] 0 rfl rfl rfl rfl)
     refine p_alt rfl ?_ ?_
     ·refine g_allocV (fun w => Try.zeroValue28 w) rfl (fun b_18 h73 => ?_)
      refine p_next (fun w hh => hh.se [1, 2] [4, 5, 6] 0 rfl rfl rfl rfl) ?_
      exact p_shr (h40 b_18 l_7.1 l_7.2 l_8.1 l_8.2 h67 h68 h70 h71) (sE rfl) (fun w hh => hh.se [1, 2, 0] [2, 3, 0, 1, 4, 5, 6] 0 rfl rfl rfl rfl)
     exact p_nil
    refine p_alt rfl ?_ ?_
    ·refine g_allocV (fun w => Try.zeroValue28 w) rfl (fun b_19 h74 => ?_)
     refine p_next (fun w hh => hh.se [1, 2] [2, 3, 4] 0 rfl rfl rfl rfl) ?_
     exact p_shr (h61 b_19 l_7.1 l_7.2 h67 h68) (sE rfl) (fun w hh => hh.se [1, 2, 0] [0, 1, 2, 3, 4] 0 rfl rfl rfl rfl)
    refine p_alt rfl ?_ ?_
    ·refine g_allocV (fun w => Try.zeroValue28 w) rfl (fun b_20 h75 => ?_)
     refine p_next (fun w hh => hh.se [1, 2] [2, 3, 4] 0 rfl rfl rfl rfl) ?_
     exact p_shr (h54 b_20 l_7.1 l_7.2 h67 h68) (sE rfl) (fun w hh => hh.se [1, 2, 0] [0, 1, 2, 3, 4] 0 rfl rfl rfl rfl)
    exact p_nil
   refine p_alt rfl ?_ ?_
   ·refine g_allocV (fun w => Try.zeroValue28 w) rfl (fun b_21 h76 => ?_)
    refine p_next (fun w hh => hh.se [1, 2] [0, 1, 2] 0 rfl rfl rfl rfl) (p_br ?_)
    refine p_alt rfl ?_ ?_
    ·refine g_callH [] [] rfl rfl rfl rfl rfl rfl rfl Try.call22 (fun w hh => c_laurellaw09_Own t35.r0 (qA l_1.1.q) l_1.1.n l_1.1.cap (qA l_1.2.1.q) l_1.2.1.n l_1.2.1.cap w (HV.callee (S0 := []) (vs0 := []) hh (roC (hh.vsepA 0 rfl h5) (roC (hh.vsepA 1 rfl h6) roN))) (vlen RSt h5 rfl) (AOK.q (vne h5)) (h5).hle (vlen RSp h6 rfl) (AOK.q (vne h6)) (h6).hle h18) (fun l_9 h77 => ?_)
     obtain ⟨h78, h79⟩ := h77
     refine g_se (S' := [_, _, _]) (vs' := [_, _, _, _, _]) [0, 1, 2] [0, 1, 2, 3, 4] 0 rfl rfl rfl rfl (p_next (fun w hh => hh.se [1, 2] [2, 3, 4] 0 rfl rfl rfl rfl) ?_)
     exact p_shr (h61 b_21 l_9.1 l_9.2 h78 h79) (sE rfl) (fun w hh => hh.se [1, 2, 0] [0, 1, 2, 3, 4] 0 rfl rfl rfl rfl)
    refine p_alt rfl ?_ ?_
    ·refine g_allocV (fun w => Try.zeroValue28 w) rfl (fun b_22 h80 => ?_)
     refine p_next (fun w hh => hh.se [2, 3] [0, 1, 2] 0 rfl rfl rfl rfl) ?_
     exact p_shr (h48 b_21 b_22) (sE rfl) (fun w hh => hh.se [2, 3, 1, 0] [0, 1, 2] 0 rfl rfl rfl rfl)
    exact p_nil
   refine p_alt rfl ?_ ?_
   ·refine g_allocV (fun w => Try.zeroValue28 w) rfl (fun b_23 h81 => ?_)
    refine p_next (fun w hh => hh.se [1, 2] [0, 1, 2] 0 rfl rfl rfl rfl) (p_br ?_)
    refine p_alt rfl ?_ ?_
    ·refine g_callH [] [] rfl rfl rfl rfl rfl rfl rfl Try.call22 (fun w hh => c_laurellaw09_Own t35.r0 (qA l_1.1.q) l_1.1.n l_1.1.cap (qA l_1.2.1.q) l_1.2.1.n l_1.2.1.cap w (HV.callee (S0 := []) (vs0 := []) hh (roC (hh.vsepA 0 rfl h5) (roC (hh.vsepA 1 rfl h6) roN))) (vlen RSt h5 rfl) (AOK.q (vne h5)) (h5).hle (vlen RSp h6 rfl) (AOK.q (vne h6)) (h6).hle h18) (fun l_10 h82 => ?_)
     obtain ⟨h83, h84⟩ := h82
     refine g_se (S' := [_, _, _]) (vs' := [_, _, _, _, _]) [0, 1, 2] [0, 1, 2, 3, 4] 0 rfl rfl rfl rfl (p_next (fun w hh => hh.se [1, 2] [2, 3, 4] 0 rfl rfl rfl rfl) ?_)
     exact p_shr (h54 b_23 l_10.1 l_10.2 h83 h84) (sE rfl) (fun w hh => hh.se [1, 2, 0] [0, 1, 2, 3, 4] 0 rfl rfl rfl rfl)
    refine p_alt rfl ?_ ?_
    ·refine g_allocV (fun w => Try.zeroValue28 w) rfl (fun b_24 h85 => ?_)
     refine p_next (fun w hh => hh.se [2, 3] [0, 1, 2] 0 rfl rfl rfl rfl) ?_
     exact p_shr (h48 b_24 b_23) (sE rfl) (fun w hh => hh.se [2, 3, 0, 1] [0, 1, 2] 0 rfl rfl rfl rfl)
    exact p_nil
   exact p_nil
  ·intro l_2 hj
   obtain ⟨h14, h15, h16, h17⟩ := hj
   replace hm := h13
   refine g_n_then (g_sr (g_fa 0 Try.runUnderlying28 rfl Try.sizeOf25 rfl rfl (g_lc 2 Try.isAgg25 rfl rfl rfl rfl (g_mv rfl rfl ?_))))
   obtain ⟨t54, h86, hm⟩ := bindO hm
   refine g_val rfl rfl rfl (fun w _ => v_ixA h86 (Try.runUnderlying25 w) (Try.sizeOf77 w) rfl rfl (vlen RSt h14 rfl) (vne h14)) (g_as rfl rfl (g_nt (g_seq ?_)))
   refine g_draw (some 12) (.free 0 (.free 1 (.free 2 (.free 3 (.free 4 (.hoist 5 (.free 6 (.free 7 (.free 8 (.hoist 9 (.free 10 (.free 11 (.last 12 (.free 13 (.free 14 (.last 15 .done)))))))))))))))) _ rfl (by decide +kernel) (fun w k hh => hh.draw k) (fun w hh => hh) ?_
   refine p_free rfl rfl rfl rfl (fun _ _ => v_move rfl) (p_free rfl rfl rfl rfl (fun _ _ => v_move rfl) (p_free rfl rfl rfl rfl (fun _ _ => v_move rfl) (p_free rfl rfl rfl rfl (fun _ _ => v_nilCheck rfl) (p_free rfl rfl rfl rfl (fun w _ => v_fieldAddr 3 (Try.runUnderlying77 w) rfl (Try.sizeOf37 w) rfl) ?_))))
   refine p_hoist rfl rfl rfl rfl (fun w hh => v_ldEA RSt 3 [.int .i64 t54.seeded.lo, .int .i64 t54.seeded.hi] h86 (Try.isAgg37 w) (Try.sizeOf37 w) rfl (hh.vseg 2 rfl h14) rfl rfl) ?_
   refine p_free rfl rfl rfl rfl (fun _ _ => v_move rfl) (p_free rfl rfl rfl rfl (fun _ _ => v_nilCheck rfl) (p_free rfl rfl rfl rfl (fun w _ => v_fieldAddr 1 (Try.runUnderlying77 w) rfl (Try.sizeOf37 w) rfl) ?_))
   refine p_hoist rfl rfl rfl rfl (fun w hh => v_ldEA RSt 1 [.int .i64 t54.lay.lo, .int .i64 t54.lay.hi] h86 (Try.isAgg37 w) (Try.sizeOf37 w) rfl (hh.vseg 2 rfl h14) rfl rfl) ?_
   refine p_free rfl rfl rfl rfl (fun _ _ => v_nilCheck rfl) (p_free rfl rfl rfl rfl (fun w _ => v_fieldAddr 1 (Try.runUnderlying77 w) rfl (Try.sizeOf37 w) rfl) (p_last rfl ?_))
   obtain ⟨seeded11_strips, hseeded11_strips, hm⟩ := bindO hm
   refine g_vstP (us := #[_, _]) RSt 2 1 (⟨t54.tenant, (⟨t54.seeded.lo, t54.seeded.hi⟩ : Span), t54.seeded, t54.left⟩ : Strip) (fun w => Try.sizeOf37 w) rfl rfl rfl h14 rfl rfl rfl rfl rfl rfl h86 rfl (Option.some.inj hseeded11_strips) (fun h87 => ?_)
   refine g_se (S' := [_, _, _, _]) (vs' := [_, _, _, _, _, _]) [0, 1, 2, 3] [0, 1, 2, 3, 4, 5] 0 rfl rfl rfl rfl (p_nextL (p_free rfl rfl rfl rfl (fun _ _ => v_nilCheck rfl) (p_free rfl rfl rfl rfl (fun w _ => v_fieldAddr 3 (Try.runUnderlying77 w) rfl (Try.sizeOf37 w) rfl) (p_last rfl ?_))))
   obtain ⟨x, h88, hm⟩ := bindO hm
   obtain ⟨seeded11_strips_1, hseeded11_strips_1, hm⟩ := bindO hm
   refine g_vstP (us := #[_, _]) RSt 2 3 (⟨x.tenant, x.lay, (⟨t54.lay.lo, t54.lay.hi⟩ : Span), x.left⟩ : Strip) (fun w => Try.sizeOf37 w) rfl rfl rfl h87 rfl rfl rfl rfl rfl rfl h88 rfl (Option.some.inj hseeded11_strips_1) (fun h89 => ?_)
   refine g_se (S' := [_, _, _, _]) (vs' := [_, _, _, _, _, _]) [0, 1, 2, 3] [0, 1, 2, 3, 4, 5] 0 rfl rfl rfl rfl (p_nextL (p_done (g_n_then (g_sr (g_fa 0 Try.runUnderlying28 rfl Try.sizeOf25 rfl rfl (g_lc 3 Try.isAgg25 rfl rfl rfl rfl (g_mv rfl rfl ?_)))))))
   obtain ⟨t72, h90, hm⟩ := bindO hm
   refine g_val rfl rfl rfl (fun w _ => v_ixA h90 (Try.runUnderlying25 w) (Try.sizeOf77 w) rfl rfl (vlen RSt h16 rfl) (vne h16)) (g_as rfl rfl (g_nt (g_seq ?_)))
   refine g_draw (some 18) (.free 0 (.free 1 (.free 2 (.free 3 (.free 4 (.hoist 5 (.free 6 (.free 7 (.free 8 (.free 9 (.free 10 (.free 11 (.hoist 12 (.free 13 (.free 14 (.free 15 (.free 16 (.free 17 (.last 18 .done))))))))))))))))))) _ rfl (by decide +kernel) (fun w k hh => hh.draw k) (fun w hh => hh) ?_
   refine p_free rfl rfl rfl rfl (fun _ _ => v_move rfl) (p_free rfl rfl rfl rfl (fun _ _ => v_move rfl) (p_free rfl rfl rfl rfl (fun _ _ => v_nilCheck rfl) (p_free rfl rfl rfl rfl (fun w _ => v_fieldAddr 1 (Try.runUnderlying77 w) rfl (Try.sizeOf37 w) rfl) (p_free rfl rfl rfl rfl (fun w _ => v_fieldAddr 0 (Try.runUnderlying37 w) rfl (Try.sizeOf3 w) rfl) (p_hoist rfl rfl rfl rfl (fun w hh => v_ldE RSt 1 h90 (Try.isAgg3 w) rfl (hh.vseg 4 rfl h16) rfl (by first | rfl | simp only [Nat.add_assoc])) (p_free rfl rfl rfl rfl (fun _ _ => v_move rfl) ?_))))))
   obtain ⟨t80, h91, hm⟩ := bindO hm
   refine p_free rfl rfl rfl rfl (fun _ _ => v_addc h91 rfl rfl) (p_free rfl rfl rfl rfl (fun _ _ => v_move rfl) (p_free rfl rfl rfl rfl (fun _ _ => v_nilCheck rfl) (p_free rfl rfl rfl rfl (fun w _ => v_fieldAddr 1 (Try.runUnderlying77 w) rfl (Try.sizeOf37 w) rfl) (p_free rfl rfl rfl rfl (fun w _ => v_fieldAddr 1 (Try.runUnderlying37 w) rfl (Try.sizeOf3 w) rfl) (p_hoist rfl rfl rfl rfl (fun w hh => v_ldE RSt 2 h90 (Try.isAgg3 w) rfl (hh.vseg 4 rfl h16) rfl (by first | rfl | simp only [Nat.add_assoc])) (p_free rfl rfl rfl rfl (fun _ _ => v_move rfl) ?_))))))
   obtain ⟨t87, h92, hm⟩ := bindO hm
   refine p_free rfl rfl rfl rfl (fun _ _ => v_addc h92 rfl rfl) (p_free rfl rfl rfl rfl (fun _ _ => v_build (vs := [(0, _), (1, _)]) (cells := [_, _]) rfl rfl) (p_free rfl rfl rfl rfl (fun _ _ => v_nilCheck rfl) (p_free rfl rfl rfl rfl (fun w _ => v_fieldAddr 1 (Try.runUnderlying77 w) rfl (Try.sizeOf37 w) rfl) (p_last rfl ?_))))
   obtain ⟨left12_strips, hleft12_strips, hm⟩ := bindO hm
   refine g_vstP (us := #[_, _]) RSt 4 1 (⟨t72.tenant, (⟨t80, t87⟩ : Span), t72.seeded, t72.left⟩ : Strip) (fun w => Try.sizeOf37 w) rfl rfl rfl h16 rfl rfl rfl rfl rfl rfl h90 rfl (Option.some.inj hleft12_strips) (fun h93 => ?_)
   refine g_se (S' := [_, _, _, _]) (vs' := [_, _, _, _, _, _]) [0, 1, 2, 3] [0, 1, 2, 3, 4, 5] 0 rfl rfl rfl rfl (p_nextL (p_done (g_n_then (g_seq ?_))))
   refine g_draw (some 18) (.free 0 (.free 1 (.free 2 (.free 3 (.free 4 (.hoist 5 (.free 6 (.free 7 (.free 8 (.free 9 (.free 10 (.free 11 (.hoist 12 (.free 13 (.free 14 (.free 15 (.free 16 (.free 17 (.last 18 .done))))))))))))))))))) _ rfl (by decide +kernel) (fun w k hh => hh.draw k) (fun w hh => hh) ?_
   refine p_free rfl rfl rfl rfl (fun _ _ => v_move rfl) (p_free rfl rfl rfl rfl (fun _ _ => v_move rfl) (p_free rfl rfl rfl rfl (fun _ _ => v_nilCheck rfl) (p_free rfl rfl rfl rfl (fun w _ => v_fieldAddr 5 (Try.runUnderlying77 w) rfl (Try.sizeOf37 w) rfl) (p_free rfl rfl rfl rfl (fun w _ => v_fieldAddr 0 (Try.runUnderlying37 w) rfl (Try.sizeOf3 w) rfl) ?_))))
   obtain ⟨t96, h94, hm⟩ := bindO hm
   refine p_hoist rfl rfl rfl rfl (fun w hh => v_ldE RSt 5 h94 (Try.isAgg3 w) rfl (hh.vseg 4 rfl h93) rfl (by first | rfl | simp only [Nat.add_assoc])) (p_free rfl rfl rfl rfl (fun _ _ => v_move rfl) ?_)
   obtain ⟨t98, h95, hm⟩ := bindO hm
   refine p_free rfl rfl rfl rfl (fun _ _ => v_addc h95 rfl rfl) (p_free rfl rfl rfl rfl (fun _ _ => v_move rfl) (p_free rfl rfl rfl rfl (fun _ _ => v_nilCheck rfl) (p_free rfl rfl rfl rfl (fun w _ => v_fieldAddr 5 (Try.runUnderlying77 w) rfl (Try.sizeOf37 w) rfl) (p_free rfl rfl rfl rfl (fun w _ => v_fieldAddr 1 (Try.runUnderlying37 w) rfl (Try.sizeOf3 w) rfl) ?_))))
   obtain ⟨t103, h96, hm⟩ := bindO hm
   refine p_hoist rfl rfl rfl rfl (fun w hh => v_ldE RSt 6 h96 (Try.isAgg3 w) rfl (hh.vseg 4 rfl h93) rfl (by first | rfl | simp only [Nat.add_assoc])) (p_free rfl rfl rfl rfl (fun _ _ => v_move rfl) ?_)
   obtain ⟨t105, h97, hm⟩ := bindO hm
   refine p_free rfl rfl rfl rfl (fun _ _ => v_addc h97 rfl rfl) (p_free rfl rfl rfl rfl (fun _ _ => v_build (vs := [(0, _), (1, _)]) (cells := [_, _]) rfl rfl) (p_free rfl rfl rfl rfl (fun _ _ => v_nilCheck rfl) (p_free rfl rfl rfl rfl (fun w _ => v_fieldAddr 5 (Try.runUnderlying77 w) rfl (Try.sizeOf37 w) rfl) (p_last rfl ?_))))
   obtain ⟨x_1, h98, hm⟩ := bindO hm
   obtain ⟨left12_strips_1, hleft12_strips_1, hm⟩ := bindO hm
   refine g_vstP (us := #[_, _]) RSt 4 5 (⟨x_1.tenant, x_1.lay, x_1.seeded, (⟨t98, t105⟩ : Span)⟩ : Strip) (fun w => Try.sizeOf37 w) rfl rfl rfl h93 rfl rfl rfl rfl rfl rfl h98 rfl (Option.some.inj hleft12_strips_1) (fun h99 => ?_)
   refine g_se (S' := [_, _, _, _]) (vs' := [_, _, _, _, _, _]) [0, 1, 2, 3] [0, 1, 2, 3, 4, 5] 0 rfl rfl rfl rfl (p_nextL (p_done (g_n_then (g_seq (g_seq ?_)))))
   obtain ⟨o_1, h100, h101⟩ := bindO hm
   refine g_cut (ι := Unit) (fun l_11 => True) (fun l_11 => [(7, ptr b 0), (9, .int .i64 t43), (11, ptr l_2.1 0), (12, ptr l_2.2.1 0), (122, .bool o_1)]) (fun l_11 => [(b, .cells #[slv l_1.1.q l_1.1.n l_1.1.cap, slv l_1.2.1.q l_1.2.1.n l_1.2.1.cap] 28 (0, 0)), (l, .cells #[.slice qa0 na0 ca0, .int .i64 t35.b0_1, .int .u32 t35.b0_2] 105 (0, 0)), (l_2.1, .cells #[slv l_2.2.2.1.q l_2.2.2.1.n l_2.2.2.1.cap, slv l_2.2.2.2.1.q l_2.2.2.2.1.n l_2.2.2.2.1.cap] 28 (0, 0)), (l_2.2.1, .cells #[slv l_2.2.2.2.2.1.q l_2.2.2.2.2.1.n l_2.2.2.2.2.1.cap, slv l_2.2.2.2.2.2.q l_2.2.2.2.2.2.n l_2.2.2.2.2.2.cap] 28 (0, 0))]) (fun l_11 => [⟨77, RSt.enc t35.r0.strips, l_1.1.sp, l_1.1.q, []⟩, ⟨37, RSp.enc t35.r0.carried, l_1.2.1.sp, l_1.2.1.q, []⟩, ⟨77, RSt.enc seeded11_strips_1, l_2.2.2.1.sp, l_2.2.2.1.q, []⟩, ⟨37, RSp.enc o.seeded11.carried, l_2.2.2.2.1.sp, l_2.2.2.2.1.q, []⟩, ⟨77, RSt.enc left12_strips_1, l_2.2.2.2.2.1.sp, l_2.2.2.2.2.1.q, []⟩, ⟨37, RSp.enc o.left12.carried, l_2.2.2.2.2.2.sp, l_2.2.2.2.2.2.q, []⟩]) ?_ ?_
   ·replace hm := h100
    refine g_region (g_mv rfl rfl (g_val rfl rfl rfl (fun _ _ => v_nilCheck rfl) (g_fa 1 Try.runUnderlying77 rfl Try.sizeOf37 rfl rfl (g_fa 1 Try.runUnderlying37 rfl Try.sizeOf3 rfl rfl ?_))))
    obtain ⟨t113, h102, hm⟩ := bindO hm
    refine g_val rfl rfl rfl (fun w hh => v_ldE RSt 2 h102 (Try.isAgg3 w) rfl (hh.vseg 4 rfl h99) rfl (by first | rfl | simp only [Nat.add_assoc])) (g_val rfl rfl rfl (fun _ _ => v_gtr rfl rfl) (g_mv rfl rfl ?_))
    refine g_case 115 rfl (fun h103 => ?_) (fun h103 => ?_)
    ·replace hm := ifD h103 hm
     refine g_k rfl rfl rfl rfl (g_k rfl rfl rfl rfl (g_k rfl rfl rfl rfl (g_k rfl rfl rfl rfl (g_k rfl rfl rfl rfl (g_k rfl rfl rfl rfl (g_pt rfl rfl rfl (g_nil ?_)))))))
     obtain rfl := sj hm
     exact g_leaf () (trivial) (sE rfl) (fun w hh => hh)
    ·replace hm := ifE h103 hm
     refine v_unguard rfl rfl (g_mv rfl rfl (v_unguard rfl rfl (g_val rfl rfl rfl (fun _ _ => v_nilCheck rfl) (v_unguard rfl rfl (g_fa 5 Try.runUnderlying77 rfl Try.sizeOf37 rfl rfl (v_unguard rfl rfl (g_fa 1 Try.runUnderlying37 rfl Try.sizeOf3 rfl rfl ?_)))))))
     refine v_unguard rfl rfl ?_
     obtain ⟨t120, h104, hm⟩ := bindO hm
     refine g_val rfl rfl rfl (fun w hh => v_ldE RSt 6 h104 (Try.isAgg3 w) rfl (hh.vseg 4 rfl h99) rfl (by first | rfl | simp only [Nat.add_assoc])) (v_unguard rfl rfl (g_val rfl rfl rfl (fun _ _ => v_gtr rfl rfl) (g_pf rfl rfl rfl (g_nil ?_))))
     obtain rfl := sj hm
     exact g_leaf () (trivial) (sE rfl) (fun w hh => hh)
   ·intro l_11 hj
    replace hm := h101
    refine g_n_then ?_
    refine g_cond rfl (fun h105 => ?_) (fun h105 => ?_)
    ·replace hm := ifT (h105) hm
     refine g_sr ?_
     obtain ⟨t123, h106, hm⟩ := bindO hm
     refine g_callH [] [] rfl rfl rfl rfl rfl rfl rfl Try.call20 (fun w hh => c_laurellaw09_awake  w (HV.callee (S0 := []) (vs0 := []) hh roN)  h106) (fun l_12 h107 => ?_)
     refine g_as rfl rfl (g_nt (g_ret (g_r_then ?_)))
     obtain rfl := sj hm
     refine g_done rfl (fun w hh => (.tmp rfl .nil)) (fun w hh => ⟨(), rfl, trivial, hh.se [] [] 1 rfl rfl rfl rfl⟩)
    ·replace hm := ifN h105 hm
     refine g_skip (g_n_then (g_seq (g_sr (g_val rfl rfl rfl (fun w hh => v_loadAgg (vs := [_, _]) (Try.isAgg28 w) (Try.sizeOf28 w) rfl (hh.cells 2 rfl rfl)) (g_val rfl rfl rfl (fun w hh => v_loadAgg (vs := [_, _]) (Try.isAgg28 w) (Try.sizeOf28 w) rfl (hh.cells 3 rfl rfl)) ?_)))))
     refine g_litS (ps := [(0, _), (1, _)]) (cells := [_, _, _, _]) (fun w => Try.runUnderlying78 w) (fun w => Try.sizeOf28 w) (fun w => Try.zeroValue28 w) rfl rfl rfl rfl rfl (fun b_25 h109 => ?_)
     refine g_val rfl rfl rfl (fun w _ => v_lenS (Try.runUnderlying78 w) rfl) (g_mv rfl rfl (g_nt (g_block (g_unr 3 (g_unrS (g_sr (g_ls rfl rfl rfl ?_)))))))
     refine g_nt (g_seq (g_condT rfl rfl (g_skip (g_n_then (g_seq (g_block (g_sr ?_)))))))
     refine g_val rfl rfl rfl (fun w _ => v_ixS (o := 0) (Try.runUnderlying78 w) (Try.sizeOf28 w) rfl rfl 0 rfl rfl rfl) (g_val rfl rfl rfl (fun w hh => v_loadAgg (vs := [_, _]) (Try.isAgg28 w) (Try.sizeOf28 w) rfl (hh.cells 0 rfl rfl)) ?_)
     refine g_allocV (fun w => Try.zeroValue28 w) rfl (fun b_26 h110 => ?_)
     refine g_stSA (us := #[_, _]) (cs' := [_, _]) (S' := [_, _, _, _, _, _]) 0 (fun w => Try.sizeOf28 w) rfl rfl rfl rfl rfl rfl rfl (g_nx (g_val rfl rfl rfl (fun w hh => v_loadAgg (vs := [_, _]) (Try.isAgg28 w) (Try.sizeOf28 w) rfl (hh.cells 2 rfl rfl)) (g_mv rfl rfl ?_)))
     obtain ⟨t135, h111, hm⟩ := bindO hm
     refine g_callH [] [] rfl rfl rfl rfl rfl rfl rfl Try.call37 (fun w hh => c_strip_Gone t35.r0 t43 (qA l_1.1.q) l_1.1.n l_1.1.cap (qA l_1.2.1.q) l_1.2.1.n l_1.2.1.cap w (HV.callee (S0 := []) (vs0 := []) hh (roC (hh.vsepA 0 rfl h5) (roC (hh.vsepA 1 rfl h6) roN))) (vlen RSt h5 rfl) (AOK.q (vne h5)) (h5).hle (vlen RSp h6 rfl) (AOK.q (vne h6)) (h6).hle h111) (fun l_13 h112 => ?_)
     refine g_mv rfl rfl (g_xt rfl rfl rfl (g_xt rfl rfl rfl ?_))
     refine g_allocV (fun w => Try.zeroValue37 w) rfl (fun b_27 h113 => ?_)
     refine g_stSA (us := #[_, _]) (cs' := [_, _]) (S' := [_, _, _, _, _, _, _]) 0 (fun w => Try.sizeOf37 w) rfl rfl rfl rfl rfl rfl rfl (g_as rfl rfl (g_nx (g_val rfl rfl rfl (fun w hh => v_loadAgg (vs := [_, _]) (Try.isAgg28 w) (Try.sizeOf28 w) rfl (hh.cells 1 rfl rfl)) (g_mv rfl rfl ?_))))
     obtain ⟨t141, h114, hm⟩ := bindO hm
     refine g_callH [] [] rfl rfl rfl rfl rfl rfl rfl Try.call37 (fun w hh => c_strip_Gone (⟨seeded11_strips_1, o.seeded11.carried⟩ : Scalps) t43 (qA l_2.2.2.1.q) l_2.2.2.1.n l_2.2.2.1.cap (qA l_2.2.2.2.1.q) l_2.2.2.2.1.n l_2.2.2.2.1.cap w (HV.callee (S0 := []) (vs0 := []) hh (roC (hh.vsepA 2 rfl h89) (roC (hh.vsepA 3 rfl h15) roN))) (vlen RSt h89 rfl) (AOK.q (vne h89)) (h89).hle (vlen RSp h15 rfl) (AOK.q (vne h15)) (h15).hle h114) (fun l_14 h115 => ?_)
     refine g_mv rfl rfl (g_xt rfl rfl rfl (g_xt rfl rfl rfl ?_))
     refine g_allocV (fun w => Try.zeroValue37 w) rfl (fun b_28 h116 => ?_)
     refine g_stSA (us := #[_, _]) (cs' := [_, _]) (S' := [_, _, _, _, _, _, _, _]) 0 (fun w => Try.sizeOf37 w) rfl rfl rfl rfl rfl rfl rfl (g_as rfl rfl (g_nx (g_val rfl rfl rfl (fun w hh => v_loadAgg (vs := [_, _]) (Try.isAgg28 w) (Try.sizeOf28 w) rfl (hh.cells 4 rfl rfl)) ?_)))
     obtain ⟨t146, h117, hm⟩ := bindO hm
     refine g_callH [] [] rfl rfl rfl rfl rfl rfl rfl Try.call17 (fun w hh => c_strip_Least t35.r0 (qA l_1.1.q) l_1.1.n l_1.1.cap (qA l_1.2.1.q) l_1.2.1.n l_1.2.1.cap w (HV.callee (S0 := []) (vs0 := []) hh (roC (hh.vsepA 0 rfl h5) (roC (hh.vsepA 1 rfl h6) roN))) (vlen RSt h5 rfl) (AOK.q (vne h5)) (h5).hle (vlen RSp h6 rfl) (AOK.q (vne h6)) (h6).hle h117) (fun l_15 h118 => ?_)
     obtain ⟨h119, h120⟩ := h118
     refine g_se (S' := [_, _, _, _, _, _, _, _]) (vs' := [_, _, _, _, _, _, _]) [0, 1, 2, 3, 4, 5, 6, 7] [0, 1, 2, 3, 4, 5, 6] 0 rfl rfl rfl rfl (g_mv rfl rfl (g_xt rfl rfl rfl (g_xt rfl rfl rfl (g_xt rfl rfl rfl (g_as rfl rfl (g_as rfl rfl (g_as rfl rfl ?_)))))))
     refine g_nx (g_val rfl rfl rfl (fun w hh => v_loadAgg (vs := [_, _]) (Try.isAgg28 w) (Try.sizeOf28 w) rfl (hh.cells 2 rfl rfl)) ?_)
     obtain ⟨t152, h121, hm⟩ := bindO hm
     refine g_callH [] [] rfl rfl rfl rfl rfl rfl rfl Try.call17 (fun w hh => c_strip_Least (⟨seeded11_strips_1, o.seeded11.carried⟩ : Scalps) (qA l_2.2.2.1.q) l_2.2.2.1.n l_2.2.2.1.cap (qA l_2.2.2.2.1.q) l_2.2.2.2.1.n l_2.2.2.2.1.cap w (HV.callee (S0 := []) (vs0 := []) hh (roC (hh.vsepA 3 rfl h89) (roC (hh.vsepA 4 rfl h15) roN))) (vlen RSt h89 rfl) (AOK.q (vne h89)) (h89).hle (vlen RSp h15 rfl) (AOK.q (vne h15)) (h15).hle h121) (fun l_16 h122 => ?_)
     obtain ⟨h123, h124⟩ := h122
     refine g_se (S' := [_, _, _, _, _, _, _, _]) (vs' := [_, _, _, _, _, _, _, _]) [0, 1, 2, 3, 4, 5, 6, 7] [0, 1, 2, 3, 4, 5, 6, 7] 0 rfl rfl rfl rfl (g_mv rfl rfl (g_xt rfl rfl rfl (g_xt rfl rfl rfl (g_xt rfl rfl rfl (g_as rfl rfl (g_as rfl rfl (g_as rfl rfl ?_)))))))
     refine g_nt (g_seq (g_seq ?_))
     obtain ⟨o_2, h125, h126⟩ := bindO hm
     refine g_cut (ι := Unit) (fun l_17 => True) (fun l_17 => [(7, ptr b 0), (9, .int .i64 t43), (16, ptr b_26 0), (126, slv (some (b_25, 0)) 2 2), (127, .int .i64 2), (128, .int .i64 0), (179, .bool o_2)]) (fun l_17 => [(b_28, .cells #[.int .i64 t141.r0.lo, .int .i64 t141.r0.hi] 37 (0, 0)), (b_27, .cells #[.int .i64 t135.r0.lo, .int .i64 t135.r0.hi] 37 (0, 0)), (b_26, .cells #[slv l_2.2.2.1.q l_2.2.2.1.n l_2.2.2.1.cap, slv l_2.2.2.2.1.q l_2.2.2.2.1.n l_2.2.2.2.1.cap] 28 (0, 0)), (b_25, .cells #[slv l_2.2.2.1.q l_2.2.2.1.n l_2.2.2.1.cap, slv l_2.2.2.2.1.q l_2.2.2.2.1.n l_2.2.2.2.1.cap, slv l_2.2.2.2.2.1.q l_2.2.2.2.2.1.n l_2.2.2.2.2.1.cap, slv l_2.2.2.2.2.2.q l_2.2.2.2.2.2.n l_2.2.2.2.2.2.cap] 28 (0, 0)), (b, .cells #[slv l_1.1.q l_1.1.n l_1.1.cap, slv l_1.2.1.q l_1.2.1.n l_1.2.1.cap] 28 (0, 0)), (l, .cells #[.slice qa0 na0 ca0, .int .i64 t35.b0_1, .int .u32 t35.b0_2] 105 (0, 0)), (l_2.1, .cells #[slv l_2.2.2.1.q l_2.2.2.1.n l_2.2.2.1.cap, slv l_2.2.2.2.1.q l_2.2.2.2.1.n l_2.2.2.2.1.cap] 28 (0, 0)), (l_2.2.1, .cells #[slv l_2.2.2.2.2.1.q l_2.2.2.2.2.1.n l_2.2.2.2.2.1.cap, slv l_2.2.2.2.2.2.q l_2.2.2.2.2.2.n l_2.2.2.2.2.2.cap] 28 (0, 0))]) (fun l_17 => [⟨77, RSt.enc seeded11_strips_1, l_2.2.2.1.sp, l_2.2.2.1.q, []⟩, ⟨37, RSp.enc o.seeded11.carried, l_2.2.2.2.1.sp, l_2.2.2.2.1.q, []⟩, ⟨77, RSt.enc left12_strips_1, l_2.2.2.2.2.1.sp, l_2.2.2.2.2.1.q, []⟩, ⟨37, RSp.enc o.left12.carried, l_2.2.2.2.2.2.sp, l_2.2.2.2.2.2.q, []⟩, ⟨77, RSt.enc t35.r0.strips, l_1.1.sp, l_1.1.q, []⟩, ⟨37, RSp.enc t35.r0.carried, l_1.2.1.sp, l_1.2.1.q, []⟩]) ?_ ?_
     ·replace hm := h125
      refine g_region (g_mv rfl rfl (g_val rfl rfl rfl (fun _ _ => v_neq rfl rfl) (g_mv rfl rfl ?_)))
      refine g_case 158 rfl (fun h127 => ?_) (fun h127 => ?_)
      ·replace hm := ifF (of_ndec_true h127) hm
       refine g_k rfl rfl rfl rfl (g_k rfl rfl rfl rfl (g_pt rfl rfl rfl (g_mv rfl rfl (g_k rfl rfl rfl rfl (g_k rfl rfl rfl rfl (g_pt rfl rfl rfl (g_mv rfl rfl ?_)))))))
       refine g_k rfl rfl rfl rfl (g_k rfl rfl rfl rfl (g_pt rfl rfl rfl (g_mv rfl rfl (g_k rfl rfl rfl rfl (g_k rfl rfl rfl rfl (g_k rfl rfl rfl rfl (g_pt rfl rfl rfl ?_)))))))
       refine g_mv rfl rfl (g_k rfl rfl rfl rfl (g_k rfl rfl rfl rfl (g_k rfl rfl rfl rfl (g_pt rfl rfl rfl (g_nil ?_)))))
       obtain rfl := sj hm
       exact g_leaf () (trivial) (sE rfl) (fun w hh => hh.se [0, 1, 2, 3, 4, 5, 6, 7] [4, 5, 6, 7, 2, 3] 0 rfl rfl rfl rfl)
      ·replace hm := ifT (of_ndec_false h127) hm
       refine v_unguard rfl rfl (g_mv rfl rfl (v_unguard rfl rfl (g_val rfl rfl rfl (fun _ _ => v_neq rfl rfl) (g_pf rfl rfl rfl (g_mv rfl rfl ?_)))))
       refine g_case 162 rfl (fun h128 => ?_) (fun h128 => ?_)
       ·replace hm := ifF (of_ndec_true h128) hm
        refine g_k rfl rfl rfl rfl (g_k rfl rfl rfl rfl (g_pt rfl rfl rfl (g_mv rfl rfl (g_k rfl rfl rfl rfl (g_k rfl rfl rfl rfl (g_pt rfl rfl rfl (g_mv rfl rfl ?_)))))))
        refine g_k rfl rfl rfl rfl (g_k rfl rfl rfl rfl (g_k rfl rfl rfl rfl (g_pt rfl rfl rfl (g_mv rfl rfl (g_k rfl rfl rfl rfl (g_k rfl rfl rfl rfl (g_k rfl rfl rfl rfl ?_)))))))
        refine g_pt rfl rfl rfl (g_nil ?_)
        obtain rfl := sj hm
        exact g_leaf () (trivial) (sE rfl) (fun w hh => hh.se [0, 1, 2, 3, 4, 5, 6, 7] [4, 5, 6, 7, 2, 3] 0 rfl rfl rfl rfl)
       ·replace hm := ifT (of_ndec_false h128) hm
        refine v_unguard rfl rfl (g_mv rfl rfl (v_unguard rfl rfl (g_val rfl rfl rfl (fun _ _ => v_neq rfl rfl) (g_pf rfl rfl rfl (g_mv rfl rfl ?_)))))
        refine g_case 166 rfl (fun h129 => ?_) (fun h129 => ?_)
        ·replace hm := ifF (of_ndec_true h129) hm
         refine g_k rfl rfl rfl rfl (g_k rfl rfl rfl rfl (g_pt rfl rfl rfl (g_mv rfl rfl (g_k rfl rfl rfl rfl (g_k rfl rfl rfl rfl (g_k rfl rfl rfl rfl (g_pt rfl rfl rfl ?_)))))))
         refine g_mv rfl rfl (g_k rfl rfl rfl rfl (g_k rfl rfl rfl rfl (g_k rfl rfl rfl rfl (g_pt rfl rfl rfl (g_nil ?_)))))
         obtain rfl := sj hm
         exact g_leaf () (trivial) (sE rfl) (fun w hh => hh.se [0, 1, 2, 3, 4, 5, 6, 7] [4, 5, 6, 7, 2, 3] 0 rfl rfl rfl rfl)
        ·replace hm := ifT (of_ndec_false h129) hm
         refine v_unguard rfl rfl (g_mv rfl rfl (v_unguard rfl rfl (g_val rfl rfl rfl (fun _ _ => v_neq rfl rfl) (g_pf rfl rfl rfl (g_mv rfl rfl ?_)))))
         refine g_case 170 rfl (fun h130 => ?_) (fun h130 => ?_)
         ·replace hm := ifF (of_ndec_true h130) hm
          refine g_k rfl rfl rfl rfl (g_k rfl rfl rfl rfl (g_k rfl rfl rfl rfl (g_pt rfl rfl rfl (g_mv rfl rfl (g_k rfl rfl rfl rfl (g_k rfl rfl rfl rfl (g_k rfl rfl rfl rfl ?_)))))))
          refine g_pt rfl rfl rfl (g_nil ?_)
          obtain rfl := sj hm
          exact g_leaf () (trivial) (sE rfl) (fun w hh => hh.se [0, 1, 2, 3, 4, 5, 6, 7] [4, 5, 6, 7, 2, 3] 0 rfl rfl rfl rfl)
         ·replace hm := ifT (of_ndec_false h130) hm
          refine v_unguard rfl rfl (g_val rfl rfl rfl (fun w hh => v_loadAgg (vs := [_, _]) (Try.isAgg37 w) (Try.sizeOf37 w) rfl (hh.cells 1 rfl rfl)) (v_unguard rfl rfl (g_val rfl rfl rfl (fun w hh => v_loadAgg (vs := [_, _]) (Try.isAgg37 w) (Try.sizeOf37 w) rfl (hh.cells 0 rfl rfl)) (v_unguard rfl rfl (g_val rfl rfl rfl (fun w _ => v_neqAgg (gxeq37 t135.r0 t141.r0 w) gxeqg37 rfl rfl) (g_pf rfl rfl rfl (g_mv rfl rfl ?_)))))))
          refine g_case 175 rfl (fun h131 => ?_) (fun h131 => ?_)
          ·replace hm := ifF (of_ndec_true h131) hm
           refine g_k rfl rfl rfl rfl (g_k rfl rfl rfl rfl (g_k rfl rfl rfl rfl (g_pt rfl rfl rfl (g_nil ?_))))
           obtain rfl := sj hm
           exact g_leaf () (trivial) (sE rfl) (fun w hh => hh.se [0, 1, 2, 3, 4, 5, 6, 7] [4, 5, 6, 7, 2, 3] 0 rfl rfl rfl rfl)
          ·replace hm := ifT (of_ndec_false h131) hm
           refine v_unguard rfl rfl (g_mv rfl rfl (v_unguard rfl rfl (g_mv rfl rfl (v_unguard rfl rfl (g_val rfl rfl rfl (fun _ _ => v_neq rfl rfl) (g_pf rfl rfl rfl (g_nil ?_)))))))
           obtain rfl := sj hm
           exact g_leaf () (trivial) (sE rfl) (fun w hh => hh.se [0, 1, 2, 3, 4, 5, 6, 7] [4, 5, 6, 7, 2, 3] 0 rfl rfl rfl rfl)
     ·intro l_17 hj
      replace hm := h126
      refine g_n_then ?_
      refine g_cond rfl (fun h132 => ?_) (fun h132 => ?_)
      ·replace hm := ifT (h132) hm
       refine g_sr (g_as rfl rfl (g_nt (g_ret (g_r_then (g_r_blk (g_r_then (g_r_then ?_)))))))
       refine g_r_blk (g_r_then ?_)
       obtain rfl := sj hm
       refine g_done rfl (fun w hh => (.tmp rfl .nil)) (fun w hh => ⟨(), rfl, trivial, hh.se [] [] 1 rfl rfl rfl rfl⟩)
      ·replace hm := ifN h132 hm
       refine g_skip (g_n_then (g_sr (g_fa 1 Try.runUnderlying28 rfl Try.sizeOf26 rfl rfl (g_lc 4 Try.isAgg26 rfl rfl rfl rfl (g_val rfl rfl rfl (fun w _ => v_lenN (vlen RSp h6 rfl) (Try.runUnderlying26 w) rfl) (g_mv rfl rfl (g_nt ?_)))))))
       obtain ⟨o_3, h133, h134⟩ := bindO hm
       refine g_cut (ι := Unit) (fun j => o_3 = .inl j) (fun j => [(7, ptr b 0), (9, .int .i64 t43), (126, slv (some (b_25, 0)) 2 2), (127, .int .i64 2), (128, .int .i64 0)]) (fun j => [(b_28, .cells #[.int .i64 t141.r0.lo, .int .i64 t141.r0.hi] 37 (0, 0)), (b_27, .cells #[.int .i64 t135.r0.lo, .int .i64 t135.r0.hi] 37 (0, 0)), (b_26, .cells #[slv l_2.2.2.1.q l_2.2.2.1.n l_2.2.2.1.cap, slv l_2.2.2.2.1.q l_2.2.2.2.1.n l_2.2.2.2.1.cap] 28 (0, 0)), (b_25, .cells #[slv l_2.2.2.1.q l_2.2.2.1.n l_2.2.2.1.cap, slv l_2.2.2.2.1.q l_2.2.2.2.1.n l_2.2.2.2.1.cap, slv l_2.2.2.2.2.1.q l_2.2.2.2.2.1.n l_2.2.2.2.2.1.cap, slv l_2.2.2.2.2.2.q l_2.2.2.2.2.2.n l_2.2.2.2.2.2.cap] 28 (0, 0)), (b, .cells #[slv l_1.1.q l_1.1.n l_1.1.cap, slv l_1.2.1.q l_1.2.1.n l_1.2.1.cap] 28 (0, 0)), (l, .cells #[.slice qa0 na0 ca0, .int .i64 t35.b0_1, .int .u32 t35.b0_2] 105 (0, 0)), (l_2.1, .cells #[slv l_2.2.2.1.q l_2.2.2.1.n l_2.2.2.1.cap, slv l_2.2.2.2.1.q l_2.2.2.2.1.n l_2.2.2.2.1.cap] 28 (0, 0)), (l_2.2.1, .cells #[slv l_2.2.2.2.2.1.q l_2.2.2.2.2.1.n l_2.2.2.2.2.1.cap, slv l_2.2.2.2.2.2.q l_2.2.2.2.2.2.n l_2.2.2.2.2.2.cap] 28 (0, 0))]) (fun j => [⟨77, RSt.enc seeded11_strips_1, l_2.2.2.1.sp, l_2.2.2.1.q, []⟩, ⟨37, RSp.enc o.seeded11.carried, l_2.2.2.2.1.sp, l_2.2.2.2.1.q, []⟩, ⟨77, RSt.enc left12_strips_1, l_2.2.2.2.2.1.sp, l_2.2.2.2.2.1.q, []⟩, ⟨37, RSp.enc o.left12.carried, l_2.2.2.2.2.2.sp, l_2.2.2.2.2.2.q, []⟩, ⟨77, RSt.enc t35.r0.strips, l_1.1.sp, l_1.1.q, []⟩, ⟨37, RSp.enc t35.r0.carried, l_1.2.1.sp, l_1.2.1.q, []⟩]) ?_ ?_
       ·replace hm := h133
        refine g_block ?_
        refine g_loopF (ι := Unit) hm (fun s l_18 => True) (fun s l_18 => [(7, ptr b 0), (9, .int .i64 t43), (16, ptr b_26 0), (126, slv (some (b_25, 0)) 2 2), (127, .int .i64 2), (128, .int .i64 0), (182, .int .i64 (t35.r0.carried.length : Int)), (183, .int .i64 s)]) (fun s l_18 => [(b_28, .cells #[.int .i64 t141.r0.lo, .int .i64 t141.r0.hi] 37 (0, 0)), (b_27, .cells #[.int .i64 t135.r0.lo, .int .i64 t135.r0.hi] 37 (0, 0)), (b_26, .cells #[slv l_2.2.2.1.q l_2.2.2.1.n l_2.2.2.1.cap, slv l_2.2.2.2.1.q l_2.2.2.2.1.n l_2.2.2.2.1.cap] 28 (0, 0)), (b_25, .cells #[slv l_2.2.2.1.q l_2.2.2.1.n l_2.2.2.1.cap, slv l_2.2.2.2.1.q l_2.2.2.2.1.n l_2.2.2.2.1.cap, slv l_2.2.2.2.2.1.q l_2.2.2.2.2.1.n l_2.2.2.2.2.1.cap, slv l_2.2.2.2.2.2.q l_2.2.2.2.2.2.n l_2.2.2.2.2.2.cap] 28 (0, 0)), (b, .cells #[slv l_1.1.q l_1.1.n l_1.1.cap, slv l_1.2.1.q l_1.2.1.n l_1.2.1.cap] 28 (0, 0)), (l, .cells #[.slice qa0 na0 ca0, .int .i64 t35.b0_1, .int .u32 t35.b0_2] 105 (0, 0)), (l_2.1, .cells #[slv l_2.2.2.1.q l_2.2.2.1.n l_2.2.2.1.cap, slv l_2.2.2.2.1.q l_2.2.2.2.1.n l_2.2.2.2.1.cap] 28 (0, 0)), (l_2.2.1, .cells #[slv l_2.2.2.2.2.1.q l_2.2.2.2.2.1.n l_2.2.2.2.2.1.cap, slv l_2.2.2.2.2.2.q l_2.2.2.2.2.2.n l_2.2.2.2.2.2.cap] 28 (0, 0))]) (fun s l_18 => [⟨77, RSt.enc seeded11_strips_1, l_2.2.2.1.sp, l_2.2.2.1.q, []⟩, ⟨37, RSp.enc o.seeded11.carried, l_2.2.2.2.1.sp, l_2.2.2.2.1.q, []⟩, ⟨77, RSt.enc left12_strips_1, l_2.2.2.2.2.1.sp, l_2.2.2.2.2.1.q, []⟩, ⟨37, RSp.enc o.left12.carried, l_2.2.2.2.2.2.sp, l_2.2.2.2.2.2.q, []⟩, ⟨77, RSt.enc t35.r0.strips, l_1.1.sp, l_1.1.q, []⟩, ⟨37, RSp.enc t35.r0.carried, l_1.2.1.sp, l_1.2.1.q, []⟩]) () (trivial) (sE rfl) (fun w hh => hh) (fun s l_18 r hpl hm h135 => ?_)
        unfold m_laurellaw09_StripSeeded_L0 at hm
        refine g_sr (g_ls rfl rfl rfl (g_nt (g_seq ?_)))
        refine g_cond rfl (fun h136 => ?_) (fun h136 => ?_)
        ·replace hm := ifD h136 hm
         refine g_skip (g_n_then (g_seq (g_block (g_sr (g_mv rfl rfl (g_as rfl rfl (g_nx ?_)))))))
         refine g_val rfl rfl rfl (fun w hh => v_loadAgg (vs := [_, _]) (Try.isAgg28 w) (Try.sizeOf28 w) rfl (hh.cells 4 rfl rfl)) (g_mv rfl rfl ?_)
         obtain ⟨t189, h137, hm⟩ := bindO hm
         refine g_callH [] [] rfl rfl rfl rfl rfl rfl rfl Try.call38 (fun w hh => c_strip_Stolen t35.r0 s (qA l_1.1.q) l_1.1.n l_1.1.cap (qA l_1.2.1.q) l_1.2.1.n l_1.2.1.cap w (HV.callee (S0 := []) (vs0 := []) hh (roC (hh.vsepA 4 rfl h5) (roC (hh.vsepA 5 rfl h6) roN))) (vlen RSt h5 rfl) (AOK.q (vne h5)) (h5).hle (vlen RSp h6 rfl) (AOK.q (vne h6)) (h6).hle h137) (fun l_19 h138 => ?_)
         refine g_mv rfl rfl (g_xt rfl rfl rfl (g_xt rfl rfl rfl ?_))
         refine g_allocV (fun w => Try.zeroValue37 w) rfl (fun b_29 h139 => ?_)
         refine g_stSA (us := #[_, _]) (cs' := [_, _]) (S' := [_, _, _, _, _, _, _, _, _]) 0 (fun w => Try.sizeOf37 w) rfl rfl rfl rfl rfl rfl rfl (g_as rfl rfl (g_nx (g_val rfl rfl rfl (fun w hh => v_loadAgg (vs := [_, _]) (Try.isAgg28 w) (Try.sizeOf28 w) rfl (hh.cells 3 rfl rfl)) (g_mv rfl rfl ?_))))
         obtain ⟨t195, h140, hm⟩ := bindO hm
         refine g_callH [] [] rfl rfl rfl rfl rfl rfl rfl Try.call38 (fun w hh => c_strip_Stolen (⟨seeded11_strips_1, o.seeded11.carried⟩ : Scalps) s (qA l_2.2.2.1.q) l_2.2.2.1.n l_2.2.2.1.cap (qA l_2.2.2.2.1.q) l_2.2.2.2.1.n l_2.2.2.2.1.cap w (HV.callee (S0 := []) (vs0 := []) hh (roC (hh.vsepA 0 rfl h89) (roC (hh.vsepA 1 rfl h15) roN))) (vlen RSt h89 rfl) (AOK.q (vne h89)) (h89).hle (vlen RSp h15 rfl) (AOK.q (vne h15)) (h15).hle h140) (fun l_20 h141 => ?_)
         refine g_mv rfl rfl (g_xt rfl rfl rfl (g_xt rfl rfl rfl ?_))
         refine g_allocV (fun w => Try.zeroValue37 w) rfl (fun b_30 h142 => ?_)
         refine g_stSA (us := #[_, _]) (cs' := [_, _]) (S' := [_, _, _, _, _, _, _, _, _, _]) 0 (fun w => Try.sizeOf37 w) rfl rfl rfl rfl rfl rfl rfl (g_as rfl rfl (g_nt (g_seq ?_)))
         obtain ⟨o_4, h143, h144⟩ := bindO hm
         refine g_cut (ι := Unit) (fun l_21 => True) (fun l_21 => [(7, ptr b 0), (9, .int .i64 t43), (16, ptr b_26 0), (126, slv (some (b_25, 0)) 2 2), (127, .int .i64 2), (128, .int .i64 0), (182, .int .i64 (t35.r0.carried.length : Int)), (183, .int .i64 s), (208, .bool o_4)]) (fun l_21 => [(b_30, .cells #[.int .i64 t195.r0.lo, .int .i64 t195.r0.hi] 37 (0, 0)), (b_29, .cells #[.int .i64 t189.r0.lo, .int .i64 t189.r0.hi] 37 (0, 0)), (b_28, .cells #[.int .i64 t141.r0.lo, .int .i64 t141.r0.hi] 37 (0, 0)), (b_27, .cells #[.int .i64 t135.r0.lo, .int .i64 t135.r0.hi] 37 (0, 0)), (b_26, .cells #[slv l_2.2.2.1.q l_2.2.2.1.n l_2.2.2.1.cap, slv l_2.2.2.2.1.q l_2.2.2.2.1.n l_2.2.2.2.1.cap] 28 (0, 0)), (b_25, .cells #[slv l_2.2.2.1.q l_2.2.2.1.n l_2.2.2.1.cap, slv l_2.2.2.2.1.q l_2.2.2.2.1.n l_2.2.2.2.1.cap, slv l_2.2.2.2.2.1.q l_2.2.2.2.2.1.n l_2.2.2.2.2.1.cap, slv l_2.2.2.2.2.2.q l_2.2.2.2.2.2.n l_2.2.2.2.2.2.cap] 28 (0, 0)), (b, .cells #[slv l_1.1.q l_1.1.n l_1.1.cap, slv l_1.2.1.q l_1.2.1.n l_1.2.1.cap] 28 (0, 0)), (l, .cells #[.slice qa0 na0 ca0, .int .i64 t35.b0_1, .int .u32 t35.b0_2] 105 (0, 0)), (l_2.1, .cells #[slv l_2.2.2.1.q l_2.2.2.1.n l_2.2.2.1.cap, slv l_2.2.2.2.1.q l_2.2.2.2.1.n l_2.2.2.2.1.cap] 28 (0, 0)), (l_2.2.1, .cells #[slv l_2.2.2.2.2.1.q l_2.2.2.2.2.1.n l_2.2.2.2.2.1.cap, slv l_2.2.2.2.2.2.q l_2.2.2.2.2.2.n l_2.2.2.2.2.2.cap] 28 (0, 0))]) (fun l_21 => [⟨77, RSt.enc seeded11_strips_1, l_2.2.2.1.sp, l_2.2.2.1.q, []⟩, ⟨37, RSp.enc o.seeded11.carried, l_2.2.2.2.1.sp, l_2.2.2.2.1.q, []⟩, ⟨77, RSt.enc left12_strips_1, l_2.2.2.2.2.1.sp, l_2.2.2.2.2.1.q, []⟩, ⟨37, RSp.enc o.left12.carried, l_2.2.2.2.2.2.sp, l_2.2.2.2.2.2.q, []⟩, ⟨77, RSt.enc t35.r0.strips, l_1.1.sp, l_1.1.q, []⟩, ⟨37, RSp.enc t35.r0.carried, l_1.2.1.sp, l_1.2.1.q, []⟩]) ?_ ?_
         ·replace hm := h143
          refine g_region (g_mv rfl rfl (g_val rfl rfl rfl (fun _ _ => v_neq rfl rfl) (g_mv rfl rfl ?_)))
          refine g_case 200 rfl (fun h145 => ?_) (fun h145 => ?_)
          ·replace hm := ifF (of_ndec_true h145) hm
           refine g_k rfl rfl rfl rfl (g_k rfl rfl rfl rfl (g_pt rfl rfl rfl (g_mv rfl rfl (g_k rfl rfl rfl rfl (g_k rfl rfl rfl rfl (g_k rfl rfl rfl rfl (g_pt rfl rfl rfl ?_)))))))
           refine g_nil ?_
           obtain rfl := sj hm
           exact g_leaf () (trivial) (sE rfl) (fun w hh => hh)
          ·replace hm := ifT (of_ndec_false h145) hm
           refine v_unguard rfl rfl (g_mv rfl rfl (v_unguard rfl rfl (g_val rfl rfl rfl (fun _ _ => v_neq rfl rfl) (g_pf rfl rfl rfl (g_mv rfl rfl ?_)))))
           refine g_case 204 rfl (fun h146 => ?_) (fun h146 => ?_)
           ·replace hm := ifF (of_ndec_true h146) hm
            refine g_k rfl rfl rfl rfl (g_k rfl rfl rfl rfl (g_k rfl rfl rfl rfl (g_pt rfl rfl rfl (g_nil ?_))))
            obtain rfl := sj hm
            exact g_leaf () (trivial) (sE rfl) (fun w hh => hh)
           ·replace hm := ifT (of_ndec_false h146) hm
            refine v_unguard rfl rfl (g_val rfl rfl rfl (fun w hh => v_loadAgg (vs := [_, _]) (Try.isAgg37 w) (Try.sizeOf37 w) rfl (hh.cells 1 rfl rfl)) (v_unguard rfl rfl (g_val rfl rfl rfl (fun w hh => v_loadAgg (vs := [_, _]) (Try.isAgg37 w) (Try.sizeOf37 w) rfl (hh.cells 0 rfl rfl)) (v_unguard rfl rfl (g_val rfl rfl rfl (fun w _ => v_neqAgg (gxeq37 t189.r0 t195.r0 w) gxeqg37 rfl rfl) (g_pf rfl rfl rfl (g_nil ?_)))))))
            obtain rfl := sj hm
            exact g_leaf () (trivial) (sE rfl) (fun w hh => hh)
         ·intro l_21 hj
          replace hm := h144
          refine g_n_then ?_
          refine g_cond rfl (fun h147 => ?_) (fun h147 => ?_)
          ·replace hm := ifT (h147) hm
           refine g_sr (g_as rfl rfl (g_nt (g_ret (g_r_blk (g_r_then (g_r_then (g_r_blk ?_)))))))
           obtain rfl := sj hm
           have hbo := h135 _ rfl
           subst hbo
           refine g_r_then ?_
           replace hm := ocR h134
           refine g_r_blk (g_r_then (g_r_then (g_r_blk (g_r_then ?_))))
           obtain rfl := sj hm
           refine g_done rfl (fun w hh => (.tmp rfl .nil)) (fun w hh => ⟨(), rfl, trivial, hh.se [] [] 1 rfl rfl rfl rfl⟩)
          ·replace hm := ifN h147 hm
           refine g_skip (g_n_blk (g_n_then (g_region ?_)))
           obtain ⟨t209, h148, hm⟩ := bindO hm
           refine g_ac h148 rfl rfl rfl (g_mv rfl rfl (g_nil ?_))
           obtain rfl := sj hm
           refine g_n_then ?_
           exact g_again' _ () rfl (trivial) (sE rfl) (fun w hh => hh.se [2, 3, 4, 5, 6, 7, 8, 9] [0, 1, 2, 3, 4, 5] 0 rfl rfl rfl rfl)
        ·replace hm := ifE h136 hm
         refine g_exit (g_x_then (g_x_then (g_x_blk ?_)))
         obtain rfl := sj hm
         have hbo := h135 _ rfl
         subst hbo
         exact g_leaf () (rfl) (sE rfl) (fun w hh => hh)
       ·intro j hj
        have h149 := hj
        subst h149
        replace hm := ocL h134
        refine g_n_blk (g_n_then (g_region (g_val rfl rfl rfl (fun _ _ => v_addc (show addc 0 1 = some 1 from rfl) rfl rfl) (g_mv rfl rfl (g_nt (g_unrS (g_sr ?_)))))))
        refine g_ls rfl rfl rfl (g_nt (g_seq (g_condT rfl rfl (g_skip (g_n_then (g_seq (g_block ?_)))))))
        refine g_sr (g_val rfl rfl rfl (fun w _ => v_ixS (o := 2) (Try.runUnderlying78 w) (Try.sizeOf28 w) rfl rfl 1 rfl rfl rfl) (g_val rfl rfl rfl (fun w hh => v_loadAgg (vs := [_, _]) (Try.isAgg28 w) (Try.sizeOf28 w) rfl (hh.cells 3 rfl rfl)) ?_))
        refine g_allocV (fun w => Try.zeroValue28 w) rfl (fun b_31 h150 => ?_)
        refine g_stSA (us := #[_, _]) (cs' := [_, _]) (S' := [_, _, _, _, _, _, _, _, _]) 0 (fun w => Try.sizeOf28 w) rfl rfl rfl rfl rfl rfl rfl (g_nx (g_val rfl rfl rfl (fun w hh => v_loadAgg (vs := [_, _]) (Try.isAgg28 w) (Try.sizeOf28 w) rfl (hh.cells 5 rfl rfl)) (g_mv rfl rfl ?_)))
        obtain ⟨t135_1, h151, hm⟩ := bindO hm
        refine g_callH [] [] rfl rfl rfl rfl rfl rfl rfl Try.call37 (fun w hh => c_strip_Gone t35.r0 t43 (qA l_1.1.q) l_1.1.n l_1.1.cap (qA l_1.2.1.q) l_1.2.1.n l_1.2.1.cap w (HV.callee (S0 := []) (vs0 := []) hh (roC (hh.vsepA 4 rfl h5) (roC (hh.vsepA 5 rfl h6) roN))) (vlen RSt h5 rfl) (AOK.q (vne h5)) (h5).hle (vlen RSp h6 rfl) (AOK.q (vne h6)) (h6).hle h151) (fun l_22 h152 => ?_)
        refine g_mv rfl rfl (g_xt rfl rfl rfl (g_xt rfl rfl rfl ?_))
        refine g_allocV (fun w => Try.zeroValue37 w) rfl (fun b_32 h153 => ?_)
        refine g_stSA (us := #[_, _]) (cs' := [_, _]) (S' := [_, _, _, _, _, _, _, _, _, _]) 0 (fun w => Try.sizeOf37 w) rfl rfl rfl rfl rfl rfl rfl (g_as rfl rfl (g_nx (g_val rfl rfl rfl (fun w hh => v_loadAgg (vs := [_, _]) (Try.isAgg28 w) (Try.sizeOf28 w) rfl (hh.cells 1 rfl rfl)) (g_mv rfl rfl ?_))))
        obtain ⟨t141_1, h154, hm⟩ := bindO hm
        refine g_callH [] [] rfl rfl rfl rfl rfl rfl rfl Try.call37 (fun w hh => c_strip_Gone (⟨left12_strips_1, o.left12.carried⟩ : Scalps) t43 (qA l_2.2.2.2.2.1.q) l_2.2.2.2.2.1.n l_2.2.2.2.2.1.cap (qA l_2.2.2.2.2.2.q) l_2.2.2.2.2.2.n l_2.2.2.2.2.2.cap w (HV.callee (S0 := []) (vs0 := []) hh (roC (hh.vsepA 2 rfl h99) (roC (hh.vsepA 3 rfl h17) roN))) (vlen RSt h99 rfl) (AOK.q (vne h99)) (h99).hle (vlen RSp h17 rfl) (AOK.q (vne h17)) (h17).hle h154) (fun l_23 h155 => ?_)
        refine g_mv rfl rfl (g_xt rfl rfl rfl (g_xt rfl rfl rfl ?_))
        refine g_allocV (fun w => Try.zeroValue37 w) rfl (fun b_33 h156 => ?_)
        refine g_stSA (us := #[_, _]) (cs' := [_, _]) (S' := [_, _, _, _, _, _, _, _, _, _, _]) 0 (fun w => Try.sizeOf37 w) rfl rfl rfl rfl rfl rfl rfl (g_as rfl rfl (g_nx (g_val rfl rfl rfl (fun w hh => v_loadAgg (vs := [_, _]) (Try.isAgg28 w) (Try.sizeOf28 w) rfl (hh.cells 7 rfl rfl)) ?_)))
        obtain ⟨t146_1, h157, hm⟩ := bindO hm
        refine g_callH [] [] rfl rfl rfl rfl rfl rfl rfl Try.call17 (fun w hh => c_strip_Least t35.r0 (qA l_1.1.q) l_1.1.n l_1.1.cap (qA l_1.2.1.q) l_1.2.1.n l_1.2.1.cap w (HV.callee (S0 := []) (vs0 := []) hh (roC (hh.vsepA 4 rfl h5) (roC (hh.vsepA 5 rfl h6) roN))) (vlen RSt h5 rfl) (AOK.q (vne h5)) (h5).hle (vlen RSp h6 rfl) (AOK.q (vne h6)) (h6).hle h157) (fun l_24 h158 => ?_)
        obtain ⟨h159, h160⟩ := h158
        refine g_se (S' := [_, _, _, _, _, _, _, _, _, _, _]) (vs' := [_, _, _, _, _, _, _]) [0, 1, 2, 3, 4, 5, 6, 7, 8, 9, 10] [0, 1, 2, 3, 4, 5, 6] 0 rfl rfl rfl rfl (g_mv rfl rfl (g_xt rfl rfl rfl (g_xt rfl rfl rfl (g_xt rfl rfl rfl (g_as rfl rfl (g_as rfl rfl (g_as rfl rfl ?_)))))))
        refine g_nx (g_val rfl rfl rfl (fun w hh => v_loadAgg (vs := [_, _]) (Try.isAgg28 w) (Try.sizeOf28 w) rfl (hh.cells 2 rfl rfl)) ?_)
        obtain ⟨t152_1, h161, hm⟩ := bindO hm
        refine g_callH [] [] rfl rfl rfl rfl rfl rfl rfl Try.call17 (fun w hh => c_strip_Least (⟨left12_strips_1, o.left12.carried⟩ : Scalps) (qA l_2.2.2.2.2.1.q) l_2.2.2.2.2.1.n l_2.2.2.2.2.1.cap (qA l_2.2.2.2.2.2.q) l_2.2.2.2.2.2.n l_2.2.2.2.2.2.cap w (HV.callee (S0 := []) (vs0 := []) hh (roC (hh.vsepA 3 rfl h99) (roC (hh.vsepA 4 rfl h17) roN))) (vlen RSt h99 rfl) (AOK.q (vne h99)) (h99).hle (vlen RSp h17 rfl) (AOK.q (vne h17)) (h17).hle h161) (fun l_25 h162 => ?_)
        obtain ⟨h163, h164⟩ := h162
        refine g_se (S' := [_, _, _, _, _, _, _, _, _, _, _]) (vs' := [_, _, _, _, _, _, _, _]) [0, 1, 2, 3, 4, 5, 6, 7, 8, 9, 10] [0, 1, 2, 3, 4, 5, 6, 7] 0 rfl rfl rfl rfl (g_mv rfl rfl (g_xt rfl rfl rfl (g_xt rfl rfl rfl (g_xt rfl rfl rfl (g_as rfl rfl (g_as rfl rfl (g_as rfl rfl ?_)))))))
        refine g_nt (g_seq (g_seq ?_))
        obtain ⟨o_5, h165, h166⟩ := bindO hm
        refine g_cut (ι := Unit) (fun l_26 => True) (fun l_26 => [(7, ptr b 0), (9, .int .i64 t43), (16, ptr b_31 0), (126, slv (some (b_25, 0)) 2 2), (127, .int .i64 2), (128, .int .i64 1), (179, .bool o_5)]) (fun l_26 => [(b_33, .cells #[.int .i64 t141_1.r0.lo, .int .i64 t141_1.r0.hi] 37 (0, 0)), (b_32, .cells #[.int .i64 t135_1.r0.lo, .int .i64 t135_1.r0.hi] 37 (0, 0)), (b_31, .cells #[slv l_2.2.2.2.2.1.q l_2.2.2.2.2.1.n l_2.2.2.2.2.1.cap, slv l_2.2.2.2.2.2.q l_2.2.2.2.2.2.n l_2.2.2.2.2.2.cap] 28 (0, 0)), (b_28, .cells #[.int .i64 t141.r0.lo, .int .i64 t141.r0.hi] 37 (0, 0)), (b_27, .cells #[.int .i64 t135.r0.lo, .int .i64 t135.r0.hi] 37 (0, 0)), (b_26, .cells #[slv l_2.2.2.1.q l_2.2.2.1.n l_2.2.2.1.cap, slv l_2.2.2.2.1.q l_2.2.2.2.1.n l_2.2.2.2.1.cap] 28 (0, 0)), (b_25, .cells #[slv l_2.2.2.1.q l_2.2.2.1.n l_2.2.2.1.cap, slv l_2.2.2.2.1.q l_2.2.2.2.1.n l_2.2.2.2.1.cap, slv l_2.2.2.2.2.1.q l_2.2.2.2.2.1.n l_2.2.2.2.2.1.cap, slv l_2.2.2.2.2.2.q l_2.2.2.2.2.2.n l_2.2.2.2.2.2.cap] 28 (0, 0)), (b, .cells #[slv l_1.1.q l_1.1.n l_1.1.cap, slv l_1.2.1.q l_1.2.1.n l_1.2.1.cap] 28 (0, 0)), (l, .cells #[.slice qa0 na0 ca0, .int .i64 t35.b0_1, .int .u32 t35.b0_2] 105 (0, 0)), (l_2.1, .cells #[slv l_2.2.2.1.q l_2.2.2.1.n l_2.2.2.1.cap, slv l_2.2.2.2.1.q l_2.2.2.2.1.n l_2.2.2.2.1.cap] 28 (0, 0)), (l_2.2.1, .cells #[slv l_2.2.2.2.2.1.q l_2.2.2.2.2.1.n l_2.2.2.2.2.1.cap, slv l_2.2.2.2.2.2.q l_2.2.2.2.2.2.n l_2.2.2.2.2.2.cap] 28 (0, 0))]) (fun l_26 => [⟨77, RSt.enc left12_strips_1, l_2.2.2.2.2.1.sp, l_2.2.2.2.2.1.q, []⟩, ⟨37, RSp.enc o.left12.carried, l_2.2.2.2.2.2.sp, l_2.2.2.2.2.2.q, []⟩, ⟨77, RSt.enc seeded11_strips_1, l_2.2.2.1.sp, l_2.2.2.1.q, []⟩, ⟨37, RSp.enc o.seeded11.carried, l_2.2.2.2.1.sp, l_2.2.2.2.1.q, []⟩, ⟨77, RSt.enc t35.r0.strips, l_1.1.sp, l_1.1.q, []⟩, ⟨37, RSp.enc t35.r0.carried, l_1.2.1.sp, l_1.2.1.q, []⟩]) ?_ ?_
        ·replace hm := h165
         refine g_region (g_mv rfl rfl (g_val rfl rfl rfl (fun _ _ => v_neq rfl rfl) (g_mv rfl rfl ?_)))
         refine g_case 158 rfl (fun h167 => ?_) (fun h167 => ?_)
         ·replace hm := ifF (of_ndec_true h167) hm
          refine g_k rfl rfl rfl rfl (g_k rfl rfl rfl rfl (g_pt rfl rfl rfl (g_mv rfl rfl (g_k rfl rfl rfl rfl (g_k rfl rfl rfl rfl (g_pt rfl rfl rfl (g_mv rfl rfl ?_)))))))
          refine g_k rfl rfl rfl rfl (g_k rfl rfl rfl rfl (g_pt rfl rfl rfl (g_mv rfl rfl (g_k rfl rfl rfl rfl (g_k rfl rfl rfl rfl (g_k rfl rfl rfl rfl (g_pt rfl rfl rfl ?_)))))))
          refine g_mv rfl rfl (g_k rfl rfl rfl rfl (g_k rfl rfl rfl rfl (g_k rfl rfl rfl rfl (g_pt rfl rfl rfl (g_nil ?_)))))
          obtain rfl := sj hm
          exact g_leaf () (trivial) (sE rfl) (fun w hh => hh.se [0, 1, 2, 3, 4, 5, 6, 7, 8, 9, 10] [4, 5, 2, 3, 6, 7] 0 rfl rfl rfl rfl)
         ·replace hm := ifT (of_ndec_false h167) hm
          refine v_unguard rfl rfl (g_mv rfl rfl (v_unguard rfl rfl (g_val rfl rfl rfl (fun _ _ => v_neq rfl rfl) (g_pf rfl rfl rfl (g_mv rfl rfl ?_)))))
          refine g_case 162 rfl (fun h168 => ?_) (fun h168 => ?_)
          ·replace hm := ifF (of_ndec_true h168) hm
           refine g_k rfl rfl rfl rfl (g_k rfl rfl rfl rfl (g_pt rfl rfl rfl (g_mv rfl rfl (g_k rfl rfl rfl rfl (g_k rfl rfl rfl rfl (g_pt rfl rfl rfl (g_mv rfl rfl ?_)))))))
           refine g_k rfl rfl rfl rfl (g_k rfl rfl rfl rfl (g_k rfl rfl rfl rfl (g_pt rfl rfl rfl (g_mv rfl rfl (g_k rfl rfl rfl rfl (g_k rfl rfl rfl rfl (g_k rfl rfl rfl rfl ?_)))))))
           refine g_pt rfl rfl rfl (g_nil ?_)
           obtain rfl := sj hm
           exact g_leaf () (trivial) (sE rfl) (fun w hh => hh.se [0, 1, 2, 3, 4, 5, 6, 7, 8, 9, 10] [4, 5, 2, 3, 6, 7] 0 rfl rfl rfl rfl)
          ·replace hm := ifT (of_ndec_false h168) hm
           refine v_unguard rfl rfl (g_mv rfl rfl (v_unguard rfl rfl (g_val rfl rfl rfl (fun _ _ => v_neq rfl rfl) (g_pf rfl rfl rfl (g_mv rfl rfl ?_)))))
           refine g_case 166 rfl (fun h169 => ?_) (fun h169 => ?_)
           ·replace hm := ifF (of_ndec_true h169) hm
            refine g_k rfl rfl rfl rfl (g_k rfl rfl rfl rfl (g_pt rfl rfl rfl (g_mv rfl rfl (g_k rfl rfl rfl rfl (g_k rfl rfl rfl rfl (g_k rfl rfl rfl rfl (g_pt rfl rfl rfl ?_)))))))
            refine g_mv rfl rfl (g_k rfl rfl rfl rfl (g_k rfl rfl rfl rfl (g_k rfl rfl rfl rfl (g_pt rfl rfl rfl (g_nil ?_)))))
            obtain rfl := sj hm
            exact g_leaf () (trivial) (sE rfl) (fun w hh => hh.se [0, 1, 2, 3, 4, 5, 6, 7, 8, 9, 10] [4, 5, 2, 3, 6, 7] 0 rfl rfl rfl rfl)
           ·replace hm := ifT (of_ndec_false h169) hm
            refine v_unguard rfl rfl (g_mv rfl rfl (v_unguard rfl rfl (g_val rfl rfl rfl (fun _ _ => v_neq rfl rfl) (g_pf rfl rfl rfl (g_mv rfl rfl ?_)))))
            refine g_case 170 rfl (fun h170 => ?_) (fun h170 => ?_)
            ·replace hm := ifF (of_ndec_true h170) hm
             refine g_k rfl rfl rfl rfl (g_k rfl rfl rfl rfl (g_k rfl rfl rfl rfl (g_pt rfl rfl rfl (g_mv rfl rfl (g_k rfl rfl rfl rfl (g_k rfl rfl rfl rfl (g_k rfl rfl rfl rfl ?_)))))))
             refine g_pt rfl rfl rfl (g_nil ?_)
             obtain rfl := sj hm
             exact g_leaf () (trivial) (sE rfl) (fun w hh => hh.se [0, 1, 2, 3, 4, 5, 6, 7, 8, 9, 10] [4, 5, 2, 3, 6, 7] 0 rfl rfl rfl rfl)
            ·replace hm := ifT (of_ndec_false h170) hm
             refine v_unguard rfl rfl (g_val rfl rfl rfl (fun w hh => v_loadAgg (vs := [_, _]) (Try.isAgg37 w) (Try.sizeOf37 w) rfl (hh.cells 1 rfl rfl)) (v_unguard rfl rfl (g_val rfl rfl rfl (fun w hh => v_loadAgg (vs := [_, _]) (Try.isAgg37 w) (Try.sizeOf37 w) rfl (hh.cells 0 rfl rfl)) (v_unguard rfl rfl (g_val rfl rfl rfl (fun w _ => v_neqAgg (gxeq37 t135_1.r0 t141_1.r0 w) gxeqg37 rfl rfl) (g_pf rfl rfl rfl (g_mv rfl rfl ?_)))))))
             refine g_case 175 rfl (fun h171 => ?_) (fun h171 => ?_)
             ·replace hm := ifF (of_ndec_true h171) hm
              refine g_k rfl rfl rfl rfl (g_k rfl rfl rfl rfl (g_k rfl rfl rfl rfl (g_pt rfl rfl rfl (g_nil ?_))))
              obtain rfl := sj hm
              exact g_leaf () (trivial) (sE rfl) (fun w hh => hh.se [0, 1, 2, 3, 4, 5, 6, 7, 8, 9, 10] [4, 5, 2, 3, 6, 7] 0 rfl rfl rfl rfl)
             ·replace hm := ifT (of_ndec_false h171) hm
              refine v_unguard rfl rfl (g_mv rfl rfl (v_unguard rfl rfl (g_mv rfl rfl (v_unguard rfl rfl (g_val rfl rfl rfl (fun _ _ => v_neq rfl rfl) (g_pf rfl rfl rfl (g_nil ?_)))))))
              obtain rfl := sj hm
              exact g_leaf () (trivial) (sE rfl) (fun w hh => hh.se [0, 1, 2, 3, 4, 5, 6, 7, 8, 9, 10] [4, 5, 2, 3, 6, 7] 0 rfl rfl rfl rfl)
        ·intro l_26 hj
         replace hm := h166
         refine g_n_then ?_
         refine g_cond rfl (fun h172 => ?_) (fun h172 => ?_)
         ·replace hm := ifT (h172) hm
          refine g_sr (g_as rfl rfl (g_nt (g_ret (g_r_then (g_r_blk (g_r_then (g_r_then ?_)))))))
          refine g_r_blk (g_r_then ?_)
          obtain rfl := sj hm
          refine g_done rfl (fun w hh => (.tmp rfl .nil)) (fun w hh => ⟨(), rfl, trivial, hh.se [] [] 1 rfl rfl rfl rfl⟩)
         ·replace hm := ifN h172 hm
          refine g_skip (g_n_then (g_sr (g_fa 1 Try.runUnderlying28 rfl Try.sizeOf26 rfl rfl (g_lc 7 Try.isAgg26 rfl rfl rfl rfl (g_val rfl rfl rfl (fun w _ => v_lenN (vlen RSp h6 rfl) (Try.runUnderlying26 w) rfl) (g_mv rfl rfl (g_nt ?_)))))))
          obtain ⟨o_6, h173, h174⟩ := bindO hm
          refine g_cut (ι := Unit) (fun j_1 => o_6 = .inl j_1) (fun j_1 => [(7, ptr b 0), (9, .int .i64 t43), (126, slv (some (b_25, 0)) 2 2), (127, .int .i64 2), (128, .int .i64 1)]) (fun j_1 => [(b_33, .cells #[.int .i64 t141_1.r0.lo, .int .i64 t141_1.r0.hi] 37 (0, 0)), (b_32, .cells #[.int .i64 t135_1.r0.lo, .int .i64 t135_1.r0.hi] 37 (0, 0)), (b_31, .cells #[slv l_2.2.2.2.2.1.q l_2.2.2.2.2.1.n l_2.2.2.2.2.1.cap, slv l_2.2.2.2.2.2.q l_2.2.2.2.2.2.n l_2.2.2.2.2.2.cap] 28 (0, 0)), (b_28, .cells #[.int .i64 t141.r0.lo, .int .i64 t141.r0.hi] 37 (0, 0)), (b_27, .cells #[.int .i64 t135.r0.lo, .int .i64 t135.r0.hi] 37 (0, 0)), (b_26, .cells #[slv l_2.2.2.1.q l_2.2.2.1.n l_2.2.2.1.cap, slv l_2.2.2.2.1.q l_2.2.2.2.1.n l_2.2.2.2.1.cap] 28 (0, 0)), (b_25, .cells #[slv l_2.2.2.1.q l_2.2.2.1.n l_2.2.2.1.cap, slv l_2.2.2.2.1.q l_2.2.2.2.1.n l_2.2.2.2.1.cap, slv l_2.2.2.2.2.1.q l_2.2.2.2.2.1.n l_2.2.2.2.2.1.cap, slv l_2.2.2.2.2.2.q l_2.2.2.2.2.2.n l_2.2.2.2.2.2.cap] 28 (0, 0)), (b, .cells #[slv l_1.1.q l_1.1.n l_1.1.cap, slv l_1.2.1.q l_1.2.1.n l_1.2.1.cap] 28 (0, 0)), (l, .cells #[.slice qa0 na0 ca0, .int .i64 t35.b0_1, .int .u32 t35.b0_2] 105 (0, 0)), (l_2.1, .cells #[slv l_2.2.2.1.q l_2.2.2.1.n l_2.2.2.1.cap, slv l_2.2.2.2.1.q l_2.2.2.2.1.n l_2.2.2.2.1.cap] 28 (0, 0)), (l_2.2.1, .cells #[slv l_2.2.2.2.2.1.q l_2.2.2.2.2.1.n l_2.2.2.2.2.1.cap, slv l_2.2.2.2.2.2.q l_2.2.2.2.2.2.n l_2.2.2.2.2.2.cap] 28 (0, 0))]) (fun j_1 => [⟨77, RSt.enc left12_strips_1, l_2.2.2.2.2.1.sp, l_2.2.2.2.2.1.q, []⟩, ⟨37, RSp.enc o.left12.carried, l_2.2.2.2.2.2.sp, l_2.2.2.2.2.2.q, []⟩, ⟨77, RSt.enc seeded11_strips_1, l_2.2.2.1.sp, l_2.2.2.1.q, []⟩, ⟨37, RSp.enc o.seeded11.carried, l_2.2.2.2.1.sp, l_2.2.2.2.1.q, []⟩, ⟨77, RSt.enc t35.r0.strips, l_1.1.sp, l_1.1.q, []⟩, ⟨37, RSp.enc t35.r0.carried, l_1.2.1.sp, l_1.2.1.q, []⟩]) ?_ ?_
          ·replace hm := h173
           refine g_block ?_
           refine g_loopF (ι := Unit) hm (fun s_1 l_27 => True) (fun s_1 l_27 => [(7, ptr b 0), (9, .int .i64 t43), (16, ptr b_31 0), (126, slv (some (b_25, 0)) 2 2), (127, .int .i64 2), (128, .int .i64 1), (182, .int .i64 (t35.r0.carried.length : Int)), (183, .int .i64 s_1)]) (fun s_1 l_27 => [(b_33, .cells #[.int .i64 t141_1.r0.lo, .int .i64 t141_1.r0.hi] 37 (0, 0)), (b_32, .cells #[.int .i64 t135_1.r0.lo, .int .i64 t135_1.r0.hi] 37 (0, 0)), (b_31, .cells #[slv l_2.2.2.2.2.1.q l_2.2.2.2.2.1.n l_2.2.2.2.2.1.cap, slv l_2.2.2.2.2.2.q l_2.2.2.2.2.2.n l_2.2.2.2.2.2.cap] 28 (0, 0)), (b_28, .cells #[.int .i64 t141.r0.lo, .int .i64 t141.r0.hi] 37 (0, 0)), (b_27, .cells #[.int .i64 t135.r0.lo, .int .i64 t135.r0.hi] 37 (0, 0)), (b_26, .cells #[slv l_2.2.2.1.q l_2.2.2.1.n l_2.2.2.1.cap, slv l_2.2.2.2.1.q l_2.2.2.2.1.n l_2.2.2.2.1.cap] 28 (0, 0)), (b_25, .cells #[slv l_2.2.2.1.q l_2.2.2.1.n l_2.2.2.1.cap, slv l_2.2.2.2.1.q l_2.2.2.2.1.n l_2.2.2.2.1.cap, slv l_2.2.2.2.2.1.q l_2.2.2.2.2.1.n l_2.2.2.2.2.1.cap, slv l_2.2.2.2.2.2.q l_2.2.2.2.2.2.n l_2.2.2.2.2.2.cap] 28 (0, 0)), (b, .cells #[slv l_1.1.q l_1.1.n l_1.1.cap, slv l_1.2.1.q l_1.2.1.n l_1.2.1.cap] 28 (0, 0)), (l, .cells #[.slice qa0 na0 ca0, .int .i64 t35.b0_1, .int .u32 t35.b0_2] 105 (0, 0)), (l_2.1, .cells #[slv l_2.2.2.1.q l_2.2.2.1.n l_2.2.2.1.cap, slv l_2.2.2.2.1.q l_2.2.2.2.1.n l_2.2.2.2.1.cap] 28 (0, 0)), (l_2.2.1, .cells #[slv l_2.2.2.2.2.1.q l_2.2.2.2.2.1.n l_2.2.2.2.2.1.cap, slv l_2.2.2.2.2.2.q l_2.2.2.2.2.2.n l_2.2.2.2.2.2.cap] 28 (0, 0))]) (fun s_1 l_27 => [⟨77, RSt.enc left12_strips_1, l_2.2.2.2.2.1.sp, l_2.2.2.2.2.1.q, []⟩, ⟨37, RSp.enc o.left12.carried, l_2.2.2.2.2.2.sp, l_2.2.2.2.2.2.q, []⟩, ⟨77, RSt.enc seeded11_strips_1, l_2.2.2.1.sp, l_2.2.2.1.q, []⟩, ⟨37, RSp.enc o.seeded11.carried, l_2.2.2.2.1.sp, l_2.2.2.2.1.q, []⟩, ⟨77, RSt.enc t35.r0.strips, l_1.1.sp, l_1.1.q, []⟩, ⟨37, RSp.enc t35.r0.carried, l_1.2.1.sp, l_1.2.1.q, []⟩]) () (trivial) (sE rfl) (fun w hh => hh) (fun s_1 l_27 r_1 hpl hm h175 => ?_)
           unfold m_laurellaw09_StripSeeded_L1 at hm
           refine g_sr (g_ls rfl rfl rfl (g_nt (g_seq ?_)))
           refine g_cond rfl (fun h176 => ?_) (fun h176 => ?_)
           ·replace hm := ifD h176 hm
            refine g_skip (g_n_then (g_seq (g_block (g_sr (g_mv rfl rfl (g_as rfl rfl (g_nx ?_)))))))
            refine g_val rfl rfl rfl (fun w hh => v_loadAgg (vs := [_, _]) (Try.isAgg28 w) (Try.sizeOf28 w) rfl (hh.cells 7 rfl rfl)) (g_mv rfl rfl ?_)
            obtain ⟨t189_1, h177, hm⟩ := bindO hm
            refine g_callH [] [] rfl rfl rfl rfl rfl rfl rfl Try.call38 (fun w hh => c_strip_Stolen t35.r0 s_1 (qA l_1.1.q) l_1.1.n l_1.1.cap (qA l_1.2.1.q) l_1.2.1.n l_1.2.1.cap w (HV.callee (S0 := []) (vs0 := []) hh (roC (hh.vsepA 4 rfl h5) (roC (hh.vsepA 5 rfl h6) roN))) (vlen RSt h5 rfl) (AOK.q (vne h5)) (h5).hle (vlen RSp h6 rfl) (AOK.q (vne h6)) (h6).hle h177) (fun l_28 h178 => ?_)
            refine g_mv rfl rfl (g_xt rfl rfl rfl (g_xt rfl rfl rfl ?_))
            refine g_allocV (fun w => Try.zeroValue37 w) rfl (fun b_34 h179 => ?_)
            refine g_stSA (us := #[_, _]) (cs' := [_, _]) (S' := [_, _, _, _, _, _, _, _, _, _, _, _]) 0 (fun w => Try.sizeOf37 w) rfl rfl rfl rfl rfl rfl rfl (g_as rfl rfl (g_nx (g_val rfl rfl rfl (fun w hh => v_loadAgg (vs := [_, _]) (Try.isAgg28 w) (Try.sizeOf28 w) rfl (hh.cells 3 rfl rfl)) (g_mv rfl rfl ?_))))
            obtain ⟨t195_1, h180, hm⟩ := bindO hm
            refine g_callH [] [] rfl rfl rfl rfl rfl rfl rfl Try.call38 (fun w hh => c_strip_Stolen (⟨left12_strips_1, o.left12.carried⟩ : Scalps) s_1 (qA l_2.2.2.2.2.1.q) l_2.2.2.2.2.1.n l_2.2.2.2.2.1.cap (qA l_2.2.2.2.2.2.q) l_2.2.2.2.2.2.n l_2.2.2.2.2.2.cap w (HV.callee (S0 := []) (vs0 := []) hh (roC (hh.vsepA 0 rfl h99) (roC (hh.vsepA 1 rfl h17) roN))) (vlen RSt h99 rfl) (AOK.q (vne h99)) (h99).hle (vlen RSp h17 rfl) (AOK.q (vne h17)) (h17).hle h180) (fun l_29 h181 => ?_)
            refine g_mv rfl rfl (g_xt rfl rfl rfl (g_xt rfl rfl rfl ?_))
            refine g_allocV (fun w => Try.zeroValue37 w) rfl (fun b_35 h182 => ?_)
            refine g_stSA (us := #[_, _]) (cs' := [_, _]) (S' := [_, _, _, _, _, _, _, _, _, _, _, _, _]) 0 (fun w => Try.sizeOf37 w) rfl rfl rfl rfl rfl rfl rfl (g_as rfl rfl (g_nt (g_seq ?_)))
            obtain ⟨o_7, h183, h184⟩ := bindO hm
            refine g_cut (ι := Unit) (fun l_30 => True) (fun l_30 => [(7, ptr b 0), (9, .int .i64 t43), (16, ptr b_31 0), (126, slv (some (b_25, 0)) 2 2), (127, .int .i64 2), (128, .int .i64 1), (182, .int .i64 (t35.r0.carried.length : Int)), (183, .int .i64 s_1), (208, .bool o_7)]) (fun l_30 => [(b_35, .cells #[.int .i64 t195_1.r0.lo, .int .i64 t195_1.r0.hi] 37 (0, 0)), (b_34, .cells #[.int .i64 t189_1.r0.lo, .int .i64 t189_1.r0.hi] 37 (0, 0)), (b_33, .cells #[.int .i64 t141_1.r0.lo, .int .i64 t141_1.r0.hi] 37 (0, 0)), (b_32, .cells #[.int .i64 t135_1.r0.lo, .int .i64 t135_1.r0.hi] 37 (0, 0)), (b_31, .cells #[slv l_2.2.2.2.2.1.q l_2.2.2.2.2.1.n l_2.2.2.2.2.1.cap, slv l_2.2.2.2.2.2.q l_2.2.2.2.2.2.n l_2.2.2.2.2.2.cap] 28 (0, 0)), (b_28, .cells #[.int .i64 t141.r0.lo, .int .i64 t141.r0.hi] 37 (0, 0)), (b_27, .cells #[.int .i64 t135.r0.lo, .int .i64 t135.r0.hi] 37 (0, 0)), (b_26, .cells #[slv l_2.2.2.1.q l_2.2.2.1.n l_2.2.2.1.cap, slv l_2.2.2.2.1.q l_2.2.2.2.1.n l_2.2.2.2.1.cap] 28 (0, 0)), (b_25, .cells #[slv l_2.2.2.1.q l_2.2.2.1.n l_2.2.2.1.cap, slv l_2.2.2.2.1.q l_2.2.2.2.1.n l_2.2.2.2.1.cap, slv l_2.2.2.2.2.1.q l_2.2.2.2.2.1.n l_2.2.2.2.2.1.cap, slv l_2.2.2.2.2.2.q l_2.2.2.2.2.2.n l_2.2.2.2.2.2.cap] 28 (0, 0)), (b, .cells #[slv l_1.1.q l_1.1.n l_1.1.cap, slv l_1.2.1.q l_1.2.1.n l_1.2.1.cap] 28 (0, 0)), (l, .cells #[.slice qa0 na0 ca0, .int .i64 t35.b0_1, .int .u32 t35.b0_2] 105 (0, 0)), (l_2.1, .cells #[slv l_2.2.2.1.q l_2.2.2.1.n l_2.2.2.1.cap, slv l_2.2.2.2.1.q l_2.2.2.2.1.n l_2.2.2.2.1.cap] 28 (0, 0)), (l_2.2.1, .cells #[slv l_2.2.2.2.2.1.q l_2.2.2.2.2.1.n l_2.2.2.2.2.1.cap, slv l_2.2.2.2.2.2.q l_2.2.2.2.2.2.n l_2.2.2.2.2.2.cap] 28 (0, 0))]) (fun l_30 => [⟨77, RSt.enc left12_strips_1, l_2.2.2.2.2.1.sp, l_2.2.2.2.2.1.q, []⟩, ⟨37, RSp.enc o.left12.carried, l_2.2.2.2.2.2.sp, l_2.2.2.2.2.2.q, []⟩, ⟨77, RSt.enc seeded11_strips_1, l_2.2.2.1.sp, l_2.2.2.1.q, []⟩, ⟨37, RSp.enc o.seeded11.carried, l_2.2.2.2.1.sp, l_2.2.2.2.1.q, []⟩, ⟨77, RSt.enc t35.r0.strips, l_1.1.sp, l_1.1.q, []⟩, ⟨37, RSp.enc t35.r0.carried, l_1.2.1.sp, l_1.2.1.q, []⟩]) ?_ ?_
            ·replace hm := h183
             refine g_region (g_mv rfl rfl (g_val rfl rfl rfl (fun _ _ => v_neq rfl rfl) (g_mv rfl rfl ?_)))
             refine g_case 200 rfl (fun h185 => ?_) (fun h185 => ?_)
             ·replace hm := ifF (of_ndec_true h185) hm
              refine g_k rfl rfl rfl rfl (g_k rfl rfl rfl rfl (g_pt rfl rfl rfl (g_mv rfl rfl (g_k rfl rfl rfl rfl (g_k rfl rfl rfl rfl (g_k rfl rfl rfl rfl (g_pt rfl rfl rfl ?_)))))))
              refine g_nil ?_
              obtain rfl := sj hm
              exact g_leaf () (trivial) (sE rfl) (fun w hh => hh)
             ·replace hm := ifT (of_ndec_false h185) hm
              refine v_unguard rfl rfl (g_mv rfl rfl (v_unguard rfl rfl (g_val rfl rfl rfl (fun _ _ => v_neq rfl rfl) (g_pf rfl rfl rfl (g_mv rfl rfl ?_)))))
              refine g_case 204 rfl (fun h186 => ?_) (fun h186 => ?_)
              ·replace hm := ifF (of_ndec_true h186) hm
               refine g_k rfl rfl rfl rfl (g_k rfl rfl rfl rfl (g_k rfl rfl rfl rfl (g_pt rfl rfl rfl (g_nil ?_))))
               obtain rfl := sj hm
               exact g_leaf () (trivial) (sE rfl) (fun w hh => hh)
              ·replace hm := ifT (of_ndec_false h186) hm
               refine v_unguard rfl rfl (g_val rfl rfl rfl (fun w hh => v_loadAgg (vs := [_, _]) (Try.isAgg37 w) (Try.sizeOf37 w) rfl (hh.cells 1 rfl rfl)) (v_unguard rfl rfl (g_val rfl rfl rfl (fun w hh => v_loadAgg (vs := [_, _]) (Try.isAgg37 w) (Try.sizeOf37 w) rfl (hh.cells 0 rfl rfl)) (v_unguard rfl rfl (g_val rfl rfl rfl (fun w _ => v_neqAgg (gxeq37 t189_1.r0 t195_1.r0 w) gxeqg37 rfl rfl) (g_pf rfl rfl rfl (g_nil ?_)))))))
               obtain rfl := sj hm
               exact g_leaf () (trivial) (sE rfl) (fun w hh => hh)
            ·intro l_30 hj
             replace hm := h184
             refine g_n_then ?_
             refine g_cond rfl (fun h187 => ?_) (fun h187 => ?_)
             ·replace hm := ifT (h187) hm
              refine g_sr (g_as rfl rfl (g_nt (g_ret (g_r_blk (g_r_then (g_r_then (g_r_blk ?_)))))))
              obtain rfl := sj hm
              have hbo := h175 _ rfl
              subst hbo
              refine g_r_then ?_
              replace hm := ocR h174
              refine g_r_blk (g_r_then (g_r_then (g_r_blk (g_r_then ?_))))
              obtain rfl := sj hm
              refine g_done rfl (fun w hh => (.tmp rfl .nil)) (fun w hh => ⟨(), rfl, trivial, hh.se [] [] 1 rfl rfl rfl rfl⟩)
             ·replace hm := ifN h187 hm
              refine g_skip (g_n_blk (g_n_then (g_region ?_)))
              obtain ⟨t209_1, h188, hm⟩ := bindO hm
              refine g_ac h188 rfl rfl rfl (g_mv rfl rfl (g_nil ?_))
              obtain rfl := sj hm
              refine g_n_then ?_
              exact g_again' _ () rfl (trivial) (sE rfl) (fun w hh => hh.se [2, 3, 4, 5, 6, 7, 8, 9, 10, 11, 12] [0, 1, 2, 3, 4, 5] 0 rfl rfl rfl rfl)
           ·replace hm := ifE h176 hm
            refine g_exit (g_x_then (g_x_then (g_x_blk ?_)))
            obtain rfl := sj hm
            have hbo := h175 _ rfl
            subst hbo
            exact g_leaf () (rfl) (sE rfl) (fun w hh => hh)
          ·intro j_1 hj
           have h189 := hj
           subst h189
           replace hm := ocL h174
           refine g_n_blk (g_n_then (g_region (g_val rfl rfl rfl (fun _ _ => v_addc (show addc 1 1 = some 2 from rfl) rfl rfl) (g_mv rfl rfl (g_nt (g_unrS (g_sr ?_)))))))
           refine g_ls rfl rfl rfl (g_nt (g_seq (g_condF rfl rfl (g_exit (g_x_then (g_x_then (g_x_blk ?_)))))))
           refine g_n_then (g_sr ?_)
           obtain ⟨t211, h190, hm⟩ := bindO hm
           refine g_callH [] [] rfl rfl rfl rfl rfl rfl rfl Try.call20 (fun w hh => c_laurellaw09_awake  w (HV.callee (S0 := []) (vs0 := []) hh roN)  h190) (fun l_31 h191 => ?_)
           refine g_as rfl rfl (g_nt (g_ret ?_))
           obtain rfl := sj hm
           refine g_done rfl (fun w hh => (.tmp rfl .nil)) (fun w hh => ⟨(), rfl, trivial, hh.se [] [] 1 rfl rfl rfl rfl⟩)
end Go.Proofs.Ws

namespace Go.Proofs.Ws
open Go Go.Fw Go.Gx Go.Sp
set_option linter.unusedVariables false
/-! ### numbers out of bytes -/
def HOK (l : List Int) (p : Int) : Prop := 0 ≤ p ∧ (p < (l.length : Int) ∨ p = 0)
theorem pick_ok {l : List Int} {p r : Int} (hl : l.length ≤ 9223372036854775807) (hp : HOK l p) : ∃ x, m_laurelkit_Heap_pick_1 l p r = some x ∧ (0 ≤ x.r0 ∧ x.r0 ≤ 32767) ∧ HOK l x.h0_1 := by
  obtain ⟨h0, h1⟩ := hp
  unfold m_laurelkit_Heap_pick_1
  have e1 : addc p 1 = some (p + 1) := addc_eq (by omega)
  by_cases hlt : p < (l.length : Int)
  · rw [if_pos hlt, ix_eq 0 h0 hlt, e1]
    simp only [Option.bind_some]
    by_cases hge : (l.length : Int) ≤ p + 1
    · rw [if_pos hge]
      exact ⟨_, rfl, Go.Fw.and_bound _ _ rfl, Int.le_refl _, .inr rfl⟩
    · rw [if_neg hge]
      exact ⟨_, rfl, Go.Fw.and_bound _ _ rfl, by simp only; omega, .inl (by simp only; omega)⟩
  · rw [if_neg hlt, e1]
    simp only [Option.bind_some]
    by_cases hge : (l.length : Int) ≤ p + 1
    · rw [if_pos hge]
      exact ⟨_, rfl, Go.Fw.and_bound _ _ rfl, Int.le_refl _, .inr rfl⟩
    · rw [if_neg hge]
      exact ⟨_, rfl, Go.Fw.and_bound _ _ rfl, by simp only; omega, .inl (by simp only; omega)⟩
theorem upto_ok {l : List Int} {p r n : Int} (hl : l.length ≤ 9223372036854775807) (hp : HOK l p) (hn : -1000000 ≤ n ∧ n ≤ 1000000) : ∃ x, m_laurelkit_Heap_Upto_1 l p r n = some x ∧ (0 ≤ x.r0 ∧ x.r0 ≤ max 0 n) ∧ HOK l x.h0_1 := by
  obtain ⟨x, hx, hb, hk⟩ := pick_ok (r := r) hl hp
  unfold m_laurelkit_Heap_Upto_1
  rw [hx, Option.bind_some, addc_eq (by omega), Option.bind_some, remc_eq (by omega), Option.bind_some]
  refine ⟨_, rfl, ?_, hk⟩
  have h1 := Int.tmod_nonneg (max 1 (n + 1)) hb.1
  have h2 := Int.tmod_lt_of_pos x.r0 (show 0 < max 1 (n + 1) by omega)
  simp only
  omega
theorem from_ok {l : List Int} {p r lo hi : Int} (hl : l.length ≤ 9223372036854775807) (hp : HOK l p) (hn : (-400000 ≤ lo ∧ lo ≤ 400000) ∧ -400000 ≤ hi ∧ hi ≤ 400000) : ∃ x, m_laurelkit_Heap_From_1 l p r lo hi = some x ∧ (lo ≤ x.r0 ∧ x.r0 ≤ max lo hi) ∧ HOK l x.h0_1 := by
  unfold m_laurelkit_Heap_From_1
  rw [subc_eq (by omega), Option.bind_some]
  obtain ⟨x, hx, hb, hk⟩ := upto_ok (r := r) (n := hi - lo) hl hp (by omega)
  rw [hx, Option.bind_some, addc_eq (by omega), Option.bind_some]
  exact ⟨_, rfl, by simp only; omega, hk⟩
theorem once_ok {l : List Int} {p r n : Int} (hl : l.length ≤ 9223372036854775807) (hp : HOK l p) (hn : -400000 ≤ n ∧ n ≤ 400000) : ∃ x, m_laurelkit_Heap_Once_1 l p r n = some x ∧ HOK l x.h0_1 := by
  unfold m_laurelkit_Heap_Once_1
  rw [subc_eq (by omega), Option.bind_some]
  obtain ⟨x, hx, hb, hk⟩ := upto_ok (r := r) (n := n - 1) hl hp (by omega)
  rw [hx, Option.bind_some]
  exact ⟨_, rfl, hk⟩
theorem around_ok {l : List Int} {p r n wd : Int} (hl : l.length ≤ 9223372036854775807) (hp : HOK l p) (hn : 0 ≤ n ∧ n ≤ 30) (hw : 0 ≤ wd ∧ wd ≤ 10) : ∃ x, m_laurellaw09_around_1 l p r n wd = some x ∧ (0 ≤ x.r0.lo ∧ x.r0.lo ≤ n ∧ n ≤ x.r0.hi ∧ x.r0.hi ≤ 30) ∧ HOK l x.b0_1 := by
  unfold m_laurellaw09_around_1
  obtain ⟨x, hx, hb, hk⟩ := upto_ok (r := r) (n := wd) hl hp (by omega)
  rw [hx, Option.bind_some, subc_eq (by omega), Option.bind_some]
  obtain ⟨z, hz, hb2, hk2⟩ := upto_ok (r := x.h0_2) (n := wd) hl hk (by omega)
  rw [hz, Option.bind_some, addc_eq (by omega), Option.bind_some]
  exact ⟨_, rfl, by simp only; omega, hk2⟩
/-! ### who reaches -/
theorem m_reaches_eq {s : Scalps} (h6 : s.strips.length ≤ 1000) {t k : Nat} (hk : k ≤ 1000) : m_laurellaw09_reaches s (t : Int) (k : Int) = some (reachB s.strips t k) := by
  unfold m_laurellaw09_reaches reachB
  have key := iterM_any0 (f := m_laurellaw09_reaches_L0 s (t : Int) (k : Int)) s.strips.length (fun j => decide (j ≤ k + 1 ∧ k ≤ j + 1 ∧ (s.strips.getD j default).tenant = (t : Int))) true (fun j hj => ?_) ?_ (N := FU) (FU_lt (by omega))
  · rw [key, Option.bind_some]
    cases h : (List.range s.strips.length).any fun j => decide (j ≤ k + 1 ∧ k ≤ j + 1 ∧ (s.strips.getD j default).tenant = (t : Int)) <;> rfl
  · unfold m_laurellaw09_reaches_L0
    have hlt : (j : Int) < (s.strips.length : Int) := by omega
    rw [if_pos hlt, ix_nat default hj, Option.bind_some]
    by_cases ht : (s.strips.getD j default).tenant = (t : Int)
    · rw [if_pos ht, subc_eq (by omega), Option.bind_some, subc_eq (by omega), Option.bind_some, Option.bind_some]
      by_cases hd : j ≤ k + 1 ∧ k ≤ j + 1
      · rw [if_pos (decide_eq_true (show max ((j : Int) - (k : Int)) ((k : Int) - (j : Int)) < 2 by omega)), if_pos (decide_eq_true ⟨hd.1, hd.2, ht⟩)]
      · rw [if_neg (fun h => by have := of_decide_eq_true h; omega), if_neg (fun h => by have := of_decide_eq_true h; omega), addc_eq (by omega), Option.bind_some]
    · rw [if_neg ht, Option.bind_some, if_neg (by simp), if_neg (fun h => ht (of_decide_eq_true h).2.2), addc_eq (by omega), Option.bind_some]
  · unfold m_laurellaw09_reaches_L0
    rw [if_neg (by omega)]
theorem reachB_congr {a b : List Strip} (h : a.map (·.tenant) = b.map (·.tenant)) (t k : Nat) : reachB a t k = reachB b t k := by
  have hl : a.length = b.length := by have := congrArg List.length h; simpa using this
  unfold reachB
  rw [hl, Bool.eq_iff_iff, List.any_eq_true, List.any_eq_true]
  have hg : ∀ j, j < b.length → (a.getD j default).tenant = (b.getD j default).tenant := fun j hj => by
    have h2 : (a.map (·.tenant))[j]? = (b.map (·.tenant))[j]? := by rw [h]
    rw [List.getElem?_map, List.getElem?_map] at h2
    rw [List.getD_eq_getElem?_getD, List.getD_eq_getElem?_getD, List.getElem?_eq_getElem (by omega), List.getElem?_eq_getElem hj]
    rw [List.getElem?_eq_getElem (by omega), List.getElem?_eq_getElem hj] at h2
    simpa using h2
  constructor
  · rintro ⟨j, h1, h2⟩
    obtain ⟨a1, a2, a3⟩ := of_decide_eq_true h2
    exact ⟨j, h1, decide_eq_true ⟨a1, a2, by rw [← hg j (List.mem_range.1 h1)]; exact a3⟩⟩
  · rintro ⟨j, h1, h2⟩
    obtain ⟨a1, a2, a3⟩ := of_decide_eq_true h2
    exact ⟨j, h1, decide_eq_true ⟨a1, a2, by rw [hg j (List.mem_range.1 h1)]; exact a3⟩⟩
/-! ### scalps out of bytes -/
def rowsM (T S : Nat) (y : Nat → Nat → Int) (j k : Nat) : List (List Int) := (List.range T).map fun t => if t < j then (List.range S).map (y t) else if t = j then (List.range k).map (y t) else []
def putY (y : Nat → Nat → Int) (t k : Nat) (n : Int) : Nat → Nat → Int := fun t' k' => if t' = t ∧ k' = k then n else y t' k'
theorem rowsM_next {T S : Nat} {y : Nat → Nat → Int} {j : Nat} : rowsM T S y j S = rowsM T S y (j + 1) 0 := by
  unfold rowsM
  refine List.map_congr_left fun t _ => ?_
  by_cases h1 : t < j
  · rw [if_pos h1, if_pos (by omega)]
  · rw [if_neg h1]
    by_cases h2 : t = j
    · rw [if_pos h2, if_pos (by omega)]
    · rw [if_neg h2, if_neg (by omega)]
      split <;> rfl
theorem rowsM_put {T S : Nat} {y : Nat → Nat → Int} {j k : Nat} {n : Int} : (rowsM T S y j k).set j ((List.range k).map (y j) ++ [n]) = rowsM T S (putY y j k n) j (k + 1) := by
  unfold rowsM
  rw [range_set]
  refine List.map_congr_left fun t _ => ?_
  by_cases h2 : t = j
  · subst h2
    rw [if_pos rfl, if_neg (Nat.lt_irrefl _), if_pos rfl, List.range_succ, List.map_append]
    congr 1
    · refine List.map_congr_left fun i hi => ?_
      have := List.mem_range.1 hi
      unfold putY
      rw [if_neg (by omega)]
    · simp [putY]
  · rw [if_neg h2, if_neg h2]
    by_cases h1 : t < j
    · rw [if_pos h1, if_pos h1]
      refine List.map_congr_left fun i hi => ?_
      unfold putY
      rw [if_neg (by omega)]
    · rw [if_neg h1, if_neg h1, if_neg h2]
theorem rowsM_at {T S : Nat} {y : Nat → Nat → Int} {j k : Nat} (h : j < T) : ix (rowsM T S y j k) (j : Int) = some ((List.range k).map (y j)) := by
  unfold rowsM
  rw [range_ix h, if_neg (Nat.lt_irrefl _), if_pos rfl]
theorem rowsM_mat {T S : Nat} {y : Nat → Nat → Int} : rowsM T S y T 0 = mat T S y := by
  unfold rowsM mat
  refine List.map_congr_left fun t ht => ?_
  rw [if_pos (List.mem_range.1 ht)]
def YOK (st : List Strip) (y : Nat → Nat → Int) : Prop := ∀ t k, 0 ≤ y t k ∧ y t k ≤ 4 ∧ (0 < y t k → reachB st t k = true)
theorem putY_sum {y : Nat → Nat → Int} {t k : Nat} {n : Int} : sumTo (putY y t k n t) (k + 1) = sumTo (y t) k + n := by
  simp only [sumTo]
  rw [sumTo_congr (g := y t) (fun i hi => by unfold putY; rw [if_neg (by omega)])]
  unfold putY
  rw [if_pos ⟨rfl, rfl⟩]
theorem putY_row {y : Nat → Nat → Int} {t k t' S : Nat} {n : Int} (h : t' ≠ t) : sumTo (putY y t k n t') S = sumTo (y t') S := by
  refine sumTo_congr fun i _ => ?_
  unfold putY
  rw [if_neg (fun e => h e.1)]
end Go.Proofs.Ws

namespace Go.Proofs.Ws
open Go Go.Fw Go.Gx Go.Sp
set_option linter.unusedVariables false
theorem made_L0 {l : List Int} (hl : l.length ≤ 9223372036854775807) {t24 t27 : m_laurelkit_Heap_From_1_R} (hS : 1 ≤ t24.r0 ∧ t24.r0 ≤ 6) (hT : 1 ≤ t27.r0 ∧ t27.r0 ≤ 5) {p r : Int} (hp : HOK l p) :
    ∃ o, iterM FU (m_laurellaw09_Made_1_L0 t24 t27 l) ⟨0, p, r, []⟩ = some o ∧ HOK l o.b0_1 ∧ (o.s8_strips.length : Int) = t24.r0 ∧ ∀ x, x ∈ o.s8_strips → 0 ≤ x.tenant ∧ x.tenant < t27.r0 := by
  refine iterM_inv (f := m_laurellaw09_Made_1_L0 t24 t27 l) (fun s => 0 ≤ s.t29 ∧ s.t29 ≤ t24.r0 ∧ HOK l s.b0_1 ∧ (s.s8_strips.length : Int) = s.t29 ∧ ∀ x, x ∈ s.s8_strips → 0 ≤ x.tenant ∧ x.tenant < t27.r0) (fun s => (t24.r0 - s.t29).toNat) _ (fun s hs => ?_) FU _ (FU_lt (by simp only; omega)) ⟨by simp, by simp only; omega, hp, rfl, by simp⟩
  obtain ⟨h0, h1, hk, hlen, hx⟩ := hs
  unfold m_laurellaw09_Made_1_L0
  by_cases hlt : s.t29 < t24.r0
  · left
    rw [if_pos hlt, subc_eq (by omega), Option.bind_some]
    obtain ⟨z, hz, hb, hk2⟩ := upto_ok (r := s.b0_2) (n := t27.r0 - 1) hl hk (by omega)
    rw [hz, Option.bind_some, appc_eq (by simp only [List.length_cons, List.length_nil]; omega), Option.bind_some, addc_eq (by omega), Option.bind_some]
    refine ⟨_, rfl, ⟨by simp only; omega, by simp only; omega, hk2, by simp only [List.length_append, List.length_cons, List.length_nil]; omega, fun x hx' => ?_⟩, by simp only; omega⟩
    rcases List.mem_append.1 hx' with h | h
    · exact hx x h
    · rw [List.mem_singleton] at h
      subst h
      simp only; omega
  · right
    rw [if_neg hlt]
    exact ⟨_, rfl, hk, by simp only; omega, hx⟩
theorem made_L2 {l : List Int} (hl : l.length ≤ 9223372036854775807) {t24 : m_laurelkit_Heap_From_1_R} {o : m_laurellaw09_Made_1_C0} {T : Nat} (hT : T ≤ 5) (hS : (o.s8_strips.length : Int) = t24.r0) (h6 : o.s8_strips.length ≤ 6) {s1 : m_laurellaw09_Made_1_S1} {j : Nat} (hj : j < T) (hsj : s1.t46 = (j : Int)) {y : Nat → Nat → Int} (hy : YOK o.s8_strips y) {p r : Int} (hp : HOK l p) :
    ∃ o2, iterM FU (m_laurellaw09_Made_1_L2 t24 o s1 l) ⟨0, 0, p, r, rowsM T o.s8_strips.length y j 0⟩ = some o2 ∧ HOK l o2.b0_1 ∧ ∃ y', YOK o.s8_strips y' ∧ o2.real11 = rowsM T o.s8_strips.length y' j o.s8_strips.length ∧ o2.sum13 = sumTo (y' j) o.s8_strips.length ∧ ∀ t, t ≠ j → sumTo (y' t) o.s8_strips.length = sumTo (y t) o.s8_strips.length := by
  refine iterM_inv (f := m_laurellaw09_Made_1_L2 t24 o s1 l) (fun s => ∃ k : Nat, s.t50 = (k : Int) ∧ k ≤ o.s8_strips.length ∧ HOK l s.b0_1 ∧ ∃ y', YOK o.s8_strips y' ∧ s.real11 = rowsM T o.s8_strips.length y' j k ∧ s.sum13 = sumTo (y' j) k ∧ ∀ t, t ≠ j → sumTo (y' t) o.s8_strips.length = sumTo (y t) o.s8_strips.length) (fun s => o.s8_strips.length - s.t50.toNat) _ (fun s hs => ?_) FU _ (FU_lt (by simp only; omega)) ⟨0, rfl, Nat.zero_le _, hp, y, hy, rfl, rfl, fun _ _ => rfl⟩
  obtain ⟨k, hk, hkle, hh, y', hy', hre, hsum, hoth⟩ := hs
  unfold m_laurellaw09_Made_1_L2
  rw [hk, hre, hsum]
  by_cases hlt : (k : Int) < t24.r0
  · left
    have hkl : k < o.s8_strips.length := by omega
    rw [if_pos hlt, hsj, m_reaches_eq (s := ⟨o.s8_strips, s1.s8_carried⟩) (by simp only; omega) (by omega), Option.bind_some]
    have hc : ∃ z : m_laurellaw09_Made_1_C3, (((if reachB o.s8_strips j k = true then ((ix o.s8_strips (k : Int)).bind fun t61 => if t61.tenant = (j : Int) then (some (⟨true, s.b0_1, s.b0_2⟩ : m_laurellaw09_Made_1_C4)) else ((m_laurelkit_Heap_Once_1 l s.b0_1 s.b0_2 4).bind fun t68 => some (⟨t68.r0, t68.h0_1, t68.h0_2⟩ : m_laurellaw09_Made_1_C4))) else (some (⟨false, s.b0_1, s.b0_2⟩ : m_laurellaw09_Made_1_C4))).bind fun o_4 => if o_4.t70 = true then ((m_laurelkit_Heap_Upto_1 l o_4.b0_1 o_4.b0_2 4).bind fun t72 => some (⟨t72.r0, t72.h0_1, t72.h0_2⟩ : m_laurellaw09_Made_1_C3)) else (some (⟨0, o_4.b0_1, o_4.b0_2⟩ : m_laurellaw09_Made_1_C3)))) = some z ∧ HOK l z.b0_1 ∧ 0 ≤ z.n15 ∧ z.n15 ≤ 4 ∧ (0 < z.n15 → reachB o.s8_strips j k = true) := by
      by_cases hr : reachB o.s8_strips j k = true
      · rw [if_pos hr, ix_nat default hkl, Option.bind_some]
        have hc4 : ∃ z4 : m_laurellaw09_Made_1_C4, (if (o.s8_strips.getD k default).tenant = (j : Int) then (some (⟨true, s.b0_1, s.b0_2⟩ : m_laurellaw09_Made_1_C4)) else ((m_laurelkit_Heap_Once_1 l s.b0_1 s.b0_2 4).bind fun t68 => some (⟨t68.r0, t68.h0_1, t68.h0_2⟩ : m_laurellaw09_Made_1_C4))) = some z4 ∧ HOK l z4.b0_1 := by
          split
          · exact ⟨_, rfl, hh⟩
          · obtain ⟨x, hx, hk2⟩ := once_ok (r := s.b0_2) (n := 4) hl hh (by omega)
            rw [hx, Option.bind_some]
            exact ⟨_, rfl, hk2⟩
        obtain ⟨z4, hz4, hk4⟩ := hc4
        rw [hz4, Option.bind_some]
        split
        · obtain ⟨x, hx, hb, hk2⟩ := upto_ok (r := z4.b0_2) (n := 4) hl hk4 (by omega)
          rw [hx, Option.bind_some]
          exact ⟨_, rfl, hk2, by simp only; omega, by simp only; omega, fun _ => hr⟩
        · exact ⟨_, rfl, hk4, by simp, by simp, fun _ => hr⟩
      · rw [if_neg hr, Option.bind_some, if_neg (by simp)]
        exact ⟨_, rfl, hh, by simp, by simp, fun h => absurd h (Int.lt_irrefl _)⟩
    obtain ⟨z, hz, hzk, hz0, hz4, hzr⟩ := hc
    rw [hz, Option.bind_some, rowsM_at hj, Option.bind_some, appc_eq (by simp only [List.length_map, List.length_range, List.length_cons, List.length_nil]; omega), Option.bind_some]
    have hb := sumTo_bound (f := y' j) (b := 4) (n := k) (fun i _ => ⟨(hy' j i).1, (hy' j i).2.1⟩)
    rw [addc_eq (by omega), Option.bind_some, Option.bind_some, Option.bind_some, addc_eq (by omega), Option.bind_some, show Int.toNat (j : Int) = j by omega, rowsM_put]
    refine ⟨_, rfl, ⟨k + 1, rfl, by omega, hzk, putY y' j k z.n15, fun t k' => ?_, rfl, ?_, fun t ht => ?_⟩, by simp only; omega⟩
    · unfold putY
      split
      · rename_i he
        obtain ⟨e1, e2⟩ := he
        subst e1; subst e2
        exact ⟨hz0, hz4, hzr⟩
      · exact hy' t k'
    · rw [putY_sum]
    · rw [putY_row ht]; exact hoth t ht
  · right
    have : k = o.s8_strips.length := by omega
    subst this
    rw [if_neg hlt]
    exact ⟨_, rfl, hh, y', hy', rfl, rfl, hoth⟩
structure CarOK (S : Nat) (y : Nat → Nat → Int) (ca : List Span) (n : Nat) : Prop where
  len : ca.length = n
  ok : ∀ t, t < n → 0 ≤ (hOf ca t).lo ∧ (hOf ca t).lo ≤ sumTo (y t) S ∧ sumTo (y t) S ≤ (hOf ca t).hi ∧ (hOf ca t).hi ≤ 30
theorem made_L1 {l : List Int} (hl : l.length ≤ 9223372036854775807) {t24 : m_laurelkit_Heap_From_1_R} {o : m_laurellaw09_Made_1_C0} {T : Nat} (hT : T ≤ 5) (hS : (o.s8_strips.length : Int) = t24.r0) (h6 : o.s8_strips.length ≤ 6) {t43 : List (List Int)} (h43 : t43.length = T) {p r : Int} (hp : HOK l p) :
    ∃ o1, iterM FU (m_laurellaw09_Made_1_L1 t43 t24 o l) ⟨0, p, r, rowsM T o.s8_strips.length (fun _ _ => 0) 0 0, []⟩ = some o1 ∧ HOK l o1.b0_1 ∧ ∃ y, YOK o.s8_strips y ∧ o1.real11 = mat T o.s8_strips.length y ∧ CarOK o.s8_strips.length y o1.s8_carried T := by
  refine iterM_inv (f := m_laurellaw09_Made_1_L1 t43 t24 o l) (fun s => ∃ j : Nat, s.t46 = (j : Int) ∧ j ≤ T ∧ HOK l s.b0_1 ∧ ∃ y, YOK o.s8_strips y ∧ s.real11 = rowsM T o.s8_strips.length y j 0 ∧ CarOK o.s8_strips.length y s.s8_carried j) (fun s => T - s.t46.toNat) _ (fun s hs => ?_) FU _ (FU_lt (by simp only; omega)) ⟨0, rfl, Nat.zero_le _, hp, fun _ _ => 0, fun t k => ⟨Int.le_refl _, (by decide : (0 : Int) ≤ 4), fun h => absurd h (Int.lt_irrefl _)⟩, rfl, rfl, fun t ht => by omega⟩
  obtain ⟨j, hj, hjle, hh, y, hy, hre, hca⟩ := hs
  have hcl := hca.len
  unfold m_laurellaw09_Made_1_L1
  rw [hj, hre, h43]
  by_cases hlt : (j : Int) < (T : Int)
  · left
    rw [if_pos hlt]
    obtain ⟨o2, ho2, hk2, y', hy', hre', hsum', hoth⟩ := made_L2 hl (t24 := t24) hT hS h6 (s1 := s) (j := j) (by omega) hj hy (r := s.b0_2) hh
    rw [ho2, Option.bind_some, hsum']
    have hb := sumTo_bound (f := y' j) (b := 4) (n := o.s8_strips.length) (fun i _ => ⟨(hy' j i).1, (hy' j i).2.1⟩)
    obtain ⟨x, hx, hb2, hk3⟩ := around_ok (r := o2.b0_2) (n := sumTo (y' j) o.s8_strips.length) (wd := 2) hl hk2 (by omega) (by omega)
    rw [hx, Option.bind_some, appc_eq (by simp only [List.length_cons, List.length_nil]; omega), Option.bind_some, addc_eq (by omega), Option.bind_some]
    refine ⟨_, rfl, ⟨j + 1, rfl, by omega, hk3, y', hy', ?_, ?_, fun t ht => ?_⟩, by simp only; omega⟩
    · simp only; rw [hre', rowsM_next]
    · simp only [List.length_append, List.length_cons, List.length_nil]; omega
    · unfold hOf
      simp only
      rw [List.getD_eq_getElem?_getD]
      by_cases htj : t = j
      · subst htj
        rw [List.getElem?_append_right (by omega), hcl, Nat.sub_self]
        simp only [List.getElem?_cons_zero, Option.getD_some]
        omega
      · rw [List.getElem?_append_left (by omega), hoth t htj]
        have := hca.ok t (by omega)
        unfold hOf at this
        rw [List.getD_eq_getElem?_getD] at this
        exact this
  · right
    have : j = T := by omega
    subst this
    rw [if_neg hlt]
    exact ⟨_, rfl, hh, y, hy, by simp only; rw [rowsM_mat], hca⟩
theorem made_L4 {T S : Nat} (hT : T ≤ 5) {o1 : m_laurellaw09_Made_1_C1} {y : Nat → Nat → Int} (hy : ∀ t k, 0 ≤ y t k ∧ y t k ≤ 4) (hr : o1.real11 = mat T S y) {s3 : m_laurellaw09_Made_1_S3} {k : Nat} (hk : k < S) (hs : s3.t97 = (k : Int)) :
    iterM FU (m_laurellaw09_Made_1_L4 o1 s3) ⟨0, 0⟩ = some (sumTo (fun t => y t k) T) := by
  have key := iterM_run (f := m_laurellaw09_Made_1_L4 o1 s3) (fun j => ⟨sumTo (fun t => y t k) j, (j : Int)⟩) T (b := sumTo (fun t => y t k) T) (fun j hj => ?_) ?_ FU (FU_lt (by omega))
  · exact key
  · unfold m_laurellaw09_Made_1_L4
    have hlt : (j : Int) < (o1.real11.length : Int) := by rw [hr]; simp [mat]; omega
    simp only
    have hb := sumTo_bound (f := fun t => y t k) (b := 4) (n := j) (fun i _ => hy i k)
    have hb2 := hy j k
    rw [if_pos hlt, hr, mat_row hj, Option.bind_some, hs, range_ix hk, Option.bind_some, addc_eq (by omega), Option.bind_some, addc_eq (by omega), Option.bind_some]
    rfl
  · unfold m_laurellaw09_Made_1_L4
    simp only
    rw [if_neg (by rw [hr]; simp [mat])]
structure StOK (T : Nat) (y : Nat → Nat → Int) (x : Strip) (k : Nat) : Prop where
  a : In30 x.lay
  b : In30 x.seeded
  c : In30 x.left
  o1 : x.lay.lo ≤ x.lay.hi
  o2 : x.seeded.lo ≤ x.seeded.hi
  o3 : x.left.lo ≤ x.left.hi
  g1 : (goneP x).lo ≤ sumTo (fun t => y t k) T
  g2 : sumTo (fun t => y t k) T ≤ (goneP x).hi
theorem made_L3 {l : List Int} (hl : l.length ≤ 9223372036854775807) {t24 : m_laurelkit_Heap_From_1_R} {st : List Strip} {T : Nat} (hT : T ≤ 5) (hS : (st.length : Int) = t24.r0) (h6 : st.length ≤ 6) {o1 : m_laurellaw09_Made_1_C1} {y : Nat → Nat → Int} (hy : ∀ t k, 0 ≤ y t k ∧ y t k ≤ 4) (hr : o1.real11 = mat T st.length y) {p r : Int} (hp : HOK l p) :
    ∃ o5, iterM FU (m_laurellaw09_Made_1_L3 t24 o1 l) ⟨0, p, r, st⟩ = some o5 ∧ HOK l o5.b0_1 ∧ o5.s8_strips.map (·.tenant) = st.map (·.tenant) ∧ ∀ k, k < st.length → StOK T y (o5.s8_strips.getD k default) k := by
  refine iterM_inv (f := m_laurellaw09_Made_1_L3 t24 o1 l) (fun s => ∃ k : Nat, s.t97 = (k : Int) ∧ k ≤ st.length ∧ HOK l s.b0_1 ∧ s.s8_strips.map (·.tenant) = st.map (·.tenant) ∧ ∀ i, i < k → StOK T y (s.s8_strips.getD i default) i) (fun s => st.length - s.t97.toNat) _ (fun s hs => ?_) FU _ (FU_lt (by simp only; omega)) ⟨0, rfl, Nat.zero_le _, hp, rfl, fun i hi => by omega⟩
  obtain ⟨k, hk, hkle, hh, hten, hok⟩ := hs
  have hlen : s.s8_strips.length = st.length := by have := congrArg List.length hten; simpa using this
  unfold m_laurellaw09_Made_1_L3
  by_cases hlt : (k : Int) < t24.r0
  · left
    have hkl : k < st.length := by omega
    rw [hk, if_pos hlt, made_L4 hT hy hr hkl hk, Option.bind_some]
    have hb := sumTo_bound (f := fun t => y t k) (b := 4) (n := T) (fun i _ => hy i k)
    generalize hg : sumTo (fun t => y t k) T = g at hb
    obtain ⟨x1, e1, b1, k1⟩ := upto_ok (r := s.b0_2) (n := 3) hl hh (by omega)
    rw [e1, Option.bind_some]
    obtain ⟨x2, e2, b2, k2⟩ := upto_ok (r := x1.h0_2) (n := 2) hl k1 (by omega)
    rw [e2, Option.bind_some, addc_eq (by omega), Option.bind_some, ix_nat default (by omega), Option.bind_some, Option.bind_some, subc_eq (by omega), Option.bind_some]
    obtain ⟨x3, e3, b3, k3⟩ := around_ok (r := x2.h0_2) (n := g + x1.r0 - min x2.r0 (g + x1.r0)) (wd := 1) hl k2 (by omega) (by omega)
    rw [e3, Option.bind_some]
    obtain ⟨x4, e4, b4, k4⟩ := around_ok (r := x3.b0_2) (n := min x2.r0 (g + x1.r0)) (wd := 1) hl k3 (by omega) (by omega)
    rw [e4, Option.bind_some]
    obtain ⟨x5, e5, b5, k5⟩ := around_ok (r := x4.b0_2) (n := x1.r0) (wd := 1) hl k4 (by omega) (by omega)
    rw [e5, Option.bind_some, Option.bind_some, show Int.toNat (k : Int) = k by omega, ix_nat default (by rw [List.length_set]; omega), Option.bind_some, Option.bind_some, ix_nat default (by rw [List.length_set, List.length_set]; omega), Option.bind_some, Option.bind_some, addc_eq (by omega), Option.bind_some]
    have hgs : ∀ (l : List Strip) (v : Strip), k < l.length → (l.set k v).getD k default = v := fun l v h => by
      rw [List.getD_eq_getElem?_getD, List.getElem?_set_self h]; rfl
    rw [hgs _ _ (by omega), hgs _ _ (by rw [List.length_set]; omega), List.set_set, List.set_set]
    simp only
    refine ⟨_, rfl, ⟨k + 1, rfl, by omega, k5, ?_, fun i hi => ?_⟩, by simp only; omega⟩
    · simp only
      rw [List.map_set]
      simp only
      rw [← hten]
      apply List.ext_getElem?
      intro i
      rw [List.getElem?_set]
      by_cases hik : k = i
      · subst hik
        rw [if_pos rfl, if_pos (by rw [List.length_map]; omega), List.getElem?_map, List.getD_eq_getElem?_getD, List.getElem?_eq_getElem (by omega)]
        rfl
      · rw [if_neg hik]
    · by_cases hik : i = k
      · subst hik
        rw [hgs _ _ (by omega)]
        unfold In30 at *
        refine ⟨by unfold In30; simp only; omega, by unfold In30; simp only; omega, by unfold In30; simp only; omega, by simp only; omega, by simp only; omega, by simp only; omega, ?_, ?_⟩
        · rw [hg]; unfold goneP; simp only; omega
        · rw [hg]; unfold goneP; simp only; omega
      · simp only
        rw [List.getD_eq_getElem?_getD, List.getElem?_set_ne (fun e => hik e.symm), ← List.getD_eq_getElem?_getD]
        exact hok i (by omega)
  · right
    have : k = st.length := by omega
    subst this
    rw [hk, if_neg hlt]
    exact ⟨_, rfl, hh, hten, hok⟩
/-- scalps with shares that fit -/
theorem Made_spec {l : List Int} (hl : l.length ≤ 9223372036854775807) {p r S0 T0 : Int} (hp : HOK l p) (hS : 1 ≤ S0 ∧ S0 ≤ 6) (hT : 1 ≤ T0 ∧ T0 ≤ 5) :
    ∃ x y, m_laurellaw09_Made_1 l p r S0 T0 = some x ∧ HOK l x.b0_1 ∧ Right x.r0 ∧ x.r1 = mat x.r0.carried.length x.r0.strips.length y ∧ FitsS x.r0 y ∧ YOK x.r0.strips y ∧ (x.r0.strips.length : Int) ≤ S0 ∧ (x.r0.carried.length : Int) ≤ T0 := by
  unfold m_laurellaw09_Made_1
  obtain ⟨t24, e24, b24, k24⟩ := from_ok (r := r) (lo := 1) (hi := S0) hl hp (by omega)
  rw [e24, Option.bind_some]
  obtain ⟨t27, e27, b27, k27⟩ := from_ok (r := t24.h0_2) (lo := 1) (hi := T0) hl k24 (by omega)
  rw [e27, Option.bind_some]
  obtain ⟨o, eo, ko, lo, to⟩ := made_L0 (t24 := t24) (t27 := t27) (r := t27.h0_2) hl (by omega) (by omega) k27
  rw [eo, Option.bind_some, makec_eq (by omega), Option.bind_some]
  obtain ⟨T, hTn⟩ : ∃ T : Nat, t27.r0 = (T : Int) := ⟨t27.r0.toNat, by omega⟩
  have hrep : List.replicate t27.r0.toNat ([] : List Int) = rowsM T o.s8_strips.length (fun _ _ => 0) 0 0 := by
    unfold rowsM
    symm
    rw [List.eq_replicate_iff]
    refine ⟨by simp; omega, fun b hb => ?_⟩
    obtain ⟨t, _, rfl⟩ := List.mem_map.1 hb
    simp
  obtain ⟨o1, e1, k1, y, hy, hr1, hca⟩ := made_L1 (l := l) hl (t24 := t24) (o := o) (T := T) (by omega) lo (by omega) (t43 := List.replicate t27.r0.toNat ([] : List Int)) (by simp; omega) (r := o.b0_2) ko
  rw [← hrep] at e1
  rw [e1, Option.bind_some]
  obtain ⟨o5, e5, k5, ht5, hs5⟩ := made_L3 (l := l) hl (t24 := t24) (st := o.s8_strips) (T := T) (by omega) lo (by omega) (o1 := o1) (y := y) (fun t k => ⟨(hy t k).1, (hy t k).2.1⟩) hr1 (r := o1.b0_2) k1
  rw [e5, Option.bind_some]
  have hl5 : o5.s8_strips.length = o.s8_strips.length := by have := congrArg List.length ht5; simpa using this
  have hcl := hca.len
  have hre : ∀ t k, reachB o5.s8_strips t k = reachB o.s8_strips t k := reachB_congr ht5
  have hst : ∀ x, x ∈ o5.s8_strips → ∃ k, k < o.s8_strips.length ∧ StOK T y x k := fun x hx => by
    obtain ⟨k, hk, rfl⟩ := List.getElem_of_mem hx
    have := hs5 k (by omega)
    rw [List.getD_eq_getElem?_getD, List.getElem?_eq_getElem hk] at this
    exact ⟨k, by omega, this⟩
  refine ⟨_, y, rfl, k5, ⟨⟨by simp only; omega, by simp only; omega, fun x hx => ?_, fun x hx => ?_⟩, by simp only; omega, by simp only; omega, fun x hx => ?_, fun x hx => ?_⟩, ?_, ⟨fun t k ht hk => ?_, fun t ht => ?_, fun k hk => ?_⟩, fun t k => ?_, by simp only; omega, by simp only; omega⟩
  · obtain ⟨k, hk, h⟩ := hst x hx
    exact ⟨h.a, h.b, h.c, Int.le_trans h.g1 h.g2⟩
  · obtain ⟨t, ht, rfl⟩ := List.getElem_of_mem hx
    simp only at ht
    have := hca.ok t (by omega)
    unfold hOf at this
    rw [List.getD_eq_getElem?_getD, List.getElem?_eq_getElem ht, Option.getD_some] at this
    unfold In30
    simp only
    omega
  · have hm : x.tenant ∈ o5.s8_strips.map (·.tenant) := List.mem_map.2 ⟨x, hx, rfl⟩
    rw [ht5] at hm
    obtain ⟨x', hx', he⟩ := List.mem_map.1 hm
    have := to x' hx'
    rw [he] at this
    simp only
    omega
  · obtain ⟨k, hk, h⟩ := hst x hx
    exact ⟨h.o1, h.o2, h.o3⟩
  · simp only
    rw [hr1, hcl, hl5]
  · simp only at ht hk ⊢
    rw [hre]
    exact ⟨(hy t k).1, (hy t k).2.2⟩
  · simp only at ht ⊢
    rw [hl5]
    have := hca.ok t (by omega)
    exact ⟨this.2.1, this.2.2.1⟩
  · simp only at hk ⊢
    rw [hcl]
    have := hs5 k (by omega)
    exact ⟨this.g1, this.g2⟩
  · simp only
    rw [hre]
    exact hy t k
end Go.Proofs.Ws

namespace Go.Proofs.Ws
open Go Go.Fw Go.Gx Go.Sp
set_option maxRecDepth 100000 in
theorem awake_eq : m_laurellaw09_awake = some true := by decide +kernel
end Go.Proofs.Ws

namespace Go.Proofs.Ws
open Go Go.Fw Go.Gx Go.Sp
set_option linter.unusedVariables false
/-! ### the law of lacks -/
def AscR (l : List Int) (n : Int) : Prop := (∀ j, j + 1 < l.length → gtI l j < gtI l (j + 1)) ∧ ∀ x, x ∈ l → 0 ≤ x ∧ x < n
theorem AscR.nil {n : Int} : AscR [] n := ⟨fun j hj => by simp at hj, fun x hx => by simp at hx⟩
theorem AscR.mono {l : List Int} {n m : Int} (h : AscR l n) (hnm : n ≤ m) : AscR l m := ⟨h.1, fun x hx => by have := h.2 x hx; omega⟩
theorem AscR.inr {l : List Int} {n : Int} (h : AscR l n) : (l.all fun x => inb x 0 (n - 1)) = true := by
  rw [List.all_eq_true]
  intro x hx
  have := h.2 x hx
  exact inb_iff.2 (by omega)
end Go.Proofs.Ws

namespace Go.Proofs.Ws
open Go Go.Fw Go.Gx Go.Sp
set_option linter.unusedVariables false
theorem cf_stolen (s : Scalps) (t0 : Nat) : CfIs s (fun p => m_strip_some_1_2 p (t0 : Int) s.strips s.carried) (stC s t0) := cf_verd s t0
theorem inb_nat {n : Nat} {t : Nat} : inb (t : Int) 0 ((n : Int) - 1) = decide (t < n) := by
  rw [Bool.eq_iff_iff, inb_iff, decide_eq_true_iff]; omega
theorem Stolen_spec {s : Scalps} (h : Right s) {t : Nat} (ht : t < s.carried.length) : (∃ lo hi, m_strip_Stolen s (t : Int) = some ⟨⟨lo, hi⟩, 0⟩ ∧ IsRange s (stC s t) lo hi) ∨ (m_strip_Stolen s (t : Int) = some ⟨⟨0, 0⟩, 7⟩ ∧ NoFit s) := by
  obtain ⟨mp, hmp, hm⟩ := m_opened_right h
  have h5 := h.net.c5
  unfold m_strip_Stolen m_strip_some_3
  rw [hmp, Option.bind_some, oc_inr, m_tenant_eq (by omega), Option.bind_some, inb_nat, decide_eq_true ht]
  simp only [Bool.not_true, Bool.false_eq_true, if_false]
  rw [Option.bind_some]
  rcases spread_spec h hm (cf_stolen s t) with ⟨lo, hi, h1, hr⟩ | ⟨h1, hn⟩
  · rw [h1, Option.bind_some]; exact .inl ⟨lo, hi, rfl, hr⟩
  · rw [h1, Option.bind_some]; exact .inr ⟨rfl, hn⟩
theorem gone_at {s : Scalps} (h : Right s) {k : Nat} (hk : k < s.strips.length) : m_strip_Strip_gone (s.strips.getD k default) = some (gOf s.strips k) := by
  have hx : s.strips.getD k default = s.strips[k] := by simp [List.getD_eq_getElem?_getD, hk]
  obtain ⟨b1, b2, b3, b4⟩ := h.net.sp _ (List.getElem_mem hk)
  unfold gOf; rw [hx]; exact m_gone_eq b1 b2 b3
theorem Gone_spec {s : Scalps} (h : Right s) {k : Nat} (hk : k < s.strips.length) : m_strip_Gone s (k : Int) = some ⟨gOf s.strips k, 0⟩ := by
  obtain ⟨mp, hmp, hm⟩ := m_opened_right h
  have h6 := h.net.s6
  unfold m_strip_Gone
  rw [hmp, Option.bind_some, oc_inr, m_strip_eq (by omega), Option.bind_some, inb_nat, decide_eq_true hk]
  simp only [Bool.not_true, Bool.false_eq_true, if_false]
  rw [ix_nat default hk, Option.bind_some]
  have e := gone_at h hk
  generalize s.strips.getD k default = x at e
  show (m_strip_Strip_gone x).bind _ = _
  rw [e]; rfl
end Go.Proofs.Ws

namespace Go.Proofs.Ws
open Go Go.Fw Go.Gx Go.Sp
set_option linter.unusedVariables false
theorem hok0 {l : List Int} : HOK l 0 := ⟨Int.le_refl _, .inr rfl⟩
end Go.Proofs.Ws

namespace Go.Proofs.Ws
open Go Go.Fw Go.Gx Go.Sp
set_option linter.unusedVariables false
/-! ### scalps of which as much is gone -/
theorem Own_eq {s : Scalps} (h6 : s.strips.length ≤ 100000) (h5 : s.carried.length ≤ 100000) : m_laurellaw09_Own s = some s := by
  unfold m_laurellaw09_Own m_laurelkit_Dup_stripStrip m_laurelkit_Dup_apiSpan
  rw [makec_eq (by omega), Option.bind_some, appc_eq (by simp; omega), Option.bind_some, Option.bind_some, makec_eq (by omega), Option.bind_some, appc_eq (by simp; omega), Option.bind_some, Option.bind_some]
  simp
structure Alike (s s' : Scalps) : Prop where
  ca : s'.carried = s.carried
  ten : s'.strips.map (·.tenant) = s.strips.map (·.tenant)
  gone : ∀ k, k < s.strips.length → gOf s'.strips k = gOf s.strips k
theorem Alike.len {s s' : Scalps} (h : Alike s s') : s'.strips.length = s.strips.length := by have := congrArg List.length h.ten; simpa using this
theorem Alike.fits {s s' : Scalps} (h : Alike s s') {y : Nat → Nat → Int} : FitsS s' y ↔ FitsS s y := by
  have hl := h.len
  have hr : ∀ t k, reachB s'.strips t k = reachB s.strips t k := reachB_congr h.ten
  constructor
  · intro hy
    exact ⟨fun t k ht hk => by rw [← hr]; exact hy.pos t k (by rw [h.ca]; exact ht) (by omega), fun t ht => by have := hy.ten t (by rw [h.ca]; exact ht); rw [h.ca, hl] at this; exact this, fun k hk => by have := hy.str k (by omega); rw [h.gone k hk, h.ca] at this; exact this⟩
  · intro hy
    exact ⟨fun t k ht hk => by rw [hr]; exact hy.pos t k (by rw [← h.ca]; exact ht) (by omega), fun t ht => by rw [h.ca, hl]; exact hy.ten t (by rw [← h.ca]; exact ht), fun k hk => by rw [h.gone k (by omega), h.ca]; exact hy.str k (by omega)⟩
theorem tenant_at {a b : List Strip} (h : a.map (·.tenant) = b.map (·.tenant)) (j : Nat) : (a.getD j default).tenant = (b.getD j default).tenant := by
  have h2 : (a.map (·.tenant))[j]? = (b.map (·.tenant))[j]? := by rw [h]
  rw [List.getElem?_map, List.getElem?_map] at h2
  rw [List.getD_eq_getElem?_getD, List.getD_eq_getElem?_getD]
  cases ha : a[j]? with
  | none => cases hb : b[j]? with
    | none => rfl
    | some y => rw [ha, hb] at h2; cases h2
  | some x => cases hb : b[j]? with
    | none => rw [ha, hb] at h2; cases h2
    | some y => rw [ha, hb] at h2; simpa using h2
theorem Alike.oth {s s' : Scalps} (h : Alike s s') (t k : Nat) : othB s' t k = othB s t k := by unfold othB; rw [tenant_at h.ten]
theorem Alike.count {s s' : Scalps} (h : Alike s s') {c c' : Nat → Nat → Int} (hc : ∀ t k, c' t k = c t k) (y : Nat → Nat → Int) : countS s' c' y = countS s c y := by
  unfold countS countY
  rw [h.ca, h.len]
  exact sumTo_congr fun t ht => sumTo_congr fun k hk => by rw [hc]
theorem Alike.range {s s' : Scalps} (h : Alike s s') {c c' : Nat → Nat → Int} (hc : ∀ t k, c' t k = c t k) {lo hi : Int} (hr : IsRange s' c' lo hi) : IsRange s c lo hi := by
  obtain ⟨⟨y1, f1, e1⟩, ⟨y2, f2, e2⟩, h3⟩ := hr
  exact ⟨⟨y1, h.fits.1 f1, by rw [← h.count hc]; exact e1⟩, ⟨y2, h.fits.1 f2, by rw [← h.count hc]; exact e2⟩, fun y hy => by rw [← h.count hc]; exact h3 y (h.fits.2 hy)⟩
theorem setD {l : List Strip} {k i : Nat} {v : Strip} (hk : k < l.length) : (l.set k v).getD i default = if i = k then v else l.getD i default := by
  rw [List.getD_eq_getElem?_getD, List.getD_eq_getElem?_getD, List.getElem?_set]
  by_cases h : k = i
  · subst h; rw [if_pos rfl, if_pos hk, if_pos rfl]; rfl
  · rw [if_neg h, if_neg (fun e => h e.symm)]
theorem alike_set {s : Scalps} {k : Nat} (hk : k < s.strips.length) {v : Strip} (ht : v.tenant = (s.strips.getD k default).tenant) (hg : goneP v = goneP (s.strips.getD k default)) : Alike s ⟨s.strips.set k v, s.carried⟩ := by
  refine ⟨rfl, ?_, fun i hi => ?_⟩
  · simp only
    rw [List.map_set]
    apply List.ext_getElem?
    intro i
    rw [List.getElem?_set]
    by_cases hik : k = i
    · subst hik
      rw [if_pos rfl, if_pos (by rw [List.length_map]; exact hk), List.getElem?_map, List.getElem?_eq_getElem hk, ht]
      simp [List.getD_eq_getElem?_getD, hk]
    · rw [if_neg hik]
  · unfold gOf
    simp only
    rw [setD hk]
    by_cases hik : i = k
    · subst hik; rw [if_pos rfl]; exact hg
    · rw [if_neg hik]
theorem right_strip {s : Scalps} (h : Right s) {k : Nat} (hk : k < s.strips.length) {v : Strip} (h1 : In30 v.lay ∧ In30 v.seeded ∧ In30 v.left) (h2 : (goneP v).lo ≤ (goneP v).hi) (h3 : 0 ≤ v.tenant ∧ v.tenant < s.carried.length) (h4 : v.lay.lo ≤ v.lay.hi ∧ v.seeded.lo ≤ v.seeded.hi ∧ v.left.lo ≤ v.left.hi) : Right ⟨s.strips.set k v, s.carried⟩ := by
  have hm : ∀ x, x ∈ s.strips.set k v → x ∈ s.strips ∨ x = v := fun x hx => List.mem_or_eq_of_mem_set hx
  refine ⟨⟨by simp only; rw [List.length_set]; exact h.net.s6, h.net.c5, fun x hx => ?_, h.net.cp⟩, by simp only; rw [List.length_set]; exact h.s1, h.c1, fun x hx => ?_, fun x hx => ?_⟩
  · rcases hm x hx with hx | rfl
    · exact h.net.sp x hx
    · exact ⟨h1.1, h1.2.1, h1.2.2, h2⟩
  · rcases hm x hx with hx | rfl
    · exact h.ten x hx
    · exact h3
  · rcases hm x hx with hx | rfl
    · exact h.ord x hx
    · exact h4
/-- what of alike scalps is told is the same -/
theorem alike_loop {x : m_laurellaw09_Made_1_R} (hR : Right x.r0) (hnf : ¬ NoFit x.r0) {s' : Scalps} (hR' : Right s') (ha : Alike x.r0 s') {t : Nat} (ht : t < x.r0.carried.length) :
    ∃ r, m_strip_Stolen x.r0 (t : Int) = some ⟨r, 0⟩ ∧ m_strip_Stolen s' (t : Int) = some ⟨r, 0⟩ := by
  have hn' : ¬ NoFit s' := fun h => hnf fun y hy => h y (ha.fits.2 hy)
  rcases Stolen_spec hR ht with ⟨lo, hi, h1, hr⟩ | ⟨_, hn⟩
  · rcases Stolen_spec hR' (t := t) (by rw [ha.ca]; exact ht) with ⟨lo', hi', h1', hr'⟩ | ⟨_, hn⟩
    · have hr2 := ha.range (c := stC x.r0 t) (fun t' k' => by unfold stC; rw [ha.oth]) hr'
      obtain ⟨rfl, rfl⟩ := hr.uniq hr2
      exact ⟨_, h1, h1'⟩
    · exact absurd hn hn'
  · exact absurd hn hnf
theorem alike_least {s s' : Scalps} (hR : Right s) (hnf : ¬ NoFit s) (hR' : Right s') (ha : Alike s s') : ∃ lo y y', m_strip_Least s = some ⟨lo, 0, y⟩ ∧ m_strip_Least s' = some ⟨lo, 0, y'⟩ := by
  have hn' : ¬ NoFit s' := fun h => hnf fun y hy => h y (ha.fits.2 hy)
  rcases Least_spec hR with ⟨lo, hi, y, h1, _, _, hr⟩ | ⟨_, hn⟩
  · rcases Least_spec hR' with ⟨lo', hi', y', h1', _, _, hr'⟩ | ⟨_, hn⟩
    · have hr2 := ha.range (c := thC s) (fun t' k' => by unfold thC; rw [ha.oth]) hr'
      obtain ⟨rfl, rfl⟩ := hr.uniq hr2
      exact ⟨_, _, _, h1, h1'⟩
    · exact absurd hn hn'
  · exact absurd hn hnf
theorem StripSeeded_true {l : List Int} (hl : l.length ≤ 9223372036854775807) {which many : Int} (hwh : 0 ≤ which ∧ which ≤ 255) (hma : 0 ≤ many ∧ many ≤ 255) : m_laurellaw09_StripSeeded l which many = some true := by
  unfold m_laurellaw09_StripSeeded m_laurelkit_Pile
  rw [Option.bind_some]
  obtain ⟨x, y0, hx, _, hR, hreal, hf0, hyok, _, _⟩ := Made_spec hl (p := 0) (r := 0) (S0 := 5) (T0 := 4) hok0 (by omega) (by omega)
  simp only
  rw [hx, Option.bind_some]
  have hnf : ¬ NoFit x.r0 := fun h => h y0 hf0
  have h5 := hR.net.c5; have h6 := hR.net.s6; have hs1 := hR.s1
  have hw1 : IntKind.i64.wrap which = which := Go.Fw.wrap_i64 (by omega)
  have hw2 : IntKind.i64.wrap many = many := Go.Fw.wrap_i64 (by omega)
  rw [hw1, hw2, remc_eq (by omega), Option.bind_some, remc_eq (by omega), Option.bind_some, Own_eq (by omega) (by omega), Option.bind_some, Option.bind_some, Option.bind_some]
  have hm1 := Int.tmod_nonneg (x.r0.strips.length : Int) hwh.1
  have hm2 := Int.tmod_lt_of_pos which (show 0 < (x.r0.strips.length : Int) by omega)
  obtain ⟨k, hk⟩ : ∃ k : Nat, which.tmod (x.r0.strips.length : Int) = (k : Int) := ⟨(which.tmod (x.r0.strips.length : Int)).toNat, by omega⟩
  rw [hk] at hm1 hm2 ⊢
  rw [show Int.toNat (k : Int) = k by omega]
  have hkl : k < x.r0.strips.length := by omega
  have n1 := Int.tmod_nonneg 8 hma.1
  have n2 := Int.tmod_lt_of_pos many (show (0 : Int) < 8 by omega)
  generalize many.tmod 8 = n at n1 n2
  have hxm : x.r0.strips.getD k default ∈ x.r0.strips := by
    have : x.r0.strips.getD k default = x.r0.strips[k] := by simp [List.getD_eq_getElem?_getD, hkl]
    rw [this]; exact List.getElem_mem hkl
  obtain ⟨c1, c2, c3, c4⟩ := hR.net.sp _ hxm
  obtain ⟨d1, d2, d3⟩ := hR.ord _ hxm
  have hten := hR.ten _ hxm
  simp only
  generalize hv : x.r0.strips.getD k default = v at *
  have hgs : ∀ (l : List Strip) (v : Strip), k < l.length → (l.set k v).getD k default = v := fun l v h => by rw [setD h, if_pos rfl]
  unfold In30 at c1 c2 c3
  rw [ix_nat default hkl, hv, Option.bind_some, Option.bind_some, ix_nat default (by rw [List.length_set]; exact hkl), hgs _ _ hkl, Option.bind_some, Option.bind_some, Option.bind_some, addc_eq (by omega), Option.bind_some, addc_eq (by omega), Option.bind_some, Option.bind_some, ix_nat default (by rw [List.length_set]; exact hkl), hgs _ _ hkl, Option.bind_some]
  simp only
  rw [addc_eq (by omega), Option.bind_some, Option.bind_some]
  dsimp only
  rw [addc_eq (by omega), Option.bind_some, Option.bind_some, Option.bind_some, List.set_set, List.set_set, ix_nat default (by rw [List.length_set]; exact hkl), hgs _ _ hkl, Option.bind_some]
  simp only
  by_cases hb1 : 30 < v.lay.hi + n
  · rw [if_pos hb1, Option.bind_some, if_pos rfl, awake_eq]; rfl
  · rw [if_neg hb1, Option.bind_some]
    by_cases hb2 : 30 < v.left.hi + n
    · rw [decide_eq_true hb2, Option.bind_some, if_pos rfl, awake_eq]; rfl
    · rw [decide_eq_false hb2, Option.bind_some, if_neg (by simp)]
      have hRa : Right ⟨x.r0.strips.set k ⟨v.tenant, ⟨v.seeded.lo, v.seeded.hi⟩, ⟨v.lay.lo, v.lay.hi⟩, v.left⟩, x.r0.carried⟩ := right_strip hR hkl ⟨by unfold In30; simp only; omega, by unfold In30; simp only; omega, by unfold In30; simp only; omega⟩ (by unfold goneP at *; simp only at *; omega) hten ⟨d2, d1, d3⟩
      have haa : Alike x.r0 ⟨x.r0.strips.set k ⟨v.tenant, ⟨v.seeded.lo, v.seeded.hi⟩, ⟨v.lay.lo, v.lay.hi⟩, v.left⟩, x.r0.carried⟩ := alike_set hkl (by rw [hv]) (by
        rw [hv]; unfold goneP; simp only
        rw [Int.add_comm v.seeded.lo, Int.add_comm v.seeded.hi])
      have hRb : Right ⟨x.r0.strips.set k ⟨v.tenant, ⟨v.lay.lo + n, v.lay.hi + n⟩, v.seeded, ⟨v.left.lo + n, v.left.hi + n⟩⟩, x.r0.carried⟩ := right_strip hR hkl ⟨by unfold In30; simp only; omega, by unfold In30; simp only; omega, by unfold In30; simp only; omega⟩ (by unfold goneP at *; simp only at *; omega) hten ⟨by simp only; omega, d2, by simp only; omega⟩
      have hab : Alike x.r0 ⟨x.r0.strips.set k ⟨v.tenant, ⟨v.lay.lo + n, v.lay.hi + n⟩, v.seeded, ⟨v.left.lo + n, v.left.hi + n⟩⟩, x.r0.carried⟩ := alike_set hkl (by rw [hv]) (by
        rw [hv]; unfold goneP; simp only [Span.mk.injEq]
        constructor <;> omega)
      generalize x.r0.strips.set k ⟨v.tenant, ⟨v.seeded.lo, v.seeded.hi⟩, ⟨v.lay.lo, v.lay.hi⟩, v.left⟩ = sa at hRa haa
      generalize x.r0.strips.set k ⟨v.tenant, ⟨v.lay.lo + n, v.lay.hi + n⟩, v.seeded, ⟨v.left.lo + n, v.left.hi + n⟩⟩ = sb at hRb hab
      have hla := haa.len
      have hlb := hab.len
      simp only at hla hlb
      obtain ⟨loa, ya, ya', a1, a2⟩ := alike_least hR hnf hRa haa
      obtain ⟨lob, yb, yb', b1, b2⟩ := alike_least hR hnf hRb hab
      have hlo : loa = lob := by
        have := a1.symm.trans b1
        simp only [Option.some.injEq, m_strip_Least_R.mk.injEq] at this
        exact this.1
      subst hlo
      have ga : gOf sa k = gOf x.r0.strips k := haa.gone k hkl
      have gb : gOf sb k = gOf x.r0.strips k := hab.gone k hkl
      rw [Gone_spec hR hkl, Option.bind_some, Gone_spec hRa (k := k) (by simp only; omega), Option.bind_some, a1, Option.bind_some, a2, Option.bind_some]
      dsimp only
      rw [if_pos rfl, if_pos rfl, if_pos rfl, if_pos rfl, if_pos ga.symm, decide_eq_true rfl, Bool.not_true, Option.bind_some, if_neg (by simp)]
      have k1 := iterM_run (f := m_laurellaw09_StripSeeded_L0 x sa ⟨x.r0, x.r0⟩) (fun t => (t : Int)) x.r0.carried.length (b := .inl ()) (fun t ht => by
        unfold m_laurellaw09_StripSeeded_L0
        obtain ⟨r, r1, r2⟩ := alike_loop hR hnf hRa haa ht
        rw [if_pos (by omega), r1, Option.bind_some, r2, Option.bind_some]
        dsimp only
        rw [if_pos rfl, if_pos rfl, decide_eq_true rfl, Bool.not_true, Option.bind_some, if_neg (by simp), addc_eq (by omega), Option.bind_some]; rfl) (by
        unfold m_laurellaw09_StripSeeded_L0
        rw [if_neg (by omega)]) FU (FU_lt (by omega))
      have k1' : iterM FU (m_laurellaw09_StripSeeded_L0 x sa ⟨x.r0, x.r0⟩) 0 = some (.inl ()) := k1
      rw [k1', Option.bind_some, oc_inl, Gone_spec hRb (k := k) (by simp only; omega), Option.bind_some, b2, Option.bind_some, Option.bind_some, Option.bind_some]
      dsimp only
      rw [if_pos rfl, if_pos rfl, if_pos rfl, if_pos rfl, if_pos gb.symm, decide_eq_true rfl, Bool.not_true, Option.bind_some, if_neg (by simp)]
      have k2 := iterM_run (f := m_laurellaw09_StripSeeded_L1 x sb ⟨x.r0, x.r0⟩) (fun t => (t : Int)) x.r0.carried.length (b := .inl ()) (fun t ht => by
        unfold m_laurellaw09_StripSeeded_L1
        obtain ⟨r, r1, r2⟩ := alike_loop hR hnf hRb hab ht
        rw [if_pos (by omega), r1, Option.bind_some, r2, Option.bind_some]
        dsimp only
        rw [if_pos rfl, if_pos rfl, decide_eq_true rfl, Bool.not_true, Option.bind_some, if_neg (by simp), addc_eq (by omega), Option.bind_some]; rfl) (by
        unfold m_laurellaw09_StripSeeded_L1
        rw [if_neg (by omega)]) FU (FU_lt (by omega))
      have k2' : iterM FU (m_laurellaw09_StripSeeded_L1 x sb ⟨x.r0, x.r0⟩) 0 = some (.inl ()) := k2
      rw [k2', Option.bind_some, oc_inl, awake_eq]; rfl
end Go.Proofs.Ws

namespace Go.Gx
open Go Go.Fw Go.RowKit
/-! ### arguments, as they come in -/
section
variable {H : Type} {enc : TypeId × Value → H} {P : Program} {w : World} {base : Nat} {sp : Nat → Bool} {held : Bool}
/-- what of this type comes in is, cell by cell, a value of this row -/
def Opens (enc : TypeId × Value → H) (P : Program) (w : World) (base : Nat) (sp : Nat → Bool) (held : Bool) {α : Type} (R : Row α) (wf : α → Prop) (t : TypeId) : Prop :=
  ∀ fuel cs x, DataW.trod enc P w base sp held fuel t cs = some x → ∃ a, cs = R.cells a ∧ wf a
def u8P (n : Int) : Prop := 0 ≤ n ∧ n ≤ 255
theorem wf_u8P {n : Int} (h : (Lit.int .u8 n).wf = true) : u8P n := by
  simp [Lit.wf, IntKind.min, IntKind.max, IntKind.signed, IntKind.bits] at h
  unfold u8P; omega
theorem opens_u8 {t : TypeId} (ht : P.underlying t = some (.int .u8)) : Opens enc P w base sp held RU8 u8P t := fun fuel cs x h => by
  obtain ⟨n, rfl, _, hw⟩ := DataW.trod_int ht h
  exact ⟨n, rfl, wf_u8P hw⟩
/-- a field of a struct, by its cells -/
theorem fieldAt {fs : Array Field} {t : TypeId} {fuel : Nat} {cs : List Value} {x : DataW H × List MemPlace} (ht : P.underlying t = some (.struct fs)) (h : DataW.trod enc P w base sp held fuel t cs = some x) {α : Type} {R : Row α} {wf : α → Prop} (i : Nat) {T o k : Nat}
    (hf : (fs[i]?).map (fun fd => (fd.type, fd.offset)) = some (T, o)) (hk : P.cellsOf T = k) (hR : Opens enc P w base sp held R wf T) : ∃ a, (cs.drop o).take k = R.cells a ∧ wf a := by
  obtain ⟨xs, n, rfl, _, hlen, hxl, hx⟩ := DataW.trod_struct ht h
  obtain ⟨fd, hfd, he⟩ : ∃ fd, fs[i]? = some fd ∧ (fd.type, fd.offset) = (T, o) := by
    cases hh : fs[i]? with
    | none => simp [hh] at hf
    | some fd => exact ⟨fd, rfl, by simpa [hh] using hf⟩
  simp only [Prod.mk.injEq] at he
  obtain ⟨rfl, rfl⟩ := he
  have h1 := hx i fd hfd
  rw [hk] at h1
  have hi : i < xs.length := by rw [hxl]; exact (Array.getElem?_eq_some_iff.1 hfd).1
  rw [List.getElem?_eq_getElem hi] at h1
  exact hR _ _ _ h1
/-- a slice that came in -/
structure SlIn {α : Type} (R : Row α) (wf : α → Prop) (w : World) (v : Value) (A : Option Addr) (n c : Nat) (l : List α) : Prop where
  val : v = .slice A n c
  len : l.length = n
  ok : AOK n A
  le : n ≤ c
  max : c ≤ maxLen
  seg : segOK w (aB A, aO A, R.enc l)
  wf : ∀ x, x ∈ l → wf x
theorem choose_list {α : Type} {p : Nat → α → Prop} : ∀ (n : Nat), (∀ i, i < n → ∃ a, p i a) → ∃ l : List α, l.length = n ∧ ∀ i (h : i < l.length), p i l[i]
  | 0, _ => ⟨[], rfl, fun i h => by simp at h⟩
  | n + 1, h => by
    obtain ⟨l, hl, hp⟩ := choose_list n (fun i hi => h i (by omega))
    obtain ⟨a, ha⟩ := h n (by omega)
    refine ⟨l ++ [a], by simp [hl], fun i hi => ?_⟩
    by_cases hil : i < l.length
    · rw [List.getElem_append_left hil]; exact hp i hil
    · have : i = l.length := by simp at hi; omega
      subst this
      rw [List.getElem_append_right (by omega)]
      simp only [Nat.sub_self, List.getElem_cons_zero]
      rw [hl]; exact ha
theorem openSl {α : Type} {R : Row α} {wf : α → Prop} {t e : TypeId} (ht : P.underlying t = some (.slice e)) (hc : P.cellsOf e = R.sz) (hR : Opens enc P w base sp held R wf e) (h0 : Nat.blt 0 R.sz = true)
    {fuel : Nat} {cs : List Value} {x : DataW H × List MemPlace} (h : DataW.trod enc P w base sp held fuel t cs = some x) : ∃ (v : Value) (A : Option Addr) (n c : Nat) (l : List α), cs = [v] ∧ SlIn R wf w v A n c l := by
  have hsz : 0 < R.sz := by simpa using h0
  rcases Go.Deep.open_slice ht h with ⟨rfl, _⟩ | ⟨a, len, cap, m, n, D, Pl, rfl, hb, hl, hm, hmm, _, hi⟩
  · exact ⟨_, none, 0, 0, [], rfl, rfl, rfl, AOK.nil, Nat.le_refl _, Nat.zero_le _, segOK.nil, by simp⟩
  · have hlm : len ≤ m := by rw [hmm]; split <;> omega
    have hcell : ∀ i, i < len → ∃ x : α, (∀ f (hf : f < (R.cells x).length), w.cell? (a.add (i * R.sz + f)) = some (R.cells x)[f]) ∧ wf x := fun i hil => by
      obtain ⟨cs', h1, h2⟩ := hi i (by omega)
      obtain ⟨x, rfl, hw⟩ := hR _ _ _ h2
      obtain ⟨_, _, hat⟩ := World.cells?_some h1
      refine ⟨x, fun f hf => ?_, hw⟩
      have := hat f (by rw [hc, ← R.len x]; exact hf)
      rw [hc] at this
      rw [List.getElem?_eq_getElem hf] at this
      have e : (a.add (i * R.sz)).add f = a.add (i * R.sz + f) := by
        unfold Addr.add
        by_cases h1 : i * R.sz = 0
        · simp [h1]
        · by_cases h2 : f = 0
          · simp [h2]
          · simp [h1, h2, Nat.add_assoc]
      rw [e] at this
      exact this
    obtain ⟨l, hll, hlp⟩ := choose_list len hcell
    have hspot : 0 < len → a.spot = none := fun h0 => by
      obtain ⟨x, hx, _⟩ := hcell 0 h0
      have := World.cell?_spot (hx 0 (by rw [R.len]; exact hsz))
      simpa [Addr.add] using this
    refine ⟨_, some a, len, cap, l, rfl, rfl, hll, fun h0 => ?_, hl, hm, fun j hj => ?_, fun x hx => ?_⟩
    · obtain ⟨b, o, s⟩ := a
      have := hspot h0
      simp only at this
      subst this
      exact ⟨b, o, rfl⟩
    · have hj' : j < l.length * R.sz := by rw [← R.enc_len]; exact hj
      have hpos : 0 < len := by
        rcases Nat.eq_zero_or_pos len with h | h
        · rw [hll, h, Nat.zero_mul] at hj'; omega
        · exact h
      obtain ⟨b, o, s⟩ := a
      have hs := hspot hpos
      simp only at hs
      subst hs
      have hq : j / R.sz < l.length := Nat.div_lt_of_lt_mul (by rw [Nat.mul_comm]; exact hj')
      have hr : j % R.sz < R.sz := Nat.mod_lt _ hsz
      have hd : j / R.sz * R.sz + j % R.sz = j := by rw [Nat.mul_comm]; exact Nat.div_add_mod j R.sz
      have h1 := (hlp (j / R.sz) hq).1 (j % R.sz) (by rw [R.len]; exact hr)
      rw [hd] at h1
      have h2 := R.enc_get l (j / R.sz) (j % R.sz) l[j / R.sz] (List.getElem?_eq_getElem hq) hr
      rw [hd] at h2
      have h3 : (⟨b, o, none⟩ : Addr).add j = ⟨b, o + j, none⟩ := addr_add b o j
      rw [h3] at h1
      simp only [aB, aO, Option.map_some, Option.getD_some]
      rw [h1, ← List.getElem?_eq_getElem, ← h2, List.getElem?_eq_getElem hj]
    · obtain ⟨i, hi', rfl⟩ := List.getElem_of_mem hx
      exact (hlp i hi').2
theorem HV.begin {ro : List Sg} (h : ∀ s, s ∈ ro → segOK w s) : HV w (keys [] []) [] [] ro w :=
  ⟨rfl, rfl, rfl, Nat.le_refl _, fun _ _ _ => rfl, by simp [vbl], by simp [vbl], by simp [vbl], h, by simp [vbl]⟩
theorem segCons {s : Sg} {ro : List Sg} (h : segOK w s) (hr : ∀ t, t ∈ ro → segOK w t) : ∀ t, t ∈ s :: ro → segOK w t := fun t ht => by
  rcases List.mem_cons.1 ht with rfl | ht
  · exact h
  · exact hr t ht
theorem segNil : ∀ t, t ∈ ([] : List Sg) → segOK w t := fun t ht => by cases ht
theorem HV.below {w' : World} (h : HV w (keys [] []) [] [] [] w') : Below w.heap.size w w' := by
  have : Ext [] w w' := HS.toExt h
  exact this.below
end
end Go.Gx

namespace Go.Proofs.Ws
open Go Go.Fw Go.Gx Go.RowKit
section
variable {H : Type} {enc : TypeId × Value → H} {w : World} {base : Nat} {sp : Nat → Bool} {held : Bool}
theorem opU8 : Opens enc Try.prog w base sp held RU8 u8P 5 := opens_u8 Try.underlying5
end
end Go.Proofs.Ws

