/- What the functions that the law StripTold reaches come to, and why it holds: part 6. -/
import Derived.Test.YtnkphlgohnlooaaStripTold5
namespace Go.Proofs.Ws
set_option maxHeartbeats 4000000
set_option maxRecDepth 100000
open Go Go.Fw Go.Gx Go.Sp
set_option linter.unusedVariables false

structure m_k_Pile_R where
  t5_1 : Int
  t5_2 : Int
def m_k_Pile (shells0 : (List Int)) : Option m_k_Pile_R :=
 some (⟨0, 0⟩ : m_k_Pile_R)
theorem c_k_Pile (shells0 : (List Int)) (qa0 : Option Addr) (na0 ca0 : Nat) (w : World) (hw : HV w (keys [] []) [] [] [(aB qa0, aO qa0, RU8.enc shells0)] w) (hna0 : shells0.length = na0) (hqa0 : AOK na0 qa0) (hla0 : na0 ≤ ca0) {res : m_k_Pile_R} (hm : m_k_Pile shells0 = some res) :
    Calls Try.prog 12 #[.slice qa0 na0 ca0] w (fun en w' => ∃ l : Nat, en = .returned (ptr l 0) ∧ (True) ∧ HV w (keys [] []) [(l, .cells #[.slice qa0 na0 ca0, .int .i64 res.t5_1, .int .u32 res.t5_2] 105 (0, 0))] [] [] w') := by
  unfold m_k_Pile at hm
  refine g_en Try.func12 rfl Try.ntmps12 rfl (e := [(0, _)]) rfl hw (g_sr (g_as rfl rfl (g_nx (g_mv rfl rfl (g_val rfl rfl rfl (fun _ _ => v_build (vs := [(0, _)]) (cells := [_, _, _]) rfl rfl) ?_)))))
  refine g_boxV rfl rfl (fun b h1 => ?_)
  refine g_as rfl rfl (g_nt (g_ret ?_))
  obtain rfl := sj hm
  refine g_done rfl (fun w hh => (.tmp rfl .nil)) (fun w hh => ⟨b, rfl, trivial, hh.se [0] [] 1 rfl rfl rfl rfl⟩)
structure m_k_Heap_pick_1_R where
  r0 : Int
  h0_1 : Int
  h0_2 : Int
structure m_k_Heap_pick_1_C1 where
  h0_1 : Int
  h0_2 : Int
def m_k_Heap_pick_1 (h00 : (List Int)) (h01 : Int) (h02 : Int) : Option m_k_Heap_pick_1_R :=
 (if h01 < (h00.length : Int) then
 ((ix h00 h01).bind fun t29 =>
 some (IntKind.u32.wrap ((IntKind.u32.wrap (40503 * (IntKind.u32.wrap (h02 + 1)))) + (IntKind.u32.wrap (331 * (IntKind.u32.wrap t29)))))) else
 (some (IntKind.u32.wrap (40503 * (IntKind.u32.wrap (h02 + 1)))))).bind fun o =>
 ((addc h01 1).bind fun t38 =>
 if (h00.length : Int) ≤ t38 then
 (some (⟨0, (IntKind.u32.wrap (h02 + 1))⟩ : m_k_Heap_pick_1_C1)) else
 (some (⟨t38, h02⟩ : m_k_Heap_pick_1_C1))).bind fun o_1 =>
 some (⟨(IntKind.i64.wrap (IntKind.u32.wrap (BitVec.ofInt IntKind.u32.bits (IntKind.u32.wrap (BitVec.ofInt IntKind.u32.bits o ^^^ BitVec.ofInt IntKind.u32.bits (Int.fdiv o (2 ^ min (Int.toNat 9) IntKind.u32.bits))).toNat) &&& BitVec.ofInt IntKind.u32.bits 32767).toNat)), o_1.h0_1, o_1.h0_2⟩ : m_k_Heap_pick_1_R)
theorem c_k_Heap_pick_1 (h00 : (List Int)) (h01 : Int) (h02 : Int) (pb : Nat) (qa0 : Option Addr) (na0 ca0 : Nat) (w : World) (hw : HV w (keys [(pb, .cells #[.slice qa0 na0 ca0, .int .i64 h01, .int .u32 h02] 105 (0, 0))] []) [(pb, .cells #[.slice qa0 na0 ca0, .int .i64 h01, .int .u32 h02] 105 (0, 0))] [] [(aB qa0, aO qa0, RU8.enc h00)] w) (hna0 : h00.length = na0) (hqa0 : AOK na0 qa0) (hla0 : na0 ≤ ca0) {res : m_k_Heap_pick_1_R} (hm : m_k_Heap_pick_1 h00 h01 h02 = some res) :
    Calls Try.prog 90 #[ptr pb 0] w (fun en w' => ∃ l : Unit, en = .returned (.int .i64 res.r0) ∧ (True) ∧ HV w (keys [(pb, .cells #[.slice qa0 na0 ca0, .int .i64 h01, .int .u32 h02] 105 (0, 0))] []) [(pb, .cells #[.slice qa0 na0 ca0, .int .i64 res.h0_1, .int .u32 res.h0_2] 105 (0, 0))] [] [] w') := by
  unfold m_k_Heap_pick_1 at hm
  refine g_en Try.func90 rfl Try.ntmps90 rfl (e := [(0, _)]) rfl hw (g_sr (g_as rfl rfl (g_nx (g_mv rfl rfl (g_val rfl rfl rfl (fun _ _ => v_nilCheck rfl) (g_fa 2 Try.runUnderlying105 rfl Try.sizeOf103 rfl rfl (g_lc 0 Try.isAgg103 rfl rfl rfl rfl ?_)))))))
  refine g_val rfl rfl rfl (fun _ _ => v_addW rfl rfl) (g_val rfl rfl rfl (fun _ _ => v_mulW rfl rfl) (g_as rfl rfl (g_nt (g_seq ?_))))
  obtain ⟨o, h1, h2⟩ := bindO hm
  refine g_cut (ι := Unit) (fun l => True) (fun l => [(0, ptr pb 0), (3, .int .u32 o)]) (fun l => [(pb, .cells #[.slice qa0 na0 ca0, .int .i64 h01, .int .u32 h02] 105 (0, 0))]) (fun l => []) ?_ ?_
  ·replace hm := h1
   refine g_seq ?_
   refine g_draw none (.free 0 (.free 1 (.free 2 (.hoist 3 (.free 4 (.free 5 (.free 6 (.hoist 7 (.free 8 (.free 9 .done)))))))))) _ rfl (by decide +kernel) (fun w k hh => hh.draw k) (fun w hh => hh) ?_
   refine p_mv rfl rfl rfl (p_free rfl rfl rfl rfl (fun _ _ => v_nilCheck rfl) (p_fa 1 Try.runUnderlying105 Try.sizeOf3 rfl rfl rfl rfl (p_lc 0 Try.isAgg3 rfl rfl rfl rfl rfl (p_mv rfl rfl rfl (p_free rfl rfl rfl rfl (fun _ _ => v_nilCheck rfl) (p_fa 0 Try.runUnderlying105 Try.sizeOf22 rfl rfl rfl rfl (p_lc 0 Try.isAgg22 rfl rfl rfl rfl rfl ?_)))))))
   refine p_free rfl rfl rfl rfl (fun w _ => v_lenR hna0 (Try.runUnderlying22 w) rfl) (p_free rfl rfl rfl rfl (fun _ _ => v_lss rfl rfl) (p_done (g_n_then ?_)))
   refine g_cond rfl (fun h3 => ?_) (fun h3 => ?_)
   ·replace hm := ifD h3 hm
    refine g_draw none (.free 0 (.free 1 (.free 2 (.free 3 (.hoist 4 (.free 5 (.free 6 (.free 7 (.hoist 8 (.free 9 (.hoist 10 (.free 11 (.free 12 (.free 13 (.free 14 .done))))))))))))))) _ rfl (by decide +kernel) (fun w k hh => hh.draw k) (fun w hh => hh) ?_
    refine p_mv rfl rfl rfl (p_mv rfl rfl rfl (p_free rfl rfl rfl rfl (fun _ _ => v_nilCheck rfl) (p_fa 0 Try.runUnderlying105 Try.sizeOf22 rfl rfl rfl rfl (p_lc 0 Try.isAgg22 rfl rfl rfl rfl rfl (p_mv rfl rfl rfl (p_free rfl rfl rfl rfl (fun _ _ => v_nilCheck rfl) (p_fa 1 Try.runUnderlying105 Try.sizeOf3 rfl rfl rfl rfl ?_)))))))
    refine p_lc 0 Try.isAgg3 rfl rfl rfl rfl rfl ?_
    obtain ⟨t29, h4, hm⟩ := bindO hm
    refine p_free rfl rfl rfl rfl (fun w _ => v_ixR h4 (Try.runUnderlying22 w) (Try.sizeOf5 w) rfl rfl hna0 hqa0) (p_hoist rfl rfl rfl rfl (fun w hh => v_ldE RU8 0 h4 (Try.isAgg5 w) rfl (hh.seg 0 rfl) rfl (Nat.add_zero _).symm) (p_free rfl rfl rfl rfl (fun w _ => v_conv (Try.runUnderlying5 w) (Try.runUnderlying103 w) rfl) (p_free rfl rfl rfl rfl (fun _ _ => v_mulW rfl rfl) (p_free rfl rfl rfl rfl (fun _ _ => v_addW rfl rfl) (p_free rfl rfl rfl rfl (fun _ _ => v_assign rfl) (p_done ?_))))))
    obtain rfl := sj hm
    exact g_leaf () (trivial) (sE rfl) (fun w hh => hh)
   ·replace hm := ifE h3 hm
    refine g_skip ?_
    obtain rfl := sj hm
    exact g_leaf () (trivial) (sE rfl) (fun w hh => hh)
  ·intro l hj
   replace hm := h2
   refine g_n_then (g_seq ?_)
   obtain ⟨o_1, h5, h6⟩ := bindO hm
   refine g_cut (ι := Unit) (fun l_1 => True) (fun l_1 => [(3, .int .u32 o)]) (fun l_1 => [(pb, .cells #[.slice qa0 na0 ca0, .int .i64 o_1.h0_1, .int .u32 o_1.h0_2] 105 (0, 0))]) (fun l_1 => []) ?_ ?_
   ·replace hm := h5
    refine g_sr (g_mv rfl rfl (g_val rfl rfl rfl (fun _ _ => v_nilCheck rfl) (g_fa 1 Try.runUnderlying105 rfl Try.sizeOf3 rfl rfl (g_lc 0 Try.isAgg3 rfl rfl rfl rfl ?_))))
    obtain ⟨t38, h7, hm⟩ := bindO hm
    refine g_ac h7 rfl rfl rfl (g_val rfl rfl rfl (fun _ _ => v_nilCheck rfl) (g_fa 1 Try.runUnderlying105 rfl Try.sizeOf3 rfl rfl (g_stS (cs' := #[_, _, _]) (S' := [_]) 0 (fun w => Try.sizeOf3 w) rfl rfl rfl rfl rfl rfl rfl (g_nt (g_seq ?_)))))
    refine g_draw none (.free 0 (.free 1 (.free 2 (.hoist 3 (.free 4 (.free 5 (.free 6 (.hoist 7 (.free 8 (.free 9 .done)))))))))) _ rfl (by decide +kernel) (fun w k hh => hh.draw k) (fun w hh => hh) ?_
    refine p_mv rfl rfl rfl (p_free rfl rfl rfl rfl (fun _ _ => v_nilCheck rfl) (p_fa 1 Try.runUnderlying105 Try.sizeOf3 rfl rfl rfl rfl (p_lc 0 Try.isAgg3 rfl rfl rfl rfl rfl (p_mv rfl rfl rfl (p_free rfl rfl rfl rfl (fun _ _ => v_nilCheck rfl) (p_fa 0 Try.runUnderlying105 Try.sizeOf22 rfl rfl rfl rfl (p_lc 0 Try.isAgg22 rfl rfl rfl rfl rfl ?_)))))))
    refine p_free rfl rfl rfl rfl (fun w _ => v_lenR hna0 (Try.runUnderlying22 w) rfl) (p_free rfl rfl rfl rfl (fun _ _ => v_geq rfl rfl) (p_done (g_n_then ?_)))
    refine g_cond rfl (fun h8 => ?_) (fun h8 => ?_)
    ·replace hm := ifD h8 hm
     refine g_region (g_mv rfl rfl (g_mv rfl rfl (g_mv rfl rfl (g_val rfl rfl rfl (fun _ _ => v_nilCheck rfl) (g_fa 2 Try.runUnderlying105 rfl Try.sizeOf103 rfl rfl (g_lc 0 Try.isAgg103 rfl rfl rfl rfl (g_val rfl rfl rfl (fun _ _ => v_addW rfl rfl) ?_)))))))
     refine g_val rfl rfl rfl (fun _ _ => v_nilCheck rfl) (g_fa 1 Try.runUnderlying105 rfl Try.sizeOf3 rfl rfl (g_stS (cs' := #[_, _, _]) (S' := [_]) 0 (fun w => Try.sizeOf3 w) rfl rfl rfl rfl rfl rfl rfl (g_val rfl rfl rfl (fun _ _ => v_nilCheck rfl) (g_fa 2 Try.runUnderlying105 rfl Try.sizeOf103 rfl rfl (g_stS (cs' := #[_, _, _]) (S' := [_]) 0 (fun w => Try.sizeOf103 w) rfl rfl rfl rfl rfl rfl rfl (g_nil ?_))))))
     obtain rfl := sj hm
     exact g_leaf () (trivial) (sE rfl) (fun w hh => hh)
    ·replace hm := ifE h8 hm
     refine g_skip ?_
     obtain rfl := sj hm
     exact g_leaf () (trivial) (sE rfl) (fun w hh => hh)
   ·intro l_1 hj
    replace hm := h6
    refine g_n_then (g_sr (g_mv rfl rfl (g_mv rfl rfl (g_val rfl rfl rfl (fun _ _ => v_shr rfl rfl (by decide)) (g_val rfl rfl rfl (fun _ _ => v_bits rfl rfl rfl) (g_val rfl rfl rfl (fun _ _ => v_bits rfl rfl rfl) (g_val rfl rfl rfl (fun w _ => v_conv (Try.runUnderlying103 w) (Try.runUnderlying3 w) rfl) ?_)))))))
    refine g_as rfl rfl (g_nt (g_ret ?_))
    obtain rfl := sj hm
    refine g_done rfl (fun w hh => (.tmp rfl .nil)) (fun w hh => ⟨(), rfl, trivial, hh.se [0] [] 1 rfl rfl rfl rfl⟩)
structure m_k_Heap_Upto_1_R where
  r0 : Int
  h0_1 : Int
  h0_2 : Int
def m_k_Heap_Upto_1 (h00 : (List Int)) (h01 : Int) (h02 : Int) (n1 : Int) : Option m_k_Heap_Upto_1_R :=
 (m_k_Heap_pick_1 h00 h01 h02).bind fun t6 =>
 (addc n1 1).bind fun t8 =>
 (remc t6.r0 (max 1 t8)).bind fun t10 =>
 some (⟨t10, t6.h0_1, t6.h0_2⟩ : m_k_Heap_Upto_1_R)
theorem c_k_Heap_Upto_1 (h00 : (List Int)) (h01 : Int) (h02 : Int) (n1 : Int) (pb : Nat) (qa0 : Option Addr) (na0 ca0 : Nat) (w : World) (hw : HV w (keys [(pb, .cells #[.slice qa0 na0 ca0, .int .i64 h01, .int .u32 h02] 105 (0, 0))] []) [(pb, .cells #[.slice qa0 na0 ca0, .int .i64 h01, .int .u32 h02] 105 (0, 0))] [] [(aB qa0, aO qa0, RU8.enc h00)] w) (hna0 : h00.length = na0) (hqa0 : AOK na0 qa0) (hla0 : na0 ≤ ca0) {res : m_k_Heap_Upto_1_R} (hm : m_k_Heap_Upto_1 h00 h01 h02 n1 = some res) :
    Calls Try.prog 33 #[ptr pb 0, .int .i64 n1] w (fun en w' => ∃ l : Unit, en = .returned (.int .i64 res.r0) ∧ (True) ∧ HV w (keys [(pb, .cells #[.slice qa0 na0 ca0, .int .i64 h01, .int .u32 h02] 105 (0, 0))] []) [(pb, .cells #[.slice qa0 na0 ca0, .int .i64 res.h0_1, .int .u32 res.h0_2] 105 (0, 0))] [] [] w') := by
  unfold m_k_Heap_Upto_1 at hm
  refine g_en Try.func33 rfl Try.ntmps33 rfl (e := [(0, _), (1, _)]) rfl hw (g_sr (g_as rfl rfl (g_nx (g_mv rfl rfl ?_))))
  obtain ⟨t6, h1, hm⟩ := bindO hm
  refine g_callH [_] [] rfl rfl rfl rfl rfl rfl rfl Try.call90 (fun w hh => c_k_Heap_pick_1 h00 h01 h02 pb qa0 na0 ca0 w (HV.callee (S0 := [_]) (vs0 := []) hh (roR hh 0 rfl roN)) hna0 hqa0 hla0 h1) (fun l h2 => ?_)
  refine g_se (S' := [_]) (vs' := []) [0] [] 0 rfl rfl rfl rfl (g_mv rfl rfl ?_)
  obtain ⟨t8, h3, hm⟩ := bindO hm
  refine g_ac h3 rfl rfl rfl (g_val rfl rfl rfl (fun _ _ => v_max rfl rfl) ?_)
  obtain ⟨t10, h4, hm⟩ := bindO hm
  refine g_val rfl rfl rfl (fun _ _ => v_remc h4 rfl rfl) (g_as rfl rfl (g_nt (g_ret ?_)))
  obtain rfl := sj hm
  refine g_done rfl (fun w hh => (.tmp rfl .nil)) (fun w hh => ⟨(), rfl, trivial, hh.se [0] [] 1 rfl rfl rfl rfl⟩)
structure m_k_Heap_From_1_R where
  r0 : Int
  h0_1 : Int
  h0_2 : Int
def m_k_Heap_From_1 (h00 : (List Int)) (h01 : Int) (h02 : Int) (lo1 : Int) (hi2 : Int) : Option m_k_Heap_From_1_R :=
 (subc hi2 lo1).bind fun t11 =>
 (m_k_Heap_Upto_1 h00 h01 h02 t11).bind fun t12 =>
 (addc lo1 t12.r0).bind fun t13 =>
 some (⟨t13, t12.h0_1, t12.h0_2⟩ : m_k_Heap_From_1_R)
theorem c_k_Heap_From_1 (h00 : (List Int)) (h01 : Int) (h02 : Int) (lo1 : Int) (hi2 : Int) (pb : Nat) (qa0 : Option Addr) (na0 ca0 : Nat) (w : World) (hw : HV w (keys [(pb, .cells #[.slice qa0 na0 ca0, .int .i64 h01, .int .u32 h02] 105 (0, 0))] []) [(pb, .cells #[.slice qa0 na0 ca0, .int .i64 h01, .int .u32 h02] 105 (0, 0))] [] [(aB qa0, aO qa0, RU8.enc h00)] w) (hna0 : h00.length = na0) (hqa0 : AOK na0 qa0) (hla0 : na0 ≤ ca0) {res : m_k_Heap_From_1_R} (hm : m_k_Heap_From_1 h00 h01 h02 lo1 hi2 = some res) :
    Calls Try.prog 42 #[ptr pb 0, .int .i64 lo1, .int .i64 hi2] w (fun en w' => ∃ l : Unit, en = .returned (.int .i64 res.r0) ∧ (True) ∧ HV w (keys [(pb, .cells #[.slice qa0 na0 ca0, .int .i64 h01, .int .u32 h02] 105 (0, 0))] []) [(pb, .cells #[.slice qa0 na0 ca0, .int .i64 res.h0_1, .int .u32 res.h0_2] 105 (0, 0))] [] [] w') := by
  unfold m_k_Heap_From_1 at hm
  refine g_en Try.func42 rfl Try.ntmps42 rfl (e := [(0, _), (1, _), (2, _)]) rfl hw (g_sr (g_as rfl rfl (g_nx (g_mv rfl rfl (g_mv rfl rfl (g_mv rfl rfl (g_mv rfl rfl ?_)))))))
  obtain ⟨t11, h1, hm⟩ := bindO hm
  refine g_val rfl rfl rfl (fun _ _ => v_subc h1 rfl rfl) ?_
  obtain ⟨t12, h2, hm⟩ := bindO hm
  refine g_callH [_] [] rfl rfl rfl rfl rfl rfl rfl Try.call33 (fun w hh => c_k_Heap_Upto_1 h00 h01 h02 t11 pb qa0 na0 ca0 w (HV.callee (S0 := [_]) (vs0 := []) hh (roR hh 0 rfl roN)) hna0 hqa0 hla0 h2) (fun l h3 => ?_)
  refine g_se (S' := [_]) (vs' := []) [0] [] 0 rfl rfl rfl rfl ?_
  obtain ⟨t13, h4, hm⟩ := bindO hm
  refine g_ac h4 rfl rfl rfl (g_as rfl rfl (g_nt (g_ret ?_)))
  obtain rfl := sj hm
  refine g_done rfl (fun w hh => (.tmp rfl .nil)) (fun w hh => ⟨(), rfl, trivial, hh.se [0] [] 1 rfl rfl rfl rfl⟩)
def m_l_reaches_L0 (s0 : Scalps) (tenant1 : Int) (which2 : Int) (s : Int) : Option (Int ⊕ (Unit ⊕ Bool)) :=
 if s < (s0.strips.length : Int) then
 ((ix s0.strips s).bind fun t15 =>
 (if t15.tenant = tenant1 then
 ((subc s which2).bind fun t24 =>
 (subc which2 s).bind fun t27 =>
 some (decide ((max t24 t27) < 2))) else
 (some false)).bind fun o_1 =>
 if o_1 = true then
 (some (.inr (.inr true))) else
 ((addc s 1).bind fun t31 =>
 some (.inl t31))) else
 (some (.inr (.inl ())))
def m_l_reaches (s0 : Scalps) (tenant1 : Int) (which2 : Int) : Option Bool :=
 (iterM FU (m_l_reaches_L0 s0 tenant1 which2) 0).bind fun o =>
 oc o (fun j => some false) (fun r_1 => some r_1)
theorem c_l_reaches (s0 : Scalps) (tenant1 : Int) (which2 : Int) (qa0 : Option Addr) (na0 ca0 : Nat) (qa1 : Option Addr) (na1 ca1 : Nat) (w : World) (hw : HV w (keys [] []) [] [] [(aB qa0, aO qa0, RSt.enc s0.strips), (aB qa1, aO qa1, RSp.enc s0.carried)] w) (hna0 : s0.strips.length = na0) (hqa0 : AOK na0 qa0) (hla0 : na0 ≤ ca0) (hna1 : s0.carried.length = na1) (hqa1 : AOK na1 qa1) (hla1 : na1 ≤ ca1) {res : Bool} (hm : m_l_reaches s0 tenant1 which2 = some res) :
    Calls Try.prog 43 #[.agg #[.slice qa0 na0 ca0, .slice qa1 na1 ca1], .int .i64 tenant1, .int .i64 which2] w (fun en w' => ∃ l : Unit, en = .returned (.bool res) ∧ (True) ∧ HV w (keys [] []) [] [] [] w') := by
  unfold m_l_reaches at hm
  refine g_en Try.func43 rfl Try.ntmps43 rfl (e := [(0, _), (1, _), (2, _)]) rfl hw (g_sr ?_)
  refine g_boxV rfl rfl (fun b h1 => ?_)
  refine g_as rfl rfl (g_nt (g_seq (g_sr (g_fa 0 Try.runUnderlying28 rfl Try.sizeOf25 rfl rfl (g_lc 0 Try.isAgg25 rfl rfl rfl rfl (g_val rfl rfl rfl (fun w _ => v_lenR hna0 (Try.runUnderlying25 w) rfl) (g_mv rfl rfl ?_)))))))
  refine g_nt ?_
  obtain ⟨o, h2, h3⟩ := bindO hm
  refine g_cut (ι := Unit) (fun j => o = .inl j) (fun j => []) (fun j => [(b, .cells #[.slice qa0 na0 ca0, .slice qa1 na1 ca1] 28 (0, 0))]) (fun j => []) ?_ ?_
  ·replace hm := h2
   refine g_block ?_
   refine g_loopF (ι := Unit) hm (fun s l => True) (fun s l => [(1, .int .i64 tenant1), (2, .int .i64 which2), (10, .slice qa0 na0 ca0), (11, .int .i64 (s0.strips.length : Int)), (12, .int .i64 s)]) (fun s l => [(b, .cells #[.slice qa0 na0 ca0, .slice qa1 na1 ca1] 28 (0, 0))]) (fun s l => []) () (trivial) (sE rfl) (fun w hh => hh) (fun s l r hpl hm h4 => ?_)
   unfold m_l_reaches_L0 at hm
   refine g_sr (g_ls rfl rfl rfl (g_nt (g_seq ?_)))
   refine g_cond rfl (fun h5 => ?_) (fun h5 => ?_)
   ·replace hm := ifD h5 hm
    refine g_skip (g_n_then (g_seq (g_block (g_sr (g_mv rfl rfl ?_)))))
    obtain ⟨t15, h6, hm⟩ := bindO hm
    refine g_val rfl rfl rfl (fun w _ => v_ixR h6 (Try.runUnderlying25 w) (Try.sizeOf77 w) rfl rfl hna0 hqa0) ?_
    refine g_val rfl rfl rfl (fun w hh => v_ldEA RSt 0 [.int .i64 t15.tenant, .int .i64 t15.lay.lo, .int .i64 t15.lay.hi, .int .i64 t15.seeded.lo, .int .i64 t15.seeded.hi, .int .i64 t15.left.lo, .int .i64 t15.left.hi] h6 (Try.isAgg77 w) (Try.sizeOf77 w) rfl (hh.seg 0 rfl) rfl (Nat.add_zero _).symm) ?_
    refine g_allocV (fun w => Try.zeroValue77 w) rfl (fun b_1 h7 => ?_)
    refine g_as rfl rfl (g_stSA (us := #[_, _, _, _, _, _, _]) (cs' := [_, _, _, _, _, _, _]) (S' := [_, _]) 0 (fun w => Try.sizeOf77 w) rfl rfl rfl rfl rfl rfl rfl (g_nt (g_seq ?_)))
    obtain ⟨o_1, h8, h9⟩ := bindO hm
    refine g_cut (ι := Unit) (fun l_1 => True) (fun l_1 => [(1, .int .i64 tenant1), (2, .int .i64 which2), (10, .slice qa0 na0 ca0), (11, .int .i64 (s0.strips.length : Int)), (12, .int .i64 s), (30, .bool o_1)]) (fun l_1 => [(b_1, .cells #[.int .i64 t15.tenant, .int .i64 t15.lay.lo, .int .i64 t15.lay.hi, .int .i64 t15.seeded.lo, .int .i64 t15.seeded.hi, .int .i64 t15.left.lo, .int .i64 t15.left.hi] 77 (0, 0)), (b, .cells #[.slice qa0 na0 ca0, .slice qa1 na1 ca1] 28 (0, 0))]) (fun l_1 => []) ?_ ?_
    ·replace hm := h8
     refine g_region (g_fa 0 Try.runUnderlying77 rfl Try.sizeOf3 rfl rfl (g_lc 0 Try.isAgg3 rfl rfl rfl rfl (g_mv rfl rfl (g_val rfl rfl rfl (fun _ _ => v_eql rfl rfl) (g_mv rfl rfl ?_)))))
     refine g_case 21 rfl (fun h10 => ?_) (fun h10 => ?_)
     ·replace hm := ifD h10 hm
      refine v_unguard rfl rfl (g_mv rfl rfl (v_unguard rfl rfl (g_mv rfl rfl (v_unguard rfl rfl ?_))))
      obtain ⟨t24, h11, hm⟩ := bindO hm
      refine g_val rfl rfl rfl (fun _ _ => v_subc h11 rfl rfl) (v_unguard rfl rfl (g_mv rfl rfl (v_unguard rfl rfl (g_mv rfl rfl (v_unguard rfl rfl ?_)))))
      obtain ⟨t27, h12, hm⟩ := bindO hm
      refine g_val rfl rfl rfl (fun _ _ => v_subc h12 rfl rfl) (v_unguard rfl rfl (g_val rfl rfl rfl (fun _ _ => v_max rfl rfl) (v_unguard rfl rfl (g_ls rfl rfl rfl (g_pt rfl rfl rfl (g_nil ?_))))))
      obtain rfl := sj hm
      exact g_leaf () (trivial) (sE rfl) (fun w hh => hh)
     ·replace hm := ifE h10 hm
      refine g_k rfl rfl rfl rfl (g_k rfl rfl rfl rfl (g_k rfl rfl rfl rfl (g_k rfl rfl rfl rfl (g_k rfl rfl rfl rfl (g_k rfl rfl rfl rfl (g_k rfl rfl rfl rfl (g_k rfl rfl rfl rfl ?_)))))))
      refine g_pf rfl rfl rfl (g_nil ?_)
      obtain rfl := sj hm
      exact g_leaf () (trivial) (sE rfl) (fun w hh => hh)
    ·intro l_1 hj
     replace hm := h9
     refine g_n_then ?_
     refine g_cond rfl (fun h13 => ?_) (fun h13 => ?_)
     ·replace hm := ifT (h13) hm
      refine g_sr (g_as rfl rfl (g_nt (g_ret (g_r_blk (g_r_then (g_r_then (g_r_blk ?_)))))))
      obtain rfl := sj hm
      have hbo := h4 _ rfl
      subst hbo
      refine g_r_then ?_
      replace hm := ocR h3
      refine g_r_then ?_
      obtain rfl := sj hm
      refine g_done rfl (fun w hh => (.tmp rfl .nil)) (fun w hh => ⟨(), rfl, trivial, hh.se [] [] 2 rfl rfl rfl rfl⟩)
     ·replace hm := ifN h13 hm
      refine g_skip (g_n_blk (g_n_then (g_region ?_)))
      obtain ⟨t31, h14, hm⟩ := bindO hm
      refine g_ac h14 rfl rfl rfl (g_mv rfl rfl (g_nil ?_))
      obtain rfl := sj hm
      refine g_n_then ?_
      exact g_again' _ () rfl (trivial) (sE rfl) (hsE [1] [] 0 rfl rfl rfl rfl)
   ·replace hm := ifE h5 hm
    refine g_exit (g_x_then (g_x_then (g_x_blk ?_)))
    obtain rfl := sj hm
    have hbo := h4 _ rfl
    subst hbo
    exact g_leaf () (rfl) (.nil) (fun w hh => hh)
  ·intro j hj
   have h15 := hj
   subst h15
   replace hm := ocL h3
   refine g_n_then (g_sr (g_as rfl rfl (g_nt (g_ret ?_))))
   obtain rfl := sj hm
   refine g_done rfl (fun w hh => (.tmp rfl .nil)) (fun w hh => ⟨(), rfl, trivial, hh.se [] [] 2 rfl rfl rfl rfl⟩)
structure m_k_Heap_Once_1_R where
  r0 : Bool
  h0_1 : Int
  h0_2 : Int
def m_k_Heap_Once_1 (h00 : (List Int)) (h01 : Int) (h02 : Int) (n1 : Int) : Option m_k_Heap_Once_1_R :=
 (subc n1 1).bind fun t7 =>
 (m_k_Heap_Upto_1 h00 h01 h02 t7).bind fun t8 =>
 some (⟨(decide (t8.r0 = 0)), t8.h0_1, t8.h0_2⟩ : m_k_Heap_Once_1_R)
theorem c_k_Heap_Once_1 (h00 : (List Int)) (h01 : Int) (h02 : Int) (n1 : Int) (pb : Nat) (qa0 : Option Addr) (na0 ca0 : Nat) (w : World) (hw : HV w (keys [(pb, .cells #[.slice qa0 na0 ca0, .int .i64 h01, .int .u32 h02] 105 (0, 0))] []) [(pb, .cells #[.slice qa0 na0 ca0, .int .i64 h01, .int .u32 h02] 105 (0, 0))] [] [(aB qa0, aO qa0, RU8.enc h00)] w) (hna0 : h00.length = na0) (hqa0 : AOK na0 qa0) (hla0 : na0 ≤ ca0) {res : m_k_Heap_Once_1_R} (hm : m_k_Heap_Once_1 h00 h01 h02 n1 = some res) :
    Calls Try.prog 34 #[ptr pb 0, .int .i64 n1] w (fun en w' => ∃ l : Unit, en = .returned (.bool res.r0) ∧ (True) ∧ HV w (keys [(pb, .cells #[.slice qa0 na0 ca0, .int .i64 h01, .int .u32 h02] 105 (0, 0))] []) [(pb, .cells #[.slice qa0 na0 ca0, .int .i64 res.h0_1, .int .u32 res.h0_2] 105 (0, 0))] [] [] w') := by
  unfold m_k_Heap_Once_1 at hm
  refine g_en Try.func34 rfl Try.ntmps34 rfl (e := [(0, _), (1, _)]) rfl hw (g_sr (g_as rfl rfl (g_nx (g_mv rfl rfl (g_mv rfl rfl ?_)))))
  obtain ⟨t7, h1, hm⟩ := bindO hm
  refine g_val rfl rfl rfl (fun _ _ => v_subc h1 rfl rfl) ?_
  obtain ⟨t8, h2, hm⟩ := bindO hm
  refine g_callH [_] [] rfl rfl rfl rfl rfl rfl rfl Try.call33 (fun w hh => c_k_Heap_Upto_1 h00 h01 h02 t7 pb qa0 na0 ca0 w (HV.callee (S0 := [_]) (vs0 := []) hh (roR hh 0 rfl roN)) hna0 hqa0 hla0 h2) (fun l h3 => ?_)
  refine g_se (S' := [_]) (vs' := []) [0] [] 0 rfl rfl rfl rfl (g_val rfl rfl rfl (fun _ _ => v_eql rfl rfl) (g_as rfl rfl (g_nt (g_ret ?_))))
  obtain rfl := sj hm
  refine g_done rfl (fun w hh => (.tmp rfl .nil)) (fun w hh => ⟨(), rfl, trivial, hh.se [0] [] 1 rfl rfl rfl rfl⟩)
structure m_l_around_1_R where
  r0 : Span
  b0_1 : Int
  b0_2 : Int
def m_l_around_1 (b00 : (List Int)) (b01 : Int) (b02 : Int) (n1 : Int) (wider2 : Int) : Option m_l_around_1_R :=
 (m_k_Heap_Upto_1 b00 b01 b02 wider2).bind fun t10 =>
 (subc n1 t10.r0).bind fun t11 =>
 (m_k_Heap_Upto_1 b00 t10.h0_1 t10.h0_2 wider2).bind fun t16 =>
 (addc n1 t16.r0).bind fun t17 =>
 some (⟨(⟨(max 0 t11), (min 30 t17)⟩ : Span), t16.h0_1, t16.h0_2⟩ : m_l_around_1_R)
theorem c_l_around_1 (b00 : (List Int)) (b01 : Int) (b02 : Int) (n1 : Int) (wider2 : Int) (pb : Nat) (qa0 : Option Addr) (na0 ca0 : Nat) (w : World) (hw : HV w (keys [(pb, .cells #[.slice qa0 na0 ca0, .int .i64 b01, .int .u32 b02] 105 (0, 0))] []) [(pb, .cells #[.slice qa0 na0 ca0, .int .i64 b01, .int .u32 b02] 105 (0, 0))] [] [(aB qa0, aO qa0, RU8.enc b00)] w) (hna0 : b00.length = na0) (hqa0 : AOK na0 qa0) (hla0 : na0 ≤ ca0) {res : m_l_around_1_R} (hm : m_l_around_1 b00 b01 b02 n1 wider2 = some res) :
    Calls Try.prog 35 #[ptr pb 0, .int .i64 n1, .int .i64 wider2] w (fun en w' => ∃ l : Unit, en = .returned (.agg #[.int .i64 res.r0.lo, .int .i64 res.r0.hi]) ∧ (True) ∧ HV w (keys [(pb, .cells #[.slice qa0 na0 ca0, .int .i64 b01, .int .u32 b02] 105 (0, 0))] []) [(pb, .cells #[.slice qa0 na0 ca0, .int .i64 res.b0_1, .int .u32 res.b0_2] 105 (0, 0))] [] [] w') := by
  unfold m_l_around_1 at hm
  refine g_en Try.func35 rfl Try.ntmps35 rfl (e := [(0, _), (1, _), (2, _)]) rfl hw (g_sr ?_)
  refine g_allocV (fun w => Try.zeroValue37 w) rfl (fun b h1 => ?_)
  refine g_nx (g_mv rfl rfl (g_mv rfl rfl (g_mv rfl rfl ?_)))
  obtain ⟨t10, h2, hm⟩ := bindO hm
  refine g_se (S' := [_, _]) (vs' := []) [1, 0] [] 0 rfl rfl rfl rfl ?_
  refine g_callH [_] [] rfl rfl rfl rfl rfl rfl rfl Try.call33 (fun w hh => c_k_Heap_Upto_1 b00 b01 b02 wider2 pb qa0 na0 ca0 w (HV.callee (S0 := [_]) (vs0 := []) hh (roR hh 0 rfl roN)) hna0 hqa0 hla0 h2) (fun l h3 => ?_)
  refine g_se (S' := [_, _]) (vs' := []) [0, 1] [] 0 rfl rfl rfl rfl ?_
  obtain ⟨t11, h4, hm⟩ := bindO hm
  refine g_val rfl rfl rfl (fun _ _ => v_subc h4 rfl rfl) (g_val rfl rfl rfl (fun _ _ => v_max rfl rfl) (g_mv rfl rfl (g_mv rfl rfl (g_mv rfl rfl ?_))))
  obtain ⟨t16, h5, hm⟩ := bindO hm
  refine g_callH [_] [] rfl rfl rfl rfl rfl rfl rfl Try.call33 (fun w hh => c_k_Heap_Upto_1 b00 t10.h0_1 t10.h0_2 wider2 pb qa0 na0 ca0 w (HV.callee (S0 := [_]) (vs0 := []) hh (roR hh 0 rfl roN)) hna0 hqa0 hla0 h5) (fun l_1 h6 => ?_)
  refine g_se (S' := [_, _]) (vs' := []) [0, 1] [] 0 rfl rfl rfl rfl ?_
  obtain ⟨t17, h7, hm⟩ := bindO hm
  refine g_ac h7 rfl rfl rfl (g_val rfl rfl rfl (fun _ _ => v_min rfl rfl) (g_val rfl rfl rfl (fun _ _ => v_build (vs := [(0, _), (1, _)]) (cells := [_, _]) rfl rfl) (g_stSA (us := #[_, _]) (cs' := [_, _]) (S' := [_, _]) 1 (fun w => Try.sizeOf37 w) rfl rfl rfl rfl rfl rfl rfl (g_nt (g_ret ?_)))))
  obtain rfl := sj hm
  refine g_done rfl (fun w hh => (.cell rfl (loadVar_agg (vs := [_, _]) (Try.isAgg37 _) (Try.sizeOf37 _) (hh.cells 1 rfl rfl)) .nil)) (fun w hh => ⟨(), rfl, trivial, hh.se [0] [] 1 rfl rfl rfl rfl⟩)
structure m_l_Made_1_R where
  r0 : Scalps
  b0_1 : Int
  b0_2 : Int
  r1 : (List (List Int))
structure m_l_Made_1_C0 where
  b0_1 : Int
  b0_2 : Int
  s8_strips : (List Strip)
structure m_l_Made_1_S0 where
  t29 : Int
  b0_1 : Int
  b0_2 : Int
  s8_strips : (List Strip)
def m_l_Made_1_L0 (t24 : m_k_Heap_From_1_R) (t27 : m_k_Heap_From_1_R) (b00 : (List Int)) (s : m_l_Made_1_S0) : Option (m_l_Made_1_S0 ⊕ m_l_Made_1_C0) :=
 if s.t29 < t24.r0 then
 ((subc t27.r0 1).bind fun t35 =>
 (m_k_Heap_Upto_1 b00 s.b0_1 s.b0_2 t35).bind fun t36 =>
 (appc 56 s.s8_strips [(⟨t36.r0, (⟨0, 0⟩ : Span), (⟨0, 0⟩ : Span), (⟨0, 0⟩ : Span)⟩ : Strip)]).bind fun t39 =>
 (addc s.t29 1).bind fun t41 =>
 some (.inl (⟨t41, t36.h0_1, t36.h0_2, t39⟩ : m_l_Made_1_S0))) else
 (some (.inr (⟨s.b0_1, s.b0_2, s.s8_strips⟩ : m_l_Made_1_C0)))
structure m_l_Made_1_C1 where
  b0_1 : Int
  b0_2 : Int
  real11 : (List (List Int))
  s8_carried : (List Span)
structure m_l_Made_1_S1 where
  t46 : Int
  b0_1 : Int
  b0_2 : Int
  real11 : (List (List Int))
  s8_carried : (List Span)
structure m_l_Made_1_C2 where
  sum13 : Int
  b0_1 : Int
  b0_2 : Int
  real11 : (List (List Int))
structure m_l_Made_1_S2 where
  sum13 : Int
  t50 : Int
  b0_1 : Int
  b0_2 : Int
  real11 : (List (List Int))
structure m_l_Made_1_C3 where
  n15 : Int
  b0_1 : Int
  b0_2 : Int
structure m_l_Made_1_C4 where
  t70 : Bool
  b0_1 : Int
  b0_2 : Int
def m_l_Made_1_L2 (t24 : m_k_Heap_From_1_R) (o : m_l_Made_1_C0) (s_1 : m_l_Made_1_S1) (b00 : (List Int)) (s_2 : m_l_Made_1_S2) : Option (m_l_Made_1_S2 ⊕ m_l_Made_1_C2) :=
 if s_2.t50 < t24.r0 then
 ((((m_l_reaches (⟨o.s8_strips, s_1.s8_carried⟩ : Scalps) s_1.t46 s_2.t50).bind fun t56 =>
 if t56 = true then
 ((ix o.s8_strips s_2.t50).bind fun t61 =>
 if t61.tenant = s_1.t46 then
 (some (⟨true, s_2.b0_1, s_2.b0_2⟩ : m_l_Made_1_C4)) else
 ((m_k_Heap_Once_1 b00 s_2.b0_1 s_2.b0_2 4).bind fun t68 =>
 some (⟨t68.r0, t68.h0_1, t68.h0_2⟩ : m_l_Made_1_C4))) else
 (some (⟨false, s_2.b0_1, s_2.b0_2⟩ : m_l_Made_1_C4))).bind fun o_4 =>
 if o_4.t70 = true then
 ((m_k_Heap_Upto_1 b00 o_4.b0_1 o_4.b0_2 4).bind fun t72 =>
 some (⟨t72.r0, t72.h0_1, t72.h0_2⟩ : m_l_Made_1_C3)) else
 (some (⟨0, o_4.b0_1, o_4.b0_2⟩ : m_l_Made_1_C3))).bind fun o_3 =>
 (ix s_2.real11 s_1.t46).bind fun t77 =>
 (appc 8 t77 [o_3.n15]).bind fun t81 =>
 (addc s_2.sum13 o_3.n15).bind fun t84 =>
 (ix s_2.real11 s_1.t46).bind fun t85 =>
 (some (s_2.real11.set (Int.toNat s_1.t46) t81)).bind fun real11 =>
 (addc s_2.t50 1).bind fun t86 =>
 some (.inl (⟨t84, t86, o_3.b0_1, o_3.b0_2, real11⟩ : m_l_Made_1_S2))) else
 (some (.inr (⟨s_2.sum13, s_2.b0_1, s_2.b0_2, s_2.real11⟩ : m_l_Made_1_C2)))
def m_l_Made_1_L1 (t43 : (List (List Int))) (t24 : m_k_Heap_From_1_R) (o : m_l_Made_1_C0) (b00 : (List Int)) (s_1 : m_l_Made_1_S1) : Option (m_l_Made_1_S1 ⊕ m_l_Made_1_C1) :=
 if s_1.t46 < (t43.length : Int) then
 ((iterM FU (m_l_Made_1_L2 t24 o s_1 b00) (⟨0, 0, s_1.b0_1, s_1.b0_2, s_1.real11⟩ : m_l_Made_1_S2)).bind fun o_2 =>
 (m_l_around_1 b00 o_2.b0_1 o_2.b0_2 o_2.sum13 2).bind fun t91 =>
 (appc 16 s_1.s8_carried [t91.r0]).bind fun t93 =>
 (addc s_1.t46 1).bind fun t95 =>
 some (.inl (⟨t95, t91.b0_1, t91.b0_2, o_2.real11, t93⟩ : m_l_Made_1_S1))) else
 (some (.inr (⟨s_1.b0_1, s_1.b0_2, s_1.real11, s_1.s8_carried⟩ : m_l_Made_1_C1)))
structure m_l_Made_1_C5 where
  b0_1 : Int
  b0_2 : Int
  s8_strips : (List Strip)
structure m_l_Made_1_S3 where
  t97 : Int
  b0_1 : Int
  b0_2 : Int
  s8_strips : (List Strip)
structure m_l_Made_1_S4 where
  gone17 : Int
  t102 : Int
def m_l_Made_1_L4 (o_1 : m_l_Made_1_C1) (s_3 : m_l_Made_1_S3) (s_4 : m_l_Made_1_S4) : Option (m_l_Made_1_S4 ⊕ Int) :=
 if s_4.t102 < (o_1.real11.length : Int) then
 ((ix o_1.real11 s_4.t102).bind fun t108 =>
 (ix t108 s_3.t97).bind fun t111 =>
 (addc s_4.gone17 t111).bind fun t113 =>
 (addc s_4.t102 1).bind fun t114 =>
 some (.inl (⟨t113, t114⟩ : m_l_Made_1_S4))) else
 (some (.inr s_4.gone17))
def m_l_Made_1_L3 (t24 : m_k_Heap_From_1_R) (o_1 : m_l_Made_1_C1) (b00 : (List Int)) (s_3 : m_l_Made_1_S3) : Option (m_l_Made_1_S3 ⊕ m_l_Made_1_C5) :=
 if s_3.t97 < t24.r0 then
 ((iterM FU (m_l_Made_1_L4 o_1 s_3) (⟨0, 0⟩ : m_l_Made_1_S4)).bind fun o_6 =>
 (m_k_Heap_Upto_1 b00 s_3.b0_1 s_3.b0_2 3).bind fun t116 =>
 (m_k_Heap_Upto_1 b00 t116.h0_1 t116.h0_2 2).bind fun t118 =>
 (addc o_6 t116.r0).bind fun t121 =>
 (ix s_3.s8_strips s_3.t97).bind fun t126 =>
 (addc o_6 t116.r0).bind fun t133 =>
 (subc t133 (min t118.r0 t121)).bind fun t135 =>
 (m_l_around_1 b00 t118.h0_1 t118.h0_2 t135 1).bind fun t136 =>
 (m_l_around_1 b00 t136.b0_1 t136.b0_2 (min t118.r0 t121) 1).bind fun t139 =>
 (m_l_around_1 b00 t139.b0_1 t139.b0_2 t116.r0 1).bind fun t142 =>
 (some (s_3.s8_strips.set (Int.toNat s_3.t97) (⟨t126.tenant, t136.r0, t126.seeded, t126.left⟩ : Strip))).bind fun s8_strips =>
 (ix s8_strips s_3.t97).bind fun x =>
 (some (s8_strips.set (Int.toNat s_3.t97) (⟨x.tenant, x.lay, t139.r0, x.left⟩ : Strip))).bind fun s8_strips_1 =>
 (ix s8_strips_1 s_3.t97).bind fun x_1 =>
 (some (s8_strips_1.set (Int.toNat s_3.t97) (⟨x_1.tenant, x_1.lay, x_1.seeded, t142.r0⟩ : Strip))).bind fun s8_strips_2 =>
 (addc s_3.t97 1).bind fun t149 =>
 some (.inl (⟨t149, t142.b0_1, t142.b0_2, s8_strips_2⟩ : m_l_Made_1_S3))) else
 (some (.inr (⟨s_3.b0_1, s_3.b0_2, s_3.s8_strips⟩ : m_l_Made_1_C5)))
def m_l_Made_1 (b00 : (List Int)) (b01 : Int) (b02 : Int) (strips1 : Int) (tenants2 : Int) : Option m_l_Made_1_R :=
 (m_k_Heap_From_1 b00 b01 b02 1 strips1).bind fun t24 =>
 (m_k_Heap_From_1 b00 t24.h0_1 t24.h0_2 1 tenants2).bind fun t27 =>
 (iterM FU (m_l_Made_1_L0 t24 t27 b00) (⟨0, t27.h0_1, t27.h0_2, []⟩ : m_l_Made_1_S0)).bind fun o =>
 (makec 24 ([] : (List Int)) t27.r0 t27.r0).bind fun t43 =>
 (iterM FU (m_l_Made_1_L1 t43 t24 o b00) (⟨0, o.b0_1, o.b0_2, t43, []⟩ : m_l_Made_1_S1)).bind fun o_1 =>
 (iterM FU (m_l_Made_1_L3 t24 o_1 b00) (⟨0, o_1.b0_1, o_1.b0_2, o.s8_strips⟩ : m_l_Made_1_S3)).bind fun o_5 =>
 some (⟨(⟨o_5.s8_strips, o_1.s8_carried⟩ : Scalps), o_5.b0_1, o_5.b0_2, o_1.real11⟩ : m_l_Made_1_R)
theorem c_l_Made_1 (b00 : (List Int)) (b01 : Int) (b02 : Int) (strips1 : Int) (tenants2 : Int) (pb : Nat) (qa0 : Option Addr) (na0 ca0 : Nat) (w : World) (hw : HV w (keys [(pb, .cells #[.slice qa0 na0 ca0, .int .i64 b01, .int .u32 b02] 105 (0, 0))] []) [(pb, .cells #[.slice qa0 na0 ca0, .int .i64 b01, .int .u32 b02] 105 (0, 0))] [] [(aB qa0, aO qa0, RU8.enc b00)] w) (hna0 : b00.length = na0) (hqa0 : AOK na0 qa0) (hla0 : na0 ≤ ca0) {res : m_l_Made_1_R} (hm : m_l_Made_1 b00 b01 b02 strips1 tenants2 = some res) :
    Calls Try.prog 13 #[ptr pb 0, .int .i64 strips1, .int .i64 tenants2] w (fun en w' => ∃ l : VL × VL × DL, en = .returned (.tuple #[.agg #[slv l.1.q l.1.n l.1.cap, slv l.2.1.q l.2.1.n l.2.1.cap], slv l.2.2.v.q l.2.2.v.n l.2.2.v.cap]) ∧ (VOK 7 l.1.n l.1.cap (RSt.enc res.r0.strips) l.1.sp l.1.q ∧ VOK 2 l.2.1.n l.2.1.cap (RSp.enc res.r0.carried) l.2.1.sp l.2.1.q ∧ VOK 1 l.2.2.v.n l.2.2.v.cap (RwH.enc l.2.2.rs) l.2.2.v.sp l.2.2.v.q ∧ DOK RI res.r1 l.2.2.rs) ∧ HV w (keys [(pb, .cells #[.slice qa0 na0 ca0, .int .i64 b01, .int .u32 b02] 105 (0, 0))] []) [(pb, .cells #[.slice qa0 na0 ca0, .int .i64 res.b0_1, .int .u32 res.b0_2] 105 (0, 0))] [⟨77, RSt.enc res.r0.strips, l.1.sp, l.1.q, []⟩, ⟨37, RSp.enc res.r0.carried, l.2.1.sp, l.2.1.q, []⟩, ⟨32, RwH.enc l.2.2.rs, l.2.2.v.sp, l.2.2.v.q, dbl 3 RI res.r1 l.2.2.rs⟩] [] w') := by
  unfold m_l_Made_1 at hm
  refine g_en Try.func13 rfl Try.ntmps13 rfl (e := [(0, _), (1, _), (2, _)]) rfl hw (g_sr ?_)
  refine g_allocV (fun w => Try.zeroValue28 w) rfl (fun b h5 => ?_)
  refine g_val rfl rfl rfl (fun _ _ => v_nilS rfl) (g_nx ?_)
  refine g_allocV (fun w => Try.zeroValue28 w) rfl (fun b_1 h6 => ?_)
  refine g_nx (g_mv rfl rfl (g_mv rfl rfl ?_))
  obtain ⟨t24, h7, hm⟩ := bindO hm
  refine g_se (S' := [_, _, _]) (vs' := []) [2, 0, 1] [] 0 rfl rfl rfl rfl ?_
  refine g_callH [_] [] rfl rfl rfl rfl rfl rfl rfl Try.call42 (fun w hh => c_k_Heap_From_1 b00 b01 b02 1 strips1 pb qa0 na0 ca0 w (HV.callee (S0 := [_]) (vs0 := []) hh (roR hh 0 rfl roN)) hna0 hqa0 hla0 h7) (fun l h8 => ?_)
  refine g_se (S' := [_, _, _]) (vs' := []) [0, 1, 2] [] 0 rfl rfl rfl rfl (g_mv rfl rfl (g_mv rfl rfl ?_))
  obtain ⟨t27, h9, hm⟩ := bindO hm
  refine g_callH [_] [] rfl rfl rfl rfl rfl rfl rfl Try.call42 (fun w hh => c_k_Heap_From_1 b00 t24.h0_1 t24.h0_2 1 tenants2 pb qa0 na0 ca0 w (HV.callee (S0 := [_]) (vs0 := []) hh (roR hh 0 rfl roN)) hna0 hqa0 hla0 h9) (fun l_1 h10 => ?_)
  refine g_se (S' := [_, _, _]) (vs' := []) [0, 1, 2] [] 0 rfl rfl rfl rfl (g_as rfl rfl (g_as rfl rfl (g_nt (g_seq (g_sr (g_mv rfl rfl (g_mv rfl rfl ?_)))))))
  refine g_nt (g_vnil 77 ?_)
  obtain ⟨o, h11, h12⟩ := bindO hm
  refine g_cut (ι := VL) (fun l_2 => VOK 7 l_2.n l_2.cap (RSt.enc o.s8_strips) l_2.sp l_2.q) (fun l_2 => [(0, ptr pb 0), (6, ptr b 0), (8, ptr b_1 0), (9, .int .i64 t24.r0), (10, .int .i64 t27.r0)]) (fun l_2 => [(pb, .cells #[.slice qa0 na0 ca0, .int .i64 o.b0_1, .int .u32 o.b0_2] 105 (0, 0)), (b_1, .cells #[slv l_2.q l_2.n l_2.cap, slv none 0 0] 28 (0, 0)), (b, .cells #[slv none 0 0, slv none 0 0] 28 (0, 0))]) (fun l_2 => [⟨77, RSt.enc o.s8_strips, l_2.sp, l_2.q, []⟩]) ?_ ?_
  ·replace hm := h11
   refine g_block ?_
   refine g_loopF (ι := VL) hm (fun s l_3 => VOK 7 l_3.n l_3.cap (RSt.enc s.s8_strips) l_3.sp l_3.q) (fun s l_3 => [(0, ptr pb 0), (6, ptr b 0), (8, ptr b_1 0), (9, .int .i64 t24.r0), (10, .int .i64 t27.r0), (28, .int .i64 t24.r0), (29, .int .i64 s.t29)]) (fun s l_3 => [(pb, .cells #[.slice qa0 na0 ca0, .int .i64 s.b0_1, .int .u32 s.b0_2] 105 (0, 0)), (b_1, .cells #[slv l_3.q l_3.n l_3.cap, slv none 0 0] 28 (0, 0)), (b, .cells #[slv none 0 0, slv none 0 0] 28 (0, 0))]) (fun s l_3 => [⟨77, RSt.enc s.s8_strips, l_3.sp, l_3.q, []⟩]) ⟨none, 0, 0, []⟩ (VOK.nil) (sE rfl) (fun w hh => hh) (fun s l_3 r hpl hm h15 => ?_)
   have h14 := hpl
   unfold m_l_Made_1_L0 at hm
   refine g_sr (g_ls rfl rfl rfl (g_nt (g_seq ?_)))
   refine g_cond rfl (fun h16 => ?_) (fun h16 => ?_)
   ·replace hm := ifD h16 hm
    refine g_skip (g_n_then (g_seq (g_block ?_)))
    refine g_draw (some 10) (.free 0 (.hoist 1 (.free 2 (.free 3 (.free 4 (.one 5 (.free 6 (.one 7 (.one 8 (.free 9 (.last 10 .done))))))))))) (HV _ _ [(b_1, .cells #[slv l_3.q l_3.n l_3.cap, slv none 0 0] 28 (0, 0)), (b, .cells #[slv none 0 0, slv none 0 0] 28 (0, 0))] [] _) rfl (by decide +kernel) (fun w k hh => hh.draw k) (hsE [1, 2] [] 0 rfl rfl rfl rfl) ?_
    refine p_fa 0 Try.runUnderlying28 Try.sizeOf25 rfl rfl rfl rfl (p_lc 0 Try.isAgg25 rfl rfl rfl rfl rfl (p_mv rfl rfl rfl (p_mv rfl rfl rfl ?_)))
    obtain ⟨t35, h17, hm⟩ := bindO hm
    refine p_free rfl rfl rfl rfl (fun _ _ => v_subc h17 rfl rfl) (p_one rfl ?_)
    obtain ⟨t36, h18, hm⟩ := bindO hm
    refine g_callH [_] [] rfl rfl rfl rfl rfl rfl rfl Try.call33 (fun w hh => c_k_Heap_Upto_1 b00 s.b0_1 s.b0_2 t35 pb qa0 na0 ca0 w (HV.callee (S0 := [_]) (vs0 := []) hh (roR hh 0 rfl roN)) hna0 hqa0 hla0 h18) (fun l_4 h19 => ?_)
    refine g_se (S' := [_, _, _]) (vs' := [_]) [0, 1, 2] [0] 0 rfl rfl rfl rfl (p_next (hsE [1, 2] [] 0 rfl rfl rfl rfl) (p_free rfl rfl rfl rfl (fun _ _ => v_build (vs := [(0, _)]) (cells := [_, _, _, _, _, _, _]) rfl rfl) (p_one rfl ?_)))
    refine g_vlit RSt [(⟨t36.r0, (⟨0, 0⟩ : Span), (⟨0, 0⟩ : Span), (⟨0, 0⟩ : Span)⟩ : Strip)] (ps := [(0, _)]) (cells := [_, _, _, _, _, _, _]) (fun w => Try.runUnderlying25 w) (fun w => Try.sizeOf77 w) (fun w => Try.zeroValue77 w) rfl rfl rfl rfl rfl rfl rfl rfl (fun L h20 => ?_)
    refine p_next (hsE [1, 2] [] 0 rfl rfl rfl rfl) (p_one rfl ?_)
    obtain ⟨t39, h21, hm⟩ := bindO hm
    refine g_vapp RSt 1 h21 Try.underlying25 gxinf77 rfl rfl rfl rfl rfl h14 rfl rfl (vlen RSt h20 rfl) (AOK.q (vne h20)) (fun w hh => (hh.vsegA 0 rfl h20)) rfl (fun L_1 h22 h22n => ?_)
    refine g_se (S' := [_, _, _]) (vs' := [_, _]) [0, 1, 2] [0, 1] 0 rfl rfl rfl rfl (p_next (hsE [1, 2] [] 0 rfl rfl rfl rfl) (p_fa 0 Try.runUnderlying28 Try.sizeOf25 rfl rfl rfl rfl (p_last rfl (g_stS (cs' := #[_, _]) (S' := [_, _, _]) 1 (fun w => Try.sizeOf25 w) rfl rfl rfl rfl rfl rfl rfl (p_nextL (p_done (g_n_blk ?_)))))))
    refine g_n_then (g_region ?_)
    obtain ⟨t41, h23, hm⟩ := bindO hm
    refine g_ac h23 rfl rfl rfl (g_mv rfl rfl (g_nil ?_))
    obtain rfl := sj hm
    refine g_n_then ?_
    exact g_again' _ L_1 rfl (h22) (sE rfl) (hsE [0, 1, 2] [1] 0 rfl rfl rfl rfl)
   ·replace hm := ifE h16 hm
    refine g_exit (g_x_then (g_x_then (g_x_blk ?_)))
    obtain rfl := sj hm
    have hbo := h15 _ rfl
    subst hbo
    exact g_leaf l_3 (h14) (sE rfl) (fun w hh => hh)
  ·intro l_2 hj
   have h13 := hj
   replace hm := h12
   refine g_n_then (g_sr (g_mv rfl rfl ?_))
   obtain ⟨t43, h24, hm⟩ := bindO hm
   refine g_vmake RwH vl0 (makecL vl0 h24) Try.underlying29 gxinf32 rfl rfl rfl rfl rfl (fun L_2 h25 => ?_)
   refine g_drep (E2 := 3) RI (Int.toNat t27.r0) (makecO h24).1.symm (fun h26 => ?_)
   refine g_as rfl rfl (g_nt (g_seq (g_sr (g_mv rfl rfl (g_val rfl rfl rfl (fun w _ => v_lenN (Eq.trans (h26).len (vlen RwH h25 rfl)) (Try.runUnderlying29 w) rfl) (g_mv rfl rfl (g_nt ?_)))))))
   refine g_vnil 37 ?_
   obtain ⟨o_1, h27, h28⟩ := bindO hm
   refine g_cut (ι := DL × VL) (fun l_5 => VOK 1 l_5.1.v.n l_5.1.v.cap (RwH.enc l_5.1.rs) l_5.1.v.sp l_5.1.v.q ∧ DOK RI o_1.real11 l_5.1.rs ∧ VOK 2 l_5.2.n l_5.2.cap (RSp.enc o_1.s8_carried) l_5.2.sp l_5.2.q) (fun l_5 => [(0, ptr pb 0), (6, ptr b 0), (8, ptr b_1 0), (9, .int .i64 t24.r0), (11, slv l_5.1.v.q l_5.1.v.n l_5.1.v.cap)]) (fun l_5 => [(pb, .cells #[.slice qa0 na0 ca0, .int .i64 o_1.b0_1, .int .u32 o_1.b0_2] 105 (0, 0)), (b_1, .cells #[slv l_2.q l_2.n l_2.cap, slv l_5.2.q l_5.2.n l_5.2.cap] 28 (0, 0)), (b, .cells #[slv none 0 0, slv none 0 0] 28 (0, 0))]) (fun l_5 => [⟨32, RwH.enc l_5.1.rs, l_5.1.v.sp, l_5.1.v.q, dbl 3 RI o_1.real11 l_5.1.rs⟩, ⟨77, RSt.enc o.s8_strips, l_2.sp, l_2.q, []⟩, ⟨37, RSp.enc o_1.s8_carried, l_5.2.sp, l_5.2.q, []⟩]) ?_ ?_
   ·replace hm := h27
    refine g_block ?_
    refine g_loopF (ι := DL × VL) hm (fun s_1 l_6 => VOK 1 l_6.1.v.n l_6.1.v.cap (RwH.enc l_6.1.rs) l_6.1.v.sp l_6.1.v.q ∧ DOK RI s_1.real11 l_6.1.rs ∧ VOK 2 l_6.2.n l_6.2.cap (RSp.enc s_1.s8_carried) l_6.2.sp l_6.2.q) (fun s_1 l_6 => [(0, ptr pb 0), (6, ptr b 0), (8, ptr b_1 0), (9, .int .i64 t24.r0), (11, slv l_6.1.v.q l_6.1.v.n l_6.1.v.cap), (45, .int .i64 (t43.length : Int)), (46, .int .i64 s_1.t46)]) (fun s_1 l_6 => [(pb, .cells #[.slice qa0 na0 ca0, .int .i64 s_1.b0_1, .int .u32 s_1.b0_2] 105 (0, 0)), (b_1, .cells #[slv l_2.q l_2.n l_2.cap, slv l_6.2.q l_6.2.n l_6.2.cap] 28 (0, 0)), (b, .cells #[slv none 0 0, slv none 0 0] 28 (0, 0))]) (fun s_1 l_6 => [⟨32, RwH.enc l_6.1.rs, l_6.1.v.sp, l_6.1.v.q, dbl 3 RI s_1.real11 l_6.1.rs⟩, ⟨77, RSt.enc o.s8_strips, l_2.sp, l_2.q, []⟩, ⟨37, RSp.enc s_1.s8_carried, l_6.2.sp, l_6.2.q, []⟩]) (⟨⟨L_2.q, L_2.n, L_2.cap, L_2.sp⟩, (List.replicate (Int.toNat t27.r0) vl0)⟩, ⟨none, 0, 0, []⟩) (⟨h25, h26, VOK.nil⟩) (sE rfl) (hsE [0, 1, 2] [1, 2, 0] 0 rfl rfl rfl rfl) (fun s_1 l_6 r_1 hpl hm h35 => ?_)
    obtain ⟨h32, h33, h34⟩ := hpl
    unfold m_l_Made_1_L1 at hm
    refine g_sr (g_ls rfl rfl rfl (g_nt (g_seq ?_)))
    refine g_cond rfl (fun h36 => ?_) (fun h36 => ?_)
    ·replace hm := ifD h36 hm
     refine g_skip (g_n_then (g_seq (g_block (g_sr (g_mv rfl rfl (g_as rfl rfl (g_nx ?_)))))))
     refine g_as rfl rfl (g_nt (g_seq (g_sr (g_mv rfl rfl (g_mv rfl rfl (g_nt ?_))))))
     obtain ⟨o_2, h37, h38⟩ := bindO hm
     refine g_cut (ι := DL) (fun l_7 => VOK 1 l_7.v.n l_7.v.cap (RwH.enc l_7.rs) l_7.v.sp l_7.v.q ∧ DOK RI o_2.real11 l_7.rs) (fun l_7 => [(0, ptr pb 0), (6, ptr b 0), (8, ptr b_1 0), (9, .int .i64 t24.r0), (11, slv l_7.v.q l_7.v.n l_7.v.cap), (13, .int .i64 o_2.sum13), (45, .int .i64 (t43.length : Int)), (46, .int .i64 s_1.t46)]) (fun l_7 => [(pb, .cells #[.slice qa0 na0 ca0, .int .i64 o_2.b0_1, .int .u32 o_2.b0_2] 105 (0, 0)), (b_1, .cells #[slv l_2.q l_2.n l_2.cap, slv l_6.2.q l_6.2.n l_6.2.cap] 28 (0, 0)), (b, .cells #[slv none 0 0, slv none 0 0] 28 (0, 0))]) (fun l_7 => [⟨32, RwH.enc l_7.rs, l_7.v.sp, l_7.v.q, dbl 3 RI o_2.real11 l_7.rs⟩, ⟨77, RSt.enc o.s8_strips, l_2.sp, l_2.q, []⟩, ⟨37, RSp.enc s_1.s8_carried, l_6.2.sp, l_6.2.q, []⟩]) ?_ ?_
     ·replace hm := h37
      refine g_block ?_
      refine g_loopF (ι := DL) hm (fun s_2 l_8 => VOK 1 l_8.v.n l_8.v.cap (RwH.enc l_8.rs) l_8.v.sp l_8.v.q ∧ DOK RI s_2.real11 l_8.rs) (fun s_2 l_8 => [(0, ptr pb 0), (6, ptr b 0), (8, ptr b_1 0), (9, .int .i64 t24.r0), (11, slv l_8.v.q l_8.v.n l_8.v.cap), (12, .int .i64 s_1.t46), (13, .int .i64 s_2.sum13), (45, .int .i64 (t43.length : Int)), (46, .int .i64 s_1.t46), (49, .int .i64 t24.r0), (50, .int .i64 s_2.t50)]) (fun s_2 l_8 => [(pb, .cells #[.slice qa0 na0 ca0, .int .i64 s_2.b0_1, .int .u32 s_2.b0_2] 105 (0, 0)), (b_1, .cells #[slv l_2.q l_2.n l_2.cap, slv l_6.2.q l_6.2.n l_6.2.cap] 28 (0, 0)), (b, .cells #[slv none 0 0, slv none 0 0] 28 (0, 0))]) (fun s_2 l_8 => [⟨32, RwH.enc l_8.rs, l_8.v.sp, l_8.v.q, dbl 3 RI s_2.real11 l_8.rs⟩, ⟨77, RSt.enc o.s8_strips, l_2.sp, l_2.q, []⟩, ⟨37, RSp.enc s_1.s8_carried, l_6.2.sp, l_6.2.q, []⟩]) l_6.1 (⟨h32, h33⟩) (sE rfl) (fun w hh => hh) (fun s_2 l_8 r_2 hpl hm h43 => ?_)
      obtain ⟨h41, h42⟩ := hpl
      unfold m_l_Made_1_L2 at hm
      refine g_sr (g_ls rfl rfl rfl (g_nt (g_seq ?_)))
      refine g_cond rfl (fun h44 => ?_) (fun h44 => ?_)
      ·replace hm := ifD h44 hm
       refine g_skip (g_n_then (g_seq (g_block (g_sr (g_mv rfl rfl (g_as rfl rfl (g_nx ?_)))))))
       refine g_as rfl rfl (g_nt (g_seq ?_))
       obtain ⟨o_3, h45, h46⟩ := bindO hm
       refine g_cut (ι := Unit) (fun l_9 => True) (fun l_9 => [(0, ptr pb 0), (6, ptr b 0), (8, ptr b_1 0), (9, .int .i64 t24.r0), (11, slv l_8.v.q l_8.v.n l_8.v.cap), (12, .int .i64 s_1.t46), (13, .int .i64 s_2.sum13), (15, .int .i64 o_3.n15), (45, .int .i64 (t43.length : Int)), (46, .int .i64 s_1.t46), (49, .int .i64 t24.r0), (50, .int .i64 s_2.t50)]) (fun l_9 => [(pb, .cells #[.slice qa0 na0 ca0, .int .i64 o_3.b0_1, .int .u32 o_3.b0_2] 105 (0, 0)), (b_1, .cells #[slv l_2.q l_2.n l_2.cap, slv l_6.2.q l_6.2.n l_6.2.cap] 28 (0, 0)), (b, .cells #[slv none 0 0, slv none 0 0] 28 (0, 0))]) (fun l_9 => [⟨32, RwH.enc l_8.rs, l_8.v.sp, l_8.v.q, dbl 3 RI s_2.real11 l_8.rs⟩, ⟨77, RSt.enc o.s8_strips, l_2.sp, l_2.q, []⟩, ⟨37, RSp.enc s_1.s8_carried, l_6.2.sp, l_6.2.q, []⟩]) ?_ ?_
       ·replace hm := h45
        refine g_seq ?_
        obtain ⟨o_4, h47, h48⟩ := bindO hm
        refine g_cut (ι := Unit) (fun l_10 => True) (fun l_10 => [(0, ptr pb 0), (6, ptr b 0), (8, ptr b_1 0), (9, .int .i64 t24.r0), (11, slv l_8.v.q l_8.v.n l_8.v.cap), (12, .int .i64 s_1.t46), (13, .int .i64 s_2.sum13), (15, .int .i64 0), (45, .int .i64 (t43.length : Int)), (46, .int .i64 s_1.t46), (49, .int .i64 t24.r0), (50, .int .i64 s_2.t50), (70, .bool o_4.t70)]) (fun l_10 => [(pb, .cells #[.slice qa0 na0 ca0, .int .i64 o_4.b0_1, .int .u32 o_4.b0_2] 105 (0, 0)), (b_1, .cells #[slv l_2.q l_2.n l_2.cap, slv l_6.2.q l_6.2.n l_6.2.cap] 28 (0, 0)), (b, .cells #[slv none 0 0, slv none 0 0] 28 (0, 0))]) (fun l_10 => [⟨32, RwH.enc l_8.rs, l_8.v.sp, l_8.v.q, dbl 3 RI s_2.real11 l_8.rs⟩, ⟨77, RSt.enc o.s8_strips, l_2.sp, l_2.q, []⟩, ⟨37, RSp.enc s_1.s8_carried, l_6.2.sp, l_6.2.q, []⟩]) ?_ ?_
        ·replace hm := h47
         refine g_region (g_la [_, _] 1 Try.isAgg28 Try.sizeOf28 rfl rfl rfl rfl (g_mv rfl rfl (g_mv rfl rfl ?_)))
         obtain ⟨t56, h49, hm⟩ := bindO hm
         refine g_callH [] [] rfl rfl rfl rfl rfl rfl rfl Try.call43 (fun w hh => c_l_reaches (⟨o.s8_strips, s_1.s8_carried⟩ : Scalps) s_1.t46 s_2.t50 (qA l_2.q) l_2.n l_2.cap (qA l_6.2.q) l_6.2.n l_6.2.cap w (HV.callee (S0 := []) (vs0 := []) hh (roC (hh.vsepA 1 rfl h13) (roC (hh.vsepA 2 rfl h34) roN))) (vlen RSt h13 rfl) (AOK.q (vne h13)) (h13).hle (vlen RSp h34 rfl) (AOK.q (vne h34)) (h34).hle h49) (fun l_11 h50 => ?_)
         refine g_mv rfl rfl ?_
         refine g_case 57 rfl (fun h51 => ?_) (fun h51 => ?_)
         ·replace hm := ifT (h51) hm
          refine v_unguard rfl rfl (g_fa 0 Try.runUnderlying28 rfl Try.sizeOf25 rfl rfl (v_unguard rfl rfl (g_lc 1 Try.isAgg25 rfl rfl rfl rfl (v_unguard rfl rfl (g_mv rfl rfl (v_unguard rfl rfl ?_))))))
          obtain ⟨t61, h52, hm⟩ := bindO hm
          refine g_val rfl rfl rfl (fun w _ => v_ixA h52 (Try.runUnderlying25 w) (Try.sizeOf77 w) rfl rfl (vlen RSt h13 rfl) (vne h13)) (v_unguard rfl rfl (g_fa 0 Try.runUnderlying77 rfl Try.sizeOf3 rfl rfl (v_unguard rfl rfl (g_val rfl rfl rfl (fun w hh => v_ldE RSt 0 h52 (Try.isAgg3 w) rfl (hh.vseg 1 rfl h13) rfl rfl) (v_unguard rfl rfl (g_mv rfl rfl (v_unguard rfl rfl ?_)))))))
          refine g_val rfl rfl rfl (fun _ _ => v_eql rfl rfl) (v_unguard rfl rfl (g_mv rfl rfl ?_))
          refine g_case 66 rfl (fun h53 => ?_) (fun h53 => ?_)
          ·replace hm := ifD h53 hm
           refine g_k rfl rfl rfl rfl (g_k rfl rfl rfl rfl (v_unguard rfl rfl (g_pt rfl rfl rfl (g_pt rfl rfl rfl (g_nil ?_)))))
           obtain rfl := sj hm
           exact g_leaf () (trivial) (sE rfl) (fun w hh => hh)
          ·replace hm := ifE h53 hm
           refine v_unguard rfl rfl (g_mv rfl rfl (v_unguard rfl rfl ?_))
           obtain ⟨t68, h54, hm⟩ := bindO hm
           refine g_callH [_] [] rfl rfl rfl rfl rfl rfl rfl Try.call34 (fun w hh => c_k_Heap_Once_1 b00 s_2.b0_1 s_2.b0_2 4 pb qa0 na0 ca0 w (HV.callee (S0 := [_]) (vs0 := []) hh (roR hh 0 rfl roN)) hna0 hqa0 hla0 h54) (fun l_12 h55 => ?_)
           refine g_se (S' := [_, _, _]) (vs' := [_, _, _]) [0, 1, 2] [0, 1, 2] 0 rfl rfl rfl rfl (v_unguard rfl rfl (g_pf rfl rfl rfl (g_pt rfl rfl rfl (g_nil ?_))))
           obtain rfl := sj hm
           exact g_leaf () (trivial) (sE rfl) (fun w hh => hh)
         ·replace hm := ifN h51 hm
          refine g_k rfl rfl rfl rfl (g_k rfl rfl rfl rfl (g_k rfl rfl rfl rfl (g_k rfl rfl rfl rfl (g_k rfl rfl rfl rfl (g_k rfl rfl rfl rfl (g_k rfl rfl rfl rfl (g_k rfl rfl rfl rfl ?_)))))))
          refine g_k rfl rfl rfl rfl ?_
          refine g_skipU' rfl rfl rfl rfl rfl ?_
          refine g_skipU' rfl rfl rfl rfl rfl ?_
          refine g_k rfl rfl rfl rfl (g_pf rfl rfl rfl (g_nil ?_))
          obtain rfl := sj hm
          exact g_leaf () (trivial) (sE rfl) (fun w hh => hh)
        ·intro l_10 hj
         replace hm := h48
         refine g_n_then ?_
         refine g_cond rfl (fun h56 => ?_) (fun h56 => ?_)
         ·replace hm := ifT (h56) hm
          refine g_region (g_mv rfl rfl ?_)
          obtain ⟨t72, h57, hm⟩ := bindO hm
          refine g_callH [_] [] rfl rfl rfl rfl rfl rfl rfl Try.call33 (fun w hh => c_k_Heap_Upto_1 b00 o_4.b0_1 o_4.b0_2 4 pb qa0 na0 ca0 w (HV.callee (S0 := [_]) (vs0 := []) hh (roR hh 0 rfl roN)) hna0 hqa0 hla0 h57) (fun l_13 h58 => ?_)
          refine g_se (S' := [_, _, _]) (vs' := [_, _, _]) [0, 1, 2] [0, 1, 2] 0 rfl rfl rfl rfl (g_as rfl rfl (g_nil ?_))
          obtain rfl := sj hm
          exact g_leaf () (trivial) (sE rfl) (fun w hh => hh)
         ·replace hm := ifN h56 hm
          refine g_skip ?_
          obtain rfl := sj hm
          exact g_leaf () (trivial) (sE rfl) (fun w hh => hh)
       ·intro l_9 hj
        replace hm := h46
        refine g_n_then (g_region (g_mv rfl rfl (g_mv rfl rfl (g_mv rfl rfl (g_mv rfl rfl ?_)))))
        obtain ⟨t77, h59, hm⟩ := bindO hm
        obtain ⟨L_3, h60, h61⟩ := (h42).row h59
        refine g_val rfl rfl rfl (fun w _ => v_ixA h60 (Try.runUnderlying29 w) (Try.sizeOf32 w) rfl rfl (vlen RwH h41 rfl) (vne h41)) (g_val rfl rfl rfl (fun w hh => v_ldE RwH 0 h60 (Try.isAgg32 w) rfl (hh.vseg 0 rfl h41) rfl (Nat.add_zero _).symm) (g_mv rfl rfl ?_))
        refine g_vlit RI [o_3.n15] (ps := [(0, _)]) (cells := [_]) (fun w => Try.runUnderlying32 w) (fun w => Try.sizeOf3 w) (fun w => Try.zeroValue3 w) rfl rfl rfl rfl rfl rfl rfl rfl (fun L_4 h62 => ?_)
        refine g_se (S' := [_, _, _]) (vs' := [_, _, _, _]) [0, 1, 2] [1, 0, 2, 3] 0 rfl rfl rfl rfl ?_
        refine g_dtake RI s_1.t46 h42 h59 h60 (fun _ => ?_)
        obtain ⟨t81, h63, hm⟩ := bindO hm
        refine g_vapp RI 1 h63 Try.underlying32 gxinf3 rfl rfl rfl rfl rfl h61 rfl rfl (vlen RI h62 rfl) (AOK.q (vne h62)) (fun w hh => (hh.vsegA 2 rfl h62)) rfl (fun L_5 h64 h64n => ?_)
        refine g_se (S' := [_, _, _]) (vs' := [_, _, _, _, _]) [0, 1, 2] [0, 1, 2, 3, 4] 0 rfl rfl rfl rfl (g_mv rfl rfl (g_mv rfl rfl ?_))
        obtain ⟨t84, h65, hm⟩ := bindO hm
        refine g_ac h65 rfl rfl rfl ?_
        obtain ⟨t85, h66, hm⟩ := bindO hm
        obtain ⟨L_6, h67, h68⟩ := (h42).row h66
        refine g_val rfl rfl rfl (fun w _ => v_ixA h67 (Try.runUnderlying29 w) (Try.sizeOf32 w) rfl rfl (vlen RwH h41 rfl) (vne h41)) ?_
        obtain ⟨real11, hreal11, hm⟩ := bindO hm
        refine g_vst RwH 0 0 (⟨L_5.q, L_5.n, L_5.cap, L_5.sp⟩ : VL) (fun w => Try.sizeOf32 w) rfl rfl rfl rfl h41 rfl (Nat.add_zero _).symm rfl h60 rfl rfl rfl (fun h69 => ?_)
        refine g_se (S' := [_, _, _]) (vs' := [_, _, _, _, _]) [0, 1, 2] [0, 1, 2, 3, 4] 0 rfl rfl rfl rfl (g_se (S' := [_, _, _]) (vs' := [_, _, _, _, _]) [0, 1, 2] [0, 1, 2, 3, 4] 0 rfl rfl rfl rfl ?_)
        refine g_dback' RI s_1.t46 L_5.n L_5.cap h42 h59 h60 h64 (Option.some.inj hreal11) (fun h70 => ?_)
        refine g_as rfl rfl (g_nil (g_n_blk (g_n_then (g_region ?_))))
        obtain ⟨t86, h71, hm⟩ := bindO hm
        refine g_ac h71 rfl rfl rfl (g_mv rfl rfl (g_nil ?_))
        obtain rfl := sj hm
        refine g_n_then ?_
        exact g_again' _ (⟨⟨l_8.v.q, l_8.v.n, l_8.v.cap, l_8.v.sp⟩, (l_8.rs.set (Int.toNat s_1.t46) (⟨L_5.q, L_5.n, L_5.cap, L_5.sp⟩ : VL))⟩) rfl (⟨h69, h70⟩) (sE rfl) (hsE [0, 1, 2] [0, 2, 3] 0 rfl rfl rfl rfl)
      ·replace hm := ifE h44 hm
       refine g_exit (g_x_then (g_x_then (g_x_blk ?_)))
       obtain rfl := sj hm
       have hbo := h43 _ rfl
       subst hbo
       exact g_leaf l_8 (⟨h41, h42⟩) (sE rfl) (fun w hh => hh)
     ·intro l_7 hj
      obtain ⟨h39, h40⟩ := hj
      replace hm := h38
      refine g_n_then ?_
      refine g_draw (some 8) (.free 0 (.hoist 1 (.free 2 (.free 3 (.one 4 (.one 5 (.one 6 (.free 7 (.last 8 .done))))))))) (HV _ _ [(b_1, .cells #[slv l_2.q l_2.n l_2.cap, slv l_6.2.q l_6.2.n l_6.2.cap] 28 (0, 0)), (b, .cells #[slv none 0 0, slv none 0 0] 28 (0, 0))] [⟨32, RwH.enc l_7.rs, l_7.v.sp, l_7.v.q, dbl 3 RI o_2.real11 l_7.rs⟩, ⟨77, RSt.enc o.s8_strips, l_2.sp, l_2.q, []⟩] _) rfl (by decide +kernel) (fun w k hh => hh.draw k) (hsE [1, 2] [0, 1] 0 rfl rfl rfl rfl) ?_
      refine p_fa 1 Try.runUnderlying28 Try.sizeOf26 rfl rfl rfl rfl (p_lc 0 Try.isAgg26 rfl rfl rfl rfl rfl (p_mv rfl rfl rfl (p_mv rfl rfl rfl (p_one rfl ?_))))
      obtain ⟨t91, h72, hm⟩ := bindO hm
      refine g_callH [_] [] rfl rfl rfl rfl rfl rfl rfl Try.call35 (fun w hh => c_l_around_1 b00 o_2.b0_1 o_2.b0_2 o_2.sum13 2 pb qa0 na0 ca0 w (HV.callee (S0 := [_]) (vs0 := []) hh (roR hh 0 rfl roN)) hna0 hqa0 hla0 h72) (fun l_14 h73 => ?_)
      refine g_se (S' := [_, _, _]) (vs' := [_, _, _]) [0, 1, 2] [0, 1, 2] 0 rfl rfl rfl rfl (p_next (hsE [1, 2] [0, 1] 0 rfl rfl rfl rfl) (p_one rfl ?_))
      refine g_vlit RSp [t91.r0] (ps := [(0, _)]) (cells := [_, _]) (fun w => Try.runUnderlying26 w) (fun w => Try.sizeOf37 w) (fun w => Try.zeroValue37 w) rfl rfl rfl rfl rfl rfl rfl rfl (fun L_7 h74 => ?_)
      refine p_next (hsE [1, 2] [1, 2] 0 rfl rfl rfl rfl) (p_one rfl ?_)
      obtain ⟨t93, h75, hm⟩ := bindO hm
      refine g_vapp RSp 3 h75 Try.underlying26 gxinf37 rfl rfl rfl rfl rfl h34 rfl rfl (vlen RSp h74 rfl) (AOK.q (vne h74)) (fun w hh => (hh.vsegA 0 rfl h74)) rfl (fun L_8 h76 h76n => ?_)
      refine g_se (S' := [_, _, _]) (vs' := [_, _, _, _]) [0, 1, 2] [0, 1, 2, 3] 0 rfl rfl rfl rfl (p_next (hsE [1, 2] [1, 2] 0 rfl rfl rfl rfl) (p_fa 1 Try.runUnderlying28 Try.sizeOf26 rfl rfl rfl rfl (p_last rfl (g_stS (cs' := #[_, _]) (S' := [_, _, _]) 1 (fun w => Try.sizeOf26 w) rfl rfl rfl rfl rfl rfl rfl (p_nextL (p_done (g_n_blk ?_)))))))
      refine g_n_then (g_region ?_)
      obtain ⟨t95, h77, hm⟩ := bindO hm
      refine g_ac h77 rfl rfl rfl (g_mv rfl rfl (g_nil ?_))
      obtain rfl := sj hm
      refine g_n_then ?_
      exact g_again' _ (l_7, L_8) rfl (⟨h39, h40, h76⟩) (sE rfl) (hsE [0, 1, 2] [1, 2, 3] 0 rfl rfl rfl rfl)
    ·replace hm := ifE h36 hm
     refine g_exit (g_x_then (g_x_then (g_x_blk ?_)))
     obtain rfl := sj hm
     have hbo := h35 _ rfl
     subst hbo
     exact g_leaf (l_6.1, l_6.2) (⟨h32, h33, h34⟩) (sE rfl) (fun w hh => hh)
   ·intro l_5 hj
    obtain ⟨h29, h30, h31⟩ := hj
    replace hm := h28
    refine g_n_then (g_seq (g_sr (g_mv rfl rfl (g_mv rfl rfl (g_nt ?_)))))
    obtain ⟨o_5, h78, h79⟩ := bindO hm
    refine g_cut (ι := Unit) (fun l_15 => VOK 7 l_2.n l_2.cap (RSt.enc o_5.s8_strips) l_2.sp l_2.q) (fun l_15 => [(6, ptr b 0), (8, ptr b_1 0), (11, slv l_5.1.v.q l_5.1.v.n l_5.1.v.cap)]) (fun l_15 => [(pb, .cells #[.slice qa0 na0 ca0, .int .i64 o_5.b0_1, .int .u32 o_5.b0_2] 105 (0, 0)), (b_1, .cells #[slv l_2.q l_2.n l_2.cap, slv l_5.2.q l_5.2.n l_5.2.cap] 28 (0, 0)), (b, .cells #[slv none 0 0, slv none 0 0] 28 (0, 0))]) (fun l_15 => [⟨32, RwH.enc l_5.1.rs, l_5.1.v.sp, l_5.1.v.q, dbl 3 RI o_1.real11 l_5.1.rs⟩, ⟨77, RSt.enc o_5.s8_strips, l_2.sp, l_2.q, []⟩, ⟨37, RSp.enc o_1.s8_carried, l_5.2.sp, l_5.2.q, []⟩]) ?_ ?_
    ·replace hm := h78
     refine g_block ?_
     refine g_loopF (ι := Unit) hm (fun s_3 l_16 => VOK 7 l_2.n l_2.cap (RSt.enc s_3.s8_strips) l_2.sp l_2.q) (fun s_3 l_16 => [(0, ptr pb 0), (6, ptr b 0), (8, ptr b_1 0), (11, slv l_5.1.v.q l_5.1.v.n l_5.1.v.cap), (96, .int .i64 t24.r0), (97, .int .i64 s_3.t97)]) (fun s_3 l_16 => [(pb, .cells #[.slice qa0 na0 ca0, .int .i64 s_3.b0_1, .int .u32 s_3.b0_2] 105 (0, 0)), (b_1, .cells #[slv l_2.q l_2.n l_2.cap, slv l_5.2.q l_5.2.n l_5.2.cap] 28 (0, 0)), (b, .cells #[slv none 0 0, slv none 0 0] 28 (0, 0))]) (fun s_3 l_16 => [⟨32, RwH.enc l_5.1.rs, l_5.1.v.sp, l_5.1.v.q, dbl 3 RI o_1.real11 l_5.1.rs⟩, ⟨77, RSt.enc s_3.s8_strips, l_2.sp, l_2.q, []⟩, ⟨37, RSp.enc o_1.s8_carried, l_5.2.sp, l_5.2.q, []⟩]) () (h13) (sE rfl) (fun w hh => hh) (fun s_3 l_16 r_3 hpl hm h82 => ?_)
     have h81 := hpl
     unfold m_l_Made_1_L3 at hm
     refine g_sr (g_ls rfl rfl rfl (g_nt (g_seq ?_)))
     refine g_cond rfl (fun h83 => ?_) (fun h83 => ?_)
     ·replace hm := ifD h83 hm
      refine g_skip (g_n_then (g_seq (g_block (g_sr (g_mv rfl rfl (g_as rfl rfl (g_nx ?_)))))))
      refine g_as rfl rfl (g_nt (g_seq (g_sr (g_mv rfl rfl (g_val rfl rfl rfl (fun w _ => v_lenN (Eq.trans (h30).len (vlen RwH h29 rfl)) (Try.runUnderlying29 w) rfl) (g_mv rfl rfl (g_nt ?_)))))))
      obtain ⟨o_6, h84, h85⟩ := bindO hm
      refine g_cut (ι := Unit) (fun l_17 => True) (fun l_17 => [(0, ptr pb 0), (6, ptr b 0), (8, ptr b_1 0), (11, slv l_5.1.v.q l_5.1.v.n l_5.1.v.cap), (16, .int .i64 s_3.t97), (17, .int .i64 o_6), (96, .int .i64 t24.r0), (97, .int .i64 s_3.t97)]) (fun l_17 => [(pb, .cells #[.slice qa0 na0 ca0, .int .i64 s_3.b0_1, .int .u32 s_3.b0_2] 105 (0, 0)), (b_1, .cells #[slv l_2.q l_2.n l_2.cap, slv l_5.2.q l_5.2.n l_5.2.cap] 28 (0, 0)), (b, .cells #[slv none 0 0, slv none 0 0] 28 (0, 0))]) (fun l_17 => [⟨32, RwH.enc l_5.1.rs, l_5.1.v.sp, l_5.1.v.q, dbl 3 RI o_1.real11 l_5.1.rs⟩, ⟨77, RSt.enc s_3.s8_strips, l_2.sp, l_2.q, []⟩, ⟨37, RSp.enc o_1.s8_carried, l_5.2.sp, l_5.2.q, []⟩]) ?_ ?_
      ·replace hm := h84
       refine g_block ?_
       refine g_loopF (ι := Unit) hm (fun s_4 l_18 => True) (fun s_4 l_18 => [(0, ptr pb 0), (6, ptr b 0), (8, ptr b_1 0), (11, slv l_5.1.v.q l_5.1.v.n l_5.1.v.cap), (16, .int .i64 s_3.t97), (17, .int .i64 s_4.gone17), (96, .int .i64 t24.r0), (97, .int .i64 s_3.t97), (101, .int .i64 (o_1.real11.length : Int)), (102, .int .i64 s_4.t102)]) (fun s_4 l_18 => [(pb, .cells #[.slice qa0 na0 ca0, .int .i64 s_3.b0_1, .int .u32 s_3.b0_2] 105 (0, 0)), (b_1, .cells #[slv l_2.q l_2.n l_2.cap, slv l_5.2.q l_5.2.n l_5.2.cap] 28 (0, 0)), (b, .cells #[slv none 0 0, slv none 0 0] 28 (0, 0))]) (fun s_4 l_18 => [⟨32, RwH.enc l_5.1.rs, l_5.1.v.sp, l_5.1.v.q, dbl 3 RI o_1.real11 l_5.1.rs⟩, ⟨77, RSt.enc s_3.s8_strips, l_2.sp, l_2.q, []⟩, ⟨37, RSp.enc o_1.s8_carried, l_5.2.sp, l_5.2.q, []⟩]) () (trivial) (sE rfl) (fun w hh => hh) (fun s_4 l_18 r_4 hpl hm h86 => ?_)
       unfold m_l_Made_1_L4 at hm
       refine g_sr (g_ls rfl rfl rfl (g_nt (g_seq ?_)))
       refine g_cond rfl (fun h87 => ?_) (fun h87 => ?_)
       ·replace hm := ifD h87 hm
        refine g_skip (g_n_then (g_seq (g_block (g_sr (g_mv rfl rfl (g_as rfl rfl (g_nt ?_)))))))
        refine g_region (g_mv rfl rfl (g_mv rfl rfl (g_mv rfl rfl ?_)))
        obtain ⟨t108, h88, hm⟩ := bindO hm
        obtain ⟨L_9, h89, h90⟩ := (h30).row h88
        refine g_val rfl rfl rfl (fun w _ => v_ixA h89 (Try.runUnderlying29 w) (Try.sizeOf32 w) rfl rfl (vlen RwH h29 rfl) (vne h29)) (g_val rfl rfl rfl (fun w hh => v_ldE RwH 0 h89 (Try.isAgg32 w) rfl (hh.vseg 0 rfl h29) rfl (Nat.add_zero _).symm) (g_mv rfl rfl ?_))
        obtain ⟨t111, h91, hm⟩ := bindO hm
        refine g_val rfl rfl rfl (fun w _ => v_ixA h91 (Try.runUnderlying32 w) (Try.sizeOf3 w) rfl rfl (vlen RI h90 rfl) (vne h90)) (g_val rfl rfl rfl (fun w hh => v_ldE RI 0 h91 (Try.isAgg3 w) rfl (hh.dseg 0 rfl h88 h89 h90) rfl (Nat.add_zero _).symm) ?_)
        obtain ⟨t113, h92, hm⟩ := bindO hm
        refine g_ac h92 rfl rfl rfl (g_as rfl rfl (g_nil (g_n_blk (g_n_then (g_region ?_)))))
        obtain ⟨t114, h93, hm⟩ := bindO hm
        refine g_ac h93 rfl rfl rfl (g_mv rfl rfl (g_nil ?_))
        obtain rfl := sj hm
        refine g_n_then ?_
        exact g_again' _ () rfl (trivial) (sE rfl) (fun w hh => hh)
       ·replace hm := ifE h87 hm
        refine g_exit (g_x_then (g_x_then (g_x_blk ?_)))
        obtain rfl := sj hm
        have hbo := h86 _ rfl
        subst hbo
        exact g_leaf () (trivial) (sE rfl) (fun w hh => hh)
      ·intro l_17 hj
       replace hm := h85
       refine g_n_then (g_sr (g_mv rfl rfl ?_))
       obtain ⟨t116, h94, hm⟩ := bindO hm
       refine g_callH [_] [] rfl rfl rfl rfl rfl rfl rfl Try.call33 (fun w hh => c_k_Heap_Upto_1 b00 s_3.b0_1 s_3.b0_2 3 pb qa0 na0 ca0 w (HV.callee (S0 := [_]) (vs0 := []) hh (roR hh 0 rfl roN)) hna0 hqa0 hla0 h94) (fun l_19 h95 => ?_)
       refine g_se (S' := [_, _, _]) (vs' := [_, _, _]) [0, 1, 2] [0, 1, 2] 0 rfl rfl rfl rfl (g_as rfl rfl (g_nx (g_mv rfl rfl ?_)))
       obtain ⟨t118, h96, hm⟩ := bindO hm
       refine g_callH [_] [] rfl rfl rfl rfl rfl rfl rfl Try.call33 (fun w hh => c_k_Heap_Upto_1 b00 t116.h0_1 t116.h0_2 2 pb qa0 na0 ca0 w (HV.callee (S0 := [_]) (vs0 := []) hh (roR hh 0 rfl roN)) hna0 hqa0 hla0 h96) (fun l_20 h97 => ?_)
       refine g_se (S' := [_, _, _]) (vs' := [_, _, _]) [0, 1, 2] [0, 1, 2] 0 rfl rfl rfl rfl (g_mv rfl rfl (g_mv rfl rfl ?_))
       obtain ⟨t121, h98, hm⟩ := bindO hm
       refine g_ac h98 rfl rfl rfl (g_val rfl rfl rfl (fun _ _ => v_min rfl rfl) (g_as rfl rfl (g_nx (g_fa 0 Try.runUnderlying28 rfl Try.sizeOf25 rfl rfl (g_lc 1 Try.isAgg25 rfl rfl rfl rfl (g_mv rfl rfl ?_))))))
       obtain ⟨t126, h99, hm⟩ := bindO hm
       refine g_val rfl rfl rfl (fun w _ => v_ixA h99 (Try.runUnderlying25 w) (Try.sizeOf77 w) rfl rfl (vlen RSt h81 rfl) (vne h81)) (g_as rfl rfl (g_nt (g_region (g_mv rfl rfl (g_mv rfl rfl (g_mv rfl rfl (g_mv rfl rfl ?_)))))))
       refine g_mv rfl rfl (g_mv rfl rfl ?_)
       obtain ⟨t133, h100, hm⟩ := bindO hm
       refine g_ac h100 rfl rfl rfl (g_mv rfl rfl ?_)
       obtain ⟨t135, h101, hm⟩ := bindO hm
       refine g_val rfl rfl rfl (fun _ _ => v_subc h101 rfl rfl) ?_
       obtain ⟨t136, h102, hm⟩ := bindO hm
       refine g_callH [_] [] rfl rfl rfl rfl rfl rfl rfl Try.call35 (fun w hh => c_l_around_1 b00 t118.h0_1 t118.h0_2 t135 1 pb qa0 na0 ca0 w (HV.callee (S0 := [_]) (vs0 := []) hh (roR hh 0 rfl roN)) hna0 hqa0 hla0 h102) (fun l_21 h103 => ?_)
       refine g_se (S' := [_, _, _]) (vs' := [_, _, _]) [0, 1, 2] [0, 1, 2] 0 rfl rfl rfl rfl (g_mv rfl rfl (g_mv rfl rfl ?_))
       obtain ⟨t139, h104, hm⟩ := bindO hm
       refine g_callH [_] [] rfl rfl rfl rfl rfl rfl rfl Try.call35 (fun w hh => c_l_around_1 b00 t136.b0_1 t136.b0_2 (min t118.r0 t121) 1 pb qa0 na0 ca0 w (HV.callee (S0 := [_]) (vs0 := []) hh (roR hh 0 rfl roN)) hna0 hqa0 hla0 h104) (fun l_22 h105 => ?_)
       refine g_se (S' := [_, _, _]) (vs' := [_, _, _]) [0, 1, 2] [0, 1, 2] 0 rfl rfl rfl rfl (g_mv rfl rfl (g_mv rfl rfl ?_))
       obtain ⟨t142, h106, hm⟩ := bindO hm
       refine g_callH [_] [] rfl rfl rfl rfl rfl rfl rfl Try.call35 (fun w hh => c_l_around_1 b00 t139.b0_1 t139.b0_2 t116.r0 1 pb qa0 na0 ca0 w (HV.callee (S0 := [_]) (vs0 := []) hh (roR hh 0 rfl roN)) hna0 hqa0 hla0 h106) (fun l_23 h107 => ?_)
       refine g_se (S' := [_, _, _]) (vs' := [_, _, _]) [0, 1, 2] [0, 1, 2] 0 rfl rfl rfl rfl (g_val rfl rfl rfl (fun _ _ => v_nilCheck rfl) (g_fa 1 Try.runUnderlying77 rfl Try.sizeOf37 rfl rfl ?_))
       obtain ⟨s8_strips, hs8_strips, hm⟩ := bindO hm
       refine g_vstP (us := #[_, _]) RSt 1 1 (⟨t126.tenant, t136.r0, t126.seeded, t126.left⟩ : Strip) (fun w => Try.sizeOf37 w) rfl rfl rfl h81 rfl rfl rfl rfl rfl rfl h99 rfl (Option.some.inj hs8_strips) (fun h108 => ?_)
       refine g_se (S' := [_, _, _]) (vs' := [_, _, _]) [0, 1, 2] [0, 1, 2] 0 rfl rfl rfl rfl (g_val rfl rfl rfl (fun _ _ => v_nilCheck rfl) (g_fa 3 Try.runUnderlying77 rfl Try.sizeOf37 rfl rfl ?_))
       obtain ⟨x, h109, hm⟩ := bindO hm
       obtain ⟨s8_strips_1, hs8_strips_1, hm⟩ := bindO hm
       refine g_vstP (us := #[_, _]) RSt 1 3 (⟨x.tenant, x.lay, t139.r0, x.left⟩ : Strip) (fun w => Try.sizeOf37 w) rfl rfl rfl h108 rfl rfl rfl rfl rfl rfl h109 rfl (Option.some.inj hs8_strips_1) (fun h110 => ?_)
       refine g_se (S' := [_, _, _]) (vs' := [_, _, _]) [0, 1, 2] [0, 1, 2] 0 rfl rfl rfl rfl (g_val rfl rfl rfl (fun _ _ => v_nilCheck rfl) (g_fa 5 Try.runUnderlying77 rfl Try.sizeOf37 rfl rfl ?_))
       obtain ⟨x_1, h111, hm⟩ := bindO hm
       obtain ⟨s8_strips_2, hs8_strips_2, hm⟩ := bindO hm
       refine g_vstP (us := #[_, _]) RSt 1 5 (⟨x_1.tenant, x_1.lay, x_1.seeded, t142.r0⟩ : Strip) (fun w => Try.sizeOf37 w) rfl rfl rfl h110 rfl rfl rfl rfl rfl rfl h111 rfl (Option.some.inj hs8_strips_2) (fun h112 => ?_)
       refine g_se (S' := [_, _, _]) (vs' := [_, _, _]) [0, 1, 2] [0, 1, 2] 0 rfl rfl rfl rfl (g_nil (g_n_blk (g_n_then (g_region ?_))))
       obtain ⟨t149, h113, hm⟩ := bindO hm
       refine g_ac h113 rfl rfl rfl (g_mv rfl rfl (g_nil ?_))
       obtain rfl := sj hm
       refine g_n_then ?_
       exact g_again' _ () rfl (h112) (sE rfl) (fun w hh => hh)
     ·replace hm := ifE h83 hm
      refine g_exit (g_x_then (g_x_then (g_x_blk ?_)))
      obtain rfl := sj hm
      have hbo := h82 _ rfl
      subst hbo
      exact g_leaf () (h81) (sE rfl) (fun w hh => hh)
    ·intro l_15 hj
     have h80 := hj
     replace hm := h79
     refine g_n_then (g_sr (g_la [_, _] 1 Try.isAgg28 Try.sizeOf28 rfl rfl rfl rfl (g_mv rfl rfl (g_stSA (us := #[_, _]) (cs' := [_, _]) (S' := [_, _, _]) 2 (fun w => Try.sizeOf28 w) rfl rfl rfl rfl rfl rfl rfl (g_as rfl rfl (g_nt (g_ret ?_)))))))
     obtain rfl := sj hm
     refine g_done rfl (fun w hh => (.cell rfl (loadVar_agg (vs := [_, _]) (Try.isAgg28 _) (Try.sizeOf28 _) (hh.cells 2 rfl rfl)) (.tmp rfl .nil))) (fun w hh => ⟨(l_2, l_5.2, l_5.1), rfl, ⟨h80, h31, h29, h30⟩, hh.se [0] [1, 2, 0] 1 rfl rfl rfl rfl⟩)
def m_k_Dup_int (l0 : (List Int)) : Option (List Int) :=
 (makec 8 0 0 (l0.length : Int)).bind fun t5 =>
 (appc 8 t5 l0).bind fun t7 =>
 some t7
theorem c_k_Dup_int (l0 : (List Int)) (qa0 : Option Addr) (na0 ca0 : Nat) (w : World) (hw : HV w (keys [] []) [] [] [(aB qa0, aO qa0, RI.enc l0)] w) (hna0 : l0.length = na0) (hqa0 : AOK na0 qa0) (hla0 : na0 ≤ ca0) {res : (List Int)} (hm : m_k_Dup_int l0 = some res) :
    Calls Try.prog 136 #[.slice qa0 na0 ca0] w (fun en w' => ∃ l : VL, en = .returned (slv l.q l.n l.cap) ∧ (VOK 1 l.n l.cap (RI.enc res) l.sp l.q) ∧ HV w (keys [] []) [] [⟨3, RI.enc res, l.sp, l.q, []⟩] [] w') := by
  unfold m_k_Dup_int at hm
  refine g_en Try.func136 rfl Try.ntmps136 rfl (e := [(0, _)]) rfl hw (g_sr (g_val rfl rfl rfl (fun _ _ => v_nilS rfl) (g_nx (g_mv rfl rfl (g_val rfl rfl rfl (fun w _ => v_lenR hna0 (Try.runUnderlying32 w) rfl) ?_)))))
  obtain ⟨t5, h2, hm⟩ := bindO hm
  refine g_vmake RI 0 h2 Try.underlying32 gxinf3 rfl rfl rfl rfl rfl (fun L h3 => ?_)
  refine g_mv rfl rfl ?_
  obtain ⟨t7, h4, hm⟩ := bindO hm
  refine g_vapp RI 0 h4 Try.underlying32 gxinf3 rfl rfl rfl rfl rfl h3 rfl rfl hna0 hqa0 (fun w hh => (hh.seg 0 rfl)) rfl (fun L_1 h5 h5n => ?_)
  refine g_se (S' := []) (vs' := [_]) [] [0] 0 rfl rfl rfl rfl (g_as rfl rfl (g_nt (g_ret ?_)))
  obtain rfl := sj hm
  refine g_done rfl (fun w hh => (.tmp rfl .nil)) (fun w hh => ⟨L_1, rfl, h5, hh.se [] [0] 1 rfl rfl rfl rfl⟩)
structure m_k_DupRows_int_S0 where
  t11 : Int
  out3 : (List (List Int))
def m_k_DupRows_int_L0 (l0 : (List (List Int))) (s : m_k_DupRows_int_S0) : Option (m_k_DupRows_int_S0 ⊕ (List (List Int))) :=
 if s.t11 < (l0.length : Int) then
 ((ix l0 s.t11).bind fun t13 =>
 (m_k_Dup_int t13).bind fun t17 =>
 (appc 24 s.out3 [t17]).bind fun t19 =>
 (addc s.t11 1).bind fun t20 =>
 some (.inl (⟨t20, t19⟩ : m_k_DupRows_int_S0))) else
 (some (.inr s.out3))
def m_k_DupRows_int (l0 : (List (List Int))) : Option (List (List Int)) :=
 (makec 24 ([] : (List Int)) 0 (l0.length : Int)).bind fun t8 =>
 (iterM FU (m_k_DupRows_int_L0 l0) (⟨0, t8⟩ : m_k_DupRows_int_S0)).bind fun o =>
 some o
theorem c_k_DupRows_int (l0 : (List (List Int))) (qa0 : Option Addr) (na0 ca0 : Nat) (ar0 : List AL) (w : World) (hw : HV w (keys [] []) [] [] [(aB qa0, aO qa0, RwA.enc ar0)] w) (hna0 : l0.length = na0) (hqa0 : AOK na0 qa0) (hla0 : na0 ≤ ca0) (hda0 : DRO l0 ar0) (hTa0 : ∀ t, t ∈ rsg RI l0 ar0 → segOK w t ∧ (t.2.2 ≠ [] → t.1 ∉ keys [] [])) {res : (List (List Int))} (hm : m_k_DupRows_int l0 = some res) :
    Calls Try.prog 106 #[.slice qa0 na0 ca0] w (fun en w' => ∃ l : DL, en = .returned (slv l.v.q l.v.n l.v.cap) ∧ (VOK 1 l.v.n l.v.cap (RwH.enc l.rs) l.v.sp l.v.q ∧ DOK RI res l.rs) ∧ HV w (keys [] []) [] [⟨32, RwH.enc l.rs, l.v.sp, l.v.q, dbl 3 RI res l.rs⟩] [] w') := by
  unfold m_k_DupRows_int at hm
  refine g_en Try.func106 rfl Try.ntmps106 rfl (e := [(0, _)]) rfl hw (g_sr (g_val rfl rfl rfl (fun _ _ => v_nilS rfl) (g_nx (g_mv rfl rfl (g_val rfl rfl rfl (fun w _ => v_lenR hna0 (Try.runUnderlying29 w) rfl) ?_)))))
  obtain ⟨t8, h3, hm⟩ := bindO hm
  refine g_vmake RwH vl0 (makecL vl0 h3) Try.underlying29 gxinf32 rfl rfl rfl rfl rfl (fun L h4 => ?_)
  refine g_drep (E2 := 3) RI (Int.toNat 0) (makecO h3).1.symm (fun h5 => ?_)
  refine g_as rfl rfl (g_nt (g_seq (g_sr (g_mv rfl rfl (g_val rfl rfl rfl (fun w _ => v_lenR hna0 (Try.runUnderlying29 w) rfl) (g_mv rfl rfl (g_nt ?_)))))))
  obtain ⟨o, h6, h7⟩ := bindO hm
  refine g_cut (ι := DL) (fun l => VOK 1 l.v.n l.v.cap (RwH.enc l.rs) l.v.sp l.v.q ∧ DOK RI o l.rs) (fun l => [(3, slv l.v.q l.v.n l.v.cap)]) (fun l => []) (fun l => [⟨32, RwH.enc l.rs, l.v.sp, l.v.q, dbl 3 RI o l.rs⟩]) ?_ ?_
  ·replace hm := h6
   refine g_block ?_
   refine g_loopF (ι := DL) hm (fun s l_1 => VOK 1 l_1.v.n l_1.v.cap (RwH.enc l_1.rs) l_1.v.sp l_1.v.q ∧ DOK RI s.out3 l_1.rs) (fun s l_1 => [(3, slv l_1.v.q l_1.v.n l_1.v.cap), (9, .slice qa0 na0 ca0), (10, .int .i64 (l0.length : Int)), (11, .int .i64 s.t11)]) (fun s l_1 => []) (fun s l_1 => [⟨32, RwH.enc l_1.rs, l_1.v.sp, l_1.v.q, dbl 3 RI s.out3 l_1.rs⟩]) (⟨⟨L.q, L.n, L.cap, L.sp⟩, (List.replicate (Int.toNat 0) vl0)⟩) (⟨h4, h5⟩) (sE rfl) (fun w hh => hh) (fun s l_1 r hpl hm h12 => ?_)
   obtain ⟨h10, h11⟩ := hpl
   unfold m_k_DupRows_int_L0 at hm
   refine g_sr (g_ls rfl rfl rfl (g_nt (g_seq ?_)))
   refine g_cond rfl (fun h13 => ?_) (fun h13 => ?_)
   ·replace hm := ifD h13 hm
    refine g_skip (g_n_then (g_seq (g_block (g_sr ?_))))
    obtain ⟨t13, h14, hm⟩ := bindO hm
    obtain ⟨A, h15, h16, h17, h18⟩ := (hda0).row h14
    refine g_val rfl rfl rfl (fun w _ => v_ixR h15 (Try.runUnderlying29 w) (Try.sizeOf32 w) rfl rfl (Eq.trans (hda0).len.symm hna0) hqa0) (g_val rfl rfl rfl (fun w hh => v_ldE RwA 0 h15 (Try.isAgg32 w) rfl (hh.seg 0 rfl) rfl (Nat.add_zero _).symm) (g_as rfl rfl (g_nt (g_region (g_mv rfl rfl (g_mv rfl rfl ?_))))))
    obtain ⟨t17, h19, hm⟩ := bindO hm
    refine g_callH [] [] rfl rfl rfl rfl rfl rfl rfl Try.call136 (fun w hh => c_k_Dup_int t13 A.a A.n A.cap w (HV.callee (S0 := []) (vs0 := []) hh (roC (hh.oldsep (S0 := []) (vs0 := []) (hTa0 _ (rsg_ix h14 h15))) roN)) h16 h17 h18 h19) (fun l_2 h20 => ?_)
    have h21 := h20
    refine g_se (S' := []) (vs' := [_, _]) [] [0, 1] 0 rfl rfl rfl rfl ?_
    refine g_vlit RwH [(⟨l_2.q, l_2.n, l_2.cap, l_2.sp⟩ : VL)] (ps := [(0, _)]) (cells := [_]) (fun w => Try.runUnderlying29 w) (fun w => Try.sizeOf32 w) (fun w => Try.zeroValue32 w) rfl rfl rfl rfl rfl rfl rfl rfl (fun L_1 h22 => ?_)
    refine g_drep (E2 := 3) RI 1 (rfl : _ = ([[]] : List (List Int))) (fun h23 => ?_)
    refine g_se (S' := []) (vs' := [_, _, _]) [] [0, 1, 2] 0 rfl rfl rfl rfl ?_
    refine g_dput RI (l' := [t17]) 0 l_2.n l_2.cap h23 h21 rfl rfl (fun h24 => ?_)
    have h25 : DOK RI [t17] [(⟨l_2.q, l_2.n, l_2.cap, l_2.sp⟩ : VL)] := h24
    refine g_sel (S' := []) (vs' := [⟨32, RwH.enc [(⟨l_2.q, l_2.n, l_2.cap, l_2.sp⟩ : VL)], L_1.sp, L_1.q, dbl 3 RI [t17] [(⟨l_2.q, l_2.n, l_2.cap, l_2.sp⟩ : VL)]⟩, ⟨32, RwH.enc l_1.rs, l_1.v.sp, l_1.v.q, dbl 3 RI s.out3 l_1.rs⟩]) [] [0, 1] 0 (by decide) (by decide) rfl rfl rfl ?_
    obtain ⟨t19, h26, hm⟩ := bindO hm
    refine g_vapp RwH 1 (appcL h26 (h11).len (h25).len) Try.underlying29 gxinf32 rfl rfl rfl rfl rfl h10 rfl rfl (vlen RwH h22 rfl) (AOK.q (vne h22)) (fun w hh => (hh.vsegA 0 rfl h22)) rfl (fun L_2 h27 _ => ?_)
    refine g_se (S' := []) (vs' := [_, _]) [] [0, 1] 0 rfl rfl rfl rfl (g_se (S' := []) (vs' := [_, _]) [] [1, 0] 0 rfl rfl rfl rfl ?_)
    refine g_djoin RI h11 h25 (appcO h26).1.symm (fun h28 => ?_)
    refine g_as rfl rfl (g_nil (g_n_blk (g_n_then (g_region ?_))))
    obtain ⟨t20, h29, hm⟩ := bindO hm
    refine g_ac h29 rfl rfl rfl (g_mv rfl rfl (g_nil ?_))
    obtain rfl := sj hm
    refine g_n_then ?_
    exact g_again' _ (⟨⟨L_2.q, L_2.n, L_2.cap, L_2.sp⟩, (l_1.rs ++ [(⟨l_2.q, l_2.n, l_2.cap, l_2.sp⟩ : VL)])⟩) rfl (⟨h27, h28⟩) (sE rfl) (fun w hh => hh)
   ·replace hm := ifE h13 hm
    refine g_exit (g_x_then (g_x_then (g_x_blk ?_)))
    obtain rfl := sj hm
    have hbo := h12 _ rfl
    subst hbo
    exact g_leaf l_1 (⟨h10, h11⟩) (sE rfl) (fun w hh => hh)
  ·intro l hj
   obtain ⟨h8, h9⟩ := hj
   replace hm := h7
   refine g_n_then (g_sr (g_mv rfl rfl (g_as rfl rfl (g_nt (g_ret ?_)))))
   obtain rfl := sj hm
   refine g_done rfl (fun w hh => (.tmp rfl .nil)) (fun w hh => ⟨l, rfl, ⟨h8, h9⟩, hh.se [] [0] 1 rfl rfl rfl rfl⟩)
structure m_l_turned_1_R where
  b0_1 : Int
  b0_2 : Int
  r0 : (List (List Int))
structure m_l_turned_1_C0 where
  b0_1 : Int
  b0_2 : Int
  r0 : (List (List Int))
structure m_l_turned_1_S0 where
  t14 : Int
  b0_1 : Int
  b0_2 : Int
  r0 : (List (List Int))
structure m_l_turned_1_C1 where
  b0_1 : Int
  b0_2 : Int
  r0 : (List (List Int))
def m_l_turned_1_L0 (t13 : m_k_Heap_From_1_R) (b00 : (List Int)) (s : m_l_turned_1_S0) : Option (m_l_turned_1_S0 ⊕ m_l_turned_1_C0) :=
 if s.t14 < t13.r0 then
 (((subc (s.r0.length : Int) 1).bind fun t19 =>
 (ix s.r0 0).bind fun t23 =>
 (subc (t23.length : Int) 1).bind fun t26 =>
 (m_k_Heap_Upto_1 b00 s.b0_1 s.b0_2 t19).bind fun t20 =>
 (m_k_Heap_Upto_1 b00 t20.h0_1 t20.h0_2 t26).bind fun t27 =>
 (subc (s.r0.length : Int) 1).bind fun t31 =>
 (ix s.r0 0).bind fun t35 =>
 (subc (t35.length : Int) 1).bind fun t38 =>
 (m_k_Heap_Upto_1 b00 t27.h0_1 t27.h0_2 t31).bind fun t32 =>
 (m_k_Heap_Upto_1 b00 t32.h0_1 t32.h0_2 t38).bind fun t39 =>
 (ix s.r0 t20.r0).bind fun t42 =>
 (ix t42 t27.r0).bind fun t45 =>
 if 0 < t45 then
 ((ix s.r0 t20.r0).bind fun t50 =>
 (ix t50 t27.r0).bind fun t53 =>
 (subc t53 1).bind fun t55 =>
 (ix t50 t27.r0).bind fun t56 =>
 (some (t50.set (Int.toNat t27.r0) t55)).bind fun row =>
 (some (s.r0.set (Int.toNat t20.r0) row)).bind fun r0 =>
 (ix r0 t32.r0).bind fun t59 =>
 (ix t59 t39.r0).bind fun t62 =>
 (addc t62 1).bind fun t64 =>
 (ix t59 t39.r0).bind fun t65 =>
 (some (t59.set (Int.toNat t39.r0) t64)).bind fun row_1 =>
 (some (r0.set (Int.toNat t32.r0) row_1)).bind fun r0_1 =>
 some (⟨t39.h0_1, t39.h0_2, r0_1⟩ : m_l_turned_1_C1)) else
 (some (⟨t39.h0_1, t39.h0_2, s.r0⟩ : m_l_turned_1_C1))).bind fun o_1 =>
 (addc s.t14 1).bind fun t66 =>
 some (.inl (⟨t66, o_1.b0_1, o_1.b0_2, o_1.r0⟩ : m_l_turned_1_S0))) else
 (some (.inr (⟨s.b0_1, s.b0_2, s.r0⟩ : m_l_turned_1_C0)))
def m_l_turned_1 (b00 : (List Int)) (b01 : Int) (b02 : Int) (shares1 : (List (List Int))) : Option m_l_turned_1_R :=
 (m_k_DupRows_int shares1).bind fun t11 =>
 (m_k_Heap_From_1 b00 b01 b02 1 3).bind fun t13 =>
 (iterM FU (m_l_turned_1_L0 t13 b00) (⟨0, t13.h0_1, t13.h0_2, t11⟩ : m_l_turned_1_S0)).bind fun o =>
 some (⟨o.b0_1, o.b0_2, o.r0⟩ : m_l_turned_1_R)
theorem c_l_turned_1 (b00 : (List Int)) (b01 : Int) (b02 : Int) (shares1 : (List (List Int))) (pb : Nat) (qa0 : Option Addr) (na0 ca0 : Nat) (qa1 : Option Addr) (na1 ca1 : Nat) (ar1 : List AL) (w : World) (hw : HV w (keys [(pb, .cells #[.slice qa0 na0 ca0, .int .i64 b01, .int .u32 b02] 105 (0, 0))] []) [(pb, .cells #[.slice qa0 na0 ca0, .int .i64 b01, .int .u32 b02] 105 (0, 0))] [] [(aB qa0, aO qa0, RU8.enc b00), (aB qa1, aO qa1, RwA.enc ar1)] w) (hna0 : b00.length = na0) (hqa0 : AOK na0 qa0) (hla0 : na0 ≤ ca0) (hna1 : shares1.length = na1) (hqa1 : AOK na1 qa1) (hla1 : na1 ≤ ca1) (hda1 : DRO shares1 ar1) (hTa1 : ∀ t, t ∈ rsg RI shares1 ar1 → segOK w t ∧ (t.2.2 ≠ [] → t.1 ∉ keys [(pb, .cells #[.slice qa0 na0 ca0, .int .i64 b01, .int .u32 b02] 105 (0, 0))] [])) {res : m_l_turned_1_R} (hm : m_l_turned_1 b00 b01 b02 shares1 = some res) :
    Calls Try.prog 49 #[ptr pb 0, .slice qa1 na1 ca1] w (fun en w' => ∃ l : DL, en = .returned (slv l.v.q l.v.n l.v.cap) ∧ (VOK 1 l.v.n l.v.cap (RwH.enc l.rs) l.v.sp l.v.q ∧ DOK RI res.r0 l.rs) ∧ HV w (keys [(pb, .cells #[.slice qa0 na0 ca0, .int .i64 b01, .int .u32 b02] 105 (0, 0))] []) [(pb, .cells #[.slice qa0 na0 ca0, .int .i64 res.b0_1, .int .u32 res.b0_2] 105 (0, 0))] [⟨32, RwH.enc l.rs, l.v.sp, l.v.q, dbl 3 RI res.r0 l.rs⟩] [] w') := by
  unfold m_l_turned_1 at hm
  refine g_en Try.func49 rfl Try.ntmps49 rfl (e := [(0, _), (1, _)]) rfl hw (g_sr (g_val rfl rfl rfl (fun _ _ => v_nilS rfl) (g_nx (g_mv rfl rfl ?_))))
  obtain ⟨t11, h3, hm⟩ := bindO hm
  refine g_callH [] [] rfl rfl rfl rfl rfl rfl rfl Try.call106 (fun w hh => c_k_DupRows_int shares1 qa1 na1 ca1 ar1 w (HV.callee (S0 := []) (vs0 := []) hh (roR hh 1 rfl roN)) hna1 hqa1 hla1 hda1 (hh.oldT (S0 := []) (vs0 := []) hTa1) h3) (fun l h4 => ?_)
  obtain ⟨h5, h6⟩ := h4
  refine g_se (S' := [_]) (vs' := [_]) [0] [0] 0 rfl rfl rfl rfl (g_as rfl rfl (g_nt (g_seq (g_sr (g_mv rfl rfl ?_)))))
  obtain ⟨t13, h7, hm⟩ := bindO hm
  refine g_callH [_] [] rfl rfl rfl rfl rfl rfl rfl Try.call42 (fun w hh => c_k_Heap_From_1 b00 b01 b02 1 3 pb qa0 na0 ca0 w (HV.callee (S0 := [_]) (vs0 := []) hh (roR hh 0 rfl roN)) hna0 hqa0 hla0 h7) (fun l_1 h8 => ?_)
  refine g_se (S' := [_]) (vs' := [_]) [0] [0] 0 rfl rfl rfl rfl (g_mv rfl rfl (g_nt ?_))
  obtain ⟨o, h9, h10⟩ := bindO hm
  refine g_cut (ι := Unit) (fun l_2 => DOK RI o.r0 l.rs) (fun l_2 => [(5, slv l.v.q l.v.n l.v.cap)]) (fun l_2 => [(pb, .cells #[.slice qa0 na0 ca0, .int .i64 o.b0_1, .int .u32 o.b0_2] 105 (0, 0))]) (fun l_2 => [⟨32, RwH.enc l.rs, l.v.sp, l.v.q, dbl 3 RI o.r0 l.rs⟩]) ?_ ?_
  ·replace hm := h9
   refine g_block ?_
   refine g_loopF (ι := Unit) hm (fun s l_3 => DOK RI s.r0 l.rs) (fun s l_3 => [(0, ptr pb 0), (5, slv l.v.q l.v.n l.v.cap), (13, .int .i64 t13.r0), (14, .int .i64 s.t14)]) (fun s l_3 => [(pb, .cells #[.slice qa0 na0 ca0, .int .i64 s.b0_1, .int .u32 s.b0_2] 105 (0, 0))]) (fun s l_3 => [⟨32, RwH.enc l.rs, l.v.sp, l.v.q, dbl 3 RI s.r0 l.rs⟩]) () (h6) (sE rfl) (fun w hh => hh) (fun s l_3 r hpl hm h13 => ?_)
   have h12 := hpl
   unfold m_l_turned_1_L0 at hm
   refine g_sr (g_ls rfl rfl rfl (g_nt (g_seq ?_)))
   refine g_cond rfl (fun h14 => ?_) (fun h14 => ?_)
   ·replace hm := ifD h14 hm
    refine g_skip (g_n_then (g_seq ?_))
    obtain ⟨o_1, h15, h16⟩ := bindO hm
    refine g_cut (ι := Unit) (fun l_4 => DOK RI o_1.r0 l.rs) (fun l_4 => [(0, ptr pb 0), (5, slv l.v.q l.v.n l.v.cap), (13, .int .i64 t13.r0), (14, .int .i64 s.t14)]) (fun l_4 => [(pb, .cells #[.slice qa0 na0 ca0, .int .i64 o_1.b0_1, .int .u32 o_1.b0_2] 105 (0, 0))]) (fun l_4 => [⟨32, RwH.enc l.rs, l.v.sp, l.v.q, dbl 3 RI o_1.r0 l.rs⟩]) ?_ ?_
    ·replace hm := h15
     refine g_block (g_seq ?_)
     refine g_draw none (.free 0 (.free 1 (.free 2 (.free 3 (.free 5 (.free 6 (.free 7 (.hoist 8 (.free 9 (.free 10 (.one 4 (.one 11 (.free 12 (.free 13 .done)))))))))))))) (HV _ _ [] [⟨32, RwH.enc l.rs, l.v.sp, l.v.q, dbl 3 RI s.r0 l.rs⟩] _) rfl (by decide +kernel) (fun w k hh => hh.draw k) (hsE [] [0] 0 rfl rfl rfl rfl) ?_
     refine p_mv rfl rfl rfl (p_mv rfl rfl rfl (p_free rfl rfl rfl rfl (fun w _ => v_lenN (Eq.trans (h12).len (vlen RwH h5 rfl)) (Try.runUnderlying29 w) rfl) ?_))
     obtain ⟨t19, h18, hm⟩ := bindO hm
     refine p_free rfl rfl rfl rfl (fun _ _ => v_subc h18 rfl rfl) (p_mv rfl rfl rfl (p_mv rfl rfl rfl ?_))
     obtain ⟨t23, h19, hm⟩ := bindO hm
     obtain ⟨L, h20, h21⟩ := (h12).row h19
     refine p_free rfl rfl rfl rfl (fun w _ => v_ixA h20 (Try.runUnderlying29 w) (Try.sizeOf32 w) rfl rfl (vlen RwH h5 rfl) (vne h5)) (p_hoist rfl rfl rfl rfl (fun w hh => v_ldE RwH 0 h20 (Try.isAgg32 w) rfl (hh.vseg 0 rfl h5) rfl (Nat.add_zero _).symm) (p_free rfl rfl rfl rfl (fun w _ => v_lenN (vlen RI h21 rfl) (Try.runUnderlying32 w) rfl) ?_))
     obtain ⟨t26, h22, hm⟩ := bindO hm
     refine p_free rfl rfl rfl rfl (fun _ _ => v_subc h22 rfl rfl) (p_one rfl ?_)
     obtain ⟨t20, h23, hm⟩ := bindO hm
     refine g_callH [_] [] rfl rfl rfl rfl rfl rfl rfl Try.call33 (fun w hh => c_k_Heap_Upto_1 b00 s.b0_1 s.b0_2 t19 pb qa0 na0 ca0 w (HV.callee (S0 := [_]) (vs0 := []) hh (roR hh 0 rfl roN)) hna0 hqa0 hla0 h23) (fun l_5 h24 => ?_)
     refine g_se (S' := [_]) (vs' := [_]) [0] [0] 0 rfl rfl rfl rfl (p_next (hsE [] [0] 0 rfl rfl rfl rfl) (p_one rfl ?_))
     obtain ⟨t27, h25, hm⟩ := bindO hm
     refine g_callH [_] [] rfl rfl rfl rfl rfl rfl rfl Try.call33 (fun w hh => c_k_Heap_Upto_1 b00 t20.h0_1 t20.h0_2 t26 pb qa0 na0 ca0 w (HV.callee (S0 := [_]) (vs0 := []) hh (roR hh 0 rfl roN)) hna0 hqa0 hla0 h25) (fun l_6 h26 => ?_)
     refine g_se (S' := [_]) (vs' := [_]) [0] [0] 0 rfl rfl rfl rfl (p_next (hsE [] [0] 0 rfl rfl rfl rfl) (p_free rfl rfl rfl rfl (fun _ _ => v_assign rfl) (p_free rfl rfl rfl rfl (fun _ _ => v_assign rfl) (p_done (g_n_then (g_seq ?_))))))
     refine g_draw none (.free 0 (.free 1 (.free 2 (.free 3 (.free 5 (.free 6 (.free 7 (.hoist 8 (.free 9 (.free 10 (.one 4 (.one 11 (.free 12 (.free 13 .done)))))))))))))) (HV _ _ [] [⟨32, RwH.enc l.rs, l.v.sp, l.v.q, dbl 3 RI s.r0 l.rs⟩] _) rfl (by decide +kernel) (fun w k hh => hh.draw k) (hsE [] [0] 0 rfl rfl rfl rfl) ?_
     refine p_mv rfl rfl rfl (p_mv rfl rfl rfl (p_free rfl rfl rfl rfl (fun w _ => v_lenN (Eq.trans (h12).len (vlen RwH h5 rfl)) (Try.runUnderlying29 w) rfl) ?_))
     obtain ⟨t31, h27, hm⟩ := bindO hm
     refine p_free rfl rfl rfl rfl (fun _ _ => v_subc h27 rfl rfl) (p_mv rfl rfl rfl (p_mv rfl rfl rfl ?_))
     obtain ⟨t35, h28, hm⟩ := bindO hm
     obtain ⟨L_1, h29, h30⟩ := (h12).row h28
     refine p_free rfl rfl rfl rfl (fun w _ => v_ixA h29 (Try.runUnderlying29 w) (Try.sizeOf32 w) rfl rfl (vlen RwH h5 rfl) (vne h5)) (p_hoist rfl rfl rfl rfl (fun w hh => v_ldE RwH 0 h29 (Try.isAgg32 w) rfl (hh.vseg 0 rfl h5) rfl (Nat.add_zero _).symm) (p_free rfl rfl rfl rfl (fun w _ => v_lenN (vlen RI h30 rfl) (Try.runUnderlying32 w) rfl) ?_))
     obtain ⟨t38, h31, hm⟩ := bindO hm
     refine p_free rfl rfl rfl rfl (fun _ _ => v_subc h31 rfl rfl) (p_one rfl ?_)
     obtain ⟨t32, h32, hm⟩ := bindO hm
     refine g_callH [_] [] rfl rfl rfl rfl rfl rfl rfl Try.call33 (fun w hh => c_k_Heap_Upto_1 b00 t27.h0_1 t27.h0_2 t31 pb qa0 na0 ca0 w (HV.callee (S0 := [_]) (vs0 := []) hh (roR hh 0 rfl roN)) hna0 hqa0 hla0 h32) (fun l_7 h33 => ?_)
     refine g_se (S' := [_]) (vs' := [_]) [0] [0] 0 rfl rfl rfl rfl (p_next (hsE [] [0] 0 rfl rfl rfl rfl) (p_one rfl ?_))
     obtain ⟨t39, h34, hm⟩ := bindO hm
     refine g_callH [_] [] rfl rfl rfl rfl rfl rfl rfl Try.call33 (fun w hh => c_k_Heap_Upto_1 b00 t32.h0_1 t32.h0_2 t38 pb qa0 na0 ca0 w (HV.callee (S0 := [_]) (vs0 := []) hh (roR hh 0 rfl roN)) hna0 hqa0 hla0 h34) (fun l_8 h35 => ?_)
     refine g_se (S' := [_]) (vs' := [_]) [0] [0] 0 rfl rfl rfl rfl (p_next (hsE [] [0] 0 rfl rfl rfl rfl) (p_free rfl rfl rfl rfl (fun _ _ => v_assign rfl) (p_free rfl rfl rfl rfl (fun _ _ => v_assign rfl) (p_done (g_n_then (g_sr (g_mv rfl rfl ?_)))))))
     refine g_mv rfl rfl ?_
     obtain ⟨t42, h36, hm⟩ := bindO hm
     obtain ⟨L_2, h37, h38⟩ := (h12).row h36
     refine g_val rfl rfl rfl (fun w _ => v_ixA h37 (Try.runUnderlying29 w) (Try.sizeOf32 w) rfl rfl (vlen RwH h5 rfl) (vne h5)) (g_val rfl rfl rfl (fun w hh => v_ldE RwH 0 h37 (Try.isAgg32 w) rfl (hh.vseg 0 rfl h5) rfl (Nat.add_zero _).symm) (g_mv rfl rfl ?_))
     obtain ⟨t45, h39, hm⟩ := bindO hm
     refine g_val rfl rfl rfl (fun w _ => v_ixA h39 (Try.runUnderlying32 w) (Try.sizeOf3 w) rfl rfl (vlen RI h38 rfl) (vne h38)) (g_val rfl rfl rfl (fun w hh => v_ldE RI 0 h39 (Try.isAgg3 w) rfl (hh.dseg 0 rfl h36 h37 h38) rfl (Nat.add_zero _).symm) (g_val rfl rfl rfl (fun _ _ => v_gtr rfl rfl) (g_nt ?_)))
     refine g_cond rfl (fun h40 => ?_) (fun h40 => ?_)
     ·replace hm := ifD h40 hm
      refine g_sr (g_mv rfl rfl (g_mv rfl rfl ?_))
      obtain ⟨t50, h41, hm⟩ := bindO hm
      obtain ⟨L_3, h42, h43⟩ := (h12).row h41
      refine g_val rfl rfl rfl (fun w _ => v_ixA h42 (Try.runUnderlying29 w) (Try.sizeOf32 w) rfl rfl (vlen RwH h5 rfl) (vne h5)) (g_val rfl rfl rfl (fun w hh => v_ldE RwH 0 h42 (Try.isAgg32 w) rfl (hh.vseg 0 rfl h5) rfl (Nat.add_zero _).symm) (g_mv rfl rfl ?_))
      obtain ⟨t53, h44, hm⟩ := bindO hm
      refine g_val rfl rfl rfl (fun w _ => v_ixA h44 (Try.runUnderlying32 w) (Try.sizeOf3 w) rfl rfl (vlen RI h43 rfl) (vne h43)) (g_val rfl rfl rfl (fun w hh => v_ldE RI 0 h44 (Try.isAgg3 w) rfl (hh.dseg 0 rfl h41 h42 h43) rfl (Nat.add_zero _).symm) ?_)
      obtain ⟨t55, h45, hm⟩ := bindO hm
      refine g_val rfl rfl rfl (fun _ _ => v_subc h45 rfl rfl) ?_
      obtain ⟨t56, h46, hm⟩ := bindO hm
      refine g_val rfl rfl rfl (fun w _ => v_ixA h46 (Try.runUnderlying32 w) (Try.sizeOf3 w) rfl rfl (vlen RI h43 rfl) (vne h43)) ?_
      obtain ⟨row, hrow, hm⟩ := bindO hm
      obtain ⟨r0, hr0, hm⟩ := bindO hm
      refine g_se (S' := [_]) (vs' := [_]) [0] [0] 0 rfl rfl rfl rfl ?_
      refine g_dtake RI t20.r0 h12 h41 h42 (fun _ => ?_)
      refine g_vst RI 1 0 t55 (fun w => Try.sizeOf3 w) rfl rfl rfl rfl h43 rfl (Nat.add_zero _).symm rfl h46 rfl rfl (Option.some.inj hrow) (fun h47 => ?_)
      refine g_se (S' := [_]) (vs' := [_, _]) [0] [0, 1] 0 rfl rfl rfl rfl ?_
      refine g_dback RI t20.r0 h12 h41 h42 h47 (Option.some.inj hr0) (fun h48 => ?_)
      refine g_nt (g_region (g_mv rfl rfl (g_mv rfl rfl ?_)))
      obtain ⟨t59, h49, hm⟩ := bindO hm
      obtain ⟨L_4, h50, h51⟩ := (h48).row h49
      refine g_val rfl rfl rfl (fun w _ => v_ixA h50 (Try.runUnderlying29 w) (Try.sizeOf32 w) rfl rfl (vlen RwH h5 rfl) (vne h5)) (g_val rfl rfl rfl (fun w hh => v_ldE RwH 0 h50 (Try.isAgg32 w) rfl (hh.vseg 0 rfl h5) rfl (Nat.add_zero _).symm) (g_mv rfl rfl ?_))
      obtain ⟨t62, h52, hm⟩ := bindO hm
      refine g_val rfl rfl rfl (fun w _ => v_ixA h52 (Try.runUnderlying32 w) (Try.sizeOf3 w) rfl rfl (vlen RI h51 rfl) (vne h51)) (g_val rfl rfl rfl (fun w hh => v_ldE RI 0 h52 (Try.isAgg3 w) rfl (hh.dseg 0 rfl h49 h50 h51) rfl (Nat.add_zero _).symm) ?_)
      obtain ⟨t64, h53, hm⟩ := bindO hm
      refine g_ac h53 rfl rfl rfl ?_
      obtain ⟨t65, h54, hm⟩ := bindO hm
      refine g_val rfl rfl rfl (fun w _ => v_ixA h54 (Try.runUnderlying32 w) (Try.sizeOf3 w) rfl rfl (vlen RI h51 rfl) (vne h51)) ?_
      obtain ⟨row_1, hrow_1, hm⟩ := bindO hm
      obtain ⟨r0_1, hr0_1, hm⟩ := bindO hm
      refine g_se (S' := [_]) (vs' := [_]) [0] [0] 0 rfl rfl rfl rfl ?_
      refine g_dtake RI t32.r0 h48 h49 h50 (fun _ => ?_)
      refine g_vst RI 1 0 t64 (fun w => Try.sizeOf3 w) rfl rfl rfl rfl h51 rfl (Nat.add_zero _).symm rfl h54 rfl rfl (Option.some.inj hrow_1) (fun h55 => ?_)
      refine g_se (S' := [_]) (vs' := [_, _]) [0] [0, 1] 0 rfl rfl rfl rfl ?_
      refine g_dback RI t32.r0 h48 h49 h50 h55 (Option.some.inj hr0_1) (fun h56 => ?_)
      refine g_nil (g_n_blk ?_)
      obtain rfl := sj hm
      exact g_leaf () (h56) (sE rfl) (fun w hh => hh)
     ·replace hm := ifE h40 hm
      refine g_skip (g_n_blk ?_)
      obtain rfl := sj hm
      exact g_leaf () (h12) (sE rfl) (fun w hh => hh)
    ·intro l_4 hj
     have h17 := hj
     replace hm := h16
     refine g_n_then (g_region ?_)
     obtain ⟨t66, h57, hm⟩ := bindO hm
     refine g_ac h57 rfl rfl rfl (g_mv rfl rfl (g_nil ?_))
     obtain rfl := sj hm
     refine g_n_then ?_
     exact g_again' _ () rfl (h17) (sE rfl) (fun w hh => hh)
   ·replace hm := ifE h14 hm
    refine g_exit (g_x_then (g_x_then (g_x_blk ?_)))
    obtain rfl := sj hm
    have hbo := h13 _ rfl
    subst hbo
    exact g_leaf () (h12) (sE rfl) (fun w hh => hh)
  ·intro l_2 hj
   have h11 := hj
   replace hm := h10
   refine g_n_then (g_sr (g_mv rfl rfl (g_as rfl rfl (g_nt (g_ret ?_)))))
   obtain rfl := sj hm
   refine g_done rfl (fun w hh => (.tmp rfl .nil)) (fun w hh => ⟨l, rfl, ⟨h5, h11⟩, hh.se [0] [0] 2 rfl rfl rfl rfl⟩)
def m_s_Fits_1_1 (n0 : Int) : Option Bool :=
 (m_s_in n0 0 60).bind fun t4 =>
 some t4
theorem c_s_Fits_1_1 (n0 : Int)  (w : World) (hw : HV w (keys [] []) [] [] [] w)  {res : Bool} (hm : m_s_Fits_1_1 n0 = some res) :
    Calls Try.prog 109 #[.int .i64 n0] w (fun en w' => ∃ l : Unit, en = .returned (.bool res) ∧ (True) ∧ HV w (keys [] []) [] [] [] w') := by
  unfold m_s_Fits_1_1 at hm
  refine g_en Try.func109 rfl Try.ntmps109 rfl (e := [(0, _)]) rfl hw (g_sr (g_as rfl rfl (g_nx (g_mv rfl rfl ?_))))
  obtain ⟨t4, h1, hm⟩ := bindO hm
  refine g_callH [] [] rfl rfl rfl rfl rfl rfl rfl Try.call57 (fun w hh => c_s_in n0 0 60 w (HV.callee (S0 := []) (vs0 := []) hh roN)  h1) (fun l h2 => ?_)
  refine g_as rfl rfl (g_nt (g_ret ?_))
  obtain rfl := sj hm
  refine g_done rfl (fun w hh => (.tmp rfl .nil)) (fun w hh => ⟨(), rfl, trivial, hh⟩)
def m_s_every_int_1_4 (x0 : Int) : Option Bool :=
 (m_s_Fits_1_1 x0).bind fun t6 =>
 some (!t6)
theorem c_s_every_int_1_4 (x0 : Int) (rb : Nat) (w : World) (hw : HV w (keys [] []) [] [] [(rb, 0, [.func (.func 109) #[] #[]])] w)  {res : Bool} (hm : m_s_every_int_1_4 x0 = some res) :
    Calls Try.prog 128 #[.int .i64 x0, ptr rb 0] w (fun en w' => ∃ l : Unit, en = .returned (.bool res) ∧ (True) ∧ HV w (keys [] []) [] [] [] w') := by
  unfold m_s_every_int_1_4 at hm
  refine g_en Try.func128 rfl Try.ntmps128 rfl (e := [(0, _), (1, _)]) rfl hw (g_sr (g_as rfl rfl (g_nx (g_val rfl rfl rfl (fun w hh => v_load (Try.isAgg71 w) rfl (segCell (hh.seg 0 rfl) 0 rfl)) (g_mv rfl rfl ?_)))))
  obtain ⟨t6, h1, hm⟩ := bindO hm
  refine g_callH [] [] rfl rfl rfl rfl rfl rfl rfl Try.call109 (fun w hh => c_s_Fits_1_1 x0 w (HV.callee (S0 := []) (vs0 := []) hh roN)  h1) (fun l h2 => ?_)
  refine g_val rfl rfl rfl (fun _ _ => v_not rfl) (g_as rfl rfl (g_nt (g_ret ?_)))
  obtain rfl := sj hm
  refine g_done rfl (fun w hh => (.tmp rfl .nil)) (fun w hh => ⟨(), rfl, trivial, hh.se [] [] 1 rfl rfl rfl rfl⟩)
def m_sl_IndexFunc_intint_7_L0 (s0 : (List Int)) (s : Int) : Option (Int ⊕ (Unit ⊕ Int)) :=
 if s < (s0.length : Int) then
 ((ix s0 s).bind fun t14 =>
 (m_s_every_int_1_4 t14).bind fun t16 =>
 if t16 = true then
 (some (.inr (.inr s))) else
 ((addc s 1).bind fun t18 =>
 some (.inl t18))) else
 (some (.inr (.inl ())))
def m_sl_IndexFunc_intint_7 (s0 : (List Int)) : Option Int :=
 (iterM FU (m_sl_IndexFunc_intint_7_L0 s0) 0).bind fun o =>
 oc o (fun j => some (-1)) (fun r_1 => some r_1)
theorem c_sl_IndexFunc_intint_7 (s0 : (List Int)) (qa0 : Option Addr) (na0 ca0 : Nat) (rb : Nat) (w : World) (hw : HV w (keys [] []) [] [] [(aB qa0, aO qa0, RI.enc s0), (rb, 0, [.func (.func 109) #[] #[]])] w) (hna0 : s0.length = na0) (hqa0 : AOK na0 qa0) (hla0 : na0 ≤ ca0)  {res : Int} (hm : m_sl_IndexFunc_intint_7 s0 = some res) :
    Calls Try.prog 146 #[.slice qa0 na0 ca0, .func (.func 128) #[] #[ptr rb 0]] w (fun en w' => ∃ l : Unit, en = .returned (.int .i64 res) ∧ (True) ∧ HV w (keys [] []) [] [] [] w') := by
  unfold m_sl_IndexFunc_intint_7 at hm
  refine g_en Try.func146 rfl Try.ntmps146 rfl (e := [(0, _), (1, _)]) rfl hw (g_sr (g_as rfl rfl (g_nt (g_seq (g_sr (g_mv rfl rfl (g_val rfl rfl rfl (fun w _ => v_lenR hna0 (Try.runUnderlying32 w) rfl) ?_)))))))
  refine g_mv rfl rfl (g_nt ?_)
  obtain ⟨o, h1, h2⟩ := bindO hm
  refine g_cut (ι := Unit) (fun j => o = .inl j) (fun j => []) (fun j => []) (fun j => []) ?_ ?_
  ·replace hm := h1
   refine g_block ?_
   refine g_loopF (ι := Unit) hm (fun s l => True) (fun s l => [(0, .slice qa0 na0 ca0), (1, .func (.func 128) #[] #[ptr rb 0]), (7, .int .i64 (s0.length : Int)), (8, .int .i64 s)]) (fun s l => []) (fun s l => []) () (trivial) (sE rfl) (fun w hh => hh) (fun s l r hpl hm h3 => ?_)
   unfold m_sl_IndexFunc_intint_7_L0 at hm
   refine g_sr (g_ls rfl rfl rfl (g_nt (g_seq ?_)))
   refine g_cond rfl (fun h4 => ?_) (fun h4 => ?_)
   ·replace hm := ifD h4 hm
    refine g_skip (g_n_then (g_seq (g_block (g_sr (g_mv rfl rfl (g_as rfl rfl (g_nx ?_)))))))
    refine g_mv rfl rfl (g_mv rfl rfl (g_mv rfl rfl ?_))
    obtain ⟨t14, h5, hm⟩ := bindO hm
    refine g_val rfl rfl rfl (fun w _ => v_ixR h5 (Try.runUnderlying32 w) (Try.sizeOf3 w) rfl rfl hna0 hqa0) (g_val rfl rfl rfl (fun w hh => v_ldE RI 0 h5 (Try.isAgg3 w) rfl (hh.seg 0 rfl) rfl (Nat.add_zero _).symm) ?_)
    obtain ⟨t16, h6, hm⟩ := bindO hm
    refine g_callH [] [] rfl rfl rfl rfl rfl rfl rfl Try.call128 (fun w hh => c_s_every_int_1_4 t14 rb w (HV.callee (S0 := []) (vs0 := []) hh (roR hh 1 rfl roN))  h6) (fun l_1 h7 => ?_)
    refine g_nt ?_
    refine g_cond rfl (fun h8 => ?_) (fun h8 => ?_)
    ·replace hm := ifT (h8) hm
     refine g_sr (g_mv rfl rfl (g_as rfl rfl (g_nt (g_ret (g_r_blk (g_r_then (g_r_then ?_)))))))
     refine g_r_blk ?_
     obtain rfl := sj hm
     have hbo := h3 _ rfl
     subst hbo
     refine g_r_then ?_
     replace hm := ocR h2
     refine g_r_then ?_
     obtain rfl := sj hm
     refine g_done rfl (fun w hh => (.tmp rfl .nil)) (fun w hh => ⟨(), rfl, trivial, hh.se [] [] 2 rfl rfl rfl rfl⟩)
    ·replace hm := ifN h8 hm
     refine g_skip (g_n_blk (g_n_then (g_region ?_)))
     obtain ⟨t18, h9, hm⟩ := bindO hm
     refine g_ac h9 rfl rfl rfl (g_mv rfl rfl (g_nil ?_))
     obtain rfl := sj hm
     refine g_n_then ?_
     exact g_again' _ () rfl (trivial) (sE rfl) (fun w hh => hh)
   ·replace hm := ifE h4 hm
    refine g_exit (g_x_then (g_x_then (g_x_blk ?_)))
    obtain rfl := sj hm
    have hbo := h3 _ rfl
    subst hbo
    exact g_leaf () (rfl) (.nil) (fun w hh => hh)
  ·intro j hj
   have h10 := hj
   subst h10
   replace hm := ocL h2
   refine g_n_then (g_sr (g_as rfl rfl (g_nt (g_ret ?_))))
   obtain rfl := sj hm
   refine g_done rfl (fun w hh => (.tmp rfl .nil)) (fun w hh => ⟨(), rfl, trivial, hh.se [] [] 2 rfl rfl rfl rfl⟩)
def m_sl_ContainsFunc_intint_7 (s0 : (List Int)) : Option Bool :=
 (m_sl_IndexFunc_intint_7 s0).bind fun t7 =>
 some (decide (0 ≤ t7))
theorem c_sl_ContainsFunc_intint_7 (s0 : (List Int)) (qa0 : Option Addr) (na0 ca0 : Nat) (rb : Nat) (w : World) (hw : HV w (keys [] []) [] [] [(aB qa0, aO qa0, RI.enc s0), (rb, 0, [.func (.func 109) #[] #[]])] w) (hna0 : s0.length = na0) (hqa0 : AOK na0 qa0) (hla0 : na0 ≤ ca0)  {res : Bool} (hm : m_sl_ContainsFunc_intint_7 s0 = some res) :
    Calls Try.prog 127 #[.slice qa0 na0 ca0, .func (.func 128) #[] #[ptr rb 0]] w (fun en w' => ∃ l : Unit, en = .returned (.bool res) ∧ (True) ∧ HV w (keys [] []) [] [] [] w') := by
  unfold m_sl_ContainsFunc_intint_7 at hm
  refine g_en Try.func127 rfl Try.ntmps127 rfl (e := [(0, _), (1, _)]) rfl hw (g_sr (g_as rfl rfl (g_nx (g_mv rfl rfl (g_mv rfl rfl ?_)))))
  obtain ⟨t7, h1, hm⟩ := bindO hm
  refine g_callH [] [] rfl rfl rfl rfl rfl rfl rfl Try.call146 (fun w hh => c_sl_IndexFunc_intint_7 s0 qa0 na0 ca0 rb w (HV.callee (S0 := []) (vs0 := []) hh (roR hh 0 rfl (roR hh 1 rfl roN))) hna0 hqa0 hla0 h1) (fun l h2 => ?_)
  refine g_val rfl rfl rfl (fun _ _ => v_geq rfl rfl) (g_as rfl rfl (g_nt (g_ret ?_)))
  obtain rfl := sj hm
  refine g_done rfl (fun w hh => (.tmp rfl .nil)) (fun w hh => ⟨(), rfl, trivial, hh.se [] [] 2 rfl rfl rfl rfl⟩)
def m_s_every_int_5 (l0 : (List Int)) : Option Bool :=
 (m_sl_ContainsFunc_intint_7 l0).bind fun t7 =>
 some (!t7)
theorem c_s_every_int_5 (l0 : (List Int)) (qa0 : Option Addr) (na0 ca0 : Nat) (w : World) (hw : HV w (keys [] []) [] [] [(aB qa0, aO qa0, RI.enc l0)] w) (hna0 : l0.length = na0) (hqa0 : AOK na0 qa0) (hla0 : na0 ≤ ca0) {res : Bool} (hm : m_s_every_int_5 l0 = some res) :
    Calls Try.prog 91 #[.slice qa0 na0 ca0, .func (.func 109) #[] #[]] w (fun en w' => ∃ l : Unit, en = .returned (.bool res) ∧ (True) ∧ HV w (keys [] []) [] [] [] w') := by
  unfold m_s_every_int_5 at hm
  refine g_en Try.func91 rfl Try.ntmps91 rfl (e := [(0, _), (1, _)]) rfl hw (g_sr ?_)
  refine g_boxV rfl rfl (fun b h1 => ?_)
  refine g_as rfl rfl (g_nx (g_mv rfl rfl (g_val rfl rfl rfl (fun _ _ => v_makeFunc (u := #[]) (u' := #[_]) rfl rfl) ?_)))
  obtain ⟨t7, h2, hm⟩ := bindO hm
  refine g_callH [] [] rfl rfl rfl rfl rfl rfl rfl Try.call127 (fun w hh => c_sl_ContainsFunc_intint_7 l0 qa0 na0 ca0 b w (HV.callee (S0 := []) (vs0 := []) hh (roR hh 0 rfl (roC (bsep (hh.bseg 0 rfl)) roN))) hna0 hqa0 hla0 h2) (fun l h3 => ?_)
  refine g_val rfl rfl rfl (fun _ _ => v_not rfl) (g_as rfl rfl (g_nt (g_ret ?_)))
  obtain rfl := sj hm
  refine g_done rfl (fun w hh => (.tmp rfl .nil)) (fun w hh => ⟨(), rfl, trivial, hh.se [] [] 1 rfl rfl rfl rfl⟩)
def m_s_Fits_1 (l0 : (List Int)) (a11_strips : (List Strip)) (a11_carried : (List Span)) : Option Bool :=
 (if (l0.length : Int) = (a11_strips.length : Int) then
 ((m_s_every_int_5 l0).bind fun t12 =>
 some t12) else
 (some false)).bind fun o =>
 some o
theorem c_s_Fits_1 (l0 : (List Int)) (a11_strips : (List Strip)) (a11_carried : (List Span)) (qa0 : Option Addr) (na0 ca0 : Nat) (rb : Nat) (qa2 : Option Addr) (na2 ca2 : Nat) (qa3 : Option Addr) (na3 ca3 : Nat) (w : World) (hw : HV w (keys [] []) [] [] [(aB qa0, aO qa0, RI.enc l0), (rb, 0, [.slice qa2 na2 ca2, .slice qa3 na3 ca3]), (aB qa2, aO qa2, RSt.enc a11_strips), (aB qa3, aO qa3, RSp.enc a11_carried)] w) (hna0 : l0.length = na0) (hqa0 : AOK na0 qa0) (hla0 : na0 ≤ ca0)  (hna2 : a11_strips.length = na2) (hqa2 : AOK na2 qa2) (hla2 : na2 ≤ ca2) (hna3 : a11_carried.length = na3) (hqa3 : AOK na3 qa3) (hla3 : na3 ≤ ca3) {res : Bool} (hm : m_s_Fits_1 l0 a11_strips a11_carried = some res) :
    Calls Try.prog 108 #[.slice qa0 na0 ca0, ptr rb 0] w (fun en w' => ∃ l : Unit, en = .returned (.bool res) ∧ (True) ∧ HV w (keys [] []) [] [] [] w') := by
  unfold m_s_Fits_1 at hm
  refine g_en Try.func108 rfl Try.ntmps108 rfl (e := [(0, _), (1, _)]) rfl hw (g_sr (g_as rfl rfl (g_nt (g_seq ?_))))
  obtain ⟨o, h1, h2⟩ := bindO hm
  refine g_cut (ι := Unit) (fun l => True) (fun l => [(3, .bool o)]) (fun l => []) (fun l => []) ?_ ?_
  ·replace hm := h1
   refine g_region (g_mv rfl rfl (g_val rfl rfl rfl (fun w _ => v_lenR hna0 (Try.runUnderlying32 w) rfl) (g_fa 0 Try.runUnderlying28 rfl Try.sizeOf25 rfl rfl (g_val rfl rfl rfl (fun w hh => v_load (Try.isAgg25 w) rfl (segCell (hh.seg 1 rfl) 0 rfl)) (g_val rfl rfl rfl (fun w _ => v_lenR hna2 (Try.runUnderlying25 w) rfl) (g_val rfl rfl rfl (fun _ _ => v_eql rfl rfl) (g_mv rfl rfl ?_)))))))
   refine g_case 10 rfl (fun h3 => ?_) (fun h3 => ?_)
   ·replace hm := ifD h3 hm
    refine v_unguard rfl rfl (g_mv rfl rfl (v_unguard rfl rfl ?_))
    obtain ⟨t12, h4, hm⟩ := bindO hm
    refine g_callH [] [] rfl rfl rfl rfl rfl rfl rfl Try.call91 (fun w hh => c_s_every_int_5 l0 qa0 na0 ca0 w (HV.callee (S0 := []) (vs0 := []) hh (roR hh 0 rfl roN)) hna0 hqa0 hla0 h4) (fun l_1 h5 => ?_)
    refine g_pt rfl rfl rfl (g_as rfl rfl (g_nil ?_))
    obtain rfl := sj hm
    exact g_leaf () (trivial) (sE rfl) (fun w hh => hh)
   ·replace hm := ifE h3 hm
    refine g_k rfl rfl rfl rfl (g_k rfl rfl rfl rfl (g_pf rfl rfl rfl (g_as rfl rfl (g_nil ?_))))
    obtain rfl := sj hm
    exact g_leaf () (trivial) (sE rfl) (fun w hh => hh)
  ·intro l hj
   replace hm := h2
   refine g_n_then (g_ret ?_)
   obtain rfl := sj hm
   refine g_done rfl (fun w hh => (.tmp rfl .nil)) (fun w hh => ⟨(), rfl, trivial, hh.se [] [] 4 rfl rfl rfl rfl⟩)
def m_s_every_int_1_3 (x0 : (List Int)) (a11_c0_strips : (List Strip)) (a11_c0_carried : (List Span)) : Option Bool :=
 (m_s_Fits_1 x0 a11_c0_strips a11_c0_carried).bind fun t6 =>
 some (!t6)
theorem c_s_every_int_1_3 (x0 : (List Int)) (a11_c0_strips : (List Strip)) (a11_c0_carried : (List Span)) (qa0 : Option Addr) (na0 ca0 : Nat) (rb : Nat) (rb_1 : Nat) (qa3 : Option Addr) (na3 ca3 : Nat) (qa4 : Option Addr) (na4 ca4 : Nat) (w : World) (hw : HV w (keys [] []) [] [] [(aB qa0, aO qa0, RI.enc x0), (rb, 0, [.func (.func 108) #[] #[ptr rb_1 0]]), (rb_1, 0, [.slice qa3 na3 ca3, .slice qa4 na4 ca4]), (aB qa3, aO qa3, RSt.enc a11_c0_strips), (aB qa4, aO qa4, RSp.enc a11_c0_carried)] w) (hna0 : x0.length = na0) (hqa0 : AOK na0 qa0) (hla0 : na0 ≤ ca0)   (hna3 : a11_c0_strips.length = na3) (hqa3 : AOK na3 qa3) (hla3 : na3 ≤ ca3) (hna4 : a11_c0_carried.length = na4) (hqa4 : AOK na4 qa4) (hla4 : na4 ≤ ca4) {res : Bool} (hm : m_s_every_int_1_3 x0 a11_c0_strips a11_c0_carried = some res) :
    Calls Try.prog 138 #[.slice qa0 na0 ca0, ptr rb 0] w (fun en w' => ∃ l : Unit, en = .returned (.bool res) ∧ (True) ∧ HV w (keys [] []) [] [] [] w') := by
  unfold m_s_every_int_1_3 at hm
  refine g_en Try.func138 rfl Try.ntmps138 rfl (e := [(0, _), (1, _)]) rfl hw (g_sr (g_as rfl rfl (g_nx (g_val rfl rfl rfl (fun w hh => v_load (Try.isAgg147 w) rfl (segCell (hh.seg 1 rfl) 0 rfl)) (g_mv rfl rfl ?_)))))
  obtain ⟨t6, h1, hm⟩ := bindO hm
  refine g_callH [] [] rfl rfl rfl rfl rfl rfl rfl Try.call108 (fun w hh => c_s_Fits_1 x0 a11_c0_strips a11_c0_carried qa0 na0 ca0 rb_1 qa3 na3 ca3 qa4 na4 ca4 w (HV.callee (S0 := []) (vs0 := []) hh (roR hh 0 rfl (roR hh 2 rfl (roR hh 3 rfl (roR hh 4 rfl roN))))) hna0 hqa0 hla0 hna3 hqa3 hla3 hna4 hqa4 hla4 h1) (fun l h2 => ?_)
  refine g_val rfl rfl rfl (fun _ _ => v_not rfl) (g_as rfl rfl (g_nt (g_ret ?_)))
  obtain rfl := sj hm
  refine g_done rfl (fun w hh => (.tmp rfl .nil)) (fun w hh => ⟨(), rfl, trivial, hh.se [] [] 5 rfl rfl rfl rfl⟩)
def m_sl_IndexFunc_intint_6_L0 (s0 : (List (List Int))) (f1_c0_c0_strips : (List Strip)) (f1_c0_c0_carried : (List Span)) (s : Int) : Option (Int ⊕ (Unit ⊕ Int)) :=
 if s < (s0.length : Int) then
 ((ix s0 s).bind fun t14 =>
 (m_s_every_int_1_3 t14 f1_c0_c0_strips f1_c0_c0_carried).bind fun t16 =>
 if t16 = true then
 (some (.inr (.inr s))) else
 ((addc s 1).bind fun t18 =>
 some (.inl t18))) else
 (some (.inr (.inl ())))
def m_sl_IndexFunc_intint_6 (s0 : (List (List Int))) (f1_c0_c0_strips : (List Strip)) (f1_c0_c0_carried : (List Span)) : Option Int :=
 (iterM FU (m_sl_IndexFunc_intint_6_L0 s0 f1_c0_c0_strips f1_c0_c0_carried) 0).bind fun o =>
 oc o (fun j => some (-1)) (fun r_1 => some r_1)
theorem c_sl_IndexFunc_intint_6 (s0 : (List (List Int))) (f1_c0_c0_strips : (List Strip)) (f1_c0_c0_carried : (List Span)) (qa0 : Option Addr) (na0 ca0 : Nat) (ar0 : List AL) (rb : Nat) (rb_1 : Nat) (qa3 : Option Addr) (na3 ca3 : Nat) (qa4 : Option Addr) (na4 ca4 : Nat) (w : World) (hw : HV w (keys [] []) [] [] [(aB qa0, aO qa0, RwA.enc ar0), (rb, 0, [.func (.func 108) #[] #[ptr rb_1 0]]), (rb_1, 0, [.slice qa3 na3 ca3, .slice qa4 na4 ca4]), (aB qa3, aO qa3, RSt.enc f1_c0_c0_strips), (aB qa4, aO qa4, RSp.enc f1_c0_c0_carried)] w) (hna0 : s0.length = na0) (hqa0 : AOK na0 qa0) (hla0 : na0 ≤ ca0) (hda0 : DRO s0 ar0) (hTa0 : ∀ t, t ∈ rsg RI s0 ar0 → segOK w t ∧ (t.2.2 ≠ [] → t.1 ∉ keys [] []))   (hna3 : f1_c0_c0_strips.length = na3) (hqa3 : AOK na3 qa3) (hla3 : na3 ≤ ca3) (hna4 : f1_c0_c0_carried.length = na4) (hqa4 : AOK na4 qa4) (hla4 : na4 ≤ ca4) {res : Int} (hm : m_sl_IndexFunc_intint_6 s0 f1_c0_c0_strips f1_c0_c0_carried = some res) :
    Calls Try.prog 148 #[.slice qa0 na0 ca0, .func (.func 138) #[] #[ptr rb 0]] w (fun en w' => ∃ l : Unit, en = .returned (.int .i64 res) ∧ (True) ∧ HV w (keys [] []) [] [] [] w') := by
  unfold m_sl_IndexFunc_intint_6 at hm
  refine g_en Try.func148 rfl Try.ntmps148 rfl (e := [(0, _), (1, _)]) rfl hw (g_sr (g_as rfl rfl (g_nt (g_seq (g_sr (g_mv rfl rfl (g_val rfl rfl rfl (fun w _ => v_lenR hna0 (Try.runUnderlying29 w) rfl) ?_)))))))
  refine g_mv rfl rfl (g_nt ?_)
  obtain ⟨o, h1, h2⟩ := bindO hm
  refine g_cut (ι := Unit) (fun j => o = .inl j) (fun j => []) (fun j => []) (fun j => []) ?_ ?_
  ·replace hm := h1
   refine g_block ?_
   refine g_loopF (ι := Unit) hm (fun s l => True) (fun s l => [(0, .slice qa0 na0 ca0), (1, .func (.func 138) #[] #[ptr rb 0]), (7, .int .i64 (s0.length : Int)), (8, .int .i64 s)]) (fun s l => []) (fun s l => []) () (trivial) (sE rfl) (fun w hh => hh) (fun s l r hpl hm h3 => ?_)
   unfold m_sl_IndexFunc_intint_6_L0 at hm
   refine g_sr (g_ls rfl rfl rfl (g_nt (g_seq ?_)))
   refine g_cond rfl (fun h4 => ?_) (fun h4 => ?_)
   ·replace hm := ifD h4 hm
    refine g_skip (g_n_then (g_seq (g_block (g_sr (g_mv rfl rfl (g_as rfl rfl (g_nx ?_)))))))
    refine g_mv rfl rfl (g_mv rfl rfl (g_mv rfl rfl ?_))
    obtain ⟨t14, h5, hm⟩ := bindO hm
    obtain ⟨A, h6, h7, h8, h9⟩ := (hda0).row h5
    refine g_val rfl rfl rfl (fun w _ => v_ixR h6 (Try.runUnderlying29 w) (Try.sizeOf32 w) rfl rfl (Eq.trans (hda0).len.symm hna0) hqa0) (g_val rfl rfl rfl (fun w hh => v_ldE RwA 0 h6 (Try.isAgg32 w) rfl (hh.seg 0 rfl) rfl (Nat.add_zero _).symm) ?_)
    obtain ⟨t16, h10, hm⟩ := bindO hm
    refine g_callH [] [] rfl rfl rfl rfl rfl rfl rfl Try.call138 (fun w hh => c_s_every_int_1_3 t14 f1_c0_c0_strips f1_c0_c0_carried A.a A.n A.cap rb rb_1 qa3 na3 ca3 qa4 na4 ca4 w (HV.callee (S0 := []) (vs0 := []) hh (roC (hh.oldsep (S0 := []) (vs0 := []) (hTa0 _ (rsg_ix h5 h6))) (roR hh 1 rfl (roR hh 2 rfl (roR hh 3 rfl (roR hh 4 rfl roN)))))) h7 h8 h9 hna3 hqa3 hla3 hna4 hqa4 hla4 h10) (fun l_1 h11 => ?_)
    refine g_nt ?_
    refine g_cond rfl (fun h12 => ?_) (fun h12 => ?_)
    ·replace hm := ifT (h12) hm
     refine g_sr (g_mv rfl rfl (g_as rfl rfl (g_nt (g_ret (g_r_blk (g_r_then (g_r_then ?_)))))))
     refine g_r_blk ?_
     obtain rfl := sj hm
     have hbo := h3 _ rfl
     subst hbo
     refine g_r_then ?_
     replace hm := ocR h2
     refine g_r_then ?_
     obtain rfl := sj hm
     refine g_done rfl (fun w hh => (.tmp rfl .nil)) (fun w hh => ⟨(), rfl, trivial, hh.se [] [] 5 rfl rfl rfl rfl⟩)
    ·replace hm := ifN h12 hm
     refine g_skip (g_n_blk (g_n_then (g_region ?_)))
     obtain ⟨t18, h13, hm⟩ := bindO hm
     refine g_ac h13 rfl rfl rfl (g_mv rfl rfl (g_nil ?_))
     obtain rfl := sj hm
     refine g_n_then ?_
     exact g_again' _ () rfl (trivial) (sE rfl) (fun w hh => hh)
   ·replace hm := ifE h4 hm
    refine g_exit (g_x_then (g_x_then (g_x_blk ?_)))
    obtain rfl := sj hm
    have hbo := h3 _ rfl
    subst hbo
    exact g_leaf () (rfl) (.nil) (fun w hh => hh)
  ·intro j hj
   have h14 := hj
   subst h14
   replace hm := ocL h2
   refine g_n_then (g_sr (g_as rfl rfl (g_nt (g_ret ?_))))
   obtain rfl := sj hm
   refine g_done rfl (fun w hh => (.tmp rfl .nil)) (fun w hh => ⟨(), rfl, trivial, hh.se [] [] 5 rfl rfl rfl rfl⟩)
def m_sl_ContainsFunc_intint_6 (s0 : (List (List Int))) (f1_c0_c0_strips : (List Strip)) (f1_c0_c0_carried : (List Span)) : Option Bool :=
 (m_sl_IndexFunc_intint_6 s0 f1_c0_c0_strips f1_c0_c0_carried).bind fun t7 =>
 some (decide (0 ≤ t7))
theorem c_sl_ContainsFunc_intint_6 (s0 : (List (List Int))) (f1_c0_c0_strips : (List Strip)) (f1_c0_c0_carried : (List Span)) (qa0 : Option Addr) (na0 ca0 : Nat) (ar0 : List AL) (rb : Nat) (rb_1 : Nat) (qa3 : Option Addr) (na3 ca3 : Nat) (qa4 : Option Addr) (na4 ca4 : Nat) (w : World) (hw : HV w (keys [] []) [] [] [(aB qa0, aO qa0, RwA.enc ar0), (rb, 0, [.func (.func 108) #[] #[ptr rb_1 0]]), (rb_1, 0, [.slice qa3 na3 ca3, .slice qa4 na4 ca4]), (aB qa3, aO qa3, RSt.enc f1_c0_c0_strips), (aB qa4, aO qa4, RSp.enc f1_c0_c0_carried)] w) (hna0 : s0.length = na0) (hqa0 : AOK na0 qa0) (hla0 : na0 ≤ ca0) (hda0 : DRO s0 ar0) (hTa0 : ∀ t, t ∈ rsg RI s0 ar0 → segOK w t ∧ (t.2.2 ≠ [] → t.1 ∉ keys [] []))   (hna3 : f1_c0_c0_strips.length = na3) (hqa3 : AOK na3 qa3) (hla3 : na3 ≤ ca3) (hna4 : f1_c0_c0_carried.length = na4) (hqa4 : AOK na4 qa4) (hla4 : na4 ≤ ca4) {res : Bool} (hm : m_sl_ContainsFunc_intint_6 s0 f1_c0_c0_strips f1_c0_c0_carried = some res) :
    Calls Try.prog 137 #[.slice qa0 na0 ca0, .func (.func 138) #[] #[ptr rb 0]] w (fun en w' => ∃ l : Unit, en = .returned (.bool res) ∧ (True) ∧ HV w (keys [] []) [] [] [] w') := by
  unfold m_sl_ContainsFunc_intint_6 at hm
  refine g_en Try.func137 rfl Try.ntmps137 rfl (e := [(0, _), (1, _)]) rfl hw (g_sr (g_as rfl rfl (g_nx (g_mv rfl rfl (g_mv rfl rfl ?_)))))
  obtain ⟨t7, h1, hm⟩ := bindO hm
  refine g_callH [] [] rfl rfl rfl rfl rfl rfl rfl Try.call148 (fun w hh => c_sl_IndexFunc_intint_6 s0 f1_c0_c0_strips f1_c0_c0_carried qa0 na0 ca0 ar0 rb rb_1 qa3 na3 ca3 qa4 na4 ca4 w (HV.callee (S0 := []) (vs0 := []) hh (roR hh 0 rfl (roR hh 1 rfl (roR hh 2 rfl (roR hh 3 rfl (roR hh 4 rfl roN)))))) hna0 hqa0 hla0 hda0 (hh.oldT (S0 := []) (vs0 := []) hTa0) hna3 hqa3 hla3 hna4 hqa4 hla4 h1) (fun l h2 => ?_)
  refine g_val rfl rfl rfl (fun _ _ => v_geq rfl rfl) (g_as rfl rfl (g_nt (g_ret ?_)))
  obtain rfl := sj hm
  refine g_done rfl (fun w hh => (.tmp rfl .nil)) (fun w hh => ⟨(), rfl, trivial, hh.se [] [] 5 rfl rfl rfl rfl⟩)
def m_s_every_int_4 (l0 : (List (List Int))) (holds1_c0_strips : (List Strip)) (holds1_c0_carried : (List Span)) : Option Bool :=
 (m_sl_ContainsFunc_intint_6 l0 holds1_c0_strips holds1_c0_carried).bind fun t7 =>
 some (!t7)
theorem c_s_every_int_4 (l0 : (List (List Int))) (holds1_c0_strips : (List Strip)) (holds1_c0_carried : (List Span)) (qa0 : Option Addr) (na0 ca0 : Nat) (ar0 : List AL) (rb : Nat) (qa2 : Option Addr) (na2 ca2 : Nat) (qa3 : Option Addr) (na3 ca3 : Nat) (w : World) (hw : HV w (keys [] []) [] [] [(aB qa0, aO qa0, RwA.enc ar0), (rb, 0, [.slice qa2 na2 ca2, .slice qa3 na3 ca3]), (aB qa2, aO qa2, RSt.enc holds1_c0_strips), (aB qa3, aO qa3, RSp.enc holds1_c0_carried)] w) (hna0 : l0.length = na0) (hqa0 : AOK na0 qa0) (hla0 : na0 ≤ ca0) (hda0 : DRO l0 ar0) (hTa0 : ∀ t, t ∈ rsg RI l0 ar0 → segOK w t ∧ (t.2.2 ≠ [] → t.1 ∉ keys [] []))  (hna2 : holds1_c0_strips.length = na2) (hqa2 : AOK na2 qa2) (hla2 : na2 ≤ ca2) (hna3 : holds1_c0_carried.length = na3) (hqa3 : AOK na3 qa3) (hla3 : na3 ≤ ca3) {res : Bool} (hm : m_s_every_int_4 l0 holds1_c0_strips holds1_c0_carried = some res) :
    Calls Try.prog 107 #[.slice qa0 na0 ca0, .func (.func 108) #[] #[ptr rb 0]] w (fun en w' => ∃ l : Unit, en = .returned (.bool res) ∧ (True) ∧ HV w (keys [] []) [] [] [] w') := by
  unfold m_s_every_int_4 at hm
  refine g_en Try.func107 rfl Try.ntmps107 rfl (e := [(0, _), (1, _)]) rfl hw (g_sr ?_)
  refine g_boxV rfl rfl (fun b h1 => ?_)
  refine g_as rfl rfl (g_nx (g_mv rfl rfl (g_val rfl rfl rfl (fun _ _ => v_makeFunc (u := #[]) (u' := #[_]) rfl rfl) ?_)))
  obtain ⟨t7, h2, hm⟩ := bindO hm
  refine g_callH [] [] rfl rfl rfl rfl rfl rfl rfl Try.call137 (fun w hh => c_sl_ContainsFunc_intint_6 l0 holds1_c0_strips holds1_c0_carried qa0 na0 ca0 ar0 b rb qa2 na2 ca2 qa3 na3 ca3 w (HV.callee (S0 := []) (vs0 := []) hh (roR hh 0 rfl (roC (bsep (hh.bseg 0 rfl)) (roR hh 1 rfl (roR hh 2 rfl (roR hh 3 rfl roN)))))) hna0 hqa0 hla0 hda0 (hh.oldT (S0 := []) (vs0 := []) hTa0) hna2 hqa2 hla2 hna3 hqa3 hla3 h2) (fun l h3 => ?_)
  refine g_val rfl rfl rfl (fun _ _ => v_not rfl) (g_as rfl rfl (g_nt (g_ret ?_)))
  obtain rfl := sj hm
  refine g_done rfl (fun w hh => (.tmp rfl .nil)) (fun w hh => ⟨(), rfl, trivial, hh.se [] [] 4 rfl rfl rfl rfl⟩)
end Go.Proofs.Ws

namespace Go.Proofs.Ws
set_option maxHeartbeats 4000000
set_option maxRecDepth 100000
open Go Go.Fw Go.Gx Go.Sp
set_option linter.unusedVariables false
structure m_s_Fits_R where
  r0 : Bool
  r1 : Int
structure m_s_Fits_S0 where
  t43 : Int
  t40 : (List Int)
structure m_s_Fits_C2 where
  sum11 : Int
  t40 : (List Int)
structure m_s_Fits_S1 where
  sum11 : Int
  t50 : Int
  t40 : (List Int)
def m_s_Fits_L1 (t46 : (List Int)) (t19b : (List (Pair × Bool))) (s : m_s_Fits_S0) (s_1 : m_s_Fits_S1) : Option (m_s_Fits_S1 ⊕ (m_s_Fits_C2 ⊕ m_s_Fits_R)) :=
 if s_1.t50 < (t46.length : Int) then
 ((ix t46 s_1.t50).bind fun t53 =>
 (if 0 < t53 then
 (some (!((aget t19b (⟨s.t43, s_1.t50⟩ : Pair)).getD false))) else
 (some false)).bind fun o_3 =>
 if o_3 = true then
 (some (.inr (.inr (⟨false, 0⟩ : m_s_Fits_R)))) else
 ((addc s_1.sum11 t53).bind fun t72 =>
 (ix s_1.t40 s_1.t50).bind fun t75 =>
 (addc t75 t53).bind fun t78 =>
 (ix s_1.t40 s_1.t50).bind fun t79 =>
 (some (s_1.t40.set (Int.toNat s_1.t50) t78)).bind fun t40_1 =>
 (addc s_1.t50 1).bind fun t80 =>
 some (.inl (⟨t72, t80, t40_1⟩ : m_s_Fits_S1)))) else
 (some (.inr (.inl (⟨s_1.sum11, s_1.t40⟩ : m_s_Fits_C2))))
def m_s_Fits_L0 (shares1 : (List (List Int))) (t19b : (List (Pair × Bool))) (s0 : Scalps) (s : m_s_Fits_S0) : Option (m_s_Fits_S0 ⊕ ((List Int) ⊕ m_s_Fits_R)) :=
 if s.t43 < (shares1.length : Int) then
 ((ix shares1 s.t43).bind fun t46 =>
 (iterM FU (m_s_Fits_L1 t46 t19b s) (⟨0, 0, s.t40⟩ : m_s_Fits_S1)).bind fun o_2 =>
 oc o_2 (fun j_1 => (ix s0.carried s.t43).bind fun t85 =>
 (ix s0.carried s.t43).bind fun t91 =>
 (m_s_in j_1.sum11 t85.lo t91.hi).bind fun t94 =>
 if (!t94) = true then
 (some (.inr (.inr (⟨false, 0⟩ : m_s_Fits_R)))) else
 ((addc s.t43 1).bind fun t96 =>
 some (.inl (⟨t96, j_1.t40⟩ : m_s_Fits_S0)))) (fun r_2 => some (.inr (.inr r_2)))) else
 (some (.inr (.inl s.t40)))
def m_s_Fits_L2 (j : (List Int)) (s0 : Scalps) (s_2 : Int) : Option (Int ⊕ (Unit ⊕ m_s_Fits_R)) :=
 if s_2 < (j.length : Int) then
 ((ix j s_2).bind fun t102 =>
 (ix s0.strips s_2).bind fun t107 =>
 (m_s_Strip_gone (⟨t107.tenant, (⟨t107.lay.lo, t107.lay.hi⟩ : Span), (⟨t107.seeded.lo, t107.seeded.hi⟩ : Span), (⟨t107.left.lo, t107.left.hi⟩ : Span)⟩ : Strip)).bind fun t109 =>
 (m_s_in t102 t109.lo t109.hi).bind fun t115 =>
 if (!t115) = true then
 (some (.inr (.inr (⟨false, 0⟩ : m_s_Fits_R)))) else
 ((addc s_2 1).bind fun t117 =>
 some (.inl t117))) else
 (some (.inr (.inl ())))
def m_s_Fits (s0 : Scalps) (shares1 : (List (List Int))) : Option m_s_Fits_R :=
 (m_s_opened s0).bind fun t19 =>
 oc t19 (fun t19a => some (⟨false, t19a⟩ : m_s_Fits_R)) (fun t19b => (if (shares1.length : Int) = (s0.carried.length : Int) then
 ((m_s_every_int_4 shares1 s0.strips s0.carried).bind fun t34 =>
 some (!t34)) else
 (some true)).bind fun o =>
 if o = true then
 (some (⟨false, 0⟩ : m_s_Fits_R)) else
 ((makec 8 0 (s0.strips.length : Int) (s0.strips.length : Int)).bind fun t40 =>
 (iterM FU (m_s_Fits_L0 shares1 t19b s0) (⟨0, t40⟩ : m_s_Fits_S0)).bind fun o_1 =>
 oc o_1 (fun j => (iterM FU (m_s_Fits_L2 j s0) 0).bind fun o_4 =>
 oc o_4 (fun j_2 => some (⟨true, 0⟩ : m_s_Fits_R)) (fun r_4 => some r_4)) (fun r_5 => some r_5)))
theorem c_s_Fits (s0 : Scalps) (shares1 : (List (List Int))) (qa0 : Option Addr) (na0 ca0 : Nat) (qa1 : Option Addr) (na1 ca1 : Nat) (qa2 : Option Addr) (na2 ca2 : Nat) (ar2 : List AL) (w : World) (hw : HV w (keys [] []) [] [] [(aB qa0, aO qa0, RSt.enc s0.strips), (aB qa1, aO qa1, RSp.enc s0.carried), (aB qa2, aO qa2, RwA.enc ar2)] w) (hna0 : s0.strips.length = na0) (hqa0 : AOK na0 qa0) (hla0 : na0 ≤ ca0) (hna1 : s0.carried.length = na1) (hqa1 : AOK na1 qa1) (hla1 : na1 ≤ ca1) (hna2 : shares1.length = na2) (hqa2 : AOK na2 qa2) (hla2 : na2 ≤ ca2) (hda2 : DRO shares1 ar2) (hTa2 : ∀ t, t ∈ rsg RI shares1 ar2 → segOK w t ∧ (t.2.2 ≠ [] → t.1 ∉ keys [] [])) {res : m_s_Fits_R} (hm : m_s_Fits s0 shares1 = some res) :
    Calls Try.prog 50 #[.agg #[.slice qa0 na0 ca0, .slice qa1 na1 ca1], .slice qa2 na2 ca2] w (fun en w' => ∃ l : Unit, en = .returned (.tuple #[.bool res.r0, .int .i64 res.r1]) ∧ (True) ∧ HV w (keys [] []) [] [] [] w') := by
  unfold m_s_Fits at hm
  refine g_en Try.func50 rfl Try.ntmps50 rfl (e := [(0, _), (1, _)]) rfl hw (g_sr ?_)
  refine g_boxV rfl rfl (fun b h1 => ?_)
  refine g_as rfl rfl (g_as rfl rfl (g_nx (g_la [_, _] 0 Try.isAgg28 Try.sizeOf28 rfl rfl rfl rfl ?_)))
  obtain ⟨t19, h2, hm⟩ := bindO hm
  rcases t19 with t19a | t19b
  ·replace hm := ocL hm
   refine g_callH [] [] rfl rfl rfl rfl rfl rfl rfl Try.call65 (fun w hh => c_s_opened s0 qa0 na0 ca0 qa1 na1 ca1 w (HV.callee (S0 := []) (vs0 := []) hh (roR hh 0 rfl (roR hh 1 rfl roN))) hna0 hqa0 hla0 hna1 hqa1 hla1 h2) (fun l h3 => ?_)
   have h4 := h3
   refine g_mv rfl rfl (g_xt rfl rfl rfl (g_xt rfl rfl rfl (g_as rfl rfl (g_as rfl rfl (g_nt (g_seq (g_sr ?_)))))))
   refine g_mv rfl rfl (g_val rfl rfl rfl (fun _ _ => v_neqT h4 rfl rfl) (g_nt (g_condT rfl rfl (g_sr (g_mv rfl rfl (g_as rfl rfl (g_as rfl rfl ?_)))))))
   refine g_nt (g_ret (g_r_then ?_))
   obtain rfl := sj hm
   refine g_done rfl (fun w hh => (.tmp rfl (.tmp rfl .nil))) (fun w hh => ⟨(), rfl, trivial, hh.se [] [] 3 rfl rfl rfl rfl⟩)
  ·replace hm := ocR hm
   refine g_callH [] [] rfl rfl rfl rfl rfl rfl rfl Try.call65 (fun w hh => c_s_opened s0 qa0 na0 ca0 qa1 na1 ca1 w (HV.callee (S0 := []) (vs0 := []) hh (roR hh 0 rfl (roR hh 1 rfl roN))) hna0 hqa0 hla0 hna1 hqa1 hla1 h2) (fun l_1 h5 => ?_)
   refine g_se (S' := [_, _, _]) (vs' := []) [0, 1, 2] [] 0 rfl rfl rfl rfl (g_mv rfl rfl (g_xt rfl rfl rfl (g_xt rfl rfl rfl (g_as rfl rfl (g_as rfl rfl (g_nt (g_seq ?_)))))))
   refine g_sr (g_mv rfl rfl (g_val rfl rfl rfl (fun _ _ => v_neq rfl rfl) (g_nt (g_condF rfl rfl (g_skip (g_n_then (g_seq ?_)))))))
   refine g_seq ?_
   obtain ⟨o, h6, h7⟩ := bindO hm
   refine g_cut (ι := Unit) (fun l_2 => True) (fun l_2 => [(1, .slice qa2 na2 ca2), (2, ptr b 0), (6, ptr l_1.1 0), (36, .bool o)]) (fun l_2 => [(l_1.1, .cells #[.slice qa0 na0 ca0, .slice qa1 na1 ca1, .map (some l_1.2)] 163 (0, 0)), (l_1.2, gobj (kR RPr) kB t19b), (b, .cells #[.slice qa0 na0 ca0, .slice qa1 na1 ca1] 28 (0, 0))]) (fun l_2 => []) ?_ ?_
   ·replace hm := h6
    refine g_region (g_mv rfl rfl (g_val rfl rfl rfl (fun w _ => v_lenR hna2 (Try.runUnderlying29 w) rfl) (g_fa 1 Try.runUnderlying28 rfl Try.sizeOf26 rfl rfl (g_lc 2 Try.isAgg26 rfl rfl rfl rfl (g_val rfl rfl rfl (fun w _ => v_lenR hna1 (Try.runUnderlying26 w) rfl) (g_val rfl rfl rfl (fun _ _ => v_neq rfl rfl) (g_mv rfl rfl ?_)))))))
    refine g_case 31 rfl (fun h8 => ?_) (fun h8 => ?_)
    ·replace hm := ifF (of_ndec_true h8) hm
     refine g_k rfl rfl rfl rfl (g_k rfl rfl rfl rfl (g_k rfl rfl rfl rfl (g_k rfl rfl rfl rfl (g_pt rfl rfl rfl (g_nil ?_)))))
     obtain rfl := sj hm
     exact g_leaf () (trivial) (sE rfl) (fun w hh => hh)
    ·replace hm := ifT (of_ndec_false h8) hm
     refine v_unguard rfl rfl (g_mv rfl rfl (v_unguard rfl rfl (g_val rfl rfl rfl (fun _ _ => v_makeFunc (u := #[]) (u' := #[_]) rfl rfl) (v_unguard rfl rfl ?_))))
     obtain ⟨t34, h9, hm⟩ := bindO hm
     refine g_callH [] [] rfl rfl rfl rfl rfl rfl rfl Try.call107 (fun w hh => c_s_every_int_4 shares1 s0.strips s0.carried qa2 na2 ca2 ar2 b qa0 na0 ca0 qa1 na1 ca1 w (HV.callee (S0 := []) (vs0 := []) hh (roR hh 2 rfl (roC (bsep (hh.bseg 2 rfl)) (roR hh 0 rfl (roR hh 1 rfl roN))))) hna2 hqa2 hla2 hda2 (hh.oldT (S0 := []) (vs0 := []) hTa2) hna0 hqa0 hla0 hna1 hqa1 hla1 h9) (fun l_3 h10 => ?_)
     refine v_unguard rfl rfl (g_val rfl rfl rfl (fun _ _ => v_not rfl) (g_pf rfl rfl rfl (g_nil ?_)))
     obtain rfl := sj hm
     exact g_leaf () (trivial) (sE rfl) (fun w hh => hh)
   ·intro l_2 hj
    replace hm := h7
    refine g_n_then ?_
    refine g_cond rfl (fun h11 => ?_) (fun h11 => ?_)
    ·replace hm := ifT (h11) hm
     refine g_sr (g_as rfl rfl (g_as rfl rfl (g_nt (g_ret (g_r_then ?_)))))
     obtain rfl := sj hm
     refine g_done rfl (fun w hh => (.tmp rfl (.tmp rfl .nil))) (fun w hh => ⟨(), rfl, trivial, hh.se [] [] 3 rfl rfl rfl rfl⟩)
    ·replace hm := ifN h11 hm
     refine g_skip (g_n_then (g_sr (g_fa 0 Try.runUnderlying28 rfl Try.sizeOf25 rfl rfl (g_lc 2 Try.isAgg25 rfl rfl rfl rfl (g_val rfl rfl rfl (fun w _ => v_lenR hna0 (Try.runUnderlying25 w) rfl) ?_)))))
     obtain ⟨t40, h12, hm⟩ := bindO hm
     refine g_vmake RI 0 h12 Try.underlying32 gxinf3 rfl rfl rfl rfl rfl (fun L h13 => ?_)
     refine g_as rfl rfl (g_nt (g_seq (g_sr (g_mv rfl rfl (g_val rfl rfl rfl (fun w _ => v_lenR hna2 (Try.runUnderlying29 w) rfl) (g_mv rfl rfl (g_nt ?_)))))))
     obtain ⟨o_1, h14, h15⟩ := bindO hm
     refine g_cut (ι := (List Int)) (fun j => o_1 = .inl j ∧ VOK 1 L.n L.cap (RI.enc j) L.sp L.q) (fun j => [(2, ptr b 0), (8, slv L.q L.n L.cap)]) (fun j => [(l_1.1, .cells #[.slice qa0 na0 ca0, .slice qa1 na1 ca1, .map (some l_1.2)] 163 (0, 0)), (l_1.2, gobj (kR RPr) kB t19b), (b, .cells #[.slice qa0 na0 ca0, .slice qa1 na1 ca1] 28 (0, 0))]) (fun j => [⟨3, RI.enc j, L.sp, L.q, []⟩]) ?_ ?_
     ·replace hm := h14
      refine g_block ?_
      refine g_loopF (ι := Unit) hm (fun s l_4 => VOK 1 L.n L.cap (RI.enc s.t40) L.sp L.q) (fun s l_4 => [(2, ptr b 0), (6, ptr l_1.1 0), (8, slv L.q L.n L.cap), (41, .slice qa2 na2 ca2), (42, .int .i64 (shares1.length : Int)), (43, .int .i64 s.t43)]) (fun s l_4 => [(l_1.1, .cells #[.slice qa0 na0 ca0, .slice qa1 na1 ca1, .map (some l_1.2)] 163 (0, 0)), (l_1.2, gobj (kR RPr) kB t19b), (b, .cells #[.slice qa0 na0 ca0, .slice qa1 na1 ca1] 28 (0, 0))]) (fun s l_4 => [⟨3, RI.enc s.t40, L.sp, L.q, []⟩]) () (h13) (sE rfl) (fun w hh => hh) (fun s l_4 r hpl hm h18 => ?_)
      have h17 := hpl
      unfold m_s_Fits_L0 at hm
      refine g_sr (g_ls rfl rfl rfl (g_nt (g_seq ?_)))
      refine g_cond rfl (fun h19 => ?_) (fun h19 => ?_)
      ·replace hm := ifD h19 hm
       refine g_skip (g_n_then (g_seq (g_block (g_sr (g_mv rfl rfl ?_)))))
       obtain ⟨t46, h20, hm⟩ := bindO hm
       obtain ⟨A, h21, h22, h23, h24⟩ := (hda2).row h20
       refine g_val rfl rfl rfl (fun w _ => v_ixR h21 (Try.runUnderlying29 w) (Try.sizeOf32 w) rfl rfl (Eq.trans (hda2).len.symm hna2) hqa2) (g_val rfl rfl rfl (fun w hh => v_ldE RwA 0 h21 (Try.isAgg32 w) rfl (hh.seg 2 rfl) rfl (Nat.add_zero _).symm) (g_as rfl rfl (g_as rfl rfl (g_nx (g_as rfl rfl (g_nt (g_seq ?_)))))))
       refine g_sr (g_mv rfl rfl (g_val rfl rfl rfl (fun w _ => v_lenR h22 (Try.runUnderlying32 w) rfl) (g_mv rfl rfl (g_nt ?_))))
       obtain ⟨o_2, h25, h26⟩ := bindO hm
       refine g_cut (ι := m_s_Fits_C2) (fun j_1 => o_2 = .inl j_1 ∧ VOK 1 L.n L.cap (RI.enc j_1.t40) L.sp L.q) (fun j_1 => [(2, ptr b 0), (6, ptr l_1.1 0), (8, slv L.q L.n L.cap), (9, .int .i64 s.t43), (11, .int .i64 j_1.sum11), (41, .slice qa2 na2 ca2), (42, .int .i64 (shares1.length : Int)), (43, .int .i64 s.t43)]) (fun j_1 => [(l_1.1, .cells #[.slice qa0 na0 ca0, .slice qa1 na1 ca1, .map (some l_1.2)] 163 (0, 0)), (l_1.2, gobj (kR RPr) kB t19b), (b, .cells #[.slice qa0 na0 ca0, .slice qa1 na1 ca1] 28 (0, 0))]) (fun j_1 => [⟨3, RI.enc j_1.t40, L.sp, L.q, []⟩]) ?_ ?_
       ·replace hm := h25
        refine g_block ?_
        refine g_loopF (ι := Unit) hm (fun s_1 l_5 => VOK 1 L.n L.cap (RI.enc s_1.t40) L.sp L.q) (fun s_1 l_5 => [(2, ptr b 0), (6, ptr l_1.1 0), (8, slv L.q L.n L.cap), (9, .int .i64 s.t43), (11, .int .i64 s_1.sum11), (41, .slice qa2 na2 ca2), (42, .int .i64 (shares1.length : Int)), (43, .int .i64 s.t43), (48, .slice A.a A.n A.cap), (49, .int .i64 (t46.length : Int)), (50, .int .i64 s_1.t50)]) (fun s_1 l_5 => [(l_1.1, .cells #[.slice qa0 na0 ca0, .slice qa1 na1 ca1, .map (some l_1.2)] 163 (0, 0)), (l_1.2, gobj (kR RPr) kB t19b), (b, .cells #[.slice qa0 na0 ca0, .slice qa1 na1 ca1] 28 (0, 0))]) (fun s_1 l_5 => [⟨3, RI.enc s_1.t40, L.sp, L.q, []⟩]) () (h17) (sE rfl) (fun w hh => hh) (fun s_1 l_5 r_1 hpl hm h29 => ?_)
        have h28 := hpl
        unfold m_s_Fits_L1 at hm
        refine g_sr (g_ls rfl rfl rfl (g_nt (g_seq ?_)))
        refine g_cond rfl (fun h30 => ?_) (fun h30 => ?_)
        ·replace hm := ifD h30 hm
         refine g_skip (g_n_then (g_seq (g_block (g_sr (g_mv rfl rfl ?_)))))
         obtain ⟨t53, h31, hm⟩ := bindO hm
         refine g_val rfl rfl rfl (fun w _ => v_ixR h31 (Try.runUnderlying32 w) (Try.sizeOf3 w) rfl rfl h22 h23) (g_val rfl rfl rfl (fun w hh => v_ldE RI 0 h31 (Try.isAgg3 w) rfl (hh.oldseg (hTa2 _ (rsg_ix h20 h21))) rfl (Nat.add_zero _).symm) (g_as rfl rfl (g_as rfl rfl (g_nt (g_seq (g_seq ?_))))))
         obtain ⟨o_3, h32, h33⟩ := bindO hm
         refine g_cut (ι := Unit) (fun l_6 => True) (fun l_6 => [(2, ptr b 0), (6, ptr l_1.1 0), (8, slv L.q L.n L.cap), (9, .int .i64 s.t43), (11, .int .i64 s_1.sum11), (12, .int .i64 s_1.t50), (13, .int .i64 t53), (41, .slice qa2 na2 ca2), (42, .int .i64 (shares1.length : Int)), (43, .int .i64 s.t43), (48, .slice A.a A.n A.cap), (49, .int .i64 (t46.length : Int)), (50, .int .i64 s_1.t50), (67, .bool o_3)]) (fun l_6 => [(l_1.1, .cells #[.slice qa0 na0 ca0, .slice qa1 na1 ca1, .map (some l_1.2)] 163 (0, 0)), (l_1.2, gobj (kR RPr) kB t19b), (b, .cells #[.slice qa0 na0 ca0, .slice qa1 na1 ca1] 28 (0, 0))]) (fun l_6 => [⟨3, RI.enc s_1.t40, L.sp, L.q, []⟩]) ?_ ?_
         ·replace hm := h32
          refine g_region (g_mv rfl rfl (g_val rfl rfl rfl (fun _ _ => v_gtr rfl rfl) (g_mv rfl rfl ?_)))
          refine g_case 57 rfl (fun h34 => ?_) (fun h34 => ?_)
          ·replace hm := ifD h34 hm
           refine v_unguard rfl rfl (g_mv rfl rfl (v_unguard rfl rfl (g_val rfl rfl rfl (fun _ _ => v_nilCheck rfl) (v_unguard rfl rfl (g_fa 2 Try.runUnderlying163 rfl Try.sizeOf161 rfl rfl (v_unguard rfl rfl (g_lc 0 Try.isAgg161 rfl rfl rfl rfl ?_)))))))
           refine v_unguard rfl rfl (g_mv rfl rfl (v_unguard rfl rfl (g_mv rfl rfl (v_unguard rfl rfl (g_val rfl rfl rfl (fun _ _ => v_build (vs := [(0, _), (1, _)]) (cells := [_, _]) rfl rfl) (v_unguard rfl rfl ?_))))))
           refine g_val rfl rfl rfl (fun w hh => v_lookG (k := (⟨s.t43, s_1.t50⟩ : Pair)) (z := false) (Try.runUnderlying161 w) gxkey128 (Try.zeroValue4 w) rfl rfl (hh.mget 1 rfl)) ?_
           refine v_unguard rfl rfl (g_val rfl rfl rfl (fun _ _ => v_not rfl) (g_pt rfl rfl rfl (g_nil ?_)))
           obtain rfl := sj hm
           exact g_leaf () (trivial) (sE rfl) (fun w hh => hh)
          ·replace hm := ifE h34 hm
           refine g_k rfl rfl rfl rfl (g_k rfl rfl rfl rfl (g_k rfl rfl rfl rfl (g_k rfl rfl rfl rfl (g_k rfl rfl rfl rfl (g_k rfl rfl rfl rfl (g_k rfl rfl rfl rfl (g_k rfl rfl rfl rfl ?_)))))))
           refine g_k rfl rfl rfl rfl (g_pf rfl rfl rfl (g_nil ?_))
           obtain rfl := sj hm
           exact g_leaf () (trivial) (sE rfl) (fun w hh => hh)
         ·intro l_6 hj
          replace hm := h33
          refine g_n_then ?_
          refine g_cond rfl (fun h35 => ?_) (fun h35 => ?_)
          ·replace hm := ifT (h35) hm
           refine g_sr (g_as rfl rfl (g_as rfl rfl (g_nt (g_ret (g_r_then (g_r_blk (g_r_then ?_)))))))
           refine g_r_then (g_r_blk ?_)
           obtain rfl := sj hm
           have hbo := h29 _ rfl
           subst hbo
           refine g_r_then ?_
           replace hm := ocR h26
           refine g_r_then (g_r_blk (g_r_then (g_r_then (g_r_blk ?_))))
           obtain rfl := sj hm
           have hbo := h18 _ rfl
           subst hbo
           refine g_r_then ?_
           replace hm := ocR h15
           refine g_r_then ?_
           obtain rfl := sj hm
           refine g_done rfl (fun w hh => (.tmp rfl (.tmp rfl .nil))) (fun w hh => ⟨(), rfl, trivial, hh.se [] [] 3 rfl rfl rfl rfl⟩)
          ·replace hm := ifN h35 hm
           refine g_skip (g_n_then ?_)
           refine g_draw (some 13) (.free 0 (.free 1 (.free 2 (.free 3 (.free 4 (.free 5 (.free 6 (.free 7 (.hoist 8 (.free 9 (.free 10 (.free 11 (.free 12 (.last 13 .done)))))))))))))) _ rfl (by decide +kernel) (fun w k hh => hh.draw k) (fun w hh => hh) ?_
           refine p_mv rfl rfl rfl (p_mv rfl rfl rfl (p_mv rfl rfl rfl (p_mv rfl rfl rfl ?_)))
           obtain ⟨t72, h36, hm⟩ := bindO hm
           refine p_free rfl rfl rfl rfl (fun _ _ => v_addc h36 rfl rfl) (p_mv rfl rfl rfl (p_mv rfl rfl rfl ?_))
           obtain ⟨t75, h37, hm⟩ := bindO hm
           refine p_free rfl rfl rfl rfl (fun w _ => v_ixA h37 (Try.runUnderlying32 w) (Try.sizeOf3 w) rfl rfl (vlen RI h28 rfl) (vne h28)) (p_hoist rfl rfl rfl rfl (fun w hh => v_ldE RI 0 h37 (Try.isAgg3 w) rfl (hh.vseg 0 rfl h28) rfl (Nat.add_zero _).symm) (p_mv rfl rfl rfl ?_))
           obtain ⟨t78, h38, hm⟩ := bindO hm
           refine p_free rfl rfl rfl rfl (fun _ _ => v_addc h38 rfl rfl) (p_free rfl rfl rfl rfl (fun _ _ => v_assign rfl) ?_)
           obtain ⟨t79, h39, hm⟩ := bindO hm
           refine p_free rfl rfl rfl rfl (fun w _ => v_ixA h39 (Try.runUnderlying32 w) (Try.sizeOf3 w) rfl rfl (vlen RI h28 rfl) (vne h28)) (p_last rfl ?_)
           obtain ⟨t40_1, ht40_1, hm⟩ := bindO hm
           refine g_vst RI 0 0 t78 (fun w => Try.sizeOf3 w) rfl rfl rfl rfl h28 rfl (Nat.add_zero _).symm rfl h39 rfl rfl (Option.some.inj ht40_1) (fun h40 => ?_)
           refine g_se (S' := [_, _, _]) (vs' := [_]) [0, 1, 2] [0] 0 rfl rfl rfl rfl (p_nextL (p_done (g_n_blk (g_n_then (g_region ?_)))))
           obtain ⟨t80, h41, hm⟩ := bindO hm
           refine g_ac h41 rfl rfl rfl (g_mv rfl rfl (g_nil ?_))
           obtain rfl := sj hm
           refine g_n_then ?_
           exact g_again' _ () rfl (h40) (sE rfl) (fun w hh => hh)
        ·replace hm := ifE h30 hm
         refine g_exit (g_x_then (g_x_then (g_x_blk ?_)))
         obtain rfl := sj hm
         have hbo := h29 _ rfl
         subst hbo
         exact g_leaf (⟨s_1.sum11, s_1.t40⟩ : m_s_Fits_C2) (⟨rfl, h28⟩) (sE rfl) (fun w hh => hh)
       ·intro j_1 hj
        obtain ⟨h42, h27⟩ := hj
        subst h42
        replace hm := ocL h26
        refine g_n_then (g_seq ?_)
        refine g_draw none (.free 0 (.free 1 (.hoist 2 (.free 3 (.free 4 (.free 5 (.hoist 6 (.free 7 (.hoist 8 (.free 9 (.free 10 (.free 11 (.hoist 12 (.one 13 (.free 14 .done))))))))))))))) _ rfl (by decide +kernel) (fun w k hh => hh.draw k) (fun w hh => hh) ?_
        refine p_mv rfl rfl rfl (p_fa 1 Try.runUnderlying28 Try.sizeOf26 rfl rfl rfl rfl (p_lc 2 Try.isAgg26 rfl rfl rfl rfl rfl (p_mv rfl rfl rfl ?_)))
        obtain ⟨t85, h43, hm⟩ := bindO hm
        refine p_free rfl rfl rfl rfl (fun w _ => v_ixR h43 (Try.runUnderlying26 w) (Try.sizeOf37 w) rfl rfl hna1 hqa1) (p_fa 0 Try.runUnderlying37 Try.sizeOf3 rfl rfl rfl rfl (p_hoist rfl rfl rfl rfl (fun w hh => v_ldE RSp 0 h43 (Try.isAgg3 w) rfl (hh.seg 1 rfl) rfl rfl) (p_fa 1 Try.runUnderlying28 Try.sizeOf26 rfl rfl rfl rfl (p_lc 2 Try.isAgg26 rfl rfl rfl rfl rfl (p_mv rfl rfl rfl ?_)))))
        obtain ⟨t91, h44, hm⟩ := bindO hm
        refine p_free rfl rfl rfl rfl (fun w _ => v_ixR h44 (Try.runUnderlying26 w) (Try.sizeOf37 w) rfl rfl hna1 hqa1) (p_fa 1 Try.runUnderlying37 Try.sizeOf3 rfl rfl rfl rfl (p_hoist rfl rfl rfl rfl (fun w hh => v_ldE RSp 1 h44 (Try.isAgg3 w) rfl (hh.seg 1 rfl) rfl rfl) (p_one rfl ?_)))
        obtain ⟨t94, h45, hm⟩ := bindO hm
        refine g_callH [] [] rfl rfl rfl rfl rfl rfl rfl Try.call57 (fun w hh => c_s_in j_1.sum11 t85.lo t91.hi w (HV.callee (S0 := []) (vs0 := []) hh roN)  h45) (fun l_7 h46 => ?_)
        refine p_next (fun w hh => hh) (p_free rfl rfl rfl rfl (fun _ _ => v_not rfl) (p_done (g_n_then ?_)))
        refine g_cond rfl (fun h47 => ?_) (fun h47 => ?_)
        ·replace hm := ifT (h47) hm
         refine g_sr (g_as rfl rfl (g_as rfl rfl (g_nt (g_ret (g_r_blk (g_r_then (g_r_then ?_)))))))
         refine g_r_blk ?_
         obtain rfl := sj hm
         have hbo := h18 _ rfl
         subst hbo
         refine g_r_then ?_
         replace hm := ocR h15
         refine g_r_then ?_
         obtain rfl := sj hm
         refine g_done rfl (fun w hh => (.tmp rfl (.tmp rfl .nil))) (fun w hh => ⟨(), rfl, trivial, hh.se [] [] 3 rfl rfl rfl rfl⟩)
        ·replace hm := ifN h47 hm
         refine g_skip (g_n_blk (g_n_then (g_region ?_)))
         obtain ⟨t96, h48, hm⟩ := bindO hm
         refine g_ac h48 rfl rfl rfl (g_mv rfl rfl (g_nil ?_))
         obtain rfl := sj hm
         refine g_n_then ?_
         exact g_again' _ () rfl (h27) (sE rfl) (fun w hh => hh)
      ·replace hm := ifE h19 hm
       refine g_exit (g_x_then (g_x_then (g_x_blk ?_)))
       obtain rfl := sj hm
       have hbo := h18 _ rfl
       subst hbo
       exact g_leaf s.t40 (⟨rfl, h17⟩) (sE rfl) (fun w hh => hh)
     ·intro j hj
      obtain ⟨h49, h16⟩ := hj
      subst h49
      replace hm := ocL h15
      refine g_n_then (g_seq (g_sr (g_mv rfl rfl (g_val rfl rfl rfl (fun w _ => v_lenN (vlen RI h16 rfl) (Try.runUnderlying32 w) rfl) (g_mv rfl rfl (g_nt ?_))))))
      obtain ⟨o_4, h50, h51⟩ := bindO hm
      refine g_cut (ι := Unit) (fun j_2 => o_4 = .inl j_2) (fun j_2 => []) (fun j_2 => [(l_1.1, .cells #[.slice qa0 na0 ca0, .slice qa1 na1 ca1, .map (some l_1.2)] 163 (0, 0)), (l_1.2, gobj (kR RPr) kB t19b), (b, .cells #[.slice qa0 na0 ca0, .slice qa1 na1 ca1] 28 (0, 0))]) (fun j_2 => []) ?_ ?_
      ·replace hm := h50
       refine g_block ?_
       refine g_loopF (ι := Unit) hm (fun s_2 l_8 => True) (fun s_2 l_8 => [(2, ptr b 0), (97, slv L.q L.n L.cap), (98, .int .i64 (j.length : Int)), (99, .int .i64 s_2)]) (fun s_2 l_8 => [(l_1.1, .cells #[.slice qa0 na0 ca0, .slice qa1 na1 ca1, .map (some l_1.2)] 163 (0, 0)), (l_1.2, gobj (kR RPr) kB t19b), (b, .cells #[.slice qa0 na0 ca0, .slice qa1 na1 ca1] 28 (0, 0))]) (fun s_2 l_8 => [⟨3, RI.enc j, L.sp, L.q, []⟩]) () (trivial) (sE rfl) (fun w hh => hh) (fun s_2 l_8 r_3 hpl hm h52 => ?_)
       unfold m_s_Fits_L2 at hm
       refine g_sr (g_ls rfl rfl rfl (g_nt (g_seq ?_)))
       refine g_cond rfl (fun h53 => ?_) (fun h53 => ?_)
       ·replace hm := ifD h53 hm
        refine g_skip (g_n_then (g_seq (g_block (g_sr (g_mv rfl rfl ?_)))))
        obtain ⟨t102, h54, hm⟩ := bindO hm
        refine g_val rfl rfl rfl (fun w _ => v_ixA h54 (Try.runUnderlying32 w) (Try.sizeOf3 w) rfl rfl (vlen RI h16 rfl) (vne h16)) (g_val rfl rfl rfl (fun w hh => v_ldE RI 0 h54 (Try.isAgg3 w) rfl (hh.vseg 0 rfl h16) rfl (Nat.add_zero _).symm) (g_as rfl rfl (g_as rfl rfl (g_nx (g_fa 0 Try.runUnderlying28 rfl Try.sizeOf25 rfl rfl (g_lc 2 Try.isAgg25 rfl rfl rfl rfl (g_mv rfl rfl ?_)))))))
        obtain ⟨t107, h55, hm⟩ := bindO hm
        refine g_val rfl rfl rfl (fun w _ => v_ixR h55 (Try.runUnderlying25 w) (Try.sizeOf77 w) rfl rfl hna0 hqa0) ?_
        refine g_val rfl rfl rfl (fun w hh => v_ldEA RSt 0 [.int .i64 t107.tenant, .int .i64 t107.lay.lo, .int .i64 t107.lay.hi, .int .i64 t107.seeded.lo, .int .i64 t107.seeded.hi, .int .i64 t107.left.lo, .int .i64 t107.left.hi] h55 (Try.isAgg77 w) (Try.sizeOf77 w) rfl (hh.seg 0 rfl) rfl (Nat.add_zero _).symm) ?_
        obtain ⟨t109, h56, hm⟩ := bindO hm
        refine g_callH [] [] rfl rfl rfl rfl rfl rfl rfl Try.call64 (fun w hh => c_s_Strip_gone (⟨t107.tenant, (⟨t107.lay.lo, t107.lay.hi⟩ : Span), (⟨t107.seeded.lo, t107.seeded.hi⟩ : Span), (⟨t107.left.lo, t107.left.hi⟩ : Span)⟩ : Strip) w (HV.callee (S0 := []) (vs0 := []) hh roN)  h56) (fun l_9 h57 => ?_)
        refine g_allocV (fun w => Try.zeroValue37 w) rfl (fun b_1 h58 => ?_)
        refine g_stSA (us := #[_, _]) (cs' := [_, _]) (S' := [_, _, _, _]) 0 (fun w => Try.sizeOf37 w) rfl rfl rfl rfl rfl rfl rfl (g_nx (g_mv rfl rfl (g_fa 0 Try.runUnderlying37 rfl Try.sizeOf3 rfl rfl (g_lc 0 Try.isAgg3 rfl rfl rfl rfl (g_fa 1 Try.runUnderlying37 rfl Try.sizeOf3 rfl rfl (g_lc 0 Try.isAgg3 rfl rfl rfl rfl ?_))))))
        obtain ⟨t115, h59, hm⟩ := bindO hm
        refine g_callH [] [] rfl rfl rfl rfl rfl rfl rfl Try.call57 (fun w hh => c_s_in t102 t109.lo t109.hi w (HV.callee (S0 := []) (vs0 := []) hh roN)  h59) (fun l_10 h60 => ?_)
        refine g_val rfl rfl rfl (fun _ _ => v_not rfl) (g_nt ?_)
        refine g_cond rfl (fun h61 => ?_) (fun h61 => ?_)
        ·replace hm := ifT (h61) hm
         refine g_sr (g_as rfl rfl (g_as rfl rfl (g_nt (g_ret (g_r_blk (g_r_then (g_r_then ?_)))))))
         refine g_r_blk ?_
         obtain rfl := sj hm
         have hbo := h52 _ rfl
         subst hbo
         refine g_r_then ?_
         replace hm := ocR h51
         refine g_r_then ?_
         obtain rfl := sj hm
         refine g_done rfl (fun w hh => (.tmp rfl (.tmp rfl .nil))) (fun w hh => ⟨(), rfl, trivial, hh.se [] [] 3 rfl rfl rfl rfl⟩)
        ·replace hm := ifN h61 hm
         refine g_skip (g_n_blk (g_n_then (g_region ?_)))
         obtain ⟨t117, h62, hm⟩ := bindO hm
         refine g_ac h62 rfl rfl rfl (g_mv rfl rfl (g_nil ?_))
         obtain rfl := sj hm
         refine g_n_then ?_
         exact g_again' _ () rfl (trivial) (sE rfl) (hsE [1, 2, 3] [0] 0 rfl rfl rfl rfl)
       ·replace hm := ifE h53 hm
        refine g_exit (g_x_then (g_x_then (g_x_blk ?_)))
        obtain rfl := sj hm
        have hbo := h52 _ rfl
        subst hbo
        exact g_leaf () (rfl) (.nil) (hsE [0, 1, 2] [] 0 rfl rfl rfl rfl)
      ·intro j_2 hj
       have h63 := hj
       subst h63
       replace hm := ocL h51
       refine g_n_then (g_sr (g_as rfl rfl (g_as rfl rfl (g_nt (g_ret ?_)))))
       obtain rfl := sj hm
       refine g_done rfl (fun w hh => (.tmp rfl (.tmp rfl .nil))) (fun w hh => ⟨(), rfl, trivial, hh.se [] [] 3 rfl rfl rfl rfl⟩)
def m_l_gone (x0 : Strip) : Option Span :=
 (addc x0.lay.lo x0.seeded.lo).bind fun t9 =>
 (subc t9 x0.left.hi).bind fun t13 =>
 (addc x0.lay.hi x0.seeded.hi).bind fun t21 =>
 (subc t21 x0.left.lo).bind fun t25 =>
 some (⟨(max 0 t13), t25⟩ : Span)
theorem c_l_gone (x0 : Strip)  (w : World) (hw : HV w (keys [] []) [] [] [] w)  {res : Span} (hm : m_l_gone x0 = some res) :
    Calls Try.prog 48 #[.agg #[.int .i64 x0.tenant, .int .i64 x0.lay.lo, .int .i64 x0.lay.hi, .int .i64 x0.seeded.lo, .int .i64 x0.seeded.hi, .int .i64 x0.left.lo, .int .i64 x0.left.hi]] w (fun en w' => ∃ l : Unit, en = .returned (.agg #[.int .i64 res.lo, .int .i64 res.hi]) ∧ (True) ∧ HV w (keys [] []) [] [] [] w') := by
  unfold m_l_gone at hm
  refine g_en Try.func48 rfl Try.ntmps48 rfl (e := [(0, _)]) rfl hw (g_sr ?_)
  refine g_boxV rfl rfl (fun b h1 => ?_)
  refine g_allocV (fun w => Try.zeroValue37 w) rfl (fun b_1 h2 => ?_)
  refine g_nx (g_fa 1 Try.runUnderlying77 rfl Try.sizeOf37 rfl rfl (g_fa 0 Try.runUnderlying37 rfl Try.sizeOf3 rfl rfl (g_lc 1 Try.isAgg3 rfl rfl rfl rfl (g_fa 3 Try.runUnderlying77 rfl Try.sizeOf37 rfl rfl (g_fa 0 Try.runUnderlying37 rfl Try.sizeOf3 rfl rfl (g_lc 1 Try.isAgg3 rfl rfl rfl rfl ?_))))))
  obtain ⟨t9, h3, hm⟩ := bindO hm
  refine g_ac h3 rfl rfl rfl (g_fa 5 Try.runUnderlying77 rfl Try.sizeOf37 rfl rfl (g_fa 1 Try.runUnderlying37 rfl Try.sizeOf3 rfl rfl (g_lc 1 Try.isAgg3 rfl rfl rfl rfl ?_)))
  obtain ⟨t13, h4, hm⟩ := bindO hm
  refine g_val rfl rfl rfl (fun _ _ => v_subc h4 rfl rfl) (g_val rfl rfl rfl (fun _ _ => v_max rfl rfl) (g_fa 1 Try.runUnderlying77 rfl Try.sizeOf37 rfl rfl (g_fa 1 Try.runUnderlying37 rfl Try.sizeOf3 rfl rfl (g_lc 1 Try.isAgg3 rfl rfl rfl rfl (g_fa 3 Try.runUnderlying77 rfl Try.sizeOf37 rfl rfl (g_fa 1 Try.runUnderlying37 rfl Try.sizeOf3 rfl rfl (g_lc 1 Try.isAgg3 rfl rfl rfl rfl ?_)))))))
  obtain ⟨t21, h5, hm⟩ := bindO hm
  refine g_ac h5 rfl rfl rfl (g_fa 5 Try.runUnderlying77 rfl Try.sizeOf37 rfl rfl (g_fa 0 Try.runUnderlying37 rfl Try.sizeOf3 rfl rfl (g_lc 1 Try.isAgg3 rfl rfl rfl rfl ?_)))
  obtain ⟨t25, h6, hm⟩ := bindO hm
  refine g_val rfl rfl rfl (fun _ _ => v_subc h6 rfl rfl) (g_val rfl rfl rfl (fun _ _ => v_build (vs := [(0, _), (1, _)]) (cells := [_, _]) rfl rfl) (g_stSA (us := #[_, _]) (cs' := [_, _]) (S' := [_, _]) 0 (fun w => Try.sizeOf37 w) rfl rfl rfl rfl rfl rfl rfl (g_nt (g_ret ?_))))
  obtain rfl := sj hm
  refine g_done rfl (fun w hh => (.cell rfl (loadVar_agg (vs := [_, _]) (Try.isAgg37 _) (Try.sizeOf37 _) (hh.cells 0 rfl rfl)) .nil)) (fun w hh => ⟨(), rfl, trivial, hh.se [] [] 0 rfl rfl rfl rfl⟩)
structure m_l_fits_S0 where
  t26 : Int
  t23 : (List Int)
structure m_l_fits_C1 where
  sum8 : Int
  t23 : (List Int)
structure m_l_fits_S1 where
  sum8 : Int
  t38 : Int
  t23 : (List Int)
def m_l_fits_L1 (t29 : (List Int)) (s0 : Scalps) (s : m_l_fits_S0) (s_1 : m_l_fits_S1) : Option (m_l_fits_S1 ⊕ (m_l_fits_C1 ⊕ Bool)) :=
 if s_1.t38 < (t29.length : Int) then
 ((ix t29 s_1.t38).bind fun t41 =>
 (if t41 < 0 then
 (some true) else
 (if 60 < t41 then
 (some true) else
 (if 0 < t41 then
 ((m_l_reaches s0 s.t26 s_1.t38).bind fun t56 =>
 some (!t56)) else
 (some false)))).bind fun o_2 =>
 if o_2 = true then
 (some (.inr (.inr false))) else
 ((addc s_1.sum8 t41).bind fun t64 =>
 (ix s_1.t23 s_1.t38).bind fun t67 =>
 (addc t67 t41).bind fun t70 =>
 (ix s_1.t23 s_1.t38).bind fun t71 =>
 (some (s_1.t23.set (Int.toNat s_1.t38) t70)).bind fun t23_1 =>
 (addc s_1.t38 1).bind fun t72 =>
 some (.inl (⟨t64, t72, t23_1⟩ : m_l_fits_S1)))) else
 (some (.inr (.inl (⟨s_1.sum8, s_1.t23⟩ : m_l_fits_C1))))
def m_l_fits_L0 (shares1 : (List (List Int))) (s0 : Scalps) (s : m_l_fits_S0) : Option (m_l_fits_S0 ⊕ ((List Int) ⊕ Bool)) :=
 if s.t26 < (shares1.length : Int) then
 ((ix shares1 s.t26).bind fun t29 =>
 if (t29.length : Int) = (s.t23.length : Int) then
 ((iterM FU (m_l_fits_L1 t29 s0 s) (⟨0, 0, s.t23⟩ : m_l_fits_S1)).bind fun o_1 =>
 oc o_1 (fun j_1 => ((ix s0.carried s.t26).bind fun t77 =>
 if j_1.sum8 < t77.lo then
 (some true) else
 ((ix s0.carried s.t26).bind fun t86 =>
 some (decide (t86.hi < j_1.sum8)))).bind fun o_3 =>
 if o_3 = true then
 (some (.inr (.inr false))) else
 ((addc s.t26 1).bind fun t91 =>
 some (.inl (⟨t91, j_1.t23⟩ : m_l_fits_S0)))) (fun r_2 => some (.inr (.inr r_2)))) else
 (some (.inr (.inr false)))) else
 (some (.inr (.inl s.t23)))
def m_l_fits_L2 (j : (List Int)) (s0 : Scalps) (s_2 : Int) : Option (Int ⊕ (Unit ⊕ Bool)) :=
 if s_2 < (j.length : Int) then
 ((ix j s_2).bind fun t97 =>
 (ix s0.strips s_2).bind fun t102 =>
 (m_l_gone (⟨t102.tenant, (⟨t102.lay.lo, t102.lay.hi⟩ : Span), (⟨t102.seeded.lo, t102.seeded.hi⟩ : Span), (⟨t102.left.lo, t102.left.hi⟩ : Span)⟩ : Strip)).bind fun t104 =>
 (if t97 < t104.lo then
 (some true) else
 (some (decide (t104.hi < t97)))).bind fun o_5 =>
 if o_5 = true then
 (some (.inr (.inr false))) else
 ((addc s_2 1).bind fun t115 =>
 some (.inl t115))) else
 (some (.inr (.inl ())))
def m_l_fits (s0 : Scalps) (shares1 : (List (List Int))) : Option Bool :=
 if (shares1.length : Int) = (s0.carried.length : Int) then
 ((makec 8 0 (s0.strips.length : Int) (s0.strips.length : Int)).bind fun t23 =>
 (iterM FU (m_l_fits_L0 shares1 s0) (⟨0, t23⟩ : m_l_fits_S0)).bind fun o =>
 oc o (fun j => (iterM FU (m_l_fits_L2 j s0) 0).bind fun o_4 =>
 oc o_4 (fun j_2 => some true) (fun r_4 => some r_4)) (fun r_5 => some r_5)) else
 (some false)
theorem c_l_fits (s0 : Scalps) (shares1 : (List (List Int))) (qa0 : Option Addr) (na0 ca0 : Nat) (qa1 : Option Addr) (na1 ca1 : Nat) (qa2 : Option Addr) (na2 ca2 : Nat) (ar2 : List AL) (w : World) (hw : HV w (keys [] []) [] [] [(aB qa0, aO qa0, RSt.enc s0.strips), (aB qa1, aO qa1, RSp.enc s0.carried), (aB qa2, aO qa2, RwA.enc ar2)] w) (hna0 : s0.strips.length = na0) (hqa0 : AOK na0 qa0) (hla0 : na0 ≤ ca0) (hna1 : s0.carried.length = na1) (hqa1 : AOK na1 qa1) (hla1 : na1 ≤ ca1) (hna2 : shares1.length = na2) (hqa2 : AOK na2 qa2) (hla2 : na2 ≤ ca2) (hda2 : DRO shares1 ar2) (hTa2 : ∀ t, t ∈ rsg RI shares1 ar2 → segOK w t ∧ (t.2.2 ≠ [] → t.1 ∉ keys [] [])) {res : Bool} (hm : m_l_fits s0 shares1 = some res) :
    Calls Try.prog 16 #[.agg #[.slice qa0 na0 ca0, .slice qa1 na1 ca1], .slice qa2 na2 ca2] w (fun en w' => ∃ l : Unit, en = .returned (.bool res) ∧ (True) ∧ HV w (keys [] []) [] [] [] w') := by
  unfold m_l_fits at hm
  refine g_en Try.func16 rfl Try.ntmps16 rfl (e := [(0, _), (1, _)]) rfl hw (g_sr ?_)
  refine g_boxV rfl rfl (fun b h1 => ?_)
  refine g_as rfl rfl (g_nt (g_seq (g_sr (g_mv rfl rfl (g_val rfl rfl rfl (fun w _ => v_lenR hna2 (Try.runUnderlying29 w) rfl) (g_fa 1 Try.runUnderlying28 rfl Try.sizeOf26 rfl rfl (g_lc 0 Try.isAgg26 rfl rfl rfl rfl ?_)))))))
  refine g_val rfl rfl rfl (fun w _ => v_lenR hna1 (Try.runUnderlying26 w) rfl) (g_val rfl rfl rfl (fun _ _ => v_neq rfl rfl) (g_nt ?_))
  refine g_cond rfl (fun h2 => ?_) (fun h2 => ?_)
  ·replace hm := ifF (of_ndec_true h2) hm
   refine g_sr (g_as rfl rfl (g_nt (g_ret (g_r_then ?_))))
   obtain rfl := sj hm
   refine g_done rfl (fun w hh => (.tmp rfl .nil)) (fun w hh => ⟨(), rfl, trivial, hh.se [] [] 3 rfl rfl rfl rfl⟩)
  ·replace hm := ifT (of_ndec_false h2) hm
   refine g_skip (g_n_then (g_sr (g_fa 0 Try.runUnderlying28 rfl Try.sizeOf25 rfl rfl (g_lc 0 Try.isAgg25 rfl rfl rfl rfl (g_val rfl rfl rfl (fun w _ => v_lenR hna0 (Try.runUnderlying25 w) rfl) ?_)))))
   obtain ⟨t23, h3, hm⟩ := bindO hm
   refine g_vmake RI 0 h3 Try.underlying32 gxinf3 rfl rfl rfl rfl rfl (fun L h4 => ?_)
   refine g_as rfl rfl (g_nt (g_seq (g_sr (g_mv rfl rfl (g_val rfl rfl rfl (fun w _ => v_lenR hna2 (Try.runUnderlying29 w) rfl) (g_mv rfl rfl (g_nt ?_)))))))
   obtain ⟨o, h5, h6⟩ := bindO hm
   refine g_cut (ι := (List Int)) (fun j => o = .inl j ∧ VOK 1 L.n L.cap (RI.enc j) L.sp L.q) (fun j => [(2, ptr b 0), (5, slv L.q L.n L.cap)]) (fun j => [(b, .cells #[.slice qa0 na0 ca0, .slice qa1 na1 ca1] 28 (0, 0))]) (fun j => [⟨3, RI.enc j, L.sp, L.q, []⟩]) ?_ ?_
   ·replace hm := h5
    refine g_block ?_
    refine g_loopF (ι := Unit) hm (fun s l => VOK 1 L.n L.cap (RI.enc s.t23) L.sp L.q) (fun s l => [(2, ptr b 0), (5, slv L.q L.n L.cap), (24, .slice qa2 na2 ca2), (25, .int .i64 (shares1.length : Int)), (26, .int .i64 s.t26)]) (fun s l => [(b, .cells #[.slice qa0 na0 ca0, .slice qa1 na1 ca1] 28 (0, 0))]) (fun s l => [⟨3, RI.enc s.t23, L.sp, L.q, []⟩]) () (h4) (sE rfl) (fun w hh => hh) (fun s l r hpl hm h9 => ?_)
    have h8 := hpl
    unfold m_l_fits_L0 at hm
    refine g_sr (g_ls rfl rfl rfl (g_nt (g_seq ?_)))
    refine g_cond rfl (fun h10 => ?_) (fun h10 => ?_)
    ·replace hm := ifD h10 hm
     refine g_skip (g_n_then (g_seq (g_block (g_sr (g_mv rfl rfl ?_)))))
     obtain ⟨t29, h11, hm⟩ := bindO hm
     obtain ⟨A, h12, h13, h14, h15⟩ := (hda2).row h11
     refine g_val rfl rfl rfl (fun w _ => v_ixR h12 (Try.runUnderlying29 w) (Try.sizeOf32 w) rfl rfl (Eq.trans (hda2).len.symm hna2) hqa2) (g_val rfl rfl rfl (fun w hh => v_ldE RwA 0 h12 (Try.isAgg32 w) rfl (hh.seg 2 rfl) rfl (Nat.add_zero _).symm) (g_as rfl rfl (g_as rfl rfl (g_nt (g_seq (g_sr (g_mv rfl rfl ?_)))))))
     refine g_val rfl rfl rfl (fun w _ => v_lenR h13 (Try.runUnderlying32 w) rfl) (g_mv rfl rfl (g_val rfl rfl rfl (fun w _ => v_lenN (vlen RI h8 rfl) (Try.runUnderlying32 w) rfl) (g_val rfl rfl rfl (fun _ _ => v_neq rfl rfl) (g_nt ?_))))
     refine g_cond rfl (fun h16 => ?_) (fun h16 => ?_)
     ·replace hm := ifF (of_ndec_true h16) hm
      refine g_sr (g_as rfl rfl (g_nt (g_ret (g_r_then (g_r_blk (g_r_then (g_r_then ?_)))))))
      refine g_r_blk ?_
      obtain rfl := sj hm
      have hbo := h9 _ rfl
      subst hbo
      refine g_r_then ?_
      replace hm := ocR h6
      refine g_r_then ?_
      obtain rfl := sj hm
      refine g_done rfl (fun w hh => (.tmp rfl .nil)) (fun w hh => ⟨(), rfl, trivial, hh.se [] [] 3 rfl rfl rfl rfl⟩)
     ·replace hm := ifT (of_ndec_false h16) hm
      refine g_skip (g_n_then (g_sr (g_as rfl rfl (g_nt (g_seq (g_sr (g_mv rfl rfl ?_)))))))
      refine g_val rfl rfl rfl (fun w _ => v_lenR h13 (Try.runUnderlying32 w) rfl) (g_mv rfl rfl (g_nt ?_))
      obtain ⟨o_1, h17, h18⟩ := bindO hm
      refine g_cut (ι := m_l_fits_C1) (fun j_1 => o_1 = .inl j_1 ∧ VOK 1 L.n L.cap (RI.enc j_1.t23) L.sp L.q) (fun j_1 => [(2, ptr b 0), (5, slv L.q L.n L.cap), (6, .int .i64 s.t26), (8, .int .i64 j_1.sum8), (24, .slice qa2 na2 ca2), (25, .int .i64 (shares1.length : Int)), (26, .int .i64 s.t26)]) (fun j_1 => [(b, .cells #[.slice qa0 na0 ca0, .slice qa1 na1 ca1] 28 (0, 0))]) (fun j_1 => [⟨3, RI.enc j_1.t23, L.sp, L.q, []⟩]) ?_ ?_
      ·replace hm := h17
       refine g_block ?_
       refine g_loopF (ι := Unit) hm (fun s_1 l_1 => VOK 1 L.n L.cap (RI.enc s_1.t23) L.sp L.q) (fun s_1 l_1 => [(2, ptr b 0), (5, slv L.q L.n L.cap), (6, .int .i64 s.t26), (8, .int .i64 s_1.sum8), (24, .slice qa2 na2 ca2), (25, .int .i64 (shares1.length : Int)), (26, .int .i64 s.t26), (36, .slice A.a A.n A.cap), (37, .int .i64 (t29.length : Int)), (38, .int .i64 s_1.t38)]) (fun s_1 l_1 => [(b, .cells #[.slice qa0 na0 ca0, .slice qa1 na1 ca1] 28 (0, 0))]) (fun s_1 l_1 => [⟨3, RI.enc s_1.t23, L.sp, L.q, []⟩]) () (h8) (sE rfl) (fun w hh => hh) (fun s_1 l_1 r_1 hpl hm h21 => ?_)
       have h20 := hpl
       unfold m_l_fits_L1 at hm
       refine g_sr (g_ls rfl rfl rfl (g_nt (g_seq ?_)))
       refine g_cond rfl (fun h22 => ?_) (fun h22 => ?_)
       ·replace hm := ifD h22 hm
        refine g_skip (g_n_then (g_seq (g_block (g_sr (g_mv rfl rfl ?_)))))
        obtain ⟨t41, h23, hm⟩ := bindO hm
        refine g_val rfl rfl rfl (fun w _ => v_ixR h23 (Try.runUnderlying32 w) (Try.sizeOf3 w) rfl rfl h13 h14) (g_val rfl rfl rfl (fun w hh => v_ldE RI 0 h23 (Try.isAgg3 w) rfl (hh.oldseg (hTa2 _ (rsg_ix h11 h12))) rfl (Nat.add_zero _).symm) (g_as rfl rfl (g_as rfl rfl (g_nt (g_seq (g_seq ?_))))))
        obtain ⟨o_2, h24, h25⟩ := bindO hm
        refine g_cut (ι := Unit) (fun l_2 => True) (fun l_2 => [(2, ptr b 0), (5, slv L.q L.n L.cap), (6, .int .i64 s.t26), (8, .int .i64 s_1.sum8), (9, .int .i64 s_1.t38), (10, .int .i64 t41), (24, .slice qa2 na2 ca2), (25, .int .i64 (shares1.length : Int)), (26, .int .i64 s.t26), (36, .slice A.a A.n A.cap), (37, .int .i64 (t29.length : Int)), (38, .int .i64 s_1.t38), (59, .bool o_2)]) (fun l_2 => [(b, .cells #[.slice qa0 na0 ca0, .slice qa1 na1 ca1] 28 (0, 0))]) (fun l_2 => [⟨3, RI.enc s_1.t23, L.sp, L.q, []⟩]) ?_ ?_
        ·replace hm := h24
         refine g_region (g_mv rfl rfl (g_ls rfl rfl rfl (g_mv rfl rfl ?_)))
         refine g_case 45 rfl (fun h26 => ?_) (fun h26 => ?_)
         ·replace hm := ifD h26 hm
          refine g_k rfl rfl rfl rfl (g_k rfl rfl rfl rfl (g_pt rfl rfl rfl (g_mv rfl rfl (g_k rfl rfl rfl rfl (g_k rfl rfl rfl rfl (g_k rfl rfl rfl rfl ?_))))))
          refine g_skipU' rfl rfl rfl rfl rfl ?_
          refine g_skipU' rfl rfl rfl rfl rfl ?_
          refine g_skipU' rfl rfl rfl rfl rfl ?_
          refine g_skipU' rfl rfl rfl rfl rfl ?_
          refine g_skipU' rfl rfl rfl rfl rfl ?_
          refine g_k rfl rfl rfl rfl (g_pt rfl rfl rfl (g_nil ?_))
          obtain rfl := sj hm
          exact g_leaf () (trivial) (sE rfl) (fun w hh => hh)
         ·replace hm := ifE h26 hm
          refine v_unguard rfl rfl (g_mv rfl rfl (v_unguard rfl rfl (g_val rfl rfl rfl (fun _ _ => v_gtr rfl rfl) (g_pf rfl rfl rfl (g_mv rfl rfl ?_)))))
          refine g_case 49 rfl (fun h27 => ?_) (fun h27 => ?_)
          ·replace hm := ifD h27 hm
           refine g_k rfl rfl rfl rfl (g_k rfl rfl rfl rfl (g_k rfl rfl rfl rfl ?_))
           refine g_skipU' rfl rfl rfl rfl rfl ?_
           refine g_skipU' rfl rfl rfl rfl rfl ?_
           refine g_skipU' rfl rfl rfl rfl rfl ?_
           refine g_skipU' rfl rfl rfl rfl rfl ?_
           refine g_skipU' rfl rfl rfl rfl rfl ?_
           refine g_k rfl rfl rfl rfl (g_pt rfl rfl rfl (g_nil ?_))
           obtain rfl := sj hm
           exact g_leaf () (trivial) (sE rfl) (fun w hh => hh)
          ·replace hm := ifE h27 hm
           refine v_unguard rfl rfl (g_mv rfl rfl (v_unguard rfl rfl (g_val rfl rfl rfl (fun _ _ => v_gtr rfl rfl) (v_unguard rfl rfl (g_mv rfl rfl ?_)))))
           refine g_case 52 rfl (fun h28 => ?_) (fun h28 => ?_)
           ·replace hm := ifD h28 hm
            refine v_unguard rfl rfl (g_la [_, _] 0 Try.isAgg28 Try.sizeOf28 rfl rfl rfl rfl (v_unguard rfl rfl (g_mv rfl rfl (v_unguard rfl rfl (g_mv rfl rfl (v_unguard rfl rfl ?_))))))
            obtain ⟨t56, h29, hm⟩ := bindO hm
            refine g_callH [] [] rfl rfl rfl rfl rfl rfl rfl Try.call43 (fun w hh => c_l_reaches s0 s.t26 s_1.t38 qa0 na0 ca0 qa1 na1 ca1 w (HV.callee (S0 := []) (vs0 := []) hh (roR hh 0 rfl (roR hh 1 rfl roN))) hna0 hqa0 hla0 hna1 hqa1 hla1 h29) (fun l_3 h30 => ?_)
            refine v_unguard rfl rfl (g_val rfl rfl rfl (fun _ _ => v_not rfl) (v_unguard rfl rfl (g_pt rfl rfl rfl (g_pf rfl rfl rfl (g_nil ?_)))))
            obtain rfl := sj hm
            exact g_leaf () (trivial) (sE rfl) (fun w hh => hh)
           ·replace hm := ifE h28 hm
            refine g_k rfl rfl rfl rfl (g_k rfl rfl rfl rfl (g_k rfl rfl rfl rfl (g_k rfl rfl rfl rfl (g_k rfl rfl rfl rfl (v_unguard rfl rfl (g_pf rfl rfl rfl (g_pf rfl rfl rfl ?_)))))))
            refine g_nil ?_
            obtain rfl := sj hm
            exact g_leaf () (trivial) (sE rfl) (fun w hh => hh)
        ·intro l_2 hj
         replace hm := h25
         refine g_n_then ?_
         refine g_cond rfl (fun h31 => ?_) (fun h31 => ?_)
         ·replace hm := ifT (h31) hm
          refine g_sr (g_as rfl rfl (g_nt (g_ret (g_r_then (g_r_blk (g_r_then (g_r_then ?_)))))))
          refine g_r_blk ?_
          obtain rfl := sj hm
          have hbo := h21 _ rfl
          subst hbo
          refine g_r_then ?_
          replace hm := ocR h18
          refine g_r_then (g_r_blk (g_r_then (g_r_then (g_r_blk ?_))))
          obtain rfl := sj hm
          have hbo := h9 _ rfl
          subst hbo
          refine g_r_then ?_
          replace hm := ocR h6
          refine g_r_then ?_
          obtain rfl := sj hm
          refine g_done rfl (fun w hh => (.tmp rfl .nil)) (fun w hh => ⟨(), rfl, trivial, hh.se [] [] 3 rfl rfl rfl rfl⟩)
         ·replace hm := ifN h31 hm
          refine g_skip (g_n_then ?_)
          refine g_draw (some 13) (.free 0 (.free 1 (.free 2 (.free 3 (.free 4 (.free 5 (.free 6 (.free 7 (.hoist 8 (.free 9 (.free 10 (.free 11 (.free 12 (.last 13 .done)))))))))))))) _ rfl (by decide +kernel) (fun w k hh => hh.draw k) (fun w hh => hh) ?_
          refine p_mv rfl rfl rfl (p_mv rfl rfl rfl (p_mv rfl rfl rfl (p_mv rfl rfl rfl ?_)))
          obtain ⟨t64, h32, hm⟩ := bindO hm
          refine p_free rfl rfl rfl rfl (fun _ _ => v_addc h32 rfl rfl) (p_mv rfl rfl rfl (p_mv rfl rfl rfl ?_))
          obtain ⟨t67, h33, hm⟩ := bindO hm
          refine p_free rfl rfl rfl rfl (fun w _ => v_ixA h33 (Try.runUnderlying32 w) (Try.sizeOf3 w) rfl rfl (vlen RI h20 rfl) (vne h20)) (p_hoist rfl rfl rfl rfl (fun w hh => v_ldE RI 0 h33 (Try.isAgg3 w) rfl (hh.vseg 0 rfl h20) rfl (Nat.add_zero _).symm) (p_mv rfl rfl rfl ?_))
          obtain ⟨t70, h34, hm⟩ := bindO hm
          refine p_free rfl rfl rfl rfl (fun _ _ => v_addc h34 rfl rfl) (p_free rfl rfl rfl rfl (fun _ _ => v_assign rfl) ?_)
          obtain ⟨t71, h35, hm⟩ := bindO hm
          refine p_free rfl rfl rfl rfl (fun w _ => v_ixA h35 (Try.runUnderlying32 w) (Try.sizeOf3 w) rfl rfl (vlen RI h20 rfl) (vne h20)) (p_last rfl ?_)
          obtain ⟨t23_1, ht23_1, hm⟩ := bindO hm
          refine g_vst RI 0 0 t70 (fun w => Try.sizeOf3 w) rfl rfl rfl rfl h20 rfl (Nat.add_zero _).symm rfl h35 rfl rfl (Option.some.inj ht23_1) (fun h36 => ?_)
          refine g_se (S' := [_]) (vs' := [_]) [0] [0] 0 rfl rfl rfl rfl (p_nextL (p_done (g_n_blk (g_n_then (g_region ?_)))))
          obtain ⟨t72, h37, hm⟩ := bindO hm
          refine g_ac h37 rfl rfl rfl (g_mv rfl rfl (g_nil ?_))
          obtain rfl := sj hm
          refine g_n_then ?_
          exact g_again' _ () rfl (h36) (sE rfl) (fun w hh => hh)
       ·replace hm := ifE h22 hm
        refine g_exit (g_x_then (g_x_then (g_x_blk ?_)))
        obtain rfl := sj hm
        have hbo := h21 _ rfl
        subst hbo
        exact g_leaf (⟨s_1.sum8, s_1.t23⟩ : m_l_fits_C1) (⟨rfl, h20⟩) (sE rfl) (fun w hh => hh)
      ·intro j_1 hj
       obtain ⟨h38, h19⟩ := hj
       subst h38
       replace hm := ocL h18
       refine g_n_then (g_seq ?_)
       obtain ⟨o_3, h39, h40⟩ := bindO hm
       refine g_cut (ι := Unit) (fun l_4 => True) (fun l_4 => [(2, ptr b 0), (5, slv L.q L.n L.cap), (24, .slice qa2 na2 ca2), (25, .int .i64 (shares1.length : Int)), (26, .int .i64 s.t26), (90, .bool o_3)]) (fun l_4 => [(b, .cells #[.slice qa0 na0 ca0, .slice qa1 na1 ca1] 28 (0, 0))]) (fun l_4 => [⟨3, RI.enc j_1.t23, L.sp, L.q, []⟩]) ?_ ?_
       ·replace hm := h39
        refine g_region (g_mv rfl rfl (g_fa 1 Try.runUnderlying28 rfl Try.sizeOf26 rfl rfl (g_lc 0 Try.isAgg26 rfl rfl rfl rfl (g_mv rfl rfl ?_))))
        obtain ⟨t77, h41, hm⟩ := bindO hm
        refine g_val rfl rfl rfl (fun w _ => v_ixR h41 (Try.runUnderlying26 w) (Try.sizeOf37 w) rfl rfl hna1 hqa1) (g_fa 0 Try.runUnderlying37 rfl Try.sizeOf3 rfl rfl (g_val rfl rfl rfl (fun w hh => v_ldE RSp 0 h41 (Try.isAgg3 w) rfl (hh.seg 1 rfl) rfl rfl) (g_ls rfl rfl rfl (g_mv rfl rfl ?_))))
        refine g_case 81 rfl (fun h42 => ?_) (fun h42 => ?_)
        ·replace hm := ifD h42 hm
         refine g_k rfl rfl rfl rfl (g_k rfl rfl rfl rfl (g_k rfl rfl rfl rfl (g_k rfl rfl rfl rfl (g_k rfl rfl rfl rfl (g_k rfl rfl rfl rfl (g_k rfl rfl rfl rfl (g_k rfl rfl rfl rfl ?_)))))))
         refine g_pt rfl rfl rfl (g_nil ?_)
         obtain rfl := sj hm
         exact g_leaf () (trivial) (sE rfl) (fun w hh => hh)
        ·replace hm := ifE h42 hm
         refine v_unguard rfl rfl (g_mv rfl rfl (v_unguard rfl rfl (g_fa 1 Try.runUnderlying28 rfl Try.sizeOf26 rfl rfl (v_unguard rfl rfl (g_lc 0 Try.isAgg26 rfl rfl rfl rfl (v_unguard rfl rfl (g_mv rfl rfl ?_)))))))
         refine v_unguard rfl rfl ?_
         obtain ⟨t86, h43, hm⟩ := bindO hm
         refine g_val rfl rfl rfl (fun w _ => v_ixR h43 (Try.runUnderlying26 w) (Try.sizeOf37 w) rfl rfl hna1 hqa1) (v_unguard rfl rfl (g_fa 1 Try.runUnderlying37 rfl Try.sizeOf3 rfl rfl (v_unguard rfl rfl (g_val rfl rfl rfl (fun w hh => v_ldE RSp 1 h43 (Try.isAgg3 w) rfl (hh.seg 1 rfl) rfl rfl) (v_unguard rfl rfl (g_val rfl rfl rfl (fun _ _ => v_gtr rfl rfl) (g_pf rfl rfl rfl ?_)))))))
         refine g_nil ?_
         obtain rfl := sj hm
         exact g_leaf () (trivial) (sE rfl) (fun w hh => hh)
       ·intro l_4 hj
        replace hm := h40
        refine g_n_then ?_
        refine g_cond rfl (fun h44 => ?_) (fun h44 => ?_)
        ·replace hm := ifT (h44) hm
         refine g_sr (g_as rfl rfl (g_nt (g_ret (g_r_blk (g_r_then (g_r_then (g_r_blk ?_)))))))
         obtain rfl := sj hm
         have hbo := h9 _ rfl
         subst hbo
         refine g_r_then ?_
         replace hm := ocR h6
         refine g_r_then ?_
         obtain rfl := sj hm
         refine g_done rfl (fun w hh => (.tmp rfl .nil)) (fun w hh => ⟨(), rfl, trivial, hh.se [] [] 3 rfl rfl rfl rfl⟩)
        ·replace hm := ifN h44 hm
         refine g_skip (g_n_blk (g_n_then (g_region ?_)))
         obtain ⟨t91, h45, hm⟩ := bindO hm
         refine g_ac h45 rfl rfl rfl (g_mv rfl rfl (g_nil ?_))
         obtain rfl := sj hm
         refine g_n_then ?_
         exact g_again' _ () rfl (h19) (sE rfl) (fun w hh => hh)
    ·replace hm := ifE h10 hm
     refine g_exit (g_x_then (g_x_then (g_x_blk ?_)))
     obtain rfl := sj hm
     have hbo := h9 _ rfl
     subst hbo
     exact g_leaf s.t23 (⟨rfl, h8⟩) (sE rfl) (fun w hh => hh)
   ·intro j hj
    obtain ⟨h46, h7⟩ := hj
    subst h46
    replace hm := ocL h6
    refine g_n_then (g_seq (g_sr (g_mv rfl rfl (g_val rfl rfl rfl (fun w _ => v_lenN (vlen RI h7 rfl) (Try.runUnderlying32 w) rfl) (g_mv rfl rfl (g_nt ?_))))))
    obtain ⟨o_4, h47, h48⟩ := bindO hm
    refine g_cut (ι := Unit) (fun j_2 => o_4 = .inl j_2) (fun j_2 => []) (fun j_2 => [(b, .cells #[.slice qa0 na0 ca0, .slice qa1 na1 ca1] 28 (0, 0))]) (fun j_2 => []) ?_ ?_
    ·replace hm := h47
     refine g_block ?_
     refine g_loopF (ι := Unit) hm (fun s_2 l_5 => True) (fun s_2 l_5 => [(2, ptr b 0), (92, slv L.q L.n L.cap), (93, .int .i64 (j.length : Int)), (94, .int .i64 s_2)]) (fun s_2 l_5 => [(b, .cells #[.slice qa0 na0 ca0, .slice qa1 na1 ca1] 28 (0, 0))]) (fun s_2 l_5 => [⟨3, RI.enc j, L.sp, L.q, []⟩]) () (trivial) (sE rfl) (fun w hh => hh) (fun s_2 l_5 r_3 hpl hm h49 => ?_)
     unfold m_l_fits_L2 at hm
     refine g_sr (g_ls rfl rfl rfl (g_nt (g_seq ?_)))
     refine g_cond rfl (fun h50 => ?_) (fun h50 => ?_)
     ·replace hm := ifD h50 hm
      refine g_skip (g_n_then (g_seq (g_block (g_sr (g_mv rfl rfl ?_)))))
      obtain ⟨t97, h51, hm⟩ := bindO hm
      refine g_val rfl rfl rfl (fun w _ => v_ixA h51 (Try.runUnderlying32 w) (Try.sizeOf3 w) rfl rfl (vlen RI h7 rfl) (vne h7)) (g_val rfl rfl rfl (fun w hh => v_ldE RI 0 h51 (Try.isAgg3 w) rfl (hh.vseg 0 rfl h7) rfl (Nat.add_zero _).symm) (g_as rfl rfl (g_as rfl rfl (g_nx (g_fa 0 Try.runUnderlying28 rfl Try.sizeOf25 rfl rfl (g_lc 0 Try.isAgg25 rfl rfl rfl rfl (g_mv rfl rfl ?_)))))))
      obtain ⟨t102, h52, hm⟩ := bindO hm
      refine g_val rfl rfl rfl (fun w _ => v_ixR h52 (Try.runUnderlying25 w) (Try.sizeOf77 w) rfl rfl hna0 hqa0) ?_
      refine g_val rfl rfl rfl (fun w hh => v_ldEA RSt 0 [.int .i64 t102.tenant, .int .i64 t102.lay.lo, .int .i64 t102.lay.hi, .int .i64 t102.seeded.lo, .int .i64 t102.seeded.hi, .int .i64 t102.left.lo, .int .i64 t102.left.hi] h52 (Try.isAgg77 w) (Try.sizeOf77 w) rfl (hh.seg 0 rfl) rfl (Nat.add_zero _).symm) ?_
      obtain ⟨t104, h53, hm⟩ := bindO hm
      refine g_callH [] [] rfl rfl rfl rfl rfl rfl rfl Try.call48 (fun w hh => c_l_gone (⟨t102.tenant, (⟨t102.lay.lo, t102.lay.hi⟩ : Span), (⟨t102.seeded.lo, t102.seeded.hi⟩ : Span), (⟨t102.left.lo, t102.left.hi⟩ : Span)⟩ : Strip) w (HV.callee (S0 := []) (vs0 := []) hh roN)  h53) (fun l_6 h54 => ?_)
      refine g_allocV (fun w => Try.zeroValue37 w) rfl (fun b_1 h55 => ?_)
      refine g_stSA (us := #[_, _]) (cs' := [_, _]) (S' := [_, _]) 0 (fun w => Try.sizeOf37 w) rfl rfl rfl rfl rfl rfl rfl (g_nt (g_seq ?_))
      obtain ⟨o_5, h56, h57⟩ := bindO hm
      refine g_cut (ι := Unit) (fun l_7 => True) (fun l_7 => [(2, ptr b 0), (92, slv L.q L.n L.cap), (93, .int .i64 (j.length : Int)), (94, .int .i64 s_2), (114, .bool o_5)]) (fun l_7 => [(b_1, .cells #[.int .i64 t104.lo, .int .i64 t104.hi] 37 (0, 0)), (b, .cells #[.slice qa0 na0 ca0, .slice qa1 na1 ca1] 28 (0, 0))]) (fun l_7 => [⟨3, RI.enc j, L.sp, L.q, []⟩]) ?_ ?_
      ·replace hm := h56
       refine g_region (g_mv rfl rfl (g_fa 0 Try.runUnderlying37 rfl Try.sizeOf3 rfl rfl (g_lc 0 Try.isAgg3 rfl rfl rfl rfl (g_ls rfl rfl rfl (g_mv rfl rfl ?_)))))
       refine g_case 109 rfl (fun h58 => ?_) (fun h58 => ?_)
       ·replace hm := ifD h58 hm
        refine g_k rfl rfl rfl rfl (g_k rfl rfl rfl rfl (g_k rfl rfl rfl rfl (g_k rfl rfl rfl rfl (g_pt rfl rfl rfl (g_nil ?_)))))
        obtain rfl := sj hm
        exact g_leaf () (trivial) (sE rfl) (fun w hh => hh)
       ·replace hm := ifE h58 hm
        refine v_unguard rfl rfl (g_mv rfl rfl (v_unguard rfl rfl (g_fa 1 Try.runUnderlying37 rfl Try.sizeOf3 rfl rfl (v_unguard rfl rfl (g_lc 0 Try.isAgg3 rfl rfl rfl rfl (v_unguard rfl rfl (g_val rfl rfl rfl (fun _ _ => v_gtr rfl rfl) ?_)))))))
        refine g_pf rfl rfl rfl (g_nil ?_)
        obtain rfl := sj hm
        exact g_leaf () (trivial) (sE rfl) (fun w hh => hh)
      ·intro l_7 hj
       replace hm := h57
       refine g_n_then ?_
       refine g_cond rfl (fun h59 => ?_) (fun h59 => ?_)
       ·replace hm := ifT (h59) hm
        refine g_sr (g_as rfl rfl (g_nt (g_ret (g_r_blk (g_r_then (g_r_then (g_r_blk ?_)))))))
        obtain rfl := sj hm
        have hbo := h49 _ rfl
        subst hbo
        refine g_r_then ?_
        replace hm := ocR h48
        refine g_r_then ?_
        obtain rfl := sj hm
        refine g_done rfl (fun w hh => (.tmp rfl .nil)) (fun w hh => ⟨(), rfl, trivial, hh.se [] [] 3 rfl rfl rfl rfl⟩)
       ·replace hm := ifN h59 hm
        refine g_skip (g_n_blk (g_n_then (g_region ?_)))
        obtain ⟨t115, h60, hm⟩ := bindO hm
        refine g_ac h60 rfl rfl rfl (g_mv rfl rfl (g_nil ?_))
        obtain rfl := sj hm
        refine g_n_then ?_
        exact g_again' _ () rfl (trivial) (sE rfl) (hsE [1] [0] 0 rfl rfl rfl rfl)
     ·replace hm := ifE h50 hm
      refine g_exit (g_x_then (g_x_then (g_x_blk ?_)))
      obtain rfl := sj hm
      have hbo := h49 _ rfl
      subst hbo
      exact g_leaf () (rfl) (.nil) (hsE [0] [] 0 rfl rfl rfl rfl)
    ·intro j_2 hj
     have h61 := hj
     subst h61
     replace hm := ocL h48
     refine g_n_then (g_sr (g_as rfl rfl (g_nt (g_ret ?_))))
     obtain rfl := sj hm
     refine g_done rfl (fun w hh => (.tmp rfl .nil)) (fun w hh => ⟨(), rfl, trivial, hh.se [] [] 3 rfl rfl rfl rfl⟩)
structure m_l_stolen_S0 where
  sum7 : Int
  t14 : Int
structure m_l_stolen_S1 where
  sum7 : Int
  t21 : Int
def m_l_stolen_L1 (t17 : (List Int)) (tenant2 : Int) (s0 : Scalps) (s : m_l_stolen_S0) (s_1 : m_l_stolen_S1) : Option (m_l_stolen_S1 ⊕ Int) :=
 if s_1.t21 < (t17.length : Int) then
 (((ix t17 s_1.t21).bind fun t24 =>
 (if tenant2 < 0 then
 ((ix s0.strips s_1.t21).bind fun t37 =>
 some (!decide (t37.tenant = s.t14))) else
 (if s.t14 = tenant2 then
 ((ix s0.strips s_1.t21).bind fun t37_1 =>
 some (!decide (t37_1.tenant = s.t14))) else
 (some false))).bind fun o_3 =>
 if o_3 = true then
 ((addc s_1.sum7 t24).bind fun t45 =>
 some t45) else
 (some s_1.sum7)).bind fun o_2 =>
 (addc s_1.t21 1).bind fun t46 =>
 some (.inl (⟨o_2, t46⟩ : m_l_stolen_S1))) else
 (some (.inr s_1.sum7))
def m_l_stolen_L0 (shares1 : (List (List Int))) (tenant2 : Int) (s0 : Scalps) (s : m_l_stolen_S0) : Option (m_l_stolen_S0 ⊕ Int) :=
 if s.t14 < (shares1.length : Int) then
 ((ix shares1 s.t14).bind fun t17 =>
 (iterM FU (m_l_stolen_L1 t17 tenant2 s0 s) (⟨s.sum7, 0⟩ : m_l_stolen_S1)).bind fun o_1 =>
 (addc s.t14 1).bind fun t47 =>
 some (.inl (⟨o_1, t47⟩ : m_l_stolen_S0))) else
 (some (.inr s.sum7))
def m_l_stolen (s0 : Scalps) (shares1 : (List (List Int))) (tenant2 : Int) : Option Int :=
 (iterM FU (m_l_stolen_L0 shares1 tenant2 s0) (⟨0, 0⟩ : m_l_stolen_S0)).bind fun o =>
 some o
theorem c_l_stolen (s0 : Scalps) (shares1 : (List (List Int))) (tenant2 : Int) (qa0 : Option Addr) (na0 ca0 : Nat) (qa1 : Option Addr) (na1 ca1 : Nat) (qa2 : Option Addr) (na2 ca2 : Nat) (ar2 : List AL) (w : World) (hw : HV w (keys [] []) [] [] [(aB qa0, aO qa0, RSt.enc s0.strips), (aB qa1, aO qa1, RSp.enc s0.carried), (aB qa2, aO qa2, RwA.enc ar2)] w) (hna0 : s0.strips.length = na0) (hqa0 : AOK na0 qa0) (hla0 : na0 ≤ ca0) (hna1 : s0.carried.length = na1) (hqa1 : AOK na1 qa1) (hla1 : na1 ≤ ca1) (hna2 : shares1.length = na2) (hqa2 : AOK na2 qa2) (hla2 : na2 ≤ ca2) (hda2 : DRO shares1 ar2) (hTa2 : ∀ t, t ∈ rsg RI shares1 ar2 → segOK w t ∧ (t.2.2 ≠ [] → t.1 ∉ keys [] [])) {res : Int} (hm : m_l_stolen s0 shares1 tenant2 = some res) :
    Calls Try.prog 41 #[.agg #[.slice qa0 na0 ca0, .slice qa1 na1 ca1], .slice qa2 na2 ca2, .int .i64 tenant2] w (fun en w' => ∃ l : Unit, en = .returned (.int .i64 res) ∧ (True) ∧ HV w (keys [] []) [] [] [] w') := by
  unfold m_l_stolen at hm
  refine g_en Try.func41 rfl Try.ntmps41 rfl (e := [(0, _), (1, _), (2, _)]) rfl hw (g_sr ?_)
  refine g_boxV rfl rfl (fun b h1 => ?_)
  refine g_as rfl rfl (g_nx (g_as rfl rfl (g_nt (g_seq (g_sr (g_mv rfl rfl (g_val rfl rfl rfl (fun w _ => v_lenR hna2 (Try.runUnderlying29 w) rfl) ?_)))))))
  refine g_mv rfl rfl (g_nt ?_)
  obtain ⟨o, h2, h3⟩ := bindO hm
  refine g_cut (ι := Unit) (fun l => True) (fun l => [(7, .int .i64 o)]) (fun l => [(b, .cells #[.slice qa0 na0 ca0, .slice qa1 na1 ca1] 28 (0, 0))]) (fun l => []) ?_ ?_
  ·replace hm := h2
   refine g_block ?_
   refine g_loopF (ι := Unit) hm (fun s l_1 => True) (fun s l_1 => [(2, .int .i64 tenant2), (3, ptr b 0), (7, .int .i64 s.sum7), (12, .slice qa2 na2 ca2), (13, .int .i64 (shares1.length : Int)), (14, .int .i64 s.t14)]) (fun s l_1 => [(b, .cells #[.slice qa0 na0 ca0, .slice qa1 na1 ca1] 28 (0, 0))]) (fun s l_1 => []) () (trivial) (sE rfl) (fun w hh => hh) (fun s l_1 r hpl hm h4 => ?_)
   unfold m_l_stolen_L0 at hm
   refine g_sr (g_ls rfl rfl rfl (g_nt (g_seq ?_)))
   refine g_cond rfl (fun h5 => ?_) (fun h5 => ?_)
   ·replace hm := ifD h5 hm
    refine g_skip (g_n_then (g_seq (g_block (g_sr (g_mv rfl rfl ?_)))))
    obtain ⟨t17, h6, hm⟩ := bindO hm
    obtain ⟨A, h7, h8, h9, h10⟩ := (hda2).row h6
    refine g_val rfl rfl rfl (fun w _ => v_ixR h7 (Try.runUnderlying29 w) (Try.sizeOf32 w) rfl rfl (Eq.trans (hda2).len.symm hna2) hqa2) (g_val rfl rfl rfl (fun w hh => v_ldE RwA 0 h7 (Try.isAgg32 w) rfl (hh.seg 2 rfl) rfl (Nat.add_zero _).symm) (g_as rfl rfl (g_as rfl rfl (g_nx (g_mv rfl rfl (g_val rfl rfl rfl (fun w _ => v_lenR h8 (Try.runUnderlying32 w) rfl) (g_mv rfl rfl ?_)))))))
    refine g_nt ?_
    obtain ⟨o_1, h11, h12⟩ := bindO hm
    refine g_cut (ι := Unit) (fun l_2 => True) (fun l_2 => [(2, .int .i64 tenant2), (3, ptr b 0), (7, .int .i64 o_1), (12, .slice qa2 na2 ca2), (13, .int .i64 (shares1.length : Int)), (14, .int .i64 s.t14)]) (fun l_2 => [(b, .cells #[.slice qa0 na0 ca0, .slice qa1 na1 ca1] 28 (0, 0))]) (fun l_2 => []) ?_ ?_
    ·replace hm := h11
     refine g_block ?_
     refine g_loopF (ι := Unit) hm (fun s_1 l_3 => True) (fun s_1 l_3 => [(2, .int .i64 tenant2), (3, ptr b 0), (7, .int .i64 s_1.sum7), (8, .int .i64 s.t14), (12, .slice qa2 na2 ca2), (13, .int .i64 (shares1.length : Int)), (14, .int .i64 s.t14), (19, .slice A.a A.n A.cap), (20, .int .i64 (t17.length : Int)), (21, .int .i64 s_1.t21)]) (fun s_1 l_3 => [(b, .cells #[.slice qa0 na0 ca0, .slice qa1 na1 ca1] 28 (0, 0))]) (fun s_1 l_3 => []) () (trivial) (sE rfl) (fun w hh => hh) (fun s_1 l_3 r_1 hpl hm h13 => ?_)
     unfold m_l_stolen_L1 at hm
     refine g_sr (g_ls rfl rfl rfl (g_nt (g_seq ?_)))
     refine g_cond rfl (fun h14 => ?_) (fun h14 => ?_)
     ·replace hm := ifD h14 hm
      refine g_skip (g_n_then (g_seq ?_))
      obtain ⟨o_2, h15, h16⟩ := bindO hm
      refine g_cut (ι := Unit) (fun l_4 => True) (fun l_4 => [(2, .int .i64 tenant2), (3, ptr b 0), (7, .int .i64 o_2), (8, .int .i64 s.t14), (12, .slice qa2 na2 ca2), (13, .int .i64 (shares1.length : Int)), (14, .int .i64 s.t14), (19, .slice A.a A.n A.cap), (20, .int .i64 (t17.length : Int)), (21, .int .i64 s_1.t21)]) (fun l_4 => [(b, .cells #[.slice qa0 na0 ca0, .slice qa1 na1 ca1] 28 (0, 0))]) (fun l_4 => []) ?_ ?_
      ·replace hm := h15
       refine g_block (g_sr (g_mv rfl rfl ?_))
       obtain ⟨t24, h17, hm⟩ := bindO hm
       refine g_val rfl rfl rfl (fun w _ => v_ixR h17 (Try.runUnderlying32 w) (Try.sizeOf3 w) rfl rfl h8 h9) (g_val rfl rfl rfl (fun w hh => v_ldE RI 0 h17 (Try.isAgg3 w) rfl (hh.oldseg (hTa2 _ (rsg_ix h6 h7))) rfl (Nat.add_zero _).symm) (g_as rfl rfl (g_as rfl rfl (g_nt (g_seq ?_)))))
       obtain ⟨o_3, h18, h19⟩ := bindO hm
       refine g_cut (ι := Unit) (fun l_5 => True) (fun l_5 => [(2, .int .i64 tenant2), (3, ptr b 0), (7, .int .i64 s_1.sum7), (8, .int .i64 s.t14), (11, .int .i64 t24), (12, .slice qa2 na2 ca2), (13, .int .i64 (shares1.length : Int)), (14, .int .i64 s.t14), (19, .slice A.a A.n A.cap), (20, .int .i64 (t17.length : Int)), (21, .int .i64 s_1.t21), (42, .bool o_3)]) (fun l_5 => [(b, .cells #[.slice qa0 na0 ca0, .slice qa1 na1 ca1] 28 (0, 0))]) (fun l_5 => []) ?_ ?_
       ·replace hm := h18
        refine g_region (g_mv rfl rfl (g_ls rfl rfl rfl (g_mv rfl rfl ?_)))
        refine g_case 28 rfl (fun h20 => ?_) (fun h20 => ?_)
        ·replace hm := ifD h20 hm
         refine g_k rfl rfl rfl rfl (g_k rfl rfl rfl rfl (g_k rfl rfl rfl rfl (g_pt rfl rfl rfl (g_mv rfl rfl (v_unguard rfl rfl (g_fa 0 Try.runUnderlying28 rfl Try.sizeOf25 rfl rfl (v_unguard rfl rfl ?_)))))))
         refine g_lc 0 Try.isAgg25 rfl rfl rfl rfl (v_unguard rfl rfl (g_mv rfl rfl (v_unguard rfl rfl ?_)))
         obtain ⟨t37, h21, hm⟩ := bindO hm
         refine g_val rfl rfl rfl (fun w _ => v_ixR h21 (Try.runUnderlying25 w) (Try.sizeOf77 w) rfl rfl hna0 hqa0) (v_unguard rfl rfl (g_fa 0 Try.runUnderlying77 rfl Try.sizeOf3 rfl rfl (v_unguard rfl rfl (g_val rfl rfl rfl (fun w hh => v_ldE RSt 0 h21 (Try.isAgg3 w) rfl (hh.seg 0 rfl) rfl rfl) (v_unguard rfl rfl (g_mv rfl rfl (v_unguard rfl rfl ?_)))))))
         refine g_val rfl rfl rfl (fun _ _ => v_neq rfl rfl) (g_pt rfl rfl rfl (g_nil ?_))
         obtain rfl := sj hm
         exact g_leaf () (trivial) (sE rfl) (fun w hh => hh)
        ·replace hm := ifE h20 hm
         refine v_unguard rfl rfl (g_mv rfl rfl (v_unguard rfl rfl (g_mv rfl rfl (v_unguard rfl rfl (g_val rfl rfl rfl (fun _ _ => v_eql rfl rfl) (g_pf rfl rfl rfl (g_mv rfl rfl ?_)))))))
         refine g_case 33 rfl (fun h22 => ?_) (fun h22 => ?_)
         ·replace hm := ifD h22 hm
          refine v_unguard rfl rfl (g_fa 0 Try.runUnderlying28 rfl Try.sizeOf25 rfl rfl (v_unguard rfl rfl (g_lc 0 Try.isAgg25 rfl rfl rfl rfl (v_unguard rfl rfl (g_mv rfl rfl (v_unguard rfl rfl ?_))))))
          obtain ⟨t37_1, h23, hm⟩ := bindO hm
          refine g_val rfl rfl rfl (fun w _ => v_ixR h23 (Try.runUnderlying25 w) (Try.sizeOf77 w) rfl rfl hna0 hqa0) (v_unguard rfl rfl (g_fa 0 Try.runUnderlying77 rfl Try.sizeOf3 rfl rfl (v_unguard rfl rfl (g_val rfl rfl rfl (fun w hh => v_ldE RSt 0 h23 (Try.isAgg3 w) rfl (hh.seg 0 rfl) rfl rfl) (v_unguard rfl rfl (g_mv rfl rfl (v_unguard rfl rfl ?_)))))))
          refine g_val rfl rfl rfl (fun _ _ => v_neq rfl rfl) (g_pt rfl rfl rfl (g_nil ?_))
          obtain rfl := sj hm
          exact g_leaf () (trivial) (sE rfl) (fun w hh => hh)
         ·replace hm := ifE h22 hm
          refine g_k rfl rfl rfl rfl (g_k rfl rfl rfl rfl (g_k rfl rfl rfl rfl (g_k rfl rfl rfl rfl (g_k rfl rfl rfl rfl (g_k rfl rfl rfl rfl (g_k rfl rfl rfl rfl (g_k rfl rfl rfl rfl ?_)))))))
          refine g_pf rfl rfl rfl (g_nil ?_)
          obtain rfl := sj hm
          exact g_leaf () (trivial) (sE rfl) (fun w hh => hh)
       ·intro l_5 hj
        replace hm := h19
        refine g_n_then ?_
        refine g_cond rfl (fun h24 => ?_) (fun h24 => ?_)
        ·replace hm := ifT (h24) hm
         refine g_region (g_mv rfl rfl (g_mv rfl rfl ?_))
         obtain ⟨t45, h25, hm⟩ := bindO hm
         refine g_ac h25 rfl rfl rfl (g_as rfl rfl (g_nil (g_n_blk ?_)))
         obtain rfl := sj hm
         exact g_leaf () (trivial) (sE rfl) (fun w hh => hh)
        ·replace hm := ifN h24 hm
         refine g_skip (g_n_blk ?_)
         obtain rfl := sj hm
         exact g_leaf () (trivial) (sE rfl) (fun w hh => hh)
      ·intro l_4 hj
       replace hm := h16
       refine g_n_then (g_region ?_)
       obtain ⟨t46, h26, hm⟩ := bindO hm
       refine g_ac h26 rfl rfl rfl (g_mv rfl rfl (g_nil ?_))
       obtain rfl := sj hm
       refine g_n_then ?_
       exact g_again' _ () rfl (trivial) (sE rfl) (fun w hh => hh)
     ·replace hm := ifE h14 hm
      refine g_exit (g_x_then (g_x_then (g_x_blk ?_)))
      obtain rfl := sj hm
      have hbo := h13 _ rfl
      subst hbo
      exact g_leaf () (trivial) (sE rfl) (fun w hh => hh)
    ·intro l_2 hj
     replace hm := h12
     refine g_n_blk (g_n_then (g_region ?_))
     obtain ⟨t47, h27, hm⟩ := bindO hm
     refine g_ac h27 rfl rfl rfl (g_mv rfl rfl (g_nil ?_))
     obtain rfl := sj hm
     refine g_n_then ?_
     exact g_again' _ () rfl (trivial) (sE rfl) (fun w hh => hh)
   ·replace hm := ifE h5 hm
    refine g_exit (g_x_then (g_x_then (g_x_blk ?_)))
    obtain rfl := sj hm
    have hbo := h4 _ rfl
    subst hbo
    exact g_leaf () (trivial) (sE rfl) (fun w hh => hh)
  ·intro l hj
   replace hm := h3
   refine g_n_then (g_sr (g_mv rfl rfl (g_as rfl rfl (g_nt (g_ret ?_)))))
   obtain rfl := sj hm
   refine g_done rfl (fun w hh => (.tmp rfl .nil)) (fun w hh => ⟨(), rfl, trivial, hh.se [] [] 3 rfl rfl rfl rfl⟩)
def m_s_some_3 (holds0_c0 : Int) (holds0_c10 : (List Strip)) (holds0_c11 : (List Span)) : Option Unit :=
 some ()
theorem c_s_some_3 (holds0_c0 : Int) (holds0_c10 : (List Strip)) (holds0_c11 : (List Span)) (rb : Nat) (rb_1 : Nat) (rb_2 : Nat) (qa3 : Option Addr) (na3 ca3 : Nat) (qa4 : Option Addr) (na4 ca4 : Nat) (mv : Value) (w : World) (hw : HV w (keys [] []) [] [] [(rb, 0, [.int .i64 holds0_c0]), (rb_1, 0, [ptr rb_2 0]), (rb_2, 0, [.slice qa3 na3 ca3, .slice qa4 na4 ca4, mv]), (aB qa3, aO qa3, RSt.enc holds0_c10), (aB qa4, aO qa4, RSp.enc holds0_c11)] w)    (hna3 : holds0_c10.length = na3) (hqa3 : AOK na3 qa3) (hla3 : na3 ≤ ca3) (hna4 : holds0_c11.length = na4) (hqa4 : AOK na4 qa4) (hla4 : na4 ≤ ca4) {res : Unit} (hm : m_s_some_3 holds0_c0 holds0_c10 holds0_c11 = some res) :
    Calls Try.prog 73 #[.func (.func 96) #[] #[ptr rb 0, ptr rb_1 0]] w (fun en w' => ∃ l : Nat, en = .returned (.agg #[.func (.func 122) #[] #[ptr l 0]]) ∧ (True) ∧ HV w (keys [] []) [(l, .cells #[.func (.func 96) #[] #[ptr rb 0, ptr rb_1 0]] 131 (0, 0))] [] [] w') := by
  unfold m_s_some_3 at hm
  refine g_en Try.func73 rfl Try.ntmps73 rfl (e := [(0, _)]) rfl hw (g_sr ?_)
  refine g_boxV rfl rfl (fun b h1 => ?_)
  refine g_allocV (fun w => Try.zeroValue123 w) rfl (fun b_1 h2 => ?_)
  refine g_nx (g_val rfl rfl rfl (fun _ _ => v_makeFunc (u := #[]) (u' := #[_]) rfl rfl) (g_val rfl rfl rfl (fun _ _ => v_build (vs := [(0, _)]) (cells := [_]) rfl rfl) (g_stSA (us := #[_]) (cs' := [_]) (S' := [_, _]) 0 (fun w => Try.sizeOf123 w) rfl rfl rfl rfl rfl rfl rfl (g_nt (g_ret ?_)))))
  obtain rfl := sj hm
  refine g_done rfl (fun w hh => (.cell rfl (loadVar_agg (vs := [_]) (Try.isAgg123 _) (Try.sizeOf123 _) (hh.cells 0 rfl rfl)) .nil)) (fun w hh => ⟨b, rfl, trivial, hh.se [1] [] 5 rfl rfl rfl rfl⟩)
def m_s_Stolen_1 (p0 : Pair) (a11 : Int) (a220 : (List Strip)) (a221 : (List Span)) : Option Bool :=
 (if p0.tenant = a11 then
 ((m_sd_other a220 a221 p0).bind fun t12 =>
 some t12) else
 (some false)).bind fun o =>
 some o
theorem c_s_Stolen_1 (p0 : Pair) (a11 : Int) (a220 : (List Strip)) (a221 : (List Span)) (rb : Nat) (rb_1 : Nat) (rb_2 : Nat) (qa3 : Option Addr) (na3 ca3 : Nat) (qa4 : Option Addr) (na4 ca4 : Nat) (mv : Value) (w : World) (hw : HV w (keys [] []) [] [] [(rb, 0, [.int .i64 a11]), (rb_1, 0, [ptr rb_2 0]), (rb_2, 0, [.slice qa3 na3 ca3, .slice qa4 na4 ca4, mv]), (aB qa3, aO qa3, RSt.enc a220), (aB qa4, aO qa4, RSp.enc a221)] w)    (hna3 : a220.length = na3) (hqa3 : AOK na3 qa3) (hla3 : na3 ≤ ca3) (hna4 : a221.length = na4) (hqa4 : AOK na4 qa4) (hla4 : na4 ≤ ca4) {res : Bool} (hm : m_s_Stolen_1 p0 a11 a220 a221 = some res) :
    Calls Try.prog 96 #[.agg #[.int .i64 p0.tenant, .int .i64 p0.strip], ptr rb 0, ptr rb_1 0] w (fun en w' => ∃ l : Unit, en = .returned (.bool res) ∧ (True) ∧ HV w (keys [] []) [] [] [] w') := by
  unfold m_s_Stolen_1 at hm
  refine g_en Try.func96 rfl Try.ntmps96 rfl (e := [(0, _), (1, _), (2, _)]) rfl hw (g_sr ?_)
  refine g_boxV rfl rfl (fun b h1 => ?_)
  refine g_as rfl rfl (g_nt (g_seq ?_))
  obtain ⟨o, h2, h3⟩ := bindO hm
  refine g_cut (ι := Unit) (fun l => True) (fun l => [(4, .bool o)]) (fun l => [(b, .cells #[.int .i64 p0.tenant, .int .i64 p0.strip] 128 (0, 0))]) (fun l => []) ?_ ?_
  ·replace hm := h2
   refine g_region (g_fa 0 Try.runUnderlying128 rfl Try.sizeOf3 rfl rfl (g_lc 0 Try.isAgg3 rfl rfl rfl rfl (g_val rfl rfl rfl (fun w hh => v_load (Try.isAgg3 w) rfl (segCell (hh.seg 0 rfl) 0 rfl)) (g_val rfl rfl rfl (fun _ _ => v_eql rfl rfl) (g_mv rfl rfl ?_)))))
   refine g_case 9 rfl (fun h4 => ?_) (fun h4 => ?_)
   ·replace hm := ifD h4 hm
    refine v_unguard rfl rfl (g_val rfl rfl rfl (fun w hh => v_load (Try.isAgg115 w) rfl (segCell (hh.seg 1 rfl) 0 rfl)) (v_unguard rfl rfl (g_la [_, _] 0 Try.isAgg128 Try.sizeOf128 rfl rfl rfl rfl (v_unguard rfl rfl ?_))))
    obtain ⟨t12, h5, hm⟩ := bindO hm
    refine g_callH [] [] rfl rfl rfl rfl rfl rfl rfl Try.call97 (fun w hh => c_sd_other a220 a221 p0 rb_2 qa3 na3 ca3 qa4 na4 ca4 mv w (HV.callee (S0 := []) (vs0 := []) hh (roR hh 2 rfl (roR hh 3 rfl (roR hh 4 rfl roN)))) hna3 hqa3 hla3 hna4 hqa4 hla4 h5) (fun l_1 h6 => ?_)
    refine g_pt rfl rfl rfl (g_as rfl rfl (g_nil ?_))
    obtain rfl := sj hm
    exact g_leaf () (trivial) (sE rfl) (fun w hh => hh)
   ·replace hm := ifE h4 hm
    refine g_k rfl rfl rfl rfl (g_k rfl rfl rfl rfl (g_k rfl rfl rfl rfl (g_pf rfl rfl rfl (g_as rfl rfl (g_nil ?_)))))
    obtain rfl := sj hm
    exact g_leaf () (trivial) (sE rfl) (fun w hh => hh)
  ·intro l hj
   replace hm := h3
   refine g_n_then (g_ret ?_)
   obtain rfl := sj hm
   refine g_done rfl (fun w hh => (.tmp rfl .nil)) (fun w hh => ⟨(), rfl, trivial, hh.se [] [] 5 rfl rfl rfl rfl⟩)
def m_s_some_1_2 (p0 : Pair) (a11_c0 : Int) (a11_c10 : (List Strip)) (a11_c11 : (List Span)) : Option Int :=
 (m_s_Stolen_1 p0 a11_c0 a11_c10 a11_c11).bind fun t6 =>
 if t6 = true then
 (some 1) else
 (some 0)
theorem c_s_some_1_2 (p0 : Pair) (a11_c0 : Int) (a11_c10 : (List Strip)) (a11_c11 : (List Span)) (rb : Nat) (rb_1 : Nat) (rb_2 : Nat) (rb_3 : Nat) (qa4 : Option Addr) (na4 ca4 : Nat) (qa5 : Option Addr) (na5 ca5 : Nat) (mv : Value) (w : World) (hw : HV w (keys [] []) [] [] [(rb, 0, [.func (.func 96) #[] #[ptr rb_1 0, ptr rb_2 0]]), (rb_1, 0, [.int .i64 a11_c0]), (rb_2, 0, [ptr rb_3 0]), (rb_3, 0, [.slice qa4 na4 ca4, .slice qa5 na5 ca5, mv]), (aB qa4, aO qa4, RSt.enc a11_c10), (aB qa5, aO qa5, RSp.enc a11_c11)] w)     (hna4 : a11_c10.length = na4) (hqa4 : AOK na4 qa4) (hla4 : na4 ≤ ca4) (hna5 : a11_c11.length = na5) (hqa5 : AOK na5 qa5) (hla5 : na5 ≤ ca5) {res : Int} (hm : m_s_some_1_2 p0 a11_c0 a11_c10 a11_c11 = some res) :
    Calls Try.prog 122 #[.agg #[.int .i64 p0.tenant, .int .i64 p0.strip], ptr rb 0] w (fun en w' => ∃ l : Unit, en = .returned (.int .i64 res) ∧ (True) ∧ HV w (keys [] []) [] [] [] w') := by
  unfold m_s_some_1_2 at hm
  refine g_en Try.func122 rfl Try.ntmps122 rfl (e := [(0, _), (1, _)]) rfl hw (g_sr ?_)
  refine g_boxV rfl rfl (fun b h1 => ?_)
  refine g_as rfl rfl (g_nt (g_seq (g_sr (g_val rfl rfl rfl (fun w hh => v_load (Try.isAgg131 w) rfl (segCell (hh.seg 0 rfl) 0 rfl)) (g_la [_, _] 0 Try.isAgg128 Try.sizeOf128 rfl rfl rfl rfl ?_)))))
  obtain ⟨t6, h2, hm⟩ := bindO hm
  refine g_callH [] [] rfl rfl rfl rfl rfl rfl rfl Try.call96 (fun w hh => c_s_Stolen_1 p0 a11_c0 a11_c10 a11_c11 rb_1 rb_2 rb_3 qa4 na4 ca4 qa5 na5 ca5 mv w (HV.callee (S0 := []) (vs0 := []) hh (roR hh 1 rfl (roR hh 2 rfl (roR hh 3 rfl (roR hh 4 rfl (roR hh 5 rfl roN)))))) hna4 hqa4 hla4 hna5 hqa5 hla5 h2) (fun l h3 => ?_)
  refine g_nt ?_
  refine g_cond rfl (fun h4 => ?_) (fun h4 => ?_)
  ·replace hm := ifT (h4) hm
   refine g_sr (g_as rfl rfl (g_nt (g_ret (g_r_then ?_))))
   obtain rfl := sj hm
   refine g_done rfl (fun w hh => (.tmp rfl .nil)) (fun w hh => ⟨(), rfl, trivial, hh.se [] [] 6 rfl rfl rfl rfl⟩)
  ·replace hm := ifN h4 hm
   refine g_skip (g_n_then (g_sr (g_as rfl rfl (g_nt (g_ret ?_)))))
   obtain rfl := sj hm
   refine g_done rfl (fun w hh => (.tmp rfl .nil)) (fun w hh => ⟨(), rfl, trivial, hh.se [] [] 6 rfl rfl rfl rfl⟩)
structure m_s_Stolen_R where
  r0 : Span
  r1 : Int
def m_s_Stolen (s0 : Scalps) (tenant1 : Int) : Option m_s_Stolen_R :=
 (m_s_opened s0).bind fun t10 =>
 oc t10 (fun t10a => some (⟨(⟨0, 0⟩ : Span), t10a⟩ : m_s_Stolen_R)) (fun t10b => (m_s_Scalps_tenant s0 tenant1).bind fun t21 =>
 if (!t21) = true then
 (some (⟨(⟨0, 0⟩ : Span), 1⟩ : m_s_Stolen_R)) else
 ((m_s_some_3 tenant1 s0.strips s0.carried).bind fun t26 =>
 (m_sd_spread_1 s0.strips s0.carried t10b (fun p_1 : Pair => m_s_some_1_2 p_1 tenant1 s0.strips s0.carried)).bind fun t27 =>
 some (⟨t27.r0, t27.r1⟩ : m_s_Stolen_R)))
theorem c_s_Stolen (s0 : Scalps) (tenant1 : Int) (qa0 : Option Addr) (na0 ca0 : Nat) (qa1 : Option Addr) (na1 ca1 : Nat) (w : World) (hw : HV w (keys [] []) [] [] [(aB qa0, aO qa0, RSt.enc s0.strips), (aB qa1, aO qa1, RSp.enc s0.carried)] w) (hna0 : s0.strips.length = na0) (hqa0 : AOK na0 qa0) (hla0 : na0 ≤ ca0) (hna1 : s0.carried.length = na1) (hqa1 : AOK na1 qa1) (hla1 : na1 ≤ ca1) {res : m_s_Stolen_R} (hm : m_s_Stolen s0 tenant1 = some res) :
    Calls Try.prog 38 #[.agg #[.slice qa0 na0 ca0, .slice qa1 na1 ca1], .int .i64 tenant1] w (fun en w' => ∃ l : Unit, en = .returned (.tuple #[.agg #[.int .i64 res.r0.lo, .int .i64 res.r0.hi], .int .i64 res.r1]) ∧ (True) ∧ HV w (keys [] []) [] [] [] w') := by
  unfold m_s_Stolen at hm
  refine g_en Try.func38 rfl Try.ntmps38 rfl (e := [(0, _), (1, _)]) rfl hw (g_sr ?_)
  refine g_boxV rfl rfl (fun b h1 => ?_)
  refine g_boxV rfl rfl (fun b_1 h2 => ?_)
  refine g_allocV (fun w => Try.zeroValue37 w) rfl (fun b_2 h3 => ?_)
  refine g_as rfl rfl (g_nx (g_la [_, _] 2 Try.isAgg28 Try.sizeOf28 rfl rfl rfl rfl ?_))
  obtain ⟨t10, h4, hm⟩ := bindO hm
  rcases t10 with t10a | t10b
  ·replace hm := ocL hm
   refine g_callH [] [] rfl rfl rfl rfl rfl rfl rfl Try.call65 (fun w hh => c_s_opened s0 qa0 na0 ca0 qa1 na1 ca1 w (HV.callee (S0 := []) (vs0 := []) hh (roR hh 0 rfl (roR hh 1 rfl roN))) hna0 hqa0 hla0 hna1 hqa1 hla1 h4) (fun l h5 => ?_)
   have h6 := h5
   refine g_mv rfl rfl (g_xt rfl rfl rfl (g_xt rfl rfl rfl ?_))
   refine g_allocV (fun w => Try.zeroValue115 w) rfl (fun b_3 h7 => ?_)
   refine g_stS (cs' := #[_]) (S' := [_, _, _, _]) 0 (fun w => Try.sizeOf115 w) rfl rfl rfl rfl rfl rfl rfl (g_as rfl rfl (g_nt (g_seq (g_block (g_sr (g_mv rfl rfl (g_val rfl rfl rfl (fun _ _ => v_neqT h6 rfl rfl) ?_)))))))
   refine g_as rfl rfl (g_nt (g_condT rfl rfl (g_sr (g_val rfl rfl rfl (fun _ _ => v_build (vs := []) (cells := [_, _]) rfl rfl) (g_mv rfl rfl (g_stSA (us := #[_, _]) (cs' := [_, _]) (S' := [_, _, _, _]) 1 (fun w => Try.sizeOf37 w) rfl rfl rfl rfl rfl rfl rfl (g_as rfl rfl ?_)))))))
   refine g_nt (g_ret (g_r_blk (g_r_then ?_)))
   obtain rfl := sj hm
   refine g_done rfl (fun w hh => (.cell rfl (loadVar_agg (vs := [_, _]) (Try.isAgg37 _) (Try.sizeOf37 _) (hh.cells 1 rfl rfl)) (.tmp rfl .nil))) (fun w hh => ⟨(), rfl, trivial, hh.se [] [] 2 rfl rfl rfl rfl⟩)
  ·replace hm := ocR hm
   refine g_callH [] [] rfl rfl rfl rfl rfl rfl rfl Try.call65 (fun w hh => c_s_opened s0 qa0 na0 ca0 qa1 na1 ca1 w (HV.callee (S0 := []) (vs0 := []) hh (roR hh 0 rfl (roR hh 1 rfl roN))) hna0 hqa0 hla0 hna1 hqa1 hla1 h4) (fun l_1 h8 => ?_)
   refine g_se (S' := [_, _, _, _, _]) (vs' := []) [0, 1, 2, 3, 4] [] 0 rfl rfl rfl rfl (g_mv rfl rfl (g_xt rfl rfl rfl (g_xt rfl rfl rfl ?_)))
   refine g_allocV (fun w => Try.zeroValue115 w) rfl (fun b_4 h9 => ?_)
   refine g_stS (cs' := #[_]) (S' := [_, _, _, _, _, _]) 0 (fun w => Try.sizeOf115 w) rfl rfl rfl rfl rfl rfl rfl (g_as rfl rfl (g_nt (g_seq (g_block (g_sr (g_mv rfl rfl (g_val rfl rfl rfl (fun _ _ => v_neq rfl rfl) ?_)))))))
   refine g_as rfl rfl (g_nt (g_condF rfl rfl (g_sr (g_la [_, _] 5 Try.isAgg28 Try.sizeOf28 rfl rfl rfl rfl (g_lc 4 Try.isAgg3 rfl rfl rfl rfl ?_)))))
   obtain ⟨t21, h10, hm⟩ := bindO hm
   refine g_callH [] [] rfl rfl rfl rfl rfl rfl rfl Try.call53 (fun w hh => c_s_Scalps_tenant s0 tenant1 qa0 na0 ca0 qa1 na1 ca1 w (HV.callee (S0 := []) (vs0 := []) hh (roR hh 0 rfl (roR hh 1 rfl roN))) hna0 hqa0 hla0 hna1 hqa1 hla1 h10) (fun l_2 h11 => ?_)
   refine g_val rfl rfl rfl (fun _ _ => v_not rfl) (g_as rfl rfl (g_nt ?_))
   refine g_cond rfl (fun h12 => ?_) (fun h12 => ?_)
   ·replace hm := ifT (h12) hm
    refine g_sr (g_val rfl rfl rfl (fun _ _ => v_build (vs := []) (cells := [_, _]) rfl rfl) (g_stSA (us := #[_, _]) (cs' := [_, _]) (S' := [_, _, _, _, _, _]) 3 (fun w => Try.sizeOf37 w) rfl rfl rfl rfl rfl rfl rfl (g_as rfl rfl (g_nt (g_ret (g_r_blk (g_r_then ?_)))))))
    obtain rfl := sj hm
    refine g_done rfl (fun w hh => (.cell rfl (loadVar_agg (vs := [_, _]) (Try.isAgg37 _) (Try.sizeOf37 _) (hh.cells 3 rfl rfl)) (.tmp rfl .nil))) (fun w hh => ⟨(), rfl, trivial, hh.se [] [] 2 rfl rfl rfl rfl⟩)
   ·replace hm := ifN h12 hm
    refine g_skip (g_n_blk (g_n_then (g_seq ?_)))
    refine g_draw none (.hoist 0 (.free 1 (.one 2 (.one 3 (.free 4 (.free 5 (.one 6 (.free 7 .done)))))))) (HV _ _ [(b_4, .cells #[ptr l_1.1 0] 115 (0, 0)), (l_1.1, .cells #[.slice qa0 na0 ca0, .slice qa1 na1 ca1, .map (some l_1.2)] 163 (0, 0)), (l_1.2, gobj (kR RPr) kB t10b), (b_1, .cells #[.int .i64 tenant1] 3 (0, 0)), (b, .cells #[.slice qa0 na0 ca0, .slice qa1 na1 ca1] 28 (0, 0))] [] _) rfl (by decide +kernel) (fun w k hh => hh.draw k) (hsE [0, 1, 2, 4, 5] [] 0 rfl rfl rfl rfl) ?_
    refine p_lc 0 Try.isAgg115 rfl rfl rfl rfl rfl (p_free rfl rfl rfl rfl (fun _ _ => v_makeFunc (u := #[]) (u' := #[_, _]) rfl rfl) (p_one rfl ?_))
    obtain ⟨t26, h13, hm⟩ := bindO hm
    refine g_callH [] [] rfl rfl rfl rfl rfl rfl rfl Try.call73 (fun w hh => c_s_some_3 tenant1 s0.strips s0.carried b_1 b_4 l_1.1 qa0 na0 ca0 qa1 na1 ca1 (.map (some l_1.2)) w (HV.callee (S0 := []) (vs0 := []) hh (roC (bsep (hh.bseg 4 rfl)) (roC (bsep (hh.bseg 0 rfl)) (roC (bsep (hh.bseg 1 rfl)) (roR hh 0 rfl (roR hh 1 rfl roN)))))) hna0 hqa0 hla0 hna1 hqa1 hla1 h13) (fun l_3 h14 => ?_)
    refine g_se (S' := [_, _, _, _, _, _, _]) (vs' := []) [0, 1, 2, 3, 4, 5, 6] [] 0 rfl rfl rfl rfl (p_next (hsE [1, 2, 3, 5, 6] [] 0 rfl rfl rfl rfl) (p_one rfl ?_))
    obtain ⟨t27, h15, hm⟩ := bindO hm
    refine g_se (S' := [_, _, _, _, _, _, _]) (vs' := []) [3, 0, 1, 2, 4, 5, 6] [] 0 rfl rfl rfl rfl ?_
    refine g_callH [_] [] rfl rfl rfl rfl rfl rfl rfl Try.call72 (fun w hh => c_sd_spread_1 s0.strips s0.carried t10b (fun p_1 : Pair => m_s_some_1_2 p_1 tenant1 s0.strips s0.carried) l_1.1 qa0 na0 ca0 qa1 na1 ca1 l_1.2 122 (#[]) (#[ptr l_3 0]) ([(l_3, 0, [.func (.func 96) #[] #[ptr b_1 0, ptr b_4 0]]), (b_1, 0, [.int .i64 tenant1]), (b_4, 0, [ptr l_1.1 0]), (l_1.1, 0, [.slice qa0 na0 ca0, .slice qa1 na1 ca1, .map (some l_1.2)]), (aB qa0, aO qa0, RSt.enc s0.strips), (aB qa1, aO qa1, RSp.enc s0.carried)]) w (HV.callee (S0 := [_]) (vs0 := []) hh (roA (roC (hh.bsepH 2 rfl) (roR hh 0 rfl (roR hh 1 rfl roN))) (roC (hh.bsepH 0 rfl) (roC (hh.bsepH 4 rfl) (roC (hh.bsepH 1 rfl) (roC (hh.bsepH 2 rfl) (roR hh 0 rfl (roR hh 1 rfl roN)))))))) hna0 hqa0 hla0 hna1 hqa1 hla1 (⟨fun a w => Try.call122 a w, (fun p_1 r hr w hT => clRet (c_s_some_1_2 p_1 tenant1 s0.strips s0.carried l_3 b_1 b_4 l_1.1 qa0 na0 ca0 qa1 na1 ca1 (.map (some l_1.2)) w (HVstart hT) hna0 hqa0 hla0 hna1 hqa1 hla1 hr))⟩ : ClOK Try.prog 122 #[] #[ptr l_3 0] ([(l_3, 0, [.func (.func 96) #[] #[ptr b_1 0, ptr b_4 0]]), (b_1, 0, [.int .i64 tenant1]), (b_4, 0, [ptr l_1.1 0]), (l_1.1, 0, [.slice qa0 na0 ca0, .slice qa1 na1 ca1, .map (some l_1.2)]), (aB qa0, aO qa0, RSt.enc s0.strips), (aB qa1, aO qa1, RSp.enc s0.carried)]) (fun x : Pair => [.agg #[.int .i64 x.tenant, .int .i64 x.strip]]) (fun x : Int => .int .i64 x) (fun p_1 : Pair => m_s_some_1_2 p_1 tenant1 s0.strips s0.carried)) h15) (fun l_4 h16 => ?_)
    refine g_se (S' := [_, _, _, _, _, _, _]) (vs' := []) [0, 1, 2, 3, 4, 5, 6] [] 0 rfl rfl rfl rfl (p_next (hsE [2, 3, 0, 5, 6] [] 0 rfl rfl rfl rfl) (p_free rfl rfl rfl rfl (fun _ _ => v_extract rfl rfl) (p_free rfl rfl rfl rfl (fun _ _ => v_extract rfl rfl) (p_one rfl (g_stSA (us := #[_, _]) (cs' := [_, _]) (S' := [_, _, _, _, _, _, _]) 4 (fun w => Try.sizeOf37 w) rfl rfl rfl rfl rfl rfl rfl (p_next (hsE [2, 3, 0, 5, 6] [] 0 rfl rfl rfl rfl) (p_free rfl rfl rfl rfl (fun _ _ => v_assign rfl) ?_)))))))
    refine p_done (g_n_then (g_ret ?_))
    obtain rfl := sj hm
    refine g_done rfl (fun w hh => (.cell rfl (loadVar_agg (vs := [_, _]) (Try.isAgg37 _) (Try.sizeOf37 _) (hh.cells 4 rfl rfl)) (.tmp rfl .nil))) (fun w hh => ⟨(), rfl, trivial, hh.se [] [] 2 rfl rfl rfl rfl⟩)
def m_s_some_4 (holds0_c0 : Int) (holds0_c1 : Int) : Option Unit :=
 some ()
theorem c_s_some_4 (holds0_c0 : Int) (holds0_c1 : Int) (rb : Nat) (rb_1 : Nat) (w : World) (hw : HV w (keys [] []) [] [] [(rb, 0, [.int .i64 holds0_c0]), (rb_1, 0, [.int .i64 holds0_c1])] w)   {res : Unit} (hm : m_s_some_4 holds0_c0 holds0_c1 = some res) :
    Calls Try.prog 73 #[.func (.func 74) #[] #[ptr rb 0, ptr rb_1 0]] w (fun en w' => ∃ l : Nat, en = .returned (.agg #[.func (.func 122) #[] #[ptr l 0]]) ∧ (True) ∧ HV w (keys [] []) [(l, .cells #[.func (.func 74) #[] #[ptr rb 0, ptr rb_1 0]] 131 (0, 0))] [] [] w') := by
  unfold m_s_some_4 at hm
  refine g_en Try.func73 rfl Try.ntmps73 rfl (e := [(0, _)]) rfl hw (g_sr ?_)
  refine g_boxV rfl rfl (fun b h1 => ?_)
  refine g_allocV (fun w => Try.zeroValue123 w) rfl (fun b_1 h2 => ?_)
  refine g_nx (g_val rfl rfl rfl (fun _ _ => v_makeFunc (u := #[]) (u' := #[_]) rfl rfl) (g_val rfl rfl rfl (fun _ _ => v_build (vs := [(0, _)]) (cells := [_]) rfl rfl) (g_stSA (us := #[_]) (cs' := [_]) (S' := [_, _]) 0 (fun w => Try.sizeOf123 w) rfl rfl rfl rfl rfl rfl rfl (g_nt (g_ret ?_)))))
  obtain rfl := sj hm
  refine g_done rfl (fun w hh => (.cell rfl (loadVar_agg (vs := [_]) (Try.isAgg123 _) (Try.sizeOf123 _) (hh.cells 0 rfl rfl)) .nil)) (fun w hh => ⟨b, rfl, trivial, hh.se [1] [] 2 rfl rfl rfl rfl⟩)
def m_s_Taken_1 (p0 : Pair) (a11 : Int) (a22 : Int) : Option Bool :=
 some (decide (p0 = (⟨a11, a22⟩ : Pair)))
theorem c_s_Taken_1 (p0 : Pair) (a11 : Int) (a22 : Int) (rb : Nat) (rb_1 : Nat) (w : World) (hw : HV w (keys [] []) [] [] [(rb, 0, [.int .i64 a11]), (rb_1, 0, [.int .i64 a22])] w)   {res : Bool} (hm : m_s_Taken_1 p0 a11 a22 = some res) :
    Calls Try.prog 74 #[.agg #[.int .i64 p0.tenant, .int .i64 p0.strip], ptr rb 0, ptr rb_1 0] w (fun en w' => ∃ l : Unit, en = .returned (.bool res) ∧ (True) ∧ HV w (keys [] []) [] [] [] w') := by
  unfold m_s_Taken_1 at hm
  refine g_en Try.func74 rfl Try.ntmps74 rfl (e := [(0, _), (1, _), (2, _)]) rfl hw (g_sr ?_)
  refine g_boxV rfl rfl (fun b h1 => ?_)
  refine g_as rfl rfl (g_nx (g_la [_, _] 0 Try.isAgg128 Try.sizeOf128 rfl rfl rfl rfl (g_val rfl rfl rfl (fun w hh => v_load (Try.isAgg3 w) rfl (segCell (hh.seg 0 rfl) 0 rfl)) (g_val rfl rfl rfl (fun w hh => v_load (Try.isAgg3 w) rfl (segCell (hh.seg 1 rfl) 0 rfl)) (g_val rfl rfl rfl (fun _ _ => v_build (vs := [(0, _), (1, _)]) (cells := [_, _]) rfl rfl) (g_val rfl rfl rfl (fun w _ => v_eqlAgg (gxeq128 p0 (⟨a11, a22⟩ : Pair) w) gxeqg128 rfl rfl) (g_as rfl rfl ?_)))))))
  refine g_nt (g_ret ?_)
  obtain rfl := sj hm
  refine g_done rfl (fun w hh => (.tmp rfl .nil)) (fun w hh => ⟨(), rfl, trivial, hh.se [] [] 2 rfl rfl rfl rfl⟩)
def m_s_some_1_3 (p0 : Pair) (a11_c0 : Int) (a11_c1 : Int) : Option Int :=
 (m_s_Taken_1 p0 a11_c0 a11_c1).bind fun t6 =>
 if t6 = true then
 (some 1) else
 (some 0)
theorem c_s_some_1_3 (p0 : Pair) (a11_c0 : Int) (a11_c1 : Int) (rb : Nat) (rb_1 : Nat) (rb_2 : Nat) (w : World) (hw : HV w (keys [] []) [] [] [(rb, 0, [.func (.func 74) #[] #[ptr rb_1 0, ptr rb_2 0]]), (rb_1, 0, [.int .i64 a11_c0]), (rb_2, 0, [.int .i64 a11_c1])] w)    {res : Int} (hm : m_s_some_1_3 p0 a11_c0 a11_c1 = some res) :
    Calls Try.prog 122 #[.agg #[.int .i64 p0.tenant, .int .i64 p0.strip], ptr rb 0] w (fun en w' => ∃ l : Unit, en = .returned (.int .i64 res) ∧ (True) ∧ HV w (keys [] []) [] [] [] w') := by
  unfold m_s_some_1_3 at hm
  refine g_en Try.func122 rfl Try.ntmps122 rfl (e := [(0, _), (1, _)]) rfl hw (g_sr ?_)
  refine g_boxV rfl rfl (fun b h1 => ?_)
  refine g_as rfl rfl (g_nt (g_seq (g_sr (g_val rfl rfl rfl (fun w hh => v_load (Try.isAgg131 w) rfl (segCell (hh.seg 0 rfl) 0 rfl)) (g_la [_, _] 0 Try.isAgg128 Try.sizeOf128 rfl rfl rfl rfl ?_)))))
  obtain ⟨t6, h2, hm⟩ := bindO hm
  refine g_callH [] [] rfl rfl rfl rfl rfl rfl rfl Try.call74 (fun w hh => c_s_Taken_1 p0 a11_c0 a11_c1 rb_1 rb_2 w (HV.callee (S0 := []) (vs0 := []) hh (roR hh 1 rfl (roR hh 2 rfl roN)))  h2) (fun l h3 => ?_)
  refine g_nt ?_
  refine g_cond rfl (fun h4 => ?_) (fun h4 => ?_)
  ·replace hm := ifT (h4) hm
   refine g_sr (g_as rfl rfl (g_nt (g_ret (g_r_then ?_))))
   obtain rfl := sj hm
   refine g_done rfl (fun w hh => (.tmp rfl .nil)) (fun w hh => ⟨(), rfl, trivial, hh.se [] [] 3 rfl rfl rfl rfl⟩)
  ·replace hm := ifN h4 hm
   refine g_skip (g_n_then (g_sr (g_as rfl rfl (g_nt (g_ret ?_)))))
   obtain rfl := sj hm
   refine g_done rfl (fun w hh => (.tmp rfl .nil)) (fun w hh => ⟨(), rfl, trivial, hh.se [] [] 3 rfl rfl rfl rfl⟩)
structure m_s_Taken_R where
  r0 : Span
  r1 : Int
def m_s_Taken (s0 : Scalps) (tenant1 : Int) (strip2 : Int) : Option m_s_Taken_R :=
 (m_s_opened s0).bind fun t12 =>
 oc t12 (fun t12a => some (⟨(⟨0, 0⟩ : Span), t12a⟩ : m_s_Taken_R)) (fun t12b => ((m_s_Scalps_tenant s0 tenant1).bind fun t23 =>
 if (!t23) = true then
 (some true) else
 ((m_s_Scalps_strip s0 strip2).bind fun t28 =>
 some (!t28))).bind fun o =>
 if o = true then
 (some (⟨(⟨0, 0⟩ : Span), 1⟩ : m_s_Taken_R)) else
 ((m_s_some_4 tenant1 strip2).bind fun t34 =>
 (m_sd_spread_1 s0.strips s0.carried t12b (fun p_1 : Pair => m_s_some_1_3 p_1 tenant1 strip2)).bind fun t35 =>
 some (⟨t35.r0, t35.r1⟩ : m_s_Taken_R)))
theorem c_s_Taken (s0 : Scalps) (tenant1 : Int) (strip2 : Int) (qa0 : Option Addr) (na0 ca0 : Nat) (qa1 : Option Addr) (na1 ca1 : Nat) (w : World) (hw : HV w (keys [] []) [] [] [(aB qa0, aO qa0, RSt.enc s0.strips), (aB qa1, aO qa1, RSp.enc s0.carried)] w) (hna0 : s0.strips.length = na0) (hqa0 : AOK na0 qa0) (hla0 : na0 ≤ ca0) (hna1 : s0.carried.length = na1) (hqa1 : AOK na1 qa1) (hla1 : na1 ≤ ca1) {res : m_s_Taken_R} (hm : m_s_Taken s0 tenant1 strip2 = some res) :
    Calls Try.prog 19 #[.agg #[.slice qa0 na0 ca0, .slice qa1 na1 ca1], .int .i64 tenant1, .int .i64 strip2] w (fun en w' => ∃ l : Unit, en = .returned (.tuple #[.agg #[.int .i64 res.r0.lo, .int .i64 res.r0.hi], .int .i64 res.r1]) ∧ (True) ∧ HV w (keys [] []) [] [] [] w') := by
  unfold m_s_Taken at hm
  refine g_en Try.func19 rfl Try.ntmps19 rfl (e := [(0, _), (1, _), (2, _)]) rfl hw (g_sr ?_)
  refine g_boxV rfl rfl (fun b h1 => ?_)
  refine g_boxV rfl rfl (fun b_1 h2 => ?_)
  refine g_boxV rfl rfl (fun b_2 h3 => ?_)
  refine g_allocV (fun w => Try.zeroValue37 w) rfl (fun b_3 h4 => ?_)
  refine g_as rfl rfl (g_nx (g_la [_, _] 3 Try.isAgg28 Try.sizeOf28 rfl rfl rfl rfl ?_))
  obtain ⟨t12, h5, hm⟩ := bindO hm
  rcases t12 with t12a | t12b
  ·replace hm := ocL hm
   refine g_callH [] [] rfl rfl rfl rfl rfl rfl rfl Try.call65 (fun w hh => c_s_opened s0 qa0 na0 ca0 qa1 na1 ca1 w (HV.callee (S0 := []) (vs0 := []) hh (roR hh 0 rfl (roR hh 1 rfl roN))) hna0 hqa0 hla0 hna1 hqa1 hla1 h5) (fun l h6 => ?_)
   have h7 := h6
   refine g_mv rfl rfl (g_xt rfl rfl rfl (g_xt rfl rfl rfl (g_as rfl rfl (g_as rfl rfl (g_nt (g_seq (g_block ?_)))))))
   refine g_sr (g_mv rfl rfl (g_val rfl rfl rfl (fun _ _ => v_neqT h7 rfl rfl) (g_as rfl rfl (g_nt (g_condT rfl rfl (g_sr (g_val rfl rfl rfl (fun _ _ => v_build (vs := []) (cells := [_, _]) rfl rfl) ?_)))))))
   refine g_mv rfl rfl (g_stSA (us := #[_, _]) (cs' := [_, _]) (S' := [_, _, _, _]) 0 (fun w => Try.sizeOf37 w) rfl rfl rfl rfl rfl rfl rfl (g_as rfl rfl (g_nt (g_ret (g_r_blk (g_r_then ?_))))))
   obtain rfl := sj hm
   refine g_done rfl (fun w hh => (.cell rfl (loadVar_agg (vs := [_, _]) (Try.isAgg37 _) (Try.sizeOf37 _) (hh.cells 0 rfl rfl)) (.tmp rfl .nil))) (fun w hh => ⟨(), rfl, trivial, hh.se [] [] 2 rfl rfl rfl rfl⟩)
  ·replace hm := ocR hm
   refine g_callH [] [] rfl rfl rfl rfl rfl rfl rfl Try.call65 (fun w hh => c_s_opened s0 qa0 na0 ca0 qa1 na1 ca1 w (HV.callee (S0 := []) (vs0 := []) hh (roR hh 0 rfl (roR hh 1 rfl roN))) hna0 hqa0 hla0 hna1 hqa1 hla1 h5) (fun l_1 h8 => ?_)
   refine g_se (S' := [_, _, _, _, _, _]) (vs' := []) [0, 1, 2, 3, 4, 5] [] 0 rfl rfl rfl rfl (g_mv rfl rfl (g_xt rfl rfl rfl (g_xt rfl rfl rfl (g_as rfl rfl (g_as rfl rfl (g_nt (g_seq ?_)))))))
   refine g_block (g_sr (g_mv rfl rfl (g_val rfl rfl rfl (fun _ _ => v_neq rfl rfl) (g_as rfl rfl (g_nt (g_condF rfl rfl (g_seq ?_)))))))
   obtain ⟨o, h9, h10⟩ := bindO hm
   refine g_cut (ι := Unit) (fun l_2 => True) (fun l_2 => [(4, ptr b_1 0), (5, ptr b_2 0), (6, ptr b_3 0), (8, ptr l_1.1 0), (20, .bool o)]) (fun l_2 => [(l_1.1, .cells #[.slice qa0 na0 ca0, .slice qa1 na1 ca1, .map (some l_1.2)] 163 (0, 0)), (l_1.2, gobj (kR RPr) kB t12b), (b_3, .cells #[.int .i64 0, .int .i64 0] 37 (0, 0)), (b_2, .cells #[.int .i64 strip2] 3 (0, 0)), (b_1, .cells #[.int .i64 tenant1] 3 (0, 0)), (b, .cells #[.slice qa0 na0 ca0, .slice qa1 na1 ca1] 28 (0, 0))]) (fun l_2 => []) ?_ ?_
   ·replace hm := h9
    refine g_region (g_la [_, _] 5 Try.isAgg28 Try.sizeOf28 rfl rfl rfl rfl (g_lc 4 Try.isAgg3 rfl rfl rfl rfl ?_))
    obtain ⟨t23, h11, hm⟩ := bindO hm
    refine g_callH [] [] rfl rfl rfl rfl rfl rfl rfl Try.call53 (fun w hh => c_s_Scalps_tenant s0 tenant1 qa0 na0 ca0 qa1 na1 ca1 w (HV.callee (S0 := []) (vs0 := []) hh (roR hh 0 rfl (roR hh 1 rfl roN))) hna0 hqa0 hla0 hna1 hqa1 hla1 h11) (fun l_3 h12 => ?_)
    refine g_val rfl rfl rfl (fun _ _ => v_not rfl) (g_mv rfl rfl ?_)
    refine g_case 25 rfl (fun h13 => ?_) (fun h13 => ?_)
    ·replace hm := ifT (h13) hm
     refine g_k rfl rfl rfl rfl (g_k rfl rfl rfl rfl (g_k rfl rfl rfl rfl (g_k rfl rfl rfl rfl (g_pt rfl rfl rfl (g_as rfl rfl (g_nil ?_))))))
     obtain rfl := sj hm
     exact g_leaf () (trivial) (sE rfl) (fun w hh => hh)
    ·replace hm := ifN h13 hm
     refine v_unguard rfl rfl (g_la [_, _] 5 Try.isAgg28 Try.sizeOf28 rfl rfl rfl rfl (v_unguard rfl rfl (g_lc 3 Try.isAgg3 rfl rfl rfl rfl (v_unguard rfl rfl ?_))))
     obtain ⟨t28, h14, hm⟩ := bindO hm
     refine g_callH [] [] rfl rfl rfl rfl rfl rfl rfl Try.call71 (fun w hh => c_s_Scalps_strip s0 strip2 qa0 na0 ca0 qa1 na1 ca1 w (HV.callee (S0 := []) (vs0 := []) hh (roR hh 0 rfl (roR hh 1 rfl roN))) hna0 hqa0 hla0 hna1 hqa1 hla1 h14) (fun l_4 h15 => ?_)
     refine v_unguard rfl rfl (g_val rfl rfl rfl (fun _ _ => v_not rfl) (g_pf rfl rfl rfl (g_as rfl rfl (g_nil ?_))))
     obtain rfl := sj hm
     exact g_leaf () (trivial) (sE rfl) (fun w hh => hh)
   ·intro l_2 hj
    replace hm := h10
    refine g_n_then ?_
    refine g_cond rfl (fun h16 => ?_) (fun h16 => ?_)
    ·replace hm := ifT (h16) hm
     refine g_sr (g_val rfl rfl rfl (fun _ _ => v_build (vs := []) (cells := [_, _]) rfl rfl) (g_stSA (us := #[_, _]) (cs' := [_, _]) (S' := [_, _, _, _, _, _]) 2 (fun w => Try.sizeOf37 w) rfl rfl rfl rfl rfl rfl rfl (g_as rfl rfl (g_nt (g_ret (g_r_blk (g_r_then ?_)))))))
     obtain rfl := sj hm
     refine g_done rfl (fun w hh => (.cell rfl (loadVar_agg (vs := [_, _]) (Try.isAgg37 _) (Try.sizeOf37 _) (hh.cells 2 rfl rfl)) (.tmp rfl .nil))) (fun w hh => ⟨(), rfl, trivial, hh.se [] [] 2 rfl rfl rfl rfl⟩)
    ·replace hm := ifN h16 hm
     refine g_skip (g_n_blk (g_n_then (g_sr (g_mv rfl rfl (g_val rfl rfl rfl (fun _ _ => v_makeFunc (u := #[]) (u' := #[_, _]) rfl rfl) ?_)))))
     obtain ⟨t34, h17, hm⟩ := bindO hm
     refine g_callH [] [] rfl rfl rfl rfl rfl rfl rfl Try.call73 (fun w hh => c_s_some_4 tenant1 strip2 b_1 b_2 w (HV.callee (S0 := []) (vs0 := []) hh (roC (bsep (hh.bseg 4 rfl)) (roC (bsep (hh.bseg 3 rfl)) roN)))  h17) (fun l_5 h18 => ?_)
     refine g_se (S' := [_, _, _, _, _, _, _]) (vs' := []) [0, 1, 2, 3, 4, 5, 6] [] 0 rfl rfl rfl rfl ?_
     obtain ⟨t35, h19, hm⟩ := bindO hm
     refine g_se (S' := [_, _, _, _, _, _, _]) (vs' := []) [2, 0, 1, 3, 4, 5, 6] [] 0 rfl rfl rfl rfl ?_
     refine g_callH [_] [] rfl rfl rfl rfl rfl rfl rfl Try.call72 (fun w hh => c_sd_spread_1 s0.strips s0.carried t12b (fun p_1 : Pair => m_s_some_1_3 p_1 tenant1 strip2) l_1.1 qa0 na0 ca0 qa1 na1 ca1 l_1.2 122 (#[]) (#[ptr l_5 0]) ([(l_5, 0, [.func (.func 74) #[] #[ptr b_1 0, ptr b_2 0]]), (b_1, 0, [.int .i64 tenant1]), (b_2, 0, [.int .i64 strip2])]) w (HV.callee (S0 := [_]) (vs0 := []) hh (roA (roC (hh.bsepH 1 rfl) (roR hh 0 rfl (roR hh 1 rfl roN))) (roC (hh.bsepH 0 rfl) (roC (hh.bsepH 4 rfl) (roC (hh.bsepH 3 rfl) roN))))) hna0 hqa0 hla0 hna1 hqa1 hla1 (⟨fun a w => Try.call122 a w, (fun p_1 r hr w hT => clRet (c_s_some_1_3 p_1 tenant1 strip2 l_5 b_1 b_2 w (HVstart hT)  hr))⟩ : ClOK Try.prog 122 #[] #[ptr l_5 0] ([(l_5, 0, [.func (.func 74) #[] #[ptr b_1 0, ptr b_2 0]]), (b_1, 0, [.int .i64 tenant1]), (b_2, 0, [.int .i64 strip2])]) (fun x : Pair => [.agg #[.int .i64 x.tenant, .int .i64 x.strip]]) (fun x : Int => .int .i64 x) (fun p_1 : Pair => m_s_some_1_3 p_1 tenant1 strip2)) h19) (fun l_6 h20 => ?_)
     refine g_se (S' := [_, _, _, _, _, _, _]) (vs' := []) [0, 1, 2, 3, 4, 5, 6] [] 0 rfl rfl rfl rfl (g_xt rfl rfl rfl (g_xt rfl rfl rfl (g_stSA (us := #[_, _]) (cs' := [_, _]) (S' := [_, _, _, _, _, _, _]) 3 (fun w => Try.sizeOf37 w) rfl rfl rfl rfl rfl rfl rfl (g_as rfl rfl (g_nt (g_ret ?_))))))
     obtain rfl := sj hm
     refine g_done rfl (fun w hh => (.cell rfl (loadVar_agg (vs := [_, _]) (Try.isAgg37 _) (Try.sizeOf37 _) (hh.cells 3 rfl rfl)) (.tmp rfl .nil))) (fun w hh => ⟨(), rfl, trivial, hh.se [] [] 2 rfl rfl rfl rfl⟩)
def m_s_some_5 (holds0_c0 : Int) (holds0_c10 : (List Strip)) (holds0_c11 : (List Span)) : Option Unit :=
 some ()
theorem c_s_some_5 (holds0_c0 : Int) (holds0_c10 : (List Strip)) (holds0_c11 : (List Span)) (rb : Nat) (rb_1 : Nat) (rb_2 : Nat) (qa3 : Option Addr) (na3 ca3 : Nat) (qa4 : Option Addr) (na4 ca4 : Nat) (mv : Value) (w : World) (hw : HV w (keys [] []) [] [] [(rb, 0, [.int .i64 holds0_c0]), (rb_1, 0, [ptr rb_2 0]), (rb_2, 0, [.slice qa3 na3 ca3, .slice qa4 na4 ca4, mv]), (aB qa3, aO qa3, RSt.enc holds0_c10), (aB qa4, aO qa4, RSp.enc holds0_c11)] w)    (hna3 : holds0_c10.length = na3) (hqa3 : AOK na3 qa3) (hla3 : na3 ≤ ca3) (hna4 : holds0_c11.length = na4) (hqa4 : AOK na4 qa4) (hla4 : na4 ≤ ca4) {res : Unit} (hm : m_s_some_5 holds0_c0 holds0_c10 holds0_c11 = some res) :
    Calls Try.prog 73 #[.func (.func 105) #[] #[ptr rb 0, ptr rb_1 0]] w (fun en w' => ∃ l : Nat, en = .returned (.agg #[.func (.func 122) #[] #[ptr l 0]]) ∧ (True) ∧ HV w (keys [] []) [(l, .cells #[.func (.func 105) #[] #[ptr rb 0, ptr rb_1 0]] 131 (0, 0))] [] [] w') := by
  unfold m_s_some_5 at hm
  refine g_en Try.func73 rfl Try.ntmps73 rfl (e := [(0, _)]) rfl hw (g_sr ?_)
  refine g_boxV rfl rfl (fun b h1 => ?_)
  refine g_allocV (fun w => Try.zeroValue123 w) rfl (fun b_1 h2 => ?_)
  refine g_nx (g_val rfl rfl rfl (fun _ _ => v_makeFunc (u := #[]) (u' := #[_]) rfl rfl) (g_val rfl rfl rfl (fun _ _ => v_build (vs := [(0, _)]) (cells := [_]) rfl rfl) (g_stSA (us := #[_]) (cs' := [_]) (S' := [_, _]) 0 (fun w => Try.sizeOf123 w) rfl rfl rfl rfl rfl rfl rfl (g_nt (g_ret ?_)))))
  obtain rfl := sj hm
  refine g_done rfl (fun w hh => (.cell rfl (loadVar_agg (vs := [_]) (Try.isAgg123 _) (Try.sizeOf123 _) (hh.cells 0 rfl rfl)) .nil)) (fun w hh => ⟨b, rfl, trivial, hh.se [1] [] 5 rfl rfl rfl rfl⟩)
def m_s_Missed_1 (p0 : Pair) (a11 : Int) (a220 : (List Strip)) (a221 : (List Span)) : Option Bool :=
 (if p0.strip = a11 then
 ((m_sd_other a220 a221 p0).bind fun t12 =>
 some t12) else
 (some false)).bind fun o =>
 some o
theorem c_s_Missed_1 (p0 : Pair) (a11 : Int) (a220 : (List Strip)) (a221 : (List Span)) (rb : Nat) (rb_1 : Nat) (rb_2 : Nat) (qa3 : Option Addr) (na3 ca3 : Nat) (qa4 : Option Addr) (na4 ca4 : Nat) (mv : Value) (w : World) (hw : HV w (keys [] []) [] [] [(rb, 0, [.int .i64 a11]), (rb_1, 0, [ptr rb_2 0]), (rb_2, 0, [.slice qa3 na3 ca3, .slice qa4 na4 ca4, mv]), (aB qa3, aO qa3, RSt.enc a220), (aB qa4, aO qa4, RSp.enc a221)] w)    (hna3 : a220.length = na3) (hqa3 : AOK na3 qa3) (hla3 : na3 ≤ ca3) (hna4 : a221.length = na4) (hqa4 : AOK na4 qa4) (hla4 : na4 ≤ ca4) {res : Bool} (hm : m_s_Missed_1 p0 a11 a220 a221 = some res) :
    Calls Try.prog 105 #[.agg #[.int .i64 p0.tenant, .int .i64 p0.strip], ptr rb 0, ptr rb_1 0] w (fun en w' => ∃ l : Unit, en = .returned (.bool res) ∧ (True) ∧ HV w (keys [] []) [] [] [] w') := by
  unfold m_s_Missed_1 at hm
  refine g_en Try.func105 rfl Try.ntmps105 rfl (e := [(0, _), (1, _), (2, _)]) rfl hw (g_sr ?_)
  refine g_boxV rfl rfl (fun b h1 => ?_)
  refine g_as rfl rfl (g_nt (g_seq ?_))
  obtain ⟨o, h2, h3⟩ := bindO hm
  refine g_cut (ι := Unit) (fun l => True) (fun l => [(4, .bool o)]) (fun l => [(b, .cells #[.int .i64 p0.tenant, .int .i64 p0.strip] 128 (0, 0))]) (fun l => []) ?_ ?_
  ·replace hm := h2
   refine g_region (g_fa 1 Try.runUnderlying128 rfl Try.sizeOf3 rfl rfl (g_lc 0 Try.isAgg3 rfl rfl rfl rfl (g_val rfl rfl rfl (fun w hh => v_load (Try.isAgg3 w) rfl (segCell (hh.seg 0 rfl) 0 rfl)) (g_val rfl rfl rfl (fun _ _ => v_eql rfl rfl) (g_mv rfl rfl ?_)))))
   refine g_case 9 rfl (fun h4 => ?_) (fun h4 => ?_)
   ·replace hm := ifD h4 hm
    refine v_unguard rfl rfl (g_val rfl rfl rfl (fun w hh => v_load (Try.isAgg115 w) rfl (segCell (hh.seg 1 rfl) 0 rfl)) (v_unguard rfl rfl (g_la [_, _] 0 Try.isAgg128 Try.sizeOf128 rfl rfl rfl rfl (v_unguard rfl rfl ?_))))
    obtain ⟨t12, h5, hm⟩ := bindO hm
    refine g_callH [] [] rfl rfl rfl rfl rfl rfl rfl Try.call97 (fun w hh => c_sd_other a220 a221 p0 rb_2 qa3 na3 ca3 qa4 na4 ca4 mv w (HV.callee (S0 := []) (vs0 := []) hh (roR hh 2 rfl (roR hh 3 rfl (roR hh 4 rfl roN)))) hna3 hqa3 hla3 hna4 hqa4 hla4 h5) (fun l_1 h6 => ?_)
    refine g_pt rfl rfl rfl (g_as rfl rfl (g_nil ?_))
    obtain rfl := sj hm
    exact g_leaf () (trivial) (sE rfl) (fun w hh => hh)
   ·replace hm := ifE h4 hm
    refine g_k rfl rfl rfl rfl (g_k rfl rfl rfl rfl (g_k rfl rfl rfl rfl (g_pf rfl rfl rfl (g_as rfl rfl (g_nil ?_)))))
    obtain rfl := sj hm
    exact g_leaf () (trivial) (sE rfl) (fun w hh => hh)
  ·intro l hj
   replace hm := h3
   refine g_n_then (g_ret ?_)
   obtain rfl := sj hm
   refine g_done rfl (fun w hh => (.tmp rfl .nil)) (fun w hh => ⟨(), rfl, trivial, hh.se [] [] 5 rfl rfl rfl rfl⟩)
def m_s_some_1_4 (p0 : Pair) (a11_c0 : Int) (a11_c10 : (List Strip)) (a11_c11 : (List Span)) : Option Int :=
 (m_s_Missed_1 p0 a11_c0 a11_c10 a11_c11).bind fun t6 =>
 if t6 = true then
 (some 1) else
 (some 0)
theorem c_s_some_1_4 (p0 : Pair) (a11_c0 : Int) (a11_c10 : (List Strip)) (a11_c11 : (List Span)) (rb : Nat) (rb_1 : Nat) (rb_2 : Nat) (rb_3 : Nat) (qa4 : Option Addr) (na4 ca4 : Nat) (qa5 : Option Addr) (na5 ca5 : Nat) (mv : Value) (w : World) (hw : HV w (keys [] []) [] [] [(rb, 0, [.func (.func 105) #[] #[ptr rb_1 0, ptr rb_2 0]]), (rb_1, 0, [.int .i64 a11_c0]), (rb_2, 0, [ptr rb_3 0]), (rb_3, 0, [.slice qa4 na4 ca4, .slice qa5 na5 ca5, mv]), (aB qa4, aO qa4, RSt.enc a11_c10), (aB qa5, aO qa5, RSp.enc a11_c11)] w)     (hna4 : a11_c10.length = na4) (hqa4 : AOK na4 qa4) (hla4 : na4 ≤ ca4) (hna5 : a11_c11.length = na5) (hqa5 : AOK na5 qa5) (hla5 : na5 ≤ ca5) {res : Int} (hm : m_s_some_1_4 p0 a11_c0 a11_c10 a11_c11 = some res) :
    Calls Try.prog 122 #[.agg #[.int .i64 p0.tenant, .int .i64 p0.strip], ptr rb 0] w (fun en w' => ∃ l : Unit, en = .returned (.int .i64 res) ∧ (True) ∧ HV w (keys [] []) [] [] [] w') := by
  unfold m_s_some_1_4 at hm
  refine g_en Try.func122 rfl Try.ntmps122 rfl (e := [(0, _), (1, _)]) rfl hw (g_sr ?_)
  refine g_boxV rfl rfl (fun b h1 => ?_)
  refine g_as rfl rfl (g_nt (g_seq (g_sr (g_val rfl rfl rfl (fun w hh => v_load (Try.isAgg131 w) rfl (segCell (hh.seg 0 rfl) 0 rfl)) (g_la [_, _] 0 Try.isAgg128 Try.sizeOf128 rfl rfl rfl rfl ?_)))))
  obtain ⟨t6, h2, hm⟩ := bindO hm
  refine g_callH [] [] rfl rfl rfl rfl rfl rfl rfl Try.call105 (fun w hh => c_s_Missed_1 p0 a11_c0 a11_c10 a11_c11 rb_1 rb_2 rb_3 qa4 na4 ca4 qa5 na5 ca5 mv w (HV.callee (S0 := []) (vs0 := []) hh (roR hh 1 rfl (roR hh 2 rfl (roR hh 3 rfl (roR hh 4 rfl (roR hh 5 rfl roN)))))) hna4 hqa4 hla4 hna5 hqa5 hla5 h2) (fun l h3 => ?_)
  refine g_nt ?_
  refine g_cond rfl (fun h4 => ?_) (fun h4 => ?_)
  ·replace hm := ifT (h4) hm
   refine g_sr (g_as rfl rfl (g_nt (g_ret (g_r_then ?_))))
   obtain rfl := sj hm
   refine g_done rfl (fun w hh => (.tmp rfl .nil)) (fun w hh => ⟨(), rfl, trivial, hh.se [] [] 6 rfl rfl rfl rfl⟩)
  ·replace hm := ifN h4 hm
   refine g_skip (g_n_then (g_sr (g_as rfl rfl (g_nt (g_ret ?_)))))
   obtain rfl := sj hm
   refine g_done rfl (fun w hh => (.tmp rfl .nil)) (fun w hh => ⟨(), rfl, trivial, hh.se [] [] 6 rfl rfl rfl rfl⟩)
structure m_s_Missed_R where
  r0 : Span
  r1 : Int
def m_s_Missed (s0 : Scalps) (strip1 : Int) : Option m_s_Missed_R :=
 (m_s_opened s0).bind fun t10 =>
 oc t10 (fun t10a => some (⟨(⟨0, 0⟩ : Span), t10a⟩ : m_s_Missed_R)) (fun t10b => (m_s_Scalps_strip s0 strip1).bind fun t21 =>
 if (!t21) = true then
 (some (⟨(⟨0, 0⟩ : Span), 1⟩ : m_s_Missed_R)) else
 ((m_s_some_5 strip1 s0.strips s0.carried).bind fun t26 =>
 (m_sd_spread_1 s0.strips s0.carried t10b (fun p_1 : Pair => m_s_some_1_4 p_1 strip1 s0.strips s0.carried)).bind fun t27 =>
 some (⟨t27.r0, t27.r1⟩ : m_s_Missed_R)))
theorem c_s_Missed (s0 : Scalps) (strip1 : Int) (qa0 : Option Addr) (na0 ca0 : Nat) (qa1 : Option Addr) (na1 ca1 : Nat) (w : World) (hw : HV w (keys [] []) [] [] [(aB qa0, aO qa0, RSt.enc s0.strips), (aB qa1, aO qa1, RSp.enc s0.carried)] w) (hna0 : s0.strips.length = na0) (hqa0 : AOK na0 qa0) (hla0 : na0 ≤ ca0) (hna1 : s0.carried.length = na1) (hqa1 : AOK na1 qa1) (hla1 : na1 ≤ ca1) {res : m_s_Missed_R} (hm : m_s_Missed s0 strip1 = some res) :
    Calls Try.prog 47 #[.agg #[.slice qa0 na0 ca0, .slice qa1 na1 ca1], .int .i64 strip1] w (fun en w' => ∃ l : Unit, en = .returned (.tuple #[.agg #[.int .i64 res.r0.lo, .int .i64 res.r0.hi], .int .i64 res.r1]) ∧ (True) ∧ HV w (keys [] []) [] [] [] w') := by
  unfold m_s_Missed at hm
  refine g_en Try.func47 rfl Try.ntmps47 rfl (e := [(0, _), (1, _)]) rfl hw (g_sr ?_)
  refine g_boxV rfl rfl (fun b h1 => ?_)
  refine g_boxV rfl rfl (fun b_1 h2 => ?_)
  refine g_allocV (fun w => Try.zeroValue37 w) rfl (fun b_2 h3 => ?_)
  refine g_as rfl rfl (g_nx (g_la [_, _] 2 Try.isAgg28 Try.sizeOf28 rfl rfl rfl rfl ?_))
  obtain ⟨t10, h4, hm⟩ := bindO hm
  rcases t10 with t10a | t10b
  ·replace hm := ocL hm
   refine g_callH [] [] rfl rfl rfl rfl rfl rfl rfl Try.call65 (fun w hh => c_s_opened s0 qa0 na0 ca0 qa1 na1 ca1 w (HV.callee (S0 := []) (vs0 := []) hh (roR hh 0 rfl (roR hh 1 rfl roN))) hna0 hqa0 hla0 hna1 hqa1 hla1 h4) (fun l h5 => ?_)
   have h6 := h5
   refine g_mv rfl rfl (g_xt rfl rfl rfl (g_xt rfl rfl rfl ?_))
   refine g_allocV (fun w => Try.zeroValue115 w) rfl (fun b_3 h7 => ?_)
   refine g_stS (cs' := #[_]) (S' := [_, _, _, _]) 0 (fun w => Try.sizeOf115 w) rfl rfl rfl rfl rfl rfl rfl (g_as rfl rfl (g_nt (g_seq (g_block (g_sr (g_mv rfl rfl (g_val rfl rfl rfl (fun _ _ => v_neqT h6 rfl rfl) ?_)))))))
   refine g_as rfl rfl (g_nt (g_condT rfl rfl (g_sr (g_val rfl rfl rfl (fun _ _ => v_build (vs := []) (cells := [_, _]) rfl rfl) (g_mv rfl rfl (g_stSA (us := #[_, _]) (cs' := [_, _]) (S' := [_, _, _, _]) 1 (fun w => Try.sizeOf37 w) rfl rfl rfl rfl rfl rfl rfl (g_as rfl rfl ?_)))))))
   refine g_nt (g_ret (g_r_blk (g_r_then ?_)))
   obtain rfl := sj hm
   refine g_done rfl (fun w hh => (.cell rfl (loadVar_agg (vs := [_, _]) (Try.isAgg37 _) (Try.sizeOf37 _) (hh.cells 1 rfl rfl)) (.tmp rfl .nil))) (fun w hh => ⟨(), rfl, trivial, hh.se [] [] 2 rfl rfl rfl rfl⟩)
  ·replace hm := ocR hm
   refine g_callH [] [] rfl rfl rfl rfl rfl rfl rfl Try.call65 (fun w hh => c_s_opened s0 qa0 na0 ca0 qa1 na1 ca1 w (HV.callee (S0 := []) (vs0 := []) hh (roR hh 0 rfl (roR hh 1 rfl roN))) hna0 hqa0 hla0 hna1 hqa1 hla1 h4) (fun l_1 h8 => ?_)
   refine g_se (S' := [_, _, _, _, _]) (vs' := []) [0, 1, 2, 3, 4] [] 0 rfl rfl rfl rfl (g_mv rfl rfl (g_xt rfl rfl rfl (g_xt rfl rfl rfl ?_)))
   refine g_allocV (fun w => Try.zeroValue115 w) rfl (fun b_4 h9 => ?_)
   refine g_stS (cs' := #[_]) (S' := [_, _, _, _, _, _]) 0 (fun w => Try.sizeOf115 w) rfl rfl rfl rfl rfl rfl rfl (g_as rfl rfl (g_nt (g_seq (g_block (g_sr (g_mv rfl rfl (g_val rfl rfl rfl (fun _ _ => v_neq rfl rfl) ?_)))))))
   refine g_as rfl rfl (g_nt (g_condF rfl rfl (g_sr (g_la [_, _] 5 Try.isAgg28 Try.sizeOf28 rfl rfl rfl rfl (g_lc 4 Try.isAgg3 rfl rfl rfl rfl ?_)))))
   obtain ⟨t21, h10, hm⟩ := bindO hm
   refine g_callH [] [] rfl rfl rfl rfl rfl rfl rfl Try.call71 (fun w hh => c_s_Scalps_strip s0 strip1 qa0 na0 ca0 qa1 na1 ca1 w (HV.callee (S0 := []) (vs0 := []) hh (roR hh 0 rfl (roR hh 1 rfl roN))) hna0 hqa0 hla0 hna1 hqa1 hla1 h10) (fun l_2 h11 => ?_)
   refine g_val rfl rfl rfl (fun _ _ => v_not rfl) (g_as rfl rfl (g_nt ?_))
   refine g_cond rfl (fun h12 => ?_) (fun h12 => ?_)
   ·replace hm := ifT (h12) hm
    refine g_sr (g_val rfl rfl rfl (fun _ _ => v_build (vs := []) (cells := [_, _]) rfl rfl) (g_stSA (us := #[_, _]) (cs' := [_, _]) (S' := [_, _, _, _, _, _]) 3 (fun w => Try.sizeOf37 w) rfl rfl rfl rfl rfl rfl rfl (g_as rfl rfl (g_nt (g_ret (g_r_blk (g_r_then ?_)))))))
    obtain rfl := sj hm
    refine g_done rfl (fun w hh => (.cell rfl (loadVar_agg (vs := [_, _]) (Try.isAgg37 _) (Try.sizeOf37 _) (hh.cells 3 rfl rfl)) (.tmp rfl .nil))) (fun w hh => ⟨(), rfl, trivial, hh.se [] [] 2 rfl rfl rfl rfl⟩)
   ·replace hm := ifN h12 hm
    refine g_skip (g_n_blk (g_n_then (g_seq ?_)))
    refine g_draw none (.hoist 0 (.free 1 (.one 2 (.one 3 (.free 4 (.free 5 (.one 6 (.free 7 .done)))))))) (HV _ _ [(b_4, .cells #[ptr l_1.1 0] 115 (0, 0)), (l_1.1, .cells #[.slice qa0 na0 ca0, .slice qa1 na1 ca1, .map (some l_1.2)] 163 (0, 0)), (l_1.2, gobj (kR RPr) kB t10b), (b_1, .cells #[.int .i64 strip1] 3 (0, 0)), (b, .cells #[.slice qa0 na0 ca0, .slice qa1 na1 ca1] 28 (0, 0))] [] _) rfl (by decide +kernel) (fun w k hh => hh.draw k) (hsE [0, 1, 2, 4, 5] [] 0 rfl rfl rfl rfl) ?_
    refine p_lc 0 Try.isAgg115 rfl rfl rfl rfl rfl (p_free rfl rfl rfl rfl (fun _ _ => v_makeFunc (u := #[]) (u' := #[_, _]) rfl rfl) (p_one rfl ?_))
    obtain ⟨t26, h13, hm⟩ := bindO hm
    refine g_callH [] [] rfl rfl rfl rfl rfl rfl rfl Try.call73 (fun w hh => c_s_some_5 strip1 s0.strips s0.carried b_1 b_4 l_1.1 qa0 na0 ca0 qa1 na1 ca1 (.map (some l_1.2)) w (HV.callee (S0 := []) (vs0 := []) hh (roC (bsep (hh.bseg 4 rfl)) (roC (bsep (hh.bseg 0 rfl)) (roC (bsep (hh.bseg 1 rfl)) (roR hh 0 rfl (roR hh 1 rfl roN)))))) hna0 hqa0 hla0 hna1 hqa1 hla1 h13) (fun l_3 h14 => ?_)
    refine g_se (S' := [_, _, _, _, _, _, _]) (vs' := []) [0, 1, 2, 3, 4, 5, 6] [] 0 rfl rfl rfl rfl (p_next (hsE [1, 2, 3, 5, 6] [] 0 rfl rfl rfl rfl) (p_one rfl ?_))
    obtain ⟨t27, h15, hm⟩ := bindO hm
    refine g_se (S' := [_, _, _, _, _, _, _]) (vs' := []) [3, 0, 1, 2, 4, 5, 6] [] 0 rfl rfl rfl rfl ?_
    refine g_callH [_] [] rfl rfl rfl rfl rfl rfl rfl Try.call72 (fun w hh => c_sd_spread_1 s0.strips s0.carried t10b (fun p_1 : Pair => m_s_some_1_4 p_1 strip1 s0.strips s0.carried) l_1.1 qa0 na0 ca0 qa1 na1 ca1 l_1.2 122 (#[]) (#[ptr l_3 0]) ([(l_3, 0, [.func (.func 105) #[] #[ptr b_1 0, ptr b_4 0]]), (b_1, 0, [.int .i64 strip1]), (b_4, 0, [ptr l_1.1 0]), (l_1.1, 0, [.slice qa0 na0 ca0, .slice qa1 na1 ca1, .map (some l_1.2)]), (aB qa0, aO qa0, RSt.enc s0.strips), (aB qa1, aO qa1, RSp.enc s0.carried)]) w (HV.callee (S0 := [_]) (vs0 := []) hh (roA (roC (hh.bsepH 2 rfl) (roR hh 0 rfl (roR hh 1 rfl roN))) (roC (hh.bsepH 0 rfl) (roC (hh.bsepH 4 rfl) (roC (hh.bsepH 1 rfl) (roC (hh.bsepH 2 rfl) (roR hh 0 rfl (roR hh 1 rfl roN)))))))) hna0 hqa0 hla0 hna1 hqa1 hla1 (⟨fun a w => Try.call122 a w, (fun p_1 r hr w hT => clRet (c_s_some_1_4 p_1 strip1 s0.strips s0.carried l_3 b_1 b_4 l_1.1 qa0 na0 ca0 qa1 na1 ca1 (.map (some l_1.2)) w (HVstart hT) hna0 hqa0 hla0 hna1 hqa1 hla1 hr))⟩ : ClOK Try.prog 122 #[] #[ptr l_3 0] ([(l_3, 0, [.func (.func 105) #[] #[ptr b_1 0, ptr b_4 0]]), (b_1, 0, [.int .i64 strip1]), (b_4, 0, [ptr l_1.1 0]), (l_1.1, 0, [.slice qa0 na0 ca0, .slice qa1 na1 ca1, .map (some l_1.2)]), (aB qa0, aO qa0, RSt.enc s0.strips), (aB qa1, aO qa1, RSp.enc s0.carried)]) (fun x : Pair => [.agg #[.int .i64 x.tenant, .int .i64 x.strip]]) (fun x : Int => .int .i64 x) (fun p_1 : Pair => m_s_some_1_4 p_1 strip1 s0.strips s0.carried)) h15) (fun l_4 h16 => ?_)
    refine g_se (S' := [_, _, _, _, _, _, _]) (vs' := []) [0, 1, 2, 3, 4, 5, 6] [] 0 rfl rfl rfl rfl (p_next (hsE [2, 3, 0, 5, 6] [] 0 rfl rfl rfl rfl) (p_free rfl rfl rfl rfl (fun _ _ => v_extract rfl rfl) (p_free rfl rfl rfl rfl (fun _ _ => v_extract rfl rfl) (p_one rfl (g_stSA (us := #[_, _]) (cs' := [_, _]) (S' := [_, _, _, _, _, _, _]) 4 (fun w => Try.sizeOf37 w) rfl rfl rfl rfl rfl rfl rfl (p_next (hsE [2, 3, 0, 5, 6] [] 0 rfl rfl rfl rfl) (p_free rfl rfl rfl rfl (fun _ _ => v_assign rfl) ?_)))))))
    refine p_done (g_n_then (g_ret ?_))
    obtain rfl := sj hm
    refine g_done rfl (fun w hh => (.cell rfl (loadVar_agg (vs := [_, _]) (Try.isAgg37 _) (Try.sizeOf37 _) (hh.cells 4 rfl rfl)) (.tmp rfl .nil))) (fun w hh => ⟨(), rfl, trivial, hh.se [] [] 2 rfl rfl rfl rfl⟩)
end Go.Proofs.Ws

