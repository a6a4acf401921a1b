/- What the functions that the law TideHigher reaches come to, and why it holds: part 5. -/
import Derived.Test.YtaicfimbclibpaaTideHigher4
namespace Go.Proofs.Wk
open Go Go.Fw Go.Gx Go.Pl
set_option linter.unusedVariables false
structure m_laurelkit_Heap_From_R where
  r0 : Int
  h0_1 : Int
  h0_2 : Int
def m_laurelkit_Heap_From (h00 : (List Int)) (h01 : Int) (h02 : Int) (lo1 : Int) (hi2 : Int) : Option m_laurelkit_Heap_From_R :=
 (subc hi2 lo1).bind fun t11 =>
 (m_laurelkit_Heap_Upto h00 h01 h02 t11).bind fun t12 =>
 (addc lo1 t12.r0).bind fun t13 =>
 some (⟨t13, t12.h0_1, t12.h0_2⟩ : m_laurelkit_Heap_From_R)
set_option maxRecDepth 100000 in
set_option maxHeartbeats 4000000 in
theorem c_laurelkit_Heap_From (h00 : (List Int)) (h01 : Int) (h02 : Int) (lo1 : Int) (hi2 : Int) (pb : Nat) (qa0 : Option Addr) (na0 ca0 : Nat) (w : World) (hw : HV w (keys [(pb, .cells #[.slice qa0 na0 ca0, .int .i64 h01, .int .u32 h02] 138 (0, 0))] []) [(pb, .cells #[.slice qa0 na0 ca0, .int .i64 h01, .int .u32 h02] 138 (0, 0))] [] [(aB qa0, aO qa0, RU8.enc h00)] w) (hna0 : h00.length = na0) (hqa0 : AOK na0 qa0) (hla0 : na0 ≤ ca0) {res : m_laurelkit_Heap_From_R} (hm : m_laurelkit_Heap_From h00 h01 h02 lo1 hi2 = some res) :
    Calls Try.prog 20 #[ptr pb 0, .int .i64 lo1, .int .i64 hi2] w (fun en w' => ∃ l : Unit, en = .returned (.int .i64 res.r0) ∧ (True) ∧ HV w (keys [(pb, .cells #[.slice qa0 na0 ca0, .int .i64 h01, .int .u32 h02] 138 (0, 0))] []) [(pb, .cells #[.slice qa0 na0 ca0, .int .i64 res.h0_1, .int .u32 res.h0_2] 138 (0, 0))] [] [] w') := by
  unfold m_laurelkit_Heap_From at hm
  refine g_enter (args := [ptr pb 0, .int .i64 lo1, .int .i64 hi2]) Try.func20 rfl Try.ntmps20 rfl (e := [(0, _), (1, _), (2, _)]) rfl (H := HV w (keys [(pb, .cells #[.slice qa0 na0 ca0, .int .i64 h01, .int .u32 h02] 138 (0, 0))] []) [(pb, .cells #[.slice qa0 na0 ca0, .int .i64 h01, .int .u32 h02] 138 (0, 0))] [] [(aB qa0, aO qa0, RU8.enc h00)]) hw ?_
  refine g_seq ?_
  refine g_region ?_
  refine g_val rfl rfl rfl (fun _ _ => v_assign rfl) ?_
  refine g_nil ?_
  refine g_n_then ?_
  refine g_seq ?_
  refine g_region ?_
  refine g_val rfl rfl rfl (fun _ _ => v_move rfl) ?_
  refine g_val rfl rfl rfl (fun _ _ => v_move rfl) ?_
  refine g_val rfl rfl rfl (fun _ _ => v_move rfl) ?_
  refine g_val rfl rfl rfl (fun _ _ => v_move rfl) ?_
  obtain ⟨t11, h1, hm⟩ := bindO hm
  refine g_val rfl rfl rfl (fun _ _ => v_subc h1 rfl rfl) ?_
  obtain ⟨t12, h2, hm⟩ := bindO hm
  refine g_callH [_] [] rfl rfl rfl rfl rfl rfl rfl (fun a w => Try.call64 a w) (fun w hh => c_laurelkit_Heap_Upto h00 h01 h02 t11 pb qa0 na0 ca0 w (HV.callee (S0 := [_]) (vs0 := []) hh (roC (hh.rsep (S0 := [_]) (vs0 := []) 0 rfl) roN)) hna0 hqa0 hla0 h2) (fun l h3 => ?_)
  refine g_sel (S' := [_]) (vs' := []) [0] [] 0 (by decide) (by decide) rfl rfl rfl ?_
  obtain ⟨t13, h4, hm⟩ := bindO hm
  refine g_val rfl rfl rfl (fun _ _ => v_addc h4 rfl rfl) ?_
  refine g_val rfl rfl rfl (fun _ _ => v_assign rfl) ?_
  refine g_nil ?_
  refine g_n_then ?_
  refine g_ret ?_
  obtain rfl := Option.some.inj hm
  refine g_done rfl (fun w hh => (.tmp rfl .nil)) (fun w hh => ⟨(), rfl, trivial, hh.sel [0] [] 1 (by decide) (by decide) rfl rfl rfl⟩)
end Go.Proofs.Wk
namespace Go.Proofs.Wk
open Go Go.Fw Go.Gx Go.Pl
set_option linter.unusedVariables false
structure m_laurelkit_Heap_Once_R where
  r0 : Bool
  h0_1 : Int
  h0_2 : Int
def m_laurelkit_Heap_Once (h00 : (List Int)) (h01 : Int) (h02 : Int) (n1 : Int) : Option m_laurelkit_Heap_Once_R :=
 (subc n1 1).bind fun t7 =>
 (m_laurelkit_Heap_Upto h00 h01 h02 t7).bind fun t8 =>
 some (⟨(decide (t8.r0 = 0)), t8.h0_1, t8.h0_2⟩ : m_laurelkit_Heap_Once_R)
set_option maxRecDepth 100000 in
set_option maxHeartbeats 4000000 in
theorem c_laurelkit_Heap_Once (h00 : (List Int)) (h01 : Int) (h02 : Int) (n1 : Int) (pb : Nat) (qa0 : Option Addr) (na0 ca0 : Nat) (w : World) (hw : HV w (keys [(pb, .cells #[.slice qa0 na0 ca0, .int .i64 h01, .int .u32 h02] 138 (0, 0))] []) [(pb, .cells #[.slice qa0 na0 ca0, .int .i64 h01, .int .u32 h02] 138 (0, 0))] [] [(aB qa0, aO qa0, RU8.enc h00)] w) (hna0 : h00.length = na0) (hqa0 : AOK na0 qa0) (hla0 : na0 ≤ ca0) {res : m_laurelkit_Heap_Once_R} (hm : m_laurelkit_Heap_Once h00 h01 h02 n1 = some res) :
    Calls Try.prog 85 #[ptr pb 0, .int .i64 n1] w (fun en w' => ∃ l : Unit, en = .returned (.bool res.r0) ∧ (True) ∧ HV w (keys [(pb, .cells #[.slice qa0 na0 ca0, .int .i64 h01, .int .u32 h02] 138 (0, 0))] []) [(pb, .cells #[.slice qa0 na0 ca0, .int .i64 res.h0_1, .int .u32 res.h0_2] 138 (0, 0))] [] [] w') := by
  unfold m_laurelkit_Heap_Once at hm
  refine g_enter (args := [ptr pb 0, .int .i64 n1]) Try.func85 rfl Try.ntmps85 rfl (e := [(0, _), (1, _)]) rfl (H := HV w (keys [(pb, .cells #[.slice qa0 na0 ca0, .int .i64 h01, .int .u32 h02] 138 (0, 0))] []) [(pb, .cells #[.slice qa0 na0 ca0, .int .i64 h01, .int .u32 h02] 138 (0, 0))] [] [(aB qa0, aO qa0, RU8.enc h00)]) hw ?_
  refine g_seq ?_
  refine g_region ?_
  refine g_val rfl rfl rfl (fun _ _ => v_assign rfl) ?_
  refine g_nil ?_
  refine g_n_then ?_
  refine g_seq ?_
  refine g_region ?_
  refine g_val rfl rfl rfl (fun _ _ => v_move rfl) ?_
  refine g_val rfl rfl rfl (fun _ _ => v_move rfl) ?_
  obtain ⟨t7, h1, hm⟩ := bindO hm
  refine g_val rfl rfl rfl (fun _ _ => v_subc h1 rfl rfl) ?_
  obtain ⟨t8, h2, hm⟩ := bindO hm
  refine g_callH [_] [] rfl rfl rfl rfl rfl rfl rfl (fun a w => Try.call64 a w) (fun w hh => c_laurelkit_Heap_Upto h00 h01 h02 t7 pb qa0 na0 ca0 w (HV.callee (S0 := [_]) (vs0 := []) hh (roC (hh.rsep (S0 := [_]) (vs0 := []) 0 rfl) roN)) hna0 hqa0 hla0 h2) (fun l h3 => ?_)
  refine g_sel (S' := [_]) (vs' := []) [0] [] 0 (by decide) (by decide) rfl rfl rfl ?_
  refine g_val rfl rfl rfl (fun _ _ => v_eql rfl rfl) ?_
  refine g_val rfl rfl rfl (fun _ _ => v_assign rfl) ?_
  refine g_nil ?_
  refine g_n_then ?_
  refine g_ret ?_
  obtain rfl := Option.some.inj hm
  refine g_done rfl (fun w hh => (.tmp rfl .nil)) (fun w hh => ⟨(), rfl, trivial, hh.sel [0] [] 1 (by decide) (by decide) rfl rfl rfl⟩)
end Go.Proofs.Wk
namespace Go.Proofs.Wk
open Go Go.Fw Go.Gx Go.Pl
set_option linter.unusedVariables false
structure m_laurellaw01_Made_R where
  r0 : Sands
  b0_1 : Int
  b0_2 : Int
structure m_laurellaw01_Made_C0 where
  b0_1 : Int
  b0_2 : Int
  s7_table : (List Water)
structure m_laurellaw01_Made_S0 where
  at8 : Int
  t23 : Int
  b0_1 : Int
  b0_2 : Int
  s7_table : (List Water)
def m_laurellaw01_Made_L0 (t22 : m_laurelkit_Heap_From_R) (b00 : (List Int)) (s : m_laurellaw01_Made_S0) : Option (m_laurellaw01_Made_S0 ⊕ m_laurellaw01_Made_C0) :=
 if s.t23 < t22.r0 then
 ((m_laurelkit_Heap_Upto b00 s.b0_1 s.b0_2 60).bind fun t29 =>
 (appc 16 s.s7_table [(⟨s.at8, t29.r0⟩ : Water)]).bind fun t32 =>
 (m_laurelkit_Heap_From b00 t29.h0_1 t29.h0_2 1 30).bind fun t36 =>
 (addc s.at8 t36.r0).bind fun t37 =>
 (addc s.t23 1).bind fun t38 =>
 some (.inl (⟨t37, t38, t36.h0_1, t36.h0_2, t32⟩ : m_laurellaw01_Made_S0))) else
 (some (.inr (⟨s.b0_1, s.b0_2, s.s7_table⟩ : m_laurellaw01_Made_C0)))
structure m_laurellaw01_Made_C1 where
  b0_1 : Int
  b0_2 : Int
  s7_floors : (List Int)
structure m_laurellaw01_Made_S1 where
  t42 : Int
  b0_1 : Int
  b0_2 : Int
  s7_floors : (List Int)
def m_laurellaw01_Made_L1 (t41 : m_laurelkit_Heap_From_R) (b00 : (List Int)) (s_1 : m_laurellaw01_Made_S1) : Option (m_laurellaw01_Made_S1 ⊕ m_laurellaw01_Made_C1) :=
 if s_1.t42 < t41.r0 then
 ((m_laurelkit_Heap_Upto b00 s_1.b0_1 s_1.b0_2 50).bind fun t47 =>
 (appc 8 s_1.s7_floors [t47.r0]).bind fun t49 =>
 (addc s_1.t42 1).bind fun t51 =>
 some (.inl (⟨t51, t47.h0_1, t47.h0_2, t49⟩ : m_laurellaw01_Made_S1))) else
 (some (.inr (⟨s_1.b0_1, s_1.b0_2, s_1.s7_floors⟩ : m_laurellaw01_Made_C1)))
structure m_laurellaw01_Made_C2 where
  b0_1 : Int
  b0_2 : Int
  s7_sills : (List Sill)
structure m_laurellaw01_Made_S2 where
  t55 : Int
  b0_1 : Int
  b0_2 : Int
  s7_sills : (List Sill)
structure m_laurellaw01_Made_C3 where
  b0_1 : Int
  b0_2 : Int
  s7_sills : (List Sill)
structure m_laurellaw01_Made_C4 where
  x11_a : Int
  x11_b : Int
  b0_1 : Int
  b0_2 : Int
structure m_laurellaw01_Made_C5 where
  x11_a : Int
  x11_b : Int
  b0_1 : Int
  b0_2 : Int
def m_laurellaw01_Made_L2 (t54 : m_laurelkit_Heap_Upto_R) (o_1 : m_laurellaw01_Made_C1) (b00 : (List Int)) (s_2 : m_laurellaw01_Made_S2) : Option (m_laurellaw01_Made_S2 ⊕ m_laurellaw01_Made_C2) :=
 if s_2.t55 < t54.r0 then
 (((subc (o_1.s7_floors.length : Int) 1).bind fun t62 =>
 (subc (min s_2.t55 t62) 1).bind fun t66 =>
 (m_laurelkit_Heap_From b00 s_2.b0_1 s_2.b0_2 (-1) t66).bind fun t67 =>
 (m_laurelkit_Heap_Upto b00 t67.h0_1 t67.h0_2 50).bind fun t70 =>
 (if (o_1.s7_floors.length : Int) ≤ s_2.t55 then
 ((subc (o_1.s7_floors.length : Int) 1).bind fun t81 =>
 (subc (o_1.s7_floors.length : Int) 1).bind fun t87 =>
 (m_laurelkit_Heap_From b00 t70.h0_1 t70.h0_2 (-1) t81).bind fun t82 =>
 (m_laurelkit_Heap_Upto b00 t82.h0_1 t82.h0_2 t87).bind fun t88 =>
 some (⟨t82.r0, t88.r0, t88.h0_1, t88.h0_2⟩ : m_laurellaw01_Made_C4)) else
 (some (⟨t67.r0, (min s_2.t55 t62), t70.h0_1, t70.h0_2⟩ : m_laurellaw01_Made_C4))).bind fun o_4 =>
 ((m_laurelkit_Heap_Once b00 o_4.b0_1 o_4.b0_2 3).bind fun t92 =>
 if t92.r0 = true then
 (some (⟨o_4.x11_b, o_4.x11_a, t92.h0_1, t92.h0_2⟩ : m_laurellaw01_Made_C5)) else
 (some (⟨o_4.x11_a, o_4.x11_b, t92.h0_1, t92.h0_2⟩ : m_laurellaw01_Made_C5))).bind fun o_5 =>
 if o_5.x11_a = o_5.x11_b then
 (some (⟨o_5.b0_1, o_5.b0_2, s_2.s7_sills⟩ : m_laurellaw01_Made_C3)) else
 ((appc 24 s_2.s7_sills [(⟨o_5.x11_a, o_5.x11_b, t70.r0⟩ : Sill)]).bind fun t108 =>
 some (⟨o_5.b0_1, o_5.b0_2, t108⟩ : m_laurellaw01_Made_C3))).bind fun o_3 =>
 (addc s_2.t55 1).bind fun t110 =>
 some (.inl (⟨t110, o_3.b0_1, o_3.b0_2, o_3.s7_sills⟩ : m_laurellaw01_Made_S2))) else
 (some (.inr (⟨s_2.b0_1, s_2.b0_2, s_2.s7_sills⟩ : m_laurellaw01_Made_C2)))
def m_laurellaw01_Made (b00 : (List Int)) (b01 : Int) (b02 : Int) (places1 : Int) (sills2 : Int) : Option m_laurellaw01_Made_R :=
 (m_laurelkit_Heap_Upto b00 b01 b02 8).bind fun t13 =>
 (negc t13.r0).bind fun t14 =>
 (m_laurelkit_Heap_Upto b00 t13.h0_1 t13.h0_2 8).bind fun t16 =>
 (m_laurelkit_Heap_Upto b00 t16.h0_1 t16.h0_2 20).bind fun t20 =>
 (m_laurelkit_Heap_From b00 t20.h0_1 t20.h0_2 2 4).bind fun t22 =>
 (iterM FU (m_laurellaw01_Made_L0 t22 b00) (⟨t20.r0, 0, t22.h0_1, t22.h0_2, []⟩ : m_laurellaw01_Made_S0)).bind fun o =>
 (m_laurelkit_Heap_From b00 o.b0_1 o.b0_2 1 places1).bind fun t41 =>
 (iterM FU (m_laurellaw01_Made_L1 t41 b00) (⟨0, t41.h0_1, t41.h0_2, []⟩ : m_laurellaw01_Made_S1)).bind fun o_1 =>
 (m_laurelkit_Heap_Upto b00 o_1.b0_1 o_1.b0_2 sills2).bind fun t54 =>
 (iterM FU (m_laurellaw01_Made_L2 t54 o_1 b00) (⟨0, t54.h0_1, t54.h0_2, []⟩ : m_laurellaw01_Made_S2)).bind fun o_2 =>
 some (⟨(⟨o.s7_table, (⟨t14, t16.r0⟩ : Span), o_1.s7_floors, o_2.s7_sills⟩ : Sands), o_2.b0_1, o_2.b0_2⟩ : m_laurellaw01_Made_R)
set_option maxRecDepth 100000 in
set_option maxHeartbeats 4000000 in
theorem c_laurellaw01_Made (b00 : (List Int)) (b01 : Int) (b02 : Int) (places1 : Int) (sills2 : Int) (pb : Nat) (qa0 : Option Addr) (na0 ca0 : Nat) (w : World) (hw : HV w (keys [(pb, .cells #[.slice qa0 na0 ca0, .int .i64 b01, .int .u32 b02] 138 (0, 0))] []) [(pb, .cells #[.slice qa0 na0 ca0, .int .i64 b01, .int .u32 b02] 138 (0, 0))] [] [(aB qa0, aO qa0, RU8.enc b00)] w) (hna0 : b00.length = na0) (hqa0 : AOK na0 qa0) (hla0 : na0 ≤ ca0) {res : m_laurellaw01_Made_R} (hm : m_laurellaw01_Made b00 b01 b02 places1 sills2 = some res) :
    Calls Try.prog 18 #[ptr pb 0, .int .i64 places1, .int .i64 sills2] w (fun en w' => ∃ l : VL × VL × VL, en = .returned (.agg #[slv l.1.q l.1.n l.1.cap, .int .i64 res.r0.wind.lo, .int .i64 res.r0.wind.hi, slv l.2.1.q l.2.1.n l.2.1.cap, slv l.2.2.q l.2.2.n l.2.2.cap]) ∧ (VOK 2 l.1.n l.1.cap (RW.enc res.r0.table) l.1.sp l.1.q ∧ VOK 1 l.2.1.n l.2.1.cap (RI.enc res.r0.floors) l.2.1.sp l.2.1.q ∧ VOK 3 l.2.2.n l.2.2.cap (RS.enc res.r0.sills) l.2.2.sp l.2.2.q) ∧ HV w (keys [(pb, .cells #[.slice qa0 na0 ca0, .int .i64 b01, .int .u32 b02] 138 (0, 0))] []) [(pb, .cells #[.slice qa0 na0 ca0, .int .i64 res.b0_1, .int .u32 res.b0_2] 138 (0, 0))] [⟨68, RW.enc res.r0.table, l.1.sp, l.1.q⟩, ⟨3, RI.enc res.r0.floors, l.2.1.sp, l.2.1.q⟩, ⟨51, RS.enc res.r0.sills, l.2.2.sp, l.2.2.q⟩] [] w') := by
  unfold m_laurellaw01_Made at hm
  refine g_enter (args := [ptr pb 0, .int .i64 places1, .int .i64 sills2]) Try.func18 rfl Try.ntmps18 rfl (e := [(0, _), (1, _), (2, _)]) rfl (H := HV w (keys [(pb, .cells #[.slice qa0 na0 ca0, .int .i64 b01, .int .u32 b02] 138 (0, 0))] []) [(pb, .cells #[.slice qa0 na0 ca0, .int .i64 b01, .int .u32 b02] 138 (0, 0))] [] [(aB qa0, aO qa0, RU8.enc b00)]) hw ?_
  refine g_seq ?_
  refine g_region ?_
  refine g_allocV (fun w => Try.zeroValue29 w) rfl (fun b h4 => ?_)
  refine g_nil ?_
  refine g_n_then ?_
  refine g_seq ?_
  refine g_region ?_
  refine g_val rfl rfl rfl (fun _ _ => v_move rfl) ?_
  obtain ⟨t13, h5, hm⟩ := bindO hm
  refine g_sel (S' := [_, _]) (vs' := []) [1, 0] [] 0 (by decide) (by decide) rfl rfl rfl ?_
  refine g_callH [_] [] rfl rfl rfl rfl rfl rfl rfl (fun a w => Try.call64 a w) (fun w hh => c_laurelkit_Heap_Upto b00 b01 b02 8 pb qa0 na0 ca0 w (HV.callee (S0 := [_]) (vs0 := []) hh (roC (hh.rsep (S0 := [_]) (vs0 := []) 0 rfl) roN)) hna0 hqa0 hla0 h5) (fun l h6 => ?_)
  refine g_sel (S' := [_, _]) (vs' := []) [0, 1] [] 0 (by decide) (by decide) rfl rfl rfl ?_
  obtain ⟨t14, h7, hm⟩ := bindO hm
  refine g_val rfl rfl rfl (fun _ _ => v_negc h7 rfl) ?_
  refine g_val rfl rfl rfl (fun _ _ => v_move rfl) ?_
  obtain ⟨t16, h8, hm⟩ := bindO hm
  refine g_callH [_] [] rfl rfl rfl rfl rfl rfl rfl (fun a w => Try.call64 a w) (fun w hh => c_laurelkit_Heap_Upto b00 t13.h0_1 t13.h0_2 8 pb qa0 na0 ca0 w (HV.callee (S0 := [_]) (vs0 := []) hh (roC (hh.rsep (S0 := [_]) (vs0 := []) 0 rfl) roN)) hna0 hqa0 hla0 h8) (fun l_1 h9 => ?_)
  refine g_sel (S' := [_, _]) (vs' := []) [0, 1] [] 0 (by decide) (by decide) rfl rfl rfl ?_
  refine g_val rfl rfl rfl (fun _ _ => v_build (vs := [(0, _), (1, _)]) (cells := [_, _]) rfl rfl) ?_
  refine g_val rfl rfl rfl (fun _ _ => v_build (vs := [(1, _)]) (cells := [_, _, _, _, _]) rfl rfl) ?_
  refine g_allocV (fun w => Try.zeroValue29 w) rfl (fun b_1 h10 => ?_)
  refine g_stSA (us := #[_, _, _, _, _]) (cs' := [_, _, _, _, _]) (S' := [_, _, _]) 0 (fun w => Try.sizeOf29 w) rfl rfl rfl rfl rfl rfl rfl ?_
  refine g_nil ?_
  refine g_n_then ?_
  refine g_seq ?_
  refine g_region ?_
  refine g_val rfl rfl rfl (fun _ _ => v_move rfl) ?_
  obtain ⟨t20, h11, hm⟩ := bindO hm
  refine g_sel (S' := [_, _, _]) (vs' := []) [1, 0, 2] [] 0 (by decide) (by decide) rfl rfl rfl ?_
  refine g_callH [_] [] rfl rfl rfl rfl rfl rfl rfl (fun a w => Try.call64 a w) (fun w hh => c_laurelkit_Heap_Upto b00 t16.h0_1 t16.h0_2 20 pb qa0 na0 ca0 w (HV.callee (S0 := [_]) (vs0 := []) hh (roC (hh.rsep (S0 := [_]) (vs0 := []) 0 rfl) roN)) hna0 hqa0 hla0 h11) (fun l_2 h12 => ?_)
  refine g_sel (S' := [_, _, _]) (vs' := []) [0, 1, 2] [] 0 (by decide) (by decide) rfl rfl rfl ?_
  refine g_val rfl rfl rfl (fun _ _ => v_assign rfl) ?_
  refine g_nil ?_
  refine g_n_then ?_
  refine g_seq ?_
  refine g_seq ?_
  refine g_region ?_
  refine g_val rfl rfl rfl (fun _ _ => v_move rfl) ?_
  obtain ⟨t22, h13, hm⟩ := bindO hm
  refine g_callH [_] [] rfl rfl rfl rfl rfl rfl rfl (fun a w => Try.call20 a w) (fun w hh => c_laurelkit_Heap_From b00 t20.h0_1 t20.h0_2 2 4 pb qa0 na0 ca0 w (HV.callee (S0 := [_]) (vs0 := []) hh (roC (hh.rsep (S0 := [_]) (vs0 := []) 0 rfl) roN)) hna0 hqa0 hla0 h13) (fun l_3 h14 => ?_)
  refine g_sel (S' := [_, _, _]) (vs' := []) [0, 1, 2] [] 0 (by decide) (by decide) rfl rfl rfl ?_
  refine g_val rfl rfl rfl (fun _ _ => v_move rfl) ?_
  refine g_nil ?_
  refine g_n_then ?_
  refine g_vnil 68 ?_
  obtain ⟨o, h15, h16⟩ := bindO hm
  refine g_cut (ι := VL) (fun l_4 => VOK 2 l_4.n l_4.cap (RW.enc o.s7_table) l_4.sp l_4.q) (fun l_4 => [(0, ptr pb 0), (1, .int .i64 places1), (2, .int .i64 sills2), (6, ptr b 0), (7, ptr b_1 0)]) (fun l_4 => [(pb, .cells #[.slice qa0 na0 ca0, .int .i64 o.b0_1, .int .u32 o.b0_2] 138 (0, 0)), (b_1, .cells #[slv l_4.q l_4.n l_4.cap, .int .i64 t14, .int .i64 t16.r0, slv none 0 0, slv none 0 0] 29 (0, 0)), (b, .cells #[slv none 0 0, .int .i64 0, .int .i64 0, slv none 0 0, slv none 0 0] 29 (0, 0))]) (fun l_4 => [⟨68, RW.enc o.s7_table, l_4.sp, l_4.q⟩]) ?_ ?_
  ·replace hm := h15
   refine g_block ?_
   refine g_loopF (ι := VL) hm (fun s l_5 => VOK 2 l_5.n l_5.cap (RW.enc s.s7_table) l_5.sp l_5.q) (fun s l_5 => [(0, ptr pb 0), (1, .int .i64 places1), (2, .int .i64 sills2), (6, ptr b 0), (7, ptr b_1 0), (8, .int .i64 s.at8), (22, .int .i64 t22.r0), (23, .int .i64 s.t23)]) (fun s l_5 => [(pb, .cells #[.slice qa0 na0 ca0, .int .i64 s.b0_1, .int .u32 s.b0_2] 138 (0, 0)), (b_1, .cells #[slv l_5.q l_5.n l_5.cap, .int .i64 t14, .int .i64 t16.r0, slv none 0 0, slv none 0 0] 29 (0, 0)), (b, .cells #[slv none 0 0, .int .i64 0, .int .i64 0, slv none 0 0, slv none 0 0] 29 (0, 0))]) (fun s l_5 => [⟨68, RW.enc s.s7_table, l_5.sp, l_5.q⟩]) ⟨none, 0, 0, []⟩ (VOK.nil) ((.cons rfl (.cons rfl (.cons rfl (.cons rfl (.cons rfl (.cons rfl (.cons rfl (.cons rfl .nil))))))))) (fun w hh => hh) (fun s l_5 r hpl hm h19 => ?_)
   have h18 := hpl
   unfold m_laurellaw01_Made_L0 at hm
   refine g_seq ?_
   refine g_region ?_
   refine g_val rfl rfl rfl (fun _ _ => v_lss rfl rfl) ?_
   refine g_nil ?_
   refine g_n_then ?_
   refine g_seq ?_
   refine g_cond rfl (fun h20 => ?_) (fun h20 => ?_)
   ·replace hm := ifT (of_decide_eq_true h20) hm
    refine g_skip ?_
    refine g_n_then ?_
    refine g_seq ?_
    refine g_block ?_
    refine g_seq ?_
    refine g_draw (some 9) (.free 0 (.hoist 1 (.free 2 (.free 3 (.one 4 (.free 5 (.one 6 (.one 7 (.free 8 (.last 9 .done)))))))))) (HV _ _ [(b_1, .cells #[slv l_5.q l_5.n l_5.cap, .int .i64 t14, .int .i64 t16.r0, slv none 0 0, slv none 0 0] 29 (0, 0)), (b, .cells #[slv none 0 0, .int .i64 0, .int .i64 0, slv none 0 0, slv none 0 0] 29 (0, 0))] [] _) rfl (by decide +kernel) (fun w k hh => hh.draw k) (fun w hh => hh.sel [1, 2] [] 0 (by decide) (by decide) rfl rfl rfl) ?_
    refine p_free rfl rfl rfl rfl (fun w _ => v_fieldAddr 0 (Try.runUnderlying29 w) rfl (Try.sizeOf23 w) rfl) ?_
    refine p_hoist rfl rfl rfl rfl (fun w hh => v_load (Try.isAgg23 w) rfl (hh.cell 0 rfl rfl)) ?_
    refine p_free rfl rfl rfl rfl (fun _ _ => v_move rfl) ?_
    refine p_free rfl rfl rfl rfl (fun _ _ => v_move rfl) ?_
    refine p_one rfl ?_
    obtain ⟨t29, h21, hm⟩ := bindO hm
    refine g_callH [_] [] rfl rfl rfl rfl rfl rfl rfl (fun a w => Try.call64 a w) (fun w hh => c_laurelkit_Heap_Upto b00 s.b0_1 s.b0_2 60 pb qa0 na0 ca0 w (HV.callee (S0 := [_]) (vs0 := []) hh (roC (hh.rsep (S0 := [_]) (vs0 := []) 0 rfl) roN)) hna0 hqa0 hla0 h21) (fun l_6 h22 => ?_)
    refine g_sel (S' := [_, _, _]) (vs' := [_]) [0, 1, 2] [0] 0 (by decide) (by decide) rfl rfl rfl ?_
    refine p_next (fun w hh => hh.sel [1, 2] [] 0 (by decide) (by decide) rfl rfl rfl) ?_
    refine p_free rfl rfl rfl rfl (fun _ _ => v_build (vs := [(0, _), (1, _)]) (cells := [_, _]) rfl rfl) ?_
    refine p_one rfl ?_
    refine g_vlit RW [(⟨s.at8, t29.r0⟩ : Water)] (ps := [(0, _)]) (cells := [_, _]) (fun w => Try.runUnderlying23 w) (fun w => Try.sizeOf68 w) (fun w => Try.zeroValue68 w) rfl rfl rfl rfl rfl rfl rfl rfl (fun L h23 => ?_)
    refine p_next (fun w hh => hh.sel [1, 2] [] 0 (by decide) (by decide) rfl rfl rfl) ?_
    refine p_one rfl ?_
    obtain ⟨t32, h24, hm⟩ := bindO hm
    refine g_vapp RW 1 h24 Try.underlying23 gxinf68 rfl rfl rfl rfl rfl h18 rfl rfl (vlen RW h23 rfl) (AOK.q (vne h23)) (fun w hh => (hh.vsegA 0 rfl h23)) rfl (fun L_1 h25 h25n => ?_)
    refine g_sel (S' := [_, _, _]) (vs' := [_, _]) [0, 1, 2] [0, 1] 0 (by decide) (by decide) rfl rfl rfl ?_
    refine p_next (fun w hh => hh.sel [1, 2] [] 0 (by decide) (by decide) rfl rfl rfl) ?_
    refine p_free rfl rfl rfl rfl (fun w _ => v_fieldAddr 0 (Try.runUnderlying29 w) rfl (Try.sizeOf23 w) rfl) ?_
    refine p_last rfl ?_
    refine g_stS (cs' := #[_, _, _, _, _]) (S' := [_, _, _]) 1 (fun w => Try.sizeOf23 w) rfl rfl rfl rfl rfl rfl rfl ?_
    refine p_nextL ?_
    refine p_done ?_
    refine g_n_then ?_
    refine g_region ?_
    refine g_val rfl rfl rfl (fun _ _ => v_move rfl) ?_
    refine g_val rfl rfl rfl (fun _ _ => v_move rfl) ?_
    obtain ⟨t36, h26, hm⟩ := bindO hm
    refine g_callH [_] [] rfl rfl rfl rfl rfl rfl rfl (fun a w => Try.call20 a w) (fun w hh => c_laurelkit_Heap_From b00 t29.h0_1 t29.h0_2 1 30 pb qa0 na0 ca0 w (HV.callee (S0 := [_]) (vs0 := []) hh (roC (hh.rsep (S0 := [_]) (vs0 := []) 0 rfl) roN)) hna0 hqa0 hla0 h26) (fun l_7 h27 => ?_)
    refine g_sel (S' := [_, _, _]) (vs' := [_, _]) [0, 1, 2] [0, 1] 0 (by decide) (by decide) rfl rfl rfl ?_
    obtain ⟨t37, h28, hm⟩ := bindO hm
    refine g_val rfl rfl rfl (fun _ _ => v_addc h28 rfl rfl) ?_
    refine g_val rfl rfl rfl (fun _ _ => v_assign rfl) ?_
    refine g_nil ?_
    refine g_n_blk ?_
    refine g_n_then ?_
    refine g_region ?_
    obtain ⟨t38, h29, hm⟩ := bindO hm
    refine g_val rfl rfl rfl (fun _ _ => v_addc h29 rfl rfl) ?_
    refine g_val rfl rfl rfl (fun _ _ => v_move rfl) ?_
    refine g_nil ?_
    obtain rfl := Option.some.inj hm
    refine g_n_then ?_
    exact g_again' _ L_1 rfl (h25) ((.cons rfl (.cons rfl (.cons rfl (.cons rfl (.cons rfl (.cons rfl (.cons rfl (.cons rfl .nil))))))))) (fun w hh => hh.sel [0, 1, 2] [1] 0 (by decide) (by decide) rfl rfl rfl)
   ·replace hm := ifF (of_decide_eq_false h20) hm
    refine g_exit ?_
    refine g_x_then ?_
    refine g_x_then ?_
    refine g_x_blk ?_
    obtain rfl := Option.some.inj hm
    have hbo := h19 _ rfl
    subst hbo
    exact g_leaf l_5 (h18) ((.cons rfl (.cons rfl (.cons rfl (.cons rfl (.cons rfl .nil)))))) (fun w hh => hh)
  ·intro l_4 hj
   have h17 := hj
   replace hm := h16
   refine g_n_then ?_
   refine g_seq ?_
   refine g_seq ?_
   refine g_region ?_
   refine g_val rfl rfl rfl (fun _ _ => v_move rfl) ?_
   refine g_val rfl rfl rfl (fun _ _ => v_move rfl) ?_
   obtain ⟨t41, h30, hm⟩ := bindO hm
   refine g_callH [_] [] rfl rfl rfl rfl rfl rfl rfl (fun a w => Try.call20 a w) (fun w hh => c_laurelkit_Heap_From b00 o.b0_1 o.b0_2 1 places1 pb qa0 na0 ca0 w (HV.callee (S0 := [_]) (vs0 := []) hh (roC (hh.rsep (S0 := [_]) (vs0 := []) 0 rfl) roN)) hna0 hqa0 hla0 h30) (fun l_8 h31 => ?_)
   refine g_sel (S' := [_, _, _]) (vs' := [_]) [0, 1, 2] [0] 0 (by decide) (by decide) rfl rfl rfl ?_
   refine g_val rfl rfl rfl (fun _ _ => v_move rfl) ?_
   refine g_nil ?_
   refine g_n_then ?_
   refine g_vnil 3 ?_
   obtain ⟨o_1, h32, h33⟩ := bindO hm
   refine g_cut (ι := VL) (fun l_9 => VOK 1 l_9.n l_9.cap (RI.enc o_1.s7_floors) l_9.sp l_9.q) (fun l_9 => [(0, ptr pb 0), (2, .int .i64 sills2), (6, ptr b 0), (7, ptr b_1 0)]) (fun l_9 => [(pb, .cells #[.slice qa0 na0 ca0, .int .i64 o_1.b0_1, .int .u32 o_1.b0_2] 138 (0, 0)), (b_1, .cells #[slv l_4.q l_4.n l_4.cap, .int .i64 t14, .int .i64 t16.r0, slv l_9.q l_9.n l_9.cap, slv none 0 0] 29 (0, 0)), (b, .cells #[slv none 0 0, .int .i64 0, .int .i64 0, slv none 0 0, slv none 0 0] 29 (0, 0))]) (fun l_9 => [⟨68, RW.enc o.s7_table, l_4.sp, l_4.q⟩, ⟨3, RI.enc o_1.s7_floors, l_9.sp, l_9.q⟩]) ?_ ?_
   ·replace hm := h32
    refine g_block ?_
    refine g_loopF (ι := VL) hm (fun s_1 l_10 => VOK 1 l_10.n l_10.cap (RI.enc s_1.s7_floors) l_10.sp l_10.q) (fun s_1 l_10 => [(0, ptr pb 0), (2, .int .i64 sills2), (6, ptr b 0), (7, ptr b_1 0), (41, .int .i64 t41.r0), (42, .int .i64 s_1.t42)]) (fun s_1 l_10 => [(pb, .cells #[.slice qa0 na0 ca0, .int .i64 s_1.b0_1, .int .u32 s_1.b0_2] 138 (0, 0)), (b_1, .cells #[slv l_4.q l_4.n l_4.cap, .int .i64 t14, .int .i64 t16.r0, slv l_10.q l_10.n l_10.cap, slv none 0 0] 29 (0, 0)), (b, .cells #[slv none 0 0, .int .i64 0, .int .i64 0, slv none 0 0, slv none 0 0] 29 (0, 0))]) (fun s_1 l_10 => [⟨68, RW.enc o.s7_table, l_4.sp, l_4.q⟩, ⟨3, RI.enc s_1.s7_floors, l_10.sp, l_10.q⟩]) ⟨none, 0, 0, []⟩ (VOK.nil) ((.cons rfl (.cons rfl (.cons rfl (.cons rfl (.cons rfl (.cons rfl .nil))))))) (fun w hh => hh.sel [0, 1, 2] [1, 0] 0 (by decide) (by decide) rfl rfl rfl) (fun s_1 l_10 r_1 hpl hm h36 => ?_)
    have h35 := hpl
    unfold m_laurellaw01_Made_L1 at hm
    refine g_seq ?_
    refine g_region ?_
    refine g_val rfl rfl rfl (fun _ _ => v_lss rfl rfl) ?_
    refine g_nil ?_
    refine g_n_then ?_
    refine g_seq ?_
    refine g_cond rfl (fun h37 => ?_) (fun h37 => ?_)
    ·replace hm := ifT (of_decide_eq_true h37) hm
     refine g_skip ?_
     refine g_n_then ?_
     refine g_seq ?_
     refine g_block ?_
     refine g_draw (some 7) (.free 0 (.hoist 1 (.free 2 (.one 3 (.one 4 (.one 5 (.free 6 (.last 7 .done)))))))) (HV _ _ [(b_1, .cells #[slv l_4.q l_4.n l_4.cap, .int .i64 t14, .int .i64 t16.r0, slv l_10.q l_10.n l_10.cap, slv none 0 0] 29 (0, 0)), (b, .cells #[slv none 0 0, .int .i64 0, .int .i64 0, slv none 0 0, slv none 0 0] 29 (0, 0))] [⟨68, RW.enc o.s7_table, l_4.sp, l_4.q⟩] _) rfl (by decide +kernel) (fun w k hh => hh.draw k) (fun w hh => hh.sel [1, 2] [0] 0 (by decide) (by decide) rfl rfl rfl) ?_
     refine p_free rfl rfl rfl rfl (fun w _ => v_fieldAddr 3 (Try.runUnderlying29 w) rfl (Try.sizeOf26 w) rfl) ?_
     refine p_hoist rfl rfl rfl rfl (fun w hh => v_load (Try.isAgg26 w) rfl (hh.cell 0 rfl rfl)) ?_
     refine p_free rfl rfl rfl rfl (fun _ _ => v_move rfl) ?_
     refine p_one rfl ?_
     obtain ⟨t47, h38, hm⟩ := bindO hm
     refine g_callH [_] [] rfl rfl rfl rfl rfl rfl rfl (fun a w => Try.call64 a w) (fun w hh => c_laurelkit_Heap_Upto b00 s_1.b0_1 s_1.b0_2 50 pb qa0 na0 ca0 w (HV.callee (S0 := [_]) (vs0 := []) hh (roC (hh.rsep (S0 := [_]) (vs0 := []) 0 rfl) roN)) hna0 hqa0 hla0 h38) (fun l_11 h39 => ?_)
     refine g_sel (S' := [_, _, _]) (vs' := [_, _]) [0, 1, 2] [0, 1] 0 (by decide) (by decide) rfl rfl rfl ?_
     refine p_next (fun w hh => hh.sel [1, 2] [0] 0 (by decide) (by decide) rfl rfl rfl) ?_
     refine p_one rfl ?_
     refine g_vlit RI [t47.r0] (ps := [(0, _)]) (cells := [_]) (fun w => Try.runUnderlying26 w) (fun w => Try.sizeOf3 w) (fun w => Try.zeroValue3 w) rfl rfl rfl rfl rfl rfl rfl rfl (fun L_2 h40 => ?_)
     refine p_next (fun w hh => hh.sel [1, 2] [1] 0 (by decide) (by decide) rfl rfl rfl) ?_
     refine p_one rfl ?_
     obtain ⟨t49, h41, hm⟩ := bindO hm
     refine g_vapp RI 2 h41 Try.underlying26 gxinf3 rfl rfl rfl rfl rfl h35 rfl rfl (vlen RI h40 rfl) (AOK.q (vne h40)) (fun w hh => (hh.vsegA 0 rfl h40)) rfl (fun L_3 h42 h42n => ?_)
     refine g_sel (S' := [_, _, _]) (vs' := [_, _, _]) [0, 1, 2] [0, 1, 2] 0 (by decide) (by decide) rfl rfl rfl ?_
     refine p_next (fun w hh => hh.sel [1, 2] [1] 0 (by decide) (by decide) rfl rfl rfl) ?_
     refine p_free rfl rfl rfl rfl (fun w _ => v_fieldAddr 3 (Try.runUnderlying29 w) rfl (Try.sizeOf26 w) rfl) ?_
     refine p_last rfl ?_
     refine g_stS (cs' := #[_, _, _, _, _]) (S' := [_, _, _]) 1 (fun w => Try.sizeOf26 w) rfl rfl rfl rfl rfl rfl rfl ?_
     refine p_nextL ?_
     refine p_done ?_
     refine g_n_blk ?_
     refine g_n_then ?_
     refine g_region ?_
     obtain ⟨t51, h43, hm⟩ := bindO hm
     refine g_val rfl rfl rfl (fun _ _ => v_addc h43 rfl rfl) ?_
     refine g_val rfl rfl rfl (fun _ _ => v_move rfl) ?_
     refine g_nil ?_
     obtain rfl := Option.some.inj hm
     refine g_n_then ?_
     exact g_again' _ L_3 rfl (h42) ((.cons rfl (.cons rfl (.cons rfl (.cons rfl (.cons rfl (.cons rfl .nil))))))) (fun w hh => hh.sel [0, 1, 2] [1, 2] 0 (by decide) (by decide) rfl rfl rfl)
    ·replace hm := ifF (of_decide_eq_false h37) hm
     refine g_exit ?_
     refine g_x_then ?_
     refine g_x_then ?_
     refine g_x_blk ?_
     obtain rfl := Option.some.inj hm
     have hbo := h36 _ rfl
     subst hbo
     exact g_leaf l_10 (h35) ((.cons rfl (.cons rfl (.cons rfl (.cons rfl .nil))))) (fun w hh => hh)
   ·intro l_9 hj
    have h34 := hj
    replace hm := h33
    refine g_n_then ?_
    refine g_seq ?_
    refine g_seq ?_
    refine g_region ?_
    refine g_val rfl rfl rfl (fun _ _ => v_move rfl) ?_
    refine g_val rfl rfl rfl (fun _ _ => v_move rfl) ?_
    obtain ⟨t54, h44, hm⟩ := bindO hm
    refine g_callH [_] [] rfl rfl rfl rfl rfl rfl rfl (fun a w => Try.call64 a w) (fun w hh => c_laurelkit_Heap_Upto b00 o_1.b0_1 o_1.b0_2 sills2 pb qa0 na0 ca0 w (HV.callee (S0 := [_]) (vs0 := []) hh (roC (hh.rsep (S0 := [_]) (vs0 := []) 0 rfl) roN)) hna0 hqa0 hla0 h44) (fun l_12 h45 => ?_)
    refine g_sel (S' := [_, _, _]) (vs' := [_, _]) [0, 1, 2] [0, 1] 0 (by decide) (by decide) rfl rfl rfl ?_
    refine g_val rfl rfl rfl (fun _ _ => v_move rfl) ?_
    refine g_nil ?_
    refine g_n_then ?_
    refine g_vnil 51 ?_
    obtain ⟨o_2, h46, h47⟩ := bindO hm
    refine g_cut (ι := VL) (fun l_13 => VOK 3 l_13.n l_13.cap (RS.enc o_2.s7_sills) l_13.sp l_13.q) (fun l_13 => [(6, ptr b 0), (7, ptr b_1 0)]) (fun l_13 => [(pb, .cells #[.slice qa0 na0 ca0, .int .i64 o_2.b0_1, .int .u32 o_2.b0_2] 138 (0, 0)), (b_1, .cells #[slv l_4.q l_4.n l_4.cap, .int .i64 t14, .int .i64 t16.r0, slv l_9.q l_9.n l_9.cap, slv l_13.q l_13.n l_13.cap] 29 (0, 0)), (b, .cells #[slv none 0 0, .int .i64 0, .int .i64 0, slv none 0 0, slv none 0 0] 29 (0, 0))]) (fun l_13 => [⟨68, RW.enc o.s7_table, l_4.sp, l_4.q⟩, ⟨3, RI.enc o_1.s7_floors, l_9.sp, l_9.q⟩, ⟨51, RS.enc o_2.s7_sills, l_13.sp, l_13.q⟩]) ?_ ?_
    ·replace hm := h46
     refine g_block ?_
     refine g_loopF (ι := VL) hm (fun s_2 l_14 => VOK 3 l_14.n l_14.cap (RS.enc s_2.s7_sills) l_14.sp l_14.q) (fun s_2 l_14 => [(0, ptr pb 0), (6, ptr b 0), (7, ptr b_1 0), (54, .int .i64 t54.r0), (55, .int .i64 s_2.t55)]) (fun s_2 l_14 => [(pb, .cells #[.slice qa0 na0 ca0, .int .i64 s_2.b0_1, .int .u32 s_2.b0_2] 138 (0, 0)), (b_1, .cells #[slv l_4.q l_4.n l_4.cap, .int .i64 t14, .int .i64 t16.r0, slv l_9.q l_9.n l_9.cap, slv l_14.q l_14.n l_14.cap] 29 (0, 0)), (b, .cells #[slv none 0 0, .int .i64 0, .int .i64 0, slv none 0 0, slv none 0 0] 29 (0, 0))]) (fun s_2 l_14 => [⟨68, RW.enc o.s7_table, l_4.sp, l_4.q⟩, ⟨3, RI.enc o_1.s7_floors, l_9.sp, l_9.q⟩, ⟨51, RS.enc s_2.s7_sills, l_14.sp, l_14.q⟩]) ⟨none, 0, 0, []⟩ (VOK.nil) ((.cons rfl (.cons rfl (.cons rfl (.cons rfl (.cons rfl .nil)))))) (fun w hh => hh.sel [0, 1, 2] [1, 2, 0] 0 (by decide) (by decide) rfl rfl rfl) (fun s_2 l_14 r_2 hpl hm h50 => ?_)
     have h49 := hpl
     unfold m_laurellaw01_Made_L2 at hm
     refine g_seq ?_
     refine g_region ?_
     refine g_val rfl rfl rfl (fun _ _ => v_lss rfl rfl) ?_
     refine g_nil ?_
     refine g_n_then ?_
     refine g_seq ?_
     refine g_cond rfl (fun h51 => ?_) (fun h51 => ?_)
     ·replace hm := ifT (of_decide_eq_true h51) hm
      refine g_skip ?_
      refine g_n_then ?_
      refine g_seq ?_
      obtain ⟨o_3, h52, h53⟩ := bindO hm
      refine g_cut (ι := VL) (fun l_15 => VOK 3 l_15.n l_15.cap (RS.enc o_3.s7_sills) l_15.sp l_15.q) (fun l_15 => [(0, ptr pb 0), (6, ptr b 0), (7, ptr b_1 0), (54, .int .i64 t54.r0), (55, .int .i64 s_2.t55)]) (fun l_15 => [(pb, .cells #[.slice qa0 na0 ca0, .int .i64 o_3.b0_1, .int .u32 o_3.b0_2] 138 (0, 0)), (b_1, .cells #[slv l_4.q l_4.n l_4.cap, .int .i64 t14, .int .i64 t16.r0, slv l_9.q l_9.n l_9.cap, slv l_15.q l_15.n l_15.cap] 29 (0, 0)), (b, .cells #[slv none 0 0, .int .i64 0, .int .i64 0, slv none 0 0, slv none 0 0] 29 (0, 0))]) (fun l_15 => [⟨68, RW.enc o.s7_table, l_4.sp, l_4.q⟩, ⟨3, RI.enc o_1.s7_floors, l_9.sp, l_9.q⟩, ⟨51, RS.enc o_3.s7_sills, l_15.sp, l_15.q⟩]) ?_ ?_
      ·replace hm := h52
       refine g_block ?_
       refine g_seq ?_
       refine g_region ?_
       refine g_val rfl rfl rfl (fun _ _ => v_move rfl) ?_
       refine g_val rfl rfl rfl (fun _ _ => v_assign rfl) ?_
       refine g_nil ?_
       refine g_n_then ?_
       refine g_seq ?_
       refine g_region ?_
       refine g_val rfl rfl rfl (fun _ _ => v_move rfl) ?_
       refine g_val rfl rfl rfl (fun w _ => v_fieldAddr 3 (Try.runUnderlying29 w) rfl (Try.sizeOf26 w) rfl) ?_
       refine g_val rfl rfl rfl (fun w hh => v_load (Try.isAgg26 w) rfl (hh.cell 1 rfl rfl)) ?_
       refine g_val rfl rfl rfl (fun w _ => v_lenN (vlen RI h34 rfl) (Try.runUnderlying26 w) rfl) ?_
       obtain ⟨t62, h55, hm⟩ := bindO hm
       refine g_val rfl rfl rfl (fun _ _ => v_subc h55 rfl rfl) ?_
       refine g_val rfl rfl rfl (fun _ _ => v_min rfl rfl) ?_
       refine g_val rfl rfl rfl (fun _ _ => v_assign rfl) ?_
       refine g_nil ?_
       refine g_n_then ?_
       refine g_seq ?_
       refine g_region ?_
       refine g_val rfl rfl rfl (fun _ _ => v_move rfl) ?_
       refine g_val rfl rfl rfl (fun _ _ => v_move rfl) ?_
       obtain ⟨t66, h56, hm⟩ := bindO hm
       refine g_val rfl rfl rfl (fun _ _ => v_subc h56 rfl rfl) ?_
       obtain ⟨t67, h57, hm⟩ := bindO hm
       refine g_callH [_] [] rfl rfl rfl rfl rfl rfl rfl (fun a w => Try.call20 a w) (fun w hh => c_laurelkit_Heap_From b00 s_2.b0_1 s_2.b0_2 (-1) t66 pb qa0 na0 ca0 w (HV.callee (S0 := [_]) (vs0 := []) hh (roC (hh.rsep (S0 := [_]) (vs0 := []) 0 rfl) roN)) hna0 hqa0 hla0 h57) (fun l_16 h58 => ?_)
       refine g_sel (S' := [_, _, _]) (vs' := [_, _, _]) [0, 1, 2] [0, 1, 2] 0 (by decide) (by decide) rfl rfl rfl ?_
       refine g_val rfl rfl rfl (fun _ _ => v_move rfl) ?_
       refine g_val rfl rfl rfl (fun _ _ => v_move rfl) ?_
       obtain ⟨t70, h59, hm⟩ := bindO hm
       refine g_callH [_] [] rfl rfl rfl rfl rfl rfl rfl (fun a w => Try.call64 a w) (fun w hh => c_laurelkit_Heap_Upto b00 t67.h0_1 t67.h0_2 50 pb qa0 na0 ca0 w (HV.callee (S0 := [_]) (vs0 := []) hh (roC (hh.rsep (S0 := [_]) (vs0 := []) 0 rfl) roN)) hna0 hqa0 hla0 h59) (fun l_17 h60 => ?_)
       refine g_sel (S' := [_, _, _]) (vs' := [_, _, _]) [0, 1, 2] [0, 1, 2] 0 (by decide) (by decide) rfl rfl rfl ?_
       refine g_val rfl rfl rfl (fun _ _ => v_build (vs := [(0, _), (1, _), (2, _)]) (cells := [_, _, _]) rfl rfl) ?_
       refine g_allocV (fun w => Try.zeroValue51 w) rfl (fun b_2 h61 => ?_)
       refine g_stSA (us := #[_, _, _]) (cs' := [_, _, _]) (S' := [_, _, _, _]) 0 (fun w => Try.sizeOf51 w) rfl rfl rfl rfl rfl rfl rfl ?_
       refine g_nil ?_
       refine g_n_then ?_
       refine g_seq ?_
       obtain ⟨o_4, h62, h63⟩ := bindO hm
       refine g_cut (ι := Unit) (fun l_18 => True) (fun l_18 => [(0, ptr pb 0), (6, ptr b 0), (7, ptr b_1 0), (11, ptr b_2 0), (54, .int .i64 t54.r0), (55, .int .i64 s_2.t55)]) (fun l_18 => [(b_2, .cells #[.int .i64 o_4.x11_a, .int .i64 o_4.x11_b, .int .i64 t70.r0] 51 (0, 0)), (pb, .cells #[.slice qa0 na0 ca0, .int .i64 o_4.b0_1, .int .u32 o_4.b0_2] 138 (0, 0)), (b_1, .cells #[slv l_4.q l_4.n l_4.cap, .int .i64 t14, .int .i64 t16.r0, slv l_9.q l_9.n l_9.cap, slv l_14.q l_14.n l_14.cap] 29 (0, 0)), (b, .cells #[slv none 0 0, .int .i64 0, .int .i64 0, slv none 0 0, slv none 0 0] 29 (0, 0))]) (fun l_18 => [⟨68, RW.enc o.s7_table, l_4.sp, l_4.q⟩, ⟨3, RI.enc o_1.s7_floors, l_9.sp, l_9.q⟩, ⟨51, RS.enc s_2.s7_sills, l_14.sp, l_14.q⟩]) ?_ ?_
       ·replace hm := h62
        refine g_seq ?_
        refine g_region ?_
        refine g_val rfl rfl rfl (fun _ _ => v_move rfl) ?_
        refine g_val rfl rfl rfl (fun w _ => v_fieldAddr 3 (Try.runUnderlying29 w) rfl (Try.sizeOf26 w) rfl) ?_
        refine g_val rfl rfl rfl (fun w hh => v_load (Try.isAgg26 w) rfl (hh.cell 2 rfl rfl)) ?_
        refine g_val rfl rfl rfl (fun w _ => v_lenN (vlen RI h34 rfl) (Try.runUnderlying26 w) rfl) ?_
        refine g_val rfl rfl rfl (fun _ _ => v_geq rfl rfl) ?_
        refine g_nil ?_
        refine g_n_then ?_
        refine g_cond rfl (fun h64 => ?_) (fun h64 => ?_)
        ·replace hm := ifT (of_decide_eq_true h64) hm
         refine g_draw none (.free 0 (.free 1 (.hoist 2 (.free 3 (.free 4 (.free 6 (.free 7 (.hoist 8 (.free 9 (.free 10 (.one 5 (.free 12 (.one 11 (.one 13 (.free 14 (.one 15 .done)))))))))))))))) (HV _ _ [(b_1, .cells #[slv l_4.q l_4.n l_4.cap, .int .i64 t14, .int .i64 t16.r0, slv l_9.q l_9.n l_9.cap, slv l_14.q l_14.n l_14.cap] 29 (0, 0)), (b, .cells #[slv none 0 0, .int .i64 0, .int .i64 0, slv none 0 0, slv none 0 0] 29 (0, 0))] [⟨68, RW.enc o.s7_table, l_4.sp, l_4.q⟩, ⟨3, RI.enc o_1.s7_floors, l_9.sp, l_9.q⟩, ⟨51, RS.enc s_2.s7_sills, l_14.sp, l_14.q⟩] _) rfl (by decide +kernel) (fun w k hh => hh.draw k) (fun w hh => hh.sel [2, 3] [0, 1, 2] 0 (by decide) (by decide) rfl rfl rfl) ?_
         refine p_free rfl rfl rfl rfl (fun _ _ => v_move rfl) ?_
         refine p_free rfl rfl rfl rfl (fun w _ => v_fieldAddr 3 (Try.runUnderlying29 w) rfl (Try.sizeOf26 w) rfl) ?_
         refine p_hoist rfl rfl rfl rfl (fun w hh => v_load (Try.isAgg26 w) rfl (hh.cell 0 rfl rfl)) ?_
         refine p_free rfl rfl rfl rfl (fun w _ => v_lenN (vlen RI h34 rfl) (Try.runUnderlying26 w) rfl) ?_
         obtain ⟨t81, h65, hm⟩ := bindO hm
         refine p_free rfl rfl rfl rfl (fun _ _ => v_subc h65 rfl rfl) ?_
         refine p_free rfl rfl rfl rfl (fun _ _ => v_move rfl) ?_
         refine p_free rfl rfl rfl rfl (fun w _ => v_fieldAddr 3 (Try.runUnderlying29 w) rfl (Try.sizeOf26 w) rfl) ?_
         refine p_hoist rfl rfl rfl rfl (fun w hh => v_load (Try.isAgg26 w) rfl (hh.cell 0 rfl rfl)) ?_
         refine p_free rfl rfl rfl rfl (fun w _ => v_lenN (vlen RI h34 rfl) (Try.runUnderlying26 w) rfl) ?_
         obtain ⟨t87, h66, hm⟩ := bindO hm
         refine p_free rfl rfl rfl rfl (fun _ _ => v_subc h66 rfl rfl) ?_
         refine p_one rfl ?_
         obtain ⟨t82, h67, hm⟩ := bindO hm
         refine g_sel (S' := [_, _, _, _]) (vs' := [_, _, _]) [1, 0, 2, 3] [0, 1, 2] 0 (by decide) (by decide) rfl rfl rfl ?_
         refine g_callH [_] [] rfl rfl rfl rfl rfl rfl rfl (fun a w => Try.call20 a w) (fun w hh => c_laurelkit_Heap_From b00 t70.h0_1 t70.h0_2 (-1) t81 pb qa0 na0 ca0 w (HV.callee (S0 := [_]) (vs0 := []) hh (roC (hh.rsep (S0 := [_]) (vs0 := []) 0 rfl) roN)) hna0 hqa0 hla0 h67) (fun l_19 h68 => ?_)
         refine g_sel (S' := [_, _, _, _]) (vs' := [_, _, _]) [0, 1, 2, 3] [0, 1, 2] 0 (by decide) (by decide) rfl rfl rfl ?_
         refine p_next (fun w hh => hh.sel [2, 3] [0, 1, 2] 0 (by decide) (by decide) rfl rfl rfl) ?_
         refine p_free rfl rfl rfl rfl (fun w _ => v_fieldAddr 0 (Try.runUnderlying51 w) rfl (Try.sizeOf3 w) rfl) ?_
         refine p_one rfl ?_
         obtain ⟨t88, h69, hm⟩ := bindO hm
         refine g_callH [_] [] rfl rfl rfl rfl rfl rfl rfl (fun a w => Try.call64 a w) (fun w hh => c_laurelkit_Heap_Upto b00 t82.h0_1 t82.h0_2 t87 pb qa0 na0 ca0 w (HV.callee (S0 := [_]) (vs0 := []) hh (roC (hh.rsep (S0 := [_]) (vs0 := []) 0 rfl) roN)) hna0 hqa0 hla0 h69) (fun l_20 h70 => ?_)
         refine g_sel (S' := [_, _, _, _]) (vs' := [_, _, _]) [0, 1, 2, 3] [0, 1, 2] 0 (by decide) (by decide) rfl rfl rfl ?_
         refine p_next (fun w hh => hh.sel [2, 3] [0, 1, 2] 0 (by decide) (by decide) rfl rfl rfl) ?_
         refine p_one rfl ?_
         refine g_stS (cs' := #[_, _, _]) (S' := [_, _, _, _]) 1 (fun w => Try.sizeOf3 w) rfl rfl rfl rfl rfl rfl rfl ?_
         refine p_next (fun w hh => hh.sel [2, 3] [0, 1, 2] 0 (by decide) (by decide) rfl rfl rfl) ?_
         refine p_free rfl rfl rfl rfl (fun w _ => v_fieldAddr 1 (Try.runUnderlying51 w) rfl (Try.sizeOf3 w) rfl) ?_
         refine p_one rfl ?_
         refine g_stS (cs' := #[_, _, _]) (S' := [_, _, _, _]) 1 (fun w => Try.sizeOf3 w) rfl rfl rfl rfl rfl rfl rfl ?_
         refine p_next (fun w hh => hh.sel [2, 3] [0, 1, 2] 0 (by decide) (by decide) rfl rfl rfl) ?_
         refine p_done ?_
         obtain rfl := Option.some.inj hm
         exact g_leaf () (trivial) ((.cons rfl (.cons rfl (.cons rfl (.cons rfl (.cons rfl (.cons rfl .nil))))))) (fun w hh => hh.sel [1, 0, 2, 3] [0, 1, 2] 0 (by decide) (by decide) rfl rfl rfl)
        ·replace hm := ifF (of_decide_eq_false h64) hm
         refine g_skip ?_
         obtain rfl := Option.some.inj hm
         exact g_leaf () (trivial) ((.cons rfl (.cons rfl (.cons rfl (.cons rfl (.cons rfl (.cons rfl .nil))))))) (fun w hh => hh)
       ·intro l_18 hj
        replace hm := h63
        refine g_n_then ?_
        refine g_seq ?_
        obtain ⟨o_5, h71, h72⟩ := bindO hm
        refine g_cut (ι := Unit) (fun l_21 => True) (fun l_21 => [(0, ptr pb 0), (6, ptr b 0), (7, ptr b_1 0), (11, ptr b_2 0), (54, .int .i64 t54.r0), (55, .int .i64 s_2.t55)]) (fun l_21 => [(b_2, .cells #[.int .i64 o_5.x11_a, .int .i64 o_5.x11_b, .int .i64 t70.r0] 51 (0, 0)), (pb, .cells #[.slice qa0 na0 ca0, .int .i64 o_5.b0_1, .int .u32 o_5.b0_2] 138 (0, 0)), (b_1, .cells #[slv l_4.q l_4.n l_4.cap, .int .i64 t14, .int .i64 t16.r0, slv l_9.q l_9.n l_9.cap, slv l_14.q l_14.n l_14.cap] 29 (0, 0)), (b, .cells #[slv none 0 0, .int .i64 0, .int .i64 0, slv none 0 0, slv none 0 0] 29 (0, 0))]) (fun l_21 => [⟨68, RW.enc o.s7_table, l_4.sp, l_4.q⟩, ⟨3, RI.enc o_1.s7_floors, l_9.sp, l_9.q⟩, ⟨51, RS.enc s_2.s7_sills, l_14.sp, l_14.q⟩]) ?_ ?_
        ·replace hm := h71
         refine g_seq ?_
         refine g_region ?_
         refine g_val rfl rfl rfl (fun _ _ => v_move rfl) ?_
         obtain ⟨t92, h73, hm⟩ := bindO hm
         refine g_sel (S' := [_, _, _, _]) (vs' := [_, _, _]) [1, 0, 2, 3] [0, 1, 2] 0 (by decide) (by decide) rfl rfl rfl ?_
         refine g_callH [_] [] rfl rfl rfl rfl rfl rfl rfl (fun a w => Try.call85 a w) (fun w hh => c_laurelkit_Heap_Once b00 o_4.b0_1 o_4.b0_2 3 pb qa0 na0 ca0 w (HV.callee (S0 := [_]) (vs0 := []) hh (roC (hh.rsep (S0 := [_]) (vs0 := []) 0 rfl) roN)) hna0 hqa0 hla0 h73) (fun l_22 h74 => ?_)
         refine g_sel (S' := [_, _, _, _]) (vs' := [_, _, _]) [0, 1, 2, 3] [0, 1, 2] 0 (by decide) (by decide) rfl rfl rfl ?_
         refine g_nil ?_
         refine g_n_then ?_
         refine g_cond rfl (fun h75 => ?_) (fun h75 => ?_)
         ·replace hm := ifT (h75) hm
          refine g_region ?_
          refine g_val rfl rfl rfl (fun w _ => v_fieldAddr 1 (Try.runUnderlying51 w) rfl (Try.sizeOf3 w) rfl) ?_
          refine g_val rfl rfl rfl (fun w hh => v_load (Try.isAgg3 w) rfl (hh.cell 1 rfl rfl)) ?_
          refine g_val rfl rfl rfl (fun w _ => v_fieldAddr 0 (Try.runUnderlying51 w) rfl (Try.sizeOf3 w) rfl) ?_
          refine g_val rfl rfl rfl (fun w hh => v_load (Try.isAgg3 w) rfl (hh.cell 1 rfl rfl)) ?_
          refine g_val rfl rfl rfl (fun w _ => v_fieldAddr 0 (Try.runUnderlying51 w) rfl (Try.sizeOf3 w) rfl) ?_
          refine g_stS (cs' := #[_, _, _]) (S' := [_, _, _, _]) 1 (fun w => Try.sizeOf3 w) rfl rfl rfl rfl rfl rfl rfl ?_
          refine g_val rfl rfl rfl (fun w _ => v_fieldAddr 1 (Try.runUnderlying51 w) rfl (Try.sizeOf3 w) rfl) ?_
          refine g_stS (cs' := #[_, _, _]) (S' := [_, _, _, _]) 1 (fun w => Try.sizeOf3 w) rfl rfl rfl rfl rfl rfl rfl ?_
          refine g_nil ?_
          obtain rfl := Option.some.inj hm
          exact g_leaf () (trivial) ((.cons rfl (.cons rfl (.cons rfl (.cons rfl (.cons rfl (.cons rfl .nil))))))) (fun w hh => hh.sel [1, 0, 2, 3] [0, 1, 2] 0 (by decide) (by decide) rfl rfl rfl)
         ·replace hm := ifF ((fun hh => Bool.noConfusion ((h75).symm.trans hh))) hm
          refine g_skip ?_
          obtain rfl := Option.some.inj hm
          exact g_leaf () (trivial) ((.cons rfl (.cons rfl (.cons rfl (.cons rfl (.cons rfl (.cons rfl .nil))))))) (fun w hh => hh.sel [1, 0, 2, 3] [0, 1, 2] 0 (by decide) (by decide) rfl rfl rfl)
        ·intro l_21 hj
         replace hm := h72
         refine g_n_then ?_
         refine g_seq ?_
         refine g_region ?_
         refine g_val rfl rfl rfl (fun w _ => v_fieldAddr 0 (Try.runUnderlying51 w) rfl (Try.sizeOf3 w) rfl) ?_
         refine g_val rfl rfl rfl (fun w hh => v_load (Try.isAgg3 w) rfl (hh.cell 0 rfl rfl)) ?_
         refine g_val rfl rfl rfl (fun w _ => v_fieldAddr 1 (Try.runUnderlying51 w) rfl (Try.sizeOf3 w) rfl) ?_
         refine g_val rfl rfl rfl (fun w hh => v_load (Try.isAgg3 w) rfl (hh.cell 0 rfl rfl)) ?_
         refine g_val rfl rfl rfl (fun _ _ => v_neq rfl rfl) ?_
         refine g_nil ?_
         refine g_n_then ?_
         refine g_cond rfl (fun h76 => ?_) (fun h76 => ?_)
         ·replace hm := ifF (of_ndec_true h76) hm
          refine g_region ?_
          refine g_val rfl rfl rfl (fun w _ => v_fieldAddr 4 (Try.runUnderlying29 w) rfl (Try.sizeOf27 w) rfl) ?_
          refine g_val rfl rfl rfl (fun w hh => v_load (Try.isAgg27 w) rfl (hh.cell 2 rfl rfl)) ?_
          refine g_val rfl rfl rfl (fun w hh => v_loadAgg (vs := [_, _, _]) (Try.isAgg51 w) (Try.sizeOf51 w) rfl (hh.cells 0 rfl rfl)) ?_
          refine g_vlit RS [(⟨o_5.x11_a, o_5.x11_b, t70.r0⟩ : Sill)] (ps := [(0, _)]) (cells := [_, _, _]) (fun w => Try.runUnderlying27 w) (fun w => Try.sizeOf51 w) (fun w => Try.zeroValue51 w) rfl rfl rfl rfl rfl rfl rfl rfl (fun L_4 h77 => ?_)
          obtain ⟨t108, h78, hm⟩ := bindO hm
          refine g_vapp RS 3 h78 Try.underlying27 gxinf51 rfl rfl rfl rfl rfl h49 rfl rfl (vlen RS h77 rfl) (AOK.q (vne h77)) (fun w hh => (hh.vsegA 0 rfl h77)) rfl (fun L_5 h79 h79n => ?_)
          refine g_sel (S' := [_, _, _, _]) (vs' := [_, _, _, _]) [0, 1, 2, 3] [0, 1, 2, 3] 0 (by decide) (by decide) rfl rfl rfl ?_
          refine g_val rfl rfl rfl (fun w _ => v_fieldAddr 4 (Try.runUnderlying29 w) rfl (Try.sizeOf27 w) rfl) ?_
          refine g_stS (cs' := #[_, _, _, _, _]) (S' := [_, _, _, _]) 2 (fun w => Try.sizeOf27 w) rfl rfl rfl rfl rfl rfl rfl ?_
          refine g_nil ?_
          refine g_n_blk ?_
          obtain rfl := Option.some.inj hm
          exact g_leaf L_5 (h79) ((.cons rfl (.cons rfl (.cons rfl (.cons rfl (.cons rfl .nil)))))) (fun w hh => hh.sel [1, 2, 3] [1, 2, 3] 0 (by decide) (by decide) rfl rfl rfl)
         ·replace hm := ifT (of_ndec_false h76) hm
          refine g_skip ?_
          refine g_n_blk ?_
          obtain rfl := Option.some.inj hm
          exact g_leaf l_14 (h49) ((.cons rfl (.cons rfl (.cons rfl (.cons rfl (.cons rfl .nil)))))) (fun w hh => hh.sel [1, 2, 3] [0, 1, 2] 0 (by decide) (by decide) rfl rfl rfl)
      ·intro l_15 hj
       have h54 := hj
       replace hm := h53
       refine g_n_then ?_
       refine g_region ?_
       obtain ⟨t110, h80, hm⟩ := bindO hm
       refine g_val rfl rfl rfl (fun _ _ => v_addc h80 rfl rfl) ?_
       refine g_val rfl rfl rfl (fun _ _ => v_move rfl) ?_
       refine g_nil ?_
       obtain rfl := Option.some.inj hm
       refine g_n_then ?_
       exact g_again' _ l_15 rfl (h54) ((.cons rfl (.cons rfl (.cons rfl (.cons rfl (.cons rfl .nil)))))) (fun w hh => hh)
     ·replace hm := ifF (of_decide_eq_false h51) hm
      refine g_exit ?_
      refine g_x_then ?_
      refine g_x_then ?_
      refine g_x_blk ?_
      obtain rfl := Option.some.inj hm
      have hbo := h50 _ rfl
      subst hbo
      exact g_leaf l_14 (h49) ((.cons rfl (.cons rfl .nil))) (fun w hh => hh)
    ·intro l_13 hj
     have h48 := hj
     replace hm := h47
     refine g_n_then ?_
     refine g_seq ?_
     refine g_region ?_
     refine g_val rfl rfl rfl (fun w hh => v_loadAgg (vs := [_, _, _, _, _]) (Try.isAgg29 w) (Try.sizeOf29 w) rfl (hh.cells 1 rfl rfl)) ?_
     refine g_stSA (us := #[_, _, _, _, _]) (cs' := [_, _, _, _, _]) (S' := [_, _, _]) 2 (fun w => Try.sizeOf29 w) rfl rfl rfl rfl rfl rfl rfl ?_
     refine g_nil ?_
     refine g_n_then ?_
     refine g_ret ?_
     obtain rfl := Option.some.inj hm
     refine g_done rfl (fun w hh => (.cell rfl (loadVar_agg (vs := [_, _, _, _, _]) (Try.isAgg29 _) (Try.sizeOf29 _) (hh.cells 2 rfl rfl)) .nil)) (fun w hh => ⟨(l_4, l_9, l_13), rfl, ⟨h17, h34, h48⟩, hh.sel [0] [0, 1, 2] 1 (by decide) (by decide) rfl rfl rfl⟩)
end Go.Proofs.Wk
namespace Go.Proofs.Wk
open Go Go.Fw Go.Gx Go.Pl
set_option linter.unusedVariables false
def m_laurelkit_Dup_tideWater (l0 : (List Water)) : Option (List Water) :=
 (makec 16 (⟨0, 0⟩ : Water) 0 (l0.length : Int)).bind fun t5 =>
 (appc 16 t5 l0).bind fun t7 =>
 some t7
set_option maxRecDepth 100000 in
set_option maxHeartbeats 4000000 in
theorem c_laurelkit_Dup_tideWater (l0 : (List Water)) (qa0 : Option Addr) (na0 ca0 : Nat) (w : World) (hw : HV w (keys [] []) [] [] [(aB qa0, aO qa0, RW.enc l0)] w) (hna0 : l0.length = na0) (hqa0 : AOK na0 qa0) (hla0 : na0 ≤ ca0) {res : (List Water)} (hm : m_laurelkit_Dup_tideWater l0 = some res) :
    Calls Try.prog 100 #[.slice qa0 na0 ca0] w (fun en w' => ∃ l : VL, en = .returned (slv l.q l.n l.cap) ∧ (VOK 2 l.n l.cap (RW.enc res) l.sp l.q) ∧ HV w (keys [] []) [] [⟨68, RW.enc res, l.sp, l.q⟩] [] w') := by
  unfold m_laurelkit_Dup_tideWater at hm
  refine g_enter (args := [.slice qa0 na0 ca0]) Try.func100 rfl Try.ntmps100 rfl (e := [(0, _)]) rfl (H := HV w (keys [] []) [] [] [(aB qa0, aO qa0, RW.enc l0)]) hw ?_
  refine g_seq ?_
  refine g_region ?_
  refine g_val rfl rfl rfl (fun _ _ => v_nilS rfl) ?_
  refine g_nil ?_
  refine g_n_then ?_
  refine g_seq ?_
  refine g_region ?_
  refine g_val rfl rfl rfl (fun _ _ => v_move rfl) ?_
  refine g_val rfl rfl rfl (fun w _ => v_lenR hna0 (Try.runUnderlying23 w) rfl) ?_
  obtain ⟨t5, h2, hm⟩ := bindO hm
  refine g_vmake RW (⟨0, 0⟩ : Water) h2 Try.underlying23 gxinf68 rfl rfl rfl rfl rfl (fun L h3 => ?_)
  refine g_val rfl rfl rfl (fun _ _ => v_move rfl) ?_
  obtain ⟨t7, h4, hm⟩ := bindO hm
  refine g_vapp RW 0 h4 Try.underlying23 gxinf68 rfl rfl rfl rfl rfl h3 rfl rfl hna0 hqa0 (fun w hh => (hh.seg 0 rfl)) rfl (fun L_1 h5 h5n => ?_)
  refine g_sel (S' := []) (vs' := [_]) [] [0] 0 (by decide) (by decide) rfl rfl rfl ?_
  refine g_val rfl rfl rfl (fun _ _ => v_assign rfl) ?_
  refine g_nil ?_
  refine g_n_then ?_
  refine g_ret ?_
  obtain rfl := Option.some.inj hm
  refine g_done rfl (fun w hh => (.tmp rfl .nil)) (fun w hh => ⟨L_1, rfl, h5, hh.sel [] [0] 1 (by decide) (by decide) rfl rfl rfl⟩)
end Go.Proofs.Wk
namespace Go.Proofs.Wk
open Go Go.Fw Go.Gx Go.Pl
set_option linter.unusedVariables false
def m_laurelkit_Dup_int (l0 : (List Int)) : Option (List Int) :=
 (makec 8 0 0 (l0.length : Int)).bind fun t5 =>
 (appc 8 t5 l0).bind fun t7 =>
 some t7
set_option maxRecDepth 100000 in
set_option maxHeartbeats 4000000 in
theorem c_laurelkit_Dup_int (l0 : (List Int)) (qa0 : Option Addr) (na0 ca0 : Nat) (w : World) (hw : HV w (keys [] []) [] [] [(aB qa0, aO qa0, RI.enc l0)] w) (hna0 : l0.length = na0) (hqa0 : AOK na0 qa0) (hla0 : na0 ≤ ca0) {res : (List Int)} (hm : m_laurelkit_Dup_int l0 = some res) :
    Calls Try.prog 65 #[.slice qa0 na0 ca0] w (fun en w' => ∃ l : VL, en = .returned (slv l.q l.n l.cap) ∧ (VOK 1 l.n l.cap (RI.enc res) l.sp l.q) ∧ HV w (keys [] []) [] [⟨3, RI.enc res, l.sp, l.q⟩] [] w') := by
  unfold m_laurelkit_Dup_int at hm
  refine g_enter (args := [.slice qa0 na0 ca0]) Try.func65 rfl Try.ntmps65 rfl (e := [(0, _)]) rfl (H := HV w (keys [] []) [] [] [(aB qa0, aO qa0, RI.enc l0)]) hw ?_
  refine g_seq ?_
  refine g_region ?_
  refine g_val rfl rfl rfl (fun _ _ => v_nilS rfl) ?_
  refine g_nil ?_
  refine g_n_then ?_
  refine g_seq ?_
  refine g_region ?_
  refine g_val rfl rfl rfl (fun _ _ => v_move rfl) ?_
  refine g_val rfl rfl rfl (fun w _ => v_lenR hna0 (Try.runUnderlying26 w) rfl) ?_
  obtain ⟨t5, h2, hm⟩ := bindO hm
  refine g_vmake RI 0 h2 Try.underlying26 gxinf3 rfl rfl rfl rfl rfl (fun L h3 => ?_)
  refine g_val rfl rfl rfl (fun _ _ => v_move rfl) ?_
  obtain ⟨t7, h4, hm⟩ := bindO hm
  refine g_vapp RI 0 h4 Try.underlying26 gxinf3 rfl rfl rfl rfl rfl h3 rfl rfl hna0 hqa0 (fun w hh => (hh.seg 0 rfl)) rfl (fun L_1 h5 h5n => ?_)
  refine g_sel (S' := []) (vs' := [_]) [] [0] 0 (by decide) (by decide) rfl rfl rfl ?_
  refine g_val rfl rfl rfl (fun _ _ => v_assign rfl) ?_
  refine g_nil ?_
  refine g_n_then ?_
  refine g_ret ?_
  obtain rfl := Option.some.inj hm
  refine g_done rfl (fun w hh => (.tmp rfl .nil)) (fun w hh => ⟨L_1, rfl, h5, hh.sel [] [0] 1 (by decide) (by decide) rfl rfl rfl⟩)
end Go.Proofs.Wk
namespace Go.Proofs.Wk
open Go Go.Fw Go.Gx Go.Pl
set_option linter.unusedVariables false
def m_laurelkit_Dup_tideSill (l0 : (List Sill)) : Option (List Sill) :=
 (makec 24 (⟨0, 0, 0⟩ : Sill) 0 (l0.length : Int)).bind fun t5 =>
 (appc 24 t5 l0).bind fun t7 =>
 some t7
set_option maxRecDepth 100000 in
set_option maxHeartbeats 4000000 in
theorem c_laurelkit_Dup_tideSill (l0 : (List Sill)) (qa0 : Option Addr) (na0 ca0 : Nat) (w : World) (hw : HV w (keys [] []) [] [] [(aB qa0, aO qa0, RS.enc l0)] w) (hna0 : l0.length = na0) (hqa0 : AOK na0 qa0) (hla0 : na0 ≤ ca0) {res : (List Sill)} (hm : m_laurelkit_Dup_tideSill l0 = some res) :
    Calls Try.prog 101 #[.slice qa0 na0 ca0] w (fun en w' => ∃ l : VL, en = .returned (slv l.q l.n l.cap) ∧ (VOK 3 l.n l.cap (RS.enc res) l.sp l.q) ∧ HV w (keys [] []) [] [⟨51, RS.enc res, l.sp, l.q⟩] [] w') := by
  unfold m_laurelkit_Dup_tideSill at hm
  refine g_enter (args := [.slice qa0 na0 ca0]) Try.func101 rfl Try.ntmps101 rfl (e := [(0, _)]) rfl (H := HV w (keys [] []) [] [] [(aB qa0, aO qa0, RS.enc l0)]) hw ?_
  refine g_seq ?_
  refine g_region ?_
  refine g_val rfl rfl rfl (fun _ _ => v_nilS rfl) ?_
  refine g_nil ?_
  refine g_n_then ?_
  refine g_seq ?_
  refine g_region ?_
  refine g_val rfl rfl rfl (fun _ _ => v_move rfl) ?_
  refine g_val rfl rfl rfl (fun w _ => v_lenR hna0 (Try.runUnderlying27 w) rfl) ?_
  obtain ⟨t5, h2, hm⟩ := bindO hm
  refine g_vmake RS (⟨0, 0, 0⟩ : Sill) h2 Try.underlying27 gxinf51 rfl rfl rfl rfl rfl (fun L h3 => ?_)
  refine g_val rfl rfl rfl (fun _ _ => v_move rfl) ?_
  obtain ⟨t7, h4, hm⟩ := bindO hm
  refine g_vapp RS 0 h4 Try.underlying27 gxinf51 rfl rfl rfl rfl rfl h3 rfl rfl hna0 hqa0 (fun w hh => (hh.seg 0 rfl)) rfl (fun L_1 h5 h5n => ?_)
  refine g_sel (S' := []) (vs' := [_]) [] [0] 0 (by decide) (by decide) rfl rfl rfl ?_
  refine g_val rfl rfl rfl (fun _ _ => v_assign rfl) ?_
  refine g_nil ?_
  refine g_n_then ?_
  refine g_ret ?_
  obtain rfl := Option.some.inj hm
  refine g_done rfl (fun w hh => (.tmp rfl .nil)) (fun w hh => ⟨L_1, rfl, h5, hh.sel [] [0] 1 (by decide) (by decide) rfl rfl rfl⟩)
end Go.Proofs.Wk
namespace Go.Proofs.Wk
open Go Go.Fw Go.Gx Go.Pl
set_option linter.unusedVariables false
def m_laurellaw01_Own (s0 : Sands) : Option Sands :=
 (m_laurelkit_Dup_tideWater s0.table).bind fun t5 =>
 (m_laurelkit_Dup_int s0.floors).bind fun t10 =>
 (m_laurelkit_Dup_tideSill s0.sills).bind fun t13 =>
 some (⟨t5, s0.wind, t10, t13⟩ : Sands)
set_option maxRecDepth 100000 in
set_option maxHeartbeats 4000000 in
theorem c_laurellaw01_Own (s0 : Sands) (qa0 : Option Addr) (na0 ca0 : Nat) (qa1 : Option Addr) (na1 ca1 : Nat) (qa2 : Option Addr) (na2 ca2 : Nat) (w : World) (hw : HV w (keys [] []) [] [] [(aB qa0, aO qa0, RW.enc s0.table), (aB qa1, aO qa1, RI.enc s0.floors), (aB qa2, aO qa2, RS.enc s0.sills)] w) (hna0 : s0.table.length = na0) (hqa0 : AOK na0 qa0) (hla0 : na0 ≤ ca0) (hna1 : s0.floors.length = na1) (hqa1 : AOK na1 qa1) (hla1 : na1 ≤ ca1) (hna2 : s0.sills.length = na2) (hqa2 : AOK na2 qa2) (hla2 : na2 ≤ ca2) {res : Sands} (hm : m_laurellaw01_Own s0 = some res) :
    Calls Try.prog 25 #[.agg #[.slice qa0 na0 ca0, .int .i64 s0.wind.lo, .int .i64 s0.wind.hi, .slice qa1 na1 ca1, .slice qa2 na2 ca2]] w (fun en w' => ∃ l : VL × VL × VL, en = .returned (.agg #[slv l.1.q l.1.n l.1.cap, .int .i64 res.wind.lo, .int .i64 res.wind.hi, slv l.2.1.q l.2.1.n l.2.1.cap, slv l.2.2.q l.2.2.n l.2.2.cap]) ∧ (VOK 2 l.1.n l.1.cap (RW.enc res.table) l.1.sp l.1.q ∧ VOK 1 l.2.1.n l.2.1.cap (RI.enc res.floors) l.2.1.sp l.2.1.q ∧ VOK 3 l.2.2.n l.2.2.cap (RS.enc res.sills) l.2.2.sp l.2.2.q) ∧ HV w (keys [] []) [] [⟨68, RW.enc res.table, l.1.sp, l.1.q⟩, ⟨3, RI.enc res.floors, l.2.1.sp, l.2.1.q⟩, ⟨51, RS.enc res.sills, l.2.2.sp, l.2.2.q⟩] [] w') := by
  unfold m_laurellaw01_Own at hm
  refine g_enter (args := [.agg #[.slice qa0 na0 ca0, .int .i64 s0.wind.lo, .int .i64 s0.wind.hi, .slice qa1 na1 ca1, .slice qa2 na2 ca2]]) Try.func25 rfl Try.ntmps25 rfl (e := [(0, _)]) rfl (H := HV w (keys [] []) [] [] [(aB qa0, aO qa0, RW.enc s0.table), (aB qa1, aO qa1, RI.enc s0.floors), (aB qa2, aO qa2, RS.enc s0.sills)]) hw ?_
  refine g_seq ?_
  refine g_region ?_
  refine g_boxV rfl rfl (fun b h4 => ?_)
  refine g_allocV (fun w => Try.zeroValue29 w) rfl (fun b_1 h5 => ?_)
  refine g_nil ?_
  refine g_n_then ?_
  refine g_seq ?_
  refine g_draw none (.free 0 (.hoist 1 (.free 3 (.hoist 4 (.free 5 (.hoist 6 (.free 8 (.hoist 9 (.one 2 (.one 7 (.one 10 (.free 11 (.one 12 .done))))))))))))) (HV _ _ [(b, .cells #[.slice qa0 na0 ca0, .int .i64 s0.wind.lo, .int .i64 s0.wind.hi, .slice qa1 na1 ca1, .slice qa2 na2 ca2] 29 (0, 0))] [] _) rfl (by decide +kernel) (fun w k hh => hh.draw k) (fun w hh => hh.sel [1] [] 0 (by decide) (by decide) rfl rfl rfl) ?_
  refine p_free rfl rfl rfl rfl (fun w _ => v_fieldAddr 0 (Try.runUnderlying29 w) rfl (Try.sizeOf23 w) rfl) ?_
  refine p_hoist rfl rfl rfl rfl (fun w hh => v_load (Try.isAgg23 w) rfl (hh.cell 0 rfl rfl)) ?_
  refine p_free rfl rfl rfl rfl (fun w _ => v_fieldAddr 1 (Try.runUnderlying29 w) rfl (Try.sizeOf25 w) rfl) ?_
  refine p_hoist rfl rfl rfl rfl (fun w hh => v_loadAgg (vs := [_, _]) (Try.isAgg25 w) (Try.sizeOf25 w) rfl (hh.cells 0 rfl rfl)) ?_
  refine p_free rfl rfl rfl rfl (fun w _ => v_fieldAddr 3 (Try.runUnderlying29 w) rfl (Try.sizeOf26 w) rfl) ?_
  refine p_hoist rfl rfl rfl rfl (fun w hh => v_load (Try.isAgg26 w) rfl (hh.cell 0 rfl rfl)) ?_
  refine p_free rfl rfl rfl rfl (fun w _ => v_fieldAddr 4 (Try.runUnderlying29 w) rfl (Try.sizeOf27 w) rfl) ?_
  refine p_hoist rfl rfl rfl rfl (fun w hh => v_load (Try.isAgg27 w) rfl (hh.cell 0 rfl rfl)) ?_
  refine p_one rfl ?_
  obtain ⟨t5, h6, hm⟩ := bindO hm
  refine g_callH [] [] rfl rfl rfl rfl rfl rfl rfl (fun a w => Try.call100 a w) (fun w hh => c_laurelkit_Dup_tideWater s0.table qa0 na0 ca0 w (HV.callee (S0 := []) (vs0 := []) hh (roC (hh.rsep (S0 := []) (vs0 := []) 0 rfl) roN)) hna0 hqa0 hla0 h6) (fun l h7 => ?_)
  have h8 := h7
  refine g_sel (S' := [_, _]) (vs' := [_]) [0, 1] [0] 0 (by decide) (by decide) rfl rfl rfl ?_
  refine p_next (fun w hh => hh.sel [1] [] 0 (by decide) (by decide) rfl rfl rfl) ?_
  refine p_one rfl ?_
  obtain ⟨t10, h9, hm⟩ := bindO hm
  refine g_callH [] [] rfl rfl rfl rfl rfl rfl rfl (fun a w => Try.call65 a w) (fun w hh => c_laurelkit_Dup_int s0.floors qa1 na1 ca1 w (HV.callee (S0 := []) (vs0 := []) hh (roC (hh.rsep (S0 := []) (vs0 := []) 1 rfl) roN)) hna1 hqa1 hla1 h9) (fun l_1 h10 => ?_)
  have h11 := h10
  refine g_sel (S' := [_, _]) (vs' := [_, _]) [0, 1] [0, 1] 0 (by decide) (by decide) rfl rfl rfl ?_
  refine p_next (fun w hh => hh.sel [1] [] 0 (by decide) (by decide) rfl rfl rfl) ?_
  refine p_one rfl ?_
  obtain ⟨t13, h12, hm⟩ := bindO hm
  refine g_callH [] [] rfl rfl rfl rfl rfl rfl rfl (fun a w => Try.call101 a w) (fun w hh => c_laurelkit_Dup_tideSill s0.sills qa2 na2 ca2 w (HV.callee (S0 := []) (vs0 := []) hh (roC (hh.rsep (S0 := []) (vs0 := []) 2 rfl) roN)) hna2 hqa2 hla2 h12) (fun l_2 h13 => ?_)
  have h14 := h13
  refine g_sel (S' := [_, _]) (vs' := [_, _, _]) [0, 1] [0, 1, 2] 0 (by decide) (by decide) rfl rfl rfl ?_
  refine p_next (fun w hh => hh.sel [1] [] 0 (by decide) (by decide) rfl rfl rfl) ?_
  refine p_free rfl rfl rfl rfl (fun _ _ => v_build (vs := [(0, _), (1, _), (2, _), (3, _)]) (cells := [_, _, _, _, _]) rfl rfl) ?_
  refine p_one rfl ?_
  refine g_stSA (us := #[_, _, _, _, _]) (cs' := [_, _, _, _, _]) (S' := [_, _]) 0 (fun w => Try.sizeOf29 w) rfl rfl rfl rfl rfl rfl rfl ?_
  refine p_next (fun w hh => hh.sel [1] [] 0 (by decide) (by decide) rfl rfl rfl) ?_
  refine p_done ?_
  refine g_n_then ?_
  refine g_ret ?_
  obtain rfl := Option.some.inj hm
  refine g_done rfl (fun w hh => (.cell rfl (loadVar_agg (vs := [_, _, _, _, _]) (Try.isAgg29 _) (Try.sizeOf29 _) (hh.cells 0 rfl rfl)) .nil)) (fun w hh => ⟨(l, l_1, l_2), rfl, ⟨h8, h11, h14⟩, hh.sel [] [2, 1, 0] 3 (by decide) (by decide) rfl rfl rfl⟩)
end Go.Proofs.Wk
namespace Go.Proofs.Wk
open Go Go.Fw Go.Gx Go.Pl
set_option linter.unusedVariables false
def m_laurellaw01_first (s0 : Sands) : Option Int :=
 (ix s0.table 0).bind fun t5 =>
 some t5.min
set_option maxRecDepth 100000 in
set_option maxHeartbeats 4000000 in
theorem c_laurellaw01_first (s0 : Sands) (qa0 : Option Addr) (na0 ca0 : Nat) (qa1 : Option Addr) (na1 ca1 : Nat) (qa2 : Option Addr) (na2 ca2 : Nat) (w : World) (hw : HV w (keys [] []) [] [] [(aB qa0, aO qa0, RW.enc s0.table), (aB qa1, aO qa1, RI.enc s0.floors), (aB qa2, aO qa2, RS.enc s0.sills)] w) (hna0 : s0.table.length = na0) (hqa0 : AOK na0 qa0) (hla0 : na0 ≤ ca0) (hna1 : s0.floors.length = na1) (hqa1 : AOK na1 qa1) (hla1 : na1 ≤ ca1) (hna2 : s0.sills.length = na2) (hqa2 : AOK na2 qa2) (hla2 : na2 ≤ ca2) {res : Int} (hm : m_laurellaw01_first s0 = some res) :
    Calls Try.prog 26 #[.agg #[.slice qa0 na0 ca0, .int .i64 s0.wind.lo, .int .i64 s0.wind.hi, .slice qa1 na1 ca1, .slice qa2 na2 ca2]] w (fun en w' => ∃ l : Unit, en = .returned (.int .i64 res) ∧ (True) ∧ HV w (keys [] []) [] [] [] w') := by
  unfold m_laurellaw01_first at hm
  refine g_enter (args := [.agg #[.slice qa0 na0 ca0, .int .i64 s0.wind.lo, .int .i64 s0.wind.hi, .slice qa1 na1 ca1, .slice qa2 na2 ca2]]) Try.func26 rfl Try.ntmps26 rfl (e := [(0, _)]) rfl (H := HV w (keys [] []) [] [] [(aB qa0, aO qa0, RW.enc s0.table), (aB qa1, aO qa1, RI.enc s0.floors), (aB qa2, aO qa2, RS.enc s0.sills)]) hw ?_
  refine g_seq ?_
  refine g_region ?_
  refine g_boxV rfl rfl (fun b h1 => ?_)
  refine g_val rfl rfl rfl (fun _ _ => v_assign rfl) ?_
  refine g_nil ?_
  refine g_n_then ?_
  refine g_seq ?_
  refine g_region ?_
  refine g_val rfl rfl rfl (fun w _ => v_fieldAddr 0 (Try.runUnderlying29 w) rfl (Try.sizeOf23 w) rfl) ?_
  refine g_val rfl rfl rfl (fun w hh => v_load (Try.isAgg23 w) rfl (hh.cell 0 rfl rfl)) ?_
  obtain ⟨t5, h2, hm⟩ := bindO hm
  refine g_val rfl rfl rfl (fun w _ => v_ixR h2 (Try.runUnderlying23 w) (Try.sizeOf68 w) rfl rfl hna0 hqa0) ?_
  refine g_val rfl rfl rfl (fun w _ => v_fieldAddr 0 (Try.runUnderlying68 w) rfl (Try.sizeOf3 w) rfl) ?_
  refine g_val rfl rfl rfl (fun w hh => v_ldE RW 0 h2 (Try.isAgg3 w) rfl (hh.seg 0 rfl) rfl rfl) ?_
  refine g_val rfl rfl rfl (fun _ _ => v_assign rfl) ?_
  refine g_nil ?_
  refine g_n_then ?_
  refine g_ret ?_
  obtain rfl := Option.some.inj hm
  refine g_done rfl (fun w hh => (.tmp rfl .nil)) (fun w hh => ⟨(), rfl, trivial, hh.sel [] [] 3 (by decide) (by decide) rfl rfl rfl⟩)
end Go.Proofs.Wk
namespace Go.Proofs.Wk
open Go Go.Fw Go.Gx Go.Pl
set_option linter.unusedVariables false
def m_laurellaw01_last (s0 : Sands) : Option Int :=
 (subc (s0.table.length : Int) 1).bind fun t8 =>
 (ix s0.table t8).bind fun t9 =>
 some t9.min
set_option maxRecDepth 100000 in
set_option maxHeartbeats 4000000 in
theorem c_laurellaw01_last (s0 : Sands) (qa0 : Option Addr) (na0 ca0 : Nat) (qa1 : Option Addr) (na1 ca1 : Nat) (qa2 : Option Addr) (na2 ca2 : Nat) (w : World) (hw : HV w (keys [] []) [] [] [(aB qa0, aO qa0, RW.enc s0.table), (aB qa1, aO qa1, RI.enc s0.floors), (aB qa2, aO qa2, RS.enc s0.sills)] w) (hna0 : s0.table.length = na0) (hqa0 : AOK na0 qa0) (hla0 : na0 ≤ ca0) (hna1 : s0.floors.length = na1) (hqa1 : AOK na1 qa1) (hla1 : na1 ≤ ca1) (hna2 : s0.sills.length = na2) (hqa2 : AOK na2 qa2) (hla2 : na2 ≤ ca2) {res : Int} (hm : m_laurellaw01_last s0 = some res) :
    Calls Try.prog 27 #[.agg #[.slice qa0 na0 ca0, .int .i64 s0.wind.lo, .int .i64 s0.wind.hi, .slice qa1 na1 ca1, .slice qa2 na2 ca2]] w (fun en w' => ∃ l : Unit, en = .returned (.int .i64 res) ∧ (True) ∧ HV w (keys [] []) [] [] [] w') := by
  unfold m_laurellaw01_last at hm
  refine g_enter (args := [.agg #[.slice qa0 na0 ca0, .int .i64 s0.wind.lo, .int .i64 s0.wind.hi, .slice qa1 na1 ca1, .slice qa2 na2 ca2]]) Try.func27 rfl Try.ntmps27 rfl (e := [(0, _)]) rfl (H := HV w (keys [] []) [] [] [(aB qa0, aO qa0, RW.enc s0.table), (aB qa1, aO qa1, RI.enc s0.floors), (aB qa2, aO qa2, RS.enc s0.sills)]) hw ?_
  refine g_seq ?_
  refine g_region ?_
  refine g_boxV rfl rfl (fun b h1 => ?_)
  refine g_val rfl rfl rfl (fun _ _ => v_assign rfl) ?_
  refine g_nil ?_
  refine g_n_then ?_
  refine g_seq ?_
  refine g_region ?_
  refine g_val rfl rfl rfl (fun w _ => v_fieldAddr 0 (Try.runUnderlying29 w) rfl (Try.sizeOf23 w) rfl) ?_
  refine g_val rfl rfl rfl (fun w hh => v_load (Try.isAgg23 w) rfl (hh.cell 0 rfl rfl)) ?_
  refine g_val rfl rfl rfl (fun w _ => v_fieldAddr 0 (Try.runUnderlying29 w) rfl (Try.sizeOf23 w) rfl) ?_
  refine g_val rfl rfl rfl (fun w hh => v_load (Try.isAgg23 w) rfl (hh.cell 0 rfl rfl)) ?_
  refine g_val rfl rfl rfl (fun w _ => v_lenR hna0 (Try.runUnderlying23 w) rfl) ?_
  obtain ⟨t8, h2, hm⟩ := bindO hm
  refine g_val rfl rfl rfl (fun _ _ => v_subc h2 rfl rfl) ?_
  obtain ⟨t9, h3, hm⟩ := bindO hm
  refine g_val rfl rfl rfl (fun w _ => v_ixR h3 (Try.runUnderlying23 w) (Try.sizeOf68 w) rfl rfl hna0 hqa0) ?_
  refine g_val rfl rfl rfl (fun w _ => v_fieldAddr 0 (Try.runUnderlying68 w) rfl (Try.sizeOf3 w) rfl) ?_
  refine g_val rfl rfl rfl (fun w hh => v_ldE RW 0 h3 (Try.isAgg3 w) rfl (hh.seg 0 rfl) rfl rfl) ?_
  refine g_val rfl rfl rfl (fun _ _ => v_assign rfl) ?_
  refine g_nil ?_
  refine g_n_then ?_
  refine g_ret ?_
  obtain rfl := Option.some.inj hm
  refine g_done rfl (fun w hh => (.tmp rfl .nil)) (fun w hh => ⟨(), rfl, trivial, hh.sel [] [] 3 (by decide) (by decide) rfl rfl rfl⟩)
end Go.Proofs.Wk
