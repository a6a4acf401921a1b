/- What the functions that the law TideLooked reaches come to, and why it holds: part 5. -/
import Derived.Test.YtaicfimbclibpaaTideLooked4
namespace Go.Proofs.Wk
open Go Go.Fw Go.Gx Go.Pl
set_option linter.unusedVariables false
structure m_laurellaw01_TideLooked_S0 where
  t57 : Int
  r0 : (List Look)
def m_laurellaw01_TideLooked_L0 (t46 : m_laurellaw01_looked_R) (turned2 : Int) (s : m_laurellaw01_TideLooked_S0) : Option (m_laurellaw01_TideLooked_S0 ⊕ (List Look)) :=
 if s.t57 < (t46.r0.length : Int) then
 ((if (0 : Int) ≤ s.t57 then (if (IntKind.u8.wrap (BitVec.ofInt IntKind.u8.bits (Int.fdiv turned2 (2 ^ min (Int.toNat s.t57) IntKind.u8.bits)) &&& BitVec.ofInt IntKind.u8.bits 1).toNat) = 1 then
 ((ix s.r0 s.t57).bind fun t69 =>
 (ix s.r0 s.t57).bind fun t73 =>
 (some (s.r0.set (Int.toNat s.t57) (⟨t73.min, t73.place, (!t69.wet)⟩ : Look))).bind fun r0 =>
 some r0) else
 (some s.r0)) else none).bind fun o_1 =>
 (addc s.t57 1).bind fun t75 =>
 some (.inl (⟨t75, o_1⟩ : m_laurellaw01_TideLooked_S0))) else
 (some (.inr s.r0))
structure m_laurellaw01_TideLooked_C2 where
  now13_lo : Int
  now13_hi : Int
structure m_laurellaw01_TideLooked_S1 where
  t80 : Int
  now13_lo : Int
  now13_hi : Int
structure m_laurellaw01_TideLooked_C3 where
  w15 : Span
  e16 : Int
def m_laurellaw01_TideLooked_L1 (o : (List Look)) (t31 : m_laurellaw01_Made_R) (s_1 : m_laurellaw01_TideLooked_S1) : Option (m_laurellaw01_TideLooked_S1 ⊕ (m_laurellaw01_TideLooked_C2 ⊕ Bool)) :=
 if s_1.t80 < (o.length : Int) then
 (((addc s_1.t80 1).bind fun t87 =>
 if 0 ≤ t87 ∧ t87 ≤ (o.length : Int) then ((x_Looks t31.r0 (o.take (Int.toNat t87))).bind fun t89 =>
 some (⟨t89.1, t89.2⟩ : m_laurellaw01_TideLooked_C3)) else none).bind fun o_3 =>
 if o_3.e16 = 7 then
 (some (.inr (.inl (⟨s_1.now13_lo, s_1.now13_hi⟩ : m_laurellaw01_TideLooked_C2)))) else
 ((if o_3.e16 = 0 then
 (if o_3.w15.lo < s_1.now13_lo then
 (some true) else
 (if s_1.now13_hi < o_3.w15.hi then
 (some true) else
 (some (decide (o_3.w15.hi < o_3.w15.lo))))) else
 (some true)).bind fun o_4 =>
 if o_4 = true then
 (some (.inr (.inr false))) else
 ((addc s_1.t80 1).bind fun t118 =>
 some (.inl (⟨t118, o_3.w15.lo, o_3.w15.hi⟩ : m_laurellaw01_TideLooked_S1))))) else
 (some (.inr (.inl (⟨s_1.now13_lo, s_1.now13_hi⟩ : m_laurellaw01_TideLooked_C2))))
structure m_laurellaw01_TideLooked_S2 where
  t154 : Int
  own21 : (List Look)
def m_laurellaw01_TideLooked_L2 (t128 : m_tide_Clash_1_R) (o : (List Look)) (s_2 : m_laurellaw01_TideLooked_S2) : Option (m_laurellaw01_TideLooked_S2 ⊕ ((List Look) ⊕ Bool)) :=
 if s_2.t154 < (t128.r0.length : Int) then
 ((ix t128.r0 s_2.t154).bind fun t157 =>
 (if t157 < 0 then
 (some true) else
 (if (o.length : Int) ≤ t157 then
 (some true) else
 (if 0 < s_2.t154 then
 ((subc s_2.t154 1).bind fun t173 =>
 (ix t128.r0 t173).bind fun t174 =>
 some (decide (t157 ≤ t174))) else
 (some false)))).bind fun o_7 =>
 if o_7 = true then
 (some (.inr (.inr false))) else
 ((ix o t157).bind fun t183 =>
 (appc 24 s_2.own21 [t183]).bind fun t186 =>
 (addc s_2.t154 1).bind fun t187 =>
 some (.inl (⟨t187, t186⟩ : m_laurellaw01_TideLooked_S2)))) else
 (some (.inr (.inl s_2.own21)))
def m_laurellaw01_TideLooked_L3 (j_2 : (List Look)) (t31 : m_laurellaw01_Made_R) (s_3 : Int) : Option (Int ⊕ (Unit ⊕ Bool)) :=
 if s_3 < (j_2.length : Int) then
 (((addc s_3 1).bind fun t209 =>
 (m_slices_Clone_tideLooktideLook j_2).bind fun t206 =>
 (m_slices_Delete_tideLooktideLook_1 t206 s_3 t209).bind fun t210 =>
 (x_Looks t31.r0 t210).bind fun t211 =>
 some t211.2).bind fun o_10 =>
 if o_10 = 0 then
 ((addc s_3 1).bind fun t216 =>
 some (.inl t216)) else
 (some (.inr (.inr false)))) else
 (some (.inr (.inl ())))
def m_laurellaw01_TideLooked (numbers0 : (List Int)) (looks1 : (List Int)) (turned2 : Int) : Option Bool :=
 (m_laurelkit_Pile numbers0).bind fun t30 =>
 (m_laurellaw01_Made numbers0 t30.t5_1 t30.t5_2 6 9).bind fun t31 =>
 (m_laurelkit_Pile looks1).bind fun t33 =>
 (m_laurellaw01_gates t31.r0).bind fun t37 =>
 (m_laurelkit_Heap_From looks1 t33.t5_1 t33.t5_2 t31.r0.wind.lo t31.r0.wind.hi).bind fun t45 =>
 (m_laurellaw01_looked looks1 t45.h0_1 t45.h0_2 t31.r0 t37 t45.r0 5).bind fun t46 =>
 (m_tide_Clash_1 t31.r0 t46.r0).bind fun t50 =>
 if t50.r1 = 6 then
 ((iterM FU (m_laurellaw01_TideLooked_L0 t46 turned2) (⟨0, t46.r0⟩ : m_laurellaw01_TideLooked_S0)).bind fun o =>
 (iterM FU (m_laurellaw01_TideLooked_L1 o t31) (⟨0, t31.r0.wind.lo, t31.r0.wind.hi⟩ : m_laurellaw01_TideLooked_S1)).bind fun o_2 =>
 oc o_2 (fun j => (x_Looks t31.r0 o).bind fun t122 =>
 (m_tide_Clash_1 t31.r0 o).bind fun t128 =>
 (if (!((decide (t122.2 = 7)) == (decide (t128.r1 = 0)))) = true then
 (some true) else
 (if t128.r1 = 0 then
 (if t122.2 = 0 then
 (some false) else
 (some (!decide (t122.2 = 7)))) else
 (if t128.r1 = 6 then
 (if t122.2 = 0 then
 (some false) else
 (some (!decide (t122.2 = 7)))) else
 (some true)))).bind fun o_5 =>
 if o_5 = true then
 (some false) else
 ((iterM FU (m_laurellaw01_TideLooked_L2 t128 o) (⟨0, []⟩ : m_laurellaw01_TideLooked_S2)).bind fun o_6 =>
 oc o_6 (fun j_2 => (if t128.r1 = 0 then
 ((x_Looks t31.r0 j_2).bind fun t193 =>
 if t193.2 = 7 then
 ((iterM FU (m_laurellaw01_TideLooked_L3 j_2 t31) 0).bind fun o_9 =>
 oc o_9 (fun j_4 => some (.inl ())) (fun r_4 => some (.inr r_4))) else
 (some (.inr false))) else
 (some (.inl ()))).bind fun o_8 =>
 oc o_8 (fun j_3 => (x_awake).bind fun t217 =>
 some t217) (fun r_5 => some r_5)) (fun r_6 => some r_6))) (fun r_7 => some r_7)) else
 (some false)
set_option maxRecDepth 100000 in
set_option maxHeartbeats 4000000 in
theorem c_laurellaw01_TideLooked (numbers0 : (List Int)) (looks1 : (List Int)) (turned2 : Int) (qa0 : Option Addr) (na0 ca0 : Nat) (qa1 : Option Addr) (na1 ca1 : Nat) (w : World) (hw : HV w (keys [] []) [] [] [(aB qa0, aO qa0, RU8.enc numbers0), (aB qa1, aO qa1, RU8.enc looks1)] w) (hna0 : numbers0.length = na0) (hqa0 : AOK na0 qa0) (hla0 : na0 ≤ ca0) (hna1 : looks1.length = na1) (hqa1 : AOK na1 qa1) (hla1 : na1 ≤ ca1) {res : Bool} (hm : m_laurellaw01_TideLooked numbers0 looks1 turned2 = some res) :
    Calls Try.prog 14 #[.slice qa0 na0 ca0, .slice qa1 na1 ca1, .int .u8 turned2] w (fun en w' => ∃ l : Unit, en = .returned (.bool res) ∧ (True) ∧ HV w (keys [] []) [] [] [] w') := by
  unfold m_laurellaw01_TideLooked at hm
  refine g_enter (args := [.slice qa0 na0 ca0, .slice qa1 na1 ca1, .int .u8 turned2]) Try.func14 rfl Try.ntmps14 rfl (e := [(0, _), (1, _), (2, _)]) rfl (H := HV w (keys [] []) [] [] [(aB qa0, aO qa0, RU8.enc numbers0), (aB qa1, aO qa1, RU8.enc looks1)]) hw ?_
  refine g_seq ?_
  refine g_region ?_
  refine g_val rfl rfl rfl (fun _ _ => v_assign rfl) ?_
  refine g_nil ?_
  refine g_n_then ?_
  refine g_seq ?_
  refine g_region ?_
  refine g_val rfl rfl rfl (fun _ _ => v_move rfl) ?_
  obtain ⟨t30, h1, hm⟩ := bindO hm
  refine g_callH [] [] rfl rfl rfl rfl rfl rfl rfl (fun a w => Try.call19 a w) (fun w hh => c_laurelkit_Pile numbers0 qa0 na0 ca0 w (HV.callee (S0 := []) (vs0 := []) hh (roC (hh.rsep (S0 := []) (vs0 := []) 0 rfl) roN)) hna0 hqa0 hla0 h1) (fun l h2 => ?_)
  refine g_sel (S' := [_]) (vs' := []) [0] [] 0 (by decide) (by decide) rfl rfl rfl ?_
  obtain ⟨t31, h3, hm⟩ := bindO hm
  refine g_callH [_] [] rfl rfl rfl rfl rfl rfl rfl (fun a w => Try.call18 a w) (fun w hh => c_laurellaw01_Made numbers0 t30.t5_1 t30.t5_2 6 9 l qa0 na0 ca0 w (HV.callee (S0 := [_]) (vs0 := []) hh (roC (hh.rsep (S0 := [_]) (vs0 := []) 0 rfl) roN)) hna0 hqa0 hla0 h3) (fun l_1 h4 => ?_)
  obtain ⟨h5, h6, h7⟩ := h4
  refine g_sel (S' := [_]) (vs' := [_, _, _]) [0] [0, 1, 2] 0 (by decide) (by decide) rfl rfl rfl ?_
  refine g_allocV (fun w => Try.zeroValue29 w) rfl (fun b h8 => ?_)
  refine g_stSA (us := #[_, _, _, _, _]) (cs' := [_, _, _, _, _]) (S' := [_, _]) 0 (fun w => Try.sizeOf29 w) rfl rfl rfl rfl rfl rfl rfl ?_
  refine g_nil ?_
  refine g_n_then ?_
  refine g_seq ?_
  refine g_region ?_
  refine g_val rfl rfl rfl (fun _ _ => v_move rfl) ?_
  obtain ⟨t33, h9, hm⟩ := bindO hm
  refine g_callH [] [] rfl rfl rfl rfl rfl rfl rfl (fun a w => Try.call19 a w) (fun w hh => c_laurelkit_Pile looks1 qa1 na1 ca1 w (HV.callee (S0 := []) (vs0 := []) hh (roC (hh.rsep (S0 := []) (vs0 := []) 1 rfl) roN)) hna1 hqa1 hla1 h9) (fun l_2 h10 => ?_)
  refine g_sel (S' := [_, _, _]) (vs' := [_, _, _]) [0, 1, 2] [0, 1, 2] 0 (by decide) (by decide) rfl rfl rfl ?_
  refine g_val rfl rfl rfl (fun _ _ => v_assign rfl) ?_
  refine g_nil ?_
  refine g_n_then ?_
  refine g_seq ?_
  refine g_draw none (.free 0 (.hoist 1 (.hoist 2 (.free 4 (.free 5 (.free 6 (.hoist 7 (.free 8 (.free 9 (.hoist 10 (.one 3 (.one 11 (.one 12 (.free 13 .done)))))))))))))) (HV _ _ [(b, .cells #[slv l_1.1.q l_1.1.n l_1.1.cap, .int .i64 t31.r0.wind.lo, .int .i64 t31.r0.wind.hi, slv l_1.2.1.q l_1.2.1.n l_1.2.1.cap, slv l_1.2.2.q l_1.2.2.n l_1.2.2.cap] 29 (0, 0)), (l, .cells #[.slice qa0 na0 ca0, .int .i64 t31.b0_1, .int .u32 t31.b0_2] 138 (0, 0))] [⟨68, RW.enc t31.r0.table, l_1.1.sp, l_1.1.q⟩, ⟨3, RI.enc t31.r0.floors, l_1.2.1.sp, l_1.2.1.q⟩, ⟨51, RS.enc t31.r0.sills, l_1.2.2.sp, l_1.2.2.q⟩] _) rfl (by decide +kernel) (fun w k hh => hh.draw k) (fun w hh => hh.sel [1, 2] [0, 1, 2] 0 (by decide) (by decide) rfl rfl rfl) ?_
  refine p_free rfl rfl rfl rfl (fun _ _ => v_move rfl) ?_
  refine p_hoist rfl rfl rfl rfl (fun w hh => v_loadAgg (vs := [_, _, _, _, _]) (Try.isAgg29 w) (Try.sizeOf29 w) rfl (hh.cells 0 rfl rfl)) ?_
  refine p_hoist rfl rfl rfl rfl (fun w hh => v_loadAgg (vs := [_, _, _, _, _]) (Try.isAgg29 w) (Try.sizeOf29 w) rfl (hh.cells 0 rfl rfl)) ?_
  refine p_free rfl rfl rfl rfl (fun _ _ => v_move rfl) ?_
  refine p_free rfl rfl rfl rfl (fun w _ => v_fieldAddr 1 (Try.runUnderlying29 w) rfl (Try.sizeOf25 w) rfl) ?_
  refine p_free rfl rfl rfl rfl (fun w _ => v_fieldAddr 0 (Try.runUnderlying25 w) rfl (Try.sizeOf3 w) rfl) ?_
  refine p_hoist rfl rfl rfl rfl (fun w hh => v_load (Try.isAgg3 w) rfl (hh.cell 0 rfl rfl)) ?_
  refine p_free rfl rfl rfl rfl (fun w _ => v_fieldAddr 1 (Try.runUnderlying29 w) rfl (Try.sizeOf25 w) rfl) ?_
  refine p_free rfl rfl rfl rfl (fun w _ => v_fieldAddr 1 (Try.runUnderlying25 w) rfl (Try.sizeOf3 w) rfl) ?_
  refine p_hoist rfl rfl rfl rfl (fun w hh => v_load (Try.isAgg3 w) rfl (hh.cell 0 rfl rfl)) ?_
  refine p_one rfl ?_
  obtain ⟨t37, h11, hm⟩ := bindO hm
  refine g_callH [] [] rfl rfl rfl rfl rfl rfl rfl (fun a w => Try.call21 a w) (fun w hh => c_laurellaw01_gates t31.r0 (qA l_1.1.q) l_1.1.n l_1.1.cap (qA l_1.2.1.q) l_1.2.1.n l_1.2.1.cap (qA l_1.2.2.q) l_1.2.2.n l_1.2.2.cap w (HV.callee (S0 := []) (vs0 := []) hh (roC (hh.vsepA (S0 := []) (vs0 := []) 0 rfl h5) (roC (hh.vsepA (S0 := []) (vs0 := []) 1 rfl h6) (roC (hh.vsepA (S0 := []) (vs0 := []) 2 rfl h7) roN)))) (vlen RW h5 rfl) (AOK.q (vne h5)) (h5).hle (vlen RI h6 rfl) (AOK.q (vne h6)) (h6).hle (vlen RS h7 rfl) (AOK.q (vne h7)) (h7).hle h11) (fun l_3 h12 => ?_)
  have h13 := h12
  refine g_sel (S' := [_, _, _]) (vs' := [_, _, _, _]) [0, 1, 2] [0, 1, 2, 3] 0 (by decide) (by decide) rfl rfl rfl ?_
  refine p_next (fun w hh => hh.sel [1, 2] [1, 2, 3] 0 (by decide) (by decide) rfl rfl rfl) ?_
  refine p_one rfl ?_
  obtain ⟨t45, h14, hm⟩ := bindO hm
  refine g_callH [_] [] rfl rfl rfl rfl rfl rfl rfl (fun a w => Try.call20 a w) (fun w hh => c_laurelkit_Heap_From looks1 t33.t5_1 t33.t5_2 t31.r0.wind.lo t31.r0.wind.hi l_2 qa1 na1 ca1 w (HV.callee (S0 := [_]) (vs0 := []) hh (roC (hh.rsep (S0 := [_]) (vs0 := []) 1 rfl) roN)) hna1 hqa1 hla1 h14) (fun l_4 h15 => ?_)
  refine g_sel (S' := [_, _, _]) (vs' := [_, _, _, _]) [0, 1, 2] [0, 1, 2, 3] 0 (by decide) (by decide) rfl rfl rfl ?_
  refine p_next (fun w hh => hh.sel [1, 2] [1, 2, 3] 0 (by decide) (by decide) rfl rfl rfl) ?_
  refine p_one rfl ?_
  obtain ⟨t46, h16, hm⟩ := bindO hm
  refine g_callH [_] [] rfl rfl rfl rfl rfl rfl rfl (fun a w => Try.call22 a w) (fun w hh => c_laurellaw01_looked looks1 t45.h0_1 t45.h0_2 t31.r0 t37 t45.r0 5 l_2 qa1 na1 ca1 (qA l_1.1.q) l_1.1.n l_1.1.cap (qA l_1.2.1.q) l_1.2.1.n l_1.2.1.cap (qA l_1.2.2.q) l_1.2.2.n l_1.2.2.cap (qA l_3.q) l_3.n l_3.cap w (HV.callee (S0 := [_]) (vs0 := []) hh (roC (hh.rsep (S0 := [_]) (vs0 := []) 1 rfl) (roC (hh.vsepA (S0 := [_]) (vs0 := []) 1 rfl h5) (roC (hh.vsepA (S0 := [_]) (vs0 := []) 2 rfl h6) (roC (hh.vsepA (S0 := [_]) (vs0 := []) 3 rfl h7) (roC (hh.vsepA (S0 := [_]) (vs0 := []) 0 rfl h13) roN)))))) hna1 hqa1 hla1 (vlen RW h5 rfl) (AOK.q (vne h5)) (h5).hle (vlen RI h6 rfl) (AOK.q (vne h6)) (h6).hle (vlen RS h7 rfl) (AOK.q (vne h7)) (h7).hle (vlen RI h13 rfl) (AOK.q (vne h13)) (h13).hle h16) (fun l_5 h17 => ?_)
  have h18 := h17
  refine g_sel (S' := [_, _, _]) (vs' := [_, _, _, _, _]) [0, 1, 2] [0, 1, 2, 3, 4] 0 (by decide) (by decide) rfl rfl rfl ?_
  refine p_next (fun w hh => hh.sel [1, 2] [2, 3, 4] 0 (by decide) (by decide) rfl rfl rfl) ?_
  refine p_free rfl rfl rfl rfl (fun _ _ => v_assign rfl) ?_
  refine p_done ?_
  refine g_n_then ?_
  refine g_seq ?_
  refine g_seq ?_
  refine g_region ?_
  refine g_val rfl rfl rfl (fun w hh => v_loadAgg (vs := [_, _, _, _, _]) (Try.isAgg29 w) (Try.sizeOf29 w) rfl (hh.cells 1 rfl rfl)) ?_
  refine g_val rfl rfl rfl (fun _ _ => v_move rfl) ?_
  obtain ⟨t50, h19, hm⟩ := bindO hm
  refine g_callH [] [] rfl rfl rfl rfl rfl rfl rfl (fun a w => Try.call58 a w) (fun w hh => c_tide_Clash_1 t31.r0 t46.r0 l_1.1.q l_1.1.n l_1.1.cap l_1.2.1.q l_1.2.1.n l_1.2.1.cap l_1.2.2.q l_1.2.2.n l_1.2.2.cap l_5.q l_5.n l_5.cap w (HV.callee (S0 := []) (vs0 := []) hh (roC (hh.vsep (S0 := []) (vs0 := []) 2 rfl h5) (roC (hh.vsep (S0 := []) (vs0 := []) 3 rfl h6) (roC (hh.vsep (S0 := []) (vs0 := []) 4 rfl h7) (roC (hh.vsep (S0 := []) (vs0 := []) 0 rfl h18) roN))))) (vlen RW h5 rfl) (vne h5) (h5).hle (vlen RI h6 rfl) (vne h6) (h6).hle (vlen RS h7 rfl) (vne h7) (h7).hle (vlen RL h18 rfl) (vne h18) (h18).hle h19) (fun l_6 h20 => ?_)
  have h21 := h20
  refine g_sel (S' := [_, _, _]) (vs' := [_, _, _, _, _, _]) [0, 1, 2] [0, 1, 2, 3, 4, 5] 0 (by decide) (by decide) rfl rfl rfl ?_
  refine g_val rfl rfl rfl (fun _ _ => v_move rfl) ?_
  refine g_val rfl rfl rfl (fun _ _ => v_extract rfl rfl) ?_
  refine g_val rfl rfl rfl (fun _ _ => v_extract rfl rfl) ?_
  refine g_val rfl rfl rfl (fun _ _ => v_assign rfl) ?_
  refine g_val rfl rfl rfl (fun _ _ => v_assign rfl) ?_
  refine g_nil ?_
  refine g_n_then ?_
  refine g_seq ?_
  refine g_region ?_
  refine g_val rfl rfl rfl (fun _ _ => v_move rfl) ?_
  refine g_val rfl rfl rfl (fun _ _ => v_neq rfl rfl) ?_
  refine g_nil ?_
  refine g_n_then ?_
  refine g_cond rfl (fun h22 => ?_) (fun h22 => ?_)
  ·replace hm := ifF (of_ndec_true h22) hm
   refine g_seq ?_
   refine g_region ?_
   refine g_val rfl rfl rfl (fun _ _ => v_assign rfl) ?_
   refine g_nil ?_
   refine g_n_then ?_
   refine g_ret ?_
   refine g_r_then ?_
   obtain rfl := Option.some.inj hm
   refine g_done rfl (fun w hh => (.tmp rfl .nil)) (fun w hh => ⟨(), rfl, trivial, hh.sel [] [] 2 (by decide) (by decide) rfl rfl rfl⟩)
  ·replace hm := ifT (of_ndec_false h22) hm
   refine g_skip ?_
   refine g_n_then ?_
   refine g_seq ?_
   refine g_seq ?_
   refine g_region ?_
   refine g_val rfl rfl rfl (fun _ _ => v_move rfl) ?_
   refine g_val rfl rfl rfl (fun w _ => v_lenN (vlen RL h18 rfl) (Try.runUnderlying35 w) rfl) ?_
   refine g_val rfl rfl rfl (fun _ _ => v_move rfl) ?_
   refine g_nil ?_
   refine g_n_then ?_
   obtain ⟨o, h23, h24⟩ := bindO hm
   refine g_cut (ι := Unit) (fun l_7 => VOK 3 l_5.n l_5.cap (RL.enc o) l_5.sp l_5.q) (fun l_7 => [(7, ptr b 0), (9, slv l_5.q l_5.n l_5.cap)]) (fun l_7 => [(l_2, .cells #[.slice qa1 na1 ca1, .int .i64 t46.b0_1, .int .u32 t46.b0_2] 138 (0, 0)), (b, .cells #[slv l_1.1.q l_1.1.n l_1.1.cap, .int .i64 t31.r0.wind.lo, .int .i64 t31.r0.wind.hi, slv l_1.2.1.q l_1.2.1.n l_1.2.1.cap, slv l_1.2.2.q l_1.2.2.n l_1.2.2.cap] 29 (0, 0)), (l, .cells #[.slice qa0 na0 ca0, .int .i64 t31.b0_1, .int .u32 t31.b0_2] 138 (0, 0))]) (fun l_7 => [⟨89, RL.enc o, l_5.sp, l_5.q⟩, ⟨68, RW.enc t31.r0.table, l_1.1.sp, l_1.1.q⟩, ⟨3, RI.enc t31.r0.floors, l_1.2.1.sp, l_1.2.1.q⟩, ⟨51, RS.enc t31.r0.sills, l_1.2.2.sp, l_1.2.2.q⟩]) ?_ ?_
   ·replace hm := h23
    refine g_block ?_
    refine g_loopF (ι := Unit) hm (fun s l_8 => VOK 3 l_5.n l_5.cap (RL.enc s.r0) l_5.sp l_5.q) (fun s l_8 => [(2, .int .u8 turned2), (7, ptr b 0), (9, slv l_5.q l_5.n l_5.cap), (56, .int .i64 (t46.r0.length : Int)), (57, .int .i64 s.t57)]) (fun s l_8 => [(l_2, .cells #[.slice qa1 na1 ca1, .int .i64 t46.b0_1, .int .u32 t46.b0_2] 138 (0, 0)), (b, .cells #[slv l_1.1.q l_1.1.n l_1.1.cap, .int .i64 t31.r0.wind.lo, .int .i64 t31.r0.wind.hi, slv l_1.2.1.q l_1.2.1.n l_1.2.1.cap, slv l_1.2.2.q l_1.2.2.n l_1.2.2.cap] 29 (0, 0)), (l, .cells #[.slice qa0 na0 ca0, .int .i64 t31.b0_1, .int .u32 t31.b0_2] 138 (0, 0))]) (fun s l_8 => [⟨89, RL.enc s.r0, l_5.sp, l_5.q⟩, ⟨68, RW.enc t31.r0.table, l_1.1.sp, l_1.1.q⟩, ⟨3, RI.enc t31.r0.floors, l_1.2.1.sp, l_1.2.1.q⟩, ⟨51, RS.enc t31.r0.sills, l_1.2.2.sp, l_1.2.2.q⟩]) () (h18) ((.cons rfl (.cons rfl (.cons rfl (.cons rfl (.cons rfl .nil)))))) (fun w hh => hh.sel [0, 1, 2] [1, 3, 4, 5] 0 (by decide) (by decide) rfl rfl rfl) (fun s l_8 r hpl hm h27 => ?_)
    have h26 := hpl
    unfold m_laurellaw01_TideLooked_L0 at hm
    refine g_seq ?_
    refine g_region ?_
    refine g_val rfl rfl rfl (fun _ _ => v_lss rfl rfl) ?_
    refine g_nil ?_
    refine g_n_then ?_
    refine g_seq ?_
    refine g_cond rfl (fun h28 => ?_) (fun h28 => ?_)
    ·replace hm := ifT (of_decide_eq_true h28) hm
     refine g_skip ?_
     refine g_n_then ?_
     refine g_seq ?_
     obtain ⟨o_1, h29, h30⟩ := bindO hm
     refine g_cut (ι := Unit) (fun l_9 => VOK 3 l_5.n l_5.cap (RL.enc o_1) l_5.sp l_5.q) (fun l_9 => [(2, .int .u8 turned2), (7, ptr b 0), (9, slv l_5.q l_5.n l_5.cap), (56, .int .i64 (t46.r0.length : Int)), (57, .int .i64 s.t57)]) (fun l_9 => [(l_2, .cells #[.slice qa1 na1 ca1, .int .i64 t46.b0_1, .int .u32 t46.b0_2] 138 (0, 0)), (b, .cells #[slv l_1.1.q l_1.1.n l_1.1.cap, .int .i64 t31.r0.wind.lo, .int .i64 t31.r0.wind.hi, slv l_1.2.1.q l_1.2.1.n l_1.2.1.cap, slv l_1.2.2.q l_1.2.2.n l_1.2.2.cap] 29 (0, 0)), (l, .cells #[.slice qa0 na0 ca0, .int .i64 t31.b0_1, .int .u32 t31.b0_2] 138 (0, 0))]) (fun l_9 => [⟨89, RL.enc o_1, l_5.sp, l_5.q⟩, ⟨68, RW.enc t31.r0.table, l_1.1.sp, l_1.1.q⟩, ⟨3, RI.enc t31.r0.floors, l_1.2.1.sp, l_1.2.1.q⟩, ⟨51, RS.enc t31.r0.sills, l_1.2.2.sp, l_1.2.2.q⟩]) ?_ ?_
     ·replace hm := h29
      refine g_block ?_
      refine g_seq ?_
      refine g_region ?_
      refine g_val rfl rfl rfl (fun _ _ => v_move rfl) ?_
      refine g_val rfl rfl rfl (fun _ _ => v_assign rfl) ?_
      refine g_nil ?_
      refine g_n_then ?_
      refine g_seq ?_
      refine g_region ?_
      refine g_val rfl rfl rfl (fun _ _ => v_move rfl) ?_
      refine g_val rfl rfl rfl (fun _ _ => v_move rfl) ?_
      obtain ⟨h32, hm⟩ := ifO hm
      refine g_val rfl rfl rfl (fun _ _ => v_shr rfl rfl h32) ?_
      refine g_val rfl rfl rfl (fun _ _ => v_bits rfl rfl rfl) ?_
      refine g_val rfl rfl rfl (fun _ _ => v_eql rfl rfl) ?_
      refine g_nil ?_
      refine g_n_then ?_
      refine g_cond rfl (fun h33 => ?_) (fun h33 => ?_)
      ·replace hm := ifT (of_decide_eq_true h33) hm
       refine g_region ?_
       refine g_val rfl rfl rfl (fun _ _ => v_move rfl) ?_
       refine g_val rfl rfl rfl (fun _ _ => v_move rfl) ?_
       refine g_val rfl rfl rfl (fun _ _ => v_move rfl) ?_
       refine g_val rfl rfl rfl (fun _ _ => v_move rfl) ?_
       obtain ⟨t69, h34, hm⟩ := bindO hm
       refine g_val rfl rfl rfl (fun w _ => v_ixA h34 (Try.runUnderlying35 w) (Try.sizeOf89 w) rfl rfl (vlen RL h26 rfl) (vne h26)) ?_
       refine g_val rfl rfl rfl (fun w _ => v_fieldAddr 2 (Try.runUnderlying89 w) rfl (Try.sizeOf4 w) rfl) ?_
       refine g_val rfl rfl rfl (fun w hh => v_ldE RL 2 h34 (Try.isAgg4 w) rfl (hh.vseg 0 rfl h26) rfl rfl) ?_
       refine g_val rfl rfl rfl (fun _ _ => v_not rfl) ?_
       obtain ⟨t73, h35, hm⟩ := bindO hm
       refine g_val rfl rfl rfl (fun w _ => v_ixA h35 (Try.runUnderlying35 w) (Try.sizeOf89 w) rfl rfl (vlen RL h26 rfl) (vne h26)) ?_
       refine g_val rfl rfl rfl (fun w _ => v_fieldAddr 2 (Try.runUnderlying89 w) rfl (Try.sizeOf4 w) rfl) ?_
       obtain ⟨r0, hr0, hm⟩ := bindO hm
       refine g_vst RL 0 2 (⟨t73.min, t73.place, (!t69.wet)⟩ : Look) (fun w => Try.sizeOf4 w) rfl rfl rfl rfl h26 rfl rfl rfl h35 rfl rfl (Option.some.inj hr0) (fun h36 => ?_)
       refine g_sel (S' := [_, _, _]) (vs' := [_, _, _, _]) [0, 1, 2] [0, 1, 2, 3] 0 (by decide) (by decide) rfl rfl rfl ?_
       refine g_nil ?_
       refine g_n_blk ?_
       obtain rfl := Option.some.inj hm
       exact g_leaf () (h36) ((.cons rfl (.cons rfl (.cons rfl (.cons rfl (.cons rfl .nil)))))) (fun w hh => hh)
      ·replace hm := ifF (of_decide_eq_false h33) hm
       refine g_skip ?_
       refine g_n_blk ?_
       obtain rfl := Option.some.inj hm
       exact g_leaf () (h26) ((.cons rfl (.cons rfl (.cons rfl (.cons rfl (.cons rfl .nil)))))) (fun w hh => hh)
     ·intro l_9 hj
      have h31 := hj
      replace hm := h30
      refine g_n_then ?_
      refine g_region ?_
      obtain ⟨t75, h37, hm⟩ := bindO hm
      refine g_val rfl rfl rfl (fun _ _ => v_addc h37 rfl rfl) ?_
      refine g_val rfl rfl rfl (fun _ _ => v_move rfl) ?_
      refine g_nil ?_
      obtain rfl := Option.some.inj hm
      refine g_n_then ?_
      exact g_again' _ () rfl (h31) ((.cons rfl (.cons rfl (.cons rfl (.cons rfl (.cons rfl .nil)))))) (fun w hh => hh)
    ·replace hm := ifF (of_decide_eq_false h28) hm
     refine g_exit ?_
     refine g_x_then ?_
     refine g_x_then ?_
     refine g_x_blk ?_
     obtain rfl := Option.some.inj hm
     have hbo := h27 _ rfl
     subst hbo
     exact g_leaf () (h26) ((.cons rfl (.cons rfl .nil))) (fun w hh => hh)
   ·intro l_7 hj
    have h25 := hj
    replace hm := h24
    refine g_n_then ?_
    refine g_seq ?_
    refine g_region ?_
    refine g_val rfl rfl rfl (fun w _ => v_fieldAddr 1 (Try.runUnderlying29 w) rfl (Try.sizeOf25 w) rfl) ?_
    refine g_val rfl rfl rfl (fun w hh => v_loadAgg (vs := [_, _]) (Try.isAgg25 w) (Try.sizeOf25 w) rfl (hh.cells 1 rfl rfl)) ?_
    refine g_allocV (fun w => Try.zeroValue25 w) rfl (fun b_1 h38 => ?_)
    refine g_stSA (us := #[_, _]) (cs' := [_, _]) (S' := [_, _, _, _]) 0 (fun w => Try.sizeOf25 w) rfl rfl rfl rfl rfl rfl rfl ?_
    refine g_nil ?_
    refine g_n_then ?_
    refine g_seq ?_
    refine g_seq ?_
    refine g_region ?_
    refine g_val rfl rfl rfl (fun _ _ => v_move rfl) ?_
    refine g_val rfl rfl rfl (fun w _ => v_lenN (vlen RL h25 rfl) (Try.runUnderlying35 w) rfl) ?_
    refine g_val rfl rfl rfl (fun _ _ => v_move rfl) ?_
    refine g_nil ?_
    refine g_n_then ?_
    obtain ⟨o_2, h39, h40⟩ := bindO hm
    refine g_cut (ι := m_laurellaw01_TideLooked_C2) (fun j => o_2 = .inl j) (fun j => [(7, ptr b 0), (9, slv l_5.q l_5.n l_5.cap)]) (fun j => [(b_1, .cells #[.int .i64 j.now13_lo, .int .i64 j.now13_hi] 25 (0, 0)), (l_2, .cells #[.slice qa1 na1 ca1, .int .i64 t46.b0_1, .int .u32 t46.b0_2] 138 (0, 0)), (b, .cells #[slv l_1.1.q l_1.1.n l_1.1.cap, .int .i64 t31.r0.wind.lo, .int .i64 t31.r0.wind.hi, slv l_1.2.1.q l_1.2.1.n l_1.2.1.cap, slv l_1.2.2.q l_1.2.2.n l_1.2.2.cap] 29 (0, 0)), (l, .cells #[.slice qa0 na0 ca0, .int .i64 t31.b0_1, .int .u32 t31.b0_2] 138 (0, 0))]) (fun j => [⟨89, RL.enc o, l_5.sp, l_5.q⟩, ⟨68, RW.enc t31.r0.table, l_1.1.sp, l_1.1.q⟩, ⟨3, RI.enc t31.r0.floors, l_1.2.1.sp, l_1.2.1.q⟩, ⟨51, RS.enc t31.r0.sills, l_1.2.2.sp, l_1.2.2.q⟩]) ?_ ?_
    ·replace hm := h39
     refine g_block ?_
     refine g_loopF (ι := Unit) hm (fun s_1 l_10 => True) (fun s_1 l_10 => [(7, ptr b 0), (9, slv l_5.q l_5.n l_5.cap), (13, ptr b_1 0), (79, .int .i64 (o.length : Int)), (80, .int .i64 s_1.t80)]) (fun s_1 l_10 => [(b_1, .cells #[.int .i64 s_1.now13_lo, .int .i64 s_1.now13_hi] 25 (0, 0)), (l_2, .cells #[.slice qa1 na1 ca1, .int .i64 t46.b0_1, .int .u32 t46.b0_2] 138 (0, 0)), (b, .cells #[slv l_1.1.q l_1.1.n l_1.1.cap, .int .i64 t31.r0.wind.lo, .int .i64 t31.r0.wind.hi, slv l_1.2.1.q l_1.2.1.n l_1.2.1.cap, slv l_1.2.2.q l_1.2.2.n l_1.2.2.cap] 29 (0, 0)), (l, .cells #[.slice qa0 na0 ca0, .int .i64 t31.b0_1, .int .u32 t31.b0_2] 138 (0, 0))]) (fun s_1 l_10 => [⟨89, RL.enc o, l_5.sp, l_5.q⟩, ⟨68, RW.enc t31.r0.table, l_1.1.sp, l_1.1.q⟩, ⟨3, RI.enc t31.r0.floors, l_1.2.1.sp, l_1.2.1.q⟩, ⟨51, RS.enc t31.r0.sills, l_1.2.2.sp, l_1.2.2.q⟩]) () (trivial) ((.cons rfl (.cons rfl (.cons rfl (.cons rfl (.cons rfl .nil)))))) (fun w hh => hh) (fun s_1 l_10 r_1 hpl hm h41 => ?_)
     unfold m_laurellaw01_TideLooked_L1 at hm
     refine g_seq ?_
     refine g_region ?_
     refine g_val rfl rfl rfl (fun _ _ => v_lss rfl rfl) ?_
     refine g_nil ?_
     refine g_n_then ?_
     refine g_seq ?_
     refine g_cond rfl (fun h42 => ?_) (fun h42 => ?_)
     ·replace hm := ifT (of_decide_eq_true h42) hm
      refine g_skip ?_
      refine g_n_then ?_
      refine g_seq ?_
      refine g_block ?_
      refine g_seq ?_
      refine g_region ?_
      refine g_val rfl rfl rfl (fun _ _ => v_move rfl) ?_
      refine g_val rfl rfl rfl (fun _ _ => v_assign rfl) ?_
      refine g_nil ?_
      refine g_n_then ?_
      refine g_seq ?_
      obtain ⟨o_3, h43, h44⟩ := bindO hm
      refine g_cut (ι := Nat) (fun l_11 => True) (fun l_11 => [(7, ptr b 0), (9, slv l_5.q l_5.n l_5.cap), (13, ptr b_1 0), (15, ptr l_11 0), (16, .int .i64 o_3.e16), (79, .int .i64 (o.length : Int)), (80, .int .i64 s_1.t80)]) (fun l_11 => [(b_1, .cells #[.int .i64 s_1.now13_lo, .int .i64 s_1.now13_hi] 25 (0, 0)), (l_2, .cells #[.slice qa1 na1 ca1, .int .i64 t46.b0_1, .int .u32 t46.b0_2] 138 (0, 0)), (b, .cells #[slv l_1.1.q l_1.1.n l_1.1.cap, .int .i64 t31.r0.wind.lo, .int .i64 t31.r0.wind.hi, slv l_1.2.1.q l_1.2.1.n l_1.2.1.cap, slv l_1.2.2.q l_1.2.2.n l_1.2.2.cap] 29 (0, 0)), (l, .cells #[.slice qa0 na0 ca0, .int .i64 t31.b0_1, .int .u32 t31.b0_2] 138 (0, 0)), (l_11, .cells #[.int .i64 o_3.w15.lo, .int .i64 o_3.w15.hi] 25 (0, 0))]) (fun l_11 => [⟨89, RL.enc o, l_5.sp, l_5.q⟩, ⟨68, RW.enc t31.r0.table, l_1.1.sp, l_1.1.q⟩, ⟨3, RI.enc t31.r0.floors, l_1.2.1.sp, l_1.2.1.q⟩, ⟨51, RS.enc t31.r0.sills, l_1.2.2.sp, l_1.2.2.q⟩]) ?_ ?_
      ·replace hm := h43
       obtain ⟨t87, h45, hm⟩ := bindO hm
       obtain ⟨h46, hm⟩ := ifO hm
       obtain ⟨t89, h47, hm⟩ := bindO hm
       refine g_draw none (.hoist 0 (.free 1 (.free 2 (.free 3 (.free 4 (.br (.alt 5 (.free 6 (.free 7 (.free 8 (.one 9 (.one 10 (.free 11 .done)))))) (.alt 9 (.one 5 (.free 6 (.free 7 (.free 8 (.one 10 (.free 11 .done)))))) .nil)))))))) _ rfl (by decide +kernel) (fun w k hh => hh.draw k) (fun w hh => hh) ?_
       refine p_hoist rfl rfl rfl rfl (fun w hh => v_loadAgg (vs := [_, _, _, _, _]) (Try.isAgg29 w) (Try.sizeOf29 w) rfl (hh.cells 2 rfl rfl)) ?_
       refine p_free rfl rfl rfl rfl (fun _ _ => v_move rfl) ?_
       refine p_free rfl rfl rfl rfl (fun _ _ => v_move rfl) ?_
       refine p_free rfl rfl rfl rfl (fun _ _ => v_addc h45 rfl rfl) ?_
       refine p_free rfl rfl rfl rfl (fun w _ => v_slicePre (Try.runUnderlying35 w) (Try.sizeOf89 w) rfl rfl h46.1 (pre_hle (vlen RL h25 rfl) h46 (h25).hle)) ?_
       refine p_br ?_
       refine p_alt rfl ?_ ?_
       ·refine g_callH [] [] rfl rfl rfl rfl rfl rfl rfl (fun a w => Try.call23 a w) (fun w hh => cx_Looks t31.r0 (o.take (Int.toNat t87)) l_1.1.q l_1.1.n l_1.1.cap l_1.2.1.q l_1.2.1.n l_1.2.1.cap l_1.2.2.q l_1.2.2.n l_1.2.2.cap l_5.q (Int.toNat t87) l_5.cap w (HV.callee (S0 := []) (vs0 := []) hh (roC (hh.vsep (S0 := []) (vs0 := []) 1 rfl h5) (roC (hh.vsep (S0 := []) (vs0 := []) 2 rfl h6) (roC (hh.vsep (S0 := []) (vs0 := []) 3 rfl h7) (roC (presep RL (Int.toNat t87) (hh.vsep (S0 := []) (vs0 := []) 0 rfl h25)) roN))))) (vlen RW h5 rfl) (vne h5) (h5).hle (vlen RI h6 rfl) (vne h6) (h6).hle (vlen RS h7 rfl) (vne h7) (h7).hle (pre_hn (vlen RL h25 rfl) h46) (pre_hne (vlen RL h25 rfl) h46 (vne h25)) (pre_hle (vlen RL h25 rfl) h46 (h25).hle) h47) (fun l_12 h48 => ?_)
        refine p_next (fun w hh => hh) ?_
        refine p_free rfl rfl rfl rfl (fun _ _ => v_move rfl) ?_
        refine p_free rfl rfl rfl rfl (fun _ _ => v_extract rfl rfl) ?_
        refine p_free rfl rfl rfl rfl (fun _ _ => v_extract rfl rfl) ?_
        refine p_one rfl ?_
        refine g_allocV (fun w => Try.zeroValue25 w) rfl (fun b_2 h49 => ?_)
        refine p_next (fun w hh => hh.sel [1, 2, 3, 4] [0, 1, 2, 3] 0 (by decide) (by decide) rfl rfl rfl) ?_
        refine p_one rfl ?_
        refine g_stSA (us := #[_, _]) (cs' := [_, _]) (S' := [_, _, _, _, _]) 0 (fun w => Try.sizeOf25 w) rfl rfl rfl rfl rfl rfl rfl ?_
        refine p_next (fun w hh => hh.sel [1, 2, 3, 4] [0, 1, 2, 3] 0 (by decide) (by decide) rfl rfl rfl) ?_
        refine p_free rfl rfl rfl rfl (fun _ _ => v_assign rfl) ?_
        refine p_done ?_
        obtain rfl := Option.some.inj hm
        exact g_leaf b_2 (trivial) ((.cons rfl (.cons rfl (.cons rfl (.cons rfl (.cons rfl (.cons rfl (.cons rfl .nil)))))))) (fun w hh => hh.sel [1, 2, 3, 4, 0] [0, 1, 2, 3] 0 (by decide) (by decide) rfl rfl rfl)
       refine p_alt rfl ?_ ?_
       ·refine g_allocV (fun w => Try.zeroValue25 w) rfl (fun b_3 h50 => ?_)
        refine p_next (fun w hh => hh.sel [1, 2, 3, 4] [0, 1, 2, 3] 0 (by decide) (by decide) rfl rfl rfl) ?_
        refine p_one rfl ?_
        refine g_callH [] [] rfl rfl rfl rfl rfl rfl rfl (fun a w => Try.call23 a w) (fun w hh => cx_Looks t31.r0 (o.take (Int.toNat t87)) l_1.1.q l_1.1.n l_1.1.cap l_1.2.1.q l_1.2.1.n l_1.2.1.cap l_1.2.2.q l_1.2.2.n l_1.2.2.cap l_5.q (Int.toNat t87) l_5.cap w (HV.callee (S0 := []) (vs0 := []) hh (roC (hh.vsep (S0 := []) (vs0 := []) 1 rfl h5) (roC (hh.vsep (S0 := []) (vs0 := []) 2 rfl h6) (roC (hh.vsep (S0 := []) (vs0 := []) 3 rfl h7) (roC (presep RL (Int.toNat t87) (hh.vsep (S0 := []) (vs0 := []) 0 rfl h25)) roN))))) (vlen RW h5 rfl) (vne h5) (h5).hle (vlen RI h6 rfl) (vne h6) (h6).hle (vlen RS h7 rfl) (vne h7) (h7).hle (pre_hn (vlen RL h25 rfl) h46) (pre_hne (vlen RL h25 rfl) h46 (vne h25)) (pre_hle (vlen RL h25 rfl) h46 (h25).hle) h47) (fun l_13 h51 => ?_)
        refine p_next (fun w hh => hh.sel [1, 2, 3, 4] [0, 1, 2, 3] 0 (by decide) (by decide) rfl rfl rfl) ?_
        refine p_free rfl rfl rfl rfl (fun _ _ => v_move rfl) ?_
        refine p_free rfl rfl rfl rfl (fun _ _ => v_extract rfl rfl) ?_
        refine p_free rfl rfl rfl rfl (fun _ _ => v_extract rfl rfl) ?_
        refine p_one rfl ?_
        refine g_stSA (us := #[_, _]) (cs' := [_, _]) (S' := [_, _, _, _, _]) 0 (fun w => Try.sizeOf25 w) rfl rfl rfl rfl rfl rfl rfl ?_
        refine p_next (fun w hh => hh.sel [1, 2, 3, 4] [0, 1, 2, 3] 0 (by decide) (by decide) rfl rfl rfl) ?_
        refine p_free rfl rfl rfl rfl (fun _ _ => v_assign rfl) ?_
        refine p_done ?_
        obtain rfl := Option.some.inj hm
        exact g_leaf b_3 (trivial) ((.cons rfl (.cons rfl (.cons rfl (.cons rfl (.cons rfl (.cons rfl (.cons rfl .nil)))))))) (fun w hh => hh.sel [1, 2, 3, 4, 0] [0, 1, 2, 3] 0 (by decide) (by decide) rfl rfl rfl)
       exact p_nil
      ·intro l_11 hj
       replace hm := h44
       refine g_n_then ?_
       refine g_seq ?_
       refine g_seq ?_
       refine g_region ?_
       refine g_val rfl rfl rfl (fun _ _ => v_move rfl) ?_
       refine g_val rfl rfl rfl (fun _ _ => v_eql rfl rfl) ?_
       refine g_nil ?_
       refine g_n_then ?_
       refine g_cond rfl (fun h52 => ?_) (fun h52 => ?_)
       ·replace hm := ifT (of_decide_eq_true h52) hm
        refine g_exit ?_
        refine g_x_then ?_
        refine g_x_out rfl ?_
        refine g_x_then ?_
        refine g_x_then ?_
        refine g_x_blk ?_
        obtain rfl := Option.some.inj hm
        have hbo := h41 _ rfl
        subst hbo
        exact g_leaf (⟨s_1.now13_lo, s_1.now13_hi⟩ : m_laurellaw01_TideLooked_C2) (rfl) ((.cons rfl (.cons rfl .nil))) (fun w hh => hh.sel [0, 1, 2, 3] [0, 1, 2, 3] 0 (by decide) (by decide) rfl rfl rfl)
       ·replace hm := ifF (of_decide_eq_false h52) hm
        refine g_skip ?_
        refine g_n_then ?_
        refine g_seq ?_
        refine g_seq ?_
        obtain ⟨o_4, h53, h54⟩ := bindO hm
        refine g_cut (ι := Unit) (fun l_14 => True) (fun l_14 => [(7, ptr b 0), (9, slv l_5.q l_5.n l_5.cap), (13, ptr b_1 0), (15, ptr l_11 0), (79, .int .i64 (o.length : Int)), (80, .int .i64 s_1.t80), (116, .bool o_4)]) (fun l_14 => [(b_1, .cells #[.int .i64 s_1.now13_lo, .int .i64 s_1.now13_hi] 25 (0, 0)), (l_2, .cells #[.slice qa1 na1 ca1, .int .i64 t46.b0_1, .int .u32 t46.b0_2] 138 (0, 0)), (b, .cells #[slv l_1.1.q l_1.1.n l_1.1.cap, .int .i64 t31.r0.wind.lo, .int .i64 t31.r0.wind.hi, slv l_1.2.1.q l_1.2.1.n l_1.2.1.cap, slv l_1.2.2.q l_1.2.2.n l_1.2.2.cap] 29 (0, 0)), (l, .cells #[.slice qa0 na0 ca0, .int .i64 t31.b0_1, .int .u32 t31.b0_2] 138 (0, 0)), (l_11, .cells #[.int .i64 o_3.w15.lo, .int .i64 o_3.w15.hi] 25 (0, 0))]) (fun l_14 => [⟨89, RL.enc o, l_5.sp, l_5.q⟩, ⟨68, RW.enc t31.r0.table, l_1.1.sp, l_1.1.q⟩, ⟨3, RI.enc t31.r0.floors, l_1.2.1.sp, l_1.2.1.q⟩, ⟨51, RS.enc t31.r0.sills, l_1.2.2.sp, l_1.2.2.q⟩]) ?_ ?_
        ·replace hm := h53
         refine g_region ?_
         refine g_val rfl rfl rfl (fun _ _ => v_move rfl) ?_
         refine g_val rfl rfl rfl (fun _ _ => v_neq rfl rfl) ?_
         refine g_val rfl rfl rfl (fun _ _ => v_move rfl) ?_
         refine g_case 96 rfl (fun h55 => ?_) (fun h55 => ?_)
         ·replace hm := ifF (of_ndec_true h55) hm
          refine g_skipG rfl rfl rfl rfl rfl rfl ?_
          refine g_skipG rfl rfl rfl rfl rfl rfl ?_
          refine g_skipG rfl rfl rfl rfl rfl rfl ?_
          refine g_skipG rfl rfl rfl rfl rfl rfl ?_
          refine g_skipG rfl rfl rfl rfl rfl rfl ?_
          refine g_val rfl rfl rfl (fun _ _ => v_pickT rfl rfl) ?_
          refine g_val rfl rfl rfl (fun _ _ => v_move rfl) ?_
          refine g_skipG rfl rfl rfl rfl rfl rfl ?_
          refine g_skipG rfl rfl rfl rfl rfl rfl ?_
          refine g_skipG rfl rfl rfl rfl rfl rfl ?_
          refine g_skipG rfl rfl rfl rfl rfl rfl ?_
          refine g_skipG rfl rfl rfl rfl rfl rfl ?_
          refine g_val rfl rfl rfl (fun _ _ => v_pickT rfl rfl) ?_
          refine g_val rfl rfl rfl (fun _ _ => v_move rfl) ?_
          refine g_skipG rfl rfl rfl rfl rfl rfl ?_
          refine g_skipG rfl rfl rfl rfl rfl rfl ?_
          refine g_skipG rfl rfl rfl rfl rfl rfl ?_
          refine g_skipG rfl rfl rfl rfl rfl rfl ?_
          refine g_skipG rfl rfl rfl rfl rfl rfl ?_
          refine g_val rfl rfl rfl (fun _ _ => v_pickT rfl rfl) ?_
          refine g_nil ?_
          obtain rfl := Option.some.inj hm
          exact g_leaf () (trivial) ((.cons rfl (.cons rfl (.cons rfl (.cons rfl (.cons rfl (.cons rfl (.cons rfl .nil)))))))) (fun w hh => hh)
         ·replace hm := ifT (of_ndec_false h55) hm
          refine v_unguard rfl rfl ?_
          refine g_val rfl rfl rfl (fun w _ => v_fieldAddr 0 (Try.runUnderlying25 w) rfl (Try.sizeOf3 w) rfl) ?_
          refine v_unguard rfl rfl ?_
          refine g_val rfl rfl rfl (fun w hh => v_load (Try.isAgg3 w) rfl (hh.cell 4 rfl rfl)) ?_
          refine v_unguard rfl rfl ?_
          refine g_val rfl rfl rfl (fun w _ => v_fieldAddr 0 (Try.runUnderlying25 w) rfl (Try.sizeOf3 w) rfl) ?_
          refine v_unguard rfl rfl ?_
          refine g_val rfl rfl rfl (fun w hh => v_load (Try.isAgg3 w) rfl (hh.cell 0 rfl rfl)) ?_
          refine v_unguard rfl rfl ?_
          refine g_val rfl rfl rfl (fun _ _ => v_lss rfl rfl) ?_
          refine g_val rfl rfl rfl (fun _ _ => v_pickF rfl rfl) ?_
          refine g_val rfl rfl rfl (fun _ _ => v_move rfl) ?_
          refine g_case 103 rfl (fun h56 => ?_) (fun h56 => ?_)
          ·replace hm := ifT (of_decide_eq_true h56) hm
           refine g_skipG rfl rfl rfl rfl rfl rfl ?_
           refine g_skipG rfl rfl rfl rfl rfl rfl ?_
           refine g_skipG rfl rfl rfl rfl rfl rfl ?_
           refine g_skipG rfl rfl rfl rfl rfl rfl ?_
           refine g_skipG rfl rfl rfl rfl rfl rfl ?_
           refine g_val rfl rfl rfl (fun _ _ => v_pickT rfl rfl) ?_
           refine g_val rfl rfl rfl (fun _ _ => v_move rfl) ?_
           refine g_skipG rfl rfl rfl rfl rfl rfl ?_
           refine g_skipG rfl rfl rfl rfl rfl rfl ?_
           refine g_skipG rfl rfl rfl rfl rfl rfl ?_
           refine g_skipG rfl rfl rfl rfl rfl rfl ?_
           refine g_skipG rfl rfl rfl rfl rfl rfl ?_
           refine g_val rfl rfl rfl (fun _ _ => v_pickT rfl rfl) ?_
           refine g_nil ?_
           obtain rfl := Option.some.inj hm
           exact g_leaf () (trivial) ((.cons rfl (.cons rfl (.cons rfl (.cons rfl (.cons rfl (.cons rfl (.cons rfl .nil)))))))) (fun w hh => hh)
          ·replace hm := ifF (of_decide_eq_false h56) hm
           refine v_unguard rfl rfl ?_
           refine g_val rfl rfl rfl (fun w _ => v_fieldAddr 1 (Try.runUnderlying25 w) rfl (Try.sizeOf3 w) rfl) ?_
           refine v_unguard rfl rfl ?_
           refine g_val rfl rfl rfl (fun w hh => v_load (Try.isAgg3 w) rfl (hh.cell 4 rfl rfl)) ?_
           refine v_unguard rfl rfl ?_
           refine g_val rfl rfl rfl (fun w _ => v_fieldAddr 1 (Try.runUnderlying25 w) rfl (Try.sizeOf3 w) rfl) ?_
           refine v_unguard rfl rfl ?_
           refine g_val rfl rfl rfl (fun w hh => v_load (Try.isAgg3 w) rfl (hh.cell 0 rfl rfl)) ?_
           refine v_unguard rfl rfl ?_
           refine g_val rfl rfl rfl (fun _ _ => v_gtr rfl rfl) ?_
           refine g_val rfl rfl rfl (fun _ _ => v_pickF rfl rfl) ?_
           refine g_val rfl rfl rfl (fun _ _ => v_move rfl) ?_
           refine g_case 110 rfl (fun h57 => ?_) (fun h57 => ?_)
           ·replace hm := ifT (of_decide_eq_true h57) hm
            refine g_skipG rfl rfl rfl rfl rfl rfl ?_
            refine g_skipG rfl rfl rfl rfl rfl rfl ?_
            refine g_skipG rfl rfl rfl rfl rfl rfl ?_
            refine g_skipG rfl rfl rfl rfl rfl rfl ?_
            refine g_skipG rfl rfl rfl rfl rfl rfl ?_
            refine g_val rfl rfl rfl (fun _ _ => v_pickT rfl rfl) ?_
            refine g_nil ?_
            obtain rfl := Option.some.inj hm
            exact g_leaf () (trivial) ((.cons rfl (.cons rfl (.cons rfl (.cons rfl (.cons rfl (.cons rfl (.cons rfl .nil)))))))) (fun w hh => hh)
           ·replace hm := ifF (of_decide_eq_false h57) hm
            refine v_unguard rfl rfl ?_
            refine g_val rfl rfl rfl (fun w _ => v_fieldAddr 0 (Try.runUnderlying25 w) rfl (Try.sizeOf3 w) rfl) ?_
            refine v_unguard rfl rfl ?_
            refine g_val rfl rfl rfl (fun w hh => v_load (Try.isAgg3 w) rfl (hh.cell 4 rfl rfl)) ?_
            refine v_unguard rfl rfl ?_
            refine g_val rfl rfl rfl (fun w _ => v_fieldAddr 1 (Try.runUnderlying25 w) rfl (Try.sizeOf3 w) rfl) ?_
            refine v_unguard rfl rfl ?_
            refine g_val rfl rfl rfl (fun w hh => v_load (Try.isAgg3 w) rfl (hh.cell 4 rfl rfl)) ?_
            refine v_unguard rfl rfl ?_
            refine g_val rfl rfl rfl (fun _ _ => v_gtr rfl rfl) ?_
            refine g_val rfl rfl rfl (fun _ _ => v_pickF rfl rfl) ?_
            refine g_nil ?_
            obtain rfl := Option.some.inj hm
            exact g_leaf () (trivial) ((.cons rfl (.cons rfl (.cons rfl (.cons rfl (.cons rfl (.cons rfl (.cons rfl .nil)))))))) (fun w hh => hh)
        ·intro l_14 hj
         replace hm := h54
         refine g_n_then ?_
         refine g_cond rfl (fun h58 => ?_) (fun h58 => ?_)
         ·replace hm := ifT (h58) hm
          refine g_seq ?_
          refine g_region ?_
          refine g_val rfl rfl rfl (fun _ _ => v_assign rfl) ?_
          refine g_nil ?_
          refine g_n_then ?_
          refine g_ret ?_
          refine g_r_then ?_
          refine g_r_blk ?_
          refine g_r_then ?_
          refine g_r_then ?_
          refine g_r_blk ?_
          obtain rfl := Option.some.inj hm
          have hbo := h41 _ rfl
          subst hbo
          refine g_r_then ?_
          replace hm := ocR h40
          refine g_r_then ?_
          obtain rfl := Option.some.inj hm
          refine g_done rfl (fun w hh => (.tmp rfl .nil)) (fun w hh => ⟨(), rfl, trivial, hh.sel [] [] 2 (by decide) (by decide) rfl rfl rfl⟩)
         ·replace hm := ifF ((fun hh => Bool.noConfusion ((h58).symm.trans hh))) hm
          refine g_skip ?_
          refine g_n_then ?_
          refine g_region ?_
          refine g_val rfl rfl rfl (fun w hh => v_loadAgg (vs := [_, _]) (Try.isAgg25 w) (Try.sizeOf25 w) rfl (hh.cells 4 rfl rfl)) ?_
          refine g_stSA (us := #[_, _]) (cs' := [_, _]) (S' := [_, _, _, _, _]) 0 (fun w => Try.sizeOf25 w) rfl rfl rfl rfl rfl rfl rfl ?_
          refine g_nil ?_
          refine g_n_blk ?_
          refine g_n_then ?_
          refine g_region ?_
          obtain ⟨t118, h59, hm⟩ := bindO hm
          refine g_val rfl rfl rfl (fun _ _ => v_addc h59 rfl rfl) ?_
          refine g_val rfl rfl rfl (fun _ _ => v_move rfl) ?_
          refine g_nil ?_
          obtain rfl := Option.some.inj hm
          refine g_n_then ?_
          exact g_again' _ () rfl (trivial) ((.cons rfl (.cons rfl (.cons rfl (.cons rfl (.cons rfl .nil)))))) (fun w hh => hh.sel [0, 1, 2, 3] [0, 1, 2, 3] 0 (by decide) (by decide) rfl rfl rfl)
     ·replace hm := ifF (of_decide_eq_false h42) hm
      refine g_exit ?_
      refine g_x_then ?_
      refine g_x_then ?_
      refine g_x_blk ?_
      obtain rfl := Option.some.inj hm
      have hbo := h41 _ rfl
      subst hbo
      exact g_leaf (⟨s_1.now13_lo, s_1.now13_hi⟩ : m_laurellaw01_TideLooked_C2) (rfl) ((.cons rfl (.cons rfl .nil))) (fun w hh => hh)
    ·intro j hj
     have h60 := hj
     subst h60
     replace hm := ocL h40
     refine g_n_then ?_
     refine g_seq ?_
     refine g_region ?_
     refine g_val rfl rfl rfl (fun w hh => v_loadAgg (vs := [_, _, _, _, _]) (Try.isAgg29 w) (Try.sizeOf29 w) rfl (hh.cells 2 rfl rfl)) ?_
     refine g_val rfl rfl rfl (fun _ _ => v_move rfl) ?_
     obtain ⟨t122, h61, hm⟩ := bindO hm
     refine g_callH [] [] rfl rfl rfl rfl rfl rfl rfl (fun a w => Try.call23 a w) (fun w hh => cx_Looks t31.r0 o l_1.1.q l_1.1.n l_1.1.cap l_1.2.1.q l_1.2.1.n l_1.2.1.cap l_1.2.2.q l_1.2.2.n l_1.2.2.cap l_5.q l_5.n l_5.cap w (HV.callee (S0 := []) (vs0 := []) hh (roC (hh.vsep (S0 := []) (vs0 := []) 1 rfl h5) (roC (hh.vsep (S0 := []) (vs0 := []) 2 rfl h6) (roC (hh.vsep (S0 := []) (vs0 := []) 3 rfl h7) (roC (hh.vsep (S0 := []) (vs0 := []) 0 rfl h25) roN))))) (vlen RW h5 rfl) (vne h5) (h5).hle (vlen RI h6 rfl) (vne h6) (h6).hle (vlen RS h7 rfl) (vne h7) (h7).hle (vlen RL h25 rfl) (vne h25) (h25).hle h61) (fun l_15 h62 => ?_)
     refine g_val rfl rfl rfl (fun _ _ => v_move rfl) ?_
     refine g_val rfl rfl rfl (fun _ _ => v_extract rfl rfl) ?_
     refine g_val rfl rfl rfl (fun _ _ => v_extract rfl rfl) ?_
     refine g_allocV (fun w => Try.zeroValue25 w) rfl (fun b_4 h63 => ?_)
     refine g_stSA (us := #[_, _]) (cs' := [_, _]) (S' := [_, _, _, _, _]) 0 (fun w => Try.sizeOf25 w) rfl rfl rfl rfl rfl rfl rfl ?_
     refine g_val rfl rfl rfl (fun _ _ => v_assign rfl) ?_
     refine g_nil ?_
     refine g_n_then ?_
     refine g_seq ?_
     refine g_region ?_
     refine g_val rfl rfl rfl (fun w hh => v_loadAgg (vs := [_, _, _, _, _]) (Try.isAgg29 w) (Try.sizeOf29 w) rfl (hh.cells 3 rfl rfl)) ?_
     refine g_val rfl rfl rfl (fun _ _ => v_move rfl) ?_
     obtain ⟨t128, h64, hm⟩ := bindO hm
     refine g_callH [] [] rfl rfl rfl rfl rfl rfl rfl (fun a w => Try.call58 a w) (fun w hh => c_tide_Clash_1 t31.r0 o l_1.1.q l_1.1.n l_1.1.cap l_1.2.1.q l_1.2.1.n l_1.2.1.cap l_1.2.2.q l_1.2.2.n l_1.2.2.cap l_5.q l_5.n l_5.cap w (HV.callee (S0 := []) (vs0 := []) hh (roC (hh.vsep (S0 := []) (vs0 := []) 1 rfl h5) (roC (hh.vsep (S0 := []) (vs0 := []) 2 rfl h6) (roC (hh.vsep (S0 := []) (vs0 := []) 3 rfl h7) (roC (hh.vsep (S0 := []) (vs0 := []) 0 rfl h25) roN))))) (vlen RW h5 rfl) (vne h5) (h5).hle (vlen RI h6 rfl) (vne h6) (h6).hle (vlen RS h7 rfl) (vne h7) (h7).hle (vlen RL h25 rfl) (vne h25) (h25).hle h64) (fun l_16 h65 => ?_)
     have h66 := h65
     refine g_sel (S' := [_, _, _, _, _]) (vs' := [_, _, _, _, _]) [0, 1, 2, 3, 4] [0, 1, 2, 3, 4] 0 (by decide) (by decide) rfl rfl rfl ?_
     refine g_val rfl rfl rfl (fun _ _ => v_move rfl) ?_
     refine g_val rfl rfl rfl (fun _ _ => v_extract rfl rfl) ?_
     refine g_val rfl rfl rfl (fun _ _ => v_extract rfl rfl) ?_
     refine g_val rfl rfl rfl (fun _ _ => v_assign rfl) ?_
     refine g_val rfl rfl rfl (fun _ _ => v_assign rfl) ?_
     refine g_nil ?_
     refine g_n_then ?_
     refine g_seq ?_
     refine g_seq ?_
     obtain ⟨o_5, h67, h68⟩ := bindO hm
     refine g_cut (ι := Unit) (fun l_17 => True) (fun l_17 => [(7, ptr b 0), (9, slv l_5.q l_5.n l_5.cap), (19, slv l_16.q l_16.n l_16.cap), (20, .int .i64 t128.r1), (151, .bool o_5)]) (fun l_17 => [(b_4, .cells #[.int .i64 t122.1.lo, .int .i64 t122.1.hi] 25 (0, 0)), (b_1, .cells #[.int .i64 j.now13_lo, .int .i64 j.now13_hi] 25 (0, 0)), (l_2, .cells #[.slice qa1 na1 ca1, .int .i64 t46.b0_1, .int .u32 t46.b0_2] 138 (0, 0)), (b, .cells #[slv l_1.1.q l_1.1.n l_1.1.cap, .int .i64 t31.r0.wind.lo, .int .i64 t31.r0.wind.hi, slv l_1.2.1.q l_1.2.1.n l_1.2.1.cap, slv l_1.2.2.q l_1.2.2.n l_1.2.2.cap] 29 (0, 0)), (l, .cells #[.slice qa0 na0 ca0, .int .i64 t31.b0_1, .int .u32 t31.b0_2] 138 (0, 0))]) (fun l_17 => [⟨89, RL.enc o, l_5.sp, l_5.q⟩, ⟨3, RI.enc t128.r0, l_16.sp, l_16.q⟩, ⟨68, RW.enc t31.r0.table, l_1.1.sp, l_1.1.q⟩, ⟨3, RI.enc t31.r0.floors, l_1.2.1.sp, l_1.2.1.q⟩, ⟨51, RS.enc t31.r0.sills, l_1.2.2.sp, l_1.2.2.q⟩]) ?_ ?_
     ·replace hm := h67
      refine g_region ?_
      refine g_val rfl rfl rfl (fun _ _ => v_move rfl) ?_
      refine g_val rfl rfl rfl (fun _ _ => v_eql rfl rfl) ?_
      refine g_val rfl rfl rfl (fun _ _ => v_move rfl) ?_
      refine g_val rfl rfl rfl (fun _ _ => v_eql rfl rfl) ?_
      refine g_val rfl rfl rfl (fun w _ => v_neqBool (Try.runUnderlying4 w) rfl rfl) ?_
      refine g_val rfl rfl rfl (fun _ _ => v_move rfl) ?_
      refine g_case 136 rfl (fun h69 => ?_) (fun h69 => ?_)
      ·replace hm := ifT (h69) hm
       refine g_skipG rfl rfl rfl rfl rfl rfl ?_
       refine g_skipG rfl rfl rfl rfl rfl rfl ?_
       refine g_skipG rfl rfl rfl rfl rfl rfl ?_
       refine g_skipU' rfl rfl rfl rfl rfl ?_
       refine g_skipU' rfl rfl rfl rfl rfl ?_
       refine g_skipG rfl rfl rfl rfl rfl rfl ?_
       refine g_val rfl rfl rfl (fun _ _ => v_pickT rfl rfl) ?_
       refine g_val rfl rfl rfl (fun _ _ => v_move rfl) ?_
       refine g_skipG rfl rfl rfl rfl rfl rfl ?_
       refine g_skipG rfl rfl rfl rfl rfl rfl ?_
       refine g_skipG rfl rfl rfl rfl rfl rfl ?_
       refine g_skipU' rfl rfl rfl rfl rfl ?_
       refine g_skipU' rfl rfl rfl rfl rfl ?_
       refine g_skipG rfl rfl rfl rfl rfl rfl ?_
       refine g_val rfl rfl rfl (fun _ _ => v_pickT rfl rfl) ?_
       refine g_nil ?_
       obtain rfl := Option.some.inj hm
       exact g_leaf () (trivial) ((.cons rfl (.cons rfl (.cons rfl (.cons rfl (.cons rfl .nil)))))) (fun w hh => hh.sel [0, 1, 2, 3, 4] [1, 0, 2, 3, 4] 0 (by decide) (by decide) rfl rfl rfl)
      ·replace hm := ifF ((fun hh => Bool.noConfusion ((h69).symm.trans hh))) hm
       refine v_unguard rfl rfl ?_
       refine g_val rfl rfl rfl (fun _ _ => v_move rfl) ?_
       refine v_unguard rfl rfl ?_
       refine g_val rfl rfl rfl (fun _ _ => v_neq rfl rfl) ?_
       refine v_unguard rfl rfl ?_
       refine g_val rfl rfl rfl (fun _ _ => v_move rfl) ?_
       refine g_case 139 rfl (fun h70 => ?_) (fun h70 => ?_)
       ·replace hm := ifF (of_ndec_true h70) hm
        refine v_unguard rfl rfl ?_
        refine g_val rfl rfl rfl (fun _ _ => v_move rfl) ?_
        refine v_unguard rfl rfl ?_
        refine g_val rfl rfl rfl (fun _ _ => v_neq rfl rfl) ?_
        refine v_unguard rfl rfl ?_
        refine g_val rfl rfl rfl (fun _ _ => v_pickT rfl rfl) ?_
        refine g_val rfl rfl rfl (fun _ _ => v_pickF rfl rfl) ?_
        refine g_val rfl rfl rfl (fun _ _ => v_move rfl) ?_
        refine g_case 144 rfl (fun h71 => ?_) (fun h71 => ?_)
        ·replace hm := ifF (of_ndec_true h71) hm
         refine g_skipG rfl rfl rfl rfl rfl rfl ?_
         refine g_skipG rfl rfl rfl rfl rfl rfl ?_
         refine g_skipG rfl rfl rfl rfl rfl rfl ?_
         refine g_skipU' rfl rfl rfl rfl rfl ?_
         refine g_skipU' rfl rfl rfl rfl rfl ?_
         refine g_skipG rfl rfl rfl rfl rfl rfl ?_
         refine g_val rfl rfl rfl (fun _ _ => v_pickT rfl rfl) ?_
         refine g_nil ?_
         obtain rfl := Option.some.inj hm
         exact g_leaf () (trivial) ((.cons rfl (.cons rfl (.cons rfl (.cons rfl (.cons rfl .nil)))))) (fun w hh => hh.sel [0, 1, 2, 3, 4] [1, 0, 2, 3, 4] 0 (by decide) (by decide) rfl rfl rfl)
        ·replace hm := ifT (of_ndec_false h71) hm
         refine v_unguard rfl rfl ?_
         refine g_val rfl rfl rfl (fun _ _ => v_move rfl) ?_
         refine v_unguard rfl rfl ?_
         refine g_val rfl rfl rfl (fun _ _ => v_neq rfl rfl) ?_
         refine v_unguard rfl rfl ?_
         refine g_val rfl rfl rfl (fun _ _ => v_move rfl) ?_
         refine g_case 147 rfl (fun h72 => ?_) (fun h72 => ?_)
         ·replace hm := ifF (of_ndec_true h72) hm
          refine v_unguard rfl rfl ?_
          refine g_val rfl rfl rfl (fun _ _ => v_move rfl) ?_
          refine v_unguard rfl rfl ?_
          refine g_val rfl rfl rfl (fun _ _ => v_neq rfl rfl) ?_
          refine v_unguard rfl rfl ?_
          refine g_val rfl rfl rfl (fun _ _ => v_pickT rfl rfl) ?_
          refine g_val rfl rfl rfl (fun _ _ => v_pickF rfl rfl) ?_
          refine g_nil ?_
          obtain rfl := Option.some.inj hm
          exact g_leaf () (trivial) ((.cons rfl (.cons rfl (.cons rfl (.cons rfl (.cons rfl .nil)))))) (fun w hh => hh.sel [0, 1, 2, 3, 4] [1, 0, 2, 3, 4] 0 (by decide) (by decide) rfl rfl rfl)
         ·replace hm := ifT (of_ndec_false h72) hm
          refine g_skipG rfl rfl rfl rfl rfl rfl ?_
          refine g_skipG rfl rfl rfl rfl rfl rfl ?_
          refine v_unguard rfl rfl ?_
          refine g_val rfl rfl rfl (fun _ _ => v_pickF rfl rfl) ?_
          refine g_val rfl rfl rfl (fun _ _ => v_pickF rfl rfl) ?_
          refine g_nil ?_
          obtain rfl := Option.some.inj hm
          exact g_leaf () (trivial) ((.cons rfl (.cons rfl (.cons rfl (.cons rfl (.cons rfl .nil)))))) (fun w hh => hh.sel [0, 1, 2, 3, 4] [1, 0, 2, 3, 4] 0 (by decide) (by decide) rfl rfl rfl)
       ·replace hm := ifT (of_ndec_false h70) hm
        refine g_skipG rfl rfl rfl rfl rfl rfl ?_
        refine g_skipG rfl rfl rfl rfl rfl rfl ?_
        refine v_unguard rfl rfl ?_
        refine g_val rfl rfl rfl (fun _ _ => v_pickF rfl rfl) ?_
        refine g_val rfl rfl rfl (fun _ _ => v_pickF rfl rfl) ?_
        refine g_val rfl rfl rfl (fun _ _ => v_move rfl) ?_
        refine v_unguard rfl rfl ?_
        refine g_val rfl rfl rfl (fun _ _ => v_move rfl) ?_
        refine v_unguard rfl rfl ?_
        refine g_val rfl rfl rfl (fun _ _ => v_neq rfl rfl) ?_
        refine v_unguard rfl rfl ?_
        refine g_val rfl rfl rfl (fun _ _ => v_move rfl) ?_
        refine g_case 147 rfl (fun h73 => ?_) (fun h73 => ?_)
        ·replace hm := ifF (of_ndec_true h73) hm
         refine v_unguard rfl rfl ?_
         refine g_val rfl rfl rfl (fun _ _ => v_move rfl) ?_
         refine v_unguard rfl rfl ?_
         refine g_val rfl rfl rfl (fun _ _ => v_neq rfl rfl) ?_
         refine v_unguard rfl rfl ?_
         refine g_val rfl rfl rfl (fun _ _ => v_pickT rfl rfl) ?_
         refine g_val rfl rfl rfl (fun _ _ => v_pickF rfl rfl) ?_
         refine g_nil ?_
         obtain rfl := Option.some.inj hm
         exact g_leaf () (trivial) ((.cons rfl (.cons rfl (.cons rfl (.cons rfl (.cons rfl .nil)))))) (fun w hh => hh.sel [0, 1, 2, 3, 4] [1, 0, 2, 3, 4] 0 (by decide) (by decide) rfl rfl rfl)
        ·replace hm := ifT (of_ndec_false h73) hm
         refine g_skipG rfl rfl rfl rfl rfl rfl ?_
         refine g_skipG rfl rfl rfl rfl rfl rfl ?_
         refine v_unguard rfl rfl ?_
         refine g_val rfl rfl rfl (fun _ _ => v_pickF rfl rfl) ?_
         refine g_val rfl rfl rfl (fun _ _ => v_pickF rfl rfl) ?_
         refine g_nil ?_
         obtain rfl := Option.some.inj hm
         exact g_leaf () (trivial) ((.cons rfl (.cons rfl (.cons rfl (.cons rfl (.cons rfl .nil)))))) (fun w hh => hh.sel [0, 1, 2, 3, 4] [1, 0, 2, 3, 4] 0 (by decide) (by decide) rfl rfl rfl)
     ·intro l_17 hj
      replace hm := h68
      refine g_n_then ?_
      refine g_cond rfl (fun h74 => ?_) (fun h74 => ?_)
      ·replace hm := ifT (h74) hm
       refine g_seq ?_
       refine g_region ?_
       refine g_val rfl rfl rfl (fun _ _ => v_assign rfl) ?_
       refine g_nil ?_
       refine g_n_then ?_
       refine g_ret ?_
       refine g_r_then ?_
       obtain rfl := Option.some.inj hm
       refine g_done rfl (fun w hh => (.tmp rfl .nil)) (fun w hh => ⟨(), rfl, trivial, hh.sel [] [] 2 (by decide) (by decide) rfl rfl rfl⟩)
      ·replace hm := ifF ((fun hh => Bool.noConfusion ((h74).symm.trans hh))) hm
       refine g_skip ?_
       refine g_n_then ?_
       refine g_seq ?_
       refine g_region ?_
       refine g_val rfl rfl rfl (fun _ _ => v_nilS rfl) ?_
       refine g_nil ?_
       refine g_n_then ?_
       refine g_seq ?_
       refine g_seq ?_
       refine g_region ?_
       refine g_val rfl rfl rfl (fun _ _ => v_move rfl) ?_
       refine g_val rfl rfl rfl (fun w _ => v_lenN (vlen RI h66 rfl) (Try.runUnderlying26 w) rfl) ?_
       refine g_val rfl rfl rfl (fun _ _ => v_move rfl) ?_
       refine g_nil ?_
       refine g_n_then ?_
       refine g_vnil 89 ?_
       obtain ⟨o_6, h75, h76⟩ := bindO hm
       refine g_cut (ι := (List Look) × VL) (fun j_1 => o_6 = .inl j_1.1 ∧ VOK 3 j_1.2.n j_1.2.cap (RL.enc j_1.1) j_1.2.sp j_1.2.q) (fun j_1 => [(7, ptr b 0), (20, .int .i64 t128.r1), (21, slv j_1.2.q j_1.2.n j_1.2.cap)]) (fun j_1 => [(b_4, .cells #[.int .i64 t122.1.lo, .int .i64 t122.1.hi] 25 (0, 0)), (b_1, .cells #[.int .i64 j.now13_lo, .int .i64 j.now13_hi] 25 (0, 0)), (l_2, .cells #[.slice qa1 na1 ca1, .int .i64 t46.b0_1, .int .u32 t46.b0_2] 138 (0, 0)), (b, .cells #[slv l_1.1.q l_1.1.n l_1.1.cap, .int .i64 t31.r0.wind.lo, .int .i64 t31.r0.wind.hi, slv l_1.2.1.q l_1.2.1.n l_1.2.1.cap, slv l_1.2.2.q l_1.2.2.n l_1.2.2.cap] 29 (0, 0)), (l, .cells #[.slice qa0 na0 ca0, .int .i64 t31.b0_1, .int .u32 t31.b0_2] 138 (0, 0))]) (fun j_1 => [⟨89, RL.enc j_1.1, j_1.2.sp, j_1.2.q⟩, ⟨68, RW.enc t31.r0.table, l_1.1.sp, l_1.1.q⟩, ⟨3, RI.enc t31.r0.floors, l_1.2.1.sp, l_1.2.1.q⟩, ⟨51, RS.enc t31.r0.sills, l_1.2.2.sp, l_1.2.2.q⟩]) ?_ ?_
       ·replace hm := h75
        refine g_block ?_
        refine g_loopF (ι := VL) hm (fun s_2 l_18 => VOK 3 l_18.n l_18.cap (RL.enc s_2.own21) l_18.sp l_18.q) (fun s_2 l_18 => [(7, ptr b 0), (9, slv l_5.q l_5.n l_5.cap), (19, slv l_16.q l_16.n l_16.cap), (20, .int .i64 t128.r1), (21, slv l_18.q l_18.n l_18.cap), (152, slv l_16.q l_16.n l_16.cap), (153, .int .i64 (t128.r0.length : Int)), (154, .int .i64 s_2.t154)]) (fun s_2 l_18 => [(b_4, .cells #[.int .i64 t122.1.lo, .int .i64 t122.1.hi] 25 (0, 0)), (b_1, .cells #[.int .i64 j.now13_lo, .int .i64 j.now13_hi] 25 (0, 0)), (l_2, .cells #[.slice qa1 na1 ca1, .int .i64 t46.b0_1, .int .u32 t46.b0_2] 138 (0, 0)), (b, .cells #[slv l_1.1.q l_1.1.n l_1.1.cap, .int .i64 t31.r0.wind.lo, .int .i64 t31.r0.wind.hi, slv l_1.2.1.q l_1.2.1.n l_1.2.1.cap, slv l_1.2.2.q l_1.2.2.n l_1.2.2.cap] 29 (0, 0)), (l, .cells #[.slice qa0 na0 ca0, .int .i64 t31.b0_1, .int .u32 t31.b0_2] 138 (0, 0))]) (fun s_2 l_18 => [⟨89, RL.enc o, l_5.sp, l_5.q⟩, ⟨3, RI.enc t128.r0, l_16.sp, l_16.q⟩, ⟨89, RL.enc s_2.own21, l_18.sp, l_18.q⟩, ⟨68, RW.enc t31.r0.table, l_1.1.sp, l_1.1.q⟩, ⟨3, RI.enc t31.r0.floors, l_1.2.1.sp, l_1.2.1.q⟩, ⟨51, RS.enc t31.r0.sills, l_1.2.2.sp, l_1.2.2.q⟩]) ⟨none, 0, 0, []⟩ (VOK.nil) ((.cons rfl (.cons rfl (.cons rfl (.cons rfl (.cons rfl (.cons rfl (.cons rfl (.cons rfl .nil))))))))) (fun w hh => hh.sel [0, 1, 2, 3, 4] [1, 2, 0, 3, 4, 5] 0 (by decide) (by decide) rfl rfl rfl) (fun s_2 l_18 r_2 hpl hm h79 => ?_)
        have h78 := hpl
        unfold m_laurellaw01_TideLooked_L2 at hm
        refine g_seq ?_
        refine g_region ?_
        refine g_val rfl rfl rfl (fun _ _ => v_lss rfl rfl) ?_
        refine g_nil ?_
        refine g_n_then ?_
        refine g_seq ?_
        refine g_cond rfl (fun h80 => ?_) (fun h80 => ?_)
        ·replace hm := ifT (of_decide_eq_true h80) hm
         refine g_skip ?_
         refine g_n_then ?_
         refine g_seq ?_
         refine g_block ?_
         refine g_seq ?_
         refine g_region ?_
         refine g_val rfl rfl rfl (fun _ _ => v_move rfl) ?_
         obtain ⟨t157, h81, hm⟩ := bindO hm
         refine g_val rfl rfl rfl (fun w _ => v_ixA h81 (Try.runUnderlying26 w) (Try.sizeOf3 w) rfl rfl (vlen RI h66 rfl) (vne h66)) ?_
         refine g_val rfl rfl rfl (fun w hh => v_ldE RI 0 h81 (Try.isAgg3 w) rfl (hh.vseg 1 rfl h66) rfl (Nat.add_zero _).symm) ?_
         refine g_val rfl rfl rfl (fun _ _ => v_assign rfl) ?_
         refine g_val rfl rfl rfl (fun _ _ => v_assign rfl) ?_
         refine g_nil ?_
         refine g_n_then ?_
         refine g_seq ?_
         refine g_seq ?_
         obtain ⟨o_7, h82, h83⟩ := bindO hm
         refine g_cut (ι := Unit) (fun l_19 => True) (fun l_19 => [(7, ptr b 0), (9, slv l_5.q l_5.n l_5.cap), (19, slv l_16.q l_16.n l_16.cap), (20, .int .i64 t128.r1), (21, slv l_18.q l_18.n l_18.cap), (23, .int .i64 t157), (152, slv l_16.q l_16.n l_16.cap), (153, .int .i64 (t128.r0.length : Int)), (154, .int .i64 s_2.t154), (179, .bool o_7)]) (fun l_19 => [(b_4, .cells #[.int .i64 t122.1.lo, .int .i64 t122.1.hi] 25 (0, 0)), (b_1, .cells #[.int .i64 j.now13_lo, .int .i64 j.now13_hi] 25 (0, 0)), (l_2, .cells #[.slice qa1 na1 ca1, .int .i64 t46.b0_1, .int .u32 t46.b0_2] 138 (0, 0)), (b, .cells #[slv l_1.1.q l_1.1.n l_1.1.cap, .int .i64 t31.r0.wind.lo, .int .i64 t31.r0.wind.hi, slv l_1.2.1.q l_1.2.1.n l_1.2.1.cap, slv l_1.2.2.q l_1.2.2.n l_1.2.2.cap] 29 (0, 0)), (l, .cells #[.slice qa0 na0 ca0, .int .i64 t31.b0_1, .int .u32 t31.b0_2] 138 (0, 0))]) (fun l_19 => [⟨89, RL.enc o, l_5.sp, l_5.q⟩, ⟨3, RI.enc t128.r0, l_16.sp, l_16.q⟩, ⟨89, RL.enc s_2.own21, l_18.sp, l_18.q⟩, ⟨68, RW.enc t31.r0.table, l_1.1.sp, l_1.1.q⟩, ⟨3, RI.enc t31.r0.floors, l_1.2.1.sp, l_1.2.1.q⟩, ⟨51, RS.enc t31.r0.sills, l_1.2.2.sp, l_1.2.2.q⟩]) ?_ ?_
         ·replace hm := h82
          refine g_region ?_
          refine g_val rfl rfl rfl (fun _ _ => v_move rfl) ?_
          refine g_val rfl rfl rfl (fun _ _ => v_lss rfl rfl) ?_
          refine g_val rfl rfl rfl (fun _ _ => v_move rfl) ?_
          refine g_case 161 rfl (fun h84 => ?_) (fun h84 => ?_)
          ·replace hm := ifT (of_decide_eq_true h84) hm
           refine g_skipG rfl rfl rfl rfl rfl rfl ?_
           refine g_skipG rfl rfl rfl rfl rfl rfl ?_
           refine g_skipG rfl rfl rfl rfl rfl rfl ?_
           refine g_skipG rfl rfl rfl rfl rfl rfl ?_
           refine g_val rfl rfl rfl (fun _ _ => v_pickT rfl rfl) ?_
           refine g_val rfl rfl rfl (fun _ _ => v_move rfl) ?_
           refine g_skipG rfl rfl rfl rfl rfl rfl ?_
           refine g_skipG rfl rfl rfl rfl rfl rfl ?_
           refine g_skipG rfl rfl rfl rfl rfl rfl ?_
           refine g_skipU' rfl rfl rfl rfl rfl ?_
           refine g_skipU' rfl rfl rfl rfl rfl ?_
           refine g_skipU' rfl rfl rfl rfl rfl ?_
           refine g_skipU' rfl rfl rfl rfl rfl ?_
           refine g_skipU' rfl rfl rfl rfl rfl ?_
           refine g_skipU' rfl rfl rfl rfl rfl ?_
           refine g_skipU' rfl rfl rfl rfl rfl ?_
           refine g_skipG rfl rfl rfl rfl rfl rfl ?_
           refine g_val rfl rfl rfl (fun _ _ => v_pickT rfl rfl) ?_
           refine g_nil ?_
           obtain rfl := Option.some.inj hm
           exact g_leaf () (trivial) ((.cons rfl (.cons rfl (.cons rfl (.cons rfl (.cons rfl (.cons rfl (.cons rfl (.cons rfl (.cons rfl (.cons rfl .nil))))))))))) (fun w hh => hh)
          ·replace hm := ifF (of_decide_eq_false h84) hm
           refine v_unguard rfl rfl ?_
           refine g_val rfl rfl rfl (fun _ _ => v_move rfl) ?_
           refine v_unguard rfl rfl ?_
           refine g_val rfl rfl rfl (fun _ _ => v_move rfl) ?_
           refine v_unguard rfl rfl ?_
           refine g_val rfl rfl rfl (fun w _ => v_lenN (vlen RL h25 rfl) (Try.runUnderlying35 w) rfl) ?_
           refine v_unguard rfl rfl ?_
           refine g_val rfl rfl rfl (fun _ _ => v_geq rfl rfl) ?_
           refine g_val rfl rfl rfl (fun _ _ => v_pickF rfl rfl) ?_
           refine g_val rfl rfl rfl (fun _ _ => v_move rfl) ?_
           refine g_case 167 rfl (fun h85 => ?_) (fun h85 => ?_)
           ·replace hm := ifT (of_decide_eq_true h85) hm
            refine g_skipG rfl rfl rfl rfl rfl rfl ?_
            refine g_skipG rfl rfl rfl rfl rfl rfl ?_
            refine g_skipG rfl rfl rfl rfl rfl rfl ?_
            refine g_skipU' rfl rfl rfl rfl rfl ?_
            refine g_skipU' rfl rfl rfl rfl rfl ?_
            refine g_skipU' rfl rfl rfl rfl rfl ?_
            refine g_skipU' rfl rfl rfl rfl rfl ?_
            refine g_skipU' rfl rfl rfl rfl rfl ?_
            refine g_skipU' rfl rfl rfl rfl rfl ?_
            refine g_skipU' rfl rfl rfl rfl rfl ?_
            refine g_skipG rfl rfl rfl rfl rfl rfl ?_
            refine g_val rfl rfl rfl (fun _ _ => v_pickT rfl rfl) ?_
            refine g_nil ?_
            obtain rfl := Option.some.inj hm
            exact g_leaf () (trivial) ((.cons rfl (.cons rfl (.cons rfl (.cons rfl (.cons rfl (.cons rfl (.cons rfl (.cons rfl (.cons rfl (.cons rfl .nil))))))))))) (fun w hh => hh)
           ·replace hm := ifF (of_decide_eq_false h85) hm
            refine v_unguard rfl rfl ?_
            refine g_val rfl rfl rfl (fun _ _ => v_move rfl) ?_
            refine v_unguard rfl rfl ?_
            refine g_val rfl rfl rfl (fun _ _ => v_gtr rfl rfl) ?_
            refine v_unguard rfl rfl ?_
            refine g_val rfl rfl rfl (fun _ _ => v_move rfl) ?_
            refine g_case 170 rfl (fun h86 => ?_) (fun h86 => ?_)
            ·replace hm := ifT (of_decide_eq_true h86) hm
             refine v_unguard rfl rfl ?_
             refine g_val rfl rfl rfl (fun _ _ => v_move rfl) ?_
             refine v_unguard rfl rfl ?_
             refine g_val rfl rfl rfl (fun _ _ => v_move rfl) ?_
             refine v_unguard rfl rfl ?_
             obtain ⟨t173, h87, hm⟩ := bindO hm
             refine g_val rfl rfl rfl (fun _ _ => v_subc h87 rfl rfl) ?_
             refine v_unguard rfl rfl ?_
             obtain ⟨t174, h88, hm⟩ := bindO hm
             refine g_val rfl rfl rfl (fun w _ => v_ixA h88 (Try.runUnderlying26 w) (Try.sizeOf3 w) rfl rfl (vlen RI h66 rfl) (vne h66)) ?_
             refine v_unguard rfl rfl ?_
             refine g_val rfl rfl rfl (fun w hh => v_ldE RI 0 h88 (Try.isAgg3 w) rfl (hh.vseg 1 rfl h66) rfl (Nat.add_zero _).symm) ?_
             refine v_unguard rfl rfl ?_
             refine g_val rfl rfl rfl (fun _ _ => v_move rfl) ?_
             refine v_unguard rfl rfl ?_
             refine g_val rfl rfl rfl (fun _ _ => v_geq rfl rfl) ?_
             refine v_unguard rfl rfl ?_
             refine g_val rfl rfl rfl (fun _ _ => v_pickT rfl rfl) ?_
             refine g_val rfl rfl rfl (fun _ _ => v_pickF rfl rfl) ?_
             refine g_nil ?_
             obtain rfl := Option.some.inj hm
             exact g_leaf () (trivial) ((.cons rfl (.cons rfl (.cons rfl (.cons rfl (.cons rfl (.cons rfl (.cons rfl (.cons rfl (.cons rfl (.cons rfl .nil))))))))))) (fun w hh => hh)
            ·replace hm := ifF (of_decide_eq_false h86) hm
             refine g_skipG rfl rfl rfl rfl rfl rfl ?_
             refine g_skipG rfl rfl rfl rfl rfl rfl ?_
             refine g_skipG rfl rfl rfl rfl rfl rfl ?_
             refine g_skipG rfl rfl rfl rfl rfl rfl ?_
             refine g_skipG rfl rfl rfl rfl rfl rfl ?_
             refine g_skipG rfl rfl rfl rfl rfl rfl ?_
             refine g_skipG rfl rfl rfl rfl rfl rfl ?_
             refine v_unguard rfl rfl ?_
             refine g_val rfl rfl rfl (fun _ _ => v_pickF rfl rfl) ?_
             refine g_val rfl rfl rfl (fun _ _ => v_pickF rfl rfl) ?_
             refine g_nil ?_
             obtain rfl := Option.some.inj hm
             exact g_leaf () (trivial) ((.cons rfl (.cons rfl (.cons rfl (.cons rfl (.cons rfl (.cons rfl (.cons rfl (.cons rfl (.cons rfl (.cons rfl .nil))))))))))) (fun w hh => hh)
         ·intro l_19 hj
          replace hm := h83
          refine g_n_then ?_
          refine g_cond rfl (fun h89 => ?_) (fun h89 => ?_)
          ·replace hm := ifT (h89) hm
           refine g_seq ?_
           refine g_region ?_
           refine g_val rfl rfl rfl (fun _ _ => v_assign rfl) ?_
           refine g_nil ?_
           refine g_n_then ?_
           refine g_ret ?_
           refine g_r_then ?_
           refine g_r_blk ?_
           refine g_r_then ?_
           refine g_r_then ?_
           refine g_r_blk ?_
           obtain rfl := Option.some.inj hm
           have hbo := h79 _ rfl
           subst hbo
           refine g_r_then ?_
           replace hm := ocR h76
           refine g_r_then ?_
           obtain rfl := Option.some.inj hm
           refine g_done rfl (fun w hh => (.tmp rfl .nil)) (fun w hh => ⟨(), rfl, trivial, hh.sel [] [] 2 (by decide) (by decide) rfl rfl rfl⟩)
          ·replace hm := ifF ((fun hh => Bool.noConfusion ((h89).symm.trans hh))) hm
           refine g_skip ?_
           refine g_n_then ?_
           refine g_region ?_
           refine g_val rfl rfl rfl (fun _ _ => v_move rfl) ?_
           refine g_val rfl rfl rfl (fun _ _ => v_move rfl) ?_
           refine g_val rfl rfl rfl (fun _ _ => v_move rfl) ?_
           obtain ⟨t183, h90, hm⟩ := bindO hm
           refine g_val rfl rfl rfl (fun w _ => v_ixA h90 (Try.runUnderlying35 w) (Try.sizeOf89 w) rfl rfl (vlen RL h25 rfl) (vne h25)) ?_
           refine g_val rfl rfl rfl (fun w hh => v_ldEA RL 0 [.int .i64 t183.min, .int .i64 t183.place, .bool t183.wet] h90 (Try.isAgg89 w) (Try.sizeOf89 w) rfl (hh.vseg 0 rfl h25) rfl (Nat.add_zero _).symm) ?_
           refine g_vlit RL [t183] (ps := [(0, _)]) (cells := [_, _, _]) (fun w => Try.runUnderlying35 w) (fun w => Try.sizeOf89 w) (fun w => Try.zeroValue89 w) rfl rfl rfl rfl rfl rfl rfl rfl (fun L h91 => ?_)
           obtain ⟨t186, h92, hm⟩ := bindO hm
           refine g_vapp RL 3 h92 Try.underlying35 gxinf89 rfl rfl rfl rfl rfl h78 rfl rfl (vlen RL h91 rfl) (AOK.q (vne h91)) (fun w hh => (hh.vsegA 0 rfl h91)) rfl (fun L_1 h93 h93n => ?_)
           refine g_sel (S' := [_, _, _, _, _]) (vs' := [_, _, _, _, _, _, _]) [0, 1, 2, 3, 4] [0, 1, 2, 3, 4, 5, 6] 0 (by decide) (by decide) rfl rfl rfl ?_
           refine g_val rfl rfl rfl (fun _ _ => v_assign rfl) ?_
           refine g_nil ?_
           refine g_n_blk ?_
           refine g_n_then ?_
           refine g_region ?_
           obtain ⟨t187, h94, hm⟩ := bindO hm
           refine g_val rfl rfl rfl (fun _ _ => v_addc h94 rfl rfl) ?_
           refine g_val rfl rfl rfl (fun _ _ => v_move rfl) ?_
           refine g_nil ?_
           obtain rfl := Option.some.inj hm
           refine g_n_then ?_
           exact g_again' _ L_1 rfl (h93) ((.cons rfl (.cons rfl (.cons rfl (.cons rfl (.cons rfl (.cons rfl (.cons rfl (.cons rfl .nil))))))))) (fun w hh => hh.sel [0, 1, 2, 3, 4] [1, 2, 3, 4, 5, 6] 0 (by decide) (by decide) rfl rfl rfl)
        ·replace hm := ifF (of_decide_eq_false h80) hm
         refine g_exit ?_
         refine g_x_then ?_
         refine g_x_then ?_
         refine g_x_blk ?_
         obtain rfl := Option.some.inj hm
         have hbo := h79 _ rfl
         subst hbo
         exact g_leaf (s_2.own21, l_18) (⟨rfl, h78⟩) ((.cons rfl (.cons rfl (.cons rfl .nil)))) (fun w hh => hh.sel [0, 1, 2, 3, 4] [2, 3, 4, 5] 0 (by decide) (by decide) rfl rfl rfl)
       ·rintro ⟨j_2, l_20⟩ hj
        obtain ⟨h96, h95⟩ := hj
        subst h96
        replace hm := ocL h76
        refine g_n_then ?_
        refine g_seq ?_
        obtain ⟨o_8, h97, h98⟩ := bindO hm
        refine g_cut (ι := Unit) (fun j_3 => o_8 = .inl j_3) (fun j_3 => []) (fun j_3 => [(b_4, .cells #[.int .i64 t122.1.lo, .int .i64 t122.1.hi] 25 (0, 0)), (b_1, .cells #[.int .i64 j.now13_lo, .int .i64 j.now13_hi] 25 (0, 0)), (l_2, .cells #[.slice qa1 na1 ca1, .int .i64 t46.b0_1, .int .u32 t46.b0_2] 138 (0, 0)), (b, .cells #[slv l_1.1.q l_1.1.n l_1.1.cap, .int .i64 t31.r0.wind.lo, .int .i64 t31.r0.wind.hi, slv l_1.2.1.q l_1.2.1.n l_1.2.1.cap, slv l_1.2.2.q l_1.2.2.n l_1.2.2.cap] 29 (0, 0)), (l, .cells #[.slice qa0 na0 ca0, .int .i64 t31.b0_1, .int .u32 t31.b0_2] 138 (0, 0))]) (fun j_3 => [⟨68, RW.enc t31.r0.table, l_1.1.sp, l_1.1.q⟩, ⟨3, RI.enc t31.r0.floors, l_1.2.1.sp, l_1.2.1.q⟩, ⟨51, RS.enc t31.r0.sills, l_1.2.2.sp, l_1.2.2.q⟩]) ?_ ?_
        ·replace hm := h97
         refine g_seq ?_
         refine g_region ?_
         refine g_val rfl rfl rfl (fun _ _ => v_move rfl) ?_
         refine g_val rfl rfl rfl (fun _ _ => v_eql rfl rfl) ?_
         refine g_nil ?_
         refine g_n_then ?_
         refine g_cond rfl (fun h99 => ?_) (fun h99 => ?_)
         ·replace hm := ifT (of_decide_eq_true h99) hm
          refine g_seq ?_
          refine g_seq ?_
          refine g_region ?_
          refine g_val rfl rfl rfl (fun w hh => v_loadAgg (vs := [_, _, _, _, _]) (Try.isAgg29 w) (Try.sizeOf29 w) rfl (hh.cells 3 rfl rfl)) ?_
          refine g_val rfl rfl rfl (fun _ _ => v_move rfl) ?_
          obtain ⟨t193, h100, hm⟩ := bindO hm
          refine g_callH [] [] rfl rfl rfl rfl rfl rfl rfl (fun a w => Try.call23 a w) (fun w hh => cx_Looks t31.r0 j_2 l_1.1.q l_1.1.n l_1.1.cap l_1.2.1.q l_1.2.1.n l_1.2.1.cap l_1.2.2.q l_1.2.2.n l_1.2.2.cap l_20.q l_20.n l_20.cap w (HV.callee (S0 := []) (vs0 := []) hh (roC (hh.vsep (S0 := []) (vs0 := []) 1 rfl h5) (roC (hh.vsep (S0 := []) (vs0 := []) 2 rfl h6) (roC (hh.vsep (S0 := []) (vs0 := []) 3 rfl h7) (roC (hh.vsep (S0 := []) (vs0 := []) 0 rfl h95) roN))))) (vlen RW h5 rfl) (vne h5) (h5).hle (vlen RI h6 rfl) (vne h6) (h6).hle (vlen RS h7 rfl) (vne h7) (h7).hle (vlen RL h95 rfl) (vne h95) (h95).hle h100) (fun l_21 h101 => ?_)
          refine g_val rfl rfl rfl (fun _ _ => v_move rfl) ?_
          refine g_val rfl rfl rfl (fun _ _ => v_extract rfl rfl) ?_
          refine g_val rfl rfl rfl (fun _ _ => v_extract rfl rfl) ?_
          refine g_allocV (fun w => Try.zeroValue25 w) rfl (fun b_5 h102 => ?_)
          refine g_stSA (us := #[_, _]) (cs' := [_, _]) (S' := [_, _, _, _, _, _]) 0 (fun w => Try.sizeOf25 w) rfl rfl rfl rfl rfl rfl rfl ?_
          refine g_val rfl rfl rfl (fun _ _ => v_assign rfl) ?_
          refine g_nil ?_
          refine g_n_then ?_
          refine g_seq ?_
          refine g_region ?_
          refine g_val rfl rfl rfl (fun _ _ => v_move rfl) ?_
          refine g_val rfl rfl rfl (fun _ _ => v_neq rfl rfl) ?_
          refine g_nil ?_
          refine g_n_then ?_
          refine g_cond rfl (fun h103 => ?_) (fun h103 => ?_)
          ·replace hm := ifF (of_ndec_true h103) hm
           refine g_seq ?_
           refine g_region ?_
           refine g_val rfl rfl rfl (fun _ _ => v_assign rfl) ?_
           refine g_nil ?_
           refine g_n_then ?_
           refine g_ret ?_
           refine g_r_then ?_
           obtain rfl := Option.some.inj hm
           refine g_r_then ?_
           replace hm := ocR h98
           refine g_r_then ?_
           obtain rfl := Option.some.inj hm
           refine g_done rfl (fun w hh => (.tmp rfl .nil)) (fun w hh => ⟨(), rfl, trivial, hh.sel [] [] 2 (by decide) (by decide) rfl rfl rfl⟩)
          ·replace hm := ifT (of_ndec_false h103) hm
           refine g_skip ?_
           refine g_n_then ?_
           refine g_seq ?_
           refine g_region ?_
           refine g_val rfl rfl rfl (fun _ _ => v_move rfl) ?_
           refine g_val rfl rfl rfl (fun w _ => v_lenN (vlen RL h95 rfl) (Try.runUnderlying35 w) rfl) ?_
           refine g_val rfl rfl rfl (fun _ _ => v_move rfl) ?_
           refine g_nil ?_
           refine g_n_then ?_
           obtain ⟨o_9, h104, h105⟩ := bindO hm
           refine g_cut (ι := Unit) (fun j_4 => o_9 = .inl j_4) (fun j_4 => []) (fun j_4 => [(b_5, .cells #[.int .i64 t193.1.lo, .int .i64 t193.1.hi] 25 (0, 0)), (b_4, .cells #[.int .i64 t122.1.lo, .int .i64 t122.1.hi] 25 (0, 0)), (b_1, .cells #[.int .i64 j.now13_lo, .int .i64 j.now13_hi] 25 (0, 0)), (l_2, .cells #[.slice qa1 na1 ca1, .int .i64 t46.b0_1, .int .u32 t46.b0_2] 138 (0, 0)), (b, .cells #[slv l_1.1.q l_1.1.n l_1.1.cap, .int .i64 t31.r0.wind.lo, .int .i64 t31.r0.wind.hi, slv l_1.2.1.q l_1.2.1.n l_1.2.1.cap, slv l_1.2.2.q l_1.2.2.n l_1.2.2.cap] 29 (0, 0)), (l, .cells #[.slice qa0 na0 ca0, .int .i64 t31.b0_1, .int .u32 t31.b0_2] 138 (0, 0))]) (fun j_4 => [⟨68, RW.enc t31.r0.table, l_1.1.sp, l_1.1.q⟩, ⟨3, RI.enc t31.r0.floors, l_1.2.1.sp, l_1.2.1.q⟩, ⟨51, RS.enc t31.r0.sills, l_1.2.2.sp, l_1.2.2.q⟩]) ?_ ?_
           ·replace hm := h104
            refine g_block ?_
            refine g_loopF (ι := Unit) hm (fun s_3 l_22 => True) (fun s_3 l_22 => [(7, ptr b 0), (21, slv l_20.q l_20.n l_20.cap), (199, .int .i64 (j_2.length : Int)), (200, .int .i64 s_3)]) (fun s_3 l_22 => [(b_5, .cells #[.int .i64 t193.1.lo, .int .i64 t193.1.hi] 25 (0, 0)), (b_4, .cells #[.int .i64 t122.1.lo, .int .i64 t122.1.hi] 25 (0, 0)), (b_1, .cells #[.int .i64 j.now13_lo, .int .i64 j.now13_hi] 25 (0, 0)), (l_2, .cells #[.slice qa1 na1 ca1, .int .i64 t46.b0_1, .int .u32 t46.b0_2] 138 (0, 0)), (b, .cells #[slv l_1.1.q l_1.1.n l_1.1.cap, .int .i64 t31.r0.wind.lo, .int .i64 t31.r0.wind.hi, slv l_1.2.1.q l_1.2.1.n l_1.2.1.cap, slv l_1.2.2.q l_1.2.2.n l_1.2.2.cap] 29 (0, 0)), (l, .cells #[.slice qa0 na0 ca0, .int .i64 t31.b0_1, .int .u32 t31.b0_2] 138 (0, 0))]) (fun s_3 l_22 => [⟨89, RL.enc j_2, l_20.sp, l_20.q⟩, ⟨68, RW.enc t31.r0.table, l_1.1.sp, l_1.1.q⟩, ⟨3, RI.enc t31.r0.floors, l_1.2.1.sp, l_1.2.1.q⟩, ⟨51, RS.enc t31.r0.sills, l_1.2.2.sp, l_1.2.2.q⟩]) () (trivial) ((.cons rfl (.cons rfl (.cons rfl (.cons rfl .nil))))) (fun w hh => hh) (fun s_3 l_22 r_3 hpl hm h106 => ?_)
            unfold m_laurellaw01_TideLooked_L3 at hm
            refine g_seq ?_
            refine g_region ?_
            refine g_val rfl rfl rfl (fun _ _ => v_lss rfl rfl) ?_
            refine g_nil ?_
            refine g_n_then ?_
            refine g_seq ?_
            refine g_cond rfl (fun h107 => ?_) (fun h107 => ?_)
            ·replace hm := ifT (of_decide_eq_true h107) hm
             refine g_skip ?_
             refine g_n_then ?_
             refine g_seq ?_
             refine g_block ?_
             refine g_seq ?_
             refine g_region ?_
             refine g_val rfl rfl rfl (fun _ _ => v_move rfl) ?_
             refine g_val rfl rfl rfl (fun _ _ => v_assign rfl) ?_
             refine g_nil ?_
             refine g_n_then ?_
             refine g_seq ?_
             obtain ⟨o_10, h108, h109⟩ := bindO hm
             refine g_cut (ι := Unit) (fun l_23 => True) (fun l_23 => [(7, ptr b 0), (21, slv l_20.q l_20.n l_20.cap), (28, .int .i64 o_10), (199, .int .i64 (j_2.length : Int)), (200, .int .i64 s_3)]) (fun l_23 => [(b_5, .cells #[.int .i64 t193.1.lo, .int .i64 t193.1.hi] 25 (0, 0)), (b_4, .cells #[.int .i64 t122.1.lo, .int .i64 t122.1.hi] 25 (0, 0)), (b_1, .cells #[.int .i64 j.now13_lo, .int .i64 j.now13_hi] 25 (0, 0)), (l_2, .cells #[.slice qa1 na1 ca1, .int .i64 t46.b0_1, .int .u32 t46.b0_2] 138 (0, 0)), (b, .cells #[slv l_1.1.q l_1.1.n l_1.1.cap, .int .i64 t31.r0.wind.lo, .int .i64 t31.r0.wind.hi, slv l_1.2.1.q l_1.2.1.n l_1.2.1.cap, slv l_1.2.2.q l_1.2.2.n l_1.2.2.cap] 29 (0, 0)), (l, .cells #[.slice qa0 na0 ca0, .int .i64 t31.b0_1, .int .u32 t31.b0_2] 138 (0, 0))]) (fun l_23 => [⟨89, RL.enc j_2, l_20.sp, l_20.q⟩, ⟨68, RW.enc t31.r0.table, l_1.1.sp, l_1.1.q⟩, ⟨3, RI.enc t31.r0.floors, l_1.2.1.sp, l_1.2.1.q⟩, ⟨51, RS.enc t31.r0.sills, l_1.2.2.sp, l_1.2.2.q⟩]) ?_ ?_
             ·replace hm := h108
              obtain ⟨t209, h110, hm⟩ := bindO hm
              obtain ⟨t206, h111, hm⟩ := bindO hm
              obtain ⟨t210, h112, hm⟩ := bindO hm
              obtain ⟨t211, h113, hm⟩ := bindO hm
              refine g_draw none (.hoist 0 (.free 1 (.free 3 (.free 4 (.free 5 (.br (.alt 2 (.br (.alt 6 (.br (.alt 7 (.free 8 (.free 9 (.free 10 (.one 11 (.one 12 (.free 13 .done)))))) (.alt 11 (.one 7 (.free 8 (.free 9 (.free 10 (.one 12 (.free 13 .done)))))) .nil))) (.alt 11 (.one 6 (.one 7 (.free 8 (.free 9 (.free 10 (.one 12 (.free 13 .done))))))) .nil))) (.alt 11 (.one 2 (.one 6 (.one 7 (.free 8 (.free 9 (.free 10 (.one 12 (.free 13 .done)))))))) .nil)))))))) _ rfl (by decide +kernel) (fun w k hh => hh.draw k) (fun w hh => hh) ?_
              refine p_hoist rfl rfl rfl rfl (fun w hh => v_loadAgg (vs := [_, _, _, _, _]) (Try.isAgg29 w) (Try.sizeOf29 w) rfl (hh.cells 4 rfl rfl)) ?_
              refine p_free rfl rfl rfl rfl (fun _ _ => v_move rfl) ?_
              refine p_free rfl rfl rfl rfl (fun _ _ => v_move rfl) ?_
              refine p_free rfl rfl rfl rfl (fun _ _ => v_move rfl) ?_
              refine p_free rfl rfl rfl rfl (fun _ _ => v_addc h110 rfl rfl) ?_
              refine p_br ?_
              refine p_alt rfl ?_ ?_
              ·refine g_callH [] [] rfl rfl rfl rfl rfl rfl rfl (fun a w => Try.call72 a w) (fun w hh => c_slices_Clone_tideLooktideLook j_2 (qA l_20.q) l_20.n l_20.cap w (HV.callee (S0 := []) (vs0 := []) hh (roC (hh.vsepA (S0 := []) (vs0 := []) 0 rfl h95) roN)) (vlen RL h95 rfl) (AOK.q (vne h95)) (h95).hle h111) (fun l_24 h114 => ?_)
               have h115 := h114
               refine g_sel (S' := [_, _, _, _, _, _]) (vs' := [_, _, _, _, _]) [0, 1, 2, 3, 4, 5] [0, 1, 2, 3, 4] 0 (by decide) (by decide) rfl rfl rfl ?_
               refine p_next (fun w hh => hh.sel [0, 1, 2, 3, 4, 5] [1, 2, 3, 4] 0 (by decide) (by decide) rfl rfl rfl) ?_
               refine p_br ?_
               refine p_alt rfl ?_ ?_
               ·refine g_callH [] [_] rfl rfl rfl rfl rfl rfl rfl (fun a w => Try.call71 a w) (fun w hh => c_slices_Delete_tideLooktideLook_1 t206 s_3 t209 ⟨l_24.q, l_24.n, l_24.cap, l_24.sp⟩ w (HV.callee (S0 := []) (vs0 := [_]) hh roN) h115 h112) (fun l_25 h116 => ?_)
                have h117 := h116
                refine g_sel (S' := [_, _, _, _, _, _]) (vs' := [_, _, _, _, _]) [0, 1, 2, 3, 4, 5] [0, 1, 2, 3, 4] 0 (by decide) (by decide) rfl rfl rfl ?_
                refine p_next (fun w hh => hh.sel [0, 1, 2, 3, 4, 5] [1, 2, 3, 4] 0 (by decide) (by decide) rfl rfl rfl) ?_
                refine p_br ?_
                refine p_alt rfl ?_ ?_
                ·refine g_callH [] [] rfl rfl rfl rfl rfl rfl rfl (fun a w => Try.call23 a w) (fun w hh => cx_Looks t31.r0 t210 l_1.1.q l_1.1.n l_1.1.cap l_1.2.1.q l_1.2.1.n l_1.2.1.cap l_1.2.2.q l_1.2.2.n l_1.2.2.cap l_25.q l_25.n l_25.cap w (HV.callee (S0 := []) (vs0 := []) hh (roC (hh.vsep (S0 := []) (vs0 := []) 2 rfl h5) (roC (hh.vsep (S0 := []) (vs0 := []) 3 rfl h6) (roC (hh.vsep (S0 := []) (vs0 := []) 4 rfl h7) (roC (hh.vsep (S0 := []) (vs0 := []) 0 rfl h117) roN))))) (vlen RW h5 rfl) (vne h5) (h5).hle (vlen RI h6 rfl) (vne h6) (h6).hle (vlen RS h7 rfl) (vne h7) (h7).hle (vlen RL h117 rfl) (vne h117) (h117).hle h113) (fun l_26 h118 => ?_)
                 refine p_next (fun w hh => hh.sel [0, 1, 2, 3, 4, 5] [1, 2, 3, 4] 0 (by decide) (by decide) rfl rfl rfl) ?_
                 refine p_free rfl rfl rfl rfl (fun _ _ => v_move rfl) ?_
                 refine p_free rfl rfl rfl rfl (fun _ _ => v_extract rfl rfl) ?_
                 refine p_free rfl rfl rfl rfl (fun _ _ => v_extract rfl rfl) ?_
                 refine p_one rfl ?_
                 refine g_allocV (fun w => Try.zeroValue25 w) rfl (fun b_6 h119 => ?_)
                 refine p_next (fun w hh => hh.sel [1, 2, 3, 4, 5, 6] [1, 2, 3, 4] 0 (by decide) (by decide) rfl rfl rfl) ?_
                 refine p_one rfl ?_
                 refine g_stSA (us := #[_, _]) (cs' := [_, _]) (S' := [_, _, _, _, _, _, _]) 0 (fun w => Try.sizeOf25 w) rfl rfl rfl rfl rfl rfl rfl ?_
                 refine p_next (fun w hh => hh.sel [1, 2, 3, 4, 5, 6] [1, 2, 3, 4] 0 (by decide) (by decide) rfl rfl rfl) ?_
                 refine p_free rfl rfl rfl rfl (fun _ _ => v_assign rfl) ?_
                 refine p_done ?_
                 obtain rfl := Option.some.inj hm
                 exact g_leaf () (trivial) ((.cons rfl (.cons rfl (.cons rfl (.cons rfl (.cons rfl .nil)))))) (fun w hh => hh.sel [1, 2, 3, 4, 5, 6] [1, 2, 3, 4] 0 (by decide) (by decide) rfl rfl rfl)
                refine p_alt rfl ?_ ?_
                ·refine g_allocV (fun w => Try.zeroValue25 w) rfl (fun b_7 h120 => ?_)
                 refine p_next (fun w hh => hh.sel [1, 2, 3, 4, 5, 6] [1, 2, 3, 4] 0 (by decide) (by decide) rfl rfl rfl) ?_
                 refine p_one rfl ?_
                 refine g_callH [] [] rfl rfl rfl rfl rfl rfl rfl (fun a w => Try.call23 a w) (fun w hh => cx_Looks t31.r0 t210 l_1.1.q l_1.1.n l_1.1.cap l_1.2.1.q l_1.2.1.n l_1.2.1.cap l_1.2.2.q l_1.2.2.n l_1.2.2.cap l_25.q l_25.n l_25.cap w (HV.callee (S0 := []) (vs0 := []) hh (roC (hh.vsep (S0 := []) (vs0 := []) 2 rfl h5) (roC (hh.vsep (S0 := []) (vs0 := []) 3 rfl h6) (roC (hh.vsep (S0 := []) (vs0 := []) 4 rfl h7) (roC (hh.vsep (S0 := []) (vs0 := []) 0 rfl h117) roN))))) (vlen RW h5 rfl) (vne h5) (h5).hle (vlen RI h6 rfl) (vne h6) (h6).hle (vlen RS h7 rfl) (vne h7) (h7).hle (vlen RL h117 rfl) (vne h117) (h117).hle h113) (fun l_27 h121 => ?_)
                 refine p_next (fun w hh => hh.sel [1, 2, 3, 4, 5, 6] [1, 2, 3, 4] 0 (by decide) (by decide) rfl rfl rfl) ?_
                 refine p_free rfl rfl rfl rfl (fun _ _ => v_move rfl) ?_
                 refine p_free rfl rfl rfl rfl (fun _ _ => v_extract rfl rfl) ?_
                 refine p_free rfl rfl rfl rfl (fun _ _ => v_extract rfl rfl) ?_
                 refine p_one rfl ?_
                 refine g_stSA (us := #[_, _]) (cs' := [_, _]) (S' := [_, _, _, _, _, _, _]) 0 (fun w => Try.sizeOf25 w) rfl rfl rfl rfl rfl rfl rfl ?_
                 refine p_next (fun w hh => hh.sel [1, 2, 3, 4, 5, 6] [1, 2, 3, 4] 0 (by decide) (by decide) rfl rfl rfl) ?_
                 refine p_free rfl rfl rfl rfl (fun _ _ => v_assign rfl) ?_
                 refine p_done ?_
                 obtain rfl := Option.some.inj hm
                 exact g_leaf () (trivial) ((.cons rfl (.cons rfl (.cons rfl (.cons rfl (.cons rfl .nil)))))) (fun w hh => hh.sel [1, 2, 3, 4, 5, 6] [1, 2, 3, 4] 0 (by decide) (by decide) rfl rfl rfl)
                exact p_nil
               refine p_alt rfl ?_ ?_
               ·refine g_allocV (fun w => Try.zeroValue25 w) rfl (fun b_8 h122 => ?_)
                refine p_next (fun w hh => hh.sel [1, 2, 3, 4, 5, 6] [1, 2, 3, 4] 0 (by decide) (by decide) rfl rfl rfl) ?_
                refine p_one rfl ?_
                refine g_callH [] [_] rfl rfl rfl rfl rfl rfl rfl (fun a w => Try.call71 a w) (fun w hh => c_slices_Delete_tideLooktideLook_1 t206 s_3 t209 ⟨l_24.q, l_24.n, l_24.cap, l_24.sp⟩ w (HV.callee (S0 := []) (vs0 := [_]) hh roN) h115 h112) (fun l_28 h123 => ?_)
                have h124 := h123
                refine g_sel (S' := [_, _, _, _, _, _, _]) (vs' := [_, _, _, _, _]) [0, 1, 2, 3, 4, 5, 6] [0, 1, 2, 3, 4] 0 (by decide) (by decide) rfl rfl rfl ?_
                refine p_next (fun w hh => hh.sel [1, 2, 3, 4, 5, 6] [1, 2, 3, 4] 0 (by decide) (by decide) rfl rfl rfl) ?_
                refine p_one rfl ?_
                refine g_callH [] [] rfl rfl rfl rfl rfl rfl rfl (fun a w => Try.call23 a w) (fun w hh => cx_Looks t31.r0 t210 l_1.1.q l_1.1.n l_1.1.cap l_1.2.1.q l_1.2.1.n l_1.2.1.cap l_1.2.2.q l_1.2.2.n l_1.2.2.cap l_28.q l_28.n l_28.cap w (HV.callee (S0 := []) (vs0 := []) hh (roC (hh.vsep (S0 := []) (vs0 := []) 2 rfl h5) (roC (hh.vsep (S0 := []) (vs0 := []) 3 rfl h6) (roC (hh.vsep (S0 := []) (vs0 := []) 4 rfl h7) (roC (hh.vsep (S0 := []) (vs0 := []) 0 rfl h124) roN))))) (vlen RW h5 rfl) (vne h5) (h5).hle (vlen RI h6 rfl) (vne h6) (h6).hle (vlen RS h7 rfl) (vne h7) (h7).hle (vlen RL h124 rfl) (vne h124) (h124).hle h113) (fun l_29 h125 => ?_)
                refine p_next (fun w hh => hh.sel [1, 2, 3, 4, 5, 6] [1, 2, 3, 4] 0 (by decide) (by decide) rfl rfl rfl) ?_
                refine p_free rfl rfl rfl rfl (fun _ _ => v_move rfl) ?_
                refine p_free rfl rfl rfl rfl (fun _ _ => v_extract rfl rfl) ?_
                refine p_free rfl rfl rfl rfl (fun _ _ => v_extract rfl rfl) ?_
                refine p_one rfl ?_
                refine g_stSA (us := #[_, _]) (cs' := [_, _]) (S' := [_, _, _, _, _, _, _]) 0 (fun w => Try.sizeOf25 w) rfl rfl rfl rfl rfl rfl rfl ?_
                refine p_next (fun w hh => hh.sel [1, 2, 3, 4, 5, 6] [1, 2, 3, 4] 0 (by decide) (by decide) rfl rfl rfl) ?_
                refine p_free rfl rfl rfl rfl (fun _ _ => v_assign rfl) ?_
                refine p_done ?_
                obtain rfl := Option.some.inj hm
                exact g_leaf () (trivial) ((.cons rfl (.cons rfl (.cons rfl (.cons rfl (.cons rfl .nil)))))) (fun w hh => hh.sel [1, 2, 3, 4, 5, 6] [1, 2, 3, 4] 0 (by decide) (by decide) rfl rfl rfl)
               exact p_nil
              refine p_alt rfl ?_ ?_
              ·refine g_allocV (fun w => Try.zeroValue25 w) rfl (fun b_9 h126 => ?_)
               refine p_next (fun w hh => hh.sel [1, 2, 3, 4, 5, 6] [0, 1, 2, 3] 0 (by decide) (by decide) rfl rfl rfl) ?_
               refine p_one rfl ?_
               refine g_callH [] [] rfl rfl rfl rfl rfl rfl rfl (fun a w => Try.call72 a w) (fun w hh => c_slices_Clone_tideLooktideLook j_2 (qA l_20.q) l_20.n l_20.cap w (HV.callee (S0 := []) (vs0 := []) hh (roC (hh.vsepA (S0 := []) (vs0 := []) 0 rfl h95) roN)) (vlen RL h95 rfl) (AOK.q (vne h95)) (h95).hle h111) (fun l_30 h127 => ?_)
               have h128 := h127
               refine g_sel (S' := [_, _, _, _, _, _, _]) (vs' := [_, _, _, _, _]) [0, 1, 2, 3, 4, 5, 6] [0, 1, 2, 3, 4] 0 (by decide) (by decide) rfl rfl rfl ?_
               refine p_next (fun w hh => hh.sel [1, 2, 3, 4, 5, 6] [1, 2, 3, 4] 0 (by decide) (by decide) rfl rfl rfl) ?_
               refine p_one rfl ?_
               refine g_callH [] [_] rfl rfl rfl rfl rfl rfl rfl (fun a w => Try.call71 a w) (fun w hh => c_slices_Delete_tideLooktideLook_1 t206 s_3 t209 ⟨l_30.q, l_30.n, l_30.cap, l_30.sp⟩ w (HV.callee (S0 := []) (vs0 := [_]) hh roN) h128 h112) (fun l_31 h129 => ?_)
               have h130 := h129
               refine g_sel (S' := [_, _, _, _, _, _, _]) (vs' := [_, _, _, _, _]) [0, 1, 2, 3, 4, 5, 6] [0, 1, 2, 3, 4] 0 (by decide) (by decide) rfl rfl rfl ?_
               refine p_next (fun w hh => hh.sel [1, 2, 3, 4, 5, 6] [1, 2, 3, 4] 0 (by decide) (by decide) rfl rfl rfl) ?_
               refine p_one rfl ?_
               refine g_callH [] [] rfl rfl rfl rfl rfl rfl rfl (fun a w => Try.call23 a w) (fun w hh => cx_Looks t31.r0 t210 l_1.1.q l_1.1.n l_1.1.cap l_1.2.1.q l_1.2.1.n l_1.2.1.cap l_1.2.2.q l_1.2.2.n l_1.2.2.cap l_31.q l_31.n l_31.cap w (HV.callee (S0 := []) (vs0 := []) hh (roC (hh.vsep (S0 := []) (vs0 := []) 2 rfl h5) (roC (hh.vsep (S0 := []) (vs0 := []) 3 rfl h6) (roC (hh.vsep (S0 := []) (vs0 := []) 4 rfl h7) (roC (hh.vsep (S0 := []) (vs0 := []) 0 rfl h130) roN))))) (vlen RW h5 rfl) (vne h5) (h5).hle (vlen RI h6 rfl) (vne h6) (h6).hle (vlen RS h7 rfl) (vne h7) (h7).hle (vlen RL h130 rfl) (vne h130) (h130).hle h113) (fun l_32 h131 => ?_)
               refine p_next (fun w hh => hh.sel [1, 2, 3, 4, 5, 6] [1, 2, 3, 4] 0 (by decide) (by decide) rfl rfl rfl) ?_
               refine p_free rfl rfl rfl rfl (fun _ _ => v_move rfl) ?_
               refine p_free rfl rfl rfl rfl (fun _ _ => v_extract rfl rfl) ?_
               refine p_free rfl rfl rfl rfl (fun _ _ => v_extract rfl rfl) ?_
               refine p_one rfl ?_
               refine g_stSA (us := #[_, _]) (cs' := [_, _]) (S' := [_, _, _, _, _, _, _]) 0 (fun w => Try.sizeOf25 w) rfl rfl rfl rfl rfl rfl rfl ?_
               refine p_next (fun w hh => hh.sel [1, 2, 3, 4, 5, 6] [1, 2, 3, 4] 0 (by decide) (by decide) rfl rfl rfl) ?_
               refine p_free rfl rfl rfl rfl (fun _ _ => v_assign rfl) ?_
               refine p_done ?_
               obtain rfl := Option.some.inj hm
               exact g_leaf () (trivial) ((.cons rfl (.cons rfl (.cons rfl (.cons rfl (.cons rfl .nil)))))) (fun w hh => hh.sel [1, 2, 3, 4, 5, 6] [1, 2, 3, 4] 0 (by decide) (by decide) rfl rfl rfl)
              exact p_nil
             ·intro l_23 hj
              replace hm := h109
              refine g_n_then ?_
              refine g_seq ?_
              refine g_region ?_
              refine g_val rfl rfl rfl (fun _ _ => v_move rfl) ?_
              refine g_val rfl rfl rfl (fun _ _ => v_neq rfl rfl) ?_
              refine g_nil ?_
              refine g_n_then ?_
              refine g_cond rfl (fun h132 => ?_) (fun h132 => ?_)
              ·replace hm := ifF (of_ndec_true h132) hm
               refine g_seq ?_
               refine g_region ?_
               refine g_val rfl rfl rfl (fun _ _ => v_assign rfl) ?_
               refine g_nil ?_
               refine g_n_then ?_
               refine g_ret ?_
               refine g_r_blk ?_
               refine g_r_then ?_
               refine g_r_then ?_
               refine g_r_blk ?_
               obtain rfl := Option.some.inj hm
               have hbo := h106 _ rfl
               subst hbo
               refine g_r_then ?_
               replace hm := ocR h105
               obtain rfl := Option.some.inj hm
               refine g_r_then ?_
               replace hm := ocR h98
               refine g_r_then ?_
               obtain rfl := Option.some.inj hm
               refine g_done rfl (fun w hh => (.tmp rfl .nil)) (fun w hh => ⟨(), rfl, trivial, hh.sel [] [] 2 (by decide) (by decide) rfl rfl rfl⟩)
              ·replace hm := ifT (of_ndec_false h132) hm
               refine g_skip ?_
               refine g_n_blk ?_
               refine g_n_then ?_
               refine g_region ?_
               obtain ⟨t216, h133, hm⟩ := bindO hm
               refine g_val rfl rfl rfl (fun _ _ => v_addc h133 rfl rfl) ?_
               refine g_val rfl rfl rfl (fun _ _ => v_move rfl) ?_
               refine g_nil ?_
               obtain rfl := Option.some.inj hm
               refine g_n_then ?_
               exact g_again' _ () rfl (trivial) ((.cons rfl (.cons rfl (.cons rfl (.cons rfl .nil))))) (fun w hh => hh)
            ·replace hm := ifF (of_decide_eq_false h107) hm
             refine g_exit ?_
             refine g_x_then ?_
             refine g_x_then ?_
             refine g_x_blk ?_
             obtain rfl := Option.some.inj hm
             have hbo := h106 _ rfl
             subst hbo
             exact g_leaf () (rfl) (.nil) (fun w hh => hh.sel [0, 1, 2, 3, 4, 5] [1, 2, 3] 0 (by decide) (by decide) rfl rfl rfl)
           ·intro j_4 hj
            have h134 := hj
            subst h134
            replace hm := ocL h105
            obtain rfl := Option.some.inj hm
            exact g_leaf () (rfl) (.nil) (fun w hh => hh.sel [1, 2, 3, 4, 5] [0, 1, 2] 0 (by decide) (by decide) rfl rfl rfl)
         ·replace hm := ifF (of_decide_eq_false h99) hm
          refine g_skip ?_
          obtain rfl := Option.some.inj hm
          exact g_leaf () (rfl) (.nil) (fun w hh => hh.sel [0, 1, 2, 3, 4] [1, 2, 3] 0 (by decide) (by decide) rfl rfl rfl)
        ·intro j_3 hj
         have h135 := hj
         subst h135
         replace hm := ocL h98
         refine g_n_then ?_
         refine g_seq ?_
         refine g_region ?_
         obtain ⟨t217, h136, hm⟩ := bindO hm
         refine g_callH [] [] rfl rfl rfl rfl rfl rfl rfl (fun a w => Try.call30 a w) (fun w hh => cx_awake  w (HV.callee (S0 := []) (vs0 := []) hh roN)  h136) (fun l_33 h137 => ?_)
         refine g_val rfl rfl rfl (fun _ _ => v_assign rfl) ?_
         refine g_nil ?_
         refine g_n_then ?_
         refine g_ret ?_
         obtain rfl := Option.some.inj hm
         refine g_done rfl (fun w hh => (.tmp rfl .nil)) (fun w hh => ⟨(), rfl, trivial, hh.sel [] [] 2 (by decide) (by decide) rfl rfl rfl⟩)
end Go.Proofs.Wk

namespace Go.Proofs.Wk
open Go Go.Gx Go.Pl
set_option linter.unusedVariables false
/-! ### the law's own gates, and looks that are true -/
theorem lawg_L4 {s : Sands} (hG : Good s) {k : Nat} (hk : k < s.sills.length) {h : Int} {out : List Int} (hl : out.length = s.floors.length) {S : m_laurellaw01_gates_S1} (hS : S.t23 = h) :
    iterM FU (m_laurellaw01_gates_L4 (s.sills.getD k default) S s) ⟨0, out⟩ = some (dirN s h out (s.sills.getD k default) 2) := by
  have key := iterM_run (f := m_laurellaw01_gates_L4 (s.sills.getD k default) S s) (b := dirN s h out (s.sills.getD k default) 2) (fun d : Nat => (⟨(d : Int), dirN s h out (s.sills.getD k default) d⟩ : m_laurellaw01_gates_S4)) 2 (fun d hd => by
    have hen := both_ends hG hk hd
    have hlen : (dirN s h out (s.sills.getD k default) d).length = s.floors.length := dirN_length.trans hl
    have hb2 : (both (s.sills.getD k default)).length = 2 := rfl
    have e : ([(⟨(s.sills.getD k default).a, (s.sills.getD k default).b, (s.sills.getD k default).h⟩ : Sill), (⟨(s.sills.getD k default).b, (s.sills.getD k default).a, (s.sills.getD k default).h⟩ : Sill)] : List Sill) = both (s.sills.getD k default) := rfl
    unfold m_laurellaw01_gates_L4
    dsimp only
    rw [e, hS, dirN_succ hd]
    generalize dirN s h out (s.sills.getD k default) d = o at hlen
    rw [hb2, if_pos (by omega), ix_nat default (by rw [hb2]; exact hd), Option.bind_some]
    generalize (both (s.sills.getD k default)).getD d default = y at hen
    have hc : ((if y.h ≤ h then (if y.b = (-1) then (some false) else ((ix s.floors y.b).bind fun t66 => if t66 ≤ h then (if y.a = (-1) then (some true) else ((ix o y.a).bind fun t79 => some (decide (t79 ≤ h)))) else (some false))) else (some false)) : Option Bool) = some (decide (gCond s h o y)) := by
      by_cases h1 : y.h ≤ h
      · rw [if_pos h1]
        by_cases h2 : y.b = -1
        · rw [if_pos h2]
          exact congrArg some (decide_eq_false fun h5 : gCond s h o y => h5.2.1 h2).symm
        · rw [if_neg h2, ix_eq 0 (by omega) (by omega), Option.bind_some]
          by_cases h3 : s.floors.getD y.b.toNat 0 ≤ h
          · rw [if_pos h3]
            by_cases h4 : y.a = -1
            · rw [if_pos h4]
              exact congrArg some (decide_eq_true (show gCond s h o y from ⟨h1, h2, h3, .inl h4⟩)).symm
            · rw [if_neg h4, ix_eq 0 (by omega) (by omega), Option.bind_some]
              refine congrArg some ?_
              by_cases h5 : o.getD y.a.toNat 0 ≤ h
              · rw [decide_eq_true h5, decide_eq_true (show gCond s h o y from ⟨h1, h2, h3, .inr h5⟩)]
              · rw [decide_eq_false h5, decide_eq_false (fun h6 : gCond s h o y => h5 (h6.2.2.2.resolve_left h4))]
          · rw [if_neg h3]
            exact congrArg some (decide_eq_false fun h5 : gCond s h o y => h3 h5.2.2.1).symm
      · rw [if_neg h1]
        exact congrArg some (decide_eq_false fun h5 : gCond s h o y => h1 h5.1).symm
    rw [hc, Option.bind_some]
    unfold gStep
    by_cases hg : gCond s h o y
    · have hb0 : y.b ≠ -1 := hg.2.1
      rw [decide_eq_true hg, if_pos rfl, if_pos hg, ix_eq 0 (by omega) (by omega), Option.bind_some, Option.bind_some, Option.bind_some, Option.bind_some, addc_eq (by omega), Option.bind_some]
      rfl
    · rw [decide_eq_false hg, if_neg (by decide), if_neg hg, Option.bind_some, addc_eq (by omega), Option.bind_some]
      rfl) (by
    unfold m_laurellaw01_gates_L4
    dsimp only
    rw [if_neg (by simp)]) FU (FU_lt (by omega))
  exact key
theorem lawg_L3 {s : Sands} (hG : Good s) {h : Int} {out : List Int} (hl : out.length = s.floors.length) {S : m_laurellaw01_gates_S1} (hS : S.t23 = h) :
    iterM FU (m_laurellaw01_gates_L3 s S) ⟨0, out⟩ = some (sillN s h out s.sills.length) := by
  have hsl := hG.sl
  have key := iterM_run (f := m_laurellaw01_gates_L3 s S) (b := sillN s h out s.sills.length) (fun k : Nat => (⟨(k : Int), sillN s h out k⟩ : m_laurellaw01_gates_S3)) s.sills.length (fun k hk => by
    unfold m_laurellaw01_gates_L3
    dsimp only
    rw [if_pos (by omega), ix_nat default hk, Option.bind_some, lawg_L4 hG hk (sillN_length.trans hl) hS, Option.bind_some, addc_eq (by omega), Option.bind_some, sillN_succ hk]
    rfl) (by
    unfold m_laurellaw01_gates_L3
    dsimp only
    rw [if_neg (by omega)]) FU (FU_lt (by omega))
  exact key
theorem lawg_L2 {s : Sands} (hG : Good s) {h : Int} {out : List Int} (hl : out.length = s.floors.length) {S : m_laurellaw01_gates_S1} (hS : S.t23 = h) :
    iterM FU (m_laurellaw01_gates_L2 s S) ⟨0, out⟩ = some (roundsN s h out s.floors.length) := by
  have hfl := hG.fl
  have key := iterM_run (f := m_laurellaw01_gates_L2 s S) (b := roundsN s h out s.floors.length) (fun k : Nat => (⟨(k : Int), roundsN s h out k⟩ : m_laurellaw01_gates_S2)) s.floors.length (fun k hk => by
    unfold m_laurellaw01_gates_L2
    dsimp only
    rw [if_pos (by omega), lawg_L3 hG (roundsN_length.trans hl) hS, Option.bind_some, addc_eq (by omega), Option.bind_some]
    rfl) (by
    unfold m_laurellaw01_gates_L2
    dsimp only
    rw [if_neg (by omega)]) FU (FU_lt (by omega))
  exact key
theorem lawg_eq {s : Sands} (hG : Good s) : m_laurellaw01_gates s = some (lawGates s) := by
  have hfl := hG.fl
  unfold m_laurellaw01_gates
  rw [makec_eq (by omega), Option.bind_some, Int.toNat_natCast]
  have k0 := iterM_run (f := m_laurellaw01_gates_L0 (List.replicate s.floors.length 0)) (b := initO s.floors.length s.floors.length) (fun k : Nat => (⟨(k : Int), initO s.floors.length k⟩ : m_laurellaw01_gates_S0)) s.floors.length (fun k hk => by
    unfold m_laurellaw01_gates_L0
    dsimp only
    rw [List.length_replicate, if_pos (by omega), ix_nat 0 (by rw [initO_length]; exact hk), Option.bind_some, Option.bind_some, addc_eq (by omega), Option.bind_some, Int.toNat_natCast, initO_set hk]
    rfl) (by
    unfold m_laurellaw01_gates_L0
    dsimp only
    rw [List.length_replicate, if_neg (by omega)]) FU (FU_lt (by omega))
  have hz : initO s.floors.length 0 = List.replicate s.floors.length 0 := by
    unfold initO
    apply List.ext_getElem
    · simp
    · intro i h1 h2; simp
  have k0' : iterM FU (m_laurellaw01_gates_L0 (List.replicate s.floors.length 0)) ⟨0, List.replicate s.floors.length 0⟩ = some (initO s.floors.length s.floors.length) := by
    rw [← hz]; rw [← hz] at k0; exact k0
  rw [k0', Option.bind_some]
  -- the search ends at 61
  have k2 : ∀ N, 61 < N → iterM N (m_laurellaw01_gates_L1 s) ⟨0, initO s.floors.length s.floors.length⟩ = some (lawGates s) := fun N hN => by
    have := iterM_run (f := m_laurellaw01_gates_L1 s) (b := lawGates s) (fun h : Nat => (⟨(h : Int), heightN s (initO s.floors.length s.floors.length) h⟩ : m_laurellaw01_gates_S1)) 61 (fun h hh => by
      unfold m_laurellaw01_gates_L1
      dsimp only
      rw [if_pos (by omega), lawg_L2 hG (heightN_length.trans initO_length) rfl, Option.bind_some, if_neg (by omega), addc_eq (by omega), Option.bind_some]
      rfl) (by
      unfold m_laurellaw01_gates_L1
      dsimp only
      rw [if_pos (by omega), lawg_L2 hG (heightN_length.trans initO_length) rfl, Option.bind_some, if_pos (by omega)]
      rfl) N hN
    exact this
  rw [k2 FU (FU_lt (by omega)), Option.bind_some]
theorem lawGates_len {s : Sands} : (lawGates s).length = s.floors.length := heightN_length.trans initO_length
theorem wet_eq {s : Sands} (hG : Good s) {g : List Int} (hg : g.length = s.floors.length) {l : Look} (hl : lookOK s l) {tr : Int} (ht : -50 ≤ tr ∧ tr ≤ 50) : m_laurellaw01_wet s g l.min l.place tr = some (decide (g.getD l.place.toNat 0 < heightF s l.min + tr)) := by
  have hp := isPlace_iff.1 hl.2
  have hb := height_tight hG hl.1
  unfold m_laurellaw01_wet
  rw [ix_eq 0 hp.1 (by omega), Option.bind_some, line_eq hG hl.1, Option.bind_some, addc_eq (by omega), Option.bind_some]
theorem looked_ok' {l : List Int} {p r : Int} (hl : l.length ≤ 9223372036854775807) (hp : HOK l p) {s : Sands} (hG : Good s) {g : List Int} (hg : g.length = s.floors.length) {tr : Int} (ht : -50 ≤ tr ∧ tr ≤ 50) {most : Int} (hm : 0 ≤ most ∧ most ≤ 100) :
    ∃ x, m_laurellaw01_looked l p r s g tr most = some x ∧ x.r0.length ≤ most.toNat ∧ (∀ y, y ∈ x.r0 → lookT s g tr y) ∧ HOK l x.b0_1 := by
  have htl := hG.tl
  have hfl := hG.fl
  have hds := day_span hG
  have hS := Good.short hG
  unfold m_laurellaw01_looked
  obtain ⟨u, hu, hub, huk⟩ := upto_ok (r := r) (n := most) hl hp (by omega)
  rw [hu, Option.bind_some]
  obtain ⟨b, hb, hQ⟩ := iterM_inv (f := m_laurellaw01_looked_L0 u s l g tr) (fun x => (0 ≤ x.t16 ∧ x.t16 ≤ u.r0) ∧ HOK l x.b0_1 ∧ (x.out11.length : Int) = x.t16 ∧ ∀ y, y ∈ x.out11 → lookT s g tr y) (fun x => (u.r0 - x.t16).toNat)
    (fun b => HOK l b.b0_1 ∧ (b.out11.length : Int) ≤ u.r0 ∧ ∀ y, y ∈ b.out11 → lookT s g tr y)
    (fun x ⟨hx, hk, hlen, hall⟩ => by
      obtain ⟨t, q1, q2, out⟩ := x
      simp only at hx hk hlen hall
      by_cases hlt : t < u.r0
      · left
        obtain ⟨m, hm1, hmb, hmk⟩ := from_ok (r := q2) (lo := firstM s) (hi := lastM s) hl hk (by omega)
        obtain ⟨y, hy, hyb, hyk⟩ := upto_ok (r := m.h0_2) (n := (s.floors.length : Int) - 1) hl hmk (by omega)
        have hlk : lookOK s ⟨m.r0, y.r0, false⟩ := ⟨by simp only [dayF, inr_iff]; omega, isPlace_iff.2 ⟨by simp only; omega, by simp only; omega⟩⟩
        have hw := wet_eq hG hg hlk ht
        simp only at hw
        unfold m_laurellaw01_looked_L0
        dsimp only
        rw [if_pos hlt, subc_eq (by omega), Option.bind_some, lawfirst_eq (by omega), Option.bind_some, lawlast_eq hS (by omega), Option.bind_some, hm1, Option.bind_some, hy, Option.bind_some, Option.bind_some]
        dsimp only
        rw [hw, Option.bind_some, appc_eq (by simp only [List.length_singleton]; omega), Option.bind_some, addc_eq (by omega), Option.bind_some]
        refine ⟨_, rfl, ⟨by simp only; omega, hyk, by simp only [List.length_append, List.length_singleton]; omega, fun z hz => ?_⟩, by simp only; omega⟩
        simp only [List.mem_append, List.mem_singleton] at hz
        rcases hz with hz | rfl
        · exact hall z hz
        · exact ⟨hlk, rfl⟩
      · right
        unfold m_laurellaw01_looked_L0
        dsimp only
        rw [if_neg hlt]
        exact ⟨_, rfl, hk, by simp only; omega, hall⟩) FU ⟨0, u.h0_1, u.h0_2, []⟩ (FU_lt (by simp only; omega)) ⟨by simp only; omega, huk, by simp, fun y hy => by simp at hy⟩
  rw [hb, Option.bind_some]
  exact ⟨_, rfl, by have := hQ.2.1; simp only; omega, hQ.2.2, hQ.1⟩
end Go.Proofs.Wk

namespace Go.Proofs.Wk
open Go Go.Gx Go.Pl
set_option linter.unusedVariables false
/-! ### TideLooked -/
theorem lookedE_ok {s : Sands} (hG : Good s) {k : List Look} (hk : ∀ l, l ∈ k → lookOK s l) (hl : k.length ≤ 10) : lookedE s k = 0 := by
  rw [lookedE_look (check_of_good hG) (by omega)]
  exact lookE_ok (fun i hi => hk _ (mem_getD hi))
theorem looksR_ok {s : Sands} (hG : Good s) {k : List Look} (hk : ∀ l, l ∈ k → lookOK s l) (hl : k.length ≤ 10) : LooksR s k = if noneT s k = true then (⟨0, 0⟩, 7) else (leftG s (gatesOf s) k, 0) := by
  unfold LooksR noneT
  rw [if_neg (by rw [lookedE_ok hG hk hl]; simp)]
  by_cases h : (leftG s (gatesOf s) k).hi < (leftG s (gatesOf s) k).lo
  · rw [if_pos h, if_pos (decide_eq_true h)]
  · rw [if_neg h, if_neg (by simpa using h)]
theorem none_mono {s : Sands} (hG : Good s) {k m : List Look} (hk : ∀ l, l ∈ k → lookOK s l) (hm : ∀ l, l ∈ m → l ∈ k) (h : noneT s m = true) : noneT s k = true := by
  rw [none_iff hG (fun l hl => hk l (hm l hl))] at h
  rw [none_iff hG hk]
  exact fun w a b c => h w a b fun l hl => c l (hm l hl)
/-- what Clash finds -/
theorem clash_cases {s : Sands} (hG : Good s) {k : List Look} (hk : ∀ l, l ∈ k → lookOK s l) (hl : k.length ≤ 10) :
    (∃ i, i < k.length ∧ ClashR s k = ⟨0, [(i : Int)]⟩ ∧ noneT s [k.getD i default] = true) ∨
    (∃ i j, i < j ∧ j < k.length ∧ ClashR s k = ⟨0, [(i : Int), (j : Int)]⟩ ∧ noneT s [k.getD i default, k.getD j default] = true ∧ noneT s [k.getD i default] = false ∧ noneT s [k.getD j default] = false) ∨
    (ClashR s k = ⟨6, []⟩ ∧ noneT s k = false) := by
  unfold ClashR
  rw [if_neg (show ¬ (lookedE s k ≠ 0) by rw [lookedE_ok hG hk hl]; simp)]
  cases h1 : (List.range k.length).find? (fun i => noneT s [k.getD i default]) with
  | some i =>
    obtain ⟨hi, hc, _⟩ := find_first h1
    exact .inl ⟨i, hi, rfl, hc⟩
  | none =>
    right
    have h1' : ∀ i, i < k.length → noneT s [k.getD i default] = false := find_none h1
    cases h2 : (List.range k.length).find? (fun i => (mateF s k i).isSome) with
    | some i =>
      obtain ⟨hi, hsome, _⟩ := find_first h2
      cases hm : mateF s k i with
      | none => rw [hm] at hsome; exact absurd hsome (by decide)
      | some j0 =>
        obtain ⟨hj, hp, _⟩ := find_first (show (List.range (k.length - (i + 1))).find? (pairT s k i) = some j0 from hm)
        have hpn := pair_none hG hk h1' (show i < i + 1 + j0 by omega) (by omega)
        rw [show i + 1 + j0 - (i + 1) = j0 by omega, hp] at hpn
        refine .inl ⟨i, i + 1 + j0, by omega, by omega, ?_, hpn.symm, h1' i (by omega), h1' _ (by omega)⟩
        simp only [hm, Option.getD_some]
    | none =>
      have h2' := find_none h2
      refine .inr ⟨rfl, no_clash hG hk h1' fun i j hij hj => ?_⟩
      have h5 := h2' i (by omega)
      cases h6 : mateF s k i with
      | some x => rw [h6] at h5; exact absurd h5 (by simp)
      | none =>
        rw [← pair_none hG hk h1' hij hj]
        exact find_none (show (List.range (k.length - (i + 1))).find? (pairT s k i) = none from h6) _ (by omega)
theorem none_told {s : Sands} (hG : Good s) {gs : List Int} (hgl : ∀ j, j < s.floors.length → gateRel ((gatesOf s).getD j 0) (gs.getD j 0)) {tr : Int} (ht : s.wind.lo ≤ tr ∧ tr ≤ s.wind.hi) {l : List Look} (h : ∀ x, x ∈ l → lookT s gs tr x) : noneT s l = false := by
  have h1 := left_told hG hgl ht l h s.wind ⟨Int.le_refl _, ht.1⟩ ⟨ht.2, Int.le_refl _⟩
  unfold noneT
  refine decide_eq_false ?_
  unfold leftG
  omega
/-- looks turned round: where they are stays -/
theorem looked_L0 {s : Sands} {t : m_laurellaw01_looked_R} (hk : ∀ l, l ∈ t.r0 → lookOK s l) (hl : t.r0.length ≤ 10) {turned : Int} (hn : 0 ≤ turned ∧ turned ≤ 255) :
    ∃ o, iterM FU (m_laurellaw01_TideLooked_L0 t turned) ⟨0, t.r0⟩ = some o ∧ o.length = t.r0.length ∧ ∀ l, l ∈ o → lookOK s l := by
  obtain ⟨b, hb, hQ⟩ := iterM_inv (f := m_laurellaw01_TideLooked_L0 t turned) (fun x => (0 ≤ x.t57 ∧ x.t57 ≤ (t.r0.length : Int)) ∧ x.r0.length = t.r0.length ∧ ∀ l, l ∈ x.r0 → lookOK s l) (fun x => ((t.r0.length : Int) - x.t57).toNat) (fun b => b.length = t.r0.length ∧ ∀ l, l ∈ b → lookOK s l)
    (fun x ⟨hx, hlen, hall⟩ => by
      obtain ⟨i, r⟩ := x
      simp only at hx hlen hall
      unfold m_laurellaw01_TideLooked_L0
      dsimp only
      by_cases hlt : i < (t.r0.length : Int)
      · left
        rw [if_pos hlt, if_pos hx.1]
        by_cases hbit : (IntKind.u8.wrap (BitVec.ofInt IntKind.u8.bits (Int.fdiv turned (2 ^ min (Int.toNat i) IntKind.u8.bits)) &&& BitVec.ofInt IntKind.u8.bits 1).toNat) = 1
        · rw [if_pos hbit, ix_eq default hx.1 (by omega), Option.bind_some, Option.bind_some, Option.bind_some, Option.bind_some, addc_eq (by omega), Option.bind_some]
          refine ⟨_, rfl, ⟨by simp only; omega, by simp only [List.length_set]; exact hlen, fun l hm => ?_⟩, by simp only; omega⟩
          rcases List.mem_or_eq_of_mem_set hm with hm | rfl
          · exact hall l hm
          · have hz : lookOK s (r.getD i.toNat default) := hall _ (mem_getD (show i.toNat < r.length by omega))
            exact hz
        · rw [if_neg hbit, Option.bind_some, addc_eq (by omega), Option.bind_some]
          exact ⟨_, rfl, ⟨by simp only; omega, hlen, hall⟩, by simp only; omega⟩
      · right
        rw [if_neg hlt]
        exact ⟨_, rfl, hlen, hall⟩) FU ⟨0, t.r0⟩ (FU_lt (by simp only; omega)) ⟨by simp only; omega, rfl, hk⟩
  exact ⟨b, hb, hQ⟩
/-- one look more never widens what is left -/
theorem looked_L1 {o : List Look} {m : m_laurellaw01_Made_R} (hG : Good m.r0) (hk : ∀ l, l ∈ o → lookOK m.r0 l) (hl : o.length ≤ 10) :
    ∃ c, iterM FU (m_laurellaw01_TideLooked_L1 o m) ⟨0, m.r0.wind.lo, m.r0.wind.hi⟩ = some (.inl c) := by
  have hS := Good.short hG
  have hwi := hG.wind
  obtain ⟨b, hb, hQ⟩ := iterM_inv (f := m_laurellaw01_TideLooked_L1 o m) (fun x => ∃ k : Nat, x.t80 = (k : Int) ∧ k ≤ o.length ∧ (⟨x.now13_lo, x.now13_hi⟩ : Span) = leftG m.r0 (gatesOf m.r0) (o.take k)) (fun x => ((o.length : Int) - x.t80).toNat) (fun b => ∃ c, b = .inl c)
    (fun x ⟨k, hx, hkl, hnow⟩ => by
      obtain ⟨i, lo, hi⟩ := x
      simp only at hx hnow
      subst hx
      unfold m_laurellaw01_TideLooked_L1
      dsimp only
      by_cases hlt : k < o.length
      · have hk' : ∀ l, l ∈ o.take (k + 1) → lookOK m.r0 l := fun l hm => hk l (List.mem_of_mem_take hm)
        have hstep : leftG m.r0 (gatesOf m.r0) (o.take (k + 1)) = leftStep m.r0 (gatesOf m.r0) ⟨lo, hi⟩ (o.getD k default) := by
          rw [hnow]
          unfold leftG
          exact take_fold default hlt
        have hin : lo ≤ (leftG m.r0 (gatesOf m.r0) (o.take (k + 1))).lo ∧ (leftG m.r0 (gatesOf m.r0) (o.take (k + 1))).hi ≤ hi := by
          rw [hstep]
          unfold leftStep
          split <;> (simp only; omega)
        have ht : (((k : Int) + 1).toNat) = k + 1 := by omega
        rw [if_pos (by omega), addc_eq (by omega), Option.bind_some, if_pos (by omega), ht, x_Looks_eq hS (by rw [List.length_take]; omega), Option.bind_some, Option.bind_some, looksR_ok hG hk' (by rw [List.length_take]; omega)]
        by_cases hn : noneT m.r0 (o.take (k + 1)) = true
        · right
          rw [if_pos hn]
          dsimp only
          rw [if_pos rfl]
          exact ⟨_, rfl, _, rfl⟩
        · left
          have hn2 : ¬ ((leftG m.r0 (gatesOf m.r0) (o.take (k + 1))).hi < (leftG m.r0 (gatesOf m.r0) (o.take (k + 1))).lo) := by
            unfold noneT at hn
            simpa using hn
          rw [if_neg hn]
          dsimp only
          rw [if_neg (by decide), if_pos rfl, if_neg (by omega), if_neg (by omega), Option.bind_some, decide_eq_false hn2, if_neg (by decide), Option.bind_some]
          exact ⟨_, rfl, ⟨k + 1, by simp only; omega, by omega, rfl⟩, by simp only; omega⟩
      · right
        rw [if_neg (by omega)]
        exact ⟨_, rfl, _, rfl⟩) FU ⟨0, m.r0.wind.lo, m.r0.wind.hi⟩ (FU_lt (by simp only; omega)) ⟨0, rfl, by omega, rfl⟩
  obtain ⟨c, rfl⟩ := hQ
  exact ⟨c, hb⟩
end Go.Proofs.Wk

namespace Go.Proofs.Wk
open Go Go.Gx Go.Pl
set_option linter.unusedVariables false
theorem clone_eq {l : List Look} (h0 : 0 < l.length) (hl : l.length ≤ 1000) : m_slices_Clone_tideLooktideLook l = some l := by
  unfold m_slices_Clone_tideLooktideLook
  rw [if_pos (by omega), appc_eq (by simp; omega), Option.bind_some]
  rfl
theorem delete_eq {l : List Look} {i : Nat} (hi : i < l.length) (hl : l.length ≤ 1000) : m_slices_Delete_tideLooktideLook_1 l (i : Int) ((i : Int) + 1) = some (l.take i ++ l.drop (i + 1)) := by
  have e : ((i : Int) + 1).toNat = i + 1 := by omega
  unfold m_slices_Delete_tideLooktideLook_1
  rw [if_pos (by omega), if_neg (by omega), if_pos (by omega), if_pos (by omega), if_pos (by omega), Int.toNat_natCast, e, if_pos]
  simp only [List.length_append, List.length_take, List.length_drop]
  omega
/-- what Clash lists, taken out -/
theorem looked_L2 {c : m_tide_Clash_1_R} {o : List Look} (hl : o.length ≤ 10) {js : List Nat} (hc : c.r0 = js.map fun j : Nat => (j : Int)) (hr : ∀ j, j ∈ js → j < o.length) (hinc : ∀ k, k + 1 < js.length → js.getD k 0 < js.getD (k + 1) 0) (hjl : js.length ≤ 10) :
    iterM FU (m_laurellaw01_TideLooked_L2 c o) ⟨0, []⟩ = some (.inl (js.map fun j => o.getD j default)) := by
  have hlen : c.r0.length = js.length := by rw [hc]; simp
  have key := iterM_run (f := m_laurellaw01_TideLooked_L2 c o) (b := .inl (js.map fun j => o.getD j default)) (fun k : Nat => (⟨(k : Int), (js.take k).map fun j => o.getD j default⟩ : m_laurellaw01_TideLooked_S2)) js.length (fun k hk => by
    have hg : ∀ i, i < js.length → ix c.r0 (i : Int) = some ((js.getD i 0 : Nat) : Int) := fun i hi => by
      rw [hc, ix_nat 0 (by simpa using hi)]
      simp [List.getD_eq_getElem?_getD, hi]
    have hrk := hr _ (mem_getD (d := 0) hk)
    unfold m_laurellaw01_TideLooked_L2
    dsimp only
    rw [hlen, if_pos (by omega), hg k hk, Option.bind_some, if_neg (by omega), if_neg (by omega)]
    have hb : ((if 0 < (k : Int) then ((subc (k : Int) 1).bind fun t173 => (ix c.r0 t173).bind fun t174 => some (decide (((js.getD k 0 : Nat) : Int) ≤ t174))) else (some false)) : Option Bool) = some false := by
      by_cases h0 : 0 < (k : Int)
      · have h1 := hinc (k - 1) (by omega)
        rw [show k - 1 + 1 = k by omega] at h1
        rw [if_pos h0, subc_eq (by omega), Option.bind_some, show (k : Int) - 1 = ((k - 1 : Nat) : Int) by omega, hg (k - 1) (by omega), Option.bind_some, decide_eq_false (by omega)]
      · rw [if_neg h0]
    rw [hb, Option.bind_some, if_neg (by decide), ix_nat default hrk, Option.bind_some, appc_eq (by simp only [List.length_map, List.length_take, List.length_singleton]; omega), Option.bind_some, addc_eq (by omega), Option.bind_some, ← take_snoc 0 hk, List.map_append]
    rfl) (by
    unfold m_laurellaw01_TideLooked_L2
    dsimp only
    rw [hlen, if_neg (by omega), List.take_length]) FU (FU_lt (by omega))
  exact key
/-- without any one of them a truth agrees -/
theorem looked_L3 {own : List Look} {m : m_laurellaw01_Made_R} (hG : Good m.r0) (hk : ∀ l, l ∈ own → lookOK m.r0 l) (hl : own.length ≤ 10) (h : ∀ i, i < own.length → noneT m.r0 (own.take i ++ own.drop (i + 1)) = false) :
    iterM FU (m_laurellaw01_TideLooked_L3 own m) 0 = some (.inl ()) := by
  have hS := Good.short hG
  have key := iterM_any (f := m_laurellaw01_TideLooked_L3 own m) 0 own.length (fun _ => false) (fun _ => false) (fun i hi => by
    have hk' : ∀ l, l ∈ own.take i ++ own.drop (i + 1) → lookOK m.r0 l := fun l hm => by
      rcases List.mem_append.1 hm with hm | hm
      · exact hk l (List.mem_of_mem_take hm)
      · exact hk l (List.mem_of_mem_drop hm)
    have hlen : (own.take i ++ own.drop (i + 1)).length ≤ 10 := by
      simp only [List.length_append, List.length_take, List.length_drop]
      omega
    unfold m_laurellaw01_TideLooked_L3
    rw [Int.zero_add, if_pos (by omega), addc_eq (by omega), Option.bind_some, clone_eq (by omega) (by omega), Option.bind_some, delete_eq hi (by omega), Option.bind_some]
    rw [x_Looks_eq hS (by omega), Option.bind_some, looksR_ok hG hk' hlen, h i hi, if_neg (by decide), Option.bind_some, if_pos rfl, Option.bind_some]
    rfl) (by
    unfold m_laurellaw01_TideLooked_L3
    rw [Int.zero_add, if_neg (by omega)]) (N := FU) (FU_lt (by omega))
  rw [key]
  have : (List.range own.length).find? (fun _ => false) = none := by simp
  rw [this]
theorem pile_eqL (l : List Int) : m_laurelkit_Pile l = some ⟨0, 0⟩ := rfl
/-- TideLooked is true of all bytes -/
theorem looked_true {l l2 : List Int} {turned : Int} (hl : l.length ≤ 9223372036854775807) (hl2 : l2.length ≤ 9223372036854775807) (hn : 0 ≤ turned ∧ turned ≤ 255) : m_laurellaw01_TideLooked l l2 turned = some true := by
  unfold m_laurellaw01_TideLooked
  obtain ⟨o, ho, hM, _⟩ := made_ok (r := 0) hl (p := 0) ⟨Int.le_refl _, .inr rfl⟩ (pl := 6) (sl := 9) (by omega) (by omega)
  have hG := MadeOK.good hM (by omega) (by omega)
  have hS := Good.short hG
  have hlo := hG.lo
  have hhi := hG.hi
  have hwi := hG.wind
  have hrel : ∀ j, j < o.r0.floors.length → gateRel ((gatesOf o.r0).getD j 0) ((lawGates o.r0).getD j 0) := fun j hj => made_rel hM hG hj
  obtain ⟨tr, htr, htb, htk⟩ := from_ok (l := l2) (p := 0) (r := 0) (lo := o.r0.wind.lo) (hi := o.r0.wind.hi) hl2 ⟨Int.le_refl _, .inr rfl⟩ (by omega)
  obtain ⟨t, ht, htl, htt, _⟩ := looked_ok' (r := tr.h0_2) hl2 htk hG (g := lawGates o.r0) lawGates_len (tr := tr.r0) (by omega) (most := 5) (by omega)
  have htl5 : t.r0.length ≤ 5 := htl
  have hk1 : ∀ x, x ∈ t.r0 → lookOK o.r0 x := fun x hx => (htt x hx).1
  have hcl : ClashR o.r0 t.r0 = ⟨6, []⟩ := by
    have hnone := none_told hG hrel (tr := tr.r0) (by omega) htt
    rcases clash_cases hG hk1 (by omega) with ⟨i, hi, _, h⟩ | ⟨i, j, hij, hj, _, h, _⟩ | ⟨h, _⟩
    · have := none_mono hG hk1 (m := [t.r0.getD i default]) (fun x hx => by rw [List.mem_singleton.1 hx]; exact mem_getD hi) h
      rw [hnone] at this; exact absurd this (by decide)
    · have := none_mono hG hk1 (m := [t.r0.getD i default, t.r0.getD j default]) (fun x hx => by
        rcases List.mem_cons.1 hx with rfl | hx
        · exact mem_getD (by omega)
        · rw [List.mem_singleton.1 hx]; exact mem_getD hj) h
      rw [hnone] at this; exact absurd this (by decide)
    · exact h
  rw [pile_eqL, Option.bind_some, ho, Option.bind_some, pile_eqL, Option.bind_some, lawg_eq hG, Option.bind_some, htr, Option.bind_some, ht, Option.bind_some, clash_eq hS (by omega) looked_ok, hcl, Option.bind_some]
  dsimp only
  obtain ⟨k, hk0, hklen, hkall⟩ := looked_L0 hk1 (by omega) hn
  obtain ⟨c1, hc1⟩ := looked_L1 hG hkall (by omega)
  rw [if_pos rfl, hk0, Option.bind_some, hc1, Option.bind_some, oc_inl, x_Looks_eq hS (by omega), Option.bind_some, clash_eq hS (by omega) looked_ok, Option.bind_some, looksR_ok hG hkall (by omega)]
  have hkl : k.length ≤ 10 := by omega
  rcases clash_cases hG hkall hkl with ⟨i, hi, hc, h⟩ | ⟨i, j, hij, hj, hc, h, h1, h2⟩ | ⟨hc, h⟩
  · have hall := none_mono hG hkall (m := [k.getD i default]) (fun x hx => by rw [List.mem_singleton.1 hx]; exact mem_getD hi) h
    have hko : ∀ x, x ∈ [k.getD i default] → lookOK o.r0 x := fun x hx => by rw [List.mem_singleton.1 hx]; exact hkall _ (mem_getD hi)
    have hL2 := looked_L2 (c := ClashR o.r0 k) (o := k) hkl (js := [i]) (by rw [hc]; rfl) (fun j hj => by rw [List.mem_singleton.1 hj]; exact hi) (fun a ha => by simp at ha) (by simp)
    have hL3 := looked_L3 (own := [k.getD i default]) hG hko (by simp) (fun a ha => by
      have : a = 0 := by simpa using ha
      subst this
      exact none_told hG hrel (tr := tr.r0) (by omega) (l := []) (fun x hx => by cases hx))
    rw [hc] at hL2
    rw [if_pos hall, hc]
    dsimp only
    rw [if_neg (by simp), if_pos rfl, if_neg (by decide), Option.bind_some, decide_eq_true rfl, if_neg (by decide), hL2, Option.bind_some, oc_inl, if_pos rfl]
    simp only [List.map_cons, List.map_nil]
    rw [x_Looks_eq hS (by simp), Option.bind_some, looksR_ok hG hko (by simp), if_pos h]
    dsimp only
    rw [if_pos rfl, hL3, Option.bind_some, oc_inl, Option.bind_some, oc_inl, x_awake_eq, Option.bind_some]
  · have hall := none_mono hG hkall (m := [k.getD i default, k.getD j default]) (fun x hx => by
        rcases List.mem_cons.1 hx with rfl | hx
        · exact mem_getD (by omega)
        · rw [List.mem_singleton.1 hx]; exact mem_getD hj) h
    have hko : ∀ x, x ∈ [k.getD i default, k.getD j default] → lookOK o.r0 x := fun x hx => by
      rcases List.mem_cons.1 hx with rfl | hx
      · exact hkall _ (mem_getD (by omega))
      · rw [List.mem_singleton.1 hx]; exact hkall _ (mem_getD hj)
    have hL2 := looked_L2 (c := ClashR o.r0 k) (o := k) hkl (js := [i, j]) (by rw [hc]; rfl) (fun a ha => by
      rcases List.mem_cons.1 ha with rfl | ha
      · omega
      · rw [List.mem_singleton.1 ha]; exact hj) (fun a ha => by
      have : a = 0 := by simp at ha; omega
      subst this
      exact hij) (by simp)
    have hL3 := looked_L3 (own := [k.getD i default, k.getD j default]) hG hko (by simp) (fun a ha => by
      have : a = 0 ∨ a = 1 := by simp at ha; omega
      rcases this with rfl | rfl
      · exact h2
      · exact h1)
    rw [hc] at hL2
    rw [if_pos hall, hc]
    dsimp only
    rw [if_neg (by simp), if_pos rfl, if_neg (by decide), Option.bind_some, decide_eq_true rfl, if_neg (by decide), hL2, Option.bind_some, oc_inl, if_pos rfl]
    simp only [List.map_cons, List.map_nil]
    rw [x_Looks_eq hS (by simp), Option.bind_some, looksR_ok hG hko (by simp), if_pos h]
    dsimp only
    rw [if_pos rfl, hL3, Option.bind_some, oc_inl, Option.bind_some, oc_inl, x_awake_eq, Option.bind_some]
  · have hL2 := looked_L2 (c := ClashR o.r0 k) (o := k) hkl (js := []) (by rw [hc]; rfl) (fun j hj => by cases hj) (fun a ha => by simp at ha) (by simp)
    rw [hc] at hL2
    rw [if_neg (show ¬ (noneT o.r0 k = true) by rw [h]; decide), hc]
    dsimp only
    rw [if_neg (by simp), if_neg (by decide), if_pos rfl, if_pos rfl, Option.bind_some, if_neg (by decide), hL2, Option.bind_some, oc_inl, if_neg (by decide), Option.bind_some, oc_inl, x_awake_eq, Option.bind_some]
end Go.Proofs.Wk

namespace Go.Gx
open Go Go.Fw Go.RowKit
/-! ### arguments, as they come in -/
section
variable {H : Type} {enc : TypeId × Value → H} {P : Program} {w : World} {base : Nat} {sp : Nat → Bool} {held : Bool}
/-- what of this type comes in is, cell by cell, a value of this row -/
def Opens (enc : TypeId × Value → H) (P : Program) (w : World) (base : Nat) (sp : Nat → Bool) (held : Bool) {α : Type} (R : Row α) (wf : α → Prop) (t : TypeId) : Prop :=
  ∀ fuel cs x, DataW.trod enc P w base sp held fuel t cs = some x → ∃ a, cs = R.cells a ∧ wf a
def u8P (n : Int) : Prop := 0 ≤ n ∧ n ≤ 255
theorem wf_u8P {n : Int} (h : (Lit.int .u8 n).wf = true) : u8P n := by
  simp [Lit.wf, IntKind.min, IntKind.max, IntKind.signed, IntKind.bits] at h
  unfold u8P; omega
theorem opens_u8 {t : TypeId} (ht : P.underlying t = some (.int .u8)) : Opens enc P w base sp held RU8 u8P t := fun fuel cs x h => by
  obtain ⟨n, rfl, _, hw⟩ := DataW.trod_int ht h
  exact ⟨n, rfl, wf_u8P hw⟩
/-- a field of a struct, by its cells -/
theorem fieldAt {fs : Array Field} {t : TypeId} {fuel : Nat} {cs : List Value} {x : DataW H × List MemPlace} (ht : P.underlying t = some (.struct fs)) (h : DataW.trod enc P w base sp held fuel t cs = some x) {α : Type} {R : Row α} {wf : α → Prop} (i : Nat) {T o k : Nat}
    (hf : (fs[i]?).map (fun fd => (fd.type, fd.offset)) = some (T, o)) (hk : P.cellsOf T = k) (hR : Opens enc P w base sp held R wf T) : ∃ a, (cs.drop o).take k = R.cells a ∧ wf a := by
  obtain ⟨xs, n, rfl, _, hlen, hxl, hx⟩ := DataW.trod_struct ht h
  obtain ⟨fd, hfd, he⟩ : ∃ fd, fs[i]? = some fd ∧ (fd.type, fd.offset) = (T, o) := by
    cases hh : fs[i]? with
    | none => simp [hh] at hf
    | some fd => exact ⟨fd, rfl, by simpa [hh] using hf⟩
  simp only [Prod.mk.injEq] at he
  obtain ⟨rfl, rfl⟩ := he
  have h1 := hx i fd hfd
  rw [hk] at h1
  have hi : i < xs.length := by rw [hxl]; exact (Array.getElem?_eq_some_iff.1 hfd).1
  rw [List.getElem?_eq_getElem hi] at h1
  exact hR _ _ _ h1
/-- a slice that came in -/
structure SlIn {α : Type} (R : Row α) (wf : α → Prop) (w : World) (v : Value) (A : Option Addr) (n c : Nat) (l : List α) : Prop where
  val : v = .slice A n c
  len : l.length = n
  ok : AOK n A
  le : n ≤ c
  max : c ≤ maxLen
  seg : segOK w (aB A, aO A, R.enc l)
  wf : ∀ x, x ∈ l → wf x
theorem choose_list {α : Type} {p : Nat → α → Prop} : ∀ (n : Nat), (∀ i, i < n → ∃ a, p i a) → ∃ l : List α, l.length = n ∧ ∀ i (h : i < l.length), p i l[i]
  | 0, _ => ⟨[], rfl, fun i h => by simp at h⟩
  | n + 1, h => by
    obtain ⟨l, hl, hp⟩ := choose_list n (fun i hi => h i (by omega))
    obtain ⟨a, ha⟩ := h n (by omega)
    refine ⟨l ++ [a], by simp [hl], fun i hi => ?_⟩
    by_cases hil : i < l.length
    · rw [List.getElem_append_left hil]; exact hp i hil
    · have : i = l.length := by simp at hi; omega
      subst this
      rw [List.getElem_append_right (by omega)]
      simp only [Nat.sub_self, List.getElem_cons_zero]
      rw [hl]; exact ha
theorem openSl {α : Type} {R : Row α} {wf : α → Prop} {t e : TypeId} (ht : P.underlying t = some (.slice e)) (hc : P.cellsOf e = R.sz) (hR : Opens enc P w base sp held R wf e) (h0 : Nat.blt 0 R.sz = true)
    {fuel : Nat} {cs : List Value} {x : DataW H × List MemPlace} (h : DataW.trod enc P w base sp held fuel t cs = some x) : ∃ (v : Value) (A : Option Addr) (n c : Nat) (l : List α), cs = [v] ∧ SlIn R wf w v A n c l := by
  have hsz : 0 < R.sz := by simpa using h0
  rcases Go.Deep.open_slice ht h with ⟨rfl, _⟩ | ⟨a, len, cap, m, n, D, Pl, rfl, hb, hl, hm, hmm, _, hi⟩
  · exact ⟨_, none, 0, 0, [], rfl, rfl, rfl, AOK.nil, Nat.le_refl _, Nat.zero_le _, segOK.nil, by simp⟩
  · have hlm : len ≤ m := by rw [hmm]; split <;> omega
    have hcell : ∀ i, i < len → ∃ x : α, (∀ f (hf : f < (R.cells x).length), w.cell? (a.add (i * R.sz + f)) = some (R.cells x)[f]) ∧ wf x := fun i hil => by
      obtain ⟨cs', h1, h2⟩ := hi i (by omega)
      obtain ⟨x, rfl, hw⟩ := hR _ _ _ h2
      obtain ⟨_, _, hat⟩ := World.cells?_some h1
      refine ⟨x, fun f hf => ?_, hw⟩
      have := hat f (by rw [hc, ← R.len x]; exact hf)
      rw [hc] at this
      rw [List.getElem?_eq_getElem hf] at this
      have e : (a.add (i * R.sz)).add f = a.add (i * R.sz + f) := by
        unfold Addr.add
        by_cases h1 : i * R.sz = 0
        · simp [h1]
        · by_cases h2 : f = 0
          · simp [h2]
          · simp [h1, h2, Nat.add_assoc]
      rw [e] at this
      exact this
    obtain ⟨l, hll, hlp⟩ := choose_list len hcell
    have hspot : 0 < len → a.spot = none := fun h0 => by
      obtain ⟨x, hx, _⟩ := hcell 0 h0
      have := World.cell?_spot (hx 0 (by rw [R.len]; exact hsz))
      simpa [Addr.add] using this
    refine ⟨_, some a, len, cap, l, rfl, rfl, hll, fun h0 => ?_, hl, hm, fun j hj => ?_, fun x hx => ?_⟩
    · obtain ⟨b, o, s⟩ := a
      have := hspot h0
      simp only at this
      subst this
      exact ⟨b, o, rfl⟩
    · have hj' : j < l.length * R.sz := by rw [← R.enc_len]; exact hj
      have hpos : 0 < len := by
        rcases Nat.eq_zero_or_pos len with h | h
        · rw [hll, h, Nat.zero_mul] at hj'; omega
        · exact h
      obtain ⟨b, o, s⟩ := a
      have hs := hspot hpos
      simp only at hs
      subst hs
      have hq : j / R.sz < l.length := Nat.div_lt_of_lt_mul (by rw [Nat.mul_comm]; exact hj')
      have hr : j % R.sz < R.sz := Nat.mod_lt _ hsz
      have hd : j / R.sz * R.sz + j % R.sz = j := by rw [Nat.mul_comm]; exact Nat.div_add_mod j R.sz
      have h1 := (hlp (j / R.sz) hq).1 (j % R.sz) (by rw [R.len]; exact hr)
      rw [hd] at h1
      have h2 := R.enc_get l (j / R.sz) (j % R.sz) l[j / R.sz] (List.getElem?_eq_getElem hq) hr
      rw [hd] at h2
      have h3 : (⟨b, o, none⟩ : Addr).add j = ⟨b, o + j, none⟩ := addr_add b o j
      rw [h3] at h1
      simp only [aB, aO, Option.map_some, Option.getD_some]
      rw [h1, ← List.getElem?_eq_getElem, ← h2, List.getElem?_eq_getElem hj]
    · obtain ⟨i, hi', rfl⟩ := List.getElem_of_mem hx
      exact (hlp i hi').2
theorem HV.begin {ro : List Sg} (h : ∀ s, s ∈ ro → segOK w s) : HV w (keys [] []) [] [] ro w :=
  ⟨rfl, rfl, rfl, Nat.le_refl _, fun _ _ _ => rfl, by simp [vbl], by simp [vbl], by simp [vbl], h, by simp [vbl]⟩
theorem segCons {s : Sg} {ro : List Sg} (h : segOK w s) (hr : ∀ t, t ∈ ro → segOK w t) : ∀ t, t ∈ s :: ro → segOK w t := fun t ht => by
  rcases List.mem_cons.1 ht with rfl | ht
  · exact h
  · exact hr t ht
theorem segNil : ∀ t, t ∈ ([] : List Sg) → segOK w t := fun t ht => by cases ht
theorem HV.below {w' : World} (h : HV w (keys [] []) [] [] [] w') : Below w.heap.size w w' := by
  have : Ext [] w w' := HS.toExt h
  exact this.below
end
end Go.Gx

namespace Go.Proofs.Wk
open Go Go.Fw Go.Gx Go.Pl Go.RowKit
section
variable {H : Type} {enc : TypeId × Value → H} {w : World} {base : Nat} {sp : Nat → Bool} {held : Bool}
end
end Go.Proofs.Wk
namespace Go.Proofs.Wk
open Go Go.Gx
theorem opU8 {H : Type} {enc : TypeId × Value → H} {w : World} {base : Nat} {sp : Nat → Bool} {held : Bool} : Opens enc Try.prog w base sp held RU8 u8P 5 := opens_u8 Try.underlying5
end Go.Proofs.Wk

