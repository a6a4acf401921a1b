/- What the functions that the law TideMirrored reaches come to, and why it holds: part 5. -/
import Derived.Test.YtaicfimbclibpaaTideMirrored4
namespace Go.Proofs.Wk
open Go Go.Fw Go.Gx Go.Pl
set_option linter.unusedVariables false
structure m_laurellaw01_TideMirrored_S0 where
  t33 : Int
  r0_table : (List Water)
def m_laurellaw01_TideMirrored_L0 (t29 : (List Water)) (t24 : m_laurellaw01_Made_R) (s : m_laurellaw01_TideMirrored_S0) : Option (m_laurellaw01_TideMirrored_S0 ⊕ (List Water)) :=
 if s.t33 < (t29.length : Int) then
 ((ix s.r0_table s.t33).bind fun t47 =>
 (m_laurellaw01_first t24.r0).bind fun t40 =>
 (m_laurellaw01_last t24.r0).bind fun t42 =>
 (addc t40 t42).bind fun t43 =>
 (subc t43 t47.min).bind fun t50 =>
 (ix s.r0_table s.t33).bind fun t51 =>
 (some (s.r0_table.set (Int.toNat s.t33) (⟨t50, t51.h⟩ : Water))).bind fun r0_table =>
 (addc s.t33 1).bind fun t53 =>
 some (.inl (⟨t53, r0_table⟩ : m_laurellaw01_TideMirrored_S0))) else
 (some (.inr s.r0_table))
structure m_laurellaw01_TideMirrored_S1 where
  t57 : Int
  all6 : (List Int)
def m_laurellaw01_TideMirrored_L1 (t24 : m_laurellaw01_Made_R) (s_1 : m_laurellaw01_TideMirrored_S1) : Option (m_laurellaw01_TideMirrored_S1 ⊕ (List Int)) :=
 if s_1.t57 < (t24.r0.floors.length : Int) then
 ((appc 8 s_1.all6 [s_1.t57]).bind fun t63 =>
 (addc s_1.t57 1).bind fun t64 =>
 some (.inl (⟨t64, t63⟩ : m_laurellaw01_TideMirrored_S1))) else
 (some (.inr s_1.all6))
def m_laurellaw01_TideMirrored_L2 (t24 : m_laurellaw01_Made_R) (o : (List Water)) (t26 : Sands) (s_2 : Int) : Option (Int ⊕ (Unit ⊕ Bool)) :=
 (m_laurellaw01_last t24.r0).bind fun t69 =>
 if s_2 ≤ t69 then
 ((m_laurellaw01_first t24.r0).bind fun t74 =>
 (m_laurellaw01_last t24.r0).bind fun t76 =>
 (addc t74 t76).bind fun t77 =>
 (subc t77 s_2).bind fun t79 =>
 (x_Height t24.r0 s_2).bind fun t83 =>
 (x_Height (⟨o, t26.wind, t26.floors, t26.sills⟩ : Sands) t79).bind fun t89 =>
 (x_All t24.r0 s_2).bind fun t95 =>
 (x_All (⟨o, t26.wind, t26.floors, t26.sills⟩ : Sands) t79).bind fun t101 =>
 (if t83.2 = 0 then
 (if t89.2 = 0 then
 (if t95.2 = 0 then
 (if t101.2 = 0 then
 (if t83.1 = t89.1 then
 ((m_laurelkit_Eq_tideState t95.1 t101.1).bind fun t126 =>
 some (!t126)) else
 (some true)) else
 (some true)) else
 (some true)) else
 (some true)) else
 (some true)).bind fun o_3 =>
 if o_3 = true then
 (some (.inr (.inr false))) else
 ((addc s_2 1).bind fun t72 =>
 some (.inl t72))) else
 (some (.inr (.inl ())))
def m_laurellaw01_TideMirrored (numbers0 : (List Int)) : Option Bool :=
 (m_laurelkit_Pile numbers0).bind fun t23 =>
 (m_laurellaw01_Made numbers0 t23.t5_1 t23.t5_2 6 9).bind fun t24 =>
 (m_laurellaw01_Own t24.r0).bind fun t26 =>
 (m_slices_Reverse_tideWatertideWater_1 t26.table).bind fun t29 =>
 (iterM FU (m_laurellaw01_TideMirrored_L0 t29 t24) (⟨0, t29⟩ : m_laurellaw01_TideMirrored_S0)).bind fun o =>
 (iterM FU (m_laurellaw01_TideMirrored_L1 t24) (⟨0, []⟩ : m_laurellaw01_TideMirrored_S1)).bind fun o_1 =>
 (m_laurellaw01_first t24.r0).bind fun t66 =>
 (iterM FU (m_laurellaw01_TideMirrored_L2 t24 o t26) t66).bind fun o_2 =>
 oc o_2 (fun j => (m_tide_Longest_1 t24.r0 o_1).bind fun t132 =>
 (m_tide_Longest_1 (⟨o, t26.wind, t26.floors, t26.sills⟩ : Sands) o_1).bind fun t138 =>
 (if t132.r1 = t138.r1 then
 ((subc t132.r0.hi t132.r0.lo).bind fun t149 =>
 (subc t138.r0.hi t138.r0.lo).bind fun t154 =>
 if t149 = t154 then
 ((x_awake).bind fun t158 =>
 some t158) else
 (some false)) else
 (some false)).bind fun o_4 =>
 some o_4) (fun r_3 => some r_3)
set_option maxRecDepth 100000 in
set_option maxHeartbeats 4000000 in
theorem c_laurellaw01_TideMirrored (numbers0 : (List Int)) (qa0 : Option Addr) (na0 ca0 : Nat) (w : World) (hw : HV w (keys [] []) [] [] [(aB qa0, aO qa0, RU8.enc numbers0)] w) (hna0 : numbers0.length = na0) (hqa0 : AOK na0 qa0) (hla0 : na0 ≤ ca0) {res : Bool} (hm : m_laurellaw01_TideMirrored numbers0 = some res) :
    Calls Try.prog 13 #[.slice qa0 na0 ca0] w (fun en w' => ∃ l : Unit, en = .returned (.bool res) ∧ (True) ∧ HV w (keys [] []) [] [] [] w') := by
  unfold m_laurellaw01_TideMirrored at hm
  refine g_enter (args := [.slice qa0 na0 ca0]) Try.func13 rfl Try.ntmps13 rfl (e := [(0, _)]) rfl (H := HV w (keys [] []) [] [] [(aB qa0, aO qa0, RU8.enc numbers0)]) hw ?_
  refine g_seq ?_
  refine g_region ?_
  refine g_val rfl rfl rfl (fun _ _ => v_assign rfl) ?_
  refine g_nil ?_
  refine g_n_then ?_
  refine g_seq ?_
  refine g_region ?_
  refine g_val rfl rfl rfl (fun _ _ => v_move rfl) ?_
  obtain ⟨t23, h1, hm⟩ := bindO hm
  refine g_callH [] [] rfl rfl rfl rfl rfl rfl rfl (fun a w => Try.call19 a w) (fun w hh => c_laurelkit_Pile numbers0 qa0 na0 ca0 w (HV.callee (S0 := []) (vs0 := []) hh (roC (hh.rsep (S0 := []) (vs0 := []) 0 rfl) roN)) hna0 hqa0 hla0 h1) (fun l h2 => ?_)
  refine g_sel (S' := [_]) (vs' := []) [0] [] 0 (by decide) (by decide) rfl rfl rfl ?_
  obtain ⟨t24, h3, hm⟩ := bindO hm
  refine g_callH [_] [] rfl rfl rfl rfl rfl rfl rfl (fun a w => Try.call18 a w) (fun w hh => c_laurellaw01_Made numbers0 t23.t5_1 t23.t5_2 6 9 l qa0 na0 ca0 w (HV.callee (S0 := [_]) (vs0 := []) hh (roC (hh.rsep (S0 := [_]) (vs0 := []) 0 rfl) roN)) hna0 hqa0 hla0 h3) (fun l_1 h4 => ?_)
  obtain ⟨h5, h6, h7⟩ := h4
  refine g_sel (S' := [_]) (vs' := [_, _, _]) [0] [0, 1, 2] 0 (by decide) (by decide) rfl rfl rfl ?_
  refine g_allocV (fun w => Try.zeroValue29 w) rfl (fun b h8 => ?_)
  refine g_stSA (us := #[_, _, _, _, _]) (cs' := [_, _, _, _, _]) (S' := [_, _]) 0 (fun w => Try.sizeOf29 w) rfl rfl rfl rfl rfl rfl rfl ?_
  refine g_nil ?_
  refine g_n_then ?_
  refine g_seq ?_
  refine g_region ?_
  refine g_val rfl rfl rfl (fun w hh => v_loadAgg (vs := [_, _, _, _, _]) (Try.isAgg29 w) (Try.sizeOf29 w) rfl (hh.cells 0 rfl rfl)) ?_
  obtain ⟨t26, h9, hm⟩ := bindO hm
  refine g_callH [] [] rfl rfl rfl rfl rfl rfl rfl (fun a w => Try.call25 a w) (fun w hh => c_laurellaw01_Own t24.r0 (qA l_1.1.q) l_1.1.n l_1.1.cap (qA l_1.2.1.q) l_1.2.1.n l_1.2.1.cap (qA l_1.2.2.q) l_1.2.2.n l_1.2.2.cap w (HV.callee (S0 := []) (vs0 := []) hh (roC (hh.vsepA (S0 := []) (vs0 := []) 0 rfl h5) (roC (hh.vsepA (S0 := []) (vs0 := []) 1 rfl h6) (roC (hh.vsepA (S0 := []) (vs0 := []) 2 rfl h7) roN)))) (vlen RW h5 rfl) (AOK.q (vne h5)) (h5).hle (vlen RI h6 rfl) (AOK.q (vne h6)) (h6).hle (vlen RS h7 rfl) (AOK.q (vne h7)) (h7).hle h9) (fun l_2 h10 => ?_)
  obtain ⟨h11, h12, h13⟩ := h10
  refine g_sel (S' := [_, _]) (vs' := [_, _, _, _, _, _]) [0, 1] [0, 1, 2, 3, 4, 5] 0 (by decide) (by decide) rfl rfl rfl ?_
  refine g_allocV (fun w => Try.zeroValue29 w) rfl (fun b_1 h14 => ?_)
  refine g_stSA (us := #[_, _, _, _, _]) (cs' := [_, _, _, _, _]) (S' := [_, _, _]) 0 (fun w => Try.sizeOf29 w) rfl rfl rfl rfl rfl rfl rfl ?_
  refine g_nil ?_
  refine g_n_then ?_
  refine g_seq ?_
  refine g_region ?_
  refine g_val rfl rfl rfl (fun w _ => v_fieldAddr 0 (Try.runUnderlying29 w) rfl (Try.sizeOf23 w) rfl) ?_
  refine g_val rfl rfl rfl (fun w hh => v_load (Try.isAgg23 w) rfl (hh.cell 0 rfl rfl)) ?_
  obtain ⟨t29, h15, hm⟩ := bindO hm
  refine g_callH [] [_] rfl rfl rfl rfl rfl rfl rfl (fun a w => Try.call69 a w) (fun w hh => c_slices_Reverse_tideWatertideWater_1 t26.table ⟨l_2.1.q, l_2.1.n, l_2.1.cap, l_2.1.sp⟩ w (HV.callee (S0 := []) (vs0 := [_]) hh roN) h11 h15) (fun l_3 h16 => ?_)
  have h17 := h16
  refine g_sel (S' := [_, _, _]) (vs' := [_, _, _, _, _, _]) [0, 1, 2] [0, 1, 2, 3, 4, 5] 0 (by decide) (by decide) rfl rfl rfl ?_
  refine g_nil ?_
  refine g_n_then ?_
  refine g_seq ?_
  refine g_seq ?_
  refine g_region ?_
  refine g_val rfl rfl rfl (fun w _ => v_fieldAddr 0 (Try.runUnderlying29 w) rfl (Try.sizeOf23 w) rfl) ?_
  refine g_val rfl rfl rfl (fun w hh => v_load (Try.isAgg23 w) rfl (hh.cell 0 rfl rfl)) ?_
  refine g_val rfl rfl rfl (fun w _ => v_lenN (vlen RW h17 rfl) (Try.runUnderlying23 w) rfl) ?_
  refine g_val rfl rfl rfl (fun _ _ => v_move rfl) ?_
  refine g_nil ?_
  refine g_n_then ?_
  obtain ⟨o, h18, h19⟩ := bindO hm
  refine g_cut (ι := Unit) (fun l_4 => VOK 2 l_2.1.n l_2.1.cap (RW.enc o) l_2.1.sp l_2.1.q) (fun l_4 => [(3, ptr b 0), (4, ptr b_1 0)]) (fun l_4 => [(b_1, .cells #[slv l_2.1.q l_2.1.n l_2.1.cap, .int .i64 t26.wind.lo, .int .i64 t26.wind.hi, slv l_2.2.1.q l_2.2.1.n l_2.2.1.cap, slv l_2.2.2.q l_2.2.2.n l_2.2.2.cap] 29 (0, 0)), (b, .cells #[slv l_1.1.q l_1.1.n l_1.1.cap, .int .i64 t24.r0.wind.lo, .int .i64 t24.r0.wind.hi, slv l_1.2.1.q l_1.2.1.n l_1.2.1.cap, slv l_1.2.2.q l_1.2.2.n l_1.2.2.cap] 29 (0, 0)), (l, .cells #[.slice qa0 na0 ca0, .int .i64 t24.b0_1, .int .u32 t24.b0_2] 138 (0, 0))]) (fun l_4 => [⟨68, RW.enc o, l_2.1.sp, l_2.1.q⟩, ⟨3, RI.enc t26.floors, l_2.2.1.sp, l_2.2.1.q⟩, ⟨51, RS.enc t26.sills, l_2.2.2.sp, l_2.2.2.q⟩, ⟨68, RW.enc t24.r0.table, l_1.1.sp, l_1.1.q⟩, ⟨3, RI.enc t24.r0.floors, l_1.2.1.sp, l_1.2.1.q⟩, ⟨51, RS.enc t24.r0.sills, l_1.2.2.sp, l_1.2.2.q⟩]) ?_ ?_
  ·replace hm := h18
   refine g_block ?_
   refine g_loopF (ι := Unit) hm (fun s l_5 => VOK 2 l_2.1.n l_2.1.cap (RW.enc s.r0_table) l_2.1.sp l_2.1.q) (fun s l_5 => [(3, ptr b 0), (4, ptr b_1 0), (32, .int .i64 (t29.length : Int)), (33, .int .i64 s.t33)]) (fun s l_5 => [(b_1, .cells #[slv l_2.1.q l_2.1.n l_2.1.cap, .int .i64 t26.wind.lo, .int .i64 t26.wind.hi, slv l_2.2.1.q l_2.2.1.n l_2.2.1.cap, slv l_2.2.2.q l_2.2.2.n l_2.2.2.cap] 29 (0, 0)), (b, .cells #[slv l_1.1.q l_1.1.n l_1.1.cap, .int .i64 t24.r0.wind.lo, .int .i64 t24.r0.wind.hi, slv l_1.2.1.q l_1.2.1.n l_1.2.1.cap, slv l_1.2.2.q l_1.2.2.n l_1.2.2.cap] 29 (0, 0)), (l, .cells #[.slice qa0 na0 ca0, .int .i64 t24.b0_1, .int .u32 t24.b0_2] 138 (0, 0))]) (fun s l_5 => [⟨68, RW.enc s.r0_table, l_2.1.sp, l_2.1.q⟩, ⟨3, RI.enc t26.floors, l_2.2.1.sp, l_2.2.1.q⟩, ⟨51, RS.enc t26.sills, l_2.2.2.sp, l_2.2.2.q⟩, ⟨68, RW.enc t24.r0.table, l_1.1.sp, l_1.1.q⟩, ⟨3, RI.enc t24.r0.floors, l_1.2.1.sp, l_1.2.1.q⟩, ⟨51, RS.enc t24.r0.sills, l_1.2.2.sp, l_1.2.2.q⟩]) () (h17) ((.cons rfl (.cons rfl (.cons rfl (.cons rfl .nil))))) (fun w hh => hh) (fun s l_5 r hpl hm h22 => ?_)
   have h21 := hpl
   unfold m_laurellaw01_TideMirrored_L0 at hm
   refine g_seq ?_
   refine g_region ?_
   refine g_val rfl rfl rfl (fun _ _ => v_lss rfl rfl) ?_
   refine g_nil ?_
   refine g_n_then ?_
   refine g_seq ?_
   refine g_cond rfl (fun h23 => ?_) (fun h23 => ?_)
   ·replace hm := ifT (of_decide_eq_true h23) hm
    refine g_skip ?_
    refine g_n_then ?_
    refine g_seq ?_
    refine g_block ?_
    refine g_seq ?_
    refine g_region ?_
    refine g_val rfl rfl rfl (fun _ _ => v_move rfl) ?_
    refine g_val rfl rfl rfl (fun _ _ => v_assign rfl) ?_
    refine g_nil ?_
    refine g_n_then ?_
    refine g_draw (some 17) (.free 0 (.hoist 1 (.free 2 (.hoist 3 (.hoist 5 (.free 8 (.hoist 9 (.free 10 (.free 11 (.free 12 (.hoist 13 (.one 4 (.one 6 (.free 7 (.free 14 (.free 15 (.free 16 (.last 17 .done)))))))))))))))))) _ rfl (by decide +kernel) (fun w k hh => hh.draw k) (fun w hh => hh) ?_
    refine p_free rfl rfl rfl rfl (fun w _ => v_fieldAddr 0 (Try.runUnderlying29 w) rfl (Try.sizeOf23 w) rfl) ?_
    refine p_hoist rfl rfl rfl rfl (fun w hh => v_load (Try.isAgg23 w) rfl (hh.cell 0 rfl rfl)) ?_
    refine p_free rfl rfl rfl rfl (fun _ _ => v_move rfl) ?_
    refine p_hoist rfl rfl rfl rfl (fun w hh => v_loadAgg (vs := [_, _, _, _, _]) (Try.isAgg29 w) (Try.sizeOf29 w) rfl (hh.cells 1 rfl rfl)) ?_
    refine p_hoist rfl rfl rfl rfl (fun w hh => v_loadAgg (vs := [_, _, _, _, _]) (Try.isAgg29 w) (Try.sizeOf29 w) rfl (hh.cells 1 rfl rfl)) ?_
    refine p_free rfl rfl rfl rfl (fun w _ => v_fieldAddr 0 (Try.runUnderlying29 w) rfl (Try.sizeOf23 w) rfl) ?_
    refine p_hoist rfl rfl rfl rfl (fun w hh => v_load (Try.isAgg23 w) rfl (hh.cell 0 rfl rfl)) ?_
    refine p_free rfl rfl rfl rfl (fun _ _ => v_move rfl) ?_
    obtain ⟨t47, h24, hm⟩ := bindO hm
    refine p_free rfl rfl rfl rfl (fun w _ => v_ixA h24 (Try.runUnderlying23 w) (Try.sizeOf68 w) rfl rfl (vlen RW h21 rfl) (vne h21)) ?_
    refine p_free rfl rfl rfl rfl (fun w _ => v_fieldAddr 0 (Try.runUnderlying68 w) rfl (Try.sizeOf3 w) rfl) ?_
    refine p_hoist rfl rfl rfl rfl (fun w hh => v_ldE RW 0 h24 (Try.isAgg3 w) rfl (hh.vseg 0 rfl h21) rfl rfl) ?_
    refine p_one rfl ?_
    obtain ⟨t40, h25, hm⟩ := bindO hm
    refine g_callH [] [] rfl rfl rfl rfl rfl rfl rfl (fun a w => Try.call26 a w) (fun w hh => c_laurellaw01_first t24.r0 (qA l_1.1.q) l_1.1.n l_1.1.cap (qA l_1.2.1.q) l_1.2.1.n l_1.2.1.cap (qA l_1.2.2.q) l_1.2.2.n l_1.2.2.cap w (HV.callee (S0 := []) (vs0 := []) hh (roC (hh.vsepA (S0 := []) (vs0 := []) 3 rfl h5) (roC (hh.vsepA (S0 := []) (vs0 := []) 4 rfl h6) (roC (hh.vsepA (S0 := []) (vs0 := []) 5 rfl h7) roN)))) (vlen RW h5 rfl) (AOK.q (vne h5)) (h5).hle (vlen RI h6 rfl) (AOK.q (vne h6)) (h6).hle (vlen RS h7 rfl) (AOK.q (vne h7)) (h7).hle h25) (fun l_6 h26 => ?_)
    refine p_next (fun w hh => hh) ?_
    refine p_one rfl ?_
    obtain ⟨t42, h27, hm⟩ := bindO hm
    refine g_callH [] [] rfl rfl rfl rfl rfl rfl rfl (fun a w => Try.call27 a w) (fun w hh => c_laurellaw01_last t24.r0 (qA l_1.1.q) l_1.1.n l_1.1.cap (qA l_1.2.1.q) l_1.2.1.n l_1.2.1.cap (qA l_1.2.2.q) l_1.2.2.n l_1.2.2.cap w (HV.callee (S0 := []) (vs0 := []) hh (roC (hh.vsepA (S0 := []) (vs0 := []) 3 rfl h5) (roC (hh.vsepA (S0 := []) (vs0 := []) 4 rfl h6) (roC (hh.vsepA (S0 := []) (vs0 := []) 5 rfl h7) roN)))) (vlen RW h5 rfl) (AOK.q (vne h5)) (h5).hle (vlen RI h6 rfl) (AOK.q (vne h6)) (h6).hle (vlen RS h7 rfl) (AOK.q (vne h7)) (h7).hle h27) (fun l_7 h28 => ?_)
    refine p_next (fun w hh => hh) ?_
    obtain ⟨t43, h29, hm⟩ := bindO hm
    refine p_free rfl rfl rfl rfl (fun _ _ => v_addc h29 rfl rfl) ?_
    obtain ⟨t50, h30, hm⟩ := bindO hm
    refine p_free rfl rfl rfl rfl (fun _ _ => v_subc h30 rfl rfl) ?_
    obtain ⟨t51, h31, hm⟩ := bindO hm
    refine p_free rfl rfl rfl rfl (fun w _ => v_ixA h31 (Try.runUnderlying23 w) (Try.sizeOf68 w) rfl rfl (vlen RW h21 rfl) (vne h21)) ?_
    refine p_free rfl rfl rfl rfl (fun w _ => v_fieldAddr 0 (Try.runUnderlying68 w) rfl (Try.sizeOf3 w) rfl) ?_
    refine p_last rfl ?_
    obtain ⟨r0_table, hr0_table, hm⟩ := bindO hm
    refine g_vst RW 0 0 (⟨t50, t51.h⟩ : Water) (fun w => Try.sizeOf3 w) rfl rfl rfl rfl h21 rfl rfl rfl h31 rfl rfl (Option.some.inj hr0_table) (fun h32 => ?_)
    refine g_sel (S' := [_, _, _]) (vs' := [_, _, _, _, _, _]) [0, 1, 2] [0, 1, 2, 3, 4, 5] 0 (by decide) (by decide) rfl rfl rfl ?_
    refine p_nextL ?_
    refine p_done ?_
    refine g_n_blk ?_
    refine g_n_then ?_
    refine g_region ?_
    obtain ⟨t53, h33, hm⟩ := bindO hm
    refine g_val rfl rfl rfl (fun _ _ => v_addc h33 rfl rfl) ?_
    refine g_val rfl rfl rfl (fun _ _ => v_move rfl) ?_
    refine g_nil ?_
    obtain rfl := Option.some.inj hm
    refine g_n_then ?_
    exact g_again' _ () rfl (h32) ((.cons rfl (.cons rfl (.cons rfl (.cons rfl .nil))))) (fun w hh => hh)
   ·replace hm := ifF (of_decide_eq_false h23) hm
    refine g_exit ?_
    refine g_x_then ?_
    refine g_x_then ?_
    refine g_x_blk ?_
    obtain rfl := Option.some.inj hm
    have hbo := h22 _ rfl
    subst hbo
    exact g_leaf () (h21) ((.cons rfl (.cons rfl .nil))) (fun w hh => hh)
  ·intro l_4 hj
   have h20 := hj
   replace hm := h19
   refine g_n_then ?_
   refine g_seq ?_
   refine g_region ?_
   refine g_val rfl rfl rfl (fun _ _ => v_nilS rfl) ?_
   refine g_nil ?_
   refine g_n_then ?_
   refine g_seq ?_
   refine g_seq ?_
   refine g_region ?_
   refine g_val rfl rfl rfl (fun w _ => v_fieldAddr 3 (Try.runUnderlying29 w) rfl (Try.sizeOf26 w) rfl) ?_
   refine g_val rfl rfl rfl (fun w hh => v_load (Try.isAgg26 w) rfl (hh.cell 1 rfl rfl)) ?_
   refine g_val rfl rfl rfl (fun w _ => v_lenN (vlen RI h6 rfl) (Try.runUnderlying26 w) rfl) ?_
   refine g_val rfl rfl rfl (fun _ _ => v_move rfl) ?_
   refine g_nil ?_
   refine g_n_then ?_
   refine g_vnil 3 ?_
   obtain ⟨o_1, h34, h35⟩ := bindO hm
   refine g_cut (ι := VL) (fun l_8 => VOK 1 l_8.n l_8.cap (RI.enc o_1) l_8.sp l_8.q) (fun l_8 => [(3, ptr b 0), (4, ptr b_1 0), (6, slv l_8.q l_8.n l_8.cap)]) (fun l_8 => [(b_1, .cells #[slv l_2.1.q l_2.1.n l_2.1.cap, .int .i64 t26.wind.lo, .int .i64 t26.wind.hi, slv l_2.2.1.q l_2.2.1.n l_2.2.1.cap, slv l_2.2.2.q l_2.2.2.n l_2.2.2.cap] 29 (0, 0)), (b, .cells #[slv l_1.1.q l_1.1.n l_1.1.cap, .int .i64 t24.r0.wind.lo, .int .i64 t24.r0.wind.hi, slv l_1.2.1.q l_1.2.1.n l_1.2.1.cap, slv l_1.2.2.q l_1.2.2.n l_1.2.2.cap] 29 (0, 0)), (l, .cells #[.slice qa0 na0 ca0, .int .i64 t24.b0_1, .int .u32 t24.b0_2] 138 (0, 0))]) (fun l_8 => [⟨3, RI.enc o_1, l_8.sp, l_8.q⟩, ⟨68, RW.enc o, l_2.1.sp, l_2.1.q⟩, ⟨3, RI.enc t26.floors, l_2.2.1.sp, l_2.2.1.q⟩, ⟨51, RS.enc t26.sills, l_2.2.2.sp, l_2.2.2.q⟩, ⟨68, RW.enc t24.r0.table, l_1.1.sp, l_1.1.q⟩, ⟨3, RI.enc t24.r0.floors, l_1.2.1.sp, l_1.2.1.q⟩, ⟨51, RS.enc t24.r0.sills, l_1.2.2.sp, l_1.2.2.q⟩]) ?_ ?_
   ·replace hm := h34
    refine g_block ?_
    refine g_loopF (ι := VL) hm (fun s_1 l_9 => VOK 1 l_9.n l_9.cap (RI.enc s_1.all6) l_9.sp l_9.q) (fun s_1 l_9 => [(3, ptr b 0), (4, ptr b_1 0), (6, slv l_9.q l_9.n l_9.cap), (56, .int .i64 (t24.r0.floors.length : Int)), (57, .int .i64 s_1.t57)]) (fun s_1 l_9 => [(b_1, .cells #[slv l_2.1.q l_2.1.n l_2.1.cap, .int .i64 t26.wind.lo, .int .i64 t26.wind.hi, slv l_2.2.1.q l_2.2.1.n l_2.2.1.cap, slv l_2.2.2.q l_2.2.2.n l_2.2.2.cap] 29 (0, 0)), (b, .cells #[slv l_1.1.q l_1.1.n l_1.1.cap, .int .i64 t24.r0.wind.lo, .int .i64 t24.r0.wind.hi, slv l_1.2.1.q l_1.2.1.n l_1.2.1.cap, slv l_1.2.2.q l_1.2.2.n l_1.2.2.cap] 29 (0, 0)), (l, .cells #[.slice qa0 na0 ca0, .int .i64 t24.b0_1, .int .u32 t24.b0_2] 138 (0, 0))]) (fun s_1 l_9 => [⟨3, RI.enc s_1.all6, l_9.sp, l_9.q⟩, ⟨68, RW.enc o, l_2.1.sp, l_2.1.q⟩, ⟨3, RI.enc t26.floors, l_2.2.1.sp, l_2.2.1.q⟩, ⟨51, RS.enc t26.sills, l_2.2.2.sp, l_2.2.2.q⟩, ⟨68, RW.enc t24.r0.table, l_1.1.sp, l_1.1.q⟩, ⟨3, RI.enc t24.r0.floors, l_1.2.1.sp, l_1.2.1.q⟩, ⟨51, RS.enc t24.r0.sills, l_1.2.2.sp, l_1.2.2.q⟩]) ⟨none, 0, 0, []⟩ (VOK.nil) ((.cons rfl (.cons rfl (.cons rfl (.cons rfl (.cons rfl .nil)))))) (fun w hh => hh) (fun s_1 l_9 r_1 hpl hm h38 => ?_)
    have h37 := hpl
    unfold m_laurellaw01_TideMirrored_L1 at hm
    refine g_seq ?_
    refine g_region ?_
    refine g_val rfl rfl rfl (fun _ _ => v_lss rfl rfl) ?_
    refine g_nil ?_
    refine g_n_then ?_
    refine g_seq ?_
    refine g_cond rfl (fun h39 => ?_) (fun h39 => ?_)
    ·replace hm := ifT (of_decide_eq_true h39) hm
     refine g_skip ?_
     refine g_n_then ?_
     refine g_seq ?_
     refine g_block ?_
     refine g_seq ?_
     refine g_region ?_
     refine g_val rfl rfl rfl (fun _ _ => v_move rfl) ?_
     refine g_val rfl rfl rfl (fun _ _ => v_assign rfl) ?_
     refine g_nil ?_
     refine g_n_then ?_
     refine g_region ?_
     refine g_val rfl rfl rfl (fun _ _ => v_move rfl) ?_
     refine g_val rfl rfl rfl (fun _ _ => v_move rfl) ?_
     refine g_vlit RI [s_1.t57] (ps := [(0, _)]) (cells := [_]) (fun w => Try.runUnderlying26 w) (fun w => Try.sizeOf3 w) (fun w => Try.zeroValue3 w) rfl rfl rfl rfl rfl rfl rfl rfl (fun L h40 => ?_)
     obtain ⟨t63, h41, hm⟩ := bindO hm
     refine g_vapp RI 1 h41 Try.underlying26 gxinf3 rfl rfl rfl rfl rfl h37 rfl rfl (vlen RI h40 rfl) (AOK.q (vne h40)) (fun w hh => (hh.vsegA 0 rfl h40)) rfl (fun L_1 h42 h42n => ?_)
     refine g_sel (S' := [_, _, _]) (vs' := [_, _, _, _, _, _, _, _]) [0, 1, 2] [0, 1, 2, 3, 4, 5, 6, 7] 0 (by decide) (by decide) rfl rfl rfl ?_
     refine g_val rfl rfl rfl (fun _ _ => v_assign rfl) ?_
     refine g_nil ?_
     refine g_n_blk ?_
     refine g_n_then ?_
     refine g_region ?_
     obtain ⟨t64, h43, hm⟩ := bindO hm
     refine g_val rfl rfl rfl (fun _ _ => v_addc h43 rfl rfl) ?_
     refine g_val rfl rfl rfl (fun _ _ => v_move rfl) ?_
     refine g_nil ?_
     obtain rfl := Option.some.inj hm
     refine g_n_then ?_
     exact g_again' _ L_1 rfl (h42) ((.cons rfl (.cons rfl (.cons rfl (.cons rfl (.cons rfl .nil)))))) (fun w hh => hh.sel [0, 1, 2] [1, 2, 3, 4, 5, 6, 7] 0 (by decide) (by decide) rfl rfl rfl)
    ·replace hm := ifF (of_decide_eq_false h39) hm
     refine g_exit ?_
     refine g_x_then ?_
     refine g_x_then ?_
     refine g_x_blk ?_
     obtain rfl := Option.some.inj hm
     have hbo := h38 _ rfl
     subst hbo
     exact g_leaf l_9 (h37) ((.cons rfl (.cons rfl (.cons rfl .nil)))) (fun w hh => hh)
   ·intro l_8 hj
    have h36 := hj
    replace hm := h35
    refine g_n_then ?_
    refine g_seq ?_
    refine g_seq ?_
    refine g_region ?_
    refine g_val rfl rfl rfl (fun w hh => v_loadAgg (vs := [_, _, _, _, _]) (Try.isAgg29 w) (Try.sizeOf29 w) rfl (hh.cells 1 rfl rfl)) ?_
    obtain ⟨t66, h44, hm⟩ := bindO hm
    refine g_callH [] [] rfl rfl rfl rfl rfl rfl rfl (fun a w => Try.call26 a w) (fun w hh => c_laurellaw01_first t24.r0 (qA l_1.1.q) l_1.1.n l_1.1.cap (qA l_1.2.1.q) l_1.2.1.n l_1.2.1.cap (qA l_1.2.2.q) l_1.2.2.n l_1.2.2.cap w (HV.callee (S0 := []) (vs0 := []) hh (roC (hh.vsepA (S0 := []) (vs0 := []) 4 rfl h5) (roC (hh.vsepA (S0 := []) (vs0 := []) 5 rfl h6) (roC (hh.vsepA (S0 := []) (vs0 := []) 6 rfl h7) roN)))) (vlen RW h5 rfl) (AOK.q (vne h5)) (h5).hle (vlen RI h6 rfl) (AOK.q (vne h6)) (h6).hle (vlen RS h7 rfl) (AOK.q (vne h7)) (h7).hle h44) (fun l_10 h45 => ?_)
    refine g_val rfl rfl rfl (fun _ _ => v_assign rfl) ?_
    refine g_nil ?_
    refine g_n_then ?_
    obtain ⟨o_2, h46, h47⟩ := bindO hm
    refine g_cut (ι := Unit) (fun j => o_2 = .inl j) (fun j => [(3, ptr b 0), (4, ptr b_1 0), (6, slv l_8.q l_8.n l_8.cap)]) (fun j => [(b_1, .cells #[slv l_2.1.q l_2.1.n l_2.1.cap, .int .i64 t26.wind.lo, .int .i64 t26.wind.hi, slv l_2.2.1.q l_2.2.1.n l_2.2.1.cap, slv l_2.2.2.q l_2.2.2.n l_2.2.2.cap] 29 (0, 0)), (b, .cells #[slv l_1.1.q l_1.1.n l_1.1.cap, .int .i64 t24.r0.wind.lo, .int .i64 t24.r0.wind.hi, slv l_1.2.1.q l_1.2.1.n l_1.2.1.cap, slv l_1.2.2.q l_1.2.2.n l_1.2.2.cap] 29 (0, 0)), (l, .cells #[.slice qa0 na0 ca0, .int .i64 t24.b0_1, .int .u32 t24.b0_2] 138 (0, 0))]) (fun j => [⟨3, RI.enc o_1, l_8.sp, l_8.q⟩, ⟨68, RW.enc o, l_2.1.sp, l_2.1.q⟩, ⟨3, RI.enc t26.floors, l_2.2.1.sp, l_2.2.1.q⟩, ⟨51, RS.enc t26.sills, l_2.2.2.sp, l_2.2.2.q⟩, ⟨68, RW.enc t24.r0.table, l_1.1.sp, l_1.1.q⟩, ⟨3, RI.enc t24.r0.floors, l_1.2.1.sp, l_1.2.1.q⟩, ⟨51, RS.enc t24.r0.sills, l_1.2.2.sp, l_1.2.2.q⟩]) ?_ ?_
    ·replace hm := h46
     refine g_block ?_
     refine g_loopF (ι := Unit) hm (fun s_2 l_11 => True) (fun s_2 l_11 => [(3, ptr b 0), (4, ptr b_1 0), (6, slv l_8.q l_8.n l_8.cap), (8, .int .i64 s_2)]) (fun s_2 l_11 => [(b_1, .cells #[slv l_2.1.q l_2.1.n l_2.1.cap, .int .i64 t26.wind.lo, .int .i64 t26.wind.hi, slv l_2.2.1.q l_2.2.1.n l_2.2.1.cap, slv l_2.2.2.q l_2.2.2.n l_2.2.2.cap] 29 (0, 0)), (b, .cells #[slv l_1.1.q l_1.1.n l_1.1.cap, .int .i64 t24.r0.wind.lo, .int .i64 t24.r0.wind.hi, slv l_1.2.1.q l_1.2.1.n l_1.2.1.cap, slv l_1.2.2.q l_1.2.2.n l_1.2.2.cap] 29 (0, 0)), (l, .cells #[.slice qa0 na0 ca0, .int .i64 t24.b0_1, .int .u32 t24.b0_2] 138 (0, 0))]) (fun s_2 l_11 => [⟨3, RI.enc o_1, l_8.sp, l_8.q⟩, ⟨68, RW.enc o, l_2.1.sp, l_2.1.q⟩, ⟨3, RI.enc t26.floors, l_2.2.1.sp, l_2.2.1.q⟩, ⟨51, RS.enc t26.sills, l_2.2.2.sp, l_2.2.2.q⟩, ⟨68, RW.enc t24.r0.table, l_1.1.sp, l_1.1.q⟩, ⟨3, RI.enc t24.r0.floors, l_1.2.1.sp, l_1.2.1.q⟩, ⟨51, RS.enc t24.r0.sills, l_1.2.2.sp, l_1.2.2.q⟩]) () (trivial) ((.cons rfl (.cons rfl (.cons rfl (.cons rfl .nil))))) (fun w hh => hh) (fun s_2 l_11 r_2 hpl hm h48 => ?_)
     unfold m_laurellaw01_TideMirrored_L2 at hm
     refine g_seq ?_
     refine g_seq ?_
     refine g_region ?_
     refine g_val rfl rfl rfl (fun _ _ => v_move rfl) ?_
     refine g_val rfl rfl rfl (fun w hh => v_loadAgg (vs := [_, _, _, _, _]) (Try.isAgg29 w) (Try.sizeOf29 w) rfl (hh.cells 1 rfl rfl)) ?_
     obtain ⟨t69, h49, hm⟩ := bindO hm
     refine g_callH [] [] rfl rfl rfl rfl rfl rfl rfl (fun a w => Try.call27 a w) (fun w hh => c_laurellaw01_last t24.r0 (qA l_1.1.q) l_1.1.n l_1.1.cap (qA l_1.2.1.q) l_1.2.1.n l_1.2.1.cap (qA l_1.2.2.q) l_1.2.2.n l_1.2.2.cap w (HV.callee (S0 := []) (vs0 := []) hh (roC (hh.vsepA (S0 := []) (vs0 := []) 4 rfl h5) (roC (hh.vsepA (S0 := []) (vs0 := []) 5 rfl h6) (roC (hh.vsepA (S0 := []) (vs0 := []) 6 rfl h7) roN)))) (vlen RW h5 rfl) (AOK.q (vne h5)) (h5).hle (vlen RI h6 rfl) (AOK.q (vne h6)) (h6).hle (vlen RS h7 rfl) (AOK.q (vne h7)) (h7).hle h49) (fun l_12 h50 => ?_)
     refine g_val rfl rfl rfl (fun _ _ => v_leq rfl rfl) ?_
     refine g_nil ?_
     refine g_n_then ?_
     refine g_cond rfl (fun h51 => ?_) (fun h51 => ?_)
     ·replace hm := ifT (of_decide_eq_true h51) hm
      refine g_skip ?_
      refine g_n_then ?_
      refine g_seq ?_
      refine g_block ?_
      refine g_seq ?_
      refine g_draw none (.hoist 0 (.hoist 2 (.free 5 (.one 1 (.one 3 (.free 4 (.free 6 (.free 7 .done)))))))) _ rfl (by decide +kernel) (fun w k hh => hh.draw k) (fun w hh => hh) ?_
      refine p_hoist rfl rfl rfl rfl (fun w hh => v_loadAgg (vs := [_, _, _, _, _]) (Try.isAgg29 w) (Try.sizeOf29 w) rfl (hh.cells 1 rfl rfl)) ?_
      refine p_hoist rfl rfl rfl rfl (fun w hh => v_loadAgg (vs := [_, _, _, _, _]) (Try.isAgg29 w) (Try.sizeOf29 w) rfl (hh.cells 1 rfl rfl)) ?_
      refine p_free rfl rfl rfl rfl (fun _ _ => v_move rfl) ?_
      refine p_one rfl ?_
      obtain ⟨t74, h52, hm⟩ := bindO hm
      refine g_callH [] [] rfl rfl rfl rfl rfl rfl rfl (fun a w => Try.call26 a w) (fun w hh => c_laurellaw01_first t24.r0 (qA l_1.1.q) l_1.1.n l_1.1.cap (qA l_1.2.1.q) l_1.2.1.n l_1.2.1.cap (qA l_1.2.2.q) l_1.2.2.n l_1.2.2.cap w (HV.callee (S0 := []) (vs0 := []) hh (roC (hh.vsepA (S0 := []) (vs0 := []) 4 rfl h5) (roC (hh.vsepA (S0 := []) (vs0 := []) 5 rfl h6) (roC (hh.vsepA (S0 := []) (vs0 := []) 6 rfl h7) roN)))) (vlen RW h5 rfl) (AOK.q (vne h5)) (h5).hle (vlen RI h6 rfl) (AOK.q (vne h6)) (h6).hle (vlen RS h7 rfl) (AOK.q (vne h7)) (h7).hle h52) (fun l_13 h53 => ?_)
      refine p_next (fun w hh => hh) ?_
      refine p_one rfl ?_
      obtain ⟨t76, h54, hm⟩ := bindO hm
      refine g_callH [] [] rfl rfl rfl rfl rfl rfl rfl (fun a w => Try.call27 a w) (fun w hh => c_laurellaw01_last t24.r0 (qA l_1.1.q) l_1.1.n l_1.1.cap (qA l_1.2.1.q) l_1.2.1.n l_1.2.1.cap (qA l_1.2.2.q) l_1.2.2.n l_1.2.2.cap w (HV.callee (S0 := []) (vs0 := []) hh (roC (hh.vsepA (S0 := []) (vs0 := []) 4 rfl h5) (roC (hh.vsepA (S0 := []) (vs0 := []) 5 rfl h6) (roC (hh.vsepA (S0 := []) (vs0 := []) 6 rfl h7) roN)))) (vlen RW h5 rfl) (AOK.q (vne h5)) (h5).hle (vlen RI h6 rfl) (AOK.q (vne h6)) (h6).hle (vlen RS h7 rfl) (AOK.q (vne h7)) (h7).hle h54) (fun l_14 h55 => ?_)
      refine p_next (fun w hh => hh) ?_
      obtain ⟨t77, h56, hm⟩ := bindO hm
      refine p_free rfl rfl rfl rfl (fun _ _ => v_addc h56 rfl rfl) ?_
      obtain ⟨t79, h57, hm⟩ := bindO hm
      refine p_free rfl rfl rfl rfl (fun _ _ => v_subc h57 rfl rfl) ?_
      refine p_free rfl rfl rfl rfl (fun _ _ => v_assign rfl) ?_
      refine p_done ?_
      refine g_n_then ?_
      refine g_seq ?_
      refine g_region ?_
      refine g_val rfl rfl rfl (fun w hh => v_loadAgg (vs := [_, _, _, _, _]) (Try.isAgg29 w) (Try.sizeOf29 w) rfl (hh.cells 1 rfl rfl)) ?_
      refine g_val rfl rfl rfl (fun _ _ => v_move rfl) ?_
      obtain ⟨t83, h58, hm⟩ := bindO hm
      refine g_callH [] [] rfl rfl rfl rfl rfl rfl rfl (fun a w => Try.call36 a w) (fun w hh => cx_Height t24.r0 s_2 l_1.1.q l_1.1.n l_1.1.cap l_1.2.1.q l_1.2.1.n l_1.2.1.cap l_1.2.2.q l_1.2.2.n l_1.2.2.cap w (HV.callee (S0 := []) (vs0 := []) hh (roC (hh.vsep (S0 := []) (vs0 := []) 4 rfl h5) (roC (hh.vsep (S0 := []) (vs0 := []) 5 rfl h6) (roC (hh.vsep (S0 := []) (vs0 := []) 6 rfl h7) roN)))) (vlen RW h5 rfl) (vne h5) (h5).hle (vlen RI h6 rfl) (vne h6) (h6).hle (vlen RS h7 rfl) (vne h7) (h7).hle h58) (fun l_15 h59 => ?_)
      refine g_val rfl rfl rfl (fun _ _ => v_move rfl) ?_
      refine g_val rfl rfl rfl (fun _ _ => v_extract rfl rfl) ?_
      refine g_val rfl rfl rfl (fun _ _ => v_extract rfl rfl) ?_
      refine g_val rfl rfl rfl (fun _ _ => v_assign rfl) ?_
      refine g_val rfl rfl rfl (fun _ _ => v_assign rfl) ?_
      refine g_nil ?_
      refine g_n_then ?_
      refine g_seq ?_
      refine g_region ?_
      refine g_val rfl rfl rfl (fun w hh => v_loadAgg (vs := [_, _, _, _, _]) (Try.isAgg29 w) (Try.sizeOf29 w) rfl (hh.cells 0 rfl rfl)) ?_
      refine g_val rfl rfl rfl (fun _ _ => v_move rfl) ?_
      obtain ⟨t89, h60, hm⟩ := bindO hm
      refine g_callH [] [] rfl rfl rfl rfl rfl rfl rfl (fun a w => Try.call36 a w) (fun w hh => cx_Height (⟨o, t26.wind, t26.floors, t26.sills⟩ : Sands) t79 l_2.1.q l_2.1.n l_2.1.cap l_2.2.1.q l_2.2.1.n l_2.2.1.cap l_2.2.2.q l_2.2.2.n l_2.2.2.cap w (HV.callee (S0 := []) (vs0 := []) hh (roC (hh.vsep (S0 := []) (vs0 := []) 1 rfl h20) (roC (hh.vsep (S0 := []) (vs0 := []) 2 rfl h12) (roC (hh.vsep (S0 := []) (vs0 := []) 3 rfl h13) roN)))) (vlen RW h20 rfl) (vne h20) (h20).hle (vlen RI h12 rfl) (vne h12) (h12).hle (vlen RS h13 rfl) (vne h13) (h13).hle h60) (fun l_16 h61 => ?_)
      refine g_val rfl rfl rfl (fun _ _ => v_move rfl) ?_
      refine g_val rfl rfl rfl (fun _ _ => v_extract rfl rfl) ?_
      refine g_val rfl rfl rfl (fun _ _ => v_extract rfl rfl) ?_
      refine g_val rfl rfl rfl (fun _ _ => v_assign rfl) ?_
      refine g_val rfl rfl rfl (fun _ _ => v_assign rfl) ?_
      refine g_nil ?_
      refine g_n_then ?_
      refine g_seq ?_
      refine g_region ?_
      refine g_val rfl rfl rfl (fun w hh => v_loadAgg (vs := [_, _, _, _, _]) (Try.isAgg29 w) (Try.sizeOf29 w) rfl (hh.cells 1 rfl rfl)) ?_
      refine g_val rfl rfl rfl (fun _ _ => v_move rfl) ?_
      obtain ⟨t95, h62, hm⟩ := bindO hm
      refine g_callN rfl rfl rfl rfl rfl rfl rfl (fun a w => Try.call28 a w) (fun w hh => cx_All t24.r0 s_2 l_1.1.q l_1.1.n l_1.1.cap l_1.2.1.q l_1.2.1.n l_1.2.1.cap l_1.2.2.q l_1.2.2.n l_1.2.2.cap w (HV.callee (S0 := []) (vs0 := []) hh (roC (hh.vsep (S0 := []) (vs0 := []) 4 rfl h5) (roC (hh.vsep (S0 := []) (vs0 := []) 5 rfl h6) (roC (hh.vsep (S0 := []) (vs0 := []) 6 rfl h7) roN)))) (vlen RW h5 rfl) (vne h5) (h5).hle (vlen RI h6 rfl) (vne h6) (h6).hle (vlen RS h7 rfl) (vne h7) (h7).hle h62) (fun l_17 h63 => ?_)
      refine g_val rfl rfl rfl (fun _ _ => v_move rfl) ?_
      refine g_val rfl rfl rfl (fun _ _ => v_extract rfl rfl) ?_
      refine g_val rfl rfl rfl (fun _ _ => v_extract rfl rfl) ?_
      refine g_val rfl rfl rfl (fun _ _ => v_assign rfl) ?_
      refine g_val rfl rfl rfl (fun _ _ => v_assign rfl) ?_
      refine g_nil ?_
      refine g_n_then ?_
      refine g_seq ?_
      refine g_region ?_
      refine g_val rfl rfl rfl (fun w hh => v_loadAgg (vs := [_, _, _, _, _]) (Try.isAgg29 w) (Try.sizeOf29 w) rfl (hh.cells 0 rfl rfl)) ?_
      refine g_val rfl rfl rfl (fun _ _ => v_move rfl) ?_
      obtain ⟨t101, h64, hm⟩ := bindO hm
      refine g_callN rfl rfl rfl rfl rfl rfl rfl (fun a w => Try.call28 a w) (fun w hh => cx_All (⟨o, t26.wind, t26.floors, t26.sills⟩ : Sands) t79 l_2.1.q l_2.1.n l_2.1.cap l_2.2.1.q l_2.2.1.n l_2.2.1.cap l_2.2.2.q l_2.2.2.n l_2.2.2.cap w (HV.callee (S0 := []) (vs0 := []) hh (roC (hh.vsep (S0 := []) (vs0 := []) 1 rfl h20) (roC (hh.vsep (S0 := []) (vs0 := []) 2 rfl h12) (roC (hh.vsep (S0 := []) (vs0 := []) 3 rfl h13) roN)))) (vlen RW h20 rfl) (vne h20) (h20).hle (vlen RI h12 rfl) (vne h12) (h12).hle (vlen RS h13 rfl) (vne h13) (h13).hle h64) (fun l_18 h65 => ?_)
      refine g_val rfl rfl rfl (fun _ _ => v_move rfl) ?_
      refine g_val rfl rfl rfl (fun _ _ => v_extract rfl rfl) ?_
      refine g_val rfl rfl rfl (fun _ _ => v_extract rfl rfl) ?_
      refine g_val rfl rfl rfl (fun _ _ => v_assign rfl) ?_
      refine g_val rfl rfl rfl (fun _ _ => v_assign rfl) ?_
      refine g_nil ?_
      refine g_n_then ?_
      refine g_seq ?_
      obtain ⟨o_3, h66, h67⟩ := bindO hm
      refine g_cut (ι := Unit) (fun l_19 => True) (fun l_19 => [(3, ptr b 0), (4, ptr b_1 0), (6, slv l_8.q l_8.n l_8.cap), (8, .int .i64 s_2), (128, .bool o_3)]) (fun l_19 => [(b_1, .cells #[slv l_2.1.q l_2.1.n l_2.1.cap, .int .i64 t26.wind.lo, .int .i64 t26.wind.hi, slv l_2.2.1.q l_2.2.1.n l_2.2.1.cap, slv l_2.2.2.q l_2.2.2.n l_2.2.2.cap] 29 (0, 0)), (b, .cells #[slv l_1.1.q l_1.1.n l_1.1.cap, .int .i64 t24.r0.wind.lo, .int .i64 t24.r0.wind.hi, slv l_1.2.1.q l_1.2.1.n l_1.2.1.cap, slv l_1.2.2.q l_1.2.2.n l_1.2.2.cap] 29 (0, 0)), (l, .cells #[.slice qa0 na0 ca0, .int .i64 t24.b0_1, .int .u32 t24.b0_2] 138 (0, 0))]) (fun l_19 => [⟨3, RI.enc o_1, l_8.sp, l_8.q⟩, ⟨68, RW.enc o, l_2.1.sp, l_2.1.q⟩, ⟨3, RI.enc t26.floors, l_2.2.1.sp, l_2.2.1.q⟩, ⟨51, RS.enc t26.sills, l_2.2.2.sp, l_2.2.2.q⟩, ⟨68, RW.enc t24.r0.table, l_1.1.sp, l_1.1.q⟩, ⟨3, RI.enc t24.r0.floors, l_1.2.1.sp, l_1.2.1.q⟩, ⟨51, RS.enc t24.r0.sills, l_1.2.2.sp, l_1.2.2.q⟩]) ?_ ?_
      ·replace hm := h66
       refine g_region ?_
       refine g_val rfl rfl rfl (fun _ _ => v_move rfl) ?_
       refine g_val rfl rfl rfl (fun _ _ => v_neq rfl rfl) ?_
       refine g_val rfl rfl rfl (fun _ _ => v_move rfl) ?_
       refine g_case 106 rfl (fun h68 => ?_) (fun h68 => ?_)
       ·replace hm := ifF (of_ndec_true h68) hm
        refine g_skipG rfl rfl rfl rfl rfl rfl ?_
        refine g_skipG rfl rfl rfl rfl rfl rfl ?_
        refine g_val rfl rfl rfl (fun _ _ => v_pickT rfl rfl) ?_
        refine g_val rfl rfl rfl (fun _ _ => v_move rfl) ?_
        refine g_skipG rfl rfl rfl rfl rfl rfl ?_
        refine g_skipG rfl rfl rfl rfl rfl rfl ?_
        refine g_val rfl rfl rfl (fun _ _ => v_pickT rfl rfl) ?_
        refine g_val rfl rfl rfl (fun _ _ => v_move rfl) ?_
        refine g_skipG rfl rfl rfl rfl rfl rfl ?_
        refine g_skipG rfl rfl rfl rfl rfl rfl ?_
        refine g_val rfl rfl rfl (fun _ _ => v_pickT rfl rfl) ?_
        refine g_val rfl rfl rfl (fun _ _ => v_move rfl) ?_
        refine g_skipG rfl rfl rfl rfl rfl rfl ?_
        refine g_skipG rfl rfl rfl rfl rfl rfl ?_
        refine g_skipG rfl rfl rfl rfl rfl rfl ?_
        refine g_val rfl rfl rfl (fun _ _ => v_pickT rfl rfl) ?_
        refine g_val rfl rfl rfl (fun _ _ => v_move rfl) ?_
        refine g_skipG rfl rfl rfl rfl rfl rfl ?_
        refine g_skipG rfl rfl rfl rfl rfl rfl ?_
        refine g_skipG rfl rfl rfl rfl rfl rfl ?_
        refine g_skipG rfl rfl rfl rfl rfl rfl ?_
        refine g_val rfl rfl rfl (fun _ _ => v_pickT rfl rfl) ?_
        refine g_nil ?_
        obtain rfl := Option.some.inj hm
        exact g_leaf () (trivial) ((.cons rfl (.cons rfl (.cons rfl (.cons rfl (.cons rfl .nil)))))) (fun w hh => hh)
       ·replace hm := ifT (of_ndec_false h68) hm
        refine v_unguard rfl rfl ?_
        refine g_val rfl rfl rfl (fun _ _ => v_move rfl) ?_
        refine v_unguard rfl rfl ?_
        refine g_val rfl rfl rfl (fun _ _ => v_neq rfl rfl) ?_
        refine g_val rfl rfl rfl (fun _ _ => v_pickF rfl rfl) ?_
        refine g_val rfl rfl rfl (fun _ _ => v_move rfl) ?_
        refine g_case 110 rfl (fun h69 => ?_) (fun h69 => ?_)
        ·replace hm := ifF (of_ndec_true h69) hm
         refine g_skipG rfl rfl rfl rfl rfl rfl ?_
         refine g_skipG rfl rfl rfl rfl rfl rfl ?_
         refine g_val rfl rfl rfl (fun _ _ => v_pickT rfl rfl) ?_
         refine g_val rfl rfl rfl (fun _ _ => v_move rfl) ?_
         refine g_skipG rfl rfl rfl rfl rfl rfl ?_
         refine g_skipG rfl rfl rfl rfl rfl rfl ?_
         refine g_val rfl rfl rfl (fun _ _ => v_pickT rfl rfl) ?_
         refine g_val rfl rfl rfl (fun _ _ => v_move rfl) ?_
         refine g_skipG rfl rfl rfl rfl rfl rfl ?_
         refine g_skipG rfl rfl rfl rfl rfl rfl ?_
         refine g_skipG rfl rfl rfl rfl rfl rfl ?_
         refine g_val rfl rfl rfl (fun _ _ => v_pickT rfl rfl) ?_
         refine g_val rfl rfl rfl (fun _ _ => v_move rfl) ?_
         refine g_skipG rfl rfl rfl rfl rfl rfl ?_
         refine g_skipG rfl rfl rfl rfl rfl rfl ?_
         refine g_skipG rfl rfl rfl rfl rfl rfl ?_
         refine g_skipG rfl rfl rfl rfl rfl rfl ?_
         refine g_val rfl rfl rfl (fun _ _ => v_pickT rfl rfl) ?_
         refine g_nil ?_
         obtain rfl := Option.some.inj hm
         exact g_leaf () (trivial) ((.cons rfl (.cons rfl (.cons rfl (.cons rfl (.cons rfl .nil)))))) (fun w hh => hh)
        ·replace hm := ifT (of_ndec_false h69) hm
         refine v_unguard rfl rfl ?_
         refine g_val rfl rfl rfl (fun _ _ => v_move rfl) ?_
         refine v_unguard rfl rfl ?_
         refine g_val rfl rfl rfl (fun _ _ => v_neq rfl rfl) ?_
         refine g_val rfl rfl rfl (fun _ _ => v_pickF rfl rfl) ?_
         refine g_val rfl rfl rfl (fun _ _ => v_move rfl) ?_
         refine g_case 114 rfl (fun h70 => ?_) (fun h70 => ?_)
         ·replace hm := ifF (of_ndec_true h70) hm
          refine g_skipG rfl rfl rfl rfl rfl rfl ?_
          refine g_skipG rfl rfl rfl rfl rfl rfl ?_
          refine g_val rfl rfl rfl (fun _ _ => v_pickT rfl rfl) ?_
          refine g_val rfl rfl rfl (fun _ _ => v_move rfl) ?_
          refine g_skipG rfl rfl rfl rfl rfl rfl ?_
          refine g_skipG rfl rfl rfl rfl rfl rfl ?_
          refine g_skipG rfl rfl rfl rfl rfl rfl ?_
          refine g_val rfl rfl rfl (fun _ _ => v_pickT rfl rfl) ?_
          refine g_val rfl rfl rfl (fun _ _ => v_move rfl) ?_
          refine g_skipG rfl rfl rfl rfl rfl rfl ?_
          refine g_skipG rfl rfl rfl rfl rfl rfl ?_
          refine g_skipG rfl rfl rfl rfl rfl rfl ?_
          refine g_skipG rfl rfl rfl rfl rfl rfl ?_
          refine g_val rfl rfl rfl (fun _ _ => v_pickT rfl rfl) ?_
          refine g_nil ?_
          obtain rfl := Option.some.inj hm
          exact g_leaf () (trivial) ((.cons rfl (.cons rfl (.cons rfl (.cons rfl (.cons rfl .nil)))))) (fun w hh => hh)
         ·replace hm := ifT (of_ndec_false h70) hm
          refine v_unguard rfl rfl ?_
          refine g_val rfl rfl rfl (fun _ _ => v_move rfl) ?_
          refine v_unguard rfl rfl ?_
          refine g_val rfl rfl rfl (fun _ _ => v_neq rfl rfl) ?_
          refine g_val rfl rfl rfl (fun _ _ => v_pickF rfl rfl) ?_
          refine g_val rfl rfl rfl (fun _ _ => v_move rfl) ?_
          refine g_case 118 rfl (fun h71 => ?_) (fun h71 => ?_)
          ·replace hm := ifF (of_ndec_true h71) hm
           refine g_skipG rfl rfl rfl rfl rfl rfl ?_
           refine g_skipG rfl rfl rfl rfl rfl rfl ?_
           refine g_skipG rfl rfl rfl rfl rfl rfl ?_
           refine g_val rfl rfl rfl (fun _ _ => v_pickT rfl rfl) ?_
           refine g_val rfl rfl rfl (fun _ _ => v_move rfl) ?_
           refine g_skipG rfl rfl rfl rfl rfl rfl ?_
           refine g_skipG rfl rfl rfl rfl rfl rfl ?_
           refine g_skipG rfl rfl rfl rfl rfl rfl ?_
           refine g_skipG rfl rfl rfl rfl rfl rfl ?_
           refine g_val rfl rfl rfl (fun _ _ => v_pickT rfl rfl) ?_
           refine g_nil ?_
           obtain rfl := Option.some.inj hm
           exact g_leaf () (trivial) ((.cons rfl (.cons rfl (.cons rfl (.cons rfl (.cons rfl .nil)))))) (fun w hh => hh)
          ·replace hm := ifT (of_ndec_false h71) hm
           refine v_unguard rfl rfl ?_
           refine g_val rfl rfl rfl (fun _ _ => v_move rfl) ?_
           refine v_unguard rfl rfl ?_
           refine g_val rfl rfl rfl (fun _ _ => v_move rfl) ?_
           refine v_unguard rfl rfl ?_
           refine g_val rfl rfl rfl (fun _ _ => v_neq rfl rfl) ?_
           refine g_val rfl rfl rfl (fun _ _ => v_pickF rfl rfl) ?_
           refine g_val rfl rfl rfl (fun _ _ => v_move rfl) ?_
           refine g_case 123 rfl (fun h72 => ?_) (fun h72 => ?_)
           ·replace hm := ifF (of_ndec_true h72) hm
            refine g_skipG rfl rfl rfl rfl rfl rfl ?_
            refine g_skipG rfl rfl rfl rfl rfl rfl ?_
            refine g_skipG rfl rfl rfl rfl rfl rfl ?_
            refine g_skipG rfl rfl rfl rfl rfl rfl ?_
            refine g_val rfl rfl rfl (fun _ _ => v_pickT rfl rfl) ?_
            refine g_nil ?_
            obtain rfl := Option.some.inj hm
            exact g_leaf () (trivial) ((.cons rfl (.cons rfl (.cons rfl (.cons rfl (.cons rfl .nil)))))) (fun w hh => hh)
           ·replace hm := ifT (of_ndec_false h72) hm
            refine v_unguard rfl rfl ?_
            refine g_val rfl rfl rfl (fun _ _ => v_move rfl) ?_
            refine v_unguard rfl rfl ?_
            refine g_val rfl rfl rfl (fun _ _ => v_move rfl) ?_
            refine v_unguard rfl rfl ?_
            obtain ⟨t126, h73, hm⟩ := bindO hm
            refine g_callH [] [] rfl rfl rfl rfl rfl rfl rfl (fun a w => Try.call39 a w) (fun w hh => c_laurelkit_Eq_tideState t95.1 t101.1 (qA l_17.1) t95.1.length l_17.2 (qA l_18.1) t101.1.length l_18.2 w (HV.callee (S0 := []) (vs0 := []) hh (roC (sepA (hh.rsep (S0 := []) (vs0 := []) 1 rfl)) (roC (sepA (hh.rsep (S0 := []) (vs0 := []) 0 rfl)) roN))) rfl (AOK.q h63.ne) h63.le rfl (AOK.q h65.ne) h65.le h73) (fun l_20 h74 => ?_)
            refine v_unguard rfl rfl ?_
            refine g_val rfl rfl rfl (fun _ _ => v_not rfl) ?_
            refine g_val rfl rfl rfl (fun _ _ => v_pickF rfl rfl) ?_
            refine g_nil ?_
            obtain rfl := Option.some.inj hm
            exact g_leaf () (trivial) ((.cons rfl (.cons rfl (.cons rfl (.cons rfl (.cons rfl .nil)))))) (fun w hh => hh)
      ·intro l_19 hj
       replace hm := h67
       refine g_n_then ?_
       refine g_cond rfl (fun h75 => ?_) (fun h75 => ?_)
       ·replace hm := ifT (h75) hm
        refine g_seq ?_
        refine g_region ?_
        refine g_val rfl rfl rfl (fun _ _ => v_assign rfl) ?_
        refine g_nil ?_
        refine g_n_then ?_
        refine g_ret ?_
        refine g_r_blk ?_
        refine g_r_then ?_
        refine g_r_then ?_
        refine g_r_blk ?_
        obtain rfl := Option.some.inj hm
        have hbo := h48 _ rfl
        subst hbo
        refine g_r_then ?_
        replace hm := ocR h47
        refine g_r_then ?_
        obtain rfl := Option.some.inj hm
        refine g_done rfl (fun w hh => (.tmp rfl .nil)) (fun w hh => ⟨(), rfl, trivial, hh.sel [] [] 3 (by decide) (by decide) rfl rfl rfl⟩)
       ·replace hm := ifF ((fun hh => Bool.noConfusion ((h75).symm.trans hh))) hm
        refine g_skip ?_
        refine g_n_blk ?_
        refine g_n_then ?_
        refine g_region ?_
        refine g_val rfl rfl rfl (fun _ _ => v_move rfl) ?_
        obtain ⟨t72, h76, hm⟩ := bindO hm
        refine g_val rfl rfl rfl (fun _ _ => v_addc h76 rfl rfl) ?_
        refine g_val rfl rfl rfl (fun _ _ => v_assign rfl) ?_
        refine g_nil ?_
        obtain rfl := Option.some.inj hm
        refine g_n_then ?_
        exact g_again' _ () rfl (trivial) ((.cons rfl (.cons rfl (.cons rfl (.cons rfl .nil))))) (fun w hh => hh.sel [0, 1, 2] [0, 1, 2, 3, 4, 5, 6] 2 (by decide) (by decide) rfl rfl rfl)
     ·replace hm := ifF (of_decide_eq_false h51) hm
      refine g_exit ?_
      refine g_x_then ?_
      refine g_x_then ?_
      refine g_x_blk ?_
      obtain rfl := Option.some.inj hm
      have hbo := h48 _ rfl
      subst hbo
      exact g_leaf () (rfl) ((.cons rfl (.cons rfl (.cons rfl .nil)))) (fun w hh => hh)
    ·intro j hj
     have h77 := hj
     subst h77
     replace hm := ocL h47
     refine g_n_then ?_
     refine g_seq ?_
     refine g_region ?_
     refine g_val rfl rfl rfl (fun w hh => v_loadAgg (vs := [_, _, _, _, _]) (Try.isAgg29 w) (Try.sizeOf29 w) rfl (hh.cells 1 rfl rfl)) ?_
     refine g_val rfl rfl rfl (fun _ _ => v_move rfl) ?_
     obtain ⟨t132, h78, hm⟩ := bindO hm
     refine g_callH [] [] rfl rfl rfl rfl rfl rfl rfl (fun a w => Try.call70 a w) (fun w hh => c_tide_Longest_1 t24.r0 o_1 l_1.1.q l_1.1.n l_1.1.cap l_1.2.1.q l_1.2.1.n l_1.2.1.cap l_1.2.2.q l_1.2.2.n l_1.2.2.cap l_8.q l_8.n l_8.cap w (HV.callee (S0 := []) (vs0 := []) hh (roC (hh.vsep (S0 := []) (vs0 := []) 4 rfl h5) (roC (hh.vsep (S0 := []) (vs0 := []) 5 rfl h6) (roC (hh.vsep (S0 := []) (vs0 := []) 6 rfl h7) (roC (hh.vsep (S0 := []) (vs0 := []) 0 rfl h36) roN))))) (vlen RW h5 rfl) (vne h5) (h5).hle (vlen RI h6 rfl) (vne h6) (h6).hle (vlen RS h7 rfl) (vne h7) (h7).hle (vlen RI h36 rfl) (vne h36) (h36).hle h78) (fun l_21 h79 => ?_)
     refine g_val rfl rfl rfl (fun _ _ => v_move rfl) ?_
     refine g_val rfl rfl rfl (fun _ _ => v_extract rfl rfl) ?_
     refine g_val rfl rfl rfl (fun _ _ => v_extract rfl rfl) ?_
     refine g_allocV (fun w => Try.zeroValue25 w) rfl (fun b_2 h80 => ?_)
     refine g_stSA (us := #[_, _]) (cs' := [_, _]) (S' := [_, _, _, _]) 0 (fun w => Try.sizeOf25 w) rfl rfl rfl rfl rfl rfl rfl ?_
     refine g_val rfl rfl rfl (fun _ _ => v_assign rfl) ?_
     refine g_nil ?_
     refine g_n_then ?_
     refine g_seq ?_
     refine g_region ?_
     refine g_val rfl rfl rfl (fun w hh => v_loadAgg (vs := [_, _, _, _, _]) (Try.isAgg29 w) (Try.sizeOf29 w) rfl (hh.cells 1 rfl rfl)) ?_
     refine g_val rfl rfl rfl (fun _ _ => v_move rfl) ?_
     obtain ⟨t138, h81, hm⟩ := bindO hm
     refine g_callH [] [] rfl rfl rfl rfl rfl rfl rfl (fun a w => Try.call70 a w) (fun w hh => c_tide_Longest_1 (⟨o, t26.wind, t26.floors, t26.sills⟩ : Sands) o_1 l_2.1.q l_2.1.n l_2.1.cap l_2.2.1.q l_2.2.1.n l_2.2.1.cap l_2.2.2.q l_2.2.2.n l_2.2.2.cap l_8.q l_8.n l_8.cap w (HV.callee (S0 := []) (vs0 := []) hh (roC (hh.vsep (S0 := []) (vs0 := []) 1 rfl h20) (roC (hh.vsep (S0 := []) (vs0 := []) 2 rfl h12) (roC (hh.vsep (S0 := []) (vs0 := []) 3 rfl h13) (roC (hh.vsep (S0 := []) (vs0 := []) 0 rfl h36) roN))))) (vlen RW h20 rfl) (vne h20) (h20).hle (vlen RI h12 rfl) (vne h12) (h12).hle (vlen RS h13 rfl) (vne h13) (h13).hle (vlen RI h36 rfl) (vne h36) (h36).hle h81) (fun l_22 h82 => ?_)
     refine g_val rfl rfl rfl (fun _ _ => v_move rfl) ?_
     refine g_val rfl rfl rfl (fun _ _ => v_extract rfl rfl) ?_
     refine g_val rfl rfl rfl (fun _ _ => v_extract rfl rfl) ?_
     refine g_allocV (fun w => Try.zeroValue25 w) rfl (fun b_3 h83 => ?_)
     refine g_stSA (us := #[_, _]) (cs' := [_, _]) (S' := [_, _, _, _, _]) 0 (fun w => Try.sizeOf25 w) rfl rfl rfl rfl rfl rfl rfl ?_
     refine g_val rfl rfl rfl (fun _ _ => v_assign rfl) ?_
     refine g_nil ?_
     refine g_n_then ?_
     refine g_seq ?_
     obtain ⟨o_4, h84, h85⟩ := bindO hm
     refine g_cut (ι := Unit) (fun l_23 => True) (fun l_23 => [(2, .bool o_4)]) (fun l_23 => [(b_3, .cells #[.int .i64 t138.r0.lo, .int .i64 t138.r0.hi] 25 (0, 0)), (b_2, .cells #[.int .i64 t132.r0.lo, .int .i64 t132.r0.hi] 25 (0, 0)), (b_1, .cells #[slv l_2.1.q l_2.1.n l_2.1.cap, .int .i64 t26.wind.lo, .int .i64 t26.wind.hi, slv l_2.2.1.q l_2.2.1.n l_2.2.1.cap, slv l_2.2.2.q l_2.2.2.n l_2.2.2.cap] 29 (0, 0)), (b, .cells #[slv l_1.1.q l_1.1.n l_1.1.cap, .int .i64 t24.r0.wind.lo, .int .i64 t24.r0.wind.hi, slv l_1.2.1.q l_1.2.1.n l_1.2.1.cap, slv l_1.2.2.q l_1.2.2.n l_1.2.2.cap] 29 (0, 0)), (l, .cells #[.slice qa0 na0 ca0, .int .i64 t24.b0_1, .int .u32 t24.b0_2] 138 (0, 0))]) (fun l_23 => [⟨68, RW.enc o, l_2.1.sp, l_2.1.q⟩, ⟨3, RI.enc t26.floors, l_2.2.1.sp, l_2.2.1.q⟩, ⟨51, RS.enc t26.sills, l_2.2.2.sp, l_2.2.2.q⟩, ⟨68, RW.enc t24.r0.table, l_1.1.sp, l_1.1.q⟩, ⟨3, RI.enc t24.r0.floors, l_1.2.1.sp, l_1.2.1.q⟩, ⟨51, RS.enc t24.r0.sills, l_1.2.2.sp, l_1.2.2.q⟩]) ?_ ?_
     ·replace hm := h84
      refine g_region ?_
      refine g_val rfl rfl rfl (fun _ _ => v_move rfl) ?_
      refine g_val rfl rfl rfl (fun _ _ => v_move rfl) ?_
      refine g_val rfl rfl rfl (fun _ _ => v_eql rfl rfl) ?_
      refine g_val rfl rfl rfl (fun _ _ => v_move rfl) ?_
      refine g_case 144 rfl (fun h86 => ?_) (fun h86 => ?_)
      ·replace hm := ifT (of_decide_eq_true h86) hm
       refine v_unguard rfl rfl ?_
       refine g_val rfl rfl rfl (fun w _ => v_fieldAddr 1 (Try.runUnderlying25 w) rfl (Try.sizeOf3 w) rfl) ?_
       refine v_unguard rfl rfl ?_
       refine g_val rfl rfl rfl (fun w hh => v_load (Try.isAgg3 w) rfl (hh.cell 1 rfl rfl)) ?_
       refine v_unguard rfl rfl ?_
       refine g_val rfl rfl rfl (fun w _ => v_fieldAddr 0 (Try.runUnderlying25 w) rfl (Try.sizeOf3 w) rfl) ?_
       refine v_unguard rfl rfl ?_
       refine g_val rfl rfl rfl (fun w hh => v_load (Try.isAgg3 w) rfl (hh.cell 1 rfl rfl)) ?_
       refine v_unguard rfl rfl ?_
       obtain ⟨t149, h87, hm⟩ := bindO hm
       refine g_val rfl rfl rfl (fun _ _ => v_subc h87 rfl rfl) ?_
       refine v_unguard rfl rfl ?_
       refine g_val rfl rfl rfl (fun w _ => v_fieldAddr 1 (Try.runUnderlying25 w) rfl (Try.sizeOf3 w) rfl) ?_
       refine v_unguard rfl rfl ?_
       refine g_val rfl rfl rfl (fun w hh => v_load (Try.isAgg3 w) rfl (hh.cell 0 rfl rfl)) ?_
       refine v_unguard rfl rfl ?_
       refine g_val rfl rfl rfl (fun w _ => v_fieldAddr 0 (Try.runUnderlying25 w) rfl (Try.sizeOf3 w) rfl) ?_
       refine v_unguard rfl rfl ?_
       refine g_val rfl rfl rfl (fun w hh => v_load (Try.isAgg3 w) rfl (hh.cell 0 rfl rfl)) ?_
       refine v_unguard rfl rfl ?_
       obtain ⟨t154, h88, hm⟩ := bindO hm
       refine g_val rfl rfl rfl (fun _ _ => v_subc h88 rfl rfl) ?_
       refine v_unguard rfl rfl ?_
       refine g_val rfl rfl rfl (fun _ _ => v_eql rfl rfl) ?_
       refine g_val rfl rfl rfl (fun _ _ => v_pickT rfl rfl) ?_
       refine g_val rfl rfl rfl (fun _ _ => v_move rfl) ?_
       refine g_case 157 rfl (fun h89 => ?_) (fun h89 => ?_)
       ·replace hm := ifT (of_decide_eq_true h89) hm
        refine v_unguard rfl rfl ?_
        obtain ⟨t158, h90, hm⟩ := bindO hm
        refine g_callH [] [] rfl rfl rfl rfl rfl rfl rfl (fun a w => Try.call30 a w) (fun w hh => cx_awake  w (HV.callee (S0 := []) (vs0 := []) hh roN)  h90) (fun l_24 h91 => ?_)
        refine g_val rfl rfl rfl (fun _ _ => v_pickT rfl rfl) ?_
        refine g_val rfl rfl rfl (fun _ _ => v_assign rfl) ?_
        refine g_nil ?_
        obtain rfl := Option.some.inj hm
        exact g_leaf () (trivial) ((.cons rfl .nil)) (fun w hh => hh.sel [0, 1, 2, 3, 4] [1, 2, 3, 4, 5, 6] 0 (by decide) (by decide) rfl rfl rfl)
       ·replace hm := ifF (of_decide_eq_false h89) hm
        refine g_skipG rfl rfl rfl rfl rfl rfl ?_
        refine g_val rfl rfl rfl (fun _ _ => v_pickF rfl rfl) ?_
        refine g_val rfl rfl rfl (fun _ _ => v_assign rfl) ?_
        refine g_nil ?_
        obtain rfl := Option.some.inj hm
        exact g_leaf () (trivial) ((.cons rfl .nil)) (fun w hh => hh.sel [0, 1, 2, 3, 4] [1, 2, 3, 4, 5, 6] 0 (by decide) (by decide) rfl rfl rfl)
      ·replace hm := ifF (of_decide_eq_false h86) hm
       refine g_skipG rfl rfl rfl rfl rfl rfl ?_
       refine g_skipG rfl rfl rfl rfl rfl rfl ?_
       refine g_skipG rfl rfl rfl rfl rfl rfl ?_
       refine g_skipG rfl rfl rfl rfl rfl rfl ?_
       refine g_skipG rfl rfl rfl rfl rfl rfl ?_
       refine g_skipG rfl rfl rfl rfl rfl rfl ?_
       refine g_skipG rfl rfl rfl rfl rfl rfl ?_
       refine g_skipG rfl rfl rfl rfl rfl rfl ?_
       refine g_skipG rfl rfl rfl rfl rfl rfl ?_
       refine g_skipG rfl rfl rfl rfl rfl rfl ?_
       refine g_skipG rfl rfl rfl rfl rfl rfl ?_
       refine g_val rfl rfl rfl (fun _ _ => v_pickF rfl rfl) ?_
       refine g_val rfl rfl rfl (fun _ _ => v_move rfl) ?_
       refine g_skipG rfl rfl rfl rfl rfl rfl ?_
       refine g_val rfl rfl rfl (fun _ _ => v_pickF rfl rfl) ?_
       refine g_val rfl rfl rfl (fun _ _ => v_assign rfl) ?_
       refine g_nil ?_
       obtain rfl := Option.some.inj hm
       exact g_leaf () (trivial) ((.cons rfl .nil)) (fun w hh => hh.sel [0, 1, 2, 3, 4] [1, 2, 3, 4, 5, 6] 0 (by decide) (by decide) rfl rfl rfl)
     ·intro l_23 hj
      replace hm := h85
      refine g_n_then ?_
      refine g_ret ?_
      obtain rfl := Option.some.inj hm
      refine g_done rfl (fun w hh => (.tmp rfl .nil)) (fun w hh => ⟨(), rfl, trivial, hh.sel [] [] 1 (by decide) (by decide) rfl rfl rfl⟩)
end Go.Proofs.Wk

namespace Go.Proofs.Wk
open Go Go.Gx Go.Pl
set_option linter.unusedVariables false
/-! ### the longest span in which places are dry -/
def allDry (s : Sands) (pl : List Int) (m : Int) : Bool := pl.all fun p => decide (stateF s m p = 0)
theorem every_place {s : Sands} (hS : Short s) {l : List Int} (hl : l.length ≤ 1000) : m_tide_every_int_3 l s = some (l.all (isPlace s)) := by
  have h1 := hS.t
  have h2 := hS.f
  have h3 := hS.s
  have hpl : ∀ p, x_place s p = some (isPlace s p) := fun p => by unfold x_place; rw [if_pos ⟨by omega, by omega, by omega⟩]
  unfold m_tide_every_int_3 m_slices_ContainsFunc_intint_2 m_slices_IndexFunc_intint_2
  have key := contains_loop (f := m_slices_IndexFunc_intint_2_L0 l s) l 0 (fun x => !isPlace s x) (by omega) (fun k hk => by
    unfold m_slices_IndexFunc_intint_2_L0 m_tide_every_int_1_2
    rw [if_pos (by omega), ix_nat 0 hk, Option.bind_some, hpl, Option.bind_some, Option.bind_some]
    by_cases h : (!isPlace s (l.getD k 0)) = true
    · rw [if_pos h, if_pos h]
    · rw [if_neg h, if_neg h, addc_eq (by omega), Option.bind_some]) (by
    unfold m_slices_IndexFunc_intint_2_L0
    rw [if_neg (by omega)])
  rw [key, Option.bind_some, not_any_not]
theorem x_at_eq {s : Sands} (hG : Good s) {m p : Int} (hd : dayF s m = true) (hp : isPlace s p = true) : x_at s m p = some (stateF s m p) := by
  have hS := Good.short hG
  have h1 := hS.t
  have h2 := hS.f
  have h3 := hS.s
  have hfl := hG.fl
  have hpp := isPlace_iff.1 hp
  unfold x_at
  rw [if_pos ⟨⟨by omega, by omega, by omega⟩, check_of_good hG, hd, by omega, by omega⟩]
theorem every_dry {s : Sands} (hG : Good s) {pl : List Int} (hpl : pl.all (isPlace s) = true) (hl : pl.length ≤ 1000) {m : Int} (hd : dayF s m = true) : m_tide_Longest_1_2 m pl s = some (allDry s pl m) := by
  unfold m_tide_Longest_1_2 m_tide_every_int_4 m_slices_ContainsFunc_intint_3 m_slices_IndexFunc_intint_3
  have key := contains_loop (f := m_slices_IndexFunc_intint_3_L0 pl s m) pl 0 (fun x => !decide (stateF s m x = 0)) (by omega) (fun k hk => by
    have hp : isPlace s (pl.getD k 0) = true := all_getD hpl hk
    unfold m_slices_IndexFunc_intint_3_L0 m_tide_every_int_1_3 m_tide_Longest_1_1_2
    rw [if_pos (by omega), ix_nat 0 hk, Option.bind_some, x_at_eq hG hd hp, Option.bind_some, Option.bind_some, Option.bind_some]
    by_cases h : (!decide (stateF s m (pl.getD k 0) = 0)) = true
    · rw [if_pos h, if_pos h]
    · rw [if_neg h, if_neg h, addc_eq (by omega), Option.bind_some]) (by
    unfold m_slices_IndexFunc_intint_3_L0
    rw [if_neg (by omega)])
  rw [key, Option.bind_some, not_any_not, Option.bind_some]
  rfl
theorem shut_eq {m fr : Int} {op : Bool} {acc : List Span} (hm : -1000000 ≤ m ∧ m ≤ 1000000) (hl : acc.length ≤ 100000) : m_tide_desk_spans_1_3 m op acc fr = some ⟨(shutF ⟨acc, fr, op⟩ m).op, (shutF ⟨acc, fr, op⟩ m).acc⟩ := by
  unfold m_tide_desk_spans_1_3 shutF
  cases op with
  | true =>
    rw [if_pos rfl, subc_eq (by omega), Option.bind_some, appc_eq (by simp only [List.length_singleton]; omega), Option.bind_some, Option.bind_some]
  | false => rw [if_neg (by decide), Option.bind_some]
theorem shut_fr {x : SpanSt} {m : Int} : (shutF x m).fr = x.fr := by unfold shutF; split <;> rfl
theorem spans_walk {s : Sands} (hG : Good s) {pl : List Int} (hpl : pl.all (isPlace s) = true) (hl : pl.length ≤ 1000) : m_tide_desk_spans_1 s pl s = some (spansF s (allDry s pl)) := by
  have htl := hG.tl
  have hds := day_span hG
  obtain ⟨hn, hn2⟩ := Go.Pl.dayN_eq hG
  have e0 : (s.table.getD (0 : Int).toNat default).min = firstM s := rfl
  have e1 : (s.table.getD (((s.table.length : Int) - 1).toNat) default).min = lastM s := by
    unfold lastM
    rw [show ((s.table.length : Int) - 1).toNat = s.table.length - 1 by omega]
  unfold m_tide_desk_spans_1
  rw [ix_eq default (by omega) (by omega), Option.bind_some, subc_eq (by omega), Option.bind_some, ix_eq default (by omega) (by omega), Option.bind_some, e0, e1, subc_eq (by omega), Option.bind_some, addc_eq (by omega), Option.bind_some, ← hn]
  generalize hW : s.table.getD (0 : Int).toNat default = W at e0
  have key : iterM FU (m_tide_desk_spans_1_L0 (dayN s : Int) W pl s) ⟨0, false, 0, []⟩ = some ⟨(spansN (allDry s pl) (firstM s) (dayN s)).op, (spansN (allDry s pl) (firstM s) (dayN s)).fr, (spansN (allDry s pl) (firstM s) (dayN s)).acc⟩ := by
    have hz : (⟨0, false, 0, []⟩ : m_tide_desk_spans_1_S0) = (fun k : Nat => (⟨(k : Int), (spansN (allDry s pl) (firstM s) k).op, (spansN (allDry s pl) (firstM s) k).fr, (spansN (allDry s pl) (firstM s) k).acc⟩ : m_tide_desk_spans_1_S0)) 0 := rfl
    rw [hz]
    refine iterM_run (fun k : Nat => (⟨(k : Int), (spansN (allDry s pl) (firstM s) k).op, (spansN (allDry s pl) (firstM s) k).fr, (spansN (allDry s pl) (firstM s) k).acc⟩ : m_tide_desk_spans_1_S0)) (dayN s) (fun k hk => ?_) ?_ FU (FU_lt (by omega))
    · have hd : dayF s (firstM s + (k : Int)) = true := day_of ⟨by omega, by omega⟩
      have hlen := spansN_len (p := allDry s pl) (a := firstM s) (k := k)
      unfold m_tide_desk_spans_1_L0
      dsimp only
      rw [if_pos (by omega), e0, addc_eq (by omega), Option.bind_some, every_dry hG hpl hl hd, Option.bind_some, spansN_succ]
      generalize spansN (allDry s pl) (firstM s) k = x at hlen ⊢
      obtain ⟨acc, fr, op⟩ := x
      simp only at hlen ⊢
      unfold spanStep
      cases hdry : allDry s pl (firstM s + (k : Int)) with
      | false =>
        rw [if_pos (show (!false) = true from rfl), Option.bind_some, shut_eq (by omega) (by omega), Option.bind_some, Option.bind_some, addc_eq (by omega), Option.bind_some]
        simp only [shut_fr]
        rfl
      | true =>
        rw [if_neg (by decide)]
        cases op with
        | false => rw [if_pos (show (!false) = true from rfl), Option.bind_some, Option.bind_some, addc_eq (by omega), Option.bind_some]; rfl
        | true => rw [if_neg (by decide), Option.bind_some, addc_eq (by omega), Option.bind_some]; rfl
    · unfold m_tide_desk_spans_1_L0
      dsimp only
      rw [if_neg (by omega)]
  have hlen := spansN_len (p := allDry s pl) (a := firstM s) (k := dayN s)
  rw [key, Option.bind_some, addc_eq (by omega), Option.bind_some, shut_eq (by omega) (by dsimp only; omega), Option.bind_some]
  rfl
/-- the first of the longest -/
def maxStep (m x : Span) : Span := if m.hi - m.lo < x.hi - x.lo then x else m
def maxSpan : List Span → Span
  | [] => ⟨0, 0⟩
  | x :: l => l.foldl maxStep x
theorem max_fold : ∀ (l : List Span) (x : Span), l.foldl maxStep x ∈ x :: l ∧ ∀ y, y ∈ x :: l → y.hi - y.lo ≤ (l.foldl maxStep x).hi - (l.foldl maxStep x).lo
  | [], x => ⟨List.mem_cons_self, fun y hy => by rw [List.mem_singleton.1 hy]; exact Int.le_refl _⟩
  | z :: l, x => by
    obtain ⟨h1, h2⟩ := max_fold l (maxStep x z)
    rw [List.foldl_cons]
    have hs : maxStep x z = x ∨ maxStep x z = z := by unfold maxStep; split <;> simp
    have hx : x.hi - x.lo ≤ (maxStep x z).hi - (maxStep x z).lo ∧ z.hi - z.lo ≤ (maxStep x z).hi - (maxStep x z).lo := by unfold maxStep; split <;> omega
    have h3 := h2 _ List.mem_cons_self
    refine ⟨?_, fun y hy => ?_⟩
    · rcases List.mem_cons.1 h1 with h | h
      · rw [h]
        rcases hs with h4 | h4 <;> rw [h4] <;> simp
      · exact List.mem_cons_of_mem _ (List.mem_cons_of_mem _ h)
    · rcases List.mem_cons.1 hy with rfl | hy
      · omega
      · rcases List.mem_cons.1 hy with rfl | hy
        · omega
        · exact h2 y (List.mem_cons_of_mem _ hy)
theorem maxSpan_spec {l : List Span} (h : l ≠ []) : maxSpan l ∈ l ∧ ∀ y, y ∈ l → y.hi - y.lo ≤ (maxSpan l).hi - (maxSpan l).lo := by
  cases l with
  | nil => exact absurd rfl h
  | cons x l => exact max_fold l x
theorem maxfunc_eq {l : List Span} (h : l ≠ []) (hl : l.length ≤ 100000) (hb : ∀ y, y ∈ l → (-1000000 ≤ y.lo ∧ y.lo ≤ 1000000) ∧ -1000000 ≤ y.hi ∧ y.hi ≤ 1000000) : m_slices_MaxFunc_apiSpanapiSpan l = some (maxSpan l) := by
  cases l with
  | nil => exact absurd rfl h
  | cons x l =>
    unfold m_slices_MaxFunc_apiSpanapiSpan
    simp only [List.length_cons] at hl
    rw [if_neg (by simp only [List.length_cons]; omega), ix_eq default (by omega) (by simp)]
    have e : (x :: l).getD (0 : Int).toNat default = x := rfl
    rw [Option.bind_some, e]
    have tk : ∀ k, (l.take k).foldl maxStep x ∈ x :: l := fun k => by
      have := (max_fold (l.take k) x).1
      rcases List.mem_cons.1 this with h | h
      · rw [h]; exact List.mem_cons_self
      · exact List.mem_cons_of_mem _ (List.mem_of_mem_take h)
    have key : iterM FU (m_slices_MaxFunc_apiSpanapiSpan_L0 (x :: l)) ⟨1, x.lo, x.hi⟩ = some ⟨(maxSpan (x :: l)).lo, (maxSpan (x :: l)).hi⟩ := by
      have hz : (⟨1, x.lo, x.hi⟩ : m_slices_MaxFunc_apiSpanapiSpan_S0) = (fun k : Nat => (⟨((k + 1 : Nat) : Int), ((l.take k).foldl maxStep x).lo, ((l.take k).foldl maxStep x).hi⟩ : m_slices_MaxFunc_apiSpanapiSpan_S0)) 0 := rfl
      rw [hz]
      refine iterM_run (fun k : Nat => (⟨((k + 1 : Nat) : Int), ((l.take k).foldl maxStep x).lo, ((l.take k).foldl maxStep x).hi⟩ : m_slices_MaxFunc_apiSpanapiSpan_S0)) l.length (fun k hk => ?_) ?_ FU (FU_lt (by omega))
      · have hm := hb _ (tk k)
        have hy := hb (l.getD k default) (List.mem_cons_of_mem _ (mem_getD hk))
        have hg : ix (x :: l) ((k + 1 : Nat) : Int) = some (l.getD k default) := by
          rw [ix_nat default (by simp; omega)]
          rfl
        have hf : (l.take (k + 1)).foldl maxStep x = maxStep ((l.take k).foldl maxStep x) (l.getD k default) := take_fold default hk
        unfold m_slices_MaxFunc_apiSpanapiSpan_L0 m_tide_Longest_2
        dsimp only
        rw [if_pos (by simp only [List.length_cons]; omega), hg, Option.bind_some, hf]
        generalize (l.take k).foldl maxStep x = m at hm
        generalize l.getD k default = y at hy
        rw [subc_eq (by omega), Option.bind_some, subc_eq (by omega), Option.bind_some, addc_eq (by omega), Option.bind_some, Option.bind_some]
        unfold maxStep
        by_cases hc : m.hi - m.lo < y.hi - y.lo
        · rw [if_pos (by omega), if_pos hc, Option.bind_some, Option.bind_some, addc_eq (by omega), Option.bind_some]
          rfl
        · rw [if_neg (by omega), if_neg hc, Option.bind_some, addc_eq (by omega), Option.bind_some]
          rfl
      · unfold m_slices_MaxFunc_apiSpanapiSpan_L0
        dsimp only
        rw [if_neg (by simp only [List.length_cons]; omega), List.take_length]
        rfl
    rw [key, Option.bind_some]
/-- what Longest comes to -/
def LongestR (s : Sands) (pl : List Int) : Span × Int := if check s ≠ 0 then (⟨0, 0⟩, check s) else if pl.all (isPlace s) = false then (⟨0, 0⟩, 1) else if spansF s (allDry s pl) = [] then (⟨0, 0⟩, 6) else (maxSpan (spansF s (allDry s pl)), 0)
theorem longest_eq {s : Sands} (hS : Short s) {pl : List Int} (hl : pl.length ≤ 1000) : m_tide_Longest_1 s pl = some ⟨(LongestR s pl).1, (LongestR s pl).2⟩ := by
  have h1 := hS.t
  have h2 := hS.f
  have h3 := hS.s
  unfold m_tide_Longest_1 LongestR
  rw [if_pos ⟨by omega, by omega, by omega⟩]
  by_cases hc : check s = 0
  · have hG := good_of_check hc
    rw [if_pos hc, if_neg (show ¬ (check s ≠ 0) by rw [hc]; simp), every_place hS hl, Option.bind_some]
    by_cases hp : pl.all (isPlace s) = true
    · have hlen := spansF_len hG (p := allDry s pl)
      have hruns := (spans_runs hG (p := allDry s pl)).1
      have hds := day_span hG
      rw [hp, if_neg (by decide), if_neg (show ¬ (true = false) by decide), spans_walk hG hp hl, Option.bind_some]
      by_cases he : spansF s (allDry s pl) = []
      · rw [if_pos (by rw [he]; rfl), if_pos he]
      · have hne : ¬ ((spansF s (allDry s pl)).length : Int) = 0 := fun h => he (List.length_eq_zero_iff.1 (by omega))
        rw [if_neg hne, if_neg he, maxfunc_eq he (by omega) (fun y hy => by have := hruns y hy; omega), Option.bind_some]
    · have hp' : pl.all (isPlace s) = false := by simpa using hp
      rw [hp', if_pos (show (!false) = true from rfl), if_pos rfl]
  · rw [if_neg hc, if_pos (show check s ≠ 0 from hc)]
end Go.Proofs.Wk

namespace Go.Proofs.Wk
open Go Go.Gx Go.Pl
set_option linter.unusedVariables false
theorem equal_state (a : List Int) (ha : a.length ≤ 1000) : m_laurelkit_Eq_tideState a a = some true := by
  unfold m_laurelkit_Eq_tideState m_slices_Equal_tideStatetideState
  rw [if_pos rfl, iterM_any0 a.length (fun _ => false) false (fun k hk => ?_) (by unfold m_slices_Equal_tideStatetideState_L0; simp) (FU_lt (by omega))]
  · simp
  · unfold m_slices_Equal_tideStatetideState_L0
    rw [if_pos (by omega), ix_nat default hk, Option.bind_some, Option.bind_some, if_pos rfl, addc_eq (by omega)]
    simp
end Go.Proofs.Wk

namespace Go.Proofs.Wk
open Go Go.Gx Go.Pl
set_option linter.unusedVariables false
/-! ### the day that runs backwards -/
def mir (M : Int) (x : Water) : Water := ⟨M - x.min, x.h⟩
def mirT (s : Sands) : Sands := ⟨s.table.reverse.map (mir (firstM s + lastM s)), s.wind, s.floors, s.sills⟩
theorem mir_len {s : Sands} : (mirT s).table.length = s.table.length := by simp [mirT]
theorem mir_getD {s : Sands} {j : Nat} (h : j < s.table.length) : (mirT s).table.getD j default = mir (firstM s + lastM s) (s.table.getD (s.table.length - 1 - j) default) := by
  have h2 : s.table.length - 1 - j < s.table.length := by omega
  simp [mirT, List.getD_eq_getElem?_getD, h, h2]
theorem mir_first {s : Sands} (hG : Good s) : firstM (mirT s) = firstM s := by
  have htl := hG.tl
  unfold firstM
  rw [mir_getD (by omega), Nat.sub_zero]
  show firstM s + lastM s - (s.table.getD (s.table.length - 1) default).min = _
  have : lastM s = (s.table.getD (s.table.length - 1) default).min := rfl
  rw [← this]
  show _ = firstM s
  omega
theorem mir_last {s : Sands} (hG : Good s) : lastM (mirT s) = lastM s := by
  have htl := hG.tl
  unfold lastM
  rw [mir_len, mir_getD (by omega), Nat.sub_self]
  show firstM s + lastM s - (s.table.getD 0 default).min = _
  have : firstM s = (s.table.getD 0 default).min := rfl
  rw [← this]
  show _ = lastM s
  omega
theorem tab_rg {s : Sands} (hG : Good s) {j : Nat} (hj : j < s.table.length) : firstM s ≤ (s.table.getD j default).min ∧ (s.table.getD j default).min ≤ lastM s := by
  have htl := hG.tl
  constructor
  · rcases Nat.eq_zero_or_pos j with h | h
    · subst h; exact Int.le_refl _
    · have := min_mono hG (i := 0) (j := j) h hj
      unfold firstM; omega
  · by_cases h : j = s.table.length - 1
    · subst h; exact Int.le_refl _
    · have := min_mono hG (i := j) (j := s.table.length - 1) (by omega) (by omega)
      unfold lastM; omega
theorem mir_good {s : Sands} (hG : Good s) : Good (mirT s) := by
  have htl := hG.tl
  have hds := day_span hG
  refine ⟨by rw [mir_len]; exact hG.tl, hG.fl, hG.sl, fun j hj => ?_, hG.lo, hG.hi, hG.flo, hG.sh, fun i hi => ?_, hG.wind, hG.sa, hG.sb, hG.ne⟩
  · rw [mir_len] at hj
    rw [mir_getD hj]
    have h1 := tab_rg hG (show s.table.length - 1 - j < s.table.length by omega)
    have h2 := hG.tab (s.table.length - 1 - j) (by omega)
    simp only [mir]
    omega
  · rw [mir_len] at hi
    rw [mir_getD (by omega), mir_getD (by omega)]
    have h1 := min_mono hG (i := s.table.length - 1 - (i + 1)) (j := s.table.length - 1 - i) (by omega) (by omega)
    simp only [mir]
    omega
theorem mir_line {a b : Water} {m M : Int} : lineAt (mir M b) (mir M a) (M - m) = lineAt a b m := by
  unfold lineAt mir
  simp only
  have e1 : M - a.min - (M - b.min) = b.min - a.min := by omega
  have e2 : M - m - (M - b.min) = b.min - m := by omega
  rw [e1, e2]
  have e3 : b.h * (b.min - a.min) + (a.h - b.h) * (b.min - m) = a.h * (b.min - a.min) + (b.h - a.h) * (m - a.min) := by
    have e4 : b.min - a.min = (m - a.min) + (b.min - m) := by omega
    rw [e4, Int.mul_add, Int.mul_add, Int.sub_mul, Int.sub_mul]
    omega
  rw [e3]
theorem mir_height {s : Sands} (hG : Good s) {m : Int} (hd : dayF s m = true) : heightF (mirT s) (firstM s + lastM s - m) = heightF s m := by
  have hG' := mir_good hG
  obtain ⟨k, _, hk, hm, hl, hk0⟩ := day_idx hG hd
  by_cases he : (s.table.getD k default).min = m
  · rw [height_eq hk hl he]
    have hk' : s.table.length - 1 - k < (mirT s).table.length := by rw [mir_len]; omega
    have eg : (mirT s).table.getD (s.table.length - 1 - k) default = mir (firstM s + lastM s) (s.table.getD k default) := by
      rw [mir_getD (by omega), show s.table.length - 1 - (s.table.length - 1 - k) = k by omega]
    have hle : ∀ i, i < s.table.length - 1 - k → ((mirT s).table.getD i default).min < firstM s + lastM s - m := fun i hi => by
      rw [mir_getD (by omega)]
      have := min_mono hG (i := k) (j := s.table.length - 1 - i) (by omega) (by omega)
      simp only [mir]; omega
    have heq : ((mirT s).table.getD (s.table.length - 1 - k) default).min = firstM s + lastM s - m := by
      rw [eg]; simp only [mir]; omega
    rw [height_eq hk' hle heq, eg]
    rfl
  · have hk1 : k ≠ 0 := fun h => he (hk0 h)
    rw [height_line hG hk hl (by omega) hk1]
    have hk' : s.table.length - k < (mirT s).table.length := by rw [mir_len]; omega
    have e1 : (mirT s).table.getD (s.table.length - k) default = mir (firstM s + lastM s) (s.table.getD (k - 1) default) := by
      rw [mir_getD (by omega), show s.table.length - 1 - (s.table.length - k) = k - 1 by omega]
    have e2 : (mirT s).table.getD (s.table.length - k - 1) default = mir (firstM s + lastM s) (s.table.getD k default) := by
      rw [mir_getD (by omega), show s.table.length - 1 - (s.table.length - k - 1) = k by omega]
    have hlk := hl (k - 1) (by omega)
    have hle : ∀ i, i < s.table.length - k → ((mirT s).table.getD i default).min < firstM s + lastM s - m := fun i hi => by
      rw [mir_getD (by omega)]
      have : (s.table.getD k default).min ≤ (s.table.getD (s.table.length - 1 - i) default).min := by
        by_cases h : k = s.table.length - 1 - i
        · rw [← h]; exact Int.le_refl _
        · have := min_mono hG (i := k) (j := s.table.length - 1 - i) (by omega) (by omega)
          omega
      simp only [mir]; omega
    have hlt : firstM s + lastM s - m < ((mirT s).table.getD (s.table.length - k) default).min := by
      rw [e1]; simp only [mir]; omega
    rw [height_line hG' hk' hle hlt (by omega), e1, e2, mir_line]
theorem mir_state {s : Sands} (hG : Good s) {m p : Int} (hd : dayF s m = true) : stateF (mirT s) (firstM s + lastM s - m) p = stateF s m p := by
  unfold stateF stateG levelF
  rw [mir_height hG hd, gates_fs (s := mirT s) (t := s) rfl rfl]
  rfl
theorem mir_day {s : Sands} (hG : Good s) {m : Int} (hd : dayF s m = true) : dayF (mirT s) (firstM s + lastM s - m) = true := by
  simp only [dayF, inr_iff, mir_first hG, mir_last hG] at hd ⊢
  omega
/-- a run of the one is a run of the other -/
theorem run_le {s t : Sands} (hG : Good s) (hGt : Good t) (hf : firstM t = firstM s) (hl : lastM t = lastM s) {p q : Int → Bool} (hpq : ∀ m, dayF s m = true → p m = true → q (firstM s + lastM s - m) = true) {y : Span} (hy : y ∈ spansF s p) :
    ∃ z, z ∈ spansF t q ∧ y.hi - y.lo ≤ z.hi - z.lo := by
  obtain ⟨h1, h2, h3, h4, _⟩ := (spans_runs hG (p := p)).1 y hy
  have hq : ∀ m, firstM s + lastM s - y.hi ≤ m → m ≤ firstM s + lastM s - y.lo → q m = true := fun m ha hb => by
    have := hpq (firstM s + lastM s - m) (by simp only [dayF, inr_iff]; omega) (h4 _ (by omega) (by omega))
    rw [show firstM s + lastM s - (firstM s + lastM s - m) = m by omega] at this
    exact this
  obtain ⟨z, hz, hz1, hz2⟩ := (spans_runs hGt (p := q)).2 (firstM s + lastM s - y.hi) (by simp only [dayF, inr_iff, hf, hl]; omega) (hq _ (by omega) (by omega))
  obtain ⟨g1, g2, g3, g4, g5, g6⟩ := (spans_runs hGt (p := q)).1 z hz
  refine ⟨z, hz, ?_⟩
  have : firstM s + lastM s - y.lo ≤ z.hi := by
    refine Int.not_lt.1 fun hlt => ?_
    rcases g5 with g5 | g5
    · omega
    · have := hq (z.hi + 1) (by omega) (by omega)
      rw [g5] at this
      exact absurd this (by decide)
  omega
theorem max_same {s t : Sands} (hG : Good s) (hGt : Good t) (hf : firstM t = firstM s) (hl : lastM t = lastM s) {p q : Int → Bool} (hpq : ∀ m, dayF s m = true → p m = true → q (firstM s + lastM s - m) = true) (hqp : ∀ m, dayF s m = true → q m = true → p (firstM s + lastM s - m) = true) :
    (spansF s p = [] ↔ spansF t q = []) ∧ (spansF s p ≠ [] → (maxSpan (spansF s p)).hi - (maxSpan (spansF s p)).lo = (maxSpan (spansF t q)).hi - (maxSpan (spansF t q)).lo) := by
  have hqp' : ∀ m, dayF t m = true → q m = true → p (firstM t + lastM t - m) = true := fun m hd h => by
    rw [hf, hl]
    exact hqp m (by simpa only [dayF, hf, hl] using hd) h
  have a1 := fun y hy => run_le hG hGt hf hl hpq (y := y) hy
  have a2 := fun y hy => run_le hGt hG hf.symm hl.symm hqp' (y := y) hy
  have ne : spansF s p ≠ [] ↔ spansF t q ≠ [] := by
    constructor
    · intro h h2
      obtain ⟨z, hz, _⟩ := a1 _ (maxSpan_spec h).1
      rw [h2] at hz; cases hz
    · intro h h2
      obtain ⟨z, hz, _⟩ := a2 _ (maxSpan_spec h).1
      rw [h2] at hz; cases hz
  refine ⟨⟨fun h => Classical.byContradiction fun h2 => ne.2 h2 h, fun h => Classical.byContradiction fun h2 => ne.1 h2 h⟩, fun h => ?_⟩
  have h2 := ne.1 h
  obtain ⟨m1, m2⟩ := maxSpan_spec h
  obtain ⟨n1, n2⟩ := maxSpan_spec h2
  obtain ⟨z, hz, hz1⟩ := a1 _ m1
  obtain ⟨z', hz', hz1'⟩ := a2 _ n1
  have := n2 z hz
  have := m2 z' hz'
  omega
end Go.Proofs.Wk

namespace Go.Proofs.Wk
open Go Go.Gx Go.Pl
set_option linter.unusedVariables false
theorem reverse_eq {l : List Water} (hl : l.length ≤ 1000) : m_slices_Reverse_tideWatertideWater_1 l = some l.reverse := by
  unfold m_slices_Reverse_tideWatertideWater_1
  rw [subc_eq (by omega), Option.bind_some]
  have key := iterM_run (f := m_slices_Reverse_tideWatertideWater_1_L0) (b := l.reverse) (fun k : Nat => (⟨(k : Int), (l.length : Int) - 1 - (k : Int), revst l default k⟩ : m_slices_Reverse_tideWatertideWater_1_S0)) (l.length / 2) (fun k hk => by
    have h1 : ix (revst l default k) (k : Int) = some (l.getD k default) := by
      unfold revst
      rw [range_ix (by omega), if_neg (by omega)]
    have h2 : ix (revst l default k) ((l.length : Int) - 1 - (k : Int)) = some (l.getD (l.length - 1 - k) default) := by
      rw [show (l.length : Int) - 1 - (k : Int) = ((l.length - 1 - k : Nat) : Int) by omega]
      unfold revst
      rw [range_ix (by omega), if_neg (by omega)]
    have h3 : ix ((revst l default k).set k (l.getD (l.length - 1 - k) default)) ((l.length : Int) - 1 - (k : Int)) = some (l.getD (l.length - 1 - k) default) := by
      rw [show (l.length : Int) - 1 - (k : Int) = ((l.length - 1 - k : Nat) : Int) by omega]
      unfold revst
      rw [range_set, range_ix (by omega), if_neg (by omega), if_neg (by omega)]
    have e1 : ∀ x : Water, (⟨x.min, x.h⟩ : Water) = x := fun _ => rfl
    unfold m_slices_Reverse_tideWatertideWater_1_L0
    dsimp only
    rw [if_pos (by omega), h2, Option.bind_some, h1, Option.bind_some, Option.bind_some, Option.bind_some, Int.toNat_natCast, h3, Option.bind_some, Option.bind_some, addc_eq (by omega), Option.bind_some, subc_eq (by omega), Option.bind_some,
      show ((l.length : Int) - 1 - (k : Int)).toNat = l.length - 1 - k by omega]
    rw [e1, e1, revst_step default hk]
    rw [show (l.length : Int) - 1 - (k : Int) - 1 = (l.length : Int) - 1 - ((k + 1 : Nat) : Int) by omega]
    rfl) (by
    unfold m_slices_Reverse_tideWatertideWater_1_L0
    dsimp only
    rw [if_neg (by omega), revst_end]) FU (FU_lt (by omega))
  have hz : (⟨0, (l.length : Int) - 1, l⟩ : m_slices_Reverse_tideWatertideWater_1_S0) = (fun k : Nat => (⟨(k : Int), (l.length : Int) - 1 - (k : Int), revst l default k⟩ : m_slices_Reverse_tideWatertideWater_1_S0)) 0 := by
    simp [revst_zero]
  rw [hz, key, Option.bind_some]
theorem pile_eqM (l : List Int) : m_laurelkit_Pile l = some ⟨0, 0⟩ := rfl
theorem mirrored_L0 {o : m_laurellaw01_Made_R} (hG : Good o.r0) : iterM FU (m_laurellaw01_TideMirrored_L0 o.r0.table.reverse o) ⟨0, o.r0.table.reverse⟩ = some (mirT o.r0).table := by
  have htl := hG.tl
  have hds := day_span hG
  have hS := Good.short hG
  have hlen : o.r0.table.reverse.length = o.r0.table.length := List.length_reverse
  have key := iterM_run (f := m_laurellaw01_TideMirrored_L0 o.r0.table.reverse o) (b := (mirT o.r0).table) (fun k : Nat => (⟨(k : Int), mapst (mir (firstM o.r0 + lastM o.r0)) o.r0.table.reverse k⟩ : m_laurellaw01_TideMirrored_S0)) o.r0.table.length (fun k hk => by
    have hx := mapst_ix (f := mir (firstM o.r0 + lastM o.r0)) (default : Water) (show k < o.r0.table.reverse.length by omega)
    have hs := mapst_set (f := mir (firstM o.r0 + lastM o.r0)) (default : Water) (show k < o.r0.table.reverse.length by omega)
    have hr : o.r0.table.reverse.getD k default = o.r0.table.getD (o.r0.table.length - 1 - k) default := by
      have h2 : o.r0.table.length - 1 - k < o.r0.table.length := by omega
      simp [List.getD_eq_getElem?_getD, hk, h2]
    have ht := hG.tab (o.r0.table.length - 1 - k) (by omega)
    rw [← hr] at ht
    unfold m_laurellaw01_TideMirrored_L0
    dsimp only
    rw [hlen, if_pos (by omega), hx, Option.bind_some, lawfirst_eq (by omega), Option.bind_some, lawlast_eq hS (by omega), Option.bind_some, addc_eq (by omega), Option.bind_some, subc_eq (by omega), Option.bind_some, Option.bind_some, Option.bind_some, addc_eq (by omega), Option.bind_some, Int.toNat_natCast]
    have e : (⟨firstM o.r0 + lastM o.r0 - (o.r0.table.reverse.getD k default).min, (o.r0.table.reverse.getD k default).h⟩ : Water) = mir (firstM o.r0 + lastM o.r0) (o.r0.table.reverse.getD k default) := rfl
    rw [e, hs]
    rfl) (by
    unfold m_laurellaw01_TideMirrored_L0
    dsimp only
    rw [hlen, if_neg (by omega), ← hlen, mapst_end]
    rfl) FU (FU_lt (by omega))
  have hz : (⟨0, o.r0.table.reverse⟩ : m_laurellaw01_TideMirrored_S0) = (fun k : Nat => (⟨(k : Int), mapst (mir (firstM o.r0 + lastM o.r0)) o.r0.table.reverse k⟩ : m_laurellaw01_TideMirrored_S0)) 0 := by
    simp [mapst_zero]
  rw [hz, key]
def allP (n : Nat) : List Int := (List.range n).map fun p : Nat => (p : Int)
theorem mirrored_L1 {o : m_laurellaw01_Made_R} (hG : Good o.r0) : iterM FU (m_laurellaw01_TideMirrored_L1 o) ⟨0, []⟩ = some (allP o.r0.floors.length) := by
  have hfl := hG.fl
  have key := iterM_run (f := m_laurellaw01_TideMirrored_L1 o) (b := allP o.r0.floors.length) (fun k : Nat => (⟨(k : Int), allP k⟩ : m_laurellaw01_TideMirrored_S1)) o.r0.floors.length (fun k hk => by
    unfold m_laurellaw01_TideMirrored_L1
    dsimp only
    rw [if_pos (by omega), appc_eq (by simp [allP]; omega), Option.bind_some, addc_eq (by omega), Option.bind_some]
    unfold allP
    rw [List.range_succ, List.map_append]
    rfl) (by
    unfold m_laurellaw01_TideMirrored_L1
    dsimp only
    rw [if_neg (by omega)]) FU (FU_lt (by omega))
  exact key
theorem heightR_good {s : Sands} (hG : Good s) {m : Int} (hd : dayF s m = true) : HeightR s m = (heightF s m, 0) := by
  unfold HeightR
  rw [check_of_good hG, hd]
  rfl
theorem allR_good {s : Sands} (hG : Good s) {m : Int} (hd : dayF s m = true) : AllR s m = ((List.range s.floors.length).map (fun p => stateF s m (p : Nat)), 0) := by
  unfold AllR
  rw [check_of_good hG, hd]
  rfl
theorem mirrored_L2 {o : m_laurellaw01_Made_R} (hG : Good o.r0) {m : Int} (hd : dayF o.r0 m = true) : m_laurellaw01_TideMirrored_L2 o (mirT o.r0).table o.r0 m = some (.inl (m + 1)) := by
  have htl := hG.tl
  have hfl := hG.fl
  have hds := day_span hG
  have hS := Good.short hG
  have hG' := mir_good hG
  have hS' := Good.short hG'
  have hd' := hd
  simp only [dayF, inr_iff] at hd'
  have hd2 := mir_day hG hd
  have e : (⟨(mirT o.r0).table, o.r0.wind, o.r0.floors, o.r0.sills⟩ : Sands) = mirT o.r0 := rfl
  have hall : AllR (mirT o.r0) (firstM o.r0 + lastM o.r0 - m) = AllR o.r0 m := by
    rw [allR_good hG hd, allR_good hG' hd2]
    have : (fun p : Nat => stateF (mirT o.r0) (firstM o.r0 + lastM o.r0 - m) (p : Nat)) = fun p : Nat => stateF o.r0 m (p : Nat) := by
      funext p; exact mir_state hG hd
    rw [this]
    rfl
  unfold m_laurellaw01_TideMirrored_L2
  rw [lawlast_eq hS (by omega), Option.bind_some, if_pos (by omega), lawfirst_eq (by omega), Option.bind_some, Option.bind_some, addc_eq (by omega), Option.bind_some, subc_eq (by omega), Option.bind_some, e, x_Height_eq hS, Option.bind_some, x_Height_eq hS', Option.bind_some, x_All_eq hS, Option.bind_some, x_All_eq hS', Option.bind_some, hall,
    heightR_good hG hd, heightR_good hG' hd2, mir_height hG hd, allR_good hG hd]
  dsimp only
  rw [if_pos rfl, if_pos rfl, if_pos rfl, if_pos rfl, if_pos rfl, equal_state _ (by simp; omega), Option.bind_some, Option.bind_some, if_neg (by decide), addc_eq (by omega), Option.bind_some]
theorem longestR_good {s : Sands} (hG : Good s) {pl : List Int} (hp : pl.all (isPlace s) = true) : LongestR s pl = if spansF s (allDry s pl) = [] then (⟨0, 0⟩, 6) else (maxSpan (spansF s (allDry s pl)), 0) := by
  unfold LongestR
  rw [check_of_good hG, hp, if_neg (by simp), if_neg (by simp)]
/-- TideMirrored is true of all bytes -/
theorem mirrored_true {l : List Int} (hl : l.length ≤ 9223372036854775807) : m_laurellaw01_TideMirrored l = some true := by
  unfold m_laurellaw01_TideMirrored
  obtain ⟨o, ho, hM, _⟩ := made_ok (r := 0) hl (p := 0) ⟨Int.le_refl _, .inr rfl⟩ (pl := 6) (sl := 9) (by omega) (by omega)
  have hG := MadeOK.good hM (by omega) (by omega)
  have hS := Good.short hG
  have htl := hG.tl
  have hfl := hG.fl
  have hds := day_span hG
  have hG' := mir_good hG
  have hS' := Good.short hG'
  rw [pile_eqM, Option.bind_some, ho, Option.bind_some, own_eq hS, Option.bind_some, reverse_eq (by omega), Option.bind_some, mirrored_L0 hG, Option.bind_some, mirrored_L1 hG, Option.bind_some, lawfirst_eq (by omega), Option.bind_some]
  have hL : iterM FU (m_laurellaw01_TideMirrored_L2 o (mirT o.r0).table o.r0) (firstM o.r0) = some (.inl ()) := by
    have key := iterM_any (f := m_laurellaw01_TideMirrored_L2 o (mirT o.r0).table o.r0) (firstM o.r0) (dayN o.r0) (fun _ => false) (fun _ => false) (fun k hk => by
      unfold dayN at hk
      exact mirrored_L2 hG (by simp only [dayF, inr_iff]; omega)) (by
      unfold dayN m_laurellaw01_TideMirrored_L2
      rw [lawlast_eq hS (by omega), Option.bind_some, if_neg (by omega)]) (N := FU) (FU_lt (by unfold dayN; omega))
    rw [key]
    have : (List.range (dayN o.r0)).find? (fun _ => false) = none := by simp
    rw [this]
  have e : (⟨(mirT o.r0).table, o.r0.wind, o.r0.floors, o.r0.sills⟩ : Sands) = mirT o.r0 := rfl
  have hap : (allP o.r0.floors.length).all (isPlace o.r0) = true := by
    rw [List.all_eq_true]
    intro x hx
    obtain ⟨p, hp, rfl⟩ := List.mem_map.1 hx
    have : p < o.r0.floors.length := by simpa using hp
    exact isPlace_iff.2 ⟨by omega, by omega⟩
  have hap' : (allP o.r0.floors.length).all (isPlace (mirT o.r0)) = true := hap
  have hlen : (allP o.r0.floors.length).length ≤ 1000 := by simp [allP]; omega
  have hdry : ∀ m, dayF o.r0 m = true → allDry (mirT o.r0) (allP o.r0.floors.length) (firstM o.r0 + lastM o.r0 - m) = allDry o.r0 (allP o.r0.floors.length) m := fun m hd => by
    unfold allDry
    have : (fun p : Int => decide (stateF (mirT o.r0) (firstM o.r0 + lastM o.r0 - m) p = 0)) = fun p : Int => decide (stateF o.r0 m p = 0) := by
      funext p; rw [mir_state hG hd]
    rw [this]
  have hmx := max_same hG hG' (mir_first hG) (mir_last hG) (p := allDry o.r0 (allP o.r0.floors.length)) (q := allDry (mirT o.r0) (allP o.r0.floors.length)) (fun m hd h => by rw [hdry m hd]; exact h) (fun m hd h => by
    have hd2 : dayF o.r0 (firstM o.r0 + lastM o.r0 - m) = true := by
      simp only [dayF, inr_iff] at hd ⊢; omega
    have := hdry _ hd2
    rw [show firstM o.r0 + lastM o.r0 - (firstM o.r0 + lastM o.r0 - m) = m by omega] at this
    rw [← this]; exact h)
  rw [hL, Option.bind_some, oc_inl, longest_eq hS hlen, Option.bind_some, e, longest_eq hS' hlen, Option.bind_some]
  rw [longestR_good hG hap, longestR_good hG' hap']
  by_cases he : spansF o.r0 (allDry o.r0 (allP o.r0.floors.length)) = []
  · rw [if_pos he, if_pos (hmx.1.1 he)]
    dsimp only
    rw [if_pos rfl, subc_eq (by omega), Option.bind_some, Option.bind_some, if_pos rfl, x_awake_eq, Option.bind_some, Option.bind_some]
  · have he' : spansF (mirT o.r0) (allDry (mirT o.r0) (allP o.r0.floors.length)) ≠ [] := fun h => he (hmx.1.2 h)
    have hr := (spans_runs hG (p := allDry o.r0 (allP o.r0.floors.length))).1 _ (maxSpan_spec he).1
    have hr' := (spans_runs hG' (p := allDry (mirT o.r0) (allP o.r0.floors.length))).1 _ (maxSpan_spec he').1
    have hds' := day_span hG'
    have h3 := hmx.2 he
    rw [if_neg he, if_neg he']
    dsimp only
    rw [if_pos rfl, subc_eq (by omega), Option.bind_some, subc_eq (by omega), Option.bind_some, if_pos h3, x_awake_eq, Option.bind_some, Option.bind_some]
end Go.Proofs.Wk

namespace Go.Gx
open Go Go.Fw Go.RowKit
/-! ### arguments, as they come in -/
section
variable {H : Type} {enc : TypeId × Value → H} {P : Program} {w : World} {base : Nat} {sp : Nat → Bool} {held : Bool}
/-- what of this type comes in is, cell by cell, a value of this row -/
def Opens (enc : TypeId × Value → H) (P : Program) (w : World) (base : Nat) (sp : Nat → Bool) (held : Bool) {α : Type} (R : Row α) (wf : α → Prop) (t : TypeId) : Prop :=
  ∀ fuel cs x, DataW.trod enc P w base sp held fuel t cs = some x → ∃ a, cs = R.cells a ∧ wf a
def u8P (n : Int) : Prop := 0 ≤ n ∧ n ≤ 255
theorem wf_u8P {n : Int} (h : (Lit.int .u8 n).wf = true) : u8P n := by
  simp [Lit.wf, IntKind.min, IntKind.max, IntKind.signed, IntKind.bits] at h
  unfold u8P; omega
theorem opens_u8 {t : TypeId} (ht : P.underlying t = some (.int .u8)) : Opens enc P w base sp held RU8 u8P t := fun fuel cs x h => by
  obtain ⟨n, rfl, _, hw⟩ := DataW.trod_int ht h
  exact ⟨n, rfl, wf_u8P hw⟩
/-- a field of a struct, by its cells -/
theorem fieldAt {fs : Array Field} {t : TypeId} {fuel : Nat} {cs : List Value} {x : DataW H × List MemPlace} (ht : P.underlying t = some (.struct fs)) (h : DataW.trod enc P w base sp held fuel t cs = some x) {α : Type} {R : Row α} {wf : α → Prop} (i : Nat) {T o k : Nat}
    (hf : (fs[i]?).map (fun fd => (fd.type, fd.offset)) = some (T, o)) (hk : P.cellsOf T = k) (hR : Opens enc P w base sp held R wf T) : ∃ a, (cs.drop o).take k = R.cells a ∧ wf a := by
  obtain ⟨xs, n, rfl, _, hlen, hxl, hx⟩ := DataW.trod_struct ht h
  obtain ⟨fd, hfd, he⟩ : ∃ fd, fs[i]? = some fd ∧ (fd.type, fd.offset) = (T, o) := by
    cases hh : fs[i]? with
    | none => simp [hh] at hf
    | some fd => exact ⟨fd, rfl, by simpa [hh] using hf⟩
  simp only [Prod.mk.injEq] at he
  obtain ⟨rfl, rfl⟩ := he
  have h1 := hx i fd hfd
  rw [hk] at h1
  have hi : i < xs.length := by rw [hxl]; exact (Array.getElem?_eq_some_iff.1 hfd).1
  rw [List.getElem?_eq_getElem hi] at h1
  exact hR _ _ _ h1
/-- a slice that came in -/
structure SlIn {α : Type} (R : Row α) (wf : α → Prop) (w : World) (v : Value) (A : Option Addr) (n c : Nat) (l : List α) : Prop where
  val : v = .slice A n c
  len : l.length = n
  ok : AOK n A
  le : n ≤ c
  max : c ≤ maxLen
  seg : segOK w (aB A, aO A, R.enc l)
  wf : ∀ x, x ∈ l → wf x
theorem choose_list {α : Type} {p : Nat → α → Prop} : ∀ (n : Nat), (∀ i, i < n → ∃ a, p i a) → ∃ l : List α, l.length = n ∧ ∀ i (h : i < l.length), p i l[i]
  | 0, _ => ⟨[], rfl, fun i h => by simp at h⟩
  | n + 1, h => by
    obtain ⟨l, hl, hp⟩ := choose_list n (fun i hi => h i (by omega))
    obtain ⟨a, ha⟩ := h n (by omega)
    refine ⟨l ++ [a], by simp [hl], fun i hi => ?_⟩
    by_cases hil : i < l.length
    · rw [List.getElem_append_left hil]; exact hp i hil
    · have : i = l.length := by simp at hi; omega
      subst this
      rw [List.getElem_append_right (by omega)]
      simp only [Nat.sub_self, List.getElem_cons_zero]
      rw [hl]; exact ha
theorem openSl {α : Type} {R : Row α} {wf : α → Prop} {t e : TypeId} (ht : P.underlying t = some (.slice e)) (hc : P.cellsOf e = R.sz) (hR : Opens enc P w base sp held R wf e) (h0 : Nat.blt 0 R.sz = true)
    {fuel : Nat} {cs : List Value} {x : DataW H × List MemPlace} (h : DataW.trod enc P w base sp held fuel t cs = some x) : ∃ (v : Value) (A : Option Addr) (n c : Nat) (l : List α), cs = [v] ∧ SlIn R wf w v A n c l := by
  have hsz : 0 < R.sz := by simpa using h0
  rcases Go.Deep.open_slice ht h with ⟨rfl, _⟩ | ⟨a, len, cap, m, n, D, Pl, rfl, hb, hl, hm, hmm, _, hi⟩
  · exact ⟨_, none, 0, 0, [], rfl, rfl, rfl, AOK.nil, Nat.le_refl _, Nat.zero_le _, segOK.nil, by simp⟩
  · have hlm : len ≤ m := by rw [hmm]; split <;> omega
    have hcell : ∀ i, i < len → ∃ x : α, (∀ f (hf : f < (R.cells x).length), w.cell? (a.add (i * R.sz + f)) = some (R.cells x)[f]) ∧ wf x := fun i hil => by
      obtain ⟨cs', h1, h2⟩ := hi i (by omega)
      obtain ⟨x, rfl, hw⟩ := hR _ _ _ h2
      obtain ⟨_, _, hat⟩ := World.cells?_some h1
      refine ⟨x, fun f hf => ?_, hw⟩
      have := hat f (by rw [hc, ← R.len x]; exact hf)
      rw [hc] at this
      rw [List.getElem?_eq_getElem hf] at this
      have e : (a.add (i * R.sz)).add f = a.add (i * R.sz + f) := by
        unfold Addr.add
        by_cases h1 : i * R.sz = 0
        · simp [h1]
        · by_cases h2 : f = 0
          · simp [h2]
          · simp [h1, h2, Nat.add_assoc]
      rw [e] at this
      exact this
    obtain ⟨l, hll, hlp⟩ := choose_list len hcell
    have hspot : 0 < len → a.spot = none := fun h0 => by
      obtain ⟨x, hx, _⟩ := hcell 0 h0
      have := World.cell?_spot (hx 0 (by rw [R.len]; exact hsz))
      simpa [Addr.add] using this
    refine ⟨_, some a, len, cap, l, rfl, rfl, hll, fun h0 => ?_, hl, hm, fun j hj => ?_, fun x hx => ?_⟩
    · obtain ⟨b, o, s⟩ := a
      have := hspot h0
      simp only at this
      subst this
      exact ⟨b, o, rfl⟩
    · have hj' : j < l.length * R.sz := by rw [← R.enc_len]; exact hj
      have hpos : 0 < len := by
        rcases Nat.eq_zero_or_pos len with h | h
        · rw [hll, h, Nat.zero_mul] at hj'; omega
        · exact h
      obtain ⟨b, o, s⟩ := a
      have hs := hspot hpos
      simp only at hs
      subst hs
      have hq : j / R.sz < l.length := Nat.div_lt_of_lt_mul (by rw [Nat.mul_comm]; exact hj')
      have hr : j % R.sz < R.sz := Nat.mod_lt _ hsz
      have hd : j / R.sz * R.sz + j % R.sz = j := by rw [Nat.mul_comm]; exact Nat.div_add_mod j R.sz
      have h1 := (hlp (j / R.sz) hq).1 (j % R.sz) (by rw [R.len]; exact hr)
      rw [hd] at h1
      have h2 := R.enc_get l (j / R.sz) (j % R.sz) l[j / R.sz] (List.getElem?_eq_getElem hq) hr
      rw [hd] at h2
      have h3 : (⟨b, o, none⟩ : Addr).add j = ⟨b, o + j, none⟩ := addr_add b o j
      rw [h3] at h1
      simp only [aB, aO, Option.map_some, Option.getD_some]
      rw [h1, ← List.getElem?_eq_getElem, ← h2, List.getElem?_eq_getElem hj]
    · obtain ⟨i, hi', rfl⟩ := List.getElem_of_mem hx
      exact (hlp i hi').2
theorem HV.begin {ro : List Sg} (h : ∀ s, s ∈ ro → segOK w s) : HV w (keys [] []) [] [] ro w :=
  ⟨rfl, rfl, rfl, Nat.le_refl _, fun _ _ _ => rfl, by simp [vbl], by simp [vbl], by simp [vbl], h, by simp [vbl]⟩
theorem segCons {s : Sg} {ro : List Sg} (h : segOK w s) (hr : ∀ t, t ∈ ro → segOK w t) : ∀ t, t ∈ s :: ro → segOK w t := fun t ht => by
  rcases List.mem_cons.1 ht with rfl | ht
  · exact h
  · exact hr t ht
theorem segNil : ∀ t, t ∈ ([] : List Sg) → segOK w t := fun t ht => by cases ht
theorem HV.below {w' : World} (h : HV w (keys [] []) [] [] [] w') : Below w.heap.size w w' := by
  have : Ext [] w w' := HS.toExt h
  exact this.below
end
end Go.Gx

namespace Go.Proofs.Wk
open Go Go.Fw Go.Gx Go.Pl Go.RowKit
section
variable {H : Type} {enc : TypeId × Value → H} {w : World} {base : Nat} {sp : Nat → Bool} {held : Bool}
end
end Go.Proofs.Wk
namespace Go.Proofs.Wk
open Go Go.Gx
theorem opU8 {H : Type} {enc : TypeId × Value → H} {w : World} {base : Nat} {sp : Nat → Bool} {held : Bool} : Opens enc Try.prog w base sp held RU8 u8P 5 := opens_u8 Try.underlying5
end Go.Proofs.Wk

