/- What the functions that the law TideStates reaches come to, and why it holds: part 6. -/
import Derived.Test.YtaicfimbclibpaaTideStates5
namespace Go.Proofs.Wk
open Go Go.Fw Go.Gx Go.Pl
set_option linter.unusedVariables false
structure m_laurelref01_Says_S0 where
  i9 : Int
  out7 : (List Bool)
def m_laurelref01_Says_L0 (t11 : (List Int)) (s0 : Sands) (gate1 : Int) (state2 : Int) (s : m_laurelref01_Says_S0) : Option (m_laurelref01_Says_S0 ⊕ (List Bool)) :=
 if s.i9 < (t11.length : Int) then
 ((ix t11 s.i9).bind fun t22 =>
 (m_laurelref01_State s0 t22 gate1).bind fun t25 =>
 (appc 1 s.out7 [(decide (t25 = state2))]).bind fun t29 =>
 (addc s.i9 1).bind fun t17 =>
 some (.inl (⟨t17, t29⟩ : m_laurelref01_Says_S0))) else
 (some (.inr s.out7))
def m_laurelref01_Says (s0 : Sands) (gate1 : Int) (state2 : Int) : Option (List Bool) :=
 (m_laurelref01_Heights s0).bind fun t11 =>
 (iterM FU (m_laurelref01_Says_L0 t11 s0 gate1 state2) (⟨0, []⟩ : m_laurelref01_Says_S0)).bind fun o =>
 some o
set_option maxRecDepth 100000 in
set_option maxHeartbeats 4000000 in
theorem c_laurelref01_Says (s0 : Sands) (gate1 : Int) (state2 : Int) (qa0 : Option Addr) (na0 ca0 : Nat) (qa1 : Option Addr) (na1 ca1 : Nat) (qa2 : Option Addr) (na2 ca2 : Nat) (w : World) (hw : HV w (keys [] []) [] [] [(aB qa0, aO qa0, RW.enc s0.table), (aB qa1, aO qa1, RI.enc s0.floors), (aB qa2, aO qa2, RS.enc s0.sills)] w) (hna0 : s0.table.length = na0) (hqa0 : AOK na0 qa0) (hla0 : na0 ≤ ca0) (hna1 : s0.floors.length = na1) (hqa1 : AOK na1 qa1) (hla1 : na1 ≤ ca1) (hna2 : s0.sills.length = na2) (hqa2 : AOK na2 qa2) (hla2 : na2 ≤ ca2) {res : (List Bool)} (hm : m_laurelref01_Says s0 gate1 state2 = some res) :
    Calls Try.prog 49 #[.agg #[.slice qa0 na0 ca0, .int .i64 s0.wind.lo, .int .i64 s0.wind.hi, .slice qa1 na1 ca1, .slice qa2 na2 ca2], .int .i64 gate1, .int .i64 state2] w (fun en w' => ∃ l : VL, en = .returned (slv l.q l.n l.cap) ∧ (VOK 1 l.n l.cap (RB.enc res) l.sp l.q) ∧ HV w (keys [] []) [] [⟨4, RB.enc res, l.sp, l.q⟩] [] w') := by
  unfold m_laurelref01_Says at hm
  refine g_enter (args := [.agg #[.slice qa0 na0 ca0, .int .i64 s0.wind.lo, .int .i64 s0.wind.hi, .slice qa1 na1 ca1, .slice qa2 na2 ca2], .int .i64 gate1, .int .i64 state2]) Try.func49 rfl Try.ntmps49 rfl (e := [(0, _), (1, _), (2, _)]) rfl (H := HV w (keys [] []) [] [] [(aB qa0, aO qa0, RW.enc s0.table), (aB qa1, aO qa1, RI.enc s0.floors), (aB qa2, aO qa2, RS.enc s0.sills)]) hw ?_
  refine g_seq ?_
  refine g_region ?_
  refine g_boxV rfl rfl (fun b h2 => ?_)
  refine g_val rfl rfl rfl (fun _ _ => v_nilS rfl) ?_
  refine g_nil ?_
  refine g_n_then ?_
  refine g_seq ?_
  refine g_region ?_
  refine g_val rfl rfl rfl (fun _ _ => v_nilS rfl) ?_
  refine g_nil ?_
  refine g_n_then ?_
  refine g_seq ?_
  refine g_region ?_
  refine g_val rfl rfl rfl (fun w hh => v_loadAgg (vs := [_, _, _, _, _]) (Try.isAgg59 w) (Try.sizeOf59 w) rfl (hh.cells 0 rfl rfl)) ?_
  obtain ⟨t11, h3, hm⟩ := bindO hm
  refine g_callH [] [] rfl rfl rfl rfl rfl rfl rfl (fun a w => Try.call120 a w) (fun w hh => c_laurelref01_Heights s0 qa0 na0 ca0 qa1 na1 ca1 qa2 na2 ca2 w (HV.callee (S0 := []) (vs0 := []) hh (roC (hh.rsep (S0 := []) (vs0 := []) 0 rfl) (roC (hh.rsep (S0 := []) (vs0 := []) 1 rfl) (roC (hh.rsep (S0 := []) (vs0 := []) 2 rfl) roN)))) hna0 hqa0 hla0 hna1 hqa1 hla1 hna2 hqa2 hla2 h3) (fun l h4 => ?_)
  have h5 := h4
  refine g_sel (S' := [_]) (vs' := [_]) [0] [0] 0 (by decide) (by decide) rfl rfl rfl ?_
  refine g_val rfl rfl rfl (fun _ _ => v_assign rfl) ?_
  refine g_nil ?_
  refine g_n_then ?_
  refine g_seq ?_
  refine g_seq ?_
  refine g_region ?_
  refine g_val rfl rfl rfl (fun _ _ => v_assign rfl) ?_
  refine g_nil ?_
  refine g_n_then ?_
  refine g_vnil 4 ?_
  obtain ⟨o, h6, h7⟩ := bindO hm
  refine g_cut (ι := VL) (fun l_1 => VOK 1 l_1.n l_1.cap (RB.enc o) l_1.sp l_1.q) (fun l_1 => [(7, slv l_1.q l_1.n l_1.cap)]) (fun l_1 => [(b, .cells #[.slice qa0 na0 ca0, .int .i64 s0.wind.lo, .int .i64 s0.wind.hi, .slice qa1 na1 ca1, .slice qa2 na2 ca2] 59 (0, 0))]) (fun l_1 => [⟨4, RB.enc o, l_1.sp, l_1.q⟩]) ?_ ?_
  ·replace hm := h6
   refine g_block ?_
   refine g_loopF (ι := VL) hm (fun s l_2 => VOK 1 l_2.n l_2.cap (RB.enc s.out7) l_2.sp l_2.q) (fun s l_2 => [(1, .int .i64 gate1), (2, .int .i64 state2), (3, ptr b 0), (7, slv l_2.q l_2.n l_2.cap), (8, slv l.q l.n l.cap), (9, .int .i64 s.i9)]) (fun s l_2 => [(b, .cells #[.slice qa0 na0 ca0, .int .i64 s0.wind.lo, .int .i64 s0.wind.hi, .slice qa1 na1 ca1, .slice qa2 na2 ca2] 59 (0, 0))]) (fun s l_2 => [⟨4, RB.enc s.out7, l_2.sp, l_2.q⟩, ⟨3, RI.enc t11, l.sp, l.q⟩]) ⟨none, 0, 0, []⟩ (VOK.nil) ((.cons rfl (.cons rfl (.cons rfl (.cons rfl (.cons rfl (.cons rfl .nil))))))) (fun w hh => hh) (fun s l_2 r hpl hm h10 => ?_)
   have h9 := hpl
   unfold m_laurelref01_Says_L0 at hm
   refine g_seq ?_
   refine g_seq ?_
   refine g_region ?_
   refine g_val rfl rfl rfl (fun _ _ => v_move rfl) ?_
   refine g_val rfl rfl rfl (fun _ _ => v_move rfl) ?_
   refine g_val rfl rfl rfl (fun w _ => v_lenN (vlen RI h5 rfl) (Try.runUnderlying26 w) rfl) ?_
   refine g_val rfl rfl rfl (fun _ _ => v_lss rfl rfl) ?_
   refine g_nil ?_
   refine g_n_then ?_
   refine g_cond rfl (fun h11 => ?_) (fun h11 => ?_)
   ·replace hm := ifT (of_decide_eq_true h11) hm
    refine g_skip ?_
    refine g_n_then ?_
    refine g_seq ?_
    refine g_block ?_
    refine g_draw none (.free 0 (.hoist 1 (.free 2 (.free 3 (.free 4 (.hoist 5 (.free 6 (.free 8 (.one 7 (.free 9 (.one 10 (.one 11 (.free 12 .done))))))))))))) (HV _ _ [(b, .cells #[.slice qa0 na0 ca0, .int .i64 s0.wind.lo, .int .i64 s0.wind.hi, .slice qa1 na1 ca1, .slice qa2 na2 ca2] 59 (0, 0))] [⟨3, RI.enc t11, l.sp, l.q⟩] _) rfl (by decide +kernel) (fun w k hh => hh.draw k) (fun w hh => hh.sel [0] [1] 0 (by decide) (by decide) rfl rfl rfl) ?_
    refine p_free rfl rfl rfl rfl (fun _ _ => v_move rfl) ?_
    refine p_hoist rfl rfl rfl rfl (fun w hh => v_loadAgg (vs := [_, _, _, _, _]) (Try.isAgg59 w) (Try.sizeOf59 w) rfl (hh.cells 0 rfl rfl)) ?_
    refine p_free rfl rfl rfl rfl (fun _ _ => v_move rfl) ?_
    refine p_free rfl rfl rfl rfl (fun _ _ => v_move rfl) ?_
    obtain ⟨t22, h12, hm⟩ := bindO hm
    refine p_free rfl rfl rfl rfl (fun w _ => v_ixA h12 (Try.runUnderlying26 w) (Try.sizeOf3 w) rfl rfl (vlen RI h5 rfl) (vne h5)) ?_
    refine p_hoist rfl rfl rfl rfl (fun w hh => v_ldE RI 0 h12 (Try.isAgg3 w) rfl (hh.vseg 0 rfl h5) rfl (Nat.add_zero _).symm) ?_
    refine p_free rfl rfl rfl rfl (fun _ _ => v_move rfl) ?_
    refine p_free rfl rfl rfl rfl (fun _ _ => v_move rfl) ?_
    refine p_one rfl ?_
    obtain ⟨t25, h13, hm⟩ := bindO hm
    refine g_callH [] [] rfl rfl rfl rfl rfl rfl rfl (fun a w => Try.call45 a w) (fun w hh => c_laurelref01_State s0 t22 gate1 qa0 na0 ca0 qa1 na1 ca1 qa2 na2 ca2 w (HV.callee (S0 := []) (vs0 := []) hh (roC (hh.rsep (S0 := []) (vs0 := []) 0 rfl) (roC (hh.rsep (S0 := []) (vs0 := []) 1 rfl) (roC (hh.rsep (S0 := []) (vs0 := []) 2 rfl) roN)))) hna0 hqa0 hla0 hna1 hqa1 hla1 hna2 hqa2 hla2 h13) (fun l_3 h14 => ?_)
    refine p_next (fun w hh => hh.sel [0] [1] 0 (by decide) (by decide) rfl rfl rfl) ?_
    refine p_free rfl rfl rfl rfl (fun _ _ => v_eql rfl rfl) ?_
    refine p_one rfl ?_
    refine g_vlit RB [(decide (t25 = state2))] (ps := [(0, _)]) (cells := [_]) (fun w => Try.runUnderlying81 w) (fun w => Try.sizeOf4 w) (fun w => Try.zeroValue4 w) rfl rfl rfl rfl rfl rfl rfl rfl (fun L h15 => ?_)
    refine p_next (fun w hh => hh.sel [0] [2] 0 (by decide) (by decide) rfl rfl rfl) ?_
    refine p_one rfl ?_
    obtain ⟨t29, h16, hm⟩ := bindO hm
    refine g_vapp RB 1 h16 Try.underlying81 gxinf4 rfl rfl rfl rfl rfl h9 rfl rfl (vlen RB h15 rfl) (AOK.q (vne h15)) (fun w hh => (hh.vsegA 0 rfl h15)) rfl (fun L_1 h17 h17n => ?_)
    refine g_sel (S' := [_]) (vs' := [_, _, _]) [0] [0, 1, 2] 0 (by decide) (by decide) rfl rfl rfl ?_
    refine p_next (fun w hh => hh.sel [0] [2] 0 (by decide) (by decide) rfl rfl rfl) ?_
    refine p_free rfl rfl rfl rfl (fun _ _ => v_assign rfl) ?_
    refine p_done ?_
    refine g_n_blk ?_
    refine g_n_then ?_
    refine g_region ?_
    refine g_val rfl rfl rfl (fun _ _ => v_move rfl) ?_
    obtain ⟨t17, h18, hm⟩ := bindO hm
    refine g_val rfl rfl rfl (fun _ _ => v_addc h18 rfl rfl) ?_
    refine g_val rfl rfl rfl (fun _ _ => v_assign rfl) ?_
    refine g_nil ?_
    obtain rfl := Option.some.inj hm
    refine g_n_then ?_
    exact g_again' _ L_1 rfl (h17) ((.cons rfl (.cons rfl (.cons rfl (.cons rfl (.cons rfl (.cons rfl .nil))))))) (fun w hh => hh.sel [0] [1, 2] 0 (by decide) (by decide) rfl rfl rfl)
   ·replace hm := ifF (of_decide_eq_false h11) hm
    refine g_exit ?_
    refine g_x_then ?_
    refine g_x_then ?_
    refine g_x_blk ?_
    obtain rfl := Option.some.inj hm
    have hbo := h10 _ rfl
    subst hbo
    exact g_leaf l_2 (h9) ((.cons rfl .nil)) (fun w hh => hh.sel [0] [0] 0 (by decide) (by decide) rfl rfl rfl)
  ·intro l_1 hj
   have h8 := hj
   replace hm := h7
   refine g_n_then ?_
   refine g_seq ?_
   refine g_region ?_
   refine g_val rfl rfl rfl (fun _ _ => v_move rfl) ?_
   refine g_val rfl rfl rfl (fun _ _ => v_assign rfl) ?_
   refine g_nil ?_
   refine g_n_then ?_
   refine g_ret ?_
   obtain rfl := Option.some.inj hm
   refine g_done rfl (fun w hh => (.tmp rfl .nil)) (fun w hh => ⟨l_1, rfl, h8, hh.sel [] [0] 3 (by decide) (by decide) rfl rfl rfl⟩)
end Go.Proofs.Wk
namespace Go.Proofs.Wk
open Go Go.Fw Go.Gx Go.Pl
set_option linter.unusedVariables false
structure m_laurelref01_Run_R where
  r0 : Span
  r1 : Bool
def m_laurelref01_Run_L0 (says1 : (List Bool)) (s : Int) : Option (Int ⊕ Int) :=
 (if 0 < s then
 ((subc s 1).bind fun t28 =>
 (ix says1 t28).bind fun t29 =>
 some t29) else
 (some false)).bind fun o_1 =>
 if o_1 = true then
 ((subc s 1).bind fun t33 =>
 some (.inl t33)) else
 (some (.inr s))
def m_laurelref01_Run_L1 (says1 : (List Bool)) (s_1 : Int) : Option (Int ⊕ Int) :=
 ((subc (says1.length : Int) 1).bind fun t37 =>
 if s_1 < t37 then
 ((addc s_1 1).bind fun t42 =>
 (ix says1 t42).bind fun t43 =>
 some t43) else
 (some false)).bind fun o_3 =>
 if o_3 = true then
 ((addc s_1 1).bind fun t47 =>
 some (.inl t47)) else
 (some (.inr s_1))
def m_laurelref01_Run (s0 : Sands) (says1 : (List Bool)) (minute2 : Int) : Option m_laurelref01_Run_R :=
 (m_laurelref01_First s0).bind fun t13 =>
 (subc minute2 t13).bind fun t14 =>
 (ix says1 t14).bind fun t17 =>
 if (!t17) = true then
 (some (⟨(⟨0, 0⟩ : Span), false⟩ : m_laurelref01_Run_R)) else
 ((iterM FU (m_laurelref01_Run_L0 says1) t14).bind fun o =>
 (iterM FU (m_laurelref01_Run_L1 says1) t14).bind fun o_2 =>
 (m_laurelref01_First s0).bind fun t49 =>
 (addc t49 o).bind fun t51 =>
 (m_laurelref01_First s0).bind fun t53 =>
 (addc t53 o_2).bind fun t55 =>
 some (⟨(⟨t51, t55⟩ : Span), true⟩ : m_laurelref01_Run_R))
set_option maxRecDepth 100000 in
set_option maxHeartbeats 4000000 in
theorem c_laurelref01_Run (s0 : Sands) (says1 : (List Bool)) (minute2 : Int) (qa0 : Option Addr) (na0 ca0 : Nat) (qa1 : Option Addr) (na1 ca1 : Nat) (qa2 : Option Addr) (na2 ca2 : Nat) (qa3 : Option Addr) (na3 ca3 : Nat) (w : World) (hw : HV w (keys [] []) [] [] [(aB qa0, aO qa0, RW.enc s0.table), (aB qa1, aO qa1, RI.enc s0.floors), (aB qa2, aO qa2, RS.enc s0.sills), (aB qa3, aO qa3, RB.enc says1)] w) (hna0 : s0.table.length = na0) (hqa0 : AOK na0 qa0) (hla0 : na0 ≤ ca0) (hna1 : s0.floors.length = na1) (hqa1 : AOK na1 qa1) (hla1 : na1 ≤ ca1) (hna2 : s0.sills.length = na2) (hqa2 : AOK na2 qa2) (hla2 : na2 ≤ ca2) (hna3 : says1.length = na3) (hqa3 : AOK na3 qa3) (hla3 : na3 ≤ ca3) {res : m_laurelref01_Run_R} (hm : m_laurelref01_Run s0 says1 minute2 = some res) :
    Calls Try.prog 73 #[.agg #[.slice qa0 na0 ca0, .int .i64 s0.wind.lo, .int .i64 s0.wind.hi, .slice qa1 na1 ca1, .slice qa2 na2 ca2], .slice qa3 na3 ca3, .int .i64 minute2] w (fun en w' => ∃ l : Unit, en = .returned (.tuple #[.agg #[.int .i64 res.r0.lo, .int .i64 res.r0.hi], .bool res.r1]) ∧ (True) ∧ HV w (keys [] []) [] [] [] w') := by
  unfold m_laurelref01_Run at hm
  refine g_enter (args := [.agg #[.slice qa0 na0 ca0, .int .i64 s0.wind.lo, .int .i64 s0.wind.hi, .slice qa1 na1 ca1, .slice qa2 na2 ca2], .slice qa3 na3 ca3, .int .i64 minute2]) Try.func73 rfl Try.ntmps73 rfl (e := [(0, _), (1, _), (2, _)]) rfl (H := HV w (keys [] []) [] [] [(aB qa0, aO qa0, RW.enc s0.table), (aB qa1, aO qa1, RI.enc s0.floors), (aB qa2, aO qa2, RS.enc s0.sills), (aB qa3, aO qa3, RB.enc says1)]) hw ?_
  refine g_seq ?_
  refine g_region ?_
  refine g_boxV rfl rfl (fun b h1 => ?_)
  refine g_allocV (fun w => Try.zeroValue25 w) rfl (fun b_1 h2 => ?_)
  refine g_val rfl rfl rfl (fun _ _ => v_assign rfl) ?_
  refine g_nil ?_
  refine g_n_then ?_
  refine g_seq ?_
  refine g_region ?_
  refine g_val rfl rfl rfl (fun _ _ => v_move rfl) ?_
  refine g_val rfl rfl rfl (fun w hh => v_loadAgg (vs := [_, _, _, _, _]) (Try.isAgg59 w) (Try.sizeOf59 w) rfl (hh.cells 1 rfl rfl)) ?_
  obtain ⟨t13, h3, hm⟩ := bindO hm
  refine g_callH [] [] rfl rfl rfl rfl rfl rfl rfl (fun a w => Try.call108 a w) (fun w hh => c_laurelref01_First s0 qa0 na0 ca0 qa1 na1 ca1 qa2 na2 ca2 w (HV.callee (S0 := []) (vs0 := []) hh (roC (hh.rsep (S0 := []) (vs0 := []) 0 rfl) (roC (hh.rsep (S0 := []) (vs0 := []) 1 rfl) (roC (hh.rsep (S0 := []) (vs0 := []) 2 rfl) roN)))) hna0 hqa0 hla0 hna1 hqa1 hla1 hna2 hqa2 hla2 h3) (fun l h4 => ?_)
  obtain ⟨t14, h5, hm⟩ := bindO hm
  refine g_val rfl rfl rfl (fun _ _ => v_subc h5 rfl rfl) ?_
  refine g_val rfl rfl rfl (fun _ _ => v_assign rfl) ?_
  refine g_nil ?_
  refine g_n_then ?_
  refine g_seq ?_
  refine g_seq ?_
  refine g_region ?_
  refine g_val rfl rfl rfl (fun _ _ => v_move rfl) ?_
  refine g_val rfl rfl rfl (fun _ _ => v_move rfl) ?_
  obtain ⟨t17, h6, hm⟩ := bindO hm
  refine g_val rfl rfl rfl (fun w _ => v_ixR h6 (Try.runUnderlying81 w) (Try.sizeOf4 w) rfl rfl hna3 hqa3) ?_
  refine g_val rfl rfl rfl (fun w hh => v_ldE RB 0 h6 (Try.isAgg4 w) rfl (hh.seg 3 rfl) rfl (Nat.add_zero _).symm) ?_
  refine g_val rfl rfl rfl (fun _ _ => v_not rfl) ?_
  refine g_nil ?_
  refine g_n_then ?_
  refine g_cond rfl (fun h7 => ?_) (fun h7 => ?_)
  ·replace hm := ifT (h7) hm
   refine g_seq ?_
   refine g_region ?_
   refine g_val rfl rfl rfl (fun _ _ => v_build (vs := []) (cells := [_, _]) rfl rfl) ?_
   refine g_stSA (us := #[_, _]) (cs' := [_, _]) (S' := [_, _]) 0 (fun w => Try.sizeOf25 w) rfl rfl rfl rfl rfl rfl rfl ?_
   refine g_val rfl rfl rfl (fun _ _ => v_assign rfl) ?_
   refine g_nil ?_
   refine g_n_then ?_
   refine g_ret ?_
   refine g_r_then ?_
   obtain rfl := Option.some.inj hm
   refine g_done rfl (fun w hh => (.cell rfl (loadVar_agg (vs := [_, _]) (Try.isAgg25 _) (Try.sizeOf25 _) (hh.cells 0 rfl rfl)) (.tmp rfl .nil))) (fun w hh => ⟨(), rfl, trivial, hh.sel [] [] 4 (by decide) (by decide) rfl rfl rfl⟩)
  ·replace hm := ifF ((fun hh => Bool.noConfusion ((h7).symm.trans hh))) hm
   refine g_skip ?_
   refine g_n_then ?_
   refine g_seq ?_
   refine g_region ?_
   refine g_val rfl rfl rfl (fun _ _ => v_move rfl) ?_
   refine g_val rfl rfl rfl (fun _ _ => v_move rfl) ?_
   refine g_val rfl rfl rfl (fun _ _ => v_assign rfl) ?_
   refine g_val rfl rfl rfl (fun _ _ => v_assign rfl) ?_
   refine g_nil ?_
   refine g_n_then ?_
   refine g_seq ?_
   obtain ⟨o, h8, h9⟩ := bindO hm
   refine g_cut (ι := Unit) (fun l_1 => True) (fun l_1 => [(1, .slice qa3 na3 ca3), (3, ptr b 0), (6, ptr b_1 0), (9, .int .i64 o), (10, .int .i64 t14)]) (fun l_1 => [(b_1, .cells #[.int .i64 0, .int .i64 0] 25 (0, 0)), (b, .cells #[.slice qa0 na0 ca0, .int .i64 s0.wind.lo, .int .i64 s0.wind.hi, .slice qa1 na1 ca1, .slice qa2 na2 ca2] 59 (0, 0))]) (fun l_1 => []) ?_ ?_
   ·replace hm := h8
    refine g_block ?_
    refine g_loopF (ι := Unit) hm (fun s l_2 => True) (fun s l_2 => [(1, .slice qa3 na3 ca3), (3, ptr b 0), (6, ptr b_1 0), (9, .int .i64 s), (10, .int .i64 t14)]) (fun s l_2 => [(b_1, .cells #[.int .i64 0, .int .i64 0] 25 (0, 0)), (b, .cells #[.slice qa0 na0 ca0, .int .i64 s0.wind.lo, .int .i64 s0.wind.hi, .slice qa1 na1 ca1, .slice qa2 na2 ca2] 59 (0, 0))]) (fun s l_2 => []) () (trivial) ((.cons rfl (.cons rfl (.cons rfl (.cons rfl (.cons rfl .nil)))))) (fun w hh => hh) (fun s l_2 r hpl hm h10 => ?_)
    unfold m_laurelref01_Run_L0 at hm
    refine g_seq ?_
    refine g_seq ?_
    obtain ⟨o_1, h11, h12⟩ := bindO hm
    refine g_cut (ι := Unit) (fun l_3 => True) (fun l_3 => [(1, .slice qa3 na3 ca3), (3, ptr b 0), (6, ptr b_1 0), (9, .int .i64 s), (10, .int .i64 t14), (31, .bool o_1)]) (fun l_3 => [(b_1, .cells #[.int .i64 0, .int .i64 0] 25 (0, 0)), (b, .cells #[.slice qa0 na0 ca0, .int .i64 s0.wind.lo, .int .i64 s0.wind.hi, .slice qa1 na1 ca1, .slice qa2 na2 ca2] 59 (0, 0))]) (fun l_3 => []) ?_ ?_
    ·replace hm := h11
     refine g_region ?_
     refine g_val rfl rfl rfl (fun _ _ => v_move rfl) ?_
     refine g_val rfl rfl rfl (fun _ _ => v_gtr rfl rfl) ?_
     refine g_val rfl rfl rfl (fun _ _ => v_move rfl) ?_
     refine g_case 25 rfl (fun h13 => ?_) (fun h13 => ?_)
     ·replace hm := ifT (of_decide_eq_true h13) hm
      refine v_unguard rfl rfl ?_
      refine g_val rfl rfl rfl (fun _ _ => v_move rfl) ?_
      refine v_unguard rfl rfl ?_
      refine g_val rfl rfl rfl (fun _ _ => v_move rfl) ?_
      refine v_unguard rfl rfl ?_
      obtain ⟨t28, h14, hm⟩ := bindO hm
      refine g_val rfl rfl rfl (fun _ _ => v_subc h14 rfl rfl) ?_
      refine v_unguard rfl rfl ?_
      obtain ⟨t29, h15, hm⟩ := bindO hm
      refine g_val rfl rfl rfl (fun w _ => v_ixR h15 (Try.runUnderlying81 w) (Try.sizeOf4 w) rfl rfl hna3 hqa3) ?_
      refine v_unguard rfl rfl ?_
      refine g_val rfl rfl rfl (fun w hh => v_ldE RB 0 h15 (Try.isAgg4 w) rfl (hh.seg 3 rfl) rfl (Nat.add_zero _).symm) ?_
      refine g_val rfl rfl rfl (fun _ _ => v_pickT rfl rfl) ?_
      refine g_nil ?_
      obtain rfl := Option.some.inj hm
      exact g_leaf () (trivial) ((.cons rfl (.cons rfl (.cons rfl (.cons rfl (.cons rfl (.cons rfl .nil))))))) (fun w hh => hh)
     ·replace hm := ifF (of_decide_eq_false h13) hm
      refine g_skipG rfl rfl rfl rfl rfl rfl ?_
      refine g_skipG rfl rfl rfl rfl rfl rfl ?_
      refine g_skipG rfl rfl rfl rfl rfl rfl ?_
      refine g_skipG rfl rfl rfl rfl rfl rfl ?_
      refine g_skipG rfl rfl rfl rfl rfl rfl ?_
      refine g_val rfl rfl rfl (fun _ _ => v_pickF rfl rfl) ?_
      refine g_nil ?_
      obtain rfl := Option.some.inj hm
      exact g_leaf () (trivial) ((.cons rfl (.cons rfl (.cons rfl (.cons rfl (.cons rfl (.cons rfl .nil))))))) (fun w hh => hh)
    ·intro l_3 hj
     replace hm := h12
     refine g_n_then ?_
     refine g_cond rfl (fun h16 => ?_) (fun h16 => ?_)
     ·replace hm := ifT (h16) hm
      refine g_skip ?_
      refine g_n_then ?_
      refine g_block ?_
      refine g_region ?_
      refine g_val rfl rfl rfl (fun _ _ => v_move rfl) ?_
      obtain ⟨t33, h17, hm⟩ := bindO hm
      refine g_val rfl rfl rfl (fun _ _ => v_subc h17 rfl rfl) ?_
      refine g_val rfl rfl rfl (fun _ _ => v_assign rfl) ?_
      refine g_nil ?_
      refine g_n_blk ?_
      obtain rfl := Option.some.inj hm
      refine g_n_then ?_
      exact g_again' _ () rfl (trivial) ((.cons rfl (.cons rfl (.cons rfl (.cons rfl (.cons rfl .nil)))))) (fun w hh => hh)
     ·replace hm := ifF ((fun hh => Bool.noConfusion ((h16).symm.trans hh))) hm
      refine g_exit ?_
      refine g_x_then ?_
      refine g_x_then ?_
      refine g_x_blk ?_
      obtain rfl := Option.some.inj hm
      have hbo := h10 _ rfl
      subst hbo
      exact g_leaf () (trivial) ((.cons rfl (.cons rfl (.cons rfl (.cons rfl (.cons rfl .nil)))))) (fun w hh => hh)
   ·intro l_1 hj
    replace hm := h9
    refine g_n_then ?_
    refine g_seq ?_
    obtain ⟨o_2, h18, h19⟩ := bindO hm
    refine g_cut (ι := Unit) (fun l_4 => True) (fun l_4 => [(3, ptr b 0), (6, ptr b_1 0), (9, .int .i64 o), (10, .int .i64 o_2)]) (fun l_4 => [(b_1, .cells #[.int .i64 0, .int .i64 0] 25 (0, 0)), (b, .cells #[.slice qa0 na0 ca0, .int .i64 s0.wind.lo, .int .i64 s0.wind.hi, .slice qa1 na1 ca1, .slice qa2 na2 ca2] 59 (0, 0))]) (fun l_4 => []) ?_ ?_
    ·replace hm := h18
     refine g_block ?_
     refine g_loopF (ι := Unit) hm (fun s_1 l_5 => True) (fun s_1 l_5 => [(1, .slice qa3 na3 ca3), (3, ptr b 0), (6, ptr b_1 0), (9, .int .i64 o), (10, .int .i64 s_1)]) (fun s_1 l_5 => [(b_1, .cells #[.int .i64 0, .int .i64 0] 25 (0, 0)), (b, .cells #[.slice qa0 na0 ca0, .int .i64 s0.wind.lo, .int .i64 s0.wind.hi, .slice qa1 na1 ca1, .slice qa2 na2 ca2] 59 (0, 0))]) (fun s_1 l_5 => []) () (trivial) ((.cons rfl (.cons rfl (.cons rfl (.cons rfl (.cons rfl .nil)))))) (fun w hh => hh) (fun s_1 l_5 r_1 hpl hm h20 => ?_)
     unfold m_laurelref01_Run_L1 at hm
     refine g_seq ?_
     refine g_seq ?_
     obtain ⟨o_3, h21, h22⟩ := bindO hm
     refine g_cut (ι := Unit) (fun l_6 => True) (fun l_6 => [(1, .slice qa3 na3 ca3), (3, ptr b 0), (6, ptr b_1 0), (9, .int .i64 o), (10, .int .i64 s_1), (45, .bool o_3)]) (fun l_6 => [(b_1, .cells #[.int .i64 0, .int .i64 0] 25 (0, 0)), (b, .cells #[.slice qa0 na0 ca0, .int .i64 s0.wind.lo, .int .i64 s0.wind.hi, .slice qa1 na1 ca1, .slice qa2 na2 ca2] 59 (0, 0))]) (fun l_6 => []) ?_ ?_
     ·replace hm := h21
      refine g_region ?_
      refine g_val rfl rfl rfl (fun _ _ => v_move rfl) ?_
      refine g_val rfl rfl rfl (fun _ _ => v_move rfl) ?_
      refine g_val rfl rfl rfl (fun w _ => v_lenR hna3 (Try.runUnderlying81 w) rfl) ?_
      obtain ⟨t37, h23, hm⟩ := bindO hm
      refine g_val rfl rfl rfl (fun _ _ => v_subc h23 rfl rfl) ?_
      refine g_val rfl rfl rfl (fun _ _ => v_lss rfl rfl) ?_
      refine g_val rfl rfl rfl (fun _ _ => v_move rfl) ?_
      refine g_case 39 rfl (fun h24 => ?_) (fun h24 => ?_)
      ·replace hm := ifT (of_decide_eq_true h24) hm
       refine v_unguard rfl rfl ?_
       refine g_val rfl rfl rfl (fun _ _ => v_move rfl) ?_
       refine v_unguard rfl rfl ?_
       refine g_val rfl rfl rfl (fun _ _ => v_move rfl) ?_
       refine v_unguard rfl rfl ?_
       obtain ⟨t42, h25, hm⟩ := bindO hm
       refine g_val rfl rfl rfl (fun _ _ => v_addc h25 rfl rfl) ?_
       refine v_unguard rfl rfl ?_
       obtain ⟨t43, h26, hm⟩ := bindO hm
       refine g_val rfl rfl rfl (fun w _ => v_ixR h26 (Try.runUnderlying81 w) (Try.sizeOf4 w) rfl rfl hna3 hqa3) ?_
       refine v_unguard rfl rfl ?_
       refine g_val rfl rfl rfl (fun w hh => v_ldE RB 0 h26 (Try.isAgg4 w) rfl (hh.seg 3 rfl) rfl (Nat.add_zero _).symm) ?_
       refine g_val rfl rfl rfl (fun _ _ => v_pickT rfl rfl) ?_
       refine g_nil ?_
       obtain rfl := Option.some.inj hm
       exact g_leaf () (trivial) ((.cons rfl (.cons rfl (.cons rfl (.cons rfl (.cons rfl (.cons rfl .nil))))))) (fun w hh => hh)
      ·replace hm := ifF (of_decide_eq_false h24) hm
       refine g_skipG rfl rfl rfl rfl rfl rfl ?_
       refine g_skipG rfl rfl rfl rfl rfl rfl ?_
       refine g_skipG rfl rfl rfl rfl rfl rfl ?_
       refine g_skipG rfl rfl rfl rfl rfl rfl ?_
       refine g_skipG rfl rfl rfl rfl rfl rfl ?_
       refine g_val rfl rfl rfl (fun _ _ => v_pickF rfl rfl) ?_
       refine g_nil ?_
       obtain rfl := Option.some.inj hm
       exact g_leaf () (trivial) ((.cons rfl (.cons rfl (.cons rfl (.cons rfl (.cons rfl (.cons rfl .nil))))))) (fun w hh => hh)
     ·intro l_6 hj
      replace hm := h22
      refine g_n_then ?_
      refine g_cond rfl (fun h27 => ?_) (fun h27 => ?_)
      ·replace hm := ifT (h27) hm
       refine g_skip ?_
       refine g_n_then ?_
       refine g_block ?_
       refine g_region ?_
       refine g_val rfl rfl rfl (fun _ _ => v_move rfl) ?_
       obtain ⟨t47, h28, hm⟩ := bindO hm
       refine g_val rfl rfl rfl (fun _ _ => v_addc h28 rfl rfl) ?_
       refine g_val rfl rfl rfl (fun _ _ => v_assign rfl) ?_
       refine g_nil ?_
       refine g_n_blk ?_
       obtain rfl := Option.some.inj hm
       refine g_n_then ?_
       exact g_again' _ () rfl (trivial) ((.cons rfl (.cons rfl (.cons rfl (.cons rfl (.cons rfl .nil)))))) (fun w hh => hh)
      ·replace hm := ifF ((fun hh => Bool.noConfusion ((h27).symm.trans hh))) hm
       refine g_exit ?_
       refine g_x_then ?_
       refine g_x_then ?_
       refine g_x_blk ?_
       obtain rfl := Option.some.inj hm
       have hbo := h20 _ rfl
       subst hbo
       exact g_leaf () (trivial) ((.cons rfl (.cons rfl (.cons rfl (.cons rfl .nil))))) (fun w hh => hh)
    ·intro l_4 hj
     replace hm := h19
     refine g_n_then ?_
     refine g_seq ?_
     refine g_draw none (.hoist 0 (.free 2 (.hoist 4 (.free 6 (.one 1 (.free 3 (.one 5 (.free 7 (.free 8 (.one 9 (.free 10 .done))))))))))) (HV _ _ [(b, .cells #[.slice qa0 na0 ca0, .int .i64 s0.wind.lo, .int .i64 s0.wind.hi, .slice qa1 na1 ca1, .slice qa2 na2 ca2] 59 (0, 0))] [] _) rfl (by decide +kernel) (fun w k hh => hh.draw k) (fun w hh => hh.sel [1] [] 0 (by decide) (by decide) rfl rfl rfl) ?_
     refine p_hoist rfl rfl rfl rfl (fun w hh => v_loadAgg (vs := [_, _, _, _, _]) (Try.isAgg59 w) (Try.sizeOf59 w) rfl (hh.cells 0 rfl rfl)) ?_
     refine p_free rfl rfl rfl rfl (fun _ _ => v_move rfl) ?_
     refine p_hoist rfl rfl rfl rfl (fun w hh => v_loadAgg (vs := [_, _, _, _, _]) (Try.isAgg59 w) (Try.sizeOf59 w) rfl (hh.cells 0 rfl rfl)) ?_
     refine p_free rfl rfl rfl rfl (fun _ _ => v_move rfl) ?_
     refine p_one rfl ?_
     obtain ⟨t49, h29, hm⟩ := bindO hm
     refine g_callH [] [] rfl rfl rfl rfl rfl rfl rfl (fun a w => Try.call108 a w) (fun w hh => c_laurelref01_First s0 qa0 na0 ca0 qa1 na1 ca1 qa2 na2 ca2 w (HV.callee (S0 := []) (vs0 := []) hh (roC (hh.rsep (S0 := []) (vs0 := []) 0 rfl) (roC (hh.rsep (S0 := []) (vs0 := []) 1 rfl) (roC (hh.rsep (S0 := []) (vs0 := []) 2 rfl) roN)))) hna0 hqa0 hla0 hna1 hqa1 hla1 hna2 hqa2 hla2 h29) (fun l_7 h30 => ?_)
     refine p_next (fun w hh => hh.sel [1] [] 0 (by decide) (by decide) rfl rfl rfl) ?_
     obtain ⟨t51, h31, hm⟩ := bindO hm
     refine p_free rfl rfl rfl rfl (fun _ _ => v_addc h31 rfl rfl) ?_
     refine p_one rfl ?_
     obtain ⟨t53, h32, hm⟩ := bindO hm
     refine g_callH [] [] rfl rfl rfl rfl rfl rfl rfl (fun a w => Try.call108 a w) (fun w hh => c_laurelref01_First s0 qa0 na0 ca0 qa1 na1 ca1 qa2 na2 ca2 w (HV.callee (S0 := []) (vs0 := []) hh (roC (hh.rsep (S0 := []) (vs0 := []) 0 rfl) (roC (hh.rsep (S0 := []) (vs0 := []) 1 rfl) (roC (hh.rsep (S0 := []) (vs0 := []) 2 rfl) roN)))) hna0 hqa0 hla0 hna1 hqa1 hla1 hna2 hqa2 hla2 h32) (fun l_8 h33 => ?_)
     refine p_next (fun w hh => hh.sel [1] [] 0 (by decide) (by decide) rfl rfl rfl) ?_
     obtain ⟨t55, h34, hm⟩ := bindO hm
     refine p_free rfl rfl rfl rfl (fun _ _ => v_addc h34 rfl rfl) ?_
     refine p_free rfl rfl rfl rfl (fun _ _ => v_build (vs := [(0, _), (1, _)]) (cells := [_, _]) rfl rfl) ?_
     refine p_one rfl ?_
     refine g_stSA (us := #[_, _]) (cs' := [_, _]) (S' := [_, _]) 0 (fun w => Try.sizeOf25 w) rfl rfl rfl rfl rfl rfl rfl ?_
     refine p_next (fun w hh => hh.sel [1] [] 0 (by decide) (by decide) rfl rfl rfl) ?_
     refine p_free rfl rfl rfl rfl (fun _ _ => v_assign rfl) ?_
     refine p_done ?_
     refine g_n_then ?_
     refine g_ret ?_
     obtain rfl := Option.some.inj hm
     refine g_done rfl (fun w hh => (.cell rfl (loadVar_agg (vs := [_, _]) (Try.isAgg25 _) (Try.sizeOf25 _) (hh.cells 0 rfl rfl)) (.tmp rfl .nil))) (fun w hh => ⟨(), rfl, trivial, hh.sel [] [] 4 (by decide) (by decide) rfl rfl rfl⟩)
end Go.Proofs.Wk
namespace Go.Proofs.Wk
open Go Go.Fw Go.Gx Go.Pl
set_option linter.unusedVariables false
structure m_laurelref01_Spans_S0 where
  minute6 : Int
  out5 : (List Span)
def m_laurelref01_Spans_L0 (s0 : Sands) (says1 : (List Bool)) (s : m_laurelref01_Spans_S0) : Option (m_laurelref01_Spans_S0 ⊕ (List Span)) :=
 (m_laurelref01_Last s0).bind fun t13 =>
 if s.minute6 ≤ t13 then
 (((m_laurelref01_Run s0 says1 s.minute6).bind fun t21 =>
 (if t21.r1 = true then
 (some (decide (t21.r0.lo = s.minute6))) else
 (some false)).bind fun o_2 =>
 if o_2 = true then
 ((appc 16 s.out5 [t21.r0]).bind fun t34 =>
 some t34) else
 (some s.out5)).bind fun o_1 =>
 (addc s.minute6 1).bind fun t16 =>
 some (.inl (⟨t16, o_1⟩ : m_laurelref01_Spans_S0))) else
 (some (.inr s.out5))
def m_laurelref01_Spans (s0 : Sands) (says1 : (List Bool)) : Option (List Span) :=
 (m_laurelref01_First s0).bind fun t10 =>
 (iterM FU (m_laurelref01_Spans_L0 s0 says1) (⟨t10, []⟩ : m_laurelref01_Spans_S0)).bind fun o =>
 some o
set_option maxRecDepth 100000 in
set_option maxHeartbeats 4000000 in
theorem c_laurelref01_Spans (s0 : Sands) (says1 : (List Bool)) (qa0 : Option Addr) (na0 ca0 : Nat) (qa1 : Option Addr) (na1 ca1 : Nat) (qa2 : Option Addr) (na2 ca2 : Nat) (qa3 : Option Addr) (na3 ca3 : Nat) (w : World) (hw : HV w (keys [] []) [] [] [(aB qa0, aO qa0, RW.enc s0.table), (aB qa1, aO qa1, RI.enc s0.floors), (aB qa2, aO qa2, RS.enc s0.sills), (aB qa3, aO qa3, RB.enc says1)] w) (hna0 : s0.table.length = na0) (hqa0 : AOK na0 qa0) (hla0 : na0 ≤ ca0) (hna1 : s0.floors.length = na1) (hqa1 : AOK na1 qa1) (hla1 : na1 ≤ ca1) (hna2 : s0.sills.length = na2) (hqa2 : AOK na2 qa2) (hla2 : na2 ≤ ca2) (hna3 : says1.length = na3) (hqa3 : AOK na3 qa3) (hla3 : na3 ≤ ca3) {res : (List Span)} (hm : m_laurelref01_Spans s0 says1 = some res) :
    Calls Try.prog 48 #[.agg #[.slice qa0 na0 ca0, .int .i64 s0.wind.lo, .int .i64 s0.wind.hi, .slice qa1 na1 ca1, .slice qa2 na2 ca2], .slice qa3 na3 ca3] w (fun en w' => ∃ l : VL, en = .returned (slv l.q l.n l.cap) ∧ (VOK 2 l.n l.cap (RP.enc res) l.sp l.q) ∧ HV w (keys [] []) [] [⟨25, RP.enc res, l.sp, l.q⟩] [] w') := by
  unfold m_laurelref01_Spans at hm
  refine g_enter (args := [.agg #[.slice qa0 na0 ca0, .int .i64 s0.wind.lo, .int .i64 s0.wind.hi, .slice qa1 na1 ca1, .slice qa2 na2 ca2], .slice qa3 na3 ca3]) Try.func48 rfl Try.ntmps48 rfl (e := [(0, _), (1, _)]) rfl (H := HV w (keys [] []) [] [] [(aB qa0, aO qa0, RW.enc s0.table), (aB qa1, aO qa1, RI.enc s0.floors), (aB qa2, aO qa2, RS.enc s0.sills), (aB qa3, aO qa3, RB.enc says1)]) hw ?_
  refine g_seq ?_
  refine g_region ?_
  refine g_boxV rfl rfl (fun b h2 => ?_)
  refine g_val rfl rfl rfl (fun _ _ => v_nilS rfl) ?_
  refine g_nil ?_
  refine g_n_then ?_
  refine g_seq ?_
  refine g_region ?_
  refine g_val rfl rfl rfl (fun _ _ => v_nilS rfl) ?_
  refine g_nil ?_
  refine g_n_then ?_
  refine g_seq ?_
  refine g_seq ?_
  refine g_region ?_
  refine g_val rfl rfl rfl (fun w hh => v_loadAgg (vs := [_, _, _, _, _]) (Try.isAgg59 w) (Try.sizeOf59 w) rfl (hh.cells 0 rfl rfl)) ?_
  obtain ⟨t10, h3, hm⟩ := bindO hm
  refine g_callH [] [] rfl rfl rfl rfl rfl rfl rfl (fun a w => Try.call108 a w) (fun w hh => c_laurelref01_First s0 qa0 na0 ca0 qa1 na1 ca1 qa2 na2 ca2 w (HV.callee (S0 := []) (vs0 := []) hh (roC (hh.rsep (S0 := []) (vs0 := []) 0 rfl) (roC (hh.rsep (S0 := []) (vs0 := []) 1 rfl) (roC (hh.rsep (S0 := []) (vs0 := []) 2 rfl) roN)))) hna0 hqa0 hla0 hna1 hqa1 hla1 hna2 hqa2 hla2 h3) (fun l h4 => ?_)
  refine g_val rfl rfl rfl (fun _ _ => v_assign rfl) ?_
  refine g_nil ?_
  refine g_n_then ?_
  refine g_vnil 25 ?_
  obtain ⟨o, h5, h6⟩ := bindO hm
  refine g_cut (ι := VL) (fun l_1 => VOK 2 l_1.n l_1.cap (RP.enc o) l_1.sp l_1.q) (fun l_1 => [(5, slv l_1.q l_1.n l_1.cap)]) (fun l_1 => [(b, .cells #[.slice qa0 na0 ca0, .int .i64 s0.wind.lo, .int .i64 s0.wind.hi, .slice qa1 na1 ca1, .slice qa2 na2 ca2] 59 (0, 0))]) (fun l_1 => [⟨25, RP.enc o, l_1.sp, l_1.q⟩]) ?_ ?_
  ·replace hm := h5
   refine g_block ?_
   refine g_loopF (ι := VL) hm (fun s l_2 => VOK 2 l_2.n l_2.cap (RP.enc s.out5) l_2.sp l_2.q) (fun s l_2 => [(1, .slice qa3 na3 ca3), (2, ptr b 0), (5, slv l_2.q l_2.n l_2.cap), (6, .int .i64 s.minute6)]) (fun s l_2 => [(b, .cells #[.slice qa0 na0 ca0, .int .i64 s0.wind.lo, .int .i64 s0.wind.hi, .slice qa1 na1 ca1, .slice qa2 na2 ca2] 59 (0, 0))]) (fun s l_2 => [⟨25, RP.enc s.out5, l_2.sp, l_2.q⟩]) ⟨none, 0, 0, []⟩ (VOK.nil) ((.cons rfl (.cons rfl (.cons rfl (.cons rfl .nil))))) (fun w hh => hh) (fun s l_2 r hpl hm h9 => ?_)
   have h8 := hpl
   unfold m_laurelref01_Spans_L0 at hm
   refine g_seq ?_
   refine g_seq ?_
   refine g_region ?_
   refine g_val rfl rfl rfl (fun _ _ => v_move rfl) ?_
   refine g_val rfl rfl rfl (fun w hh => v_loadAgg (vs := [_, _, _, _, _]) (Try.isAgg59 w) (Try.sizeOf59 w) rfl (hh.cells 0 rfl rfl)) ?_
   obtain ⟨t13, h10, hm⟩ := bindO hm
   refine g_callH [] [] rfl rfl rfl rfl rfl rfl rfl (fun a w => Try.call109 a w) (fun w hh => c_laurelref01_Last s0 qa0 na0 ca0 qa1 na1 ca1 qa2 na2 ca2 w (HV.callee (S0 := []) (vs0 := []) hh (roC (hh.rsep (S0 := []) (vs0 := []) 0 rfl) (roC (hh.rsep (S0 := []) (vs0 := []) 1 rfl) (roC (hh.rsep (S0 := []) (vs0 := []) 2 rfl) roN)))) hna0 hqa0 hla0 hna1 hqa1 hla1 hna2 hqa2 hla2 h10) (fun l_3 h11 => ?_)
   refine g_val rfl rfl rfl (fun _ _ => v_leq rfl rfl) ?_
   refine g_nil ?_
   refine g_n_then ?_
   refine g_cond rfl (fun h12 => ?_) (fun h12 => ?_)
   ·replace hm := ifT (of_decide_eq_true h12) hm
    refine g_skip ?_
    refine g_n_then ?_
    refine g_seq ?_
    obtain ⟨o_1, h13, h14⟩ := bindO hm
    refine g_cut (ι := VL) (fun l_4 => VOK 2 l_4.n l_4.cap (RP.enc o_1) l_4.sp l_4.q) (fun l_4 => [(1, .slice qa3 na3 ca3), (2, ptr b 0), (5, slv l_4.q l_4.n l_4.cap), (6, .int .i64 s.minute6)]) (fun l_4 => [(b, .cells #[.slice qa0 na0 ca0, .int .i64 s0.wind.lo, .int .i64 s0.wind.hi, .slice qa1 na1 ca1, .slice qa2 na2 ca2] 59 (0, 0))]) (fun l_4 => [⟨25, RP.enc o_1, l_4.sp, l_4.q⟩]) ?_ ?_
    ·replace hm := h13
     refine g_block ?_
     refine g_seq ?_
     refine g_region ?_
     refine g_val rfl rfl rfl (fun w hh => v_loadAgg (vs := [_, _, _, _, _]) (Try.isAgg59 w) (Try.sizeOf59 w) rfl (hh.cells 0 rfl rfl)) ?_
     refine g_val rfl rfl rfl (fun _ _ => v_move rfl) ?_
     refine g_val rfl rfl rfl (fun _ _ => v_move rfl) ?_
     obtain ⟨t21, h16, hm⟩ := bindO hm
     refine g_callH [] [] rfl rfl rfl rfl rfl rfl rfl (fun a w => Try.call73 a w) (fun w hh => c_laurelref01_Run s0 says1 s.minute6 qa0 na0 ca0 qa1 na1 ca1 qa2 na2 ca2 qa3 na3 ca3 w (HV.callee (S0 := []) (vs0 := []) hh (roC (hh.rsep (S0 := []) (vs0 := []) 0 rfl) (roC (hh.rsep (S0 := []) (vs0 := []) 1 rfl) (roC (hh.rsep (S0 := []) (vs0 := []) 2 rfl) (roC (hh.rsep (S0 := []) (vs0 := []) 3 rfl) roN))))) hna0 hqa0 hla0 hna1 hqa1 hla1 hna2 hqa2 hla2 hna3 hqa3 hla3 h16) (fun l_5 h17 => ?_)
     refine g_val rfl rfl rfl (fun _ _ => v_move rfl) ?_
     refine g_val rfl rfl rfl (fun _ _ => v_extract rfl rfl) ?_
     refine g_val rfl rfl rfl (fun _ _ => v_extract rfl rfl) ?_
     refine g_allocV (fun w => Try.zeroValue25 w) rfl (fun b_1 h18 => ?_)
     refine g_stSA (us := #[_, _]) (cs' := [_, _]) (S' := [_, _]) 0 (fun w => Try.sizeOf25 w) rfl rfl rfl rfl rfl rfl rfl ?_
     refine g_val rfl rfl rfl (fun _ _ => v_assign rfl) ?_
     refine g_nil ?_
     refine g_n_then ?_
     refine g_seq ?_
     obtain ⟨o_2, h19, h20⟩ := bindO hm
     refine g_cut (ι := Unit) (fun l_6 => True) (fun l_6 => [(1, .slice qa3 na3 ca3), (2, ptr b 0), (5, slv l_2.q l_2.n l_2.cap), (6, .int .i64 s.minute6), (7, ptr b_1 0), (30, .bool o_2)]) (fun l_6 => [(b_1, .cells #[.int .i64 t21.r0.lo, .int .i64 t21.r0.hi] 25 (0, 0)), (b, .cells #[.slice qa0 na0 ca0, .int .i64 s0.wind.lo, .int .i64 s0.wind.hi, .slice qa1 na1 ca1, .slice qa2 na2 ca2] 59 (0, 0))]) (fun l_6 => [⟨25, RP.enc s.out5, l_2.sp, l_2.q⟩]) ?_ ?_
     ·replace hm := h19
      refine g_region ?_
      refine g_val rfl rfl rfl (fun _ _ => v_move rfl) ?_
      refine g_val rfl rfl rfl (fun _ _ => v_move rfl) ?_
      refine g_case 25 rfl (fun h21 => ?_) (fun h21 => ?_)
      ·replace hm := ifT (h21) hm
       refine v_unguard rfl rfl ?_
       refine g_val rfl rfl rfl (fun w _ => v_fieldAddr 0 (Try.runUnderlying25 w) rfl (Try.sizeOf3 w) rfl) ?_
       refine v_unguard rfl rfl ?_
       refine g_val rfl rfl rfl (fun w hh => v_load (Try.isAgg3 w) rfl (hh.cell 0 rfl rfl)) ?_
       refine v_unguard rfl rfl ?_
       refine g_val rfl rfl rfl (fun _ _ => v_move rfl) ?_
       refine v_unguard rfl rfl ?_
       refine g_val rfl rfl rfl (fun _ _ => v_eql rfl rfl) ?_
       refine g_val rfl rfl rfl (fun _ _ => v_pickT rfl rfl) ?_
       refine g_nil ?_
       obtain rfl := Option.some.inj hm
       exact g_leaf () (trivial) ((.cons rfl (.cons rfl (.cons rfl (.cons rfl (.cons rfl (.cons rfl .nil))))))) (fun w hh => hh)
      ·replace hm := ifF ((fun hh => Bool.noConfusion ((h21).symm.trans hh))) hm
       refine g_skipG rfl rfl rfl rfl rfl rfl ?_
       refine g_skipG rfl rfl rfl rfl rfl rfl ?_
       refine g_skipG rfl rfl rfl rfl rfl rfl ?_
       refine g_skipG rfl rfl rfl rfl rfl rfl ?_
       refine g_val rfl rfl rfl (fun _ _ => v_pickF rfl rfl) ?_
       refine g_nil ?_
       obtain rfl := Option.some.inj hm
       exact g_leaf () (trivial) ((.cons rfl (.cons rfl (.cons rfl (.cons rfl (.cons rfl (.cons rfl .nil))))))) (fun w hh => hh)
     ·intro l_6 hj
      replace hm := h20
      refine g_n_then ?_
      refine g_cond rfl (fun h22 => ?_) (fun h22 => ?_)
      ·replace hm := ifT (h22) hm
       refine g_region ?_
       refine g_val rfl rfl rfl (fun _ _ => v_move rfl) ?_
       refine g_val rfl rfl rfl (fun w hh => v_loadAgg (vs := [_, _]) (Try.isAgg25 w) (Try.sizeOf25 w) rfl (hh.cells 0 rfl rfl)) ?_
       refine g_vlit RP [t21.r0] (ps := [(0, _)]) (cells := [_, _]) (fun w => Try.runUnderlying77 w) (fun w => Try.sizeOf25 w) (fun w => Try.zeroValue25 w) rfl rfl rfl rfl rfl rfl rfl rfl (fun L h23 => ?_)
       obtain ⟨t34, h24, hm⟩ := bindO hm
       refine g_vapp RP 1 h24 Try.underlying77 gxinf25 rfl rfl rfl rfl rfl h8 rfl rfl (vlen RP h23 rfl) (AOK.q (vne h23)) (fun w hh => (hh.vsegA 0 rfl h23)) rfl (fun L_1 h25 h25n => ?_)
       refine g_sel (S' := [_, _]) (vs' := [_, _]) [0, 1] [0, 1] 0 (by decide) (by decide) rfl rfl rfl ?_
       refine g_val rfl rfl rfl (fun _ _ => v_assign rfl) ?_
       refine g_nil ?_
       refine g_n_blk ?_
       obtain rfl := Option.some.inj hm
       exact g_leaf L_1 (h25) ((.cons rfl (.cons rfl (.cons rfl (.cons rfl .nil))))) (fun w hh => hh.sel [1] [1] 0 (by decide) (by decide) rfl rfl rfl)
      ·replace hm := ifF ((fun hh => Bool.noConfusion ((h22).symm.trans hh))) hm
       refine g_skip ?_
       refine g_n_blk ?_
       obtain rfl := Option.some.inj hm
       exact g_leaf l_2 (h8) ((.cons rfl (.cons rfl (.cons rfl (.cons rfl .nil))))) (fun w hh => hh.sel [1] [0] 0 (by decide) (by decide) rfl rfl rfl)
    ·intro l_4 hj
     have h15 := hj
     replace hm := h14
     refine g_n_then ?_
     refine g_region ?_
     refine g_val rfl rfl rfl (fun _ _ => v_move rfl) ?_
     obtain ⟨t16, h26, hm⟩ := bindO hm
     refine g_val rfl rfl rfl (fun _ _ => v_addc h26 rfl rfl) ?_
     refine g_val rfl rfl rfl (fun _ _ => v_assign rfl) ?_
     refine g_nil ?_
     obtain rfl := Option.some.inj hm
     refine g_n_then ?_
     exact g_again' _ l_4 rfl (h15) ((.cons rfl (.cons rfl (.cons rfl (.cons rfl .nil))))) (fun w hh => hh)
   ·replace hm := ifF (of_decide_eq_false h12) hm
    refine g_exit ?_
    refine g_x_then ?_
    refine g_x_then ?_
    refine g_x_blk ?_
    obtain rfl := Option.some.inj hm
    have hbo := h9 _ rfl
    subst hbo
    exact g_leaf l_2 (h8) ((.cons rfl .nil)) (fun w hh => hh)
  ·intro l_1 hj
   have h7 := hj
   replace hm := h6
   refine g_n_then ?_
   refine g_seq ?_
   refine g_region ?_
   refine g_val rfl rfl rfl (fun _ _ => v_move rfl) ?_
   refine g_val rfl rfl rfl (fun _ _ => v_assign rfl) ?_
   refine g_nil ?_
   refine g_n_then ?_
   refine g_ret ?_
   obtain rfl := Option.some.inj hm
   refine g_done rfl (fun w hh => (.tmp rfl .nil)) (fun w hh => ⟨l_1, rfl, h7, hh.sel [] [0] 4 (by decide) (by decide) rfl rfl rfl⟩)
end Go.Proofs.Wk
namespace Go.Proofs.Wk
open Go Go.Fw Go.Gx Go.Pl
set_option linter.unusedVariables false
def m_slices_Equal_apiSpanapiSpan_L0 (s10 : (List Span)) (s21 : (List Span)) (s : Int) : Option (Int ⊕ (Unit ⊕ Bool)) :=
 if s < (s10.length : Int) then
 ((ix s10 s).bind fun t18 =>
 (ix s21 s).bind fun t22 =>
 if t18 = (⟨t22.lo, t22.hi⟩ : Span) then
 ((addc s 1).bind fun t25 =>
 some (.inl t25)) else
 (some (.inr (.inr false)))) else
 (some (.inr (.inl ())))
def m_slices_Equal_apiSpanapiSpan (s10 : (List Span)) (s21 : (List Span)) : Option Bool :=
 if (s10.length : Int) = (s21.length : Int) then
 ((iterM FU (m_slices_Equal_apiSpanapiSpan_L0 s10 s21) 0).bind fun o =>
 oc o (fun j => some true) (fun r_1 => some r_1)) else
 (some false)
set_option maxRecDepth 100000 in
set_option maxHeartbeats 4000000 in
theorem c_slices_Equal_apiSpanapiSpan (s10 : (List Span)) (s21 : (List Span)) (qa0 : Option Addr) (na0 ca0 : Nat) (qa1 : Option Addr) (na1 ca1 : Nat) (w : World) (hw : HV w (keys [] []) [] [] [(aB qa0, aO qa0, RP.enc s10), (aB qa1, aO qa1, RP.enc s21)] w) (hna0 : s10.length = na0) (hqa0 : AOK na0 qa0) (hla0 : na0 ≤ ca0) (hna1 : s21.length = na1) (hqa1 : AOK na1 qa1) (hla1 : na1 ≤ ca1) {res : Bool} (hm : m_slices_Equal_apiSpanapiSpan s10 s21 = some res) :
    Calls Try.prog 121 #[.slice qa0 na0 ca0, .slice qa1 na1 ca1] w (fun en w' => ∃ l : Unit, en = .returned (.bool res) ∧ (True) ∧ HV w (keys [] []) [] [] [] w') := by
  unfold m_slices_Equal_apiSpanapiSpan at hm
  refine g_enter (args := [.slice qa0 na0 ca0, .slice qa1 na1 ca1]) Try.func121 rfl Try.ntmps121 rfl (e := [(0, _), (1, _)]) rfl (H := HV w (keys [] []) [] [] [(aB qa0, aO qa0, RP.enc s10), (aB qa1, aO qa1, RP.enc s21)]) hw ?_
  refine g_seq ?_
  refine g_region ?_
  refine g_val rfl rfl rfl (fun _ _ => v_assign rfl) ?_
  refine g_nil ?_
  refine g_n_then ?_
  refine g_seq ?_
  refine g_seq ?_
  refine g_region ?_
  refine g_val rfl rfl rfl (fun _ _ => v_move rfl) ?_
  refine g_val rfl rfl rfl (fun w _ => v_lenR hna0 (Try.runUnderlying77 w) rfl) ?_
  refine g_val rfl rfl rfl (fun _ _ => v_move rfl) ?_
  refine g_val rfl rfl rfl (fun w _ => v_lenR hna1 (Try.runUnderlying77 w) rfl) ?_
  refine g_val rfl rfl rfl (fun _ _ => v_neq rfl rfl) ?_
  refine g_nil ?_
  refine g_n_then ?_
  refine g_cond rfl (fun h1 => ?_) (fun h1 => ?_)
  ·replace hm := ifF (of_ndec_true h1) hm
   refine g_seq ?_
   refine g_region ?_
   refine g_val rfl rfl rfl (fun _ _ => v_assign rfl) ?_
   refine g_nil ?_
   refine g_n_then ?_
   refine g_ret ?_
   refine g_r_then ?_
   obtain rfl := Option.some.inj hm
   refine g_done rfl (fun w hh => (.tmp rfl .nil)) (fun w hh => ⟨(), rfl, trivial, hh.sel [] [] 2 (by decide) (by decide) rfl rfl rfl⟩)
  ·replace hm := ifT (of_ndec_false h1) hm
   refine g_skip ?_
   refine g_n_then ?_
   refine g_seq ?_
   refine g_seq ?_
   refine g_region ?_
   refine g_val rfl rfl rfl (fun _ _ => v_move rfl) ?_
   refine g_val rfl rfl rfl (fun w _ => v_lenR hna0 (Try.runUnderlying77 w) rfl) ?_
   refine g_val rfl rfl rfl (fun _ _ => v_move rfl) ?_
   refine g_nil ?_
   refine g_n_then ?_
   obtain ⟨o, h2, h3⟩ := bindO hm
   refine g_cut (ι := Unit) (fun j => o = .inl j) (fun j => []) (fun j => []) (fun j => []) ?_ ?_
   ·replace hm := h2
    refine g_block ?_
    refine g_loopF (ι := Unit) hm (fun s l => True) (fun s l => [(0, .slice qa0 na0 ca0), (1, .slice qa1 na1 ca1), (12, .int .i64 (s10.length : Int)), (13, .int .i64 s)]) (fun s l => []) (fun s l => []) () (trivial) ((.cons rfl (.cons rfl (.cons rfl (.cons rfl .nil))))) (fun w hh => hh) (fun s l r hpl hm h4 => ?_)
    unfold m_slices_Equal_apiSpanapiSpan_L0 at hm
    refine g_seq ?_
    refine g_region ?_
    refine g_val rfl rfl rfl (fun _ _ => v_lss rfl rfl) ?_
    refine g_nil ?_
    refine g_n_then ?_
    refine g_seq ?_
    refine g_cond rfl (fun h5 => ?_) (fun h5 => ?_)
    ·replace hm := ifT (of_decide_eq_true h5) hm
     refine g_skip ?_
     refine g_n_then ?_
     refine g_seq ?_
     refine g_block ?_
     refine g_seq ?_
     refine g_region ?_
     refine g_val rfl rfl rfl (fun _ _ => v_move rfl) ?_
     refine g_val rfl rfl rfl (fun _ _ => v_assign rfl) ?_
     refine g_nil ?_
     refine g_n_then ?_
     refine g_seq ?_
     refine g_draw none (.free 0 (.free 1 (.free 2 (.hoist 3 (.free 4 (.free 5 (.free 6 (.hoist 7 (.free 8 .done))))))))) _ rfl (by decide +kernel) (fun w k hh => hh.draw k) (fun w hh => hh) ?_
     refine p_free rfl rfl rfl rfl (fun _ _ => v_move rfl) ?_
     refine p_free rfl rfl rfl rfl (fun _ _ => v_move rfl) ?_
     obtain ⟨t18, h6, hm⟩ := bindO hm
     refine p_free rfl rfl rfl rfl (fun w _ => v_ixR h6 (Try.runUnderlying77 w) (Try.sizeOf25 w) rfl rfl hna0 hqa0) ?_
     refine p_hoist rfl rfl rfl rfl (fun w hh => v_ldEA RP 0 [.int .i64 t18.lo, .int .i64 t18.hi] h6 (Try.isAgg25 w) (Try.sizeOf25 w) rfl (hh.seg 0 rfl) rfl (Nat.add_zero _).symm) ?_
     refine p_free rfl rfl rfl rfl (fun _ _ => v_move rfl) ?_
     refine p_free rfl rfl rfl rfl (fun _ _ => v_move rfl) ?_
     obtain ⟨t22, h7, hm⟩ := bindO hm
     refine p_free rfl rfl rfl rfl (fun w _ => v_ixR h7 (Try.runUnderlying77 w) (Try.sizeOf25 w) rfl rfl hna1 hqa1) ?_
     refine p_hoist rfl rfl rfl rfl (fun w hh => v_ldEA RP 0 [.int .i64 t22.lo, .int .i64 t22.hi] h7 (Try.isAgg25 w) (Try.sizeOf25 w) rfl (hh.seg 1 rfl) rfl (Nat.add_zero _).symm) ?_
     refine p_free rfl rfl rfl rfl (fun w _ => v_neqAgg (gxeq25 t18 (⟨t22.lo, t22.hi⟩ : Span) w) gxeqg25 rfl rfl) ?_
     refine p_done ?_
     refine g_n_then ?_
     refine g_cond rfl (fun h8 => ?_) (fun h8 => ?_)
     ·replace hm := ifF (of_ndec_true h8) hm
      refine g_seq ?_
      refine g_region ?_
      refine g_val rfl rfl rfl (fun _ _ => v_assign rfl) ?_
      refine g_nil ?_
      refine g_n_then ?_
      refine g_ret ?_
      refine g_r_blk ?_
      refine g_r_then ?_
      refine g_r_then ?_
      refine g_r_blk ?_
      obtain rfl := Option.some.inj hm
      have hbo := h4 _ rfl
      subst hbo
      refine g_r_then ?_
      replace hm := ocR h3
      refine g_r_then ?_
      obtain rfl := Option.some.inj hm
      refine g_done rfl (fun w hh => (.tmp rfl .nil)) (fun w hh => ⟨(), rfl, trivial, hh.sel [] [] 2 (by decide) (by decide) rfl rfl rfl⟩)
     ·replace hm := ifT (of_ndec_false h8) hm
      refine g_skip ?_
      refine g_n_blk ?_
      refine g_n_then ?_
      refine g_region ?_
      obtain ⟨t25, h9, hm⟩ := bindO hm
      refine g_val rfl rfl rfl (fun _ _ => v_addc h9 rfl rfl) ?_
      refine g_val rfl rfl rfl (fun _ _ => v_move rfl) ?_
      refine g_nil ?_
      obtain rfl := Option.some.inj hm
      refine g_n_then ?_
      exact g_again' _ () rfl (trivial) ((.cons rfl (.cons rfl (.cons rfl (.cons rfl .nil))))) (fun w hh => hh)
    ·replace hm := ifF (of_decide_eq_false h5) hm
     refine g_exit ?_
     refine g_x_then ?_
     refine g_x_then ?_
     refine g_x_blk ?_
     obtain rfl := Option.some.inj hm
     have hbo := h4 _ rfl
     subst hbo
     exact g_leaf () (rfl) (.nil) (fun w hh => hh)
   ·intro j hj
    have h10 := hj
    subst h10
    replace hm := ocL h3
    refine g_n_then ?_
    refine g_seq ?_
    refine g_region ?_
    refine g_val rfl rfl rfl (fun _ _ => v_assign rfl) ?_
    refine g_nil ?_
    refine g_n_then ?_
    refine g_ret ?_
    obtain rfl := Option.some.inj hm
    refine g_done rfl (fun w hh => (.tmp rfl .nil)) (fun w hh => ⟨(), rfl, trivial, hh.sel [] [] 2 (by decide) (by decide) rfl rfl rfl⟩)
end Go.Proofs.Wk
namespace Go.Proofs.Wk
open Go Go.Fw Go.Gx Go.Pl
set_option linter.unusedVariables false
def m_laurelkit_Eq_apiSpan (a0 : (List Span)) (b1 : (List Span)) : Option Bool :=
 (m_slices_Equal_apiSpanapiSpan a0 b1).bind fun t7 =>
 some t7
set_option maxRecDepth 100000 in
set_option maxHeartbeats 4000000 in
theorem c_laurelkit_Eq_apiSpan (a0 : (List Span)) (b1 : (List Span)) (qa0 : Option Addr) (na0 ca0 : Nat) (qa1 : Option Addr) (na1 ca1 : Nat) (w : World) (hw : HV w (keys [] []) [] [] [(aB qa0, aO qa0, RP.enc a0), (aB qa1, aO qa1, RP.enc b1)] w) (hna0 : a0.length = na0) (hqa0 : AOK na0 qa0) (hla0 : na0 ≤ ca0) (hna1 : b1.length = na1) (hqa1 : AOK na1 qa1) (hla1 : na1 ≤ ca1) {res : Bool} (hm : m_laurelkit_Eq_apiSpan a0 b1 = some res) :
    Calls Try.prog 50 #[.slice qa0 na0 ca0, .slice qa1 na1 ca1] w (fun en w' => ∃ l : Unit, en = .returned (.bool res) ∧ (True) ∧ HV w (keys [] []) [] [] [] w') := by
  unfold m_laurelkit_Eq_apiSpan at hm
  refine g_enter (args := [.slice qa0 na0 ca0, .slice qa1 na1 ca1]) Try.func50 rfl Try.ntmps50 rfl (e := [(0, _), (1, _)]) rfl (H := HV w (keys [] []) [] [] [(aB qa0, aO qa0, RP.enc a0), (aB qa1, aO qa1, RP.enc b1)]) hw ?_
  refine g_seq ?_
  refine g_region ?_
  refine g_val rfl rfl rfl (fun _ _ => v_assign rfl) ?_
  refine g_nil ?_
  refine g_n_then ?_
  refine g_seq ?_
  refine g_region ?_
  refine g_val rfl rfl rfl (fun _ _ => v_move rfl) ?_
  refine g_val rfl rfl rfl (fun _ _ => v_move rfl) ?_
  obtain ⟨t7, h1, hm⟩ := bindO hm
  refine g_callH [] [] rfl rfl rfl rfl rfl rfl rfl (fun a w => Try.call121 a w) (fun w hh => c_slices_Equal_apiSpanapiSpan a0 b1 qa0 na0 ca0 qa1 na1 ca1 w (HV.callee (S0 := []) (vs0 := []) hh (roC (hh.rsep (S0 := []) (vs0 := []) 0 rfl) (roC (hh.rsep (S0 := []) (vs0 := []) 1 rfl) roN))) hna0 hqa0 hla0 hna1 hqa1 hla1 h1) (fun l h2 => ?_)
  refine g_val rfl rfl rfl (fun _ _ => v_assign rfl) ?_
  refine g_nil ?_
  refine g_n_then ?_
  refine g_ret ?_
  obtain rfl := Option.some.inj hm
  refine g_done rfl (fun w hh => (.tmp rfl .nil)) (fun w hh => ⟨(), rfl, trivial, hh.sel [] [] 2 (by decide) (by decide) rfl rfl rfl⟩)
end Go.Proofs.Wk
namespace Go.Proofs.Wk
open Go Go.Fw Go.Gx Go.Pl
set_option linter.unusedVariables false
structure m_laurellaw01_TideStates_C0 where
  own9 : Sands
  x10 : Sands
def m_laurellaw01_TideStates_Q0 : Plan := (.one 1 (.one 3 (.one 6 (.one 7 .done))))
def m_laurellaw01_TideStates_Q1 : Plan := (.br (.alt 3 (.one 4 (.one 6 (.one 7 .done))) (.alt 4 (.one 3 (.one 6 (.one 7 .done))) .nil)))
def m_laurellaw01_TideStates_Q2 : Plan := (.br (.alt 1 m_laurellaw01_TideStates_Q1 (.alt 4 m_laurellaw01_TideStates_Q0 .nil)))
def m_laurellaw01_TideStates_Q3 : Plan := (.br (.alt 3 (.one 5 (.one 6 (.one 7 .done))) (.alt 5 (.one 3 (.one 6 (.one 7 .done))) .nil)))
def m_laurellaw01_TideStates_Q4 : Plan := (.br (.alt 1 m_laurellaw01_TideStates_Q3 (.alt 5 m_laurellaw01_TideStates_Q0 .nil)))
def m_laurellaw01_TideStates_Q5 : Plan := (.br (.alt 4 (.one 5 (.one 6 (.one 7 .done))) (.alt 5 (.one 4 (.one 6 (.one 7 .done))) .nil)))
def m_laurellaw01_TideStates_Q6 : Plan := (.br (.alt 3 m_laurellaw01_TideStates_Q5 (.alt 4 m_laurellaw01_TideStates_Q3 (.alt 5 m_laurellaw01_TideStates_Q1 .nil))))
structure m_laurellaw01_TideStates_C1 where
  w11 : Int
  u12 : Int
  v13 : Int
  gates14 : (List Int)
structure m_laurellaw01_TideStates_S0 where
  t69 : Int
  want16 : (List Int)
def m_laurellaw01_TideStates_L0 (s0 : Sands) (o_1 : m_laurellaw01_TideStates_C1) (o : m_laurellaw01_TideStates_C0) (minute1 : Int) (s : m_laurellaw01_TideStates_S0) : Option (m_laurellaw01_TideStates_S0 ⊕ (List Int)) :=
 if s.t69 < (s0.floors.length : Int) then
 ((ix o_1.gates14 s.t69).bind fun t79 =>
 (m_laurelref01_Height o.x10 minute1).bind fun t76 =>
 (m_laurelref01_State o.x10 t76 t79).bind fun t81 =>
 (appc 8 s.want16 [t81]).bind fun t83 =>
 (addc s.t69 1).bind fun t84 =>
 some (.inl (⟨t84, t83⟩ : m_laurellaw01_TideStates_S0))) else
 (some (.inr s.want16))
def m_laurellaw01_TideStates_L1 (t101 : ((List Int) × Int)) (o_4 : (List Int)) (s_1 : Int) : Option (Int ⊕ (Unit ⊕ Bool)) :=
 if s_1 < (t101.1.length : Int) then
 ((ix t101.1 s_1).bind fun t141 =>
 (ix o_4 s_1).bind fun t146 =>
 if t141 = t146 then
 ((addc s_1 1).bind fun t149 =>
 some (.inl t149)) else
 (some (.inr (.inr false)))) else
 (some (.inr (.inl ())))
def m_laurellaw01_TideStates (s0 : Sands) (minute1 : Int) (place2 : Int) (state3 : Int) : Option Bool :=
 (m_laurellaw01_large s0).bind fun t28 =>
 if t28 = true then
 ((x_awake).bind fun t29 =>
 some t29) else
 (((m_laurellaw01_Own s0).bind fun t31 =>
 (m_laurellaw01_theirs s0).bind fun t33 =>
 some (⟨t31, t33⟩ : m_laurellaw01_TideStates_C0)).bind fun o =>
 (m_laurelref01_Check o.x10).bind fun t35 =>
 (if t35 = 0 then
 ((m_laurelref01_Gates o.x10).bind fun t41 =>
 (m_laurelref01_Minute o.x10 minute1).bind fun t44 =>
 (if t44 = 0 then
 ((m_laurelref01_Place o.x10 place2).bind fun t50 =>
 some t50) else
 (some t44)).bind fun o_2 =>
 (m_laurelref01_Place o.x10 place2).bind fun t53 =>
 (if t53 = 0 then
 (if state3 < 0 then
 (some true) else
 (some (decide (2 < state3)))) else
 (some false)).bind fun o_3 =>
 if o_3 = true then
 (some (⟨o_2, t44, 8, t41⟩ : m_laurellaw01_TideStates_C1)) else
 (some (⟨o_2, t44, t53, t41⟩ : m_laurellaw01_TideStates_C1))) else
 (some (⟨t35, t35, t35, []⟩ : m_laurellaw01_TideStates_C1))).bind fun o_1 =>
 (if o_1.u12 = 0 then
 ((iterM FU (m_laurellaw01_TideStates_L0 s0 o_1 o minute1) (⟨0, []⟩ : m_laurellaw01_TideStates_S0)).bind fun o_5 =>
 some o_5) else
 (some [])).bind fun o_4 =>
 (if o_1.w11 = 0 then
 ((ix o_4 place2).bind fun t89 =>
 some t89) else
 (some 0)).bind fun o_6 =>
 (x_At o.own9 minute1 place2).bind fun t95 =>
 (x_All o.own9 minute1).bind fun t101 =>
 (x_Spans o.own9 place2 state3).bind fun t108 =>
 (if t95.2 = o_1.w11 then
 (if t101.2 = o_1.u12 then
 (if t108.2 = o_1.v13 then
 (if t95.1 = o_6 then
 (some (!decide ((t101.1.length : Int) = (o_4.length : Int)))) else
 (some true)) else
 (some true)) else
 (some true)) else
 (some true)).bind fun o_7 =>
 if o_7 = true then
 (some false) else
 ((iterM FU (m_laurellaw01_TideStates_L1 t101 o_4) 0).bind fun o_8 =>
 oc o_8 (fun j => (if o_1.v13 = 0 then
 ((ix o_1.gates14 place2).bind fun t156 =>
 (m_laurelref01_Says o.x10 t156 state3).bind fun t159 =>
 (m_laurelref01_Spans o.x10 t159).bind fun t160 =>
 some t160) else
 (some [])).bind fun o_9 =>
 ((m_laurelkit_Eq_apiSpan t108.1 o_9).bind fun t163 =>
 if t163 = true then
 ((m_laurellaw01_same o.own9 s0).bind fun t167 =>
 if t167 = true then
 ((x_awake).bind fun t170 =>
 some t170) else
 (some false)) else
 (some false)).bind fun o_10 =>
 some o_10) (fun r_2 => some r_2)))
set_option maxRecDepth 100000 in
set_option maxHeartbeats 4000000 in
theorem c_laurellaw01_TideStates (s0 : Sands) (minute1 : Int) (place2 : Int) (state3 : Int) (qa0 : Option Addr) (na0 ca0 : Nat) (qa1 : Option Addr) (na1 ca1 : Nat) (qa2 : Option Addr) (na2 ca2 : Nat) (w : World) (hw : HV w (keys [] []) [] [] [(aB qa0, aO qa0, RW.enc s0.table), (aB qa1, aO qa1, RI.enc s0.floors), (aB qa2, aO qa2, RS.enc s0.sills)] w) (hna0 : s0.table.length = na0) (hqa0 : AOK na0 qa0) (hla0 : na0 ≤ ca0) (hna1 : s0.floors.length = na1) (hqa1 : AOK na1 qa1) (hla1 : na1 ≤ ca1) (hna2 : s0.sills.length = na2) (hqa2 : AOK na2 qa2) (hla2 : na2 ≤ ca2) {res : Bool} (hm : m_laurellaw01_TideStates s0 minute1 place2 state3 = some res) :
    Calls Try.prog 7 #[.agg #[.slice qa0 na0 ca0, .int .i64 s0.wind.lo, .int .i64 s0.wind.hi, .slice qa1 na1 ca1, .slice qa2 na2 ca2], .int .i64 minute1, .int .i64 place2, .int .i64 state3] w (fun en w' => ∃ l : Unit, en = .returned (.bool res) ∧ (True) ∧ HV w (keys [] []) [] [] [] w') := by
  unfold m_laurellaw01_TideStates at hm
  refine g_enter (args := [.agg #[.slice qa0 na0 ca0, .int .i64 s0.wind.lo, .int .i64 s0.wind.hi, .slice qa1 na1 ca1, .slice qa2 na2 ca2], .int .i64 minute1, .int .i64 place2, .int .i64 state3]) Try.func7 rfl Try.ntmps7 rfl (e := [(0, _), (1, _), (2, _), (3, _)]) rfl (H := HV w (keys [] []) [] [] [(aB qa0, aO qa0, RW.enc s0.table), (aB qa1, aO qa1, RI.enc s0.floors), (aB qa2, aO qa2, RS.enc s0.sills)]) hw ?_
  refine g_seq ?_
  refine g_region ?_
  refine g_boxV rfl rfl (fun b h1 => ?_)
  refine g_val rfl rfl rfl (fun _ _ => v_assign rfl) ?_
  refine g_nil ?_
  refine g_n_then ?_
  refine g_seq ?_
  refine g_seq ?_
  refine g_region ?_
  refine g_val rfl rfl rfl (fun w hh => v_loadAgg (vs := [_, _, _, _, _]) (Try.isAgg29 w) (Try.sizeOf29 w) rfl (hh.cells 0 rfl rfl)) ?_
  obtain ⟨t28, h2, hm⟩ := bindO hm
  refine g_callH [] [] rfl rfl rfl rfl rfl rfl rfl (fun a w => Try.call42 a w) (fun w hh => c_laurellaw01_large s0 qa0 na0 ca0 qa1 na1 ca1 qa2 na2 ca2 w (HV.callee (S0 := []) (vs0 := []) hh (roC (hh.rsep (S0 := []) (vs0 := []) 0 rfl) (roC (hh.rsep (S0 := []) (vs0 := []) 1 rfl) (roC (hh.rsep (S0 := []) (vs0 := []) 2 rfl) roN)))) hna0 hqa0 hla0 hna1 hqa1 hla1 hna2 hqa2 hla2 h2) (fun l h3 => ?_)
  refine g_nil ?_
  refine g_n_then ?_
  refine g_cond rfl (fun h4 => ?_) (fun h4 => ?_)
  ·replace hm := ifT (h4) hm
   refine g_seq ?_
   refine g_region ?_
   obtain ⟨t29, h5, hm⟩ := bindO hm
   refine g_callH [] [] rfl rfl rfl rfl rfl rfl rfl (fun a w => Try.call30 a w) (fun w hh => cx_awake  w (HV.callee (S0 := []) (vs0 := []) hh roN)  h5) (fun l_1 h6 => ?_)
   refine g_val rfl rfl rfl (fun _ _ => v_assign rfl) ?_
   refine g_nil ?_
   refine g_n_then ?_
   refine g_ret ?_
   refine g_r_then ?_
   obtain rfl := Option.some.inj hm
   refine g_done rfl (fun w hh => (.tmp rfl .nil)) (fun w hh => ⟨(), rfl, trivial, hh.sel [] [] 3 (by decide) (by decide) rfl rfl rfl⟩)
  ·replace hm := ifF ((fun hh => Bool.noConfusion ((h4).symm.trans hh))) hm
   refine g_skip ?_
   refine g_n_then ?_
   refine g_seq ?_
   obtain ⟨o, h7, h8⟩ := bindO hm
   refine g_cut (ι := Nat × Nat × VL × VL × VL × VL × VL × VL) (fun l_2 => VOK 2 l_2.2.2.1.n l_2.2.2.1.cap (RW.enc o.own9.table) l_2.2.2.1.sp l_2.2.2.1.q ∧ VOK 1 l_2.2.2.2.1.n l_2.2.2.2.1.cap (RI.enc o.own9.floors) l_2.2.2.2.1.sp l_2.2.2.2.1.q ∧ VOK 3 l_2.2.2.2.2.1.n l_2.2.2.2.2.1.cap (RS.enc o.own9.sills) l_2.2.2.2.2.1.sp l_2.2.2.2.2.1.q ∧ VOK 2 l_2.2.2.2.2.2.1.n l_2.2.2.2.2.2.1.cap (RW.enc o.x10.table) l_2.2.2.2.2.2.1.sp l_2.2.2.2.2.2.1.q ∧ VOK 1 l_2.2.2.2.2.2.2.1.n l_2.2.2.2.2.2.2.1.cap (RI.enc o.x10.floors) l_2.2.2.2.2.2.2.1.sp l_2.2.2.2.2.2.2.1.q ∧ VOK 3 l_2.2.2.2.2.2.2.2.n l_2.2.2.2.2.2.2.2.cap (RS.enc o.x10.sills) l_2.2.2.2.2.2.2.2.sp l_2.2.2.2.2.2.2.2.q) (fun l_2 => [(1, .int .i64 minute1), (2, .int .i64 place2), (3, .int .i64 state3), (4, ptr b 0), (9, ptr l_2.1 0), (10, ptr l_2.2.1 0)]) (fun l_2 => [(b, .cells #[.slice qa0 na0 ca0, .int .i64 s0.wind.lo, .int .i64 s0.wind.hi, .slice qa1 na1 ca1, .slice qa2 na2 ca2] 29 (0, 0)), (l_2.1, .cells #[slv l_2.2.2.1.q l_2.2.2.1.n l_2.2.2.1.cap, .int .i64 o.own9.wind.lo, .int .i64 o.own9.wind.hi, slv l_2.2.2.2.1.q l_2.2.2.2.1.n l_2.2.2.2.1.cap, slv l_2.2.2.2.2.1.q l_2.2.2.2.2.1.n l_2.2.2.2.2.1.cap] 29 (0, 0)), (l_2.2.1, .cells #[slv l_2.2.2.2.2.2.1.q l_2.2.2.2.2.2.1.n l_2.2.2.2.2.2.1.cap, .int .i64 o.x10.wind.lo, .int .i64 o.x10.wind.hi, slv l_2.2.2.2.2.2.2.1.q l_2.2.2.2.2.2.2.1.n l_2.2.2.2.2.2.2.1.cap, slv l_2.2.2.2.2.2.2.2.q l_2.2.2.2.2.2.2.2.n l_2.2.2.2.2.2.2.2.cap] 59 (0, 0))]) (fun l_2 => [⟨68, RW.enc o.own9.table, l_2.2.2.1.sp, l_2.2.2.1.q⟩, ⟨3, RI.enc o.own9.floors, l_2.2.2.2.1.sp, l_2.2.2.2.1.q⟩, ⟨51, RS.enc o.own9.sills, l_2.2.2.2.2.1.sp, l_2.2.2.2.2.1.q⟩, ⟨158, RW.enc o.x10.table, l_2.2.2.2.2.2.1.sp, l_2.2.2.2.2.2.1.q⟩, ⟨3, RI.enc o.x10.floors, l_2.2.2.2.2.2.2.1.sp, l_2.2.2.2.2.2.2.1.q⟩, ⟨159, RS.enc o.x10.sills, l_2.2.2.2.2.2.2.2.sp, l_2.2.2.2.2.2.2.2.q⟩]) ?_ ?_
   ·replace hm := h7
    obtain ⟨t31, h15, hm⟩ := bindO hm
    obtain ⟨t33, h16, hm⟩ := bindO hm
    refine g_draw none (.hoist 0 (.hoist 2 (.br (.alt 1 m_laurellaw01_TideStates_Q6 (.alt 4 m_laurellaw01_TideStates_Q4 (.alt 5 m_laurellaw01_TideStates_Q2 .nil)))))) _ rfl (by decide +kernel) (fun w k hh => hh.draw k) (fun w hh => hh) ?_
    refine p_hoist rfl rfl rfl rfl (fun w hh => v_loadAgg (vs := [_, _, _, _, _]) (Try.isAgg29 w) (Try.sizeOf29 w) rfl (hh.cells 0 rfl rfl)) ?_
    refine p_hoist rfl rfl rfl rfl (fun w hh => v_loadAgg (vs := [_, _, _, _, _]) (Try.isAgg29 w) (Try.sizeOf29 w) rfl (hh.cells 0 rfl rfl)) ?_
    refine p_share (.one 7 .done) (fun g => ∀ (b_1 : Nat) (b_2 : Nat) (L : VL) (L_1 : VL) (L_2 : VL) (L_3 : VL) (L_4 : VL) (L_5 : VL), vk 2 L (RW.enc t33.table) → vk 1 L_1 (RI.enc t33.floors) → vk 3 L_2 (RS.enc t33.sills) → vk 2 L_3 (RW.enc t31.table) → vk 1 L_4 (RI.enc t31.floors) → vk 3 L_5 (RS.enc t31.sills) → g [(1, .int .i64 minute1), (2, .int .i64 place2), (3, .int .i64 state3), (4, ptr b 0), (9, ptr b_1 0), (10, ptr b_2 0), (33, .agg #[sL L, .int .i64 t33.wind.lo, .int .i64 t33.wind.hi, sL L_1, sL L_2])] [(b, .cells #[.slice qa0 na0 ca0, .int .i64 s0.wind.lo, .int .i64 s0.wind.hi, .slice qa1 na1 ca1, .slice qa2 na2 ca2] 29 (0, 0)), (b_1, .cells #[sL L_3, .int .i64 t31.wind.lo, .int .i64 t31.wind.hi, sL L_4, sL L_5] 29 (0, 0)), (b_2, .cells #[slv none 0 0, .int .i64 0, .int .i64 0, slv none 0 0, slv none 0 0] 59 (0, 0))] [vL 158 L (RW.enc t33.table), vL 3 L_1 (RI.enc t33.floors), vL 159 L_2 (RS.enc t33.sills), vL 68 L_3 (RW.enc t31.table), vL 3 L_4 (RI.enc t31.floors), vL 51 L_5 (RS.enc t31.sills)]) ?_ (fun h23 => ?_)
    ·intro b_1 b_2 L L_1 L_2 L_3 L_4 L_5 h17 h18 h19 h20 h21 h22
     refine p_one rfl ?_
     refine g_stSA (us := #[_, _, _, _, _]) (cs' := [_, _, _, _, _]) (S' := [_, _, _]) 2 (fun w => Try.sizeOf59 w) rfl rfl rfl rfl rfl rfl rfl ?_
     refine p_next (fun w hh => hh.sel [0] [] 0 (by decide) (by decide) rfl rfl rfl) ?_
     refine p_done ?_
     obtain rfl := Option.some.inj hm
     exact g_leaf (b_1, b_2, L_3, L_4, L_5, L, L_1, L_2) (⟨h20, h21, h22, h17, h18, h19⟩) ((.cons rfl (.cons rfl (.cons rfl (.cons rfl (.cons rfl (.cons rfl .nil))))))) (fun w hh => hh.sel [0, 1, 2] [3, 4, 5, 0, 1, 2] 0 (by decide) (by decide) rfl rfl rfl)
    refine p_share (.one 6 (.one 7 .done)) (fun g => ∀ (b_3 : Nat) (b_4 : Nat) (L_6 : VL) (L_7 : VL) (L_8 : VL) (L_9 : VL) (L_10 : VL) (L_11 : VL), vk 2 L_6 (RW.enc t31.table) → vk 1 L_7 (RI.enc t31.floors) → vk 3 L_8 (RS.enc t31.sills) → vk 2 L_9 (RW.enc t33.table) → vk 1 L_10 (RI.enc t33.floors) → vk 3 L_11 (RS.enc t33.sills) → g [(1, .int .i64 minute1), (2, .int .i64 place2), (3, .int .i64 state3), (4, ptr b 0), (9, ptr b_3 0), (10, ptr b_4 0), (31, .agg #[sL L_6, .int .i64 t31.wind.lo, .int .i64 t31.wind.hi, sL L_7, sL L_8]), (33, .agg #[sL L_9, .int .i64 t33.wind.lo, .int .i64 t33.wind.hi, sL L_10, sL L_11])] [(b, .cells #[.slice qa0 na0 ca0, .int .i64 s0.wind.lo, .int .i64 s0.wind.hi, .slice qa1 na1 ca1, .slice qa2 na2 ca2] 29 (0, 0)), (b_3, .cells #[slv none 0 0, .int .i64 0, .int .i64 0, slv none 0 0, slv none 0 0] 29 (0, 0)), (b_4, .cells #[slv none 0 0, .int .i64 0, .int .i64 0, slv none 0 0, slv none 0 0] 59 (0, 0))] [vL 68 L_6 (RW.enc t31.table), vL 3 L_7 (RI.enc t31.floors), vL 51 L_8 (RS.enc t31.sills), vL 158 L_9 (RW.enc t33.table), vL 3 L_10 (RI.enc t33.floors), vL 159 L_11 (RS.enc t33.sills)]) ?_ (fun h30 => ?_)
    ·intro b_3 b_4 L_6 L_7 L_8 L_9 L_10 L_11 h24 h25 h26 h27 h28 h29
     refine p_one rfl ?_
     refine g_stSA (us := #[_, _, _, _, _]) (cs' := [_, _, _, _, _]) (S' := [_, _, _]) 1 (fun w => Try.sizeOf29 w) rfl rfl rfl rfl rfl rfl rfl ?_
     refine p_next (fun w hh => hh.sel [0] [] 0 (by decide) (by decide) rfl rfl rfl) ?_
     exact p_shr (h23 b_3 b_4 L_9 L_10 L_11 L_6 L_7 L_8 h27 h28 h29 h24 h25 h26) ((.cons rfl (.cons rfl (.cons rfl (.cons rfl (.cons rfl (.cons rfl (.cons rfl .nil)))))))) (fun w hh => hh.sel [0, 1, 2] [3, 4, 5, 0, 1, 2] 0 (by decide) (by decide) rfl rfl rfl)
    refine p_share (.one 3 (.one 6 (.one 7 .done))) (fun g => ∀ (b_5 : Nat) (b_6 : Nat) (L_12 : VL) (L_13 : VL) (L_14 : VL), vk 2 L_12 (RW.enc t31.table) → vk 1 L_13 (RI.enc t31.floors) → vk 3 L_14 (RS.enc t31.sills) → g [(1, .int .i64 minute1), (2, .int .i64 place2), (3, .int .i64 state3), (4, ptr b 0), (9, ptr b_5 0), (10, ptr b_6 0), (31, .agg #[sL L_12, .int .i64 t31.wind.lo, .int .i64 t31.wind.hi, sL L_13, sL L_14]), (32, .agg #[.slice qa0 na0 ca0, .int .i64 s0.wind.lo, .int .i64 s0.wind.hi, .slice qa1 na1 ca1, .slice qa2 na2 ca2])] [(b, .cells #[.slice qa0 na0 ca0, .int .i64 s0.wind.lo, .int .i64 s0.wind.hi, .slice qa1 na1 ca1, .slice qa2 na2 ca2] 29 (0, 0)), (b_5, .cells #[slv none 0 0, .int .i64 0, .int .i64 0, slv none 0 0, slv none 0 0] 29 (0, 0)), (b_6, .cells #[slv none 0 0, .int .i64 0, .int .i64 0, slv none 0 0, slv none 0 0] 59 (0, 0))] [vL 68 L_12 (RW.enc t31.table), vL 3 L_13 (RI.enc t31.floors), vL 51 L_14 (RS.enc t31.sills)]) ?_ (fun h34 => ?_)
    ·intro b_5 b_6 L_12 L_13 L_14 h31 h32 h33
     refine p_one rfl ?_
     refine g_callH [] [] rfl rfl rfl rfl rfl rfl rfl (fun a w => Try.call32 a w) (fun w hh => c_laurellaw01_theirs s0 qa0 na0 ca0 qa1 na1 ca1 qa2 na2 ca2 w (HV.callee (S0 := []) (vs0 := []) hh (roC (hh.rsep (S0 := []) (vs0 := []) 0 rfl) (roC (hh.rsep (S0 := []) (vs0 := []) 1 rfl) (roC (hh.rsep (S0 := []) (vs0 := []) 2 rfl) roN)))) hna0 hqa0 hla0 hna1 hqa1 hla1 hna2 hqa2 hla2 h16) (fun l_3 h35 => ?_)
     obtain ⟨h36, h37, h38⟩ := h35
     refine g_sel (S' := [_, _, _]) (vs' := [_, _, _, _, _, _]) [0, 1, 2] [0, 1, 2, 3, 4, 5] 0 (by decide) (by decide) rfl rfl rfl ?_
     refine p_next (fun w hh => hh.sel [0] [] 0 (by decide) (by decide) rfl rfl rfl) ?_
     exact p_shr (h30 b_5 b_6 L_12 L_13 L_14 l_3.1 l_3.2.1 l_3.2.2 h31 h32 h33 h36 h37 h38) ((.cons rfl (.cons rfl (.cons rfl (.cons rfl (.cons rfl (.cons rfl (.cons rfl (.cons rfl .nil))))))))) (fun w hh => hh.sel [0, 1, 2] [3, 4, 5, 0, 1, 2] 0 (by decide) (by decide) rfl rfl rfl)
    refine p_share (.one 4 (.one 6 (.one 7 .done))) (fun g => ∀ (b_7 : Nat) (L_15 : VL) (L_16 : VL) (L_17 : VL) (L_18 : VL) (L_19 : VL) (L_20 : VL), vk 2 L_15 (RW.enc t31.table) → vk 1 L_16 (RI.enc t31.floors) → vk 3 L_17 (RS.enc t31.sills) → vk 2 L_18 (RW.enc t33.table) → vk 1 L_19 (RI.enc t33.floors) → vk 3 L_20 (RS.enc t33.sills) → g [(1, .int .i64 minute1), (2, .int .i64 place2), (3, .int .i64 state3), (4, ptr b 0), (10, ptr b_7 0), (31, .agg #[sL L_15, .int .i64 t31.wind.lo, .int .i64 t31.wind.hi, sL L_16, sL L_17]), (33, .agg #[sL L_18, .int .i64 t33.wind.lo, .int .i64 t33.wind.hi, sL L_19, sL L_20])] [(b, .cells #[.slice qa0 na0 ca0, .int .i64 s0.wind.lo, .int .i64 s0.wind.hi, .slice qa1 na1 ca1, .slice qa2 na2 ca2] 29 (0, 0)), (b_7, .cells #[slv none 0 0, .int .i64 0, .int .i64 0, slv none 0 0, slv none 0 0] 59 (0, 0))] [vL 68 L_15 (RW.enc t31.table), vL 3 L_16 (RI.enc t31.floors), vL 51 L_17 (RS.enc t31.sills), vL 158 L_18 (RW.enc t33.table), vL 3 L_19 (RI.enc t33.floors), vL 159 L_20 (RS.enc t33.sills)]) ?_ (fun h45 => ?_)
    ·intro b_7 L_15 L_16 L_17 L_18 L_19 L_20 h39 h40 h41 h42 h43 h44
     refine p_one rfl ?_
     refine g_allocV (fun w => Try.zeroValue29 w) rfl (fun b_8 h46 => ?_)
     refine p_next (fun w hh => hh.sel [1] [] 0 (by decide) (by decide) rfl rfl rfl) ?_
     exact p_shr (h30 b_8 b_7 L_15 L_16 L_17 L_18 L_19 L_20 h39 h40 h41 h42 h43 h44) ((.cons rfl (.cons rfl (.cons rfl (.cons rfl (.cons rfl (.cons rfl (.cons rfl (.cons rfl .nil))))))))) (fun w hh => hh.sel [1, 0, 2] [0, 1, 2, 3, 4, 5] 0 (by decide) (by decide) rfl rfl rfl)
    refine p_share (.one 5 (.one 6 (.one 7 .done))) (fun g => ∀ (b_9 : Nat) (L_21 : VL) (L_22 : VL) (L_23 : VL) (L_24 : VL) (L_25 : VL) (L_26 : VL), vk 2 L_21 (RW.enc t31.table) → vk 1 L_22 (RI.enc t31.floors) → vk 3 L_23 (RS.enc t31.sills) → vk 2 L_24 (RW.enc t33.table) → vk 1 L_25 (RI.enc t33.floors) → vk 3 L_26 (RS.enc t33.sills) → g [(1, .int .i64 minute1), (2, .int .i64 place2), (3, .int .i64 state3), (4, ptr b 0), (9, ptr b_9 0), (31, .agg #[sL L_21, .int .i64 t31.wind.lo, .int .i64 t31.wind.hi, sL L_22, sL L_23]), (33, .agg #[sL L_24, .int .i64 t33.wind.lo, .int .i64 t33.wind.hi, sL L_25, sL L_26])] [(b, .cells #[.slice qa0 na0 ca0, .int .i64 s0.wind.lo, .int .i64 s0.wind.hi, .slice qa1 na1 ca1, .slice qa2 na2 ca2] 29 (0, 0)), (b_9, .cells #[slv none 0 0, .int .i64 0, .int .i64 0, slv none 0 0, slv none 0 0] 29 (0, 0))] [vL 68 L_21 (RW.enc t31.table), vL 3 L_22 (RI.enc t31.floors), vL 51 L_23 (RS.enc t31.sills), vL 158 L_24 (RW.enc t33.table), vL 3 L_25 (RI.enc t33.floors), vL 159 L_26 (RS.enc t33.sills)]) ?_ (fun h53 => ?_)
    ·intro b_9 L_21 L_22 L_23 L_24 L_25 L_26 h47 h48 h49 h50 h51 h52
     refine p_one rfl ?_
     refine g_allocV (fun w => Try.zeroValue59 w) rfl (fun b_10 h54 => ?_)
     refine p_next (fun w hh => hh.sel [1] [] 0 (by decide) (by decide) rfl rfl rfl) ?_
     exact p_shr (h30 b_9 b_10 L_21 L_22 L_23 L_24 L_25 L_26 h47 h48 h49 h50 h51 h52) ((.cons rfl (.cons rfl (.cons rfl (.cons rfl (.cons rfl (.cons rfl (.cons rfl (.cons rfl .nil))))))))) (fun w hh => hh.sel [1, 2, 0] [0, 1, 2, 3, 4, 5] 0 (by decide) (by decide) rfl rfl rfl)
    refine p_share m_laurellaw01_TideStates_Q0 (fun g => ∀ (b_11 : Nat) (b_12 : Nat), g [(1, .int .i64 minute1), (2, .int .i64 place2), (3, .int .i64 state3), (4, ptr b 0), (9, ptr b_11 0), (10, ptr b_12 0), (30, .agg #[.slice qa0 na0 ca0, .int .i64 s0.wind.lo, .int .i64 s0.wind.hi, .slice qa1 na1 ca1, .slice qa2 na2 ca2]), (32, .agg #[.slice qa0 na0 ca0, .int .i64 s0.wind.lo, .int .i64 s0.wind.hi, .slice qa1 na1 ca1, .slice qa2 na2 ca2])] [(b, .cells #[.slice qa0 na0 ca0, .int .i64 s0.wind.lo, .int .i64 s0.wind.hi, .slice qa1 na1 ca1, .slice qa2 na2 ca2] 29 (0, 0)), (b_11, .cells #[slv none 0 0, .int .i64 0, .int .i64 0, slv none 0 0, slv none 0 0] 29 (0, 0)), (b_12, .cells #[slv none 0 0, .int .i64 0, .int .i64 0, slv none 0 0, slv none 0 0] 59 (0, 0))] []) ?_ (fun h55 => ?_)
    ·intro b_11 b_12
     refine p_one rfl ?_
     refine g_callH [] [] rfl rfl rfl rfl rfl rfl rfl (fun a w => Try.call25 a w) (fun w hh => c_laurellaw01_Own s0 qa0 na0 ca0 qa1 na1 ca1 qa2 na2 ca2 w (HV.callee (S0 := []) (vs0 := []) hh (roC (hh.rsep (S0 := []) (vs0 := []) 0 rfl) (roC (hh.rsep (S0 := []) (vs0 := []) 1 rfl) (roC (hh.rsep (S0 := []) (vs0 := []) 2 rfl) roN)))) hna0 hqa0 hla0 hna1 hqa1 hla1 hna2 hqa2 hla2 h15) (fun l_4 h56 => ?_)
     obtain ⟨h57, h58, h59⟩ := h56
     refine g_sel (S' := [_, _, _]) (vs' := [_, _, _]) [0, 1, 2] [0, 1, 2] 0 (by decide) (by decide) rfl rfl rfl ?_
     refine p_next (fun w hh => hh.sel [0] [] 0 (by decide) (by decide) rfl rfl rfl) ?_
     exact p_shr (h34 b_11 b_12 l_4.1 l_4.2.1 l_4.2.2 h57 h58 h59) ((.cons rfl (.cons rfl (.cons rfl (.cons rfl (.cons rfl (.cons rfl (.cons rfl (.cons rfl .nil))))))))) (fun w hh => hh)
    refine p_share m_laurellaw01_TideStates_Q1 (fun g => ∀ (b_13 : Nat) (L_27 : VL) (L_28 : VL) (L_29 : VL), vk 2 L_27 (RW.enc t31.table) → vk 1 L_28 (RI.enc t31.floors) → vk 3 L_29 (RS.enc t31.sills) → g [(1, .int .i64 minute1), (2, .int .i64 place2), (3, .int .i64 state3), (4, ptr b 0), (10, ptr b_13 0), (31, .agg #[sL L_27, .int .i64 t31.wind.lo, .int .i64 t31.wind.hi, sL L_28, sL L_29]), (32, .agg #[.slice qa0 na0 ca0, .int .i64 s0.wind.lo, .int .i64 s0.wind.hi, .slice qa1 na1 ca1, .slice qa2 na2 ca2])] [(b, .cells #[.slice qa0 na0 ca0, .int .i64 s0.wind.lo, .int .i64 s0.wind.hi, .slice qa1 na1 ca1, .slice qa2 na2 ca2] 29 (0, 0)), (b_13, .cells #[slv none 0 0, .int .i64 0, .int .i64 0, slv none 0 0, slv none 0 0] 59 (0, 0))] [vL 68 L_27 (RW.enc t31.table), vL 3 L_28 (RI.enc t31.floors), vL 51 L_29 (RS.enc t31.sills)]) ?_ (fun h63 => ?_)
    ·intro b_13 L_27 L_28 L_29 h60 h61 h62
     refine p_br ?_
     refine p_alt rfl ?_ ?_
     ·refine g_callH [] [] rfl rfl rfl rfl rfl rfl rfl (fun a w => Try.call32 a w) (fun w hh => c_laurellaw01_theirs s0 qa0 na0 ca0 qa1 na1 ca1 qa2 na2 ca2 w (HV.callee (S0 := []) (vs0 := []) hh (roC (hh.rsep (S0 := []) (vs0 := []) 0 rfl) (roC (hh.rsep (S0 := []) (vs0 := []) 1 rfl) (roC (hh.rsep (S0 := []) (vs0 := []) 2 rfl) roN)))) hna0 hqa0 hla0 hna1 hqa1 hla1 hna2 hqa2 hla2 h16) (fun l_5 h64 => ?_)
      obtain ⟨h65, h66, h67⟩ := h64
      refine g_sel (S' := [_, _]) (vs' := [_, _, _, _, _, _]) [0, 1] [0, 1, 2, 3, 4, 5] 0 (by decide) (by decide) rfl rfl rfl ?_
      refine p_next (fun w hh => hh.sel [0] [] 0 (by decide) (by decide) rfl rfl rfl) ?_
      exact p_shr (h45 b_13 L_27 L_28 L_29 l_5.1 l_5.2.1 l_5.2.2 h60 h61 h62 h65 h66 h67) ((.cons rfl (.cons rfl (.cons rfl (.cons rfl (.cons rfl (.cons rfl (.cons rfl .nil)))))))) (fun w hh => hh.sel [0, 1] [3, 4, 5, 0, 1, 2] 0 (by decide) (by decide) rfl rfl rfl)
     refine p_alt rfl ?_ ?_
     ·refine g_allocV (fun w => Try.zeroValue29 w) rfl (fun b_14 h68 => ?_)
      refine p_next (fun w hh => hh.sel [1] [] 0 (by decide) (by decide) rfl rfl rfl) ?_
      exact p_shr (h34 b_14 b_13 L_27 L_28 L_29 h60 h61 h62) ((.cons rfl (.cons rfl (.cons rfl (.cons rfl (.cons rfl (.cons rfl (.cons rfl (.cons rfl .nil))))))))) (fun w hh => hh.sel [1, 0, 2] [0, 1, 2] 0 (by decide) (by decide) rfl rfl rfl)
     exact p_nil
    refine p_share m_laurellaw01_TideStates_Q3 (fun g => ∀ (b_15 : Nat) (L_30 : VL) (L_31 : VL) (L_32 : VL), vk 2 L_30 (RW.enc t31.table) → vk 1 L_31 (RI.enc t31.floors) → vk 3 L_32 (RS.enc t31.sills) → g [(1, .int .i64 minute1), (2, .int .i64 place2), (3, .int .i64 state3), (4, ptr b 0), (9, ptr b_15 0), (31, .agg #[sL L_30, .int .i64 t31.wind.lo, .int .i64 t31.wind.hi, sL L_31, sL L_32]), (32, .agg #[.slice qa0 na0 ca0, .int .i64 s0.wind.lo, .int .i64 s0.wind.hi, .slice qa1 na1 ca1, .slice qa2 na2 ca2])] [(b, .cells #[.slice qa0 na0 ca0, .int .i64 s0.wind.lo, .int .i64 s0.wind.hi, .slice qa1 na1 ca1, .slice qa2 na2 ca2] 29 (0, 0)), (b_15, .cells #[slv none 0 0, .int .i64 0, .int .i64 0, slv none 0 0, slv none 0 0] 29 (0, 0))] [vL 68 L_30 (RW.enc t31.table), vL 3 L_31 (RI.enc t31.floors), vL 51 L_32 (RS.enc t31.sills)]) ?_ (fun h72 => ?_)
    ·intro b_15 L_30 L_31 L_32 h69 h70 h71
     refine p_br ?_
     refine p_alt rfl ?_ ?_
     ·refine g_callH [] [] rfl rfl rfl rfl rfl rfl rfl (fun a w => Try.call32 a w) (fun w hh => c_laurellaw01_theirs s0 qa0 na0 ca0 qa1 na1 ca1 qa2 na2 ca2 w (HV.callee (S0 := []) (vs0 := []) hh (roC (hh.rsep (S0 := []) (vs0 := []) 0 rfl) (roC (hh.rsep (S0 := []) (vs0 := []) 1 rfl) (roC (hh.rsep (S0 := []) (vs0 := []) 2 rfl) roN)))) hna0 hqa0 hla0 hna1 hqa1 hla1 hna2 hqa2 hla2 h16) (fun l_6 h73 => ?_)
      obtain ⟨h74, h75, h76⟩ := h73
      refine g_sel (S' := [_, _]) (vs' := [_, _, _, _, _, _]) [0, 1] [0, 1, 2, 3, 4, 5] 0 (by decide) (by decide) rfl rfl rfl ?_
      refine p_next (fun w hh => hh.sel [0] [] 0 (by decide) (by decide) rfl rfl rfl) ?_
      exact p_shr (h53 b_15 L_30 L_31 L_32 l_6.1 l_6.2.1 l_6.2.2 h69 h70 h71 h74 h75 h76) ((.cons rfl (.cons rfl (.cons rfl (.cons rfl (.cons rfl (.cons rfl (.cons rfl .nil)))))))) (fun w hh => hh.sel [0, 1] [3, 4, 5, 0, 1, 2] 0 (by decide) (by decide) rfl rfl rfl)
     refine p_alt rfl ?_ ?_
     ·refine g_allocV (fun w => Try.zeroValue59 w) rfl (fun b_16 h77 => ?_)
      refine p_next (fun w hh => hh.sel [1] [] 0 (by decide) (by decide) rfl rfl rfl) ?_
      exact p_shr (h34 b_15 b_16 L_30 L_31 L_32 h69 h70 h71) ((.cons rfl (.cons rfl (.cons rfl (.cons rfl (.cons rfl (.cons rfl (.cons rfl (.cons rfl .nil))))))))) (fun w hh => hh.sel [1, 2, 0] [0, 1, 2] 0 (by decide) (by decide) rfl rfl rfl)
     exact p_nil
    refine p_br ?_
    refine p_alt rfl ?_ ?_
    ·refine g_callH [] [] rfl rfl rfl rfl rfl rfl rfl (fun a w => Try.call25 a w) (fun w hh => c_laurellaw01_Own s0 qa0 na0 ca0 qa1 na1 ca1 qa2 na2 ca2 w (HV.callee (S0 := []) (vs0 := []) hh (roC (hh.rsep (S0 := []) (vs0 := []) 0 rfl) (roC (hh.rsep (S0 := []) (vs0 := []) 1 rfl) (roC (hh.rsep (S0 := []) (vs0 := []) 2 rfl) roN)))) hna0 hqa0 hla0 hna1 hqa1 hla1 hna2 hqa2 hla2 h15) (fun l_7 h78 => ?_)
     obtain ⟨h79, h80, h81⟩ := h78
     refine g_sel (S' := [_]) (vs' := [_, _, _]) [0] [0, 1, 2] 0 (by decide) (by decide) rfl rfl rfl ?_
     refine p_next (fun w hh => hh.sel [0] [] 0 (by decide) (by decide) rfl rfl rfl) ?_
     refine p_br ?_
     refine p_alt rfl ?_ ?_
     ·refine g_callH [] [] rfl rfl rfl rfl rfl rfl rfl (fun a w => Try.call32 a w) (fun w hh => c_laurellaw01_theirs s0 qa0 na0 ca0 qa1 na1 ca1 qa2 na2 ca2 w (HV.callee (S0 := []) (vs0 := []) hh (roC (hh.rsep (S0 := []) (vs0 := []) 0 rfl) (roC (hh.rsep (S0 := []) (vs0 := []) 1 rfl) (roC (hh.rsep (S0 := []) (vs0 := []) 2 rfl) roN)))) hna0 hqa0 hla0 hna1 hqa1 hla1 hna2 hqa2 hla2 h16) (fun l_8 h82 => ?_)
      obtain ⟨h83, h84, h85⟩ := h82
      refine g_sel (S' := [_]) (vs' := [_, _, _, _, _, _]) [0] [0, 1, 2, 3, 4, 5] 0 (by decide) (by decide) rfl rfl rfl ?_
      refine p_next (fun w hh => hh.sel [0] [] 0 (by decide) (by decide) rfl rfl rfl) ?_
      refine p_br ?_
      refine p_alt rfl ?_ ?_
      ·refine g_allocV (fun w => Try.zeroValue29 w) rfl (fun b_17 h86 => ?_)
       refine p_next (fun w hh => hh.sel [1] [] 0 (by decide) (by decide) rfl rfl rfl) ?_
       exact p_shr (h53 b_17 l_7.1 l_7.2.1 l_7.2.2 l_8.1 l_8.2.1 l_8.2.2 h79 h80 h81 h83 h84 h85) ((.cons rfl (.cons rfl (.cons rfl (.cons rfl (.cons rfl (.cons rfl (.cons rfl .nil)))))))) (fun w hh => hh.sel [1, 0] [3, 4, 5, 0, 1, 2] 0 (by decide) (by decide) rfl rfl rfl)
      refine p_alt rfl ?_ ?_
      ·refine g_allocV (fun w => Try.zeroValue59 w) rfl (fun b_18 h87 => ?_)
       refine p_next (fun w hh => hh.sel [1] [] 0 (by decide) (by decide) rfl rfl rfl) ?_
       exact p_shr (h45 b_18 l_7.1 l_7.2.1 l_7.2.2 l_8.1 l_8.2.1 l_8.2.2 h79 h80 h81 h83 h84 h85) ((.cons rfl (.cons rfl (.cons rfl (.cons rfl (.cons rfl (.cons rfl (.cons rfl .nil)))))))) (fun w hh => hh.sel [1, 0] [3, 4, 5, 0, 1, 2] 0 (by decide) (by decide) rfl rfl rfl)
      exact p_nil
     refine p_alt rfl ?_ ?_
     ·refine g_allocV (fun w => Try.zeroValue29 w) rfl (fun b_19 h88 => ?_)
      refine p_next (fun w hh => hh.sel [1] [] 0 (by decide) (by decide) rfl rfl rfl) ?_
      exact p_shr (h72 b_19 l_7.1 l_7.2.1 l_7.2.2 h79 h80 h81) ((.cons rfl (.cons rfl (.cons rfl (.cons rfl (.cons rfl (.cons rfl (.cons rfl .nil)))))))) (fun w hh => hh.sel [1, 0] [0, 1, 2] 0 (by decide) (by decide) rfl rfl rfl)
     refine p_alt rfl ?_ ?_
     ·refine g_allocV (fun w => Try.zeroValue59 w) rfl (fun b_20 h89 => ?_)
      refine p_next (fun w hh => hh.sel [1] [] 0 (by decide) (by decide) rfl rfl rfl) ?_
      exact p_shr (h63 b_20 l_7.1 l_7.2.1 l_7.2.2 h79 h80 h81) ((.cons rfl (.cons rfl (.cons rfl (.cons rfl (.cons rfl (.cons rfl (.cons rfl .nil)))))))) (fun w hh => hh.sel [1, 0] [0, 1, 2] 0 (by decide) (by decide) rfl rfl rfl)
     exact p_nil
    refine p_alt rfl ?_ ?_
    ·refine g_allocV (fun w => Try.zeroValue29 w) rfl (fun b_21 h90 => ?_)
     refine p_next (fun w hh => hh.sel [1] [] 0 (by decide) (by decide) rfl rfl rfl) ?_
     refine p_br ?_
     refine p_alt rfl ?_ ?_
     ·refine g_callH [] [] rfl rfl rfl rfl rfl rfl rfl (fun a w => Try.call25 a w) (fun w hh => c_laurellaw01_Own s0 qa0 na0 ca0 qa1 na1 ca1 qa2 na2 ca2 w (HV.callee (S0 := []) (vs0 := []) hh (roC (hh.rsep (S0 := []) (vs0 := []) 0 rfl) (roC (hh.rsep (S0 := []) (vs0 := []) 1 rfl) (roC (hh.rsep (S0 := []) (vs0 := []) 2 rfl) roN)))) hna0 hqa0 hla0 hna1 hqa1 hla1 hna2 hqa2 hla2 h15) (fun l_9 h91 => ?_)
      obtain ⟨h92, h93, h94⟩ := h91
      refine g_sel (S' := [_, _]) (vs' := [_, _, _]) [0, 1] [0, 1, 2] 0 (by decide) (by decide) rfl rfl rfl ?_
      refine p_next (fun w hh => hh.sel [1] [] 0 (by decide) (by decide) rfl rfl rfl) ?_
      exact p_shr (h72 b_21 l_9.1 l_9.2.1 l_9.2.2 h92 h93 h94) ((.cons rfl (.cons rfl (.cons rfl (.cons rfl (.cons rfl (.cons rfl (.cons rfl .nil)))))))) (fun w hh => hh.sel [1, 0] [0, 1, 2] 0 (by decide) (by decide) rfl rfl rfl)
     refine p_alt rfl ?_ ?_
     ·refine g_allocV (fun w => Try.zeroValue59 w) rfl (fun b_22 h95 => ?_)
      refine p_next (fun w hh => hh.sel [2] [] 0 (by decide) (by decide) rfl rfl rfl) ?_
      exact p_shr (h55 b_21 b_22) ((.cons rfl (.cons rfl (.cons rfl (.cons rfl (.cons rfl (.cons rfl (.cons rfl (.cons rfl .nil))))))))) (fun w hh => hh.sel [2, 1, 0] [] 0 (by decide) (by decide) rfl rfl rfl)
     exact p_nil
    refine p_alt rfl ?_ ?_
    ·refine g_allocV (fun w => Try.zeroValue59 w) rfl (fun b_23 h96 => ?_)
     refine p_next (fun w hh => hh.sel [1] [] 0 (by decide) (by decide) rfl rfl rfl) ?_
     refine p_br ?_
     refine p_alt rfl ?_ ?_
     ·refine g_callH [] [] rfl rfl rfl rfl rfl rfl rfl (fun a w => Try.call25 a w) (fun w hh => c_laurellaw01_Own s0 qa0 na0 ca0 qa1 na1 ca1 qa2 na2 ca2 w (HV.callee (S0 := []) (vs0 := []) hh (roC (hh.rsep (S0 := []) (vs0 := []) 0 rfl) (roC (hh.rsep (S0 := []) (vs0 := []) 1 rfl) (roC (hh.rsep (S0 := []) (vs0 := []) 2 rfl) roN)))) hna0 hqa0 hla0 hna1 hqa1 hla1 hna2 hqa2 hla2 h15) (fun l_10 h97 => ?_)
      obtain ⟨h98, h99, h100⟩ := h97
      refine g_sel (S' := [_, _]) (vs' := [_, _, _]) [0, 1] [0, 1, 2] 0 (by decide) (by decide) rfl rfl rfl ?_
      refine p_next (fun w hh => hh.sel [1] [] 0 (by decide) (by decide) rfl rfl rfl) ?_
      exact p_shr (h63 b_23 l_10.1 l_10.2.1 l_10.2.2 h98 h99 h100) ((.cons rfl (.cons rfl (.cons rfl (.cons rfl (.cons rfl (.cons rfl (.cons rfl .nil)))))))) (fun w hh => hh.sel [1, 0] [0, 1, 2] 0 (by decide) (by decide) rfl rfl rfl)
     refine p_alt rfl ?_ ?_
     ·refine g_allocV (fun w => Try.zeroValue29 w) rfl (fun b_24 h101 => ?_)
      refine p_next (fun w hh => hh.sel [2] [] 0 (by decide) (by decide) rfl rfl rfl) ?_
      exact p_shr (h55 b_24 b_23) ((.cons rfl (.cons rfl (.cons rfl (.cons rfl (.cons rfl (.cons rfl (.cons rfl (.cons rfl .nil))))))))) (fun w hh => hh.sel [2, 0, 1] [] 0 (by decide) (by decide) rfl rfl rfl)
     exact p_nil
    exact p_nil
   ·intro l_2 hj
    obtain ⟨h9, h10, h11, h12, h13, h14⟩ := hj
    replace hm := h8
    refine g_n_then ?_
    refine g_seq ?_
    refine g_region ?_
    refine g_val rfl rfl rfl (fun w hh => v_loadAgg (vs := [_, _, _, _, _]) (Try.isAgg59 w) (Try.sizeOf59 w) rfl (hh.cells 2 rfl rfl)) ?_
    obtain ⟨t35, h102, hm⟩ := bindO hm
    refine g_callH [] [] rfl rfl rfl rfl rfl rfl rfl (fun a w => Try.call33 a w) (fun w hh => c_laurelref01_Check o.x10 (qA l_2.2.2.2.2.2.1.q) l_2.2.2.2.2.2.1.n l_2.2.2.2.2.2.1.cap (qA l_2.2.2.2.2.2.2.1.q) l_2.2.2.2.2.2.2.1.n l_2.2.2.2.2.2.2.1.cap (qA l_2.2.2.2.2.2.2.2.q) l_2.2.2.2.2.2.2.2.n l_2.2.2.2.2.2.2.2.cap w (HV.callee (S0 := []) (vs0 := []) hh (roC (hh.vsepA (S0 := []) (vs0 := []) 3 rfl h12) (roC (hh.vsepA (S0 := []) (vs0 := []) 4 rfl h13) (roC (hh.vsepA (S0 := []) (vs0 := []) 5 rfl h14) roN)))) (vlen RW h12 rfl) (AOK.q (vne h12)) (h12).hle (vlen RI h13 rfl) (AOK.q (vne h13)) (h13).hle (vlen RS h14 rfl) (AOK.q (vne h14)) (h14).hle h102) (fun l_11 h103 => ?_)
    refine g_val rfl rfl rfl (fun _ _ => v_assign rfl) ?_
    refine g_nil ?_
    refine g_n_then ?_
    refine g_seq ?_
    refine g_region ?_
    refine g_val rfl rfl rfl (fun _ _ => v_move rfl) ?_
    refine g_val rfl rfl rfl (fun _ _ => v_move rfl) ?_
    refine g_val rfl rfl rfl (fun _ _ => v_assign rfl) ?_
    refine g_val rfl rfl rfl (fun _ _ => v_assign rfl) ?_
    refine g_nil ?_
    refine g_n_then ?_
    refine g_seq ?_
    refine g_region ?_
    refine g_val rfl rfl rfl (fun _ _ => v_nilS rfl) ?_
    refine g_nil ?_
    refine g_n_then ?_
    refine g_seq ?_
    refine g_vnil 3 ?_
    obtain ⟨o_1, h104, h105⟩ := bindO hm
    refine g_cut (ι := VL) (fun l_12 => VOK 1 l_12.n l_12.cap (RI.enc o_1.gates14) l_12.sp l_12.q) (fun l_12 => [(1, .int .i64 minute1), (2, .int .i64 place2), (3, .int .i64 state3), (4, ptr b 0), (9, ptr l_2.1 0), (10, ptr l_2.2.1 0), (11, .int .i64 o_1.w11), (12, .int .i64 o_1.u12), (13, .int .i64 o_1.v13), (14, slv l_12.q l_12.n l_12.cap)]) (fun l_12 => [(b, .cells #[.slice qa0 na0 ca0, .int .i64 s0.wind.lo, .int .i64 s0.wind.hi, .slice qa1 na1 ca1, .slice qa2 na2 ca2] 29 (0, 0)), (l_2.1, .cells #[slv l_2.2.2.1.q l_2.2.2.1.n l_2.2.2.1.cap, .int .i64 o.own9.wind.lo, .int .i64 o.own9.wind.hi, slv l_2.2.2.2.1.q l_2.2.2.2.1.n l_2.2.2.2.1.cap, slv l_2.2.2.2.2.1.q l_2.2.2.2.2.1.n l_2.2.2.2.2.1.cap] 29 (0, 0)), (l_2.2.1, .cells #[slv l_2.2.2.2.2.2.1.q l_2.2.2.2.2.2.1.n l_2.2.2.2.2.2.1.cap, .int .i64 o.x10.wind.lo, .int .i64 o.x10.wind.hi, slv l_2.2.2.2.2.2.2.1.q l_2.2.2.2.2.2.2.1.n l_2.2.2.2.2.2.2.1.cap, slv l_2.2.2.2.2.2.2.2.q l_2.2.2.2.2.2.2.2.n l_2.2.2.2.2.2.2.2.cap] 59 (0, 0))]) (fun l_12 => [⟨3, RI.enc o_1.gates14, l_12.sp, l_12.q⟩, ⟨68, RW.enc o.own9.table, l_2.2.2.1.sp, l_2.2.2.1.q⟩, ⟨3, RI.enc o.own9.floors, l_2.2.2.2.1.sp, l_2.2.2.2.1.q⟩, ⟨51, RS.enc o.own9.sills, l_2.2.2.2.2.1.sp, l_2.2.2.2.2.1.q⟩, ⟨158, RW.enc o.x10.table, l_2.2.2.2.2.2.1.sp, l_2.2.2.2.2.2.1.q⟩, ⟨3, RI.enc o.x10.floors, l_2.2.2.2.2.2.2.1.sp, l_2.2.2.2.2.2.2.1.q⟩, ⟨159, RS.enc o.x10.sills, l_2.2.2.2.2.2.2.2.sp, l_2.2.2.2.2.2.2.2.q⟩]) ?_ ?_
    ·replace hm := h104
     refine g_seq ?_
     refine g_region ?_
     refine g_val rfl rfl rfl (fun _ _ => v_move rfl) ?_
     refine g_val rfl rfl rfl (fun _ _ => v_eql rfl rfl) ?_
     refine g_nil ?_
     refine g_n_then ?_
     refine g_cond rfl (fun h107 => ?_) (fun h107 => ?_)
     ·replace hm := ifT (of_decide_eq_true h107) hm
      refine g_seq ?_
      refine g_region ?_
      refine g_val rfl rfl rfl (fun w hh => v_loadAgg (vs := [_, _, _, _, _]) (Try.isAgg59 w) (Try.sizeOf59 w) rfl (hh.cells 2 rfl rfl)) ?_
      obtain ⟨t41, h108, hm⟩ := bindO hm
      refine g_callH [] [] rfl rfl rfl rfl rfl rfl rfl (fun a w => Try.call43 a w) (fun w hh => c_laurelref01_Gates o.x10 (qA l_2.2.2.2.2.2.1.q) l_2.2.2.2.2.2.1.n l_2.2.2.2.2.2.1.cap (qA l_2.2.2.2.2.2.2.1.q) l_2.2.2.2.2.2.2.1.n l_2.2.2.2.2.2.2.1.cap (qA l_2.2.2.2.2.2.2.2.q) l_2.2.2.2.2.2.2.2.n l_2.2.2.2.2.2.2.2.cap w (HV.callee (S0 := []) (vs0 := []) hh (roC (hh.vsepA (S0 := []) (vs0 := []) 4 rfl h12) (roC (hh.vsepA (S0 := []) (vs0 := []) 5 rfl h13) (roC (hh.vsepA (S0 := []) (vs0 := []) 6 rfl h14) roN)))) (vlen RW h12 rfl) (AOK.q (vne h12)) (h12).hle (vlen RI h13 rfl) (AOK.q (vne h13)) (h13).hle (vlen RS h14 rfl) (AOK.q (vne h14)) (h14).hle h108) (fun l_13 h109 => ?_)
      have h110 := h109
      refine g_sel (S' := [_, _, _]) (vs' := [_, _, _, _, _, _, _, _]) [0, 1, 2] [0, 1, 2, 3, 4, 5, 6, 7] 0 (by decide) (by decide) rfl rfl rfl ?_
      refine g_val rfl rfl rfl (fun _ _ => v_assign rfl) ?_
      refine g_nil ?_
      refine g_n_then ?_
      refine g_seq ?_
      refine g_region ?_
      refine g_val rfl rfl rfl (fun w hh => v_loadAgg (vs := [_, _, _, _, _]) (Try.isAgg59 w) (Try.sizeOf59 w) rfl (hh.cells 2 rfl rfl)) ?_
      refine g_val rfl rfl rfl (fun _ _ => v_move rfl) ?_
      obtain ⟨t44, h111, hm⟩ := bindO hm
      refine g_callH [] [] rfl rfl rfl rfl rfl rfl rfl (fun a w => Try.call34 a w) (fun w hh => c_laurelref01_Minute o.x10 minute1 (qA l_2.2.2.2.2.2.1.q) l_2.2.2.2.2.2.1.n l_2.2.2.2.2.2.1.cap (qA l_2.2.2.2.2.2.2.1.q) l_2.2.2.2.2.2.2.1.n l_2.2.2.2.2.2.2.1.cap (qA l_2.2.2.2.2.2.2.2.q) l_2.2.2.2.2.2.2.2.n l_2.2.2.2.2.2.2.2.cap w (HV.callee (S0 := []) (vs0 := []) hh (roC (hh.vsepA (S0 := []) (vs0 := []) 5 rfl h12) (roC (hh.vsepA (S0 := []) (vs0 := []) 6 rfl h13) (roC (hh.vsepA (S0 := []) (vs0 := []) 7 rfl h14) roN)))) (vlen RW h12 rfl) (AOK.q (vne h12)) (h12).hle (vlen RI h13 rfl) (AOK.q (vne h13)) (h13).hle (vlen RS h14 rfl) (AOK.q (vne h14)) (h14).hle h111) (fun l_14 h112 => ?_)
      refine g_val rfl rfl rfl (fun _ _ => v_assign rfl) ?_
      refine g_nil ?_
      refine g_n_then ?_
      refine g_seq ?_
      obtain ⟨o_2, h113, h114⟩ := bindO hm
      refine g_cut (ι := Unit) (fun l_15 => True) (fun l_15 => [(1, .int .i64 minute1), (2, .int .i64 place2), (3, .int .i64 state3), (4, ptr b 0), (9, ptr l_2.1 0), (10, ptr l_2.2.1 0), (11, .int .i64 o_2), (12, .int .i64 t44), (14, slv l_13.q l_13.n l_13.cap)]) (fun l_15 => [(b, .cells #[.slice qa0 na0 ca0, .int .i64 s0.wind.lo, .int .i64 s0.wind.hi, .slice qa1 na1 ca1, .slice qa2 na2 ca2] 29 (0, 0)), (l_2.1, .cells #[slv l_2.2.2.1.q l_2.2.2.1.n l_2.2.2.1.cap, .int .i64 o.own9.wind.lo, .int .i64 o.own9.wind.hi, slv l_2.2.2.2.1.q l_2.2.2.2.1.n l_2.2.2.2.1.cap, slv l_2.2.2.2.2.1.q l_2.2.2.2.2.1.n l_2.2.2.2.2.1.cap] 29 (0, 0)), (l_2.2.1, .cells #[slv l_2.2.2.2.2.2.1.q l_2.2.2.2.2.2.1.n l_2.2.2.2.2.2.1.cap, .int .i64 o.x10.wind.lo, .int .i64 o.x10.wind.hi, slv l_2.2.2.2.2.2.2.1.q l_2.2.2.2.2.2.2.1.n l_2.2.2.2.2.2.2.1.cap, slv l_2.2.2.2.2.2.2.2.q l_2.2.2.2.2.2.2.2.n l_2.2.2.2.2.2.2.2.cap] 59 (0, 0))]) (fun l_15 => [⟨3, RI.enc t41, l_13.sp, l_13.q⟩, ⟨68, RW.enc o.own9.table, l_2.2.2.1.sp, l_2.2.2.1.q⟩, ⟨3, RI.enc o.own9.floors, l_2.2.2.2.1.sp, l_2.2.2.2.1.q⟩, ⟨51, RS.enc o.own9.sills, l_2.2.2.2.2.1.sp, l_2.2.2.2.2.1.q⟩, ⟨158, RW.enc o.x10.table, l_2.2.2.2.2.2.1.sp, l_2.2.2.2.2.2.1.q⟩, ⟨3, RI.enc o.x10.floors, l_2.2.2.2.2.2.2.1.sp, l_2.2.2.2.2.2.2.1.q⟩, ⟨159, RS.enc o.x10.sills, l_2.2.2.2.2.2.2.2.sp, l_2.2.2.2.2.2.2.2.q⟩]) ?_ ?_
      ·replace hm := h113
       refine g_seq ?_
       refine g_region ?_
       refine g_val rfl rfl rfl (fun _ _ => v_move rfl) ?_
       refine g_val rfl rfl rfl (fun _ _ => v_assign rfl) ?_
       refine g_nil ?_
       refine g_n_then ?_
       refine g_seq ?_
       refine g_region ?_
       refine g_val rfl rfl rfl (fun _ _ => v_move rfl) ?_
       refine g_val rfl rfl rfl (fun _ _ => v_eql rfl rfl) ?_
       refine g_nil ?_
       refine g_n_then ?_
       refine g_cond rfl (fun h115 => ?_) (fun h115 => ?_)
       ·replace hm := ifT (of_decide_eq_true h115) hm
        refine g_region ?_
        refine g_val rfl rfl rfl (fun w hh => v_loadAgg (vs := [_, _, _, _, _]) (Try.isAgg59 w) (Try.sizeOf59 w) rfl (hh.cells 2 rfl rfl)) ?_
        refine g_val rfl rfl rfl (fun _ _ => v_move rfl) ?_
        obtain ⟨t50, h116, hm⟩ := bindO hm
        refine g_callH [] [] rfl rfl rfl rfl rfl rfl rfl (fun a w => Try.call44 a w) (fun w hh => c_laurelref01_Place o.x10 place2 (qA l_2.2.2.2.2.2.1.q) l_2.2.2.2.2.2.1.n l_2.2.2.2.2.2.1.cap (qA l_2.2.2.2.2.2.2.1.q) l_2.2.2.2.2.2.2.1.n l_2.2.2.2.2.2.2.1.cap (qA l_2.2.2.2.2.2.2.2.q) l_2.2.2.2.2.2.2.2.n l_2.2.2.2.2.2.2.2.cap w (HV.callee (S0 := []) (vs0 := []) hh (roC (hh.vsepA (S0 := []) (vs0 := []) 5 rfl h12) (roC (hh.vsepA (S0 := []) (vs0 := []) 6 rfl h13) (roC (hh.vsepA (S0 := []) (vs0 := []) 7 rfl h14) roN)))) (vlen RW h12 rfl) (AOK.q (vne h12)) (h12).hle (vlen RI h13 rfl) (AOK.q (vne h13)) (h13).hle (vlen RS h14 rfl) (AOK.q (vne h14)) (h14).hle h116) (fun l_16 h117 => ?_)
        refine g_val rfl rfl rfl (fun _ _ => v_assign rfl) ?_
        refine g_nil ?_
        obtain rfl := Option.some.inj hm
        exact g_leaf () (trivial) ((.cons rfl (.cons rfl (.cons rfl (.cons rfl (.cons rfl (.cons rfl (.cons rfl (.cons rfl (.cons rfl .nil)))))))))) (fun w hh => hh.sel [0, 1, 2] [0, 2, 3, 4, 5, 6, 7] 0 (by decide) (by decide) rfl rfl rfl)
       ·replace hm := ifF (of_decide_eq_false h115) hm
        refine g_skip ?_
        obtain rfl := Option.some.inj hm
        exact g_leaf () (trivial) ((.cons rfl (.cons rfl (.cons rfl (.cons rfl (.cons rfl (.cons rfl (.cons rfl (.cons rfl (.cons rfl .nil)))))))))) (fun w hh => hh.sel [0, 1, 2] [0, 2, 3, 4, 5, 6, 7] 0 (by decide) (by decide) rfl rfl rfl)
      ·intro l_15 hj
       replace hm := h114
       refine g_n_then ?_
       refine g_seq ?_
       refine g_region ?_
       refine g_val rfl rfl rfl (fun w hh => v_loadAgg (vs := [_, _, _, _, _]) (Try.isAgg59 w) (Try.sizeOf59 w) rfl (hh.cells 2 rfl rfl)) ?_
       refine g_val rfl rfl rfl (fun _ _ => v_move rfl) ?_
       obtain ⟨t53, h118, hm⟩ := bindO hm
       refine g_callH [] [] rfl rfl rfl rfl rfl rfl rfl (fun a w => Try.call44 a w) (fun w hh => c_laurelref01_Place o.x10 place2 (qA l_2.2.2.2.2.2.1.q) l_2.2.2.2.2.2.1.n l_2.2.2.2.2.2.1.cap (qA l_2.2.2.2.2.2.2.1.q) l_2.2.2.2.2.2.2.1.n l_2.2.2.2.2.2.2.1.cap (qA l_2.2.2.2.2.2.2.2.q) l_2.2.2.2.2.2.2.2.n l_2.2.2.2.2.2.2.2.cap w (HV.callee (S0 := []) (vs0 := []) hh (roC (hh.vsepA (S0 := []) (vs0 := []) 4 rfl h12) (roC (hh.vsepA (S0 := []) (vs0 := []) 5 rfl h13) (roC (hh.vsepA (S0 := []) (vs0 := []) 6 rfl h14) roN)))) (vlen RW h12 rfl) (AOK.q (vne h12)) (h12).hle (vlen RI h13 rfl) (AOK.q (vne h13)) (h13).hle (vlen RS h14 rfl) (AOK.q (vne h14)) (h14).hle h118) (fun l_17 h119 => ?_)
       refine g_val rfl rfl rfl (fun _ _ => v_assign rfl) ?_
       refine g_nil ?_
       refine g_n_then ?_
       refine g_seq ?_
       obtain ⟨o_3, h120, h121⟩ := bindO hm
       refine g_cut (ι := Unit) (fun l_18 => True) (fun l_18 => [(1, .int .i64 minute1), (2, .int .i64 place2), (3, .int .i64 state3), (4, ptr b 0), (9, ptr l_2.1 0), (10, ptr l_2.2.1 0), (11, .int .i64 o_2), (12, .int .i64 t44), (13, .int .i64 t53), (14, slv l_13.q l_13.n l_13.cap), (63, .bool o_3)]) (fun l_18 => [(b, .cells #[.slice qa0 na0 ca0, .int .i64 s0.wind.lo, .int .i64 s0.wind.hi, .slice qa1 na1 ca1, .slice qa2 na2 ca2] 29 (0, 0)), (l_2.1, .cells #[slv l_2.2.2.1.q l_2.2.2.1.n l_2.2.2.1.cap, .int .i64 o.own9.wind.lo, .int .i64 o.own9.wind.hi, slv l_2.2.2.2.1.q l_2.2.2.2.1.n l_2.2.2.2.1.cap, slv l_2.2.2.2.2.1.q l_2.2.2.2.2.1.n l_2.2.2.2.2.1.cap] 29 (0, 0)), (l_2.2.1, .cells #[slv l_2.2.2.2.2.2.1.q l_2.2.2.2.2.2.1.n l_2.2.2.2.2.2.1.cap, .int .i64 o.x10.wind.lo, .int .i64 o.x10.wind.hi, slv l_2.2.2.2.2.2.2.1.q l_2.2.2.2.2.2.2.1.n l_2.2.2.2.2.2.2.1.cap, slv l_2.2.2.2.2.2.2.2.q l_2.2.2.2.2.2.2.2.n l_2.2.2.2.2.2.2.2.cap] 59 (0, 0))]) (fun l_18 => [⟨3, RI.enc t41, l_13.sp, l_13.q⟩, ⟨68, RW.enc o.own9.table, l_2.2.2.1.sp, l_2.2.2.1.q⟩, ⟨3, RI.enc o.own9.floors, l_2.2.2.2.1.sp, l_2.2.2.2.1.q⟩, ⟨51, RS.enc o.own9.sills, l_2.2.2.2.2.1.sp, l_2.2.2.2.2.1.q⟩, ⟨158, RW.enc o.x10.table, l_2.2.2.2.2.2.1.sp, l_2.2.2.2.2.2.1.q⟩, ⟨3, RI.enc o.x10.floors, l_2.2.2.2.2.2.2.1.sp, l_2.2.2.2.2.2.2.1.q⟩, ⟨159, RS.enc o.x10.sills, l_2.2.2.2.2.2.2.2.sp, l_2.2.2.2.2.2.2.2.q⟩]) ?_ ?_
       ·replace hm := h120
        refine g_region ?_
        refine g_val rfl rfl rfl (fun _ _ => v_move rfl) ?_
        refine g_val rfl rfl rfl (fun _ _ => v_eql rfl rfl) ?_
        refine g_val rfl rfl rfl (fun _ _ => v_move rfl) ?_
        refine g_case 56 rfl (fun h122 => ?_) (fun h122 => ?_)
        ·replace hm := ifT (of_decide_eq_true h122) hm
         refine v_unguard rfl rfl ?_
         refine g_val rfl rfl rfl (fun _ _ => v_move rfl) ?_
         refine v_unguard rfl rfl ?_
         refine g_val rfl rfl rfl (fun _ _ => v_lss rfl rfl) ?_
         refine v_unguard rfl rfl ?_
         refine g_val rfl rfl rfl (fun _ _ => v_move rfl) ?_
         refine g_case 59 rfl (fun h123 => ?_) (fun h123 => ?_)
         ·replace hm := ifT (of_decide_eq_true h123) hm
          refine g_skipG rfl rfl rfl rfl rfl rfl ?_
          refine g_skipG rfl rfl rfl rfl rfl rfl ?_
          refine v_unguard rfl rfl ?_
          refine g_val rfl rfl rfl (fun _ _ => v_pickT rfl rfl) ?_
          refine g_val rfl rfl rfl (fun _ _ => v_pickT rfl rfl) ?_
          refine g_nil ?_
          obtain rfl := Option.some.inj hm
          exact g_leaf () (trivial) ((.cons rfl (.cons rfl (.cons rfl (.cons rfl (.cons rfl (.cons rfl (.cons rfl (.cons rfl (.cons rfl (.cons rfl (.cons rfl .nil)))))))))))) (fun w hh => hh)
         ·replace hm := ifF (of_decide_eq_false h123) hm
          refine v_unguard rfl rfl ?_
          refine g_val rfl rfl rfl (fun _ _ => v_move rfl) ?_
          refine v_unguard rfl rfl ?_
          refine g_val rfl rfl rfl (fun _ _ => v_gtr rfl rfl) ?_
          refine v_unguard rfl rfl ?_
          refine g_val rfl rfl rfl (fun _ _ => v_pickF rfl rfl) ?_
          refine g_val rfl rfl rfl (fun _ _ => v_pickT rfl rfl) ?_
          refine g_nil ?_
          obtain rfl := Option.some.inj hm
          exact g_leaf () (trivial) ((.cons rfl (.cons rfl (.cons rfl (.cons rfl (.cons rfl (.cons rfl (.cons rfl (.cons rfl (.cons rfl (.cons rfl (.cons rfl .nil)))))))))))) (fun w hh => hh)
        ·replace hm := ifF (of_decide_eq_false h122) hm
         refine g_skipG rfl rfl rfl rfl rfl rfl ?_
         refine g_skipG rfl rfl rfl rfl rfl rfl ?_
         refine g_skipG rfl rfl rfl rfl rfl rfl ?_
         refine g_skipU' rfl rfl rfl rfl rfl ?_
         refine g_skipU' rfl rfl rfl rfl rfl ?_
         refine g_skipG rfl rfl rfl rfl rfl rfl ?_
         refine g_val rfl rfl rfl (fun _ _ => v_pickF rfl rfl) ?_
         refine g_nil ?_
         obtain rfl := Option.some.inj hm
         exact g_leaf () (trivial) ((.cons rfl (.cons rfl (.cons rfl (.cons rfl (.cons rfl (.cons rfl (.cons rfl (.cons rfl (.cons rfl (.cons rfl (.cons rfl .nil)))))))))))) (fun w hh => hh)
       ·intro l_18 hj
        replace hm := h121
        refine g_n_then ?_
        refine g_cond rfl (fun h124 => ?_) (fun h124 => ?_)
        ·replace hm := ifT (h124) hm
         refine g_region ?_
         refine g_val rfl rfl rfl (fun _ _ => v_assign rfl) ?_
         refine g_nil ?_
         obtain rfl := Option.some.inj hm
         exact g_leaf l_13 (h110) ((.cons rfl (.cons rfl (.cons rfl (.cons rfl (.cons rfl (.cons rfl (.cons rfl (.cons rfl (.cons rfl (.cons rfl .nil))))))))))) (fun w hh => hh)
        ·replace hm := ifF ((fun hh => Bool.noConfusion ((h124).symm.trans hh))) hm
         refine g_skip ?_
         obtain rfl := Option.some.inj hm
         exact g_leaf l_13 (h110) ((.cons rfl (.cons rfl (.cons rfl (.cons rfl (.cons rfl (.cons rfl (.cons rfl (.cons rfl (.cons rfl (.cons rfl .nil))))))))))) (fun w hh => hh)
     ·replace hm := ifF (of_decide_eq_false h107) hm
      refine g_skip ?_
      obtain rfl := Option.some.inj hm
      exact g_leaf ⟨none, 0, 0, []⟩ (VOK.nil) ((.cons rfl (.cons rfl (.cons rfl (.cons rfl (.cons rfl (.cons rfl (.cons rfl (.cons rfl (.cons rfl (.cons rfl .nil))))))))))) (fun w hh => hh)
    ·intro l_12 hj
     have h106 := hj
     replace hm := h105
     refine g_n_then ?_
     refine g_seq ?_
     refine g_region ?_
     refine g_val rfl rfl rfl (fun _ _ => v_assign rfl) ?_
     refine g_val rfl rfl rfl (fun _ _ => v_nilS rfl) ?_
     refine g_nil ?_
     refine g_n_then ?_
     refine g_seq ?_
     refine g_vnil 3 ?_
     obtain ⟨o_4, h125, h126⟩ := bindO hm
     refine g_cut (ι := VL) (fun l_19 => VOK 1 l_19.n l_19.cap (RI.enc o_4) l_19.sp l_19.q) (fun l_19 => [(1, .int .i64 minute1), (2, .int .i64 place2), (3, .int .i64 state3), (4, ptr b 0), (9, ptr l_2.1 0), (10, ptr l_2.2.1 0), (11, .int .i64 o_1.w11), (12, .int .i64 o_1.u12), (13, .int .i64 o_1.v13), (14, slv l_12.q l_12.n l_12.cap), (15, .int .i64 0), (16, slv l_19.q l_19.n l_19.cap)]) (fun l_19 => [(b, .cells #[.slice qa0 na0 ca0, .int .i64 s0.wind.lo, .int .i64 s0.wind.hi, .slice qa1 na1 ca1, .slice qa2 na2 ca2] 29 (0, 0)), (l_2.1, .cells #[slv l_2.2.2.1.q l_2.2.2.1.n l_2.2.2.1.cap, .int .i64 o.own9.wind.lo, .int .i64 o.own9.wind.hi, slv l_2.2.2.2.1.q l_2.2.2.2.1.n l_2.2.2.2.1.cap, slv l_2.2.2.2.2.1.q l_2.2.2.2.2.1.n l_2.2.2.2.2.1.cap] 29 (0, 0)), (l_2.2.1, .cells #[slv l_2.2.2.2.2.2.1.q l_2.2.2.2.2.2.1.n l_2.2.2.2.2.2.1.cap, .int .i64 o.x10.wind.lo, .int .i64 o.x10.wind.hi, slv l_2.2.2.2.2.2.2.1.q l_2.2.2.2.2.2.2.1.n l_2.2.2.2.2.2.2.1.cap, slv l_2.2.2.2.2.2.2.2.q l_2.2.2.2.2.2.2.2.n l_2.2.2.2.2.2.2.2.cap] 59 (0, 0))]) (fun l_19 => [⟨3, RI.enc o_1.gates14, l_12.sp, l_12.q⟩, ⟨3, RI.enc o_4, l_19.sp, l_19.q⟩, ⟨68, RW.enc o.own9.table, l_2.2.2.1.sp, l_2.2.2.1.q⟩, ⟨3, RI.enc o.own9.floors, l_2.2.2.2.1.sp, l_2.2.2.2.1.q⟩, ⟨51, RS.enc o.own9.sills, l_2.2.2.2.2.1.sp, l_2.2.2.2.2.1.q⟩, ⟨158, RW.enc o.x10.table, l_2.2.2.2.2.2.1.sp, l_2.2.2.2.2.2.1.q⟩, ⟨3, RI.enc o.x10.floors, l_2.2.2.2.2.2.2.1.sp, l_2.2.2.2.2.2.2.1.q⟩, ⟨159, RS.enc o.x10.sills, l_2.2.2.2.2.2.2.2.sp, l_2.2.2.2.2.2.2.2.q⟩]) ?_ ?_
     ·replace hm := h125
      refine g_seq ?_
      refine g_region ?_
      refine g_val rfl rfl rfl (fun _ _ => v_move rfl) ?_
      refine g_val rfl rfl rfl (fun _ _ => v_eql rfl rfl) ?_
      refine g_nil ?_
      refine g_n_then ?_
      refine g_cond rfl (fun h128 => ?_) (fun h128 => ?_)
      ·replace hm := ifT (of_decide_eq_true h128) hm
       refine g_seq ?_
       refine g_region ?_
       refine g_val rfl rfl rfl (fun w _ => v_fieldAddr 3 (Try.runUnderlying29 w) rfl (Try.sizeOf26 w) rfl) ?_
       refine g_val rfl rfl rfl (fun w hh => v_load (Try.isAgg26 w) rfl (hh.cell 0 rfl rfl)) ?_
       refine g_val rfl rfl rfl (fun w _ => v_lenR hna1 (Try.runUnderlying26 w) rfl) ?_
       refine g_val rfl rfl rfl (fun _ _ => v_move rfl) ?_
       refine g_nil ?_
       refine g_n_then ?_
       obtain ⟨o_5, h129, h130⟩ := bindO hm
       refine g_cut (ι := VL) (fun l_20 => VOK 1 l_20.n l_20.cap (RI.enc o_5) l_20.sp l_20.q) (fun l_20 => [(1, .int .i64 minute1), (2, .int .i64 place2), (3, .int .i64 state3), (4, ptr b 0), (9, ptr l_2.1 0), (10, ptr l_2.2.1 0), (11, .int .i64 o_1.w11), (12, .int .i64 o_1.u12), (13, .int .i64 o_1.v13), (14, slv l_12.q l_12.n l_12.cap), (15, .int .i64 0), (16, slv l_20.q l_20.n l_20.cap)]) (fun l_20 => [(b, .cells #[.slice qa0 na0 ca0, .int .i64 s0.wind.lo, .int .i64 s0.wind.hi, .slice qa1 na1 ca1, .slice qa2 na2 ca2] 29 (0, 0)), (l_2.1, .cells #[slv l_2.2.2.1.q l_2.2.2.1.n l_2.2.2.1.cap, .int .i64 o.own9.wind.lo, .int .i64 o.own9.wind.hi, slv l_2.2.2.2.1.q l_2.2.2.2.1.n l_2.2.2.2.1.cap, slv l_2.2.2.2.2.1.q l_2.2.2.2.2.1.n l_2.2.2.2.2.1.cap] 29 (0, 0)), (l_2.2.1, .cells #[slv l_2.2.2.2.2.2.1.q l_2.2.2.2.2.2.1.n l_2.2.2.2.2.2.1.cap, .int .i64 o.x10.wind.lo, .int .i64 o.x10.wind.hi, slv l_2.2.2.2.2.2.2.1.q l_2.2.2.2.2.2.2.1.n l_2.2.2.2.2.2.2.1.cap, slv l_2.2.2.2.2.2.2.2.q l_2.2.2.2.2.2.2.2.n l_2.2.2.2.2.2.2.2.cap] 59 (0, 0))]) (fun l_20 => [⟨3, RI.enc o_1.gates14, l_12.sp, l_12.q⟩, ⟨3, RI.enc o_5, l_20.sp, l_20.q⟩, ⟨68, RW.enc o.own9.table, l_2.2.2.1.sp, l_2.2.2.1.q⟩, ⟨3, RI.enc o.own9.floors, l_2.2.2.2.1.sp, l_2.2.2.2.1.q⟩, ⟨51, RS.enc o.own9.sills, l_2.2.2.2.2.1.sp, l_2.2.2.2.2.1.q⟩, ⟨158, RW.enc o.x10.table, l_2.2.2.2.2.2.1.sp, l_2.2.2.2.2.2.1.q⟩, ⟨3, RI.enc o.x10.floors, l_2.2.2.2.2.2.2.1.sp, l_2.2.2.2.2.2.2.1.q⟩, ⟨159, RS.enc o.x10.sills, l_2.2.2.2.2.2.2.2.sp, l_2.2.2.2.2.2.2.2.q⟩]) ?_ ?_
       ·replace hm := h129
        refine g_block ?_
        refine g_loopF (ι := VL) hm (fun s l_21 => VOK 1 l_21.n l_21.cap (RI.enc s.want16) l_21.sp l_21.q) (fun s l_21 => [(1, .int .i64 minute1), (2, .int .i64 place2), (3, .int .i64 state3), (4, ptr b 0), (9, ptr l_2.1 0), (10, ptr l_2.2.1 0), (11, .int .i64 o_1.w11), (12, .int .i64 o_1.u12), (13, .int .i64 o_1.v13), (14, slv l_12.q l_12.n l_12.cap), (15, .int .i64 0), (16, slv l_21.q l_21.n l_21.cap), (68, .int .i64 (s0.floors.length : Int)), (69, .int .i64 s.t69)]) (fun s l_21 => [(b, .cells #[.slice qa0 na0 ca0, .int .i64 s0.wind.lo, .int .i64 s0.wind.hi, .slice qa1 na1 ca1, .slice qa2 na2 ca2] 29 (0, 0)), (l_2.1, .cells #[slv l_2.2.2.1.q l_2.2.2.1.n l_2.2.2.1.cap, .int .i64 o.own9.wind.lo, .int .i64 o.own9.wind.hi, slv l_2.2.2.2.1.q l_2.2.2.2.1.n l_2.2.2.2.1.cap, slv l_2.2.2.2.2.1.q l_2.2.2.2.2.1.n l_2.2.2.2.2.1.cap] 29 (0, 0)), (l_2.2.1, .cells #[slv l_2.2.2.2.2.2.1.q l_2.2.2.2.2.2.1.n l_2.2.2.2.2.2.1.cap, .int .i64 o.x10.wind.lo, .int .i64 o.x10.wind.hi, slv l_2.2.2.2.2.2.2.1.q l_2.2.2.2.2.2.2.1.n l_2.2.2.2.2.2.2.1.cap, slv l_2.2.2.2.2.2.2.2.q l_2.2.2.2.2.2.2.2.n l_2.2.2.2.2.2.2.2.cap] 59 (0, 0))]) (fun s l_21 => [⟨3, RI.enc o_1.gates14, l_12.sp, l_12.q⟩, ⟨3, RI.enc s.want16, l_21.sp, l_21.q⟩, ⟨68, RW.enc o.own9.table, l_2.2.2.1.sp, l_2.2.2.1.q⟩, ⟨3, RI.enc o.own9.floors, l_2.2.2.2.1.sp, l_2.2.2.2.1.q⟩, ⟨51, RS.enc o.own9.sills, l_2.2.2.2.2.1.sp, l_2.2.2.2.2.1.q⟩, ⟨158, RW.enc o.x10.table, l_2.2.2.2.2.2.1.sp, l_2.2.2.2.2.2.1.q⟩, ⟨3, RI.enc o.x10.floors, l_2.2.2.2.2.2.2.1.sp, l_2.2.2.2.2.2.2.1.q⟩, ⟨159, RS.enc o.x10.sills, l_2.2.2.2.2.2.2.2.sp, l_2.2.2.2.2.2.2.2.q⟩]) ⟨none, 0, 0, []⟩ (VOK.nil) ((.cons rfl (.cons rfl (.cons rfl (.cons rfl (.cons rfl (.cons rfl (.cons rfl (.cons rfl (.cons rfl (.cons rfl (.cons rfl (.cons rfl (.cons rfl (.cons rfl .nil))))))))))))))) (fun w hh => hh.sel [0, 1, 2] [1, 0, 2, 3, 4, 5, 6, 7] 0 (by decide) (by decide) rfl rfl rfl) (fun s l_21 r hpl hm h133 => ?_)
        have h132 := hpl
        unfold m_laurellaw01_TideStates_L0 at hm
        refine g_seq ?_
        refine g_region ?_
        refine g_val rfl rfl rfl (fun _ _ => v_lss rfl rfl) ?_
        refine g_nil ?_
        refine g_n_then ?_
        refine g_seq ?_
        refine g_cond rfl (fun h134 => ?_) (fun h134 => ?_)
        ·replace hm := ifT (of_decide_eq_true h134) hm
         refine g_skip ?_
         refine g_n_then ?_
         refine g_seq ?_
         refine g_block ?_
         refine g_seq ?_
         refine g_region ?_
         refine g_val rfl rfl rfl (fun _ _ => v_move rfl) ?_
         refine g_val rfl rfl rfl (fun _ _ => v_assign rfl) ?_
         refine g_nil ?_
         refine g_n_then ?_
         refine g_draw none (.free 0 (.hoist 1 (.hoist 2 (.free 3 (.free 5 (.free 6 (.free 7 (.hoist 8 (.one 4 (.one 9 (.one 10 (.one 11 (.free 12 .done))))))))))))) (HV _ _ [(b, .cells #[.slice qa0 na0 ca0, .int .i64 s0.wind.lo, .int .i64 s0.wind.hi, .slice qa1 na1 ca1, .slice qa2 na2 ca2] 29 (0, 0)), (l_2.1, .cells #[slv l_2.2.2.1.q l_2.2.2.1.n l_2.2.2.1.cap, .int .i64 o.own9.wind.lo, .int .i64 o.own9.wind.hi, slv l_2.2.2.2.1.q l_2.2.2.2.1.n l_2.2.2.2.1.cap, slv l_2.2.2.2.2.1.q l_2.2.2.2.2.1.n l_2.2.2.2.2.1.cap] 29 (0, 0)), (l_2.2.1, .cells #[slv l_2.2.2.2.2.2.1.q l_2.2.2.2.2.2.1.n l_2.2.2.2.2.2.1.cap, .int .i64 o.x10.wind.lo, .int .i64 o.x10.wind.hi, slv l_2.2.2.2.2.2.2.1.q l_2.2.2.2.2.2.2.1.n l_2.2.2.2.2.2.2.1.cap, slv l_2.2.2.2.2.2.2.2.q l_2.2.2.2.2.2.2.2.n l_2.2.2.2.2.2.2.2.cap] 59 (0, 0))] [⟨3, RI.enc o_1.gates14, l_12.sp, l_12.q⟩, ⟨68, RW.enc o.own9.table, l_2.2.2.1.sp, l_2.2.2.1.q⟩, ⟨3, RI.enc o.own9.floors, l_2.2.2.2.1.sp, l_2.2.2.2.1.q⟩, ⟨51, RS.enc o.own9.sills, l_2.2.2.2.2.1.sp, l_2.2.2.2.2.1.q⟩, ⟨158, RW.enc o.x10.table, l_2.2.2.2.2.2.1.sp, l_2.2.2.2.2.2.1.q⟩, ⟨3, RI.enc o.x10.floors, l_2.2.2.2.2.2.2.1.sp, l_2.2.2.2.2.2.2.1.q⟩, ⟨159, RS.enc o.x10.sills, l_2.2.2.2.2.2.2.2.sp, l_2.2.2.2.2.2.2.2.q⟩] _) rfl (by decide +kernel) (fun w k hh => hh.draw k) (fun w hh => hh.sel [0, 1, 2] [0, 2, 3, 4, 5, 6, 7] 0 (by decide) (by decide) rfl rfl rfl) ?_
         refine p_free rfl rfl rfl rfl (fun _ _ => v_move rfl) ?_
         refine p_hoist rfl rfl rfl rfl (fun w hh => v_loadAgg (vs := [_, _, _, _, _]) (Try.isAgg59 w) (Try.sizeOf59 w) rfl (hh.cells 2 rfl rfl)) ?_
         refine p_hoist rfl rfl rfl rfl (fun w hh => v_loadAgg (vs := [_, _, _, _, _]) (Try.isAgg59 w) (Try.sizeOf59 w) rfl (hh.cells 2 rfl rfl)) ?_
         refine p_free rfl rfl rfl rfl (fun _ _ => v_move rfl) ?_
         refine p_free rfl rfl rfl rfl (fun _ _ => v_move rfl) ?_
         refine p_free rfl rfl rfl rfl (fun _ _ => v_move rfl) ?_
         obtain ⟨t79, h135, hm⟩ := bindO hm
         refine p_free rfl rfl rfl rfl (fun w _ => v_ixA h135 (Try.runUnderlying26 w) (Try.sizeOf3 w) rfl rfl (vlen RI h106 rfl) (vne h106)) ?_
         refine p_hoist rfl rfl rfl rfl (fun w hh => v_ldE RI 0 h135 (Try.isAgg3 w) rfl (hh.vseg 0 rfl h106) rfl (Nat.add_zero _).symm) ?_
         refine p_one rfl ?_
         obtain ⟨t76, h136, hm⟩ := bindO hm
         refine g_callH [] [] rfl rfl rfl rfl rfl rfl rfl (fun a w => Try.call35 a w) (fun w hh => c_laurelref01_Height o.x10 minute1 (qA l_2.2.2.2.2.2.1.q) l_2.2.2.2.2.2.1.n l_2.2.2.2.2.2.1.cap (qA l_2.2.2.2.2.2.2.1.q) l_2.2.2.2.2.2.2.1.n l_2.2.2.2.2.2.2.1.cap (qA l_2.2.2.2.2.2.2.2.q) l_2.2.2.2.2.2.2.2.n l_2.2.2.2.2.2.2.2.cap w (HV.callee (S0 := []) (vs0 := []) hh (roC (hh.vsepA (S0 := []) (vs0 := []) 5 rfl h12) (roC (hh.vsepA (S0 := []) (vs0 := []) 6 rfl h13) (roC (hh.vsepA (S0 := []) (vs0 := []) 7 rfl h14) roN)))) (vlen RW h12 rfl) (AOK.q (vne h12)) (h12).hle (vlen RI h13 rfl) (AOK.q (vne h13)) (h13).hle (vlen RS h14 rfl) (AOK.q (vne h14)) (h14).hle h136) (fun l_22 h137 => ?_)
         refine p_next (fun w hh => hh.sel [0, 1, 2] [0, 2, 3, 4, 5, 6, 7] 0 (by decide) (by decide) rfl rfl rfl) ?_
         refine p_one rfl ?_
         obtain ⟨t81, h138, hm⟩ := bindO hm
         refine g_callH [] [] rfl rfl rfl rfl rfl rfl rfl (fun a w => Try.call45 a w) (fun w hh => c_laurelref01_State o.x10 t76 t79 (qA l_2.2.2.2.2.2.1.q) l_2.2.2.2.2.2.1.n l_2.2.2.2.2.2.1.cap (qA l_2.2.2.2.2.2.2.1.q) l_2.2.2.2.2.2.2.1.n l_2.2.2.2.2.2.2.1.cap (qA l_2.2.2.2.2.2.2.2.q) l_2.2.2.2.2.2.2.2.n l_2.2.2.2.2.2.2.2.cap w (HV.callee (S0 := []) (vs0 := []) hh (roC (hh.vsepA (S0 := []) (vs0 := []) 5 rfl h12) (roC (hh.vsepA (S0 := []) (vs0 := []) 6 rfl h13) (roC (hh.vsepA (S0 := []) (vs0 := []) 7 rfl h14) roN)))) (vlen RW h12 rfl) (AOK.q (vne h12)) (h12).hle (vlen RI h13 rfl) (AOK.q (vne h13)) (h13).hle (vlen RS h14 rfl) (AOK.q (vne h14)) (h14).hle h138) (fun l_23 h139 => ?_)
         refine p_next (fun w hh => hh.sel [0, 1, 2] [0, 2, 3, 4, 5, 6, 7] 0 (by decide) (by decide) rfl rfl rfl) ?_
         refine p_one rfl ?_
         refine g_vlit RI [t81] (ps := [(0, _)]) (cells := [_]) (fun w => Try.runUnderlying26 w) (fun w => Try.sizeOf3 w) (fun w => Try.zeroValue3 w) rfl rfl rfl rfl rfl rfl rfl rfl (fun L_33 h140 => ?_)
         refine p_next (fun w hh => hh.sel [0, 1, 2] [1, 3, 4, 5, 6, 7, 8] 0 (by decide) (by decide) rfl rfl rfl) ?_
         refine p_one rfl ?_
         obtain ⟨t83, h141, hm⟩ := bindO hm
         refine g_vapp RI 2 h141 Try.underlying26 gxinf3 rfl rfl rfl rfl rfl h132 rfl rfl (vlen RI h140 rfl) (AOK.q (vne h140)) (fun w hh => (hh.vsegA 0 rfl h140)) rfl (fun L_34 h142 h142n => ?_)
         refine g_sel (S' := [_, _, _]) (vs' := [_, _, _, _, _, _, _, _, _]) [0, 1, 2] [0, 1, 2, 3, 4, 5, 6, 7, 8] 0 (by decide) (by decide) rfl rfl rfl ?_
         refine p_next (fun w hh => hh.sel [0, 1, 2] [1, 3, 4, 5, 6, 7, 8] 0 (by decide) (by decide) rfl rfl rfl) ?_
         refine p_free rfl rfl rfl rfl (fun _ _ => v_assign rfl) ?_
         refine p_done ?_
         refine g_n_blk ?_
         refine g_n_then ?_
         refine g_region ?_
         obtain ⟨t84, h143, hm⟩ := bindO hm
         refine g_val rfl rfl rfl (fun _ _ => v_addc h143 rfl rfl) ?_
         refine g_val rfl rfl rfl (fun _ _ => v_move rfl) ?_
         refine g_nil ?_
         obtain rfl := Option.some.inj hm
         refine g_n_then ?_
         exact g_again' _ L_34 rfl (h142) ((.cons rfl (.cons rfl (.cons rfl (.cons rfl (.cons rfl (.cons rfl (.cons rfl (.cons rfl (.cons rfl (.cons rfl (.cons rfl (.cons rfl (.cons rfl (.cons rfl .nil))))))))))))))) (fun w hh => hh.sel [0, 1, 2] [1, 2, 3, 4, 5, 6, 7, 8] 0 (by decide) (by decide) rfl rfl rfl)
        ·replace hm := ifF (of_decide_eq_false h134) hm
         refine g_exit ?_
         refine g_x_then ?_
         refine g_x_then ?_
         refine g_x_blk ?_
         obtain rfl := Option.some.inj hm
         have hbo := h133 _ rfl
         subst hbo
         exact g_leaf l_21 (h132) ((.cons rfl (.cons rfl (.cons rfl (.cons rfl (.cons rfl (.cons rfl (.cons rfl (.cons rfl (.cons rfl (.cons rfl (.cons rfl (.cons rfl .nil))))))))))))) (fun w hh => hh)
       ·intro l_20 hj
        have h131 := hj
        replace hm := h130
        obtain rfl := Option.some.inj hm
        exact g_leaf l_20 (h131) ((.cons rfl (.cons rfl (.cons rfl (.cons rfl (.cons rfl (.cons rfl (.cons rfl (.cons rfl (.cons rfl (.cons rfl (.cons rfl (.cons rfl .nil))))))))))))) (fun w hh => hh)
      ·replace hm := ifF (of_decide_eq_false h128) hm
       refine g_skip ?_
       obtain rfl := Option.some.inj hm
       exact g_leaf ⟨none, 0, 0, []⟩ (VOK.nil) ((.cons rfl (.cons rfl (.cons rfl (.cons rfl (.cons rfl (.cons rfl (.cons rfl (.cons rfl (.cons rfl (.cons rfl (.cons rfl (.cons rfl .nil))))))))))))) (fun w hh => hh.sel [0, 1, 2] [1, 0, 2, 3, 4, 5, 6, 7] 0 (by decide) (by decide) rfl rfl rfl)
     ·intro l_19 hj
      have h127 := hj
      replace hm := h126
      refine g_n_then ?_
      refine g_seq ?_
      obtain ⟨o_6, h144, h145⟩ := bindO hm
      refine g_cut (ι := Unit) (fun l_24 => True) (fun l_24 => [(1, .int .i64 minute1), (2, .int .i64 place2), (3, .int .i64 state3), (4, ptr b 0), (9, ptr l_2.1 0), (10, ptr l_2.2.1 0), (11, .int .i64 o_1.w11), (12, .int .i64 o_1.u12), (13, .int .i64 o_1.v13), (14, slv l_12.q l_12.n l_12.cap), (15, .int .i64 o_6), (16, slv l_19.q l_19.n l_19.cap)]) (fun l_24 => [(b, .cells #[.slice qa0 na0 ca0, .int .i64 s0.wind.lo, .int .i64 s0.wind.hi, .slice qa1 na1 ca1, .slice qa2 na2 ca2] 29 (0, 0)), (l_2.1, .cells #[slv l_2.2.2.1.q l_2.2.2.1.n l_2.2.2.1.cap, .int .i64 o.own9.wind.lo, .int .i64 o.own9.wind.hi, slv l_2.2.2.2.1.q l_2.2.2.2.1.n l_2.2.2.2.1.cap, slv l_2.2.2.2.2.1.q l_2.2.2.2.2.1.n l_2.2.2.2.2.1.cap] 29 (0, 0)), (l_2.2.1, .cells #[slv l_2.2.2.2.2.2.1.q l_2.2.2.2.2.2.1.n l_2.2.2.2.2.2.1.cap, .int .i64 o.x10.wind.lo, .int .i64 o.x10.wind.hi, slv l_2.2.2.2.2.2.2.1.q l_2.2.2.2.2.2.2.1.n l_2.2.2.2.2.2.2.1.cap, slv l_2.2.2.2.2.2.2.2.q l_2.2.2.2.2.2.2.2.n l_2.2.2.2.2.2.2.2.cap] 59 (0, 0))]) (fun l_24 => [⟨3, RI.enc o_1.gates14, l_12.sp, l_12.q⟩, ⟨3, RI.enc o_4, l_19.sp, l_19.q⟩, ⟨68, RW.enc o.own9.table, l_2.2.2.1.sp, l_2.2.2.1.q⟩, ⟨3, RI.enc o.own9.floors, l_2.2.2.2.1.sp, l_2.2.2.2.1.q⟩, ⟨51, RS.enc o.own9.sills, l_2.2.2.2.2.1.sp, l_2.2.2.2.2.1.q⟩, ⟨158, RW.enc o.x10.table, l_2.2.2.2.2.2.1.sp, l_2.2.2.2.2.2.1.q⟩, ⟨3, RI.enc o.x10.floors, l_2.2.2.2.2.2.2.1.sp, l_2.2.2.2.2.2.2.1.q⟩, ⟨159, RS.enc o.x10.sills, l_2.2.2.2.2.2.2.2.sp, l_2.2.2.2.2.2.2.2.q⟩]) ?_ ?_
      ·replace hm := h144
       refine g_seq ?_
       refine g_region ?_
       refine g_val rfl rfl rfl (fun _ _ => v_move rfl) ?_
       refine g_val rfl rfl rfl (fun _ _ => v_eql rfl rfl) ?_
       refine g_nil ?_
       refine g_n_then ?_
       refine g_cond rfl (fun h146 => ?_) (fun h146 => ?_)
       ·replace hm := ifT (of_decide_eq_true h146) hm
        refine g_region ?_
        refine g_val rfl rfl rfl (fun _ _ => v_move rfl) ?_
        refine g_val rfl rfl rfl (fun _ _ => v_move rfl) ?_
        obtain ⟨t89, h147, hm⟩ := bindO hm
        refine g_val rfl rfl rfl (fun w _ => v_ixA h147 (Try.runUnderlying26 w) (Try.sizeOf3 w) rfl rfl (vlen RI h127 rfl) (vne h127)) ?_
        refine g_val rfl rfl rfl (fun w hh => v_ldE RI 0 h147 (Try.isAgg3 w) rfl (hh.vseg 1 rfl h127) rfl (Nat.add_zero _).symm) ?_
        refine g_val rfl rfl rfl (fun _ _ => v_assign rfl) ?_
        refine g_nil ?_
        obtain rfl := Option.some.inj hm
        exact g_leaf () (trivial) ((.cons rfl (.cons rfl (.cons rfl (.cons rfl (.cons rfl (.cons rfl (.cons rfl (.cons rfl (.cons rfl (.cons rfl (.cons rfl (.cons rfl .nil))))))))))))) (fun w hh => hh)
       ·replace hm := ifF (of_decide_eq_false h146) hm
        refine g_skip ?_
        obtain rfl := Option.some.inj hm
        exact g_leaf () (trivial) ((.cons rfl (.cons rfl (.cons rfl (.cons rfl (.cons rfl (.cons rfl (.cons rfl (.cons rfl (.cons rfl (.cons rfl (.cons rfl (.cons rfl .nil))))))))))))) (fun w hh => hh)
      ·intro l_24 hj
       replace hm := h145
       refine g_n_then ?_
       refine g_seq ?_
       refine g_region ?_
       refine g_val rfl rfl rfl (fun w hh => v_loadAgg (vs := [_, _, _, _, _]) (Try.isAgg29 w) (Try.sizeOf29 w) rfl (hh.cells 1 rfl rfl)) ?_
       refine g_val rfl rfl rfl (fun _ _ => v_move rfl) ?_
       refine g_val rfl rfl rfl (fun _ _ => v_move rfl) ?_
       obtain ⟨t95, h148, hm⟩ := bindO hm
       refine g_callH [] [] rfl rfl rfl rfl rfl rfl rfl (fun a w => Try.call46 a w) (fun w hh => cx_At o.own9 minute1 place2 l_2.2.2.1.q l_2.2.2.1.n l_2.2.2.1.cap l_2.2.2.2.1.q l_2.2.2.2.1.n l_2.2.2.2.1.cap l_2.2.2.2.2.1.q l_2.2.2.2.2.1.n l_2.2.2.2.2.1.cap w (HV.callee (S0 := []) (vs0 := []) hh (roC (hh.vsep (S0 := []) (vs0 := []) 2 rfl h9) (roC (hh.vsep (S0 := []) (vs0 := []) 3 rfl h10) (roC (hh.vsep (S0 := []) (vs0 := []) 4 rfl h11) roN)))) (vlen RW h9 rfl) (vne h9) (h9).hle (vlen RI h10 rfl) (vne h10) (h10).hle (vlen RS h11 rfl) (vne h11) (h11).hle h148) (fun l_25 h149 => ?_)
       refine g_val rfl rfl rfl (fun _ _ => v_move rfl) ?_
       refine g_val rfl rfl rfl (fun _ _ => v_extract rfl rfl) ?_
       refine g_val rfl rfl rfl (fun _ _ => v_extract rfl rfl) ?_
       refine g_val rfl rfl rfl (fun _ _ => v_assign rfl) ?_
       refine g_val rfl rfl rfl (fun _ _ => v_assign rfl) ?_
       refine g_nil ?_
       refine g_n_then ?_
       refine g_seq ?_
       refine g_region ?_
       refine g_val rfl rfl rfl (fun w hh => v_loadAgg (vs := [_, _, _, _, _]) (Try.isAgg29 w) (Try.sizeOf29 w) rfl (hh.cells 1 rfl rfl)) ?_
       refine g_val rfl rfl rfl (fun _ _ => v_move rfl) ?_
       obtain ⟨t101, h150, hm⟩ := bindO hm
       refine g_callN rfl rfl rfl rfl rfl rfl rfl (fun a w => Try.call28 a w) (fun w hh => cx_All o.own9 minute1 l_2.2.2.1.q l_2.2.2.1.n l_2.2.2.1.cap l_2.2.2.2.1.q l_2.2.2.2.1.n l_2.2.2.2.1.cap l_2.2.2.2.2.1.q l_2.2.2.2.2.1.n l_2.2.2.2.2.1.cap w (HV.callee (S0 := []) (vs0 := []) hh (roC (hh.vsep (S0 := []) (vs0 := []) 2 rfl h9) (roC (hh.vsep (S0 := []) (vs0 := []) 3 rfl h10) (roC (hh.vsep (S0 := []) (vs0 := []) 4 rfl h11) roN)))) (vlen RW h9 rfl) (vne h9) (h9).hle (vlen RI h10 rfl) (vne h10) (h10).hle (vlen RS h11 rfl) (vne h11) (h11).hle h150) (fun l_26 h151 => ?_)
       refine g_val rfl rfl rfl (fun _ _ => v_move rfl) ?_
       refine g_val rfl rfl rfl (fun _ _ => v_extract rfl rfl) ?_
       refine g_val rfl rfl rfl (fun _ _ => v_extract rfl rfl) ?_
       refine g_val rfl rfl rfl (fun _ _ => v_assign rfl) ?_
       refine g_val rfl rfl rfl (fun _ _ => v_assign rfl) ?_
       refine g_nil ?_
       refine g_n_then ?_
       refine g_seq ?_
       refine g_region ?_
       refine g_val rfl rfl rfl (fun w hh => v_loadAgg (vs := [_, _, _, _, _]) (Try.isAgg29 w) (Try.sizeOf29 w) rfl (hh.cells 1 rfl rfl)) ?_
       refine g_val rfl rfl rfl (fun _ _ => v_move rfl) ?_
       refine g_val rfl rfl rfl (fun _ _ => v_move rfl) ?_
       obtain ⟨t108, h152, hm⟩ := bindO hm
       refine g_callN rfl rfl rfl rfl rfl rfl rfl (fun a w => Try.call47 a w) (fun w hh => cx_Spans o.own9 place2 state3 l_2.2.2.1.q l_2.2.2.1.n l_2.2.2.1.cap l_2.2.2.2.1.q l_2.2.2.2.1.n l_2.2.2.2.1.cap l_2.2.2.2.2.1.q l_2.2.2.2.2.1.n l_2.2.2.2.2.1.cap w (HV.callee (S0 := []) (vs0 := []) hh (roC (hh.vsep (S0 := []) (vs0 := []) 2 rfl h9) (roC (hh.vsep (S0 := []) (vs0 := []) 3 rfl h10) (roC (hh.vsep (S0 := []) (vs0 := []) 4 rfl h11) roN)))) (vlen RW h9 rfl) (vne h9) (h9).hle (vlen RI h10 rfl) (vne h10) (h10).hle (vlen RS h11 rfl) (vne h11) (h11).hle h152) (fun l_27 h153 => ?_)
       refine g_val rfl rfl rfl (fun _ _ => v_move rfl) ?_
       refine g_val rfl rfl rfl (fun _ _ => v_extract rfl rfl) ?_
       refine g_val rfl rfl rfl (fun _ _ => v_extract rfl rfl) ?_
       refine g_val rfl rfl rfl (fun _ _ => v_assign rfl) ?_
       refine g_val rfl rfl rfl (fun _ _ => v_assign rfl) ?_
       refine g_nil ?_
       refine g_n_then ?_
       refine g_seq ?_
       refine g_seq ?_
       obtain ⟨o_7, h154, h155⟩ := bindO hm
       refine g_cut (ι := Unit) (fun l_28 => True) (fun l_28 => [(2, .int .i64 place2), (3, .int .i64 state3), (4, ptr b 0), (9, ptr l_2.1 0), (10, ptr l_2.2.1 0), (13, .int .i64 o_1.v13), (14, slv l_12.q l_12.n l_12.cap), (16, slv l_19.q l_19.n l_19.cap), (20, slv l_26.1 t101.1.length l_26.2), (22, slv l_27.1 t108.1.length l_27.2), (135, .bool o_7)]) (fun l_28 => [(b, .cells #[.slice qa0 na0 ca0, .int .i64 s0.wind.lo, .int .i64 s0.wind.hi, .slice qa1 na1 ca1, .slice qa2 na2 ca2] 29 (0, 0)), (l_2.1, .cells #[slv l_2.2.2.1.q l_2.2.2.1.n l_2.2.2.1.cap, .int .i64 o.own9.wind.lo, .int .i64 o.own9.wind.hi, slv l_2.2.2.2.1.q l_2.2.2.2.1.n l_2.2.2.2.1.cap, slv l_2.2.2.2.2.1.q l_2.2.2.2.2.1.n l_2.2.2.2.2.1.cap] 29 (0, 0)), (l_2.2.1, .cells #[slv l_2.2.2.2.2.2.1.q l_2.2.2.2.2.2.1.n l_2.2.2.2.2.2.1.cap, .int .i64 o.x10.wind.lo, .int .i64 o.x10.wind.hi, slv l_2.2.2.2.2.2.2.1.q l_2.2.2.2.2.2.2.1.n l_2.2.2.2.2.2.2.1.cap, slv l_2.2.2.2.2.2.2.2.q l_2.2.2.2.2.2.2.2.n l_2.2.2.2.2.2.2.2.cap] 59 (0, 0))]) (fun l_28 => [⟨3, RI.enc o_1.gates14, l_12.sp, l_12.q⟩, ⟨3, RI.enc o_4, l_19.sp, l_19.q⟩, ⟨68, RW.enc o.own9.table, l_2.2.2.1.sp, l_2.2.2.1.q⟩, ⟨3, RI.enc o.own9.floors, l_2.2.2.2.1.sp, l_2.2.2.2.1.q⟩, ⟨51, RS.enc o.own9.sills, l_2.2.2.2.2.1.sp, l_2.2.2.2.2.1.q⟩, ⟨158, RW.enc o.x10.table, l_2.2.2.2.2.2.1.sp, l_2.2.2.2.2.2.1.q⟩, ⟨3, RI.enc o.x10.floors, l_2.2.2.2.2.2.2.1.sp, l_2.2.2.2.2.2.2.1.q⟩, ⟨159, RS.enc o.x10.sills, l_2.2.2.2.2.2.2.2.sp, l_2.2.2.2.2.2.2.2.q⟩]) ?_ ?_
       ·replace hm := h154
        refine g_region ?_
        refine g_val rfl rfl rfl (fun _ _ => v_move rfl) ?_
        refine g_val rfl rfl rfl (fun _ _ => v_move rfl) ?_
        refine g_val rfl rfl rfl (fun _ _ => v_neq rfl rfl) ?_
        refine g_val rfl rfl rfl (fun _ _ => v_move rfl) ?_
        refine g_case 114 rfl (fun h156 => ?_) (fun h156 => ?_)
        ·replace hm := ifF (of_ndec_true h156) hm
         refine g_skipG rfl rfl rfl rfl rfl rfl ?_
         refine g_skipG rfl rfl rfl rfl rfl rfl ?_
         refine g_skipG rfl rfl rfl rfl rfl rfl ?_
         refine g_val rfl rfl rfl (fun _ _ => v_pickT rfl rfl) ?_
         refine g_val rfl rfl rfl (fun _ _ => v_move rfl) ?_
         refine g_skipG rfl rfl rfl rfl rfl rfl ?_
         refine g_skipG rfl rfl rfl rfl rfl rfl ?_
         refine g_skipG rfl rfl rfl rfl rfl rfl ?_
         refine g_val rfl rfl rfl (fun _ _ => v_pickT rfl rfl) ?_
         refine g_val rfl rfl rfl (fun _ _ => v_move rfl) ?_
         refine g_skipG rfl rfl rfl rfl rfl rfl ?_
         refine g_skipG rfl rfl rfl rfl rfl rfl ?_
         refine g_skipG rfl rfl rfl rfl rfl rfl ?_
         refine g_val rfl rfl rfl (fun _ _ => v_pickT rfl rfl) ?_
         refine g_val rfl rfl rfl (fun _ _ => v_move rfl) ?_
         refine g_skipG rfl rfl rfl rfl rfl rfl ?_
         refine g_skipG rfl rfl rfl rfl rfl rfl ?_
         refine g_skipG rfl rfl rfl rfl rfl rfl ?_
         refine g_skipG rfl rfl rfl rfl rfl rfl ?_
         refine g_skipG rfl rfl rfl rfl rfl rfl ?_
         refine g_val rfl rfl rfl (fun _ _ => v_pickT rfl rfl) ?_
         refine g_nil ?_
         obtain rfl := Option.some.inj hm
         exact g_leaf () (trivial) ((.cons rfl (.cons rfl (.cons rfl (.cons rfl (.cons rfl (.cons rfl (.cons rfl (.cons rfl (.cons rfl (.cons rfl (.cons rfl .nil)))))))))))) (fun w hh => hh)
        ·replace hm := ifT (of_ndec_false h156) hm
         refine v_unguard rfl rfl ?_
         refine g_val rfl rfl rfl (fun _ _ => v_move rfl) ?_
         refine v_unguard rfl rfl ?_
         refine g_val rfl rfl rfl (fun _ _ => v_move rfl) ?_
         refine v_unguard rfl rfl ?_
         refine g_val rfl rfl rfl (fun _ _ => v_neq rfl rfl) ?_
         refine g_val rfl rfl rfl (fun _ _ => v_pickF rfl rfl) ?_
         refine g_val rfl rfl rfl (fun _ _ => v_move rfl) ?_
         refine g_case 119 rfl (fun h157 => ?_) (fun h157 => ?_)
         ·replace hm := ifF (of_ndec_true h157) hm
          refine g_skipG rfl rfl rfl rfl rfl rfl ?_
          refine g_skipG rfl rfl rfl rfl rfl rfl ?_
          refine g_skipG rfl rfl rfl rfl rfl rfl ?_
          refine g_val rfl rfl rfl (fun _ _ => v_pickT rfl rfl) ?_
          refine g_val rfl rfl rfl (fun _ _ => v_move rfl) ?_
          refine g_skipG rfl rfl rfl rfl rfl rfl ?_
          refine g_skipG rfl rfl rfl rfl rfl rfl ?_
          refine g_skipG rfl rfl rfl rfl rfl rfl ?_
          refine g_val rfl rfl rfl (fun _ _ => v_pickT rfl rfl) ?_
          refine g_val rfl rfl rfl (fun _ _ => v_move rfl) ?_
          refine g_skipG rfl rfl rfl rfl rfl rfl ?_
          refine g_skipG rfl rfl rfl rfl rfl rfl ?_
          refine g_skipG rfl rfl rfl rfl rfl rfl ?_
          refine g_skipG rfl rfl rfl rfl rfl rfl ?_
          refine g_skipG rfl rfl rfl rfl rfl rfl ?_
          refine g_val rfl rfl rfl (fun _ _ => v_pickT rfl rfl) ?_
          refine g_nil ?_
          obtain rfl := Option.some.inj hm
          exact g_leaf () (trivial) ((.cons rfl (.cons rfl (.cons rfl (.cons rfl (.cons rfl (.cons rfl (.cons rfl (.cons rfl (.cons rfl (.cons rfl (.cons rfl .nil)))))))))))) (fun w hh => hh)
         ·replace hm := ifT (of_ndec_false h157) hm
          refine v_unguard rfl rfl ?_
          refine g_val rfl rfl rfl (fun _ _ => v_move rfl) ?_
          refine v_unguard rfl rfl ?_
          refine g_val rfl rfl rfl (fun _ _ => v_move rfl) ?_
          refine v_unguard rfl rfl ?_
          refine g_val rfl rfl rfl (fun _ _ => v_neq rfl rfl) ?_
          refine g_val rfl rfl rfl (fun _ _ => v_pickF rfl rfl) ?_
          refine g_val rfl rfl rfl (fun _ _ => v_move rfl) ?_
          refine g_case 124 rfl (fun h158 => ?_) (fun h158 => ?_)
          ·replace hm := ifF (of_ndec_true h158) hm
           refine g_skipG rfl rfl rfl rfl rfl rfl ?_
           refine g_skipG rfl rfl rfl rfl rfl rfl ?_
           refine g_skipG rfl rfl rfl rfl rfl rfl ?_
           refine g_val rfl rfl rfl (fun _ _ => v_pickT rfl rfl) ?_
           refine g_val rfl rfl rfl (fun _ _ => v_move rfl) ?_
           refine g_skipG rfl rfl rfl rfl rfl rfl ?_
           refine g_skipG rfl rfl rfl rfl rfl rfl ?_
           refine g_skipG rfl rfl rfl rfl rfl rfl ?_
           refine g_skipG rfl rfl rfl rfl rfl rfl ?_
           refine g_skipG rfl rfl rfl rfl rfl rfl ?_
           refine g_val rfl rfl rfl (fun _ _ => v_pickT rfl rfl) ?_
           refine g_nil ?_
           obtain rfl := Option.some.inj hm
           exact g_leaf () (trivial) ((.cons rfl (.cons rfl (.cons rfl (.cons rfl (.cons rfl (.cons rfl (.cons rfl (.cons rfl (.cons rfl (.cons rfl (.cons rfl .nil)))))))))))) (fun w hh => hh)
          ·replace hm := ifT (of_ndec_false h158) hm
           refine v_unguard rfl rfl ?_
           refine g_val rfl rfl rfl (fun _ _ => v_move rfl) ?_
           refine v_unguard rfl rfl ?_
           refine g_val rfl rfl rfl (fun _ _ => v_move rfl) ?_
           refine v_unguard rfl rfl ?_
           refine g_val rfl rfl rfl (fun _ _ => v_neq rfl rfl) ?_
           refine g_val rfl rfl rfl (fun _ _ => v_pickF rfl rfl) ?_
           refine g_val rfl rfl rfl (fun _ _ => v_move rfl) ?_
           refine g_case 129 rfl (fun h159 => ?_) (fun h159 => ?_)
           ·replace hm := ifF (of_ndec_true h159) hm
            refine g_skipG rfl rfl rfl rfl rfl rfl ?_
            refine g_skipG rfl rfl rfl rfl rfl rfl ?_
            refine g_skipG rfl rfl rfl rfl rfl rfl ?_
            refine g_skipG rfl rfl rfl rfl rfl rfl ?_
            refine g_skipG rfl rfl rfl rfl rfl rfl ?_
            refine g_val rfl rfl rfl (fun _ _ => v_pickT rfl rfl) ?_
            refine g_nil ?_
            obtain rfl := Option.some.inj hm
            exact g_leaf () (trivial) ((.cons rfl (.cons rfl (.cons rfl (.cons rfl (.cons rfl (.cons rfl (.cons rfl (.cons rfl (.cons rfl (.cons rfl (.cons rfl .nil)))))))))))) (fun w hh => hh)
           ·replace hm := ifT (of_ndec_false h159) hm
            refine v_unguard rfl rfl ?_
            refine g_val rfl rfl rfl (fun _ _ => v_move rfl) ?_
            refine v_unguard rfl rfl ?_
            refine g_val rfl rfl rfl (fun w _ => v_lenN rfl (Try.runUnderlying43 w) rfl) ?_
            refine v_unguard rfl rfl ?_
            refine g_val rfl rfl rfl (fun _ _ => v_move rfl) ?_
            refine v_unguard rfl rfl ?_
            refine g_val rfl rfl rfl (fun w _ => v_lenN (vlen RI h127 rfl) (Try.runUnderlying26 w) rfl) ?_
            refine v_unguard rfl rfl ?_
            refine g_val rfl rfl rfl (fun _ _ => v_neq rfl rfl) ?_
            refine g_val rfl rfl rfl (fun _ _ => v_pickF rfl rfl) ?_
            refine g_nil ?_
            obtain rfl := Option.some.inj hm
            exact g_leaf () (trivial) ((.cons rfl (.cons rfl (.cons rfl (.cons rfl (.cons rfl (.cons rfl (.cons rfl (.cons rfl (.cons rfl (.cons rfl (.cons rfl .nil)))))))))))) (fun w hh => hh)
       ·intro l_28 hj
        replace hm := h155
        refine g_n_then ?_
        refine g_cond rfl (fun h160 => ?_) (fun h160 => ?_)
        ·replace hm := ifT (h160) hm
         refine g_seq ?_
         refine g_region ?_
         refine g_val rfl rfl rfl (fun _ _ => v_assign rfl) ?_
         refine g_nil ?_
         refine g_n_then ?_
         refine g_ret ?_
         refine g_r_then ?_
         obtain rfl := Option.some.inj hm
         refine g_done rfl (fun w hh => (.tmp rfl .nil)) (fun w hh => ⟨(), rfl, trivial, hh.sel [] [] 5 (by decide) (by decide) rfl rfl rfl⟩)
        ·replace hm := ifF ((fun hh => Bool.noConfusion ((h160).symm.trans hh))) hm
         refine g_skip ?_
         refine g_n_then ?_
         refine g_seq ?_
         refine g_seq ?_
         refine g_region ?_
         refine g_val rfl rfl rfl (fun _ _ => v_move rfl) ?_
         refine g_val rfl rfl rfl (fun w _ => v_lenN rfl (Try.runUnderlying43 w) rfl) ?_
         refine g_val rfl rfl rfl (fun _ _ => v_move rfl) ?_
         refine g_nil ?_
         refine g_n_then ?_
         obtain ⟨o_8, h161, h162⟩ := bindO hm
         refine g_cut (ι := Unit) (fun j => o_8 = .inl j) (fun j => [(2, .int .i64 place2), (3, .int .i64 state3), (4, ptr b 0), (9, ptr l_2.1 0), (10, ptr l_2.2.1 0), (13, .int .i64 o_1.v13), (14, slv l_12.q l_12.n l_12.cap), (22, slv l_27.1 t108.1.length l_27.2)]) (fun j => [(b, .cells #[.slice qa0 na0 ca0, .int .i64 s0.wind.lo, .int .i64 s0.wind.hi, .slice qa1 na1 ca1, .slice qa2 na2 ca2] 29 (0, 0)), (l_2.1, .cells #[slv l_2.2.2.1.q l_2.2.2.1.n l_2.2.2.1.cap, .int .i64 o.own9.wind.lo, .int .i64 o.own9.wind.hi, slv l_2.2.2.2.1.q l_2.2.2.2.1.n l_2.2.2.2.1.cap, slv l_2.2.2.2.2.1.q l_2.2.2.2.2.1.n l_2.2.2.2.2.1.cap] 29 (0, 0)), (l_2.2.1, .cells #[slv l_2.2.2.2.2.2.1.q l_2.2.2.2.2.2.1.n l_2.2.2.2.2.2.1.cap, .int .i64 o.x10.wind.lo, .int .i64 o.x10.wind.hi, slv l_2.2.2.2.2.2.2.1.q l_2.2.2.2.2.2.2.1.n l_2.2.2.2.2.2.2.1.cap, slv l_2.2.2.2.2.2.2.2.q l_2.2.2.2.2.2.2.2.n l_2.2.2.2.2.2.2.2.cap] 59 (0, 0))]) (fun j => [⟨3, RI.enc o_1.gates14, l_12.sp, l_12.q⟩, ⟨68, RW.enc o.own9.table, l_2.2.2.1.sp, l_2.2.2.1.q⟩, ⟨3, RI.enc o.own9.floors, l_2.2.2.2.1.sp, l_2.2.2.2.1.q⟩, ⟨51, RS.enc o.own9.sills, l_2.2.2.2.2.1.sp, l_2.2.2.2.2.1.q⟩, ⟨158, RW.enc o.x10.table, l_2.2.2.2.2.2.1.sp, l_2.2.2.2.2.2.1.q⟩, ⟨3, RI.enc o.x10.floors, l_2.2.2.2.2.2.2.1.sp, l_2.2.2.2.2.2.2.1.q⟩, ⟨159, RS.enc o.x10.sills, l_2.2.2.2.2.2.2.2.sp, l_2.2.2.2.2.2.2.2.q⟩]) ?_ ?_
         ·replace hm := h161
          refine g_block ?_
          refine g_loopF (ι := Unit) hm (fun s_1 l_29 => True) (fun s_1 l_29 => [(2, .int .i64 place2), (3, .int .i64 state3), (4, ptr b 0), (9, ptr l_2.1 0), (10, ptr l_2.2.1 0), (13, .int .i64 o_1.v13), (14, slv l_12.q l_12.n l_12.cap), (16, slv l_19.q l_19.n l_19.cap), (22, slv l_27.1 t108.1.length l_27.2), (136, slv l_26.1 t101.1.length l_26.2), (137, .int .i64 (t101.1.length : Int)), (138, .int .i64 s_1)]) (fun s_1 l_29 => [(b, .cells #[.slice qa0 na0 ca0, .int .i64 s0.wind.lo, .int .i64 s0.wind.hi, .slice qa1 na1 ca1, .slice qa2 na2 ca2] 29 (0, 0)), (l_2.1, .cells #[slv l_2.2.2.1.q l_2.2.2.1.n l_2.2.2.1.cap, .int .i64 o.own9.wind.lo, .int .i64 o.own9.wind.hi, slv l_2.2.2.2.1.q l_2.2.2.2.1.n l_2.2.2.2.1.cap, slv l_2.2.2.2.2.1.q l_2.2.2.2.2.1.n l_2.2.2.2.2.1.cap] 29 (0, 0)), (l_2.2.1, .cells #[slv l_2.2.2.2.2.2.1.q l_2.2.2.2.2.2.1.n l_2.2.2.2.2.2.1.cap, .int .i64 o.x10.wind.lo, .int .i64 o.x10.wind.hi, slv l_2.2.2.2.2.2.2.1.q l_2.2.2.2.2.2.2.1.n l_2.2.2.2.2.2.2.1.cap, slv l_2.2.2.2.2.2.2.2.q l_2.2.2.2.2.2.2.2.n l_2.2.2.2.2.2.2.2.cap] 59 (0, 0))]) (fun s_1 l_29 => [⟨3, RI.enc o_1.gates14, l_12.sp, l_12.q⟩, ⟨3, RI.enc o_4, l_19.sp, l_19.q⟩, ⟨68, RW.enc o.own9.table, l_2.2.2.1.sp, l_2.2.2.1.q⟩, ⟨3, RI.enc o.own9.floors, l_2.2.2.2.1.sp, l_2.2.2.2.1.q⟩, ⟨51, RS.enc o.own9.sills, l_2.2.2.2.2.1.sp, l_2.2.2.2.2.1.q⟩, ⟨158, RW.enc o.x10.table, l_2.2.2.2.2.2.1.sp, l_2.2.2.2.2.2.1.q⟩, ⟨3, RI.enc o.x10.floors, l_2.2.2.2.2.2.2.1.sp, l_2.2.2.2.2.2.2.1.q⟩, ⟨159, RS.enc o.x10.sills, l_2.2.2.2.2.2.2.2.sp, l_2.2.2.2.2.2.2.2.q⟩]) () (trivial) ((.cons rfl (.cons rfl (.cons rfl (.cons rfl (.cons rfl (.cons rfl (.cons rfl (.cons rfl (.cons rfl (.cons rfl (.cons rfl (.cons rfl .nil))))))))))))) (fun w hh => hh) (fun s_1 l_29 r_1 hpl hm h163 => ?_)
          unfold m_laurellaw01_TideStates_L1 at hm
          refine g_seq ?_
          refine g_region ?_
          refine g_val rfl rfl rfl (fun _ _ => v_lss rfl rfl) ?_
          refine g_nil ?_
          refine g_n_then ?_
          refine g_seq ?_
          refine g_cond rfl (fun h164 => ?_) (fun h164 => ?_)
          ·replace hm := ifT (of_decide_eq_true h164) hm
           refine g_skip ?_
           refine g_n_then ?_
           refine g_seq ?_
           refine g_block ?_
           refine g_seq ?_
           refine g_region ?_
           refine g_val rfl rfl rfl (fun _ _ => v_move rfl) ?_
           obtain ⟨t141, h165, hm⟩ := bindO hm
           refine g_val rfl rfl rfl (fun w _ => v_ixA h165 (Try.runUnderlying43 w) (Try.sizeOf46 w) rfl rfl rfl h151.ne) ?_
           refine g_val rfl rfl rfl (fun w hh => v_ldE RI 0 h165 (Try.isAgg46 w) rfl (hh.seg 1 rfl) rfl (Nat.add_zero _).symm) ?_
           refine g_val rfl rfl rfl (fun _ _ => v_assign rfl) ?_
           refine g_val rfl rfl rfl (fun _ _ => v_assign rfl) ?_
           refine g_nil ?_
           refine g_n_then ?_
           refine g_seq ?_
           refine g_region ?_
           refine g_val rfl rfl rfl (fun _ _ => v_move rfl) ?_
           refine g_val rfl rfl rfl (fun _ _ => v_move rfl) ?_
           refine g_val rfl rfl rfl (fun _ _ => v_move rfl) ?_
           obtain ⟨t146, h166, hm⟩ := bindO hm
           refine g_val rfl rfl rfl (fun w _ => v_ixA h166 (Try.runUnderlying26 w) (Try.sizeOf3 w) rfl rfl (vlen RI h127 rfl) (vne h127)) ?_
           refine g_val rfl rfl rfl (fun w hh => v_ldE RI 0 h166 (Try.isAgg3 w) rfl (hh.vseg 1 rfl h127) rfl (Nat.add_zero _).symm) ?_
           refine g_val rfl rfl rfl (fun _ _ => v_neq rfl rfl) ?_
           refine g_nil ?_
           refine g_n_then ?_
           refine g_cond rfl (fun h167 => ?_) (fun h167 => ?_)
           ·replace hm := ifF (of_ndec_true h167) hm
            refine g_seq ?_
            refine g_region ?_
            refine g_val rfl rfl rfl (fun _ _ => v_assign rfl) ?_
            refine g_nil ?_
            refine g_n_then ?_
            refine g_ret ?_
            refine g_r_blk ?_
            refine g_r_then ?_
            refine g_r_then ?_
            refine g_r_blk ?_
            obtain rfl := Option.some.inj hm
            have hbo := h163 _ rfl
            subst hbo
            refine g_r_then ?_
            replace hm := ocR h162
            refine g_r_then ?_
            obtain rfl := Option.some.inj hm
            refine g_done rfl (fun w hh => (.tmp rfl .nil)) (fun w hh => ⟨(), rfl, trivial, hh.sel [] [] 5 (by decide) (by decide) rfl rfl rfl⟩)
           ·replace hm := ifT (of_ndec_false h167) hm
            refine g_skip ?_
            refine g_n_blk ?_
            refine g_n_then ?_
            refine g_region ?_
            obtain ⟨t149, h168, hm⟩ := bindO hm
            refine g_val rfl rfl rfl (fun _ _ => v_addc h168 rfl rfl) ?_
            refine g_val rfl rfl rfl (fun _ _ => v_move rfl) ?_
            refine g_nil ?_
            obtain rfl := Option.some.inj hm
            refine g_n_then ?_
            exact g_again' _ () rfl (trivial) ((.cons rfl (.cons rfl (.cons rfl (.cons rfl (.cons rfl (.cons rfl (.cons rfl (.cons rfl (.cons rfl (.cons rfl (.cons rfl (.cons rfl .nil))))))))))))) (fun w hh => hh)
          ·replace hm := ifF (of_decide_eq_false h164) hm
           refine g_exit ?_
           refine g_x_then ?_
           refine g_x_then ?_
           refine g_x_blk ?_
           obtain rfl := Option.some.inj hm
           have hbo := h163 _ rfl
           subst hbo
           exact g_leaf () (rfl) ((.cons rfl (.cons rfl (.cons rfl (.cons rfl (.cons rfl (.cons rfl (.cons rfl (.cons rfl .nil))))))))) (fun w hh => hh.sel [0, 1, 2] [0, 2, 3, 4, 5, 6, 7] 0 (by decide) (by decide) rfl rfl rfl)
         ·intro j hj
          have h169 := hj
          subst h169
          replace hm := ocL h162
          refine g_n_then ?_
          refine g_seq ?_
          refine g_region ?_
          refine g_val rfl rfl rfl (fun _ _ => v_nilS rfl) ?_
          refine g_nil ?_
          refine g_n_then ?_
          refine g_seq ?_
          refine g_vnil 25 ?_
          obtain ⟨o_9, h170, h171⟩ := bindO hm
          refine g_cut (ι := VL) (fun l_30 => VOK 2 l_30.n l_30.cap (RP.enc o_9) l_30.sp l_30.q) (fun l_30 => [(4, ptr b 0), (9, ptr l_2.1 0), (22, slv l_27.1 t108.1.length l_27.2), (26, slv l_30.q l_30.n l_30.cap)]) (fun l_30 => [(b, .cells #[.slice qa0 na0 ca0, .int .i64 s0.wind.lo, .int .i64 s0.wind.hi, .slice qa1 na1 ca1, .slice qa2 na2 ca2] 29 (0, 0)), (l_2.1, .cells #[slv l_2.2.2.1.q l_2.2.2.1.n l_2.2.2.1.cap, .int .i64 o.own9.wind.lo, .int .i64 o.own9.wind.hi, slv l_2.2.2.2.1.q l_2.2.2.2.1.n l_2.2.2.2.1.cap, slv l_2.2.2.2.2.1.q l_2.2.2.2.2.1.n l_2.2.2.2.2.1.cap] 29 (0, 0)), (l_2.2.1, .cells #[slv l_2.2.2.2.2.2.1.q l_2.2.2.2.2.2.1.n l_2.2.2.2.2.2.1.cap, .int .i64 o.x10.wind.lo, .int .i64 o.x10.wind.hi, slv l_2.2.2.2.2.2.2.1.q l_2.2.2.2.2.2.2.1.n l_2.2.2.2.2.2.2.1.cap, slv l_2.2.2.2.2.2.2.2.q l_2.2.2.2.2.2.2.2.n l_2.2.2.2.2.2.2.2.cap] 59 (0, 0))]) (fun l_30 => [⟨25, RP.enc o_9, l_30.sp, l_30.q⟩, ⟨68, RW.enc o.own9.table, l_2.2.2.1.sp, l_2.2.2.1.q⟩, ⟨3, RI.enc o.own9.floors, l_2.2.2.2.1.sp, l_2.2.2.2.1.q⟩, ⟨51, RS.enc o.own9.sills, l_2.2.2.2.2.1.sp, l_2.2.2.2.2.1.q⟩, ⟨158, RW.enc o.x10.table, l_2.2.2.2.2.2.1.sp, l_2.2.2.2.2.2.1.q⟩, ⟨3, RI.enc o.x10.floors, l_2.2.2.2.2.2.2.1.sp, l_2.2.2.2.2.2.2.1.q⟩, ⟨159, RS.enc o.x10.sills, l_2.2.2.2.2.2.2.2.sp, l_2.2.2.2.2.2.2.2.q⟩]) ?_ ?_
          ·replace hm := h170
           refine g_seq ?_
           refine g_region ?_
           refine g_val rfl rfl rfl (fun _ _ => v_move rfl) ?_
           refine g_val rfl rfl rfl (fun _ _ => v_eql rfl rfl) ?_
           refine g_nil ?_
           refine g_n_then ?_
           refine g_cond rfl (fun h173 => ?_) (fun h173 => ?_)
           ·replace hm := ifT (of_decide_eq_true h173) hm
            refine g_draw none (.hoist 0 (.hoist 1 (.free 2 (.free 3 (.free 4 (.hoist 5 (.free 6 (.one 7 (.one 8 (.free 9 .done)))))))))) _ rfl (by decide +kernel) (fun w k hh => hh.draw k) (fun w hh => hh) ?_
            refine p_hoist rfl rfl rfl rfl (fun w hh => v_loadAgg (vs := [_, _, _, _, _]) (Try.isAgg59 w) (Try.sizeOf59 w) rfl (hh.cells 2 rfl rfl)) ?_
            refine p_hoist rfl rfl rfl rfl (fun w hh => v_loadAgg (vs := [_, _, _, _, _]) (Try.isAgg59 w) (Try.sizeOf59 w) rfl (hh.cells 2 rfl rfl)) ?_
            refine p_free rfl rfl rfl rfl (fun _ _ => v_move rfl) ?_
            refine p_free rfl rfl rfl rfl (fun _ _ => v_move rfl) ?_
            obtain ⟨t156, h174, hm⟩ := bindO hm
            refine p_free rfl rfl rfl rfl (fun w _ => v_ixA h174 (Try.runUnderlying26 w) (Try.sizeOf3 w) rfl rfl (vlen RI h106 rfl) (vne h106)) ?_
            refine p_hoist rfl rfl rfl rfl (fun w hh => v_ldE RI 0 h174 (Try.isAgg3 w) rfl (hh.vseg 1 rfl h106) rfl (Nat.add_zero _).symm) ?_
            refine p_free rfl rfl rfl rfl (fun _ _ => v_move rfl) ?_
            refine p_one rfl ?_
            obtain ⟨t159, h175, hm⟩ := bindO hm
            refine g_callH [] [] rfl rfl rfl rfl rfl rfl rfl (fun a w => Try.call49 a w) (fun w hh => c_laurelref01_Says o.x10 t156 state3 (qA l_2.2.2.2.2.2.1.q) l_2.2.2.2.2.2.1.n l_2.2.2.2.2.2.1.cap (qA l_2.2.2.2.2.2.2.1.q) l_2.2.2.2.2.2.2.1.n l_2.2.2.2.2.2.2.1.cap (qA l_2.2.2.2.2.2.2.2.q) l_2.2.2.2.2.2.2.2.n l_2.2.2.2.2.2.2.2.cap w (HV.callee (S0 := []) (vs0 := []) hh (roC (hh.vsepA (S0 := []) (vs0 := []) 5 rfl h12) (roC (hh.vsepA (S0 := []) (vs0 := []) 6 rfl h13) (roC (hh.vsepA (S0 := []) (vs0 := []) 7 rfl h14) roN)))) (vlen RW h12 rfl) (AOK.q (vne h12)) (h12).hle (vlen RI h13 rfl) (AOK.q (vne h13)) (h13).hle (vlen RS h14 rfl) (AOK.q (vne h14)) (h14).hle h175) (fun l_31 h176 => ?_)
            have h177 := h176
            refine g_sel (S' := [_, _, _]) (vs' := [_, _, _, _, _, _, _, _, _]) [0, 1, 2] [0, 1, 2, 3, 4, 5, 6, 7, 8] 0 (by decide) (by decide) rfl rfl rfl ?_
            refine p_next (fun w hh => hh.sel [0, 1, 2] [1, 2, 3, 4, 5, 6, 7, 8] 0 (by decide) (by decide) rfl rfl rfl) ?_
            refine p_one rfl ?_
            obtain ⟨t160, h178, hm⟩ := bindO hm
            refine g_callH [] [] rfl rfl rfl rfl rfl rfl rfl (fun a w => Try.call48 a w) (fun w hh => c_laurelref01_Spans o.x10 t159 (qA l_2.2.2.2.2.2.1.q) l_2.2.2.2.2.2.1.n l_2.2.2.2.2.2.1.cap (qA l_2.2.2.2.2.2.2.1.q) l_2.2.2.2.2.2.2.1.n l_2.2.2.2.2.2.2.1.cap (qA l_2.2.2.2.2.2.2.2.q) l_2.2.2.2.2.2.2.2.n l_2.2.2.2.2.2.2.2.cap (qA l_31.q) l_31.n l_31.cap w (HV.callee (S0 := []) (vs0 := []) hh (roC (hh.vsepA (S0 := []) (vs0 := []) 6 rfl h12) (roC (hh.vsepA (S0 := []) (vs0 := []) 7 rfl h13) (roC (hh.vsepA (S0 := []) (vs0 := []) 8 rfl h14) (roC (hh.vsepA (S0 := []) (vs0 := []) 0 rfl h177) roN))))) (vlen RW h12 rfl) (AOK.q (vne h12)) (h12).hle (vlen RI h13 rfl) (AOK.q (vne h13)) (h13).hle (vlen RS h14 rfl) (AOK.q (vne h14)) (h14).hle (vlen RB h177 rfl) (AOK.q (vne h177)) (h177).hle h178) (fun l_32 h179 => ?_)
            have h180 := h179
            refine g_sel (S' := [_, _, _]) (vs' := [_, _, _, _, _, _, _, _, _, _]) [0, 1, 2] [0, 1, 2, 3, 4, 5, 6, 7, 8, 9] 0 (by decide) (by decide) rfl rfl rfl ?_
            refine p_next (fun w hh => hh.sel [0, 1, 2] [2, 3, 4, 5, 6, 7, 8, 9] 0 (by decide) (by decide) rfl rfl rfl) ?_
            refine p_free rfl rfl rfl rfl (fun _ _ => v_assign rfl) ?_
            refine p_done ?_
            obtain rfl := Option.some.inj hm
            exact g_leaf l_32 (h180) ((.cons rfl (.cons rfl (.cons rfl (.cons rfl .nil))))) (fun w hh => hh.sel [0, 1, 2] [0, 4, 5, 6, 7, 8, 9] 0 (by decide) (by decide) rfl rfl rfl)
           ·replace hm := ifF (of_decide_eq_false h173) hm
            refine g_skip ?_
            obtain rfl := Option.some.inj hm
            exact g_leaf ⟨none, 0, 0, []⟩ (VOK.nil) ((.cons rfl (.cons rfl (.cons rfl (.cons rfl .nil))))) (fun w hh => hh.sel [0, 1, 2] [0, 2, 3, 4, 5, 6, 7] 0 (by decide) (by decide) rfl rfl rfl)
          ·intro l_30 hj
           have h172 := hj
           replace hm := h171
           refine g_n_then ?_
           refine g_seq ?_
           obtain ⟨o_10, h181, h182⟩ := bindO hm
           refine g_cut (ι := Unit) (fun l_33 => True) (fun l_33 => [(8, .bool o_10)]) (fun l_33 => [(b, .cells #[.slice qa0 na0 ca0, .int .i64 s0.wind.lo, .int .i64 s0.wind.hi, .slice qa1 na1 ca1, .slice qa2 na2 ca2] 29 (0, 0)), (l_2.1, .cells #[slv l_2.2.2.1.q l_2.2.2.1.n l_2.2.2.1.cap, .int .i64 o.own9.wind.lo, .int .i64 o.own9.wind.hi, slv l_2.2.2.2.1.q l_2.2.2.2.1.n l_2.2.2.2.1.cap, slv l_2.2.2.2.2.1.q l_2.2.2.2.2.1.n l_2.2.2.2.2.1.cap] 29 (0, 0)), (l_2.2.1, .cells #[slv l_2.2.2.2.2.2.1.q l_2.2.2.2.2.2.1.n l_2.2.2.2.2.2.1.cap, .int .i64 o.x10.wind.lo, .int .i64 o.x10.wind.hi, slv l_2.2.2.2.2.2.2.1.q l_2.2.2.2.2.2.2.1.n l_2.2.2.2.2.2.2.1.cap, slv l_2.2.2.2.2.2.2.2.q l_2.2.2.2.2.2.2.2.n l_2.2.2.2.2.2.2.2.cap] 59 (0, 0))]) (fun l_33 => [⟨68, RW.enc o.own9.table, l_2.2.2.1.sp, l_2.2.2.1.q⟩, ⟨3, RI.enc o.own9.floors, l_2.2.2.2.1.sp, l_2.2.2.2.1.q⟩, ⟨51, RS.enc o.own9.sills, l_2.2.2.2.2.1.sp, l_2.2.2.2.2.1.q⟩, ⟨158, RW.enc o.x10.table, l_2.2.2.2.2.2.1.sp, l_2.2.2.2.2.2.1.q⟩, ⟨3, RI.enc o.x10.floors, l_2.2.2.2.2.2.2.1.sp, l_2.2.2.2.2.2.2.1.q⟩, ⟨159, RS.enc o.x10.sills, l_2.2.2.2.2.2.2.2.sp, l_2.2.2.2.2.2.2.2.q⟩]) ?_ ?_
           ·replace hm := h181
            refine g_region ?_
            refine g_val rfl rfl rfl (fun _ _ => v_move rfl) ?_
            refine g_val rfl rfl rfl (fun _ _ => v_move rfl) ?_
            obtain ⟨t163, h183, hm⟩ := bindO hm
            refine g_callH [] [] rfl rfl rfl rfl rfl rfl rfl (fun a w => Try.call50 a w) (fun w hh => c_laurelkit_Eq_apiSpan t108.1 o_9 (qA l_27.1) t108.1.length l_27.2 (qA l_30.q) l_30.n l_30.cap w (HV.callee (S0 := []) (vs0 := []) hh (roC (sepA (hh.rsep (S0 := []) (vs0 := []) 0 rfl)) (roC (hh.vsepA (S0 := []) (vs0 := []) 0 rfl h172) roN))) rfl (AOK.q h153.ne) h153.le (vlen RP h172 rfl) (AOK.q (vne h172)) (h172).hle h183) (fun l_34 h184 => ?_)
            refine g_val rfl rfl rfl (fun _ _ => v_move rfl) ?_
            refine g_case 164 rfl (fun h185 => ?_) (fun h185 => ?_)
            ·replace hm := ifT (h185) hm
             refine v_unguard rfl rfl ?_
             refine g_val rfl rfl rfl (fun w hh => v_loadAgg (vs := [_, _, _, _, _]) (Try.isAgg29 w) (Try.sizeOf29 w) rfl (hh.cells 1 rfl rfl)) ?_
             refine v_unguard rfl rfl ?_
             refine g_val rfl rfl rfl (fun w hh => v_loadAgg (vs := [_, _, _, _, _]) (Try.isAgg29 w) (Try.sizeOf29 w) rfl (hh.cells 0 rfl rfl)) ?_
             refine v_unguard rfl rfl ?_
             obtain ⟨t167, h186, hm⟩ := bindO hm
             refine g_callH [] [] rfl rfl rfl rfl rfl rfl rfl (fun a w => Try.call38 a w) (fun w hh => c_laurellaw01_same o.own9 s0 (qA l_2.2.2.1.q) l_2.2.2.1.n l_2.2.2.1.cap (qA l_2.2.2.2.1.q) l_2.2.2.2.1.n l_2.2.2.2.1.cap (qA l_2.2.2.2.2.1.q) l_2.2.2.2.2.1.n l_2.2.2.2.2.1.cap qa0 na0 ca0 qa1 na1 ca1 qa2 na2 ca2 w (HV.callee (S0 := []) (vs0 := []) hh (roC (hh.vsepA (S0 := []) (vs0 := []) 1 rfl h9) (roC (hh.vsepA (S0 := []) (vs0 := []) 2 rfl h10) (roC (hh.vsepA (S0 := []) (vs0 := []) 3 rfl h11) (roC (hh.rsep (S0 := []) (vs0 := []) 2 rfl) (roC (hh.rsep (S0 := []) (vs0 := []) 3 rfl) (roC (hh.rsep (S0 := []) (vs0 := []) 4 rfl) roN))))))) (vlen RW h9 rfl) (AOK.q (vne h9)) (h9).hle (vlen RI h10 rfl) (AOK.q (vne h10)) (h10).hle (vlen RS h11 rfl) (AOK.q (vne h11)) (h11).hle hna0 hqa0 hla0 hna1 hqa1 hla1 hna2 hqa2 hla2 h186) (fun l_35 h187 => ?_)
             refine g_val rfl rfl rfl (fun _ _ => v_pickT rfl rfl) ?_
             refine g_val rfl rfl rfl (fun _ _ => v_move rfl) ?_
             refine g_case 169 rfl (fun h188 => ?_) (fun h188 => ?_)
             ·replace hm := ifT (h188) hm
              refine v_unguard rfl rfl ?_
              obtain ⟨t170, h189, hm⟩ := bindO hm
              refine g_callH [] [] rfl rfl rfl rfl rfl rfl rfl (fun a w => Try.call30 a w) (fun w hh => cx_awake  w (HV.callee (S0 := []) (vs0 := []) hh roN)  h189) (fun l_36 h190 => ?_)
              refine g_val rfl rfl rfl (fun _ _ => v_pickT rfl rfl) ?_
              refine g_val rfl rfl rfl (fun _ _ => v_assign rfl) ?_
              refine g_nil ?_
              obtain rfl := Option.some.inj hm
              exact g_leaf () (trivial) ((.cons rfl .nil)) (fun w hh => hh.sel [0, 1, 2] [1, 2, 3, 4, 5, 6] 0 (by decide) (by decide) rfl rfl rfl)
             ·replace hm := ifF ((fun hh => Bool.noConfusion ((h188).symm.trans hh))) hm
              refine g_skipG rfl rfl rfl rfl rfl rfl ?_
              refine g_val rfl rfl rfl (fun _ _ => v_pickF rfl rfl) ?_
              refine g_val rfl rfl rfl (fun _ _ => v_assign rfl) ?_
              refine g_nil ?_
              obtain rfl := Option.some.inj hm
              exact g_leaf () (trivial) ((.cons rfl .nil)) (fun w hh => hh.sel [0, 1, 2] [1, 2, 3, 4, 5, 6] 0 (by decide) (by decide) rfl rfl rfl)
            ·replace hm := ifF ((fun hh => Bool.noConfusion ((h185).symm.trans hh))) hm
             refine g_skipG rfl rfl rfl rfl rfl rfl ?_
             refine g_skipG rfl rfl rfl rfl rfl rfl ?_
             refine g_skipG rfl rfl rfl rfl rfl rfl ?_
             refine g_val rfl rfl rfl (fun _ _ => v_pickF rfl rfl) ?_
             refine g_val rfl rfl rfl (fun _ _ => v_move rfl) ?_
             refine g_skipG rfl rfl rfl rfl rfl rfl ?_
             refine g_val rfl rfl rfl (fun _ _ => v_pickF rfl rfl) ?_
             refine g_val rfl rfl rfl (fun _ _ => v_assign rfl) ?_
             refine g_nil ?_
             obtain rfl := Option.some.inj hm
             exact g_leaf () (trivial) ((.cons rfl .nil)) (fun w hh => hh.sel [0, 1, 2] [1, 2, 3, 4, 5, 6] 0 (by decide) (by decide) rfl rfl rfl)
           ·intro l_33 hj
            replace hm := h182
            refine g_n_then ?_
            refine g_ret ?_
            obtain rfl := Option.some.inj hm
            refine g_done rfl (fun w hh => (.tmp rfl .nil)) (fun w hh => ⟨(), rfl, trivial, hh.sel [] [] 5 (by decide) (by decide) rfl rfl rfl⟩)
end Go.Proofs.Wk
namespace Go.Gx
/-! ### plain programs: what they come to -/
theorem addc_eq {a b : Int} (h : -9223372036854775808 ≤ a + b ∧ a + b ≤ 9223372036854775807) : addc a b = some (a + b) := if_pos h
theorem subc_eq {a b : Int} (h : -9223372036854775808 ≤ a - b ∧ a - b ≤ 9223372036854775807) : subc a b = some (a - b) := if_pos h
theorem mulc_eq {a b : Int} (h : -9223372036854775808 ≤ a * b ∧ a * b ≤ 9223372036854775807) : mulc a b = some (a * b) := if_pos h
theorem negc_eq {a : Int} (h : -9223372036854775808 ≤ -a ∧ -a ≤ 9223372036854775807) : negc a = some (-a) := if_pos h
theorem quoc_eq {a b : Int} (h0 : b ≠ 0) (h : -9223372036854775808 ≤ a.tdiv b ∧ a.tdiv b ≤ 9223372036854775807) : quoc a b = some (a.tdiv b) := if_pos ⟨h0, h⟩
theorem remc_eq {a b : Int} (h0 : b ≠ 0) : remc a b = some (a.tmod b) := if_pos h0
theorem ix_eq {α : Type} {l : List α} {i : Int} (d : α) (h0 : 0 ≤ i) (h1 : i < l.length) : ix l i = some (l.getD i.toNat d) := by
  unfold ix
  rw [if_neg (by omega), List.getD_eq_getElem?_getD]
  have : i.toNat < l.length := by omega
  simp [this]
theorem ix_nat {α : Type} {l : List α} {k : Nat} (d : α) (h1 : k < l.length) : ix l (k : Int) = some (l.getD k d) := by
  have := ix_eq (l := l) (i := (k : Int)) d (by omega) (by omega)
  simpa using this
theorem appc_eq {α : Type} {b : Nat} {l m : List α} (h : (l.length + m.length) * b ≤ 140737488355328) : appc b l m = some (l ++ m) := if_pos h
theorem makec_eq {α : Type} {b : Nat} {z : α} {n c : Int} (h : 0 ≤ n ∧ n ≤ c ∧ (b : Int) * c ≤ 140737488355328 ∧ c ≤ 140737488355328) : makec b z n c = some (List.replicate n.toNat z) := if_pos h
@[simp] theorem oc_inl {α β γ : Type} (a : α) (f : α → γ) (g : β → γ) : oc (.inl a) f g = f a := rfl
@[simp] theorem oc_inr {α β γ : Type} (b : β) (f : α → γ) (g : β → γ) : oc (.inr b) f g = g b := rfl

theorem iterM_step {σ β : Type} {f : σ → Option (σ ⊕ β)} {s s' : σ} {N : Nat} (h : f s = some (.inl s')) : iterM (N + 1) f s = iterM N f s' := by simp [iterM, h]
theorem iterM_done {σ β : Type} {f : σ → Option (σ ⊕ β)} {s : σ} {b : β} {N : Nat} (h : f s = some (.inr b)) : iterM (N + 1) f s = some b := by simp [iterM, h]
/-- an invariant, and what falls -/
theorem iterM_inv {σ β : Type} {f : σ → Option (σ ⊕ β)} (Inv : σ → Prop) (μ : σ → Nat) (Q : β → Prop)
    (h : ∀ s, Inv s → (∃ s', f s = some (.inl s') ∧ Inv s' ∧ μ s' < μ s) ∨ ∃ b, f s = some (.inr b) ∧ Q b) : ∀ (N : Nat) (s : σ), μ s < N → Inv s → ∃ b, iterM N f s = some b ∧ Q b
  | 0, _, hN, _ => absurd hN (Nat.not_lt_zero _)
  | N + 1, s, hN, hI => by
    rcases h s hI with ⟨s', h1, h2, h3⟩ | ⟨b, h1, h2⟩
    · rw [iterM_step h1]
      exact iterM_inv Inv μ Q h N s' (by omega) h2
    · exact ⟨b, iterM_done h1, h2⟩
/-- a course of states that is known -/
theorem iterM_run {σ β : Type} {f : σ → Option (σ ⊕ β)} (I : Nat → σ) (n : Nat) {b : β} (hs : ∀ k, k < n → f (I k) = some (.inl (I (k + 1)))) (he : f (I n) = some (.inr b)) : ∀ (N : Nat), n < N → iterM N f (I 0) = some b := by
  have key : ∀ (m k N : Nat), k + m = n → m < N → iterM N f (I k) = some b := by
    intro m
    induction m with
    | zero =>
      intro k N hk hN
      obtain ⟨N, rfl⟩ : ∃ N', N = N' + 1 := ⟨N - 1, by omega⟩
      have : k = n := by omega
      subst this
      exact iterM_done he
    | succ m ih =>
      intro k N hk hN
      obtain ⟨N, rfl⟩ : ∃ N', N = N' + 1 := ⟨N - 1, by omega⟩
      rw [iterM_step (hs k (by omega))]
      exact ih (k + 1) N (by omega) (by omega)
  intro N hN
  exact key n 0 N (by omega) hN
/-- a loop that asks of each number whether something is so, and leaves at the first -/
theorem iterM_any {ρ : Type} {f : Int → Option (Int ⊕ (Unit ⊕ ρ))} (i0 : Int) (n : Nat) (bad : Nat → Bool) (e : Nat → ρ) (h1 : ∀ k, k < n → f (i0 + (k : Int)) = some (if bad k then .inr (.inr (e k)) else .inl (i0 + (k : Int) + 1))) (h2 : f (i0 + (n : Int)) = some (.inr (.inl ()))) {N : Nat} (hN : n < N) :
    iterM N f i0 = some (match (List.range n).find? bad with | some k => .inr (e k) | none => .inl ()) := by
  have key : ∀ (m k N : Nat), k + m = n → m < N → (∀ j, j < k → bad j = false) → iterM N f (i0 + (k : Int)) = some (match (List.range n).find? bad with | some k => .inr (e k) | none => .inl ()) := by
    intro m
    induction m with
    | zero =>
      intro k N hk hN hb
      obtain ⟨N, rfl⟩ : ∃ N', N = N' + 1 := ⟨N - 1, by omega⟩
      have : k = n := by omega
      subst this
      rw [iterM_done h2]
      have : (List.range k).find? bad = none := by
        rw [List.find?_eq_none]
        intro x hx
        simp [hb x (by simpa using hx)]
      rw [this]
    | succ m ih =>
      intro k N hk hN hb
      obtain ⟨N, rfl⟩ : ∃ N', N = N' + 1 := ⟨N - 1, by omega⟩
      have hk2 := h1 k (by omega)
      cases hbk : bad k with
      | true =>
        rw [hbk] at hk2
        simp only [if_true] at hk2
        rw [iterM_done hk2]
        have : (List.range n).find? bad = some k := by
          rw [List.find?_range_eq_some]
          exact ⟨hbk, by simp; omega, fun j hj => by simp [hb j hj]⟩
        rw [this]
      | false =>
        rw [hbk] at hk2
        simp only [Bool.false_eq_true, if_false] at hk2
        rw [iterM_step hk2]
        have := ih (k + 1) N (by omega) (by omega) (fun j hj => by
          by_cases hjk : j = k
          · subst hjk; exact hbk
          · exact hb j (by omega))
        rw [show i0 + (k : Int) + 1 = i0 + ((k + 1 : Nat) : Int) by push_cast; omega]
        exact this
  have := key n 0 N (by omega) hN (fun j hj => absurd hj (by omega))
  simpa using this
theorem iterM_any0 {ρ : Type} {f : Int → Option (Int ⊕ (Unit ⊕ ρ))} (n : Nat) (bad : Nat → Bool) (e : ρ) (h1 : ∀ k : Nat, k < n → f (k : Int) = some (if bad k then .inr (.inr e) else .inl ((k : Int) + 1))) (h2 : f (n : Int) = some (.inr (.inl ()))) {N : Nat} (hN : n < N) :
    iterM N f 0 = some (if (List.range n).any bad then .inr e else .inl ()) := by
  have := iterM_any 0 n bad (fun _ => e) (fun k hk => by simpa using h1 k hk) (by simpa using h2) hN
  rw [this]
  cases hf : (List.range n).find? bad with
  | none =>
    have : (List.range n).any bad = false := by
      rw [List.any_eq_false]; intro x hx; simpa using List.find?_eq_none.1 hf x hx
    simp [this]
  | some k =>
    have : (List.range n).any bad = true := List.any_eq_true.2 ⟨k, List.mem_of_find?_eq_some hf, List.find?_some hf⟩
    simp [this]
theorem any_range {α : Type} {l : List α} {d : α} {p : α → Bool} : (List.range l.length).any (fun k => p (l.getD k d)) = l.any p := by
  rw [Bool.eq_iff_iff, List.any_eq_true, List.any_eq_true]
  constructor
  · rintro ⟨k, hk, hp⟩
    have hk' : k < l.length := by simpa using hk
    refine ⟨l[k], List.getElem_mem hk', ?_⟩
    simpa [List.getD_eq_getElem?_getD, hk'] using hp
  · rintro ⟨x, hx, hp⟩
    obtain ⟨k, hk, rfl⟩ := List.getElem_of_mem hx
    exact ⟨k, by simpa using hk, by simpa [List.getD_eq_getElem?_getD, hk] using hp⟩
theorem FU_lt {n : Nat} (h : n < 1000000000000) : n < FU := by unfold FU; omega
end Go.Gx

-- plain: sands that the law makes
namespace Go.Pl
structure TabOK (T : List Water) (at_ : Int) : Prop where
  inc : ∀ i, i + 1 < T.length → (T.getD i default).min < (T.getD (i + 1) default).min
  rg : ∀ i, i < T.length → 0 ≤ (T.getD i default).min ∧ (T.getD i default).min < at_ ∧ 0 ≤ (T.getD i default).h ∧ (T.getD i default).h ≤ 60
theorem TabOK.nil {a : Int} : TabOK [] a := ⟨fun i h => by simp at h, fun i h => by simp at h⟩
theorem getD_snoc {α : Type} {d : α} {l : List α} {x : α} {i : Nat} : (l ++ [x]).getD i d = if i < l.length then l.getD i d else if i = l.length then x else d := by
  simp only [List.getD_eq_getElem?_getD]
  by_cases h : i < l.length
  · rw [List.getElem?_append_left h, if_pos h]
  · rw [List.getElem?_append_right (by omega), if_neg h]
    by_cases h2 : i = l.length
    · subst h2; simp
    · rw [if_neg h2, List.getElem?_eq_none (by simp; omega)]; rfl
theorem TabOK.snoc {T : List Water} {a b h : Int} (k : TabOK T a) (h0 : 0 ≤ a) (hb : a < b) (hh : 0 ≤ h ∧ h ≤ 60) : TabOK (T ++ [⟨a, h⟩]) b := by
  refine ⟨fun i hi => ?_, fun i hi => ?_⟩
  · simp only [List.length_append, List.length_singleton] at hi
    rw [getD_snoc, getD_snoc, if_pos (by omega)]
    by_cases h1 : i + 1 < T.length
    · rw [if_pos h1]; exact k.inc i h1
    · rw [if_neg h1, if_pos (by omega)]
      exact (k.rg i (by omega)).2.1
  · simp only [List.length_append, List.length_singleton] at hi
    rw [getD_snoc]
    by_cases h1 : i < T.length
    · rw [if_pos h1]; have := k.rg i h1; omega
    · rw [if_neg h1, if_pos (by omega)]; simp only; omega
def sillOK (n : Int) (x : Sill) : Prop := (-1 ≤ x.a ∧ x.a < n) ∧ (-1 ≤ x.b ∧ x.b < n) ∧ x.a ≠ x.b ∧ 0 ≤ x.h ∧ x.h ≤ 50
structure MadeOK (pl sl : Int) (s : Sands) : Prop where
  tl : 2 ≤ s.table.length ∧ s.table.length ≤ 4
  tab : ∃ a, TabOK s.table a ∧ a ≤ 140
  lo : -8 ≤ s.wind.lo ∧ s.wind.lo ≤ 0
  hi : 0 ≤ s.wind.hi ∧ s.wind.hi ≤ 8
  fl : 1 ≤ s.floors.length ∧ (s.floors.length : Int) ≤ pl
  flo : ∀ x, x ∈ s.floors → 0 ≤ x ∧ x ≤ 50
  sl : (s.sills.length : Int) ≤ sl
  sil : ∀ x, x ∈ s.sills → sillOK s.floors.length x
theorem mem_getD {α : Type} {d : α} {l : List α} {j : Nat} (h : j < l.length) : l.getD j d ∈ l := by
  simp only [List.getD_eq_getElem?_getD, List.getElem?_eq_getElem h, Option.getD_some]; exact List.getElem_mem h
theorem MadeOK.check {pl sl : Int} {s : Sands} (h : MadeOK pl sl s) (hp : pl ≤ 8) (hs : sl ≤ 16) : check s = 0 := by
  obtain ⟨a, ht, ha⟩ := h.tab
  have h1 := h.tl
  have h2 := h.fl
  have h3 := h.sl
  have e1 : inr s.table.length 2 12 = true := inr_iff.2 (by omega)
  have e2 : inr s.floors.length 1 8 = true := inr_iff.2 (by omega)
  have e3 : decide (16 < (s.sills.length : Int)) = false := by simp; omega
  have e4 : s.table.all bigW = true := all_of_getD (d := default) (fun j hj => by
    have := ht.rg j hj
    simp only [bigW, Bool.and_eq_true, inr_iff]; omega)
  have e5 : inr s.wind.lo (-50) 50 = true := inr_iff.2 (by have := h.lo; omega)
  have e6 : inr s.wind.hi (-50) 50 = true := inr_iff.2 (by have := h.hi; omega)
  have e7 : s.floors.all hgt = true := all_of_getD (d := 0) (fun j hj => by
    have := h.flo _ (mem_getD (d := 0) hj)
    rw [hgt_iff]; omega)
  have e8 : s.sills.all (fun x => hgt x.h) = true := all_of_getD (d := default) (fun j hj => by
    have := (h.sil _ (mem_getD (d := default) hj)).2.2
    rw [hgt_iff]; omega)
  have e9 : ordered s = true := by
    rw [ordered_true (fun i hi => ht.inc i (by omega))]
    have := h.lo; have := h.hi
    simp; omega
  have e10 : s.sills.all (fun x => isEnd s x.a && isEnd s x.b) = true := all_of_getD (d := default) (fun j hj => by
    have := h.sil _ (mem_getD (d := default) hj)
    unfold sillOK at this
    simp only [Bool.and_eq_true, isEnd_iff]
    omega)
  have e11 : s.sills.all (fun x => !decide (x.a = x.b)) = true := all_of_getD (d := default) (fun j hj => by
    have := h.sil _ (mem_getD (d := default) hj)
    simpa using this.2.2.1)
  simp only [Pl.check, e1, e2, e3, e4, e5, e6, e7, e8, e9, e10, e11, Bool.not_true, Bool.or_self, Bool.false_eq_true, if_false]
end Go.Pl

-- plain: what water reaches; the gates, and the law's
namespace Go.Pl
inductive Reach (s : Sands) (h : Int) : Int → Prop
  | sea : Reach s h (-1)
  | step {p q : Int} {x : Sill} : Reach s h p → x ∈ s.sills → (x.a = p ∧ x.b = q ∨ x.b = p ∧ x.a = q) → q ≠ -1 → x.h ≤ h → s.floors.getD q.toNat 0 ≤ h → Reach s h q
theorem Reach.mono {s : Sands} {h k : Int} {q : Int} (r : Reach s h q) (hk : h ≤ k) : Reach s k q := by
  induction r with
  | sea => exact .sea
  | step _ hx hj hq h1 h2 ih => exact .step ih hx hj hq (by omega) (by omega)
/-! the gates are sound -/
def Snd (s : Sands) (g : List Int) : Prop := ∀ j, j < 8 → g.getD j 0 < 1000 → Reach s (g.getD j 0) (j : Nat)
theorem snd_low {s : Sands} (hG : Good s) {p at_ : Int} (hp : at_ < 1000 → Reach s at_ p) {g : List Int} (hg : OKg g) (hs : Snd s g) {x : Sill} (hx : x ∈ s.sills) {q : Int} (hj : x.a = p ∧ x.b = q ∨ x.b = p ∧ x.a = q) (hq : -1 ≤ q) : Snd s (lowAt s at_ x.h g q) := by
  unfold lowAt
  split
  · exact hs
  · rename_i hq1
    intro j hj8 hlt
    rw [getD_set, foldmax2] at hlt ⊢
    split at hlt
    · rename_i hc
      rw [if_pos hc]
      have hjq : (j : Int) = q := by omega
      rcases Int.le_total (g.getD q.toNat 0) (max (max at_ x.h) (s.floors.getD q.toNat 0)) with hle | hle
      · rw [Int.min_eq_left hle] at hlt ⊢
        have := hs j hj8 (by rw [← hc.1]; exact hlt)
        rw [hc.1]; exact this
      · rw [Int.min_eq_right hle] at hlt ⊢
        rw [hjq]
        exact .step ((hp (by omega)).mono (by omega)) hx hj hq1 (by omega) (by omega)
    · rename_i hc
      rw [if_neg hc]
      exact hs j hj8 hlt
theorem snd_lower {s : Sands} (hG : Good s) {p at_ : Int} (ha : 0 ≤ at_) (hp : at_ < 1000 → Reach s at_ p) {g : List Int} (hg : OKg g) (hs : Snd s g) : Snd s (lowerF s p at_ g) := by
  have key : ∀ (l : List Sill), (∀ x ∈ l, x ∈ s.sills) → ∀ g, OKg g → Snd s g → Snd s (l.foldl (lowStep s p at_) g) := by
    intro l
    induction l with
    | nil => intro _ g _ h; exact h
    | cons x l ih =>
      intro hl g hg hs
      have hx := hl x List.mem_cons_self
      obtain ⟨k, hk, hkx⟩ := List.mem_iff_getElem.1 hx
      have e : s.sills.getD k default = x := by simp [List.getD_eq_getElem?_getD, hk, hkx]
      have h1 := hG.sa k hk
      have h2 := hG.sb k hk
      rw [e] at h1 h2
      refine ih (fun y hy => hl y (List.mem_cons_of_mem _ hy)) _ (lowStep_ok hg ha) ?_
      unfold lowStep
      split
      · rename_i h; exact snd_low hG hp hg hs hx (.inl ⟨h, rfl⟩) h2.1
      · split
        · rename_i h; exact snd_low hG hp hg hs hx (.inr ⟨h, rfl⟩) h1.1
        · exact hs
  exact key s.sills (fun _ h => h) g hg hs
theorem snd_round {s : Sands} (hG : Good s) {g : List Int} (hg : OKg g) (hs : Snd s g) : ∀ k, k ≤ 8 → Snd s (roundN s g k) ∧ OKg (roundN s g k) := by
  intro k
  induction k with
  | zero => intro _; exact ⟨snd_lower hG (Int.le_refl 0) (fun _ => .sea) hg hs, (roundN_ok hg).1⟩
  | succ k ih =>
    intro hk
    obtain ⟨h1, h2⟩ := ih (by omega)
    refine ⟨?_, (roundN_ok hg).1⟩
    rw [roundN_succ]
    exact snd_lower hG (h2.lo k) (fun hlt => h1 k (by omega) hlt) h2 h1
theorem gates_snd {s : Sands} (hG : Good s) : Snd s (gatesOf s) := by
  have key : ∀ (k : Nat) (g : List Int), OKg g → Snd s g → Snd s (fixF s k g) := by
    intro k
    induction k with
    | zero => intro g _ h; exact h
    | succ k ih =>
      intro g hg hs
      unfold fixF
      split
      · exact hs
      · have := snd_round hG hg hs s.floors.length (by have := hG.fl; omega)
        exact ih _ this.2 this.1
  refine key _ _ initG_ok (fun j hj hlt => ?_)
  have : ∀ j, j < 8 → (initG 8).getD j 0 = 1000 := by decide
  rw [this j hj] at hlt
  exact absurd hlt (by omega)
/-! … and closed -/
theorem lower_fix {s : Sands} : lowerF s (-1) 0 (gatesOf s) = gatesOf s ∧ ∀ p, p < s.floors.length → lowerF s (p : Nat) ((gatesOf s).getD p 0) (gatesOf s) = gatesOf s := by
  have hf := gates_fixed (s := s)
  have hg := gates_ok (s := s)
  have h1 := lowerF_ok (s := s) (p := -1) hg (Int.le_refl 0)
  have h2 := foldl_le (I := OKg) (f := fun g (p : Nat) => lowerF s (p : Nat) (g.getD p 0) g) (fun g x h => (lowerF_ok h (h.lo x)).1) (fun g x h => (lowerF_ok h (h.lo x)).2) (List.range s.floors.length) _ h1.1
  have h3 : (List.range s.floors.length).foldl (fun g (p : Nat) => lowerF s (p : Nat) (g.getD p 0) g) (lowerF s (-1) 0 (gatesOf s)) = gatesOf s := hf
  rw [h3] at h2
  have e1 : lowerF s (-1) 0 (gatesOf s) = gatesOf s := h1.2.antisymm h2.2
  rw [e1] at h3
  refine ⟨e1, fun p hp => ?_⟩
  exact foldl_fix (I := OKg) (fun g x h => (lowerF_ok h (h.lo x)).1) (fun g x h => (lowerF_ok h (h.lo x)).2) _ _ hg h3 p (List.mem_range.2 hp)
theorem low_le {s : Sands} {p at_ : Int} {g : List Int} (hg : OKg g) (ha : 0 ≤ at_) (hf : lowerF s p at_ g = g) {x : Sill} (hx : x ∈ s.sills) {q : Int} (hj : x.a = p ∧ x.b = q ∨ x.b = p ∧ x.a = q) (hne : x.a ≠ x.b) (hq : 0 ≤ q ∧ q < 8) : g.getD q.toNat 0 ≤ max (max at_ x.h) (s.floors.getD q.toNat 0) := by
  have h1 := foldl_fix (I := OKg) (fun _ _ h => lowStep_ok h ha) (fun _ _ _ => lowStep_le) _ _ hg hf x hx
  have h2 : lowAt s at_ x.h g q = g := by
    unfold lowStep at h1
    rcases hj with ⟨ha, hb⟩ | ⟨hb, ha⟩
    · rw [if_pos ha, hb] at h1; exact h1
    · rw [if_neg (by omega), if_pos hb, ha] at h1; exact h1
  have h3 := congrArg (fun l => l.getD q.toNat 0) h2
  simp only [lowAt] at h3
  rw [if_neg (by omega), getD_set, if_pos ⟨rfl, by rw [hg.len]; omega⟩, foldmax2] at h3
  omega
theorem gates_le {s : Sands} (hG : Good s) {h : Int} (h0 : 0 ≤ h) {q : Int} (r : Reach s h q) : q = -1 ∨ ((0 ≤ q ∧ q < s.floors.length) ∧ (gatesOf s).getD q.toNat 0 ≤ h) := by
  have hfl := hG.fl
  induction r with
  | sea => exact .inl rfl
  | @step p q x r hx hj hq h1 h2 ih =>
    right
    obtain ⟨k, hk, hkx⟩ := List.mem_iff_getElem.1 hx
    have e : s.sills.getD k default = x := by simp [List.getD_eq_getElem?_getD, hk, hkx]
    have ha := hG.sa k hk
    have hb := hG.sb k hk
    have hne := hG.ne k hk
    rw [e] at ha hb hne
    have hqr : 0 ≤ q ∧ q < s.floors.length := by rcases hj with ⟨h3, h4⟩ | ⟨h3, h4⟩ <;> omega
    refine ⟨hqr, ?_⟩
    have hf := lower_fix (s := s)
    rcases ih with rfl | ⟨hp, hle⟩
    · have := low_le gates_ok (Int.le_refl 0) hf.1 hx hj hne (by omega)
      omega
    · have h5 := hf.2 p.toNat (by omega)
      rw [Int.toNat_of_nonneg hp.1] at h5
      have := low_le gates_ok (gates_ok.lo _) h5 hx hj hne (by omega)
      omega
end Go.Pl

-- plain: the law's gates are the gates
namespace Go.Pl
theorem gStep_le {s : Sands} {h : Int} {out : List Int} {y : Sill} : Le (gStep s h out y) out := by
  refine ⟨gStep_length, fun j => ?_⟩
  unfold gStep
  split
  · rw [getD_set]
    split
    · rename_i hq; rw [hq.1]; exact Int.min_le_left _ _
    · exact Int.le_refl _
  · exact Int.le_refl _
theorem foldl_Le {α : Type} {f : List Int → α → List Int} (hf : ∀ o x, Le (f o x) o) : ∀ (l : List α) (o : List Int), Le (l.foldl f o) o
  | [], o => Le.refl o
  | x :: l, o => (foldl_Le hf l (f o x)).trans (hf o x)
def sStep (s : Sands) (h : Int) (o : List Int) (x : Sill) : List Int := (both x).foldl (gStep s h) o
theorem sStep_le {s : Sands} {h : Int} {o : List Int} {x : Sill} : Le (sStep s h o x) o := foldl_Le (fun _ _ => gStep_le) _ _
theorem sillN_all {s : Sands} {h : Int} {out : List Int} : sillN s h out s.sills.length = s.sills.foldl (sStep s h) out := by
  unfold sillN; rw [List.take_length]; rfl
theorem pass_le {s : Sands} {h : Int} {out : List Int} : Le (sillN s h out s.sills.length) out := by rw [sillN_all]; exact foldl_Le (fun _ _ => sStep_le) _ _
/-! sound -/
def LSnd (s : Sands) (h : Int) (out : List Int) : Prop := ∀ j, j < s.floors.length → out.getD j 0 = 1000000 ∨ (0 ≤ out.getD j 0 ∧ out.getD j 0 ≤ h ∧ Reach s (out.getD j 0) (j : Nat))
theorem gStep_snd {s : Sands} {h : Int} (h0 : 0 ≤ h ∧ h ≤ 999) {out : List Int} (hs : LSnd s h out) {x y : Sill} (hx : x ∈ s.sills) (hy : y = x ∨ y = swapS x) (ha : -1 ≤ y.a ∧ y.a < s.floors.length) (hb : -1 ≤ y.b ∧ y.b < s.floors.length) : LSnd s h (gStep s h out y) := by
  unfold gStep
  split
  · rename_i hc
    obtain ⟨c1, c2, c3, c4⟩ := hc
    intro j hj
    rw [getD_set]
    split
    · rename_i hq
      have hjb : (j : Int) = y.b := by omega
      have hra : Reach s h y.a := by
        rcases c4 with c4 | c4
        · rw [c4]; exact .sea
        · rcases Int.lt_or_le y.a 0 with h1 | h1
          · have : y.a = -1 := by omega
            rw [this]; exact .sea
          · have h2 := hs y.a.toNat (by omega)
            rw [Int.toNat_of_nonneg h1] at h2
            rcases h2 with h2 | h2
            · omega
            · exact h2.2.2.mono h2.2.1
      have hrb : Reach s h y.b := by
        refine .step hra hx ?_ c2 ?_ c3
        · rcases hy with rfl | rfl
          · exact .inl ⟨rfl, rfl⟩
          · exact .inr ⟨rfl, rfl⟩
        · rcases hy with rfl | rfl
          · exact c1
          · exact c1
      have hold := hs j hj
      rw [hq.1]
      rcases Int.le_total (out.getD j 0) h with hle | hle
      · rw [Int.min_eq_left hle]; exact hold
      · rw [Int.min_eq_right hle]
        exact .inr ⟨h0.1, Int.le_refl _, by rw [hjb]; exact hrb⟩
    · exact hs j hj
  · exact hs
theorem pass_snd {s : Sands} (hG : Good s) {h : Int} (h0 : 0 ≤ h ∧ h ≤ 999) {out : List Int} (hs : LSnd s h out) : LSnd s h (sillN s h out s.sills.length) := by
  rw [sillN_all]
  have key : ∀ (l : List Sill), (∀ x ∈ l, x ∈ s.sills) → ∀ o, LSnd s h o → LSnd s h (l.foldl (sStep s h) o) := by
    intro l
    induction l with
    | nil => intro _ o h; exact h
    | cons x l ih =>
      intro hl o ho
      have hx := hl x List.mem_cons_self
      obtain ⟨k, hk, hkx⟩ := List.mem_iff_getElem.1 hx
      have e : s.sills.getD k default = x := by simp [List.getD_eq_getElem?_getD, hk, hkx]
      have ha := hG.sa k hk
      have hb := hG.sb k hk
      rw [e] at ha hb
      refine ih (fun y hy => hl y (List.mem_cons_of_mem _ hy)) _ ?_
      exact gStep_snd h0 (gStep_snd h0 ho hx (.inl rfl) ha hb) hx (.inr rfl) hb ha
  exact key s.sills (fun _ h => h) out hs
theorem rounds_snd {s : Sands} (hG : Good s) {h : Int} (h0 : 0 ≤ h ∧ h ≤ 999) {out : List Int} (hs : LSnd s h out) : ∀ r, LSnd s h (roundsN s h out r)
  | 0 => hs
  | r + 1 => pass_snd hG h0 (rounds_snd hG h0 hs r)
theorem heights_snd {s : Sands} (hG : Good s) : ∀ h : Nat, h ≤ 900 → LSnd s h (heightN s (initO s.floors.length s.floors.length) h)
  | 0, _ => fun j hj => .inl (by simp [heightN, initO, List.getD_eq_getElem?_getD, hj])
  | h + 1, hh => by
    have h1 := rounds_snd hG (h := (h : Nat)) (by omega) (heights_snd hG h (by omega)) s.floors.length
    intro j hj
    rcases h1 j hj with h2 | ⟨h2, h3, h4⟩
    · exact .inl h2
    · exact .inr ⟨h2, by push_cast; exact Int.le_trans h3 (by omega), h4⟩
/-! complete -/
theorem gStep_reach {s : Sands} {h : Int} {out : List Int} {y : Sill} (hc : gCond s h out y) (hb : 0 ≤ y.b ∧ y.b < out.length) : (gStep s h out y).getD y.b.toNat 0 ≤ h := by
  unfold gStep
  rw [if_pos hc, getD_set, if_pos ⟨rfl, by omega⟩]
  exact Int.min_le_right _ _
theorem pass_reach {s : Sands} {h : Int} {out : List Int} (hl : out.length = s.floors.length) {x : Sill} (hx : x ∈ s.sills) {p q : Int} (hj : x.a = p ∧ x.b = q ∨ x.b = p ∧ x.a = q) (hq : 0 ≤ q ∧ q < s.floors.length) (h1 : x.h ≤ h) (h2 : s.floors.getD q.toNat 0 ≤ h) (hp : p = -1 ∨ out.getD p.toNat 0 ≤ h) : (sillN s h out s.sills.length).getD q.toNat 0 ≤ h := by
  rw [sillN_all]
  obtain ⟨l1, l2, hs⟩ := List.append_of_mem hx
  rw [hs, List.foldl_append, List.foldl_cons]
  have e1 : Le (l1.foldl (sStep s h) out) out := foldl_Le (fun _ _ => sStep_le) _ _
  refine Int.le_trans ((foldl_Le (fun _ _ => sStep_le) l2 _).le q.toNat) ?_
  generalize l1.foldl (sStep s h) out = o at *
  have hol : o.length = s.floors.length := e1.len.trans hl
  have hpo : p = -1 ∨ o.getD p.toNat 0 ≤ h := hp.imp id (fun h => Int.le_trans (e1.le _) h)
  show (gStep s h (gStep s h o x) (swapS x)).getD q.toNat 0 ≤ h
  rcases hj with ⟨ha, hb⟩ | ⟨hb, ha⟩
  · refine Int.le_trans (gStep_le.le _) ?_
    have := gStep_reach (s := s) (h := h) (out := o) (y := x) ⟨h1, by omega, by rw [hb]; exact h2, by rw [ha]; exact hpo⟩ (by omega)
    rwa [hb] at this
  · have := gStep_reach (s := s) (h := h) (out := gStep s h o x) (y := swapS x) ⟨h1, by show x.a ≠ -1; omega, by show s.floors.getD x.a.toNat 0 ≤ h; rw [ha]; exact h2, by
      have e2 : (swapS x).a = p := hb
      rw [e2]
      exact hpo.imp id (fun h => Int.le_trans (gStep_le.le _) h)⟩ (by rw [gStep_length]; show 0 ≤ x.a ∧ x.a < _; omega)
    have e : (swapS x).b = q := ha
    rwa [e] at this
def cntLe (h : Int) (o : List Int) : Nat := o.countP (fun v => decide (v ≤ h))
theorem cnt_mono {h : Int} : ∀ {a b : List Int}, a.length = b.length → (∀ j, a.getD j 0 ≤ b.getD j 0) → cntLe h b ≤ cntLe h a ∧ ((∃ j, j < b.length ∧ a.getD j 0 ≤ h ∧ h < b.getD j 0) → cntLe h b + 1 ≤ cntLe h a)
  | [], [], _, _ => ⟨Nat.le_refl _, fun ⟨j, hj, _⟩ => by simp at hj⟩
  | [], _ :: _, hl, _ => by simp at hl
  | _ :: _, [], hl, _ => by simp at hl
  | x :: a, y :: b, hl, hle => by
    have ih := cnt_mono (h := h) (a := a) (b := b) (by simpa using hl) (fun j => by simpa using hle (j + 1))
    have hxy : x ≤ y := by simpa using hle 0
    simp only [cntLe, List.countP_cons] at *
    refine ⟨?_, ?_⟩
    · by_cases h1 : y ≤ h
      · have : x ≤ h := by omega
        simp [h1, this]; exact ih.1
      · simp [h1]; split <;> omega
    · rintro ⟨j, hj, h1, h2⟩
      cases j with
      | zero =>
        simp only [List.getD_cons_zero] at h1 h2
        have h3 : ¬ y ≤ h := by omega
        simp [h1, h3]; exact ih.1
      | succ j =>
        simp only [List.getD_cons_succ] at h1 h2
        have := ih.2 ⟨j, by simpa using hj, h1, h2⟩
        by_cases h3 : y ≤ h
        · have : x ≤ h := by omega
          simp [h3, this]; omega
        · simp [h3]; split <;> omega
theorem rounds_len {s : Sands} {h : Int} {out : List Int} {r : Nat} (hl : out.length = s.floors.length) : (roundsN s h out r).length = s.floors.length := roundsN_length.trans hl
theorem closed_reach {s : Sands} (hG : Good s) {h : Int} {o : List Int} (hc : ∀ j, j < s.floors.length → (sillN s h o s.sills.length).getD j 0 ≤ h → o.getD j 0 ≤ h) (hl : o.length = s.floors.length) {q : Int} (r : Reach s h q) : q = -1 ∨ ((0 ≤ q ∧ q < s.floors.length) ∧ o.getD q.toNat 0 ≤ h) := by
  induction r with
  | sea => exact .inl rfl
  | @step p q x r hx hj hq h1 h2 ih =>
    right
    obtain ⟨k, hk, hkx⟩ := List.mem_iff_getElem.1 hx
    have e : s.sills.getD k default = x := by simp [List.getD_eq_getElem?_getD, hk, hkx]
    have ha := hG.sa k hk
    have hb := hG.sb k hk
    rw [e] at ha hb
    have hqr : 0 ≤ q ∧ q < s.floors.length := by rcases hj with ⟨h3, h4⟩ | ⟨h3, h4⟩ <;> omega
    exact ⟨hqr, hc _ (by omega) (pass_reach hl hx hj hqr h1 h2 (ih.imp id (fun h => h.2)))⟩
theorem rounds_all {s : Sands} (hG : Good s) {h : Int} {out : List Int} (hl : out.length = s.floors.length) : ∀ r : Nat, (∀ q, Reach s h q → q = -1 ∨ ((0 ≤ q ∧ q < s.floors.length) ∧ (roundsN s h out r).getD q.toNat 0 ≤ h)) ∨ r ≤ cntLe h (roundsN s h out r) := by
  intro r
  induction r with
  | zero => exact .inr (Nat.zero_le _)
  | succ r ih =>
    have hle : Le (roundsN s h out (r + 1)) (roundsN s h out r) := pass_le
    rcases ih with ih | ih
    · left
      intro q hq
      exact (ih q hq).imp id (fun h => ⟨h.1, Int.le_trans (hle.le _) h.2⟩)
    · have hc := cnt_mono (h := h) hle.len hle.le
      by_cases hn : ∃ j, j < (roundsN s h out r).length ∧ (roundsN s h out (r + 1)).getD j 0 ≤ h ∧ h < (roundsN s h out r).getD j 0
      · right
        have := hc.2 hn
        omega
      · left
        intro q hq
        have := closed_reach hG (o := roundsN s h out r) (fun j hj hlt => by
          rcases Int.lt_or_le h ((roundsN s h out r).getD j 0) with h1 | h1
          · exact absurd ⟨j, by rw [rounds_len hl]; exact hj, hlt, h1⟩ hn
          · exact h1) (rounds_len hl) hq
        exact this.imp id (fun h => ⟨h.1, Int.le_trans (hle.le _) h.2⟩)
theorem cnt_all {h : Int} : ∀ {o : List Int}, o.length ≤ cntLe h o → ∀ j, j < o.length → o.getD j 0 ≤ h
  | [], _, j, hj => by simp at hj
  | x :: o, hc, j, hj => by
    have h1 : cntLe h o ≤ o.length := List.countP_le_length
    simp only [cntLe, List.countP_cons, List.length_cons] at hc h1
    by_cases hx : x ≤ h
    · cases j with
      | zero => simpa using hx
      | succ j =>
        simp [hx] at hc
        simpa using cnt_all (h := h) (o := o) hc j (by simpa using hj)
    · simp [hx] at hc
      omega
theorem rounds_full {s : Sands} (hG : Good s) {h : Int} {out : List Int} (hl : out.length = s.floors.length) {q : Int} (r : Reach s h q) (hq : 0 ≤ q ∧ q < s.floors.length) : (roundsN s h out s.floors.length).getD q.toNat 0 ≤ h := by
  rcases rounds_all hG hl s.floors.length with h1 | h1
  · rcases h1 q r with h2 | h2
    · omega
    · exact h2.2
  · exact cnt_all (by rw [rounds_len hl]; exact h1) q.toNat (by rw [rounds_len hl]; omega)
theorem rounds_le {s : Sands} {h : Int} {out : List Int} : ∀ r, Le (roundsN s h out r) out
  | 0 => Le.refl _
  | r + 1 => (pass_le (s := s)).trans (rounds_le r)
theorem heights_full {s : Sands} (hG : Good s) {q : Int} (hq : 0 ≤ q ∧ q < s.floors.length) {h : Nat} (r : Reach s (h : Nat) q) : ∀ k : Nat, h < k → (heightN s (initO s.floors.length s.floors.length) k).getD q.toNat 0 ≤ h
  | 0, hk => absurd hk (by omega)
  | k + 1, hk => by
    by_cases hkk : h < k
    · exact Int.le_trans ((rounds_le _).le _) (heights_full hG hq r k hkk)
    · have : h = k := by omega
      subst this
      exact rounds_full hG (by rw [heightN_length, initO_length]) r hq
/-- low sands: nothing is higher than 50 -/
theorem reach_low {s : Sands} (hG : Good s) (h1 : ∀ x, x ∈ s.sills → x.h ≤ 50) (h2 : ∀ j, j < s.floors.length → s.floors.getD j 0 ≤ 50) {h : Int} {q : Int} (r : Reach s h q) : Reach s 50 q := by
  induction r with
  | sea => exact .sea
  | @step p q x r hx hj hq h3 h4 ih =>
    refine .step ih hx hj hq (h1 x hx) ?_
    by_cases hl : q.toNat < s.floors.length
    · exact h2 _ hl
    · rw [List.getD_eq_getElem?_getD, List.getElem?_eq_none (by omega)]; decide
theorem lawGates_eq {s : Sands} (hG : Good s) (h1 : ∀ x, x ∈ s.sills → x.h ≤ 50) (h2 : ∀ j, j < s.floors.length → s.floors.getD j 0 ≤ 50) {j : Nat} (hj : j < s.floors.length) :
    (lawGates s).getD j 0 = if (gatesOf s).getD j 0 = 1000 then 1000000 else (gatesOf s).getD j 0 := by
  have hfl := hG.fl
  have hsnd := heights_snd hG 62 (by omega) j hj
  have hg0 := gates_ok (s := s)
  have hlo := hg0.lo j
  have hhi := hg0.hi j
  by_cases hg : (gatesOf s).getD j 0 = 1000
  · rw [if_pos hg]
    rcases hsnd with h3 | ⟨h3, h4, h5⟩
    · exact h3
    · have := gates_le hG h3 h5
      rcases this with h6 | ⟨_, h6⟩
      · omega
      · rw [Int.toNat_natCast, hg] at h6
        exfalso
        have h4' : (heightN s (initO s.floors.length s.floors.length) 62).getD j 0 ≤ 62 := h4
        omega
  · rw [if_neg hg]
    have hr := gates_snd hG j (by omega) (by omega)
    have h50 := gates_le hG (by omega) (reach_low hG h1 h2 hr)
    rcases h50 with h6 | ⟨_, h6⟩
    · omega
    · rw [Int.toNat_natCast] at h6
      have hr' : Reach s (((gatesOf s).getD j 0).toNat : Nat) (j : Nat) := by rw [Int.toNat_of_nonneg hlo]; exact hr
      have hle := heights_full hG (q := (j : Nat)) (by omega) hr' 62 (by omega)
      rw [Int.toNat_natCast, Int.toNat_of_nonneg hlo] at hle
      have hlg : lawGates s = heightN s (initO s.floors.length s.floors.length) 62 := rfl
      rw [hlg]
      rcases hsnd with h7 | ⟨h7, h8, h9⟩
      · omega
      · have := gates_le hG h7 h9
        rcases this with h10 | ⟨_, h10⟩
        · omega
        · rw [Int.toNat_natCast] at h10
          omega
end Go.Pl

-- plain: what is told
namespace Go.Pl
theorem fix_wind {s : Sands} {w : Span} : ∀ (k : Nat) (g : List Int), fixF { s with wind := w } k g = fixF s k g
  | 0, _ => rfl
  | k + 1, g => by
    have e : roundF { s with wind := w } g = roundF s g := rfl
    unfold fixF
    rw [e, fix_wind k]
theorem gates_wind {s : Sands} {w : Span} : gatesOf { s with wind := w } = gatesOf s := fix_wind 8001 _
/-- the gate of a place, and the law's number for it -/
def gateRel (g v : Int) : Prop := (g = 1000 ∧ v = 1000000) ∨ (g ≠ 1000 ∧ v = g)
theorem made_rel {pl sl : Int} {s : Sands} (h : MadeOK pl sl s) (hG : Good s) {j : Nat} (hj : j < s.floors.length) : gateRel ((gatesOf s).getD j 0) ((lawGates s).getD j 0) := by
  have := lawGates_eq hG (fun x hx => (h.sil x hx).2.2.2.2) (fun j hj => (h.flo _ (mem_getD (d := 0) hj)).2) hj
  rw [this]
  unfold gateRel
  split
  · rename_i h1; exact .inl ⟨h1, rfl⟩
  · rename_i h1; exact .inr ⟨h1, rfl⟩
theorem looked_zero {s : Sands} (hc : check s = 0) {gs : List Int} {tr : Int} {l : List Look} (hl : l.length ≤ 6) (h : ∀ x, x ∈ l → lookT s gs tr x) : lookedE s l = 0 := by
  rw [lookedE_look hc (by omega)]
  exact lookE_ok (fun i hi => (h _ (mem_getD hi)).1)
theorem left_told {s : Sands} (hG : Good s) {gs : List Int} (hgl : ∀ j, j < s.floors.length → gateRel ((gatesOf s).getD j 0) (gs.getD j 0)) {tr : Int} (ht : s.wind.lo ≤ tr ∧ tr ≤ s.wind.hi) : ∀ (l : List Look), (∀ x, x ∈ l → lookT s gs tr x) → ∀ (o : Span), (s.wind.lo ≤ o.lo ∧ o.lo ≤ tr) → (tr ≤ o.hi ∧ o.hi ≤ s.wind.hi) → (s.wind.lo ≤ (l.foldl (leftStep s (gatesOf s)) o).lo ∧ (l.foldl (leftStep s (gatesOf s)) o).lo ≤ tr) ∧ (tr ≤ (l.foldl (leftStep s (gatesOf s)) o).hi ∧ (l.foldl (leftStep s (gatesOf s)) o).hi ≤ s.wind.hi)
  | [], _, o, h1, h2 => ⟨h1, h2⟩
  | x :: l, h, o, h1, h2 => by
    have hx := h x List.mem_cons_self
    have hp := isPlace_iff.1 hx.1.2
    have hr := hgl x.place.toNat (by omega)
    have hb := height_tight hG hx.1.1
    have hlo := hG.lo
    have hhi := hG.hi
    have hw := hx.2
    refine left_told hG hgl ht l (fun y hy => h y (List.mem_cons_of_mem _ hy)) _ ?_ ?_
    all_goals
      unfold leftStep mostG
      unfold gateRel at hr
      cases hwet : x.wet with
      | true =>
        rw [hwet] at hw
        have hw' := of_decide_eq_true hw.symm
        simp only [if_true]
        first | omega | (split <;> omega)
      | false =>
        rw [hwet] at hw
        have hw' := of_decide_eq_false hw.symm
        simp only [Bool.false_eq_true, if_false]
        first | omega | (split <;> omega)
theorem looks_told {s : Sands} (hc : check s = 0) (hG : Good s) {gs : List Int} (hgl : ∀ j, j < s.floors.length → gateRel ((gatesOf s).getD j 0) (gs.getD j 0)) {tr : Int} (ht : s.wind.lo ≤ tr ∧ tr ≤ s.wind.hi) {l : List Look} (hl : l.length ≤ 6) (h : ∀ x, x ∈ l → lookT s gs tr x) :
    ∃ w : Span, LooksR s l = (w, 0) ∧ (s.wind.lo ≤ w.lo ∧ w.lo ≤ tr) ∧ (tr ≤ w.hi ∧ w.hi ≤ s.wind.hi) := by
  have h1 := left_told hG hgl ht l h s.wind ⟨Int.le_refl _, ht.1⟩ ⟨ht.2, Int.le_refl _⟩
  refine ⟨leftG s (gatesOf s) l, ?_, h1⟩
  unfold LooksR
  rw [if_neg (by rw [looked_zero hc hl h]; simp), if_neg (by have := h1.1; have := h1.2; unfold leftG; omega)]
theorem wind_check {s : Sands} (hc : check s = 0) {w : Span} (hlo : s.wind.lo ≤ w.lo) (hm : w.lo ≤ w.hi) (hhi : w.hi ≤ s.wind.hi) : check { s with wind := w } = 0 := by
  have hG := good_of_check hc
  have h1 := hG.lo
  have h2 := hG.hi
  have e5 : inr w.lo (-50) 50 = true := inr_iff.2 (by omega)
  have e6 : inr w.hi (-50) 50 = true := inr_iff.2 (by omega)
  have f5 : inr s.wind.lo (-50) 50 = true := inr_iff.2 (by omega)
  have f6 : inr s.wind.hi (-50) 50 = true := inr_iff.2 (by omega)
  have eo : ordered { s with wind := w } = ordered s := by
    rw [ordered_true (s := { s with wind := w }) hG.inc, ordered_true hG.inc]
    have := hG.wind
    simp [hm, this]
  have ei : ∀ p, isEnd { s with wind := w } p = isEnd s p := fun p => rfl
  rw [← hc]
  simp only [Pl.check, e5, e6, f5, f6, eo, ei]
/-- the state, by the law's number -/
theorem state_told {s : Sands} (hG : Good s) {m : Int} (hd : dayF s m = true) {k : Nat} {v : Int} (hr : gateRel ((gatesOf s).getD k 0) v) :
    (stateF s m (k : Nat) = 2 ∧ v < heightF s m + s.wind.lo) ∨ (stateF s m (k : Nat) = 0 ∧ ¬ v < heightF s m + s.wind.hi) ∨ (stateF s m (k : Nat) = 1 ∧ ¬ v < heightF s m + s.wind.lo ∧ v < heightF s m + s.wind.hi) := by
  have hb := height_tight hG hd
  have h1 := hG.lo
  have h2 := hG.hi
  have h3 := hG.wind
  unfold stateF stateG levelF
  rw [Int.toNat_natCast]
  simp only
  unfold gateRel at hr
  split
  · rename_i h4
    right; left
    refine ⟨rfl, ?_⟩
    rcases hr with ⟨h5, h6⟩ | ⟨h5, h6⟩
    · omega
    · omega
  · split
    · left; exact ⟨rfl, by omega⟩
    · right; right; exact ⟨rfl, by omega, by omega⟩
end Go.Pl

namespace Go.Proofs.Wk
open Go Go.Gx Go.Pl
set_option linter.unusedVariables false
/-! ### copies -/
theorem dup_water {l : List Water} (h : l.length ≤ 1000) : m_laurelkit_Dup_tideWater l = some l := by
  unfold m_laurelkit_Dup_tideWater
  rw [makec_eq ⟨by omega, by omega, by omega, by omega⟩]
  simp only [Option.bind_some]
  rw [appc_eq (by simp; omega)]
  simp
theorem dup_int {l : List Int} (h : l.length ≤ 1000) : m_laurelkit_Dup_int l = some l := by
  unfold m_laurelkit_Dup_int
  rw [makec_eq ⟨by omega, by omega, by omega, by omega⟩]
  simp only [Option.bind_some]
  rw [appc_eq (by simp; omega)]
  simp
theorem dup_sill {l : List Sill} (h : l.length ≤ 1000) : m_laurelkit_Dup_tideSill l = some l := by
  unfold m_laurelkit_Dup_tideSill
  rw [makec_eq ⟨by omega, by omega, by omega, by omega⟩]
  simp only [Option.bind_some]
  rw [appc_eq (by simp; omega)]
  simp
/-- sands whose lists are short -/
structure Short (s : Sands) : Prop where
  t : s.table.length ≤ 100
  f : s.floors.length ≤ 100
  s : s.sills.length ≤ 100
theorem own_eq {s : Sands} (h : Short s) : m_laurellaw01_Own s = some s := by
  have h1 := h.t
  have h2 := h.f
  have h3 := h.s
  unfold m_laurellaw01_Own
  rw [dup_water (by omega), dup_int (by omega), dup_sill (by omega)]
  rfl
theorem take_snoc {α : Type} {l : List α} {k : Nat} (d : α) (h : k < l.length) : l.take k ++ [l.getD k d] = l.take (k + 1) := by
  rw [List.take_succ_eq_append_getElem h, List.getD_eq_getElem?_getD]
  simp [h]
theorem Good.short {s : Sands} (h : Good s) : Short s := ⟨by have := h.tl; omega, by have := h.fl; omega, by have := h.sl; omega⟩
theorem x_Check_eq {s : Sands} (hs : Short s) : x_Check s = some (check s) := by
  have h1 := hs.t
  have h2 := hs.f
  have h3 := hs.s
  unfold x_Check
  rw [if_pos ⟨by omega, by omega, by omega⟩]
theorem x_Height_eq {s : Sands} {m : Int} (hs : Short s) : x_Height s m = some (HeightR s m) := by
  have h1 := hs.t
  have h2 := hs.f
  have h3 := hs.s
  unfold x_Height
  rw [if_pos ⟨by omega, by omega, by omega⟩]
theorem x_Level_eq {s : Sands} {m : Int} (hs : Short s) : x_Level s m = some (LevelR s m) := by
  have h1 := hs.t
  have h2 := hs.f
  have h3 := hs.s
  unfold x_Level
  rw [if_pos ⟨by omega, by omega, by omega⟩]
theorem x_awake_eq : x_awake = some true := rfl
/-! ### sands that pass -/
theorem check_of_good {s : Sands} (h : Good s) : check s = 0 := by
  have h1 := h.tl
  have h2 := h.fl
  have h3 := h.sl
  have e1 : inr s.table.length 2 12 = true := inr_iff.2 (by omega)
  have e2 : inr s.floors.length 1 8 = true := inr_iff.2 (by omega)
  have e3 : decide (16 < (s.sills.length : Int)) = false := by simp; omega
  have e4 : s.table.all bigW = true := all_of_getD (d := default) (fun j hj => by
    have := h.tab j hj
    simp only [bigW, Bool.and_eq_true, inr_iff]; omega)
  have e5 : inr s.wind.lo (-50) 50 = true := inr_iff.2 (by have := h.lo; omega)
  have e6 : inr s.wind.hi (-50) 50 = true := inr_iff.2 (by have := h.hi; omega)
  have e7 : s.floors.all hgt = true := all_of_getD (d := 0) (fun j hj => by
    have := h.flo j hj
    rw [hgt_iff]; omega)
  have e8 : s.sills.all (fun x => hgt x.h) = true := all_of_getD (d := default) (fun j hj => by
    have := h.sh j hj
    rw [hgt_iff]; omega)
  have e9 : ordered s = true := by
    rw [ordered_true h.inc]
    simp [h.wind]
  have e10 : s.sills.all (fun x => isEnd s x.a && isEnd s x.b) = true := all_of_getD (d := default) (fun j hj => by
    have ha := h.sa j hj
    have hb := h.sb j hj
    simp only [Bool.and_eq_true, isEnd_iff]
    omega)
  have e11 : s.sills.all (fun x => !decide (x.a = x.b)) = true := all_of_getD (d := default) (fun j hj => by
    have := h.ne j hj
    simpa using this)
  unfold check
  rw [e1, e2, e3, e4, e5, e6, e7, e8, e9, e10, e11]
  rfl
/-- the gates hang on floors and sills alone -/
theorem fix_fs {s t : Sands} (hf : s.floors = t.floors) (hs : s.sills = t.sills) : ∀ (k : Nat) (g : List Int), fixF s k g = fixF t k g
  | 0, _ => rfl
  | k + 1, g => by
    have e : roundF s g = roundF t g := by
      cases s; cases t; simp only at hf hs; subst hf hs; rfl
    unfold fixF
    rw [e, fix_fs hf hs k]
theorem gates_fs {s t : Sands} (hf : s.floors = t.floors) (hs : s.sills = t.sills) : gatesOf s = gatesOf t := fix_fs hf hs 8001 _
theorem x_All_eq {s : Sands} {m : Int} (hs : Short s) : x_All s m = some (AllR s m) := by
  have h1 := hs.t
  have h2 := hs.f
  have h3 := hs.s
  unfold x_All
  rw [if_pos ⟨by omega, by omega, by omega⟩]
theorem x_Turn_eq {s : Sands} {p m : Int} (hs : Short s) : x_Turn s p m = some (TurnR s p m) := by
  have h1 := hs.t
  have h2 := hs.f
  have h3 := hs.s
  unfold x_Turn
  rw [if_pos ⟨by omega, by omega, by omega⟩]
theorem x_At_eq {s : Sands} {m p : Int} (hs : Short s) : x_At s m p = some (AtR s m p) := by
  have h1 := hs.t
  have h2 := hs.f
  have h3 := hs.s
  unfold x_At
  rw [if_pos ⟨by omega, by omega, by omega⟩]
theorem x_Gate_eq {s : Sands} {p : Int} (hs : Short s) : x_Gate s p = some (GateR s p) := by
  have h1 := hs.t
  have h2 := hs.f
  have h3 := hs.s
  unfold x_Gate
  rw [if_pos ⟨by omega, by omega, by omega⟩]
theorem MadeOK.good {pl sl : Int} {s : Sands} (h : MadeOK pl sl s) (hp : pl ≤ 8) (hs : sl ≤ 16) : Good s := good_of_check (h.check hp hs)
/-- a minute of the day, out of any number -/
theorem minute_in {s : Sands} (hG : Good s) {k : Int} (hk : 0 ≤ k ∧ k ≤ 255) :
    ∃ t, remc (IntKind.i64.wrap k) (lastM s - firstM s + 1) = some t ∧ firstM s ≤ firstM s + t ∧ firstM s + t ≤ lastM s ∧ 0 ≤ t := by
  have hds := day_span hG
  rw [Go.Fw.wrap_i64 (by omega), remc_eq (by omega)]
  have h1 := Int.tmod_nonneg (lastM s - firstM s + 1) (show (0 : Int) ≤ k by omega)
  have h2 := Int.tmod_lt_of_pos k (show 0 < lastM s - firstM s + 1 by omega)
  exact ⟨_, rfl, by omega, by omega, h1⟩
theorem place_in {s : Sands} (hG : Good s) {k : Int} (hk : 0 ≤ k ∧ k ≤ 255) : ∃ t, remc (IntKind.i64.wrap k) (s.floors.length : Int) = some t ∧ 0 ≤ t ∧ t < s.floors.length := by
  have hfl := hG.fl
  rw [Go.Fw.wrap_i64 (by omega), remc_eq (by omega)]
  have h1 := Int.tmod_nonneg (s.floors.length : Int) (show (0 : Int) ≤ k by omega)
  have h2 := Int.tmod_lt_of_pos k (show 0 < (s.floors.length : Int) by omega)
  exact ⟨_, rfl, h1, h2⟩
theorem lawfirst_eq {s : Sands} (h : 0 < s.table.length) : m_laurellaw01_first s = some (firstM s) := by
  unfold m_laurellaw01_first
  rw [show (0 : Int) = ((0 : Nat) : Int) from rfl, ix_nat default h]
  rfl
theorem lawlast_eq {s : Sands} (hs : Short s) (h : 0 < s.table.length) : m_laurellaw01_last s = some (lastM s) := by
  have h1 := hs.t
  unfold m_laurellaw01_last
  rw [subc_eq (by omega), Option.bind_some, show (s.table.length : Int) - 1 = ((s.table.length - 1 : Nat) : Int) by omega, ix_nat default (by omega)]
  rfl
end Go.Proofs.Wk

namespace Go.Proofs.Wk
open Go Go.Gx Go.Pl
set_option linter.unusedVariables false
/-! ### runs of minutes -/
/-- the runs told so far, and the open one -/
structure SI (p : Int → Bool) (a : Int) (k : Nat) (x : SpanSt) : Prop where
  acc : ∀ y, y ∈ x.acc → a ≤ y.lo ∧ y.lo ≤ y.hi ∧ y.hi + 1 < a + k ∧ (∀ m, y.lo ≤ m → m ≤ y.hi → p m = true) ∧ p (y.hi + 1) = false ∧ (y.lo = a ∨ p (y.lo - 1) = false)
  op : x.op = true → a ≤ x.fr ∧ x.fr < a + k ∧ (∀ m, x.fr ≤ m → m < a + k → p m = true) ∧ (x.fr = a ∨ p (x.fr - 1) = false)
  cov : ∀ m, a ≤ m → m < a + k → p m = true → (∃ y, y ∈ x.acc ∧ y.lo ≤ m ∧ m ≤ y.hi) ∨ (x.op = true ∧ x.fr ≤ m)
  shut : x.op = false → k = 0 ∨ p (a + k - 1) = false
theorem si_n {p : Int → Bool} {a : Int} : ∀ k, SI p a k (spansN p a k)
  | 0 => ⟨fun y hy => by simp [spansN] at hy, fun h => by simp [spansN] at h, fun m h1 h2 => by omega, fun _ => .inl rfl⟩
  | k + 1 => by
    have ih := si_n (p := p) (a := a) k
    rw [spansN_succ]
    generalize hx : spansN p a k = x at ih
    unfold spanStep
    cases hp : p (a + k) with
    | true =>
      cases ho : x.op with
      | false =>
        refine ⟨fun y hy => ?_, fun _ => ?_, fun m h1 h2 h3 => ?_, fun h => by simp at h⟩
        · have := ih.acc y hy; exact ⟨this.1, this.2.1, by omega, this.2.2.2⟩
        · refine ⟨by simp only; omega, by simp only; omega, fun m h1 h2 => ?_, ?_⟩
          · have : m = a + k := by simp only at h1; omega
            rw [this, hp]
          · rcases ih.shut ho with h | h
            · subst h; simp
            · right; exact h
        · by_cases hm : m < a + k
          · rcases ih.cov m h1 hm h3 with h | h
            · exact .inl h
            · rw [ho] at h; exact absurd h.1 (by decide)
          · exact .inr ⟨rfl, by simp only; omega⟩
      | true =>
        refine ⟨fun y hy => ?_, fun _ => ?_, fun m h1 h2 h3 => ?_, fun h => by simp only at h; rw [ho] at h; simp at h⟩
        · have := ih.acc y hy; exact ⟨this.1, this.2.1, by omega, this.2.2.2⟩
        · have := ih.op ho
          refine ⟨this.1, by have := this.2.1; simp only; omega, fun m h1 h2 => ?_, this.2.2.2⟩
          by_cases hm : m < a + k
          · exact this.2.2.1 m h1 hm
          · have : m = a + k := by omega
            rw [this, hp]
        · by_cases hm : m < a + k
          · exact ih.cov m h1 hm h3
          · exact .inr ⟨ho, by have := (ih.op ho).2.1; simp only; omega⟩
    | false =>
      unfold shutF
      cases ho : x.op with
      | false =>
        refine ⟨fun y hy => ?_, fun h => by simp at h, fun m h1 h2 h3 => ?_, fun _ => .inr (by rw [← hp]; congr 1; omega)⟩
        · have := ih.acc y hy; exact ⟨this.1, this.2.1, by omega, this.2.2.2⟩
        · by_cases hm : m < a + k
          · rcases ih.cov m h1 hm h3 with h | h
            · exact .inl h
            · rw [ho] at h; exact absurd h.1 (by decide)
          · have : m = a + k := by omega
            rw [this, hp] at h3; exact absurd h3 (by decide)
      | true =>
        have hop := ih.op ho
        refine ⟨fun y hy => ?_, fun h => by simp at h, fun m h1 h2 h3 => ?_, fun _ => .inr (by rw [← hp]; congr 1; omega)⟩
        · simp only [List.mem_append, List.mem_singleton] at hy
          rcases hy with hy | rfl
          · have := ih.acc y hy; exact ⟨this.1, this.2.1, by omega, this.2.2.2⟩
          · refine ⟨hop.1, by have := hop.2.1; simp only; omega, by simp only; omega, fun m h1 h2 => hop.2.2.1 m h1 (by simp only at h2; omega), ?_, hop.2.2.2⟩
            simp only
            rw [← hp]; congr 1; omega
        · by_cases hm : m < a + k
          · rcases ih.cov m h1 hm h3 with ⟨y, hy, h⟩ | h
            · exact .inl ⟨y, List.mem_append_left _ hy, h⟩
            · exact .inl ⟨_, List.mem_append_right _ List.mem_cons_self, h.2, by simp only; omega⟩
          · have : m = a + k := by omega
            rw [this, hp] at h3; exact absurd h3 (by decide)
/-- the runs of a day are the longest ones, and all of them -/
theorem spans_runs {s : Sands} (hG : Good s) {p : Int → Bool} :
    (∀ y, y ∈ spansF s p → firstM s ≤ y.lo ∧ y.lo ≤ y.hi ∧ y.hi ≤ lastM s ∧ (∀ m, y.lo ≤ m → m ≤ y.hi → p m = true) ∧ (y.hi = lastM s ∨ p (y.hi + 1) = false) ∧ (y.lo = firstM s ∨ p (y.lo - 1) = false)) ∧
    ∀ m, dayF s m = true → p m = true → ∃ y, y ∈ spansF s p ∧ y.lo ≤ m ∧ m ≤ y.hi := by
  have hds := day_span hG
  have hn : ((dayN s : Nat) : Int) = lastM s - firstM s + 1 := by unfold dayN; omega
  have ih := si_n (p := p) (a := firstM s) (dayN s)
  unfold spansF
  generalize spansN p (firstM s) (dayN s) = x at ih
  have key : ∀ y, y ∈ x.acc → firstM s ≤ y.lo ∧ y.lo ≤ y.hi ∧ y.hi ≤ lastM s ∧ (∀ m, y.lo ≤ m → m ≤ y.hi → p m = true) ∧ (y.hi = lastM s ∨ p (y.hi + 1) = false) ∧ (y.lo = firstM s ∨ p (y.lo - 1) = false) := fun y hy => by
    obtain ⟨h1, h2, h3, h4, h5, h6⟩ := ih.acc y hy
    exact ⟨h1, h2, by omega, h4, .inr h5, h6⟩
  unfold shutF
  cases ho : x.op with
  | false =>
    refine ⟨key, fun m hd hp => ?_⟩
    simp only [dayF, inr_iff] at hd
    rcases ih.cov m hd.1 (by omega) hp with h | h
    · exact h
    · rw [ho] at h; exact absurd h.1 (by decide)
  | true =>
    have hop := ih.op ho
    refine ⟨fun y hy => ?_, fun m hd hp => ?_⟩
    · simp only [List.mem_append, List.mem_singleton] at hy
      rcases hy with hy | rfl
      · exact key y hy
      · exact ⟨hop.1, by simp only; omega, by simp only; omega, fun m h1 h2 => hop.2.2.1 m h1 (by simp only at h2; omega), .inl (by simp only; omega), hop.2.2.2⟩
    · simp only [dayF, inr_iff] at hd
      rcases ih.cov m hd.1 (by omega) hp with ⟨y, hy, h⟩ | h
      · exact ⟨y, List.mem_append_left _ hy, h⟩
      · exact ⟨_, List.mem_append_right _ List.mem_cons_self, h.2, by simp only; omega⟩
theorem idxf_holds {α : Type} {p : α → Bool} {l : List α} {d : α} (h : 0 ≤ idxf p l) : p (l.getD (idxf p l).toNat d) = true := by
  unfold idxf at h ⊢
  cases hf : l.findIdx? p with
  | none => rw [hf] at h; exact absurd h (by decide)
  | some i =>
    rw [List.findIdx?_eq_some_iff_getElem] at hf
    obtain ⟨h1, h2, _⟩ := hf
    simpa [List.getD_eq_getElem?_getD, h1] using h2
/-- until when one may stay -/
theorem turn_spec {s : Sands} (hG : Good s) {p m : Int} (hp : isPlace s p = true) (hd : dayF s m = true) (h0 : stateF s m p = 0) :
    ∃ T, TurnR s p m = (T, 0) ∧ m ≤ T ∧ T ≤ lastM s ∧ (∀ k, m ≤ k → k ≤ T → stateF s k p = 0) ∧ (T = lastM s ∨ stateF s (T + 1) p ≠ 0) := by
  obtain ⟨hr, hc⟩ := spans_runs hG (p := isState s p 0)
  obtain ⟨y, hy, hy1, hy2⟩ := hc m hd (by simp [isState, h0])
  have hE : spansE s p 0 = 0 := by
    unfold spansE
    rw [check_of_good hG, hp]
    rfl
  have hi : 0 ≤ idxf (fun x : Span => inr m x.lo x.hi) (spansF s (isState s p 0)) := by
    have := idxf_nonneg (p := fun x : Span => inr m x.lo x.hi) (l := spansF s (isState s p 0))
    have ha : (spansF s (isState s p 0)).any (fun x : Span => inr m x.lo x.hi) = true := List.any_eq_true.2 ⟨y, hy, inr_iff.2 ⟨hy1, hy2⟩⟩
    rw [ha] at this
    exact of_decide_eq_true this
  have hrg := idxf_range (p := fun x : Span => inr m x.lo x.hi) (l := spansF s (isState s p 0))
  unfold TurnR
  rw [hE, hd, if_neg (by simp), if_neg (by simp), if_neg (by omega)]
  have hin := idxf_holds (d := default) (p := fun x : Span => inr m x.lo x.hi) (l := spansF s (isState s p 0)) hi
  generalize idxf (fun x : Span => inr m x.lo x.hi) (spansF s (isState s p 0)) = i at hi hrg hin
  have hm := mem_getD (d := (default : Span)) (l := spansF s (isState s p 0)) (j := i.toNat) (by omega)
  obtain ⟨_, _, h3, h4, h5, _⟩ := hr _ hm
  have hin2 := inr_iff.1 hin
  refine ⟨_, rfl, hin2.2, h3, fun k h1 h2 => ?_, ?_⟩
  · have := h4 k (by omega) h2
    exact of_decide_eq_true this
  · rcases h5 with h5 | h5
    · exact .inl h5
    · exact .inr (of_decide_eq_false h5)
/-! ### the table of ways is whole -/
def joins (x : Sill) (p q : Int) : Prop := x.a = p ∧ x.b = q ∨ x.b = p ∧ x.a = q
theorem hasKey_app {W r : List (Int × List Int)} {q : Int} (h : hasKey W q = true) : hasKey (W ++ r) q = true := by
  unfold hasKey at h ⊢
  rw [List.any_append, h]
  rfl
theorem tryAdd_has {may : Int → Int → Bool} {way : List Int} {W : List (Int × List Int)} {k : Nat} {q : Int} (hm : may k q = true) : hasKey (tryAdd may way W k q) q = true := by
  unfold tryAdd
  by_cases h : hasKey W q = true
  · rw [if_pos h]; exact h
  · rw [if_neg h, if_pos hm]
    unfold hasKey
    simp
theorem procN_has {s : Sands} {may : Int → Int → Bool} (hG : Good s) {W : List (Int × List Int)} {c : Nat} {q : Int} {k : Nat} (hk : k < s.sills.length) (hj : joins (s.sills.getD k default) (W.getD c default).1 q) (hm : may k q = true) : ∀ n, k < n → hasKey (procN s may W c n) q = true
  | 0, h => by omega
  | n + 1, h => by
    rw [procN_succ]
    by_cases hn : k < n
    · obtain ⟨r, hr⟩ := wStep_mono (may := may) (p := (W.getD c default).1) (way := (W.getD c default).2) (W := procN s may W c n) (k := n) (x := s.sills.getD n default)
      rw [hr]
      exact hasKey_app (procN_has hG hk hj hm n hn)
    · obtain rfl : k = n := by omega
      have hne := hG.ne k hk
      unfold wStep
      rcases hj with ⟨h1, h2⟩ | ⟨h1, h2⟩
      · rw [if_pos h1, h2]; exact tryAdd_has hm
      · rw [if_neg (by rw [← h1]; exact hne), if_pos h1, h2]; exact tryAdd_has hm
theorem ways_closed {s : Sands} {may : Int → Int → Bool} (hG : Good s) : ∀ (c j : Nat), j < c → j < (waysN s may c).length → ∀ k, k < s.sills.length → ∀ q, joins (s.sills.getD k default) ((waysN s may c).getD j default).1 q → may k q = true → hasKey (waysN s may c) q = true
  | 0, j, h, _, _, _, _, _, _ => by omega
  | c + 1, j, h, hl, k, hk, q, hj, hm => by
    have e : waysN s may (c + 1) = if c < (waysN s may c).length then procN s may (waysN s may c) c s.sills.length else waysN s may c := rfl
    by_cases hc : c < (waysN s may c).length
    · rw [e, if_pos hc] at hj hl ⊢
      obtain ⟨_, r, hr⟩ := procN_inv (may := may) hG (waysN_inv hG c) hc (Nat.le_refl _)
      by_cases hjc : j < c
      · have hg : (procN s may (waysN s may c) c s.sills.length).getD j default = (waysN s may c).getD j default := by
          rw [hr, List.getD_eq_getElem?_getD, List.getElem?_append_left (by omega), List.getD_eq_getElem?_getD]
        rw [hg] at hj
        rw [hr]
        exact hasKey_app (ways_closed hG c j hjc (by omega) k hk q hj hm)
      · obtain rfl : j = c := by omega
        have hg : (procN s may (waysN s may j) j s.sills.length).getD j default = (waysN s may j).getD j default := by
          rw [hr, List.getD_eq_getElem?_getD, List.getElem?_append_left (by omega), List.getD_eq_getElem?_getD]
        rw [hg] at hj
        exact procN_has hG hk hj hm _ hk
    · rw [e, if_neg hc] at hj hl ⊢
      exact ways_closed hG c j (by omega) hl k hk q hj hm
/-- who is in the table brings in whom he may -/
theorem waysF_closed {s : Sands} {may : Int → Int → Bool} (hG : Good s) {p q : Int} (hp : hasKey (waysF s may) p = true) {k : Nat} (hk : k < s.sills.length) (hj : joins (s.sills.getD k default) p q) (hm : may k q = true) : hasKey (waysF s may) q = true := by
  have hl := (waysN_inv (may := may) hG 9).len
  have hfl := hG.fl
  unfold waysF at hp ⊢
  have hp' := hasKey_iff.1 hp
  obtain ⟨e, he, rfl⟩ := List.mem_map.1 hp'
  obtain ⟨j, hj', rfl⟩ := List.mem_iff_getElem.1 he
  refine ways_closed hG 9 j (by omega) hj' k hk q ?_ hm
  have : (waysN s may 9).getD j default = (waysN s may 9)[j] := by simp [List.getD_eq_getElem?_getD, hj']
  rw [this]
  exact hj
theorem sea_in {s : Sands} {may : Int → Int → Bool} (hG : Good s) : hasKey (waysF s may) (-1) = true := by
  obtain ⟨r, hr⟩ := (waysN_inv (may := may) hG 9).sea
  unfold waysF
  rw [hr]
  simp [hasKey]
/-- what is in the table was allowed -/
theorem ways_keys {s : Sands} {may : Int → Int → Bool} {Q : Int → Prop} (hQ : ∀ k q, may k q = true → Q q) : ∀ c, ∀ e ∈ waysN s may c, e.1 = -1 ∨ Q e.1
  | 0, e, he => by simp [waysN] at he; subst he; exact .inl rfl
  | c + 1, e, he => by
    have ih := ways_keys (s := s) hQ c
    have e1 : waysN s may (c + 1) = if c < (waysN s may c).length then procN s may (waysN s may c) c s.sills.length else waysN s may c := rfl
    rw [e1] at he
    split at he
    · have key : ∀ n, ∀ e ∈ procN s may (waysN s may c) c n, e.1 = -1 ∨ Q e.1 := by
        intro n
        induction n with
        | zero => exact ih
        | succ n ihn =>
          have ht : ∀ q, ∀ e ∈ tryAdd may ((waysN s may c).getD c default).2 (procN s may (waysN s may c) c n) n q, e.1 = -1 ∨ Q e.1 := by
            intro q e he
            unfold tryAdd at he
            split at he
            · exact ihn e he
            · split at he
              · rename_i hm
                rcases List.mem_append.1 he with he | he
                · exact ihn e he
                · simp at he; subst he; exact .inr (hQ _ _ hm)
              · exact ihn e he
          intro e he
          rw [procN_succ] at he
          unfold wStep at he
          split at he
          · exact ht _ e he
          · split at he
            · exact ht _ e he
            · exact ihn e he
      exact key _ e he
    · exact ih e he
end Go.Proofs.Wk

namespace Go.Proofs.Wk
open Go Go.Gx Go.Pl
set_option linter.unusedVariables false
theorem pile_eq' (l : List Int) : m_laurelkit_Pile l = some ⟨0, 0⟩ := rfl
theorem x_Hold_eq {s : Sands} {p : Int} {a b : List Int} (hs : Short s) (ha : a.length ≤ 1000000) (hb : b.length ≤ 1000000) : x_Hold s p a b = some (HoldR s p a b) := by
  have h1 := hs.t
  have h2 := hs.f
  have h3 := hs.s
  unfold x_Hold
  rw [if_pos ⟨by omega, by omega, by omega, ha, hb⟩]
/-- one place's bank, held: what it comes to -/
theorem hold_one {s : Sands} (hG : Good s) {p q : Int} (hp : isPlace s p = true) (hq : isPlace s q = true) :
    HoldR s p [] [q] = if hasKey (waysF s (mayFree [] [q])) p = true then (0, 8) else (s.floors.getD q.toNat 0, 0) := by
  have hc := check_of_good hG
  have e1 : ([q] : List Int).all (isPlace s) = true := by simp [hq]
  have e2 : twiceF ([] : List Int) = false := rfl
  have e3 : twiceF [q] = false := by simp [twiceF, seenN]
  have hE : holdE s p [] [q] = if hasKey (waysF s (mayFree [] [q])) p = true then 8 else 0 := by
    unfold holdE
    rw [if_neg (by rw [hc]; decide), if_neg (by rw [hp, e1]; simp), e2, e3, if_neg (by simp)]
    by_cases h : hasKey (waysF s (mayFree [] [q])) p = true
    · rw [if_pos h, if_pos h]
    · rw [if_neg h, if_neg h]; rfl
  have hq2 := isPlace_iff.1 hq
  have hfl := hG.flo q.toNat (by omega)
  unfold HoldR
  rw [hE]
  by_cases h : hasKey (waysF s (mayFree [] [q])) p = true
  · rw [if_pos h, if_pos (by decide), if_pos h]
  · rw [if_neg h, if_neg (by decide), if_neg h]
    congr 1
    show min (holdS s []) (s.floors.getD q.toNat 0) = _
    unfold holdS
    simp only [List.foldl_nil]
    omega
/-- not in the table that leaves q out: whatever reaches there reaches q -/
theorem reach_over {s : Sands} (hG : Good s) {q : Int} {h r : Int} (hr : Go.Pl.Reach s h r) : hasKey (waysF s (mayFree [] [q])) r = true ∨ Go.Pl.Reach s h q := by
  induction hr with
  | sea => exact .inl (sea_in hG)
  | @step p0 q0 x hp hx hj hq h1 h2 ih =>
    rcases ih with ih | ih
    · by_cases he : q0 = q
      · subst he; exact .inr (.step hp hx hj hq h1 h2)
      · left
        obtain ⟨k, hk, rfl⟩ := List.mem_iff_getElem.1 hx
        have hg : s.sills.getD k default = s.sills[k] := by simp [List.getD_eq_getElem?_getD, hk]
        refine waysF_closed hG ih hk (by rw [hg]; exact hj) ?_
        simp [mayFree, hasI, he]
    · exact .inr ih
theorem own_out {s : Sands} {q : Int} (hq : q ≠ -1) : hasKey (waysF s (mayFree [] [q])) q ≠ true := by
  intro h
  obtain ⟨e, he, rfl⟩ := List.mem_map.1 (hasKey_iff.1 h)
  rcases ways_keys (s := s) (may := mayFree [] [e.1]) (Q := fun x => x ≠ e.1) (fun k x hm => by
    simp [mayFree, hasI] at hm
    exact hm) 9 e he with h1 | h1
  · exact hq h1
  · exact h1 rfl
theorem gateR_good {s : Sands} (hG : Good s) {p : Int} (hp : isPlace s p = true) : GateR s p = if (gatesOf s).getD p.toNat 0 = 1000 then (0, 6) else ((gatesOf s).getD p.toNat 0, 0) := by
  have hE : gatedE s p = if (gatesOf s).getD p.toNat 0 = 1000 then 6 else 0 := by
    unfold gatedE
    rw [check_of_good hG, hp]
    simp
  unfold GateR
  rw [hE]
  by_cases h : (gatesOf s).getD p.toNat 0 = 1000
  · rw [if_pos h, if_pos (by decide), if_pos h]
  · rw [if_neg h, if_neg (by decide), if_neg h]
theorem atR_good {s : Sands} (hG : Good s) {p m : Int} (hp : isPlace s p = true) (hd : dayF s m = true) : AtR s m p = (stateF s m p, 0) := by
  unfold AtR
  rw [check_of_good hG, hp, hd]
  simp
theorem state_gate {s : Sands} (hG : Good s) {a b m : Int} (hab : b ≤ a ∨ a = 1000) (ha : a ≤ 1000) : stateG s a m ≤ stateG s b m := by
  have hw := hG.wind
  unfold stateG
  have : (levelF s m).lo ≤ (levelF s m).hi := by simp only [levelF]; omega
  generalize levelF s m = l at this
  by_cases h1 : a = 1000 ∨ l.hi ≤ a
  · rw [if_pos h1]
    split
    · omega
    · split <;> omega
  · rw [if_neg h1, if_neg (show ¬ (b = 1000 ∨ l.hi ≤ b) by omega)]
    split
    · rw [if_pos (by omega)]; omega
    · split <;> omega
theorem state_nonneg {s : Sands} {m p : Int} : 0 ≤ stateF s m p := by
  unfold stateF stateG
  split
  · omega
  · split <;> omega
end Go.Proofs.Wk

namespace Go.Proofs.Wk
open Go Go.Gx Go.Pl
set_option linter.unusedVariables false
/-! ### the reference's gates -/
theorem has_eq {l : List Int} {n : Int} (hl : l.length ≤ 1000000) : m_laurelref01_has l n = some (hasI l n) := by
  unfold m_laurelref01_has
  have key := iterM_any0 (f := m_laurelref01_has_L0 l n) l.length (fun k => decide (l.getD k 0 = n)) true (fun k hk => by
    unfold m_laurelref01_has_L0
    rw [if_pos (by omega), ix_nat 0 hk, Option.bind_some]
    by_cases h : l.getD k 0 = n
    · rw [if_pos h]; simpa using h
    · rw [if_neg h, addc_eq (by omega), Option.bind_some]; simpa using h) (by
    unfold m_laurelref01_has_L0
    rw [if_neg (by omega)]) (N := FU) (FU_lt (by omega))
  rw [key, Option.bind_some]
  have e : (List.range l.length).any (fun k => decide (l.getD k 0 = n)) = hasI l n := by
    rw [any_range (l := l) (d := 0) (p := fun x => decide (x = n))]
    unfold hasI
    congr 1
    funext x
    rw [Bool.eq_iff_iff]; simp [eq_comm]
  rw [e]
  cases hasI l n <;> rfl
/-- one step of the water -/
structure Stp (s : Sands) (sl pl : List Int) (h a q : Int) (k : Nat) : Prop where
  kl : k < s.sills.length
  jn : joins (s.sills.getD k default) a q
  qn : 0 ≤ q
  sn : hasI sl (k : Int) = false
  pn : hasI pl q = false
  hh : (s.sills.getD k default).h ≤ h
  ff : s.floors.getD q.toNat 0 ≤ h
/-- a way on, that meets no place twice -/
inductive Path (s : Sands) (sl pl : List Int) (h to : Int) : List Int → Int → Prop
  | done {met : List Int} : Path s sl pl h to met to
  | step {met : List Int} {a q : Int} {k : Nat} : Stp s sl pl h a q k → q ∉ met → Path s sl pl h to (met ++ [q]) q → Path s sl pl h to met a
/-- what water reaches, some sills and places left out -/
inductive Rch (s : Sands) (sl pl : List Int) (h : Int) : Int → Prop
  | sea : Rch s sl pl h (-1)
  | step {a q : Int} {k : Nat} : Rch s sl pl h a → Stp s sl pl h a q k → Rch s sl pl h q
theorem Path.rch {s : Sands} {sl pl : List Int} {h to : Int} {met : List Int} {a : Int} (p : Path s sl pl h to met a) (ha : Rch s sl pl h a) : Rch s sl pl h to := by
  induction p with
  | done => exact ha
  | step hs _ _ ih => exact ih (.step ha hs)
/-- steps one behind the other -/
def Chn (s : Sands) (sl pl : List Int) (h : Int) : Int → List Int → Prop
  | _, [] => True
  | a, q :: l => (∃ k, Stp s sl pl h a q k) ∧ Chn s sl pl h q l
def endOf : Int → List Int → Int
  | a, [] => a
  | _, q :: l => endOf q l
theorem Chn.snoc {s : Sands} {sl pl : List Int} {h q : Int} {k : Nat} : ∀ {l : List Int} {a : Int}, Chn s sl pl h a l → Stp s sl pl h (endOf a l) q k → Chn s sl pl h a (l ++ [q]) ∧ endOf a (l ++ [q]) = q
  | [], a, _, hs => ⟨⟨⟨k, hs⟩, trivial⟩, rfl⟩
  | x :: l, a, hc, hs => by
    obtain ⟨h1, h2⟩ := Chn.snoc (l := l) (a := x) hc.2 hs
    exact ⟨⟨hc.1, h1⟩, h2⟩
theorem Chn.drop {s : Sands} {sl pl : List Int} {h q : Int} : ∀ {l b : List Int} {a : Int}, Chn s sl pl h a (l ++ q :: b) → Chn s sl pl h q b ∧ endOf a (l ++ q :: b) = endOf q b
  | [], b, a, hc => ⟨hc.2, rfl⟩
  | x :: l, b, a, hc => Chn.drop (l := l) hc.2
theorem Chn.once {s : Sands} {sl pl : List Int} {h : Int} : ∀ (l : List Int) (a : Int), Chn s sl pl h a l → ∃ l', Chn s sl pl h a l' ∧ endOf a l' = endOf a l ∧ l'.Nodup
  | [], a, _ => ⟨[], trivial, rfl, List.nodup_nil⟩
  | q :: l, a, hc => by
    obtain ⟨l', h1, h2, h3⟩ := Chn.once l q hc.2
    by_cases hq : q ∈ l'
    · obtain ⟨x, y, rfl⟩ := List.append_of_mem hq
      obtain ⟨h4, h5⟩ := Chn.drop h1
      have h6 : (q :: y).Nodup := (List.nodup_append.1 h3).2.1
      exact ⟨q :: y, ⟨hc.1, h4⟩, by show endOf q y = endOf q l; rw [← h5, h2], h6⟩
    · exact ⟨q :: l', ⟨hc.1, h1⟩, h2, List.nodup_cons.2 ⟨hq, h3⟩⟩
theorem Chn.path {s : Sands} {sl pl : List Int} {h : Int} : ∀ (l : List Int) (a : Int) (met : List Int), Chn s sl pl h a l → l.Nodup → (∀ x ∈ l, x ∉ met) → Path s sl pl h (endOf a l) met a
  | [], a, met, _, _, _ => .done
  | q :: l, a, met, hc, hn, hm => by
    obtain ⟨k, hk⟩ := hc.1
    have h1 := List.nodup_cons.1 hn
    refine .step hk (hm q List.mem_cons_self) (Chn.path l q (met ++ [q]) hc.2 h1.2 (fun x hx hxm => ?_))
    rcases List.mem_append.1 hxm with h2 | h2
    · exact hm x (List.mem_cons_of_mem _ hx) h2
    · simp at h2; subst h2; exact h1.1 hx
theorem Rch.path {s : Sands} {sl pl : List Int} {h q : Int} (r : Rch s sl pl h q) : Path s sl pl h q [] (-1) := by
  have : ∃ l, Chn s sl pl h (-1) l ∧ endOf (-1) l = q := by
    induction r with
    | sea => exact ⟨[], trivial, rfl⟩
    | step _ hs ih =>
      obtain ⟨l, h1, h2⟩ := ih
      subst h2
      exact ⟨_, Chn.snoc h1 hs⟩
  obtain ⟨l, h1, h2⟩ := this
  obtain ⟨l', h3, h4, h5⟩ := Chn.once l _ h1
  have := Chn.path l' (-1) [] h3 h5 (fun x _ hx => by simp at hx)
  rw [h4, h2] at this
  exact this
/-- what is met: places, each once -/
structure Met (s : Sands) (met : List Int) : Prop where
  nd : met.Nodup
  rg : ∀ x ∈ met, 0 ≤ x ∧ x < s.floors.length
theorem Met.len {s : Sands} {met : List Int} (h : Met s met) : met.length ≤ s.floors.length := by
  have h1 := nodup_map (f := fun k : Int => k.toNat) h.nd (fun x hx y hy he => by
    have a := h.rg x hx
    have b := h.rg y hy
    have hc : x.toNat = y.toNat := he
    omega)
  have h2 := nodup_lt s.floors.length _ h1 (fun x hx => by
    obtain ⟨k, hk, rfl⟩ := List.mem_map.1 hx
    have a := h.rg k hk
    have : (fun k : Int => k.toNat) k = k.toNat := rfl
    omega)
  simpa using h2
theorem Met.snoc {s : Sands} {met : List Int} (h : Met s met) {q : Int} (hq : 0 ≤ q ∧ q < s.floors.length) (hn : q ∉ met) : Met s (met ++ [q]) := by
  refine ⟨List.nodup_append.2 ⟨h.nd, by simp, fun a ha b hb hab => ?_⟩, fun x hx => ?_⟩
  · simp at hb; subst hb; subst hab; exact hn ha
  · rcases List.mem_append.1 hx with hx | hx
    · exact h.rg x hx
    · simp at hx; subst hx; exact hq
theorem hasI_iff {l : List Int} {n : Int} : hasI l n = true ↔ n ∈ l := by
  unfold hasI
  rw [List.any_eq_true]
  constructor
  · rintro ⟨x, hx, h⟩; have := of_decide_eq_true h; subst this; exact hx
  · intro h; exact ⟨n, h, by simp⟩
/-- what 'least' says -/
structure LOK (s : Sands) (sl pl : List Int) (to : Int) (met : List Int) (a crest v : Int) : Prop where
  snd : v = 5000 ∨ ((crest ≤ v ∧ v ≤ 999) ∧ Path s sl pl v to met a)
  cmp : ∀ h, crest ≤ h → Path s sl pl h to met a → v ≤ h
theorem joins_one {x : Sill} {a p q : Int} (hne : x.a ≠ x.b) (h1 : joins x a p) (h2 : joins x a q) : p = q := by
  rcases h1 with ⟨h3, h4⟩ | ⟨h3, h4⟩ <;> rcases h2 with ⟨h5, h6⟩ | ⟨h5, h6⟩ <;> omega
/-- the loop's state -/
structure LIn (s : Sands) (sl pl : List Int) (to : Int) (met : List Int) (a crest out : Int) (i : Nat) : Prop where
  snd : out = 5000 ∨ ((crest ≤ out ∧ out ≤ 999) ∧ Path s sl pl out to met a)
  cmp : ∀ h (k : Nat) q, crest ≤ h → k < i → Stp s sl pl h a q k → q ∉ met → Path s sl pl h to (met ++ [q]) q → out ≤ h
theorem LIn.skip {s : Sands} {sl pl : List Int} {to : Int} {met : List Int} {a crest out : Int} {i : Nat} (h : LIn s sl pl to met a crest out i) (hs : ∀ h q, Stp s sl pl h a q i → q ∉ met → False) : LIn s sl pl to met a crest out (i + 1) := by
  refine ⟨h.snd, fun hh k q hc hk hst hq hp => ?_⟩
  by_cases he : k = i
  · subst he; exact (hs hh q hst hq).elim
  · exact h.cmp hh k q hc (by omega) hst hq hp
theorem least_tail {s : Sands} (hG : Good s) {sl pl : List Int} (hsl : sl.length ≤ 1000) (hpl : pl.length ≤ 1000) {to : Int} {met : List Int} (hm : Met s met) {a crest out : Int} (hcr : 0 ≤ crest ∧ crest ≤ 999) {i : Nat} (hi : i < s.sills.length) (hL : LIn s sl pl to met a crest out i)
    {rec_ : Sands → Int → List Int → Int → Int → List Int → List Int → Option Int}
    (hrec : ∀ q c : Int, 0 ≤ q ∧ q < s.floors.length → q ∉ met → 0 ≤ c ∧ c ≤ 999 → ∃ v, rec_ s q (met ++ [q]) c to sl pl = some v ∧ LOK s sl pl to (met ++ [q]) q c v)
    {nx : Int} (hj : joins (s.sills.getD i default) a nx) :
    ∃ out', ((if nx < 0 then some true else
      (m_laurelref01_has met nx).bind fun t53 => if t53 = true then some true else
        (m_laurelref01_has sl (i : Int)).bind fun t58 => if t58 = true then some true else
          (m_laurelref01_has pl nx).bind fun t63 => some t63).bind fun o_4 =>
      if o_4 = true then some out else
        (appc 8 [] met).bind fun t67 => (appc 8 t67 [nx]).bind fun t70 => (ix s.floors nx).bind fun t81 =>
          (rec_ s nx t70 (max (max crest (s.sills.getD i default).h) t81) to sl pl).bind fun t87 => some (min out t87)) = some out' ∧ LIn s sl pl to met a crest out' (i + 1) := by
  have hne := hG.ne i hi
  have ha := hG.sa i hi
  have hb := hG.sb i hi
  have hsh := hG.sh i hi
  have hml := hm.len
  have hfl := hG.fl
  have hnx : -1 ≤ nx ∧ nx < s.floors.length := by rcases hj with ⟨h1, h2⟩ | ⟨h1, h2⟩ <;> omega
  by_cases h0 : nx < 0
  · rw [if_pos h0, Option.bind_some, if_pos rfl]
    exact ⟨_, rfl, hL.skip fun h q hst _ => by
      have := joins_one hne hj hst.jn
      have := hst.qn
      omega⟩
  rw [if_neg h0, has_eq (by omega), Option.bind_some]
  by_cases h1 : hasI met nx = true
  · rw [if_pos h1, Option.bind_some, if_pos rfl]
    exact ⟨_, rfl, hL.skip fun h q hst hq => by
      have := joins_one hne hj hst.jn
      subst this
      exact hq (hasI_iff.1 h1)⟩
  rw [if_neg h1, has_eq (by omega), Option.bind_some]
  by_cases h2 : hasI sl (i : Int) = true
  · rw [if_pos h2, Option.bind_some, if_pos rfl]
    exact ⟨_, rfl, hL.skip fun h q hst hq => by
      have := hst.sn
      rw [h2] at this
      exact absurd this (by decide)⟩
  rw [if_neg h2, has_eq (by omega), Option.bind_some, Option.bind_some]
  by_cases h3 : hasI pl nx = true
  · rw [if_pos h3]
    exact ⟨_, rfl, hL.skip fun h q hst hq => by
      have := joins_one hne hj hst.jn
      subst this
      have := hst.pn
      rw [h3] at this
      exact absurd this (by decide)⟩
  have hflo := hG.flo nx.toNat (by omega)
  have hnm : nx ∉ met := fun h => h1 (hasI_iff.2 h)
  rw [if_neg h3, appc_eq (by simp only [List.length_nil]; omega), Option.bind_some, List.nil_append, appc_eq (by simp only [List.length_singleton]; omega), Option.bind_some, ix_eq 0 (by omega) hnx.2, Option.bind_some]
  obtain ⟨v, hv, hok⟩ := hrec nx (max (max crest (s.sills.getD i default).h) (s.floors.getD nx.toNat 0)) ⟨by omega, hnx.2⟩ hnm (by omega)
  rw [hv, Option.bind_some]
  refine ⟨_, rfl, ?_, fun h k q hc hk hst hq hp => ?_⟩
  · rcases hok.snd with rfl | ⟨hvb, hvp⟩
    · rcases hL.snd with rfl | h4
      · left; omega
      · right
        rw [show min out 5000 = out by omega]
        exact h4
    · have hstep : Path s sl pl v to met a := by
        refine .step (k := i) (q := nx) ⟨hi, hj, by omega, ?_, ?_, by omega, by omega⟩ hnm hvp
        · cases h5 : hasI sl (i : Int) with
          | false => rfl
          | true => exact absurd h5 h2
        · cases h5 : hasI pl nx with
          | false => rfl
          | true => exact absurd h5 h3
      right
      rcases hL.snd with rfl | ⟨h4, h5⟩
      · rw [show min 5000 v = v by omega]
        exact ⟨⟨by omega, hvb.2⟩, hstep⟩
      · by_cases h6 : out ≤ v
        · rw [show min out v = out by omega]
          exact ⟨h4, h5⟩
        · rw [show min out v = v by omega]
          exact ⟨⟨by omega, hvb.2⟩, hstep⟩
  · by_cases he : k = i
    · subst he
      have := joins_one hne hj hst.jn
      subst this
      have h4 := hst.hh
      have h5 := hst.ff
      have := hok.cmp h (by omega) hp
      omega
    · have := hL.cmp h k q hc (by omega) hst hq hp
      omega
theorem least_step {s : Sands} (hG : Good s) {sl pl : List Int} (hsl : sl.length ≤ 1000) (hpl : pl.length ≤ 1000) {to : Int} {met : List Int} (hm : Met s met) {a crest out : Int} (hcr : 0 ≤ crest ∧ crest ≤ 999) {i : Nat} (hi : i < s.sills.length) (hL : LIn s sl pl to met a crest out i)
    {rec_ : Sands → Int → List Int → Int → Int → List Int → List Int → Option Int}
    (hrec : ∀ q c : Int, 0 ≤ q ∧ q < s.floors.length → q ∉ met → 0 ≤ c ∧ c ≤ 999 → ∃ v, rec_ s q (met ++ [q]) c to sl pl = some v ∧ LOK s sl pl to (met ++ [q]) q c v) :
    ∃ out', m_laurelref01_least_L0 s a met sl pl rec_ crest to ⟨out, (i : Int)⟩ = some (.inl ⟨out', ((i + 1 : Nat) : Int)⟩) ∧ LIn s sl pl to met a crest out' (i + 1) := by
  have hne := hG.ne i hi
  have hsll := hG.sl
  have hadd : addc (i : Int) 1 = some ((i + 1 : Nat) : Int) := by rw [addc_eq (by omega)]; exact congrArg some (by omega)
  unfold m_laurelref01_least_L0
  dsimp only
  rw [if_pos (by omega), ix_nat default hi, Option.bind_some]
  by_cases ha : (s.sills.getD i default).a = a
  · have hb : (s.sills.getD i default).b ≠ a := by omega
    obtain ⟨o, ho, hL'⟩ := least_tail hG hsl hpl hm hcr hi hL hrec (nx := (s.sills.getD i default).b) (.inl ⟨ha, rfl⟩)
    rw [if_pos ha, Option.bind_some, if_neg hb, Option.bind_some, ho, Option.bind_some, hadd, Option.bind_some]
    exact ⟨o, rfl, hL'⟩
  · rw [if_neg ha, Option.bind_some]
    by_cases hb : (s.sills.getD i default).b = a
    · obtain ⟨o, ho, hL'⟩ := least_tail hG hsl hpl hm hcr hi hL hrec (nx := (s.sills.getD i default).a) (.inr ⟨hb, rfl⟩)
      rw [if_pos hb, Option.bind_some, ho, Option.bind_some, hadd, Option.bind_some]
      exact ⟨o, rfl, hL'⟩
    · rw [if_neg hb, Option.bind_some, if_pos (by decide), Option.bind_some, if_pos rfl, Option.bind_some, hadd, Option.bind_some]
      exact ⟨_, rfl, hL.skip fun h q hst _ => hst.jn.elim (fun h1 => ha h1.1) (fun h1 => hb h1.1)⟩
theorem least_ok {s : Sands} (hG : Good s) {sl pl : List Int} (hsl : sl.length ≤ 1000) (hpl : pl.length ≤ 1000) {to : Int} : ∀ (d n : Nat), d < n → ∀ (a : Int) (met : List Int) (crest : Int), Met s met → s.floors.length - met.length ≤ d → 0 ≤ crest ∧ crest ≤ 999 →
    ∃ v, m_laurelref01_least n s a met crest to sl pl = some v ∧ LOK s sl pl to met a crest v
  | d, 0, h, _, _, _, _, _, _ => by omega
  | d, n + 1, hdn, a, met, crest, hm, hd, hcr => by
    have hrec : ∀ q c : Int, 0 ≤ q ∧ q < s.floors.length → q ∉ met → 0 ≤ c ∧ c ≤ 999 → ∃ v, m_laurelref01_least n s q (met ++ [q]) c to sl pl = some v ∧ LOK s sl pl to (met ++ [q]) q c v := fun q c hq hqm hc => by
      have h1 := hm.snoc hq hqm
      have h2 := h1.len
      simp only [List.length_append, List.length_singleton] at h2
      exact least_ok hG hsl hpl (d - 1) n (by omega) q (met ++ [q]) c h1 (by simp only [List.length_append, List.length_singleton]; omega) hc
    show ∃ v, m_laurelref01_least_B (m_laurelref01_least n) s a met crest to sl pl = some v ∧ _
    unfold m_laurelref01_least_B
    by_cases hat : a = to
    · rw [if_pos hat]
      subst hat
      exact ⟨_, rfl, .inr ⟨⟨Int.le_refl _, hcr.2⟩, .done⟩, fun h hc _ => hc⟩
    · rw [if_neg hat]
      obtain ⟨v, hv, hL⟩ := iterM_inv (f := m_laurelref01_least_L0 s a met sl pl (m_laurelref01_least n) crest to) (fun x => ∃ i : Nat, x.i16 = (i : Int) ∧ i ≤ s.sills.length ∧ LIn s sl pl to met a crest x.out15 i) (fun x => s.sills.length - x.i16.toNat) (fun v => LIn s sl pl to met a crest v s.sills.length)
        (fun x ⟨i, hi, hil, hL⟩ => by
          obtain ⟨out, i'⟩ := x
          simp only at hi hL
          subst hi
          by_cases hlt : i < s.sills.length
          · left
            obtain ⟨o, ho, hL'⟩ := least_step hG hsl hpl hm hcr hlt hL hrec
            exact ⟨_, ho, ⟨i + 1, rfl, by omega, hL'⟩, by simp only; omega⟩
          · right
            unfold m_laurelref01_least_L0
            dsimp only
            rw [if_neg (by omega)]
            have : i = s.sills.length := by omega
            subst this
            exact ⟨_, rfl, hL⟩) FU ⟨5000, 0⟩ (FU_lt (by have := hG.sl; simp only; omega)) ⟨0, rfl, by omega, .inl rfl, fun h k q _ hk => by omega⟩
      rw [hv, Option.bind_some]
      refine ⟨v, rfl, hL.snd, fun h hc hp => ?_⟩
      cases hp with
      | done => exact absurd rfl hat
      | step hst hq hp => exact hL.cmp h _ _ hc hst.kl hst hq hp
/-- the reference's least crest of all ways to a place -/
theorem least_spec {s : Sands} (hG : Good s) {sl pl : List Int} (hsl : sl.length ≤ 1000) (hpl : pl.length ≤ 1000) {p : Int} : ∃ v, m_laurelref01_least FU s (-1) [] 0 p sl pl = some v ∧ (v = 5000 ∨ ((0 ≤ v ∧ v ≤ 999) ∧ Rch s sl pl v p)) ∧ ∀ h, 0 ≤ h → Rch s sl pl h p → v ≤ h := by
  have hfl := hG.fl
  obtain ⟨v, hv, hok⟩ := least_ok hG hsl hpl (to := p) 8 FU (FU_lt (by omega)) (-1) [] 0 ⟨List.nodup_nil, fun x hx => by simp at hx⟩ (by simp; omega) (by omega)
  refine ⟨v, hv, ?_, fun h h0 hr => hok.cmp h h0 hr.path⟩
  rcases hok.snd with h | ⟨h1, h2⟩
  · exact .inl h
  · exact .inr ⟨h1, h2.rch .sea⟩
theorem rch_reach {s : Sands} {h p : Int} (r : Rch s [] [] h p) : Go.Pl.Reach s h p := by
  induction r with
  | sea => exact .sea
  | step _ hs ih => exact .step ih (mem_getD (d := (default : Sill)) hs.kl) hs.jn (by have := hs.qn; omega) hs.hh hs.ff
theorem reach_rch {s : Sands} (hG : Good s) {h p : Int} (r : Go.Pl.Reach s h p) : Rch s [] [] h p := by
  induction r with
  | sea => exact .sea
  | @step p q x hp hx hj hq h1 h2 ih =>
    obtain ⟨k, hk, rfl⟩ := List.mem_iff_getElem.1 hx
    have e : s.sills.getD k default = s.sills[k] := by simp [List.getD_eq_getElem?_getD, hk]
    have ha := hG.sa k hk
    have hb := hG.sb k hk
    rw [e] at ha hb
    exact .step ih (k := k) ⟨hk, by rw [e]; exact hj, by rcases hj with ⟨h3, h4⟩ | ⟨h3, h4⟩ <;> omega, rfl, rfl, by rw [e]; exact h1, h2⟩
/-- the reference's gate, by ours -/
def refGate (g : Int) : Int := if g = 1000 then 5000 else g
theorem refgate_eq {s : Sands} (hG : Good s) {p : Int} (hp : isPlace s p = true) : m_laurelref01_Gate s p = some (refGate ((gatesOf s).getD p.toNat 0)) := by
  have hpl := isPlace_iff.1 hp
  have hfl := hG.fl
  obtain ⟨v, hv, h1, h2⟩ := least_spec hG (sl := []) (pl := []) (by simp) (by simp) (p := p)
  unfold m_laurelref01_Gate
  rw [hv, Option.bind_some]
  congr 1
  have hgo := gates_ok (s := s)
  have k0 := hgo.lo p.toNat
  have k1 := hgo.hi p.toNat
  have e : ((p.toNat : Nat) : Int) = p := by omega
  unfold refGate
  by_cases hg : (gatesOf s).getD p.toNat 0 = 1000
  · rw [if_pos hg]
    rcases h1 with h1 | ⟨h1, h3⟩
    · exact h1
    · rcases gates_le hG h1.1 (rch_reach h3) with h4 | h4 <;> omega
  · rw [if_neg hg]
    have h5 := gates_snd hG p.toNat (by omega) (by omega)
    rw [e] at h5
    have h6 := h2 _ k0 (reach_rch hG h5)
    rcases h1 with h1 | ⟨h1, h3⟩
    · omega
    · rcases gates_le hG h1.1 (rch_reach h3) with h4 | h4
      · omega
      · have := h4.2; omega
end Go.Proofs.Wk

